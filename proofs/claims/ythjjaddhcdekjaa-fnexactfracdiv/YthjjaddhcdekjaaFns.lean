/-
  The functions that the program computes, as the abstract machine tells them. Printed by amp.py.
-/
import Derived.Test.YthjjaddhcdekjaaAmb
namespace Go.Proofs.YthjjaddhcdekjaaAm
open Go
noncomputable section
set_option linter.unusedVariables false
set_option linter.unusedSimpArgs false

/-- loop.example/pinfold/laws.szIntS -/
noncomputable def laws_szIntS.b {α : Type} (N : Nat) (a5 : List Int) (a6 : Int) (k0 : Int → Option α) : Option α :=
  let x7 := ((a5.length : Nat) : Int)
  let x8 := IntKind.i64.wrap (a6 - x7)
  let x9 := (decide (x8 < (0 : Int)))
  bif x9 then
    k0 (-1 : Int)
  else
    k0 x8
theorem laws_szIntS.ex : ∃ f : ((α : Type) → Nat → List Int → Int → (Int → Option α) → Option α), f = fun α => @laws_szIntS.b α := ⟨_, rfl⟩
noncomputable def laws_szIntS {α : Type} : Nat → List Int → Int → (Int → Option α) → Option α := Classical.choose laws_szIntS.ex α
theorem laws_szIntS.eq : @laws_szIntS = @laws_szIntS.b := funext fun α => congrFun (Classical.choose_spec laws_szIntS.ex) α

/-- loop.example/pinfold/laws.szFrac -/
noncomputable def laws_szFrac.b {α : Type} (N : Nat) (a3 : Bool × (List Int) × (List Int) × Unit) (a4 : Int) (k0 : Int → Option α) : Option α :=
  laws_szIntS N a3.2.1 a4
    (fun x10 =>
      let x11 := (decide (x10 < (0 : Int)))
      bif x11 then
        k0 (-1 : Int)
      else
        laws_szIntS N a3.2.2.1 x10
          (fun x12 =>
            let x13 := (decide (x12 < (0 : Int)))
            bif x13 then
              k0 (-1 : Int)
            else
              k0 x12))
theorem laws_szFrac.ex : ∃ f : ((α : Type) → Nat → (Bool × (List Int) × (List Int) × Unit) → Int → (Int → Option α) → Option α), f = fun α => @laws_szFrac.b α := ⟨_, rfl⟩
noncomputable def laws_szFrac {α : Type} : Nat → (Bool × (List Int) × (List Int) × Unit) → Int → (Int → Option α) → Option α := Classical.choose laws_szFrac.ex α
theorem laws_szFrac.eq : @laws_szFrac = @laws_szFrac.b := funext fun α => congrFun (Classical.choose_spec laws_szFrac.ex) α

noncomputable def laws_toIntS_L0r {α : Type} (N : Nat) (next : List Int → Int → List Int → Option α) (k0 : List Int → Option α) (v22 : List Int) (v23 : Int) (v24 : List Int) : Option α :=
  let x25 := ((v22.length : Nat) : Int)
  let x26 := decide (v23 < x25)
  bif x26 then
    bif (decide (v23 < (0 : Int))) then
      none
    else
      match v22[v23.toNat]? with
      | some x27 =>
        bif (decide (v23 < (0 : Int))) then
          none
        else
          bif decide (v23.toNat < v24.length) then
            match v24[v23.toNat]? with
            | some x28 =>
              let x29 := v24.set v23.toNat x27
              let x30 := (IntKind.i64.wrap (v23 + (1 : Int)))
              next v22 x30 x29
            | none => none
          else
            none
      | none => none
  else
    k0 v24
noncomputable def laws_toIntS_L0.b {α : Type} (N n : Nat) (v22 : List Int) (v23 : Int) (v24 : List Int) (k0 : List Int → Option α) : Option α :=
  Nat.rec (motive := fun _ => List Int → Int → List Int → Option α) (fun _ _ _ => none) (fun _ next => laws_toIntS_L0r N next k0) n v22 v23 v24
theorem laws_toIntS_L0.ex : ∃ f : ((α : Type) → Nat → Nat → List Int → Int → List Int → (List Int → Option α) → Option α), f = fun α => @laws_toIntS_L0.b α := ⟨_, rfl⟩
noncomputable def laws_toIntS_L0 {α : Type} : Nat → Nat → List Int → Int → List Int → (List Int → Option α) → Option α := Classical.choose laws_toIntS_L0.ex α
theorem laws_toIntS_L0.eq : @laws_toIntS_L0 = @laws_toIntS_L0.b := funext fun α => congrFun (Classical.choose_spec laws_toIntS_L0.ex) α
theorem laws_toIntS_L0.zero {α : Type} (N : Nat) (v22 : List Int) (v23 : Int) (v24 : List Int) (k0 : List Int → Option α) : laws_toIntS_L0 N 0 v22 v23 v24 k0 = none := by rw [laws_toIntS_L0.eq]; rfl
theorem laws_toIntS_L0.succ {α : Type} (N n : Nat) (v22 : List Int) (v23 : Int) (v24 : List Int) (k0 : List Int → Option α) : laws_toIntS_L0 N (n + 1) v22 v23 v24 k0 = laws_toIntS_L0r N (fun y0 y1 y2 => laws_toIntS_L0 N n y0 y1 y2 k0) k0 v22 v23 v24 := by rw [laws_toIntS_L0.eq]; rfl
/-- loop.example/pinfold/laws.toIntS -/
noncomputable def laws_toIntS.b {α : Type} (N : Nat) (a19 : List Int) (k0 : List Int → Option α) : Option α :=
  let x20 := ((a19.length : Nat) : Int)
  bif (decide ((0 : Int) ≤ x20)) then
    bif decide (x20 ≤ x20) then
      bif (decide (x20 ≤ ((8796093022208 : Nat) : Int))) then
        let x21 := (List.replicate x20.toNat (0 : Int))
        laws_toIntS_L0 N N a19 (0 : Int) x21
          (fun x31 =>
            k0 x31)
      else
        none
    else
      none
  else
    none
theorem laws_toIntS.ex : ∃ f : ((α : Type) → Nat → List Int → (List Int → Option α) → Option α), f = fun α => @laws_toIntS.b α := ⟨_, rfl⟩
noncomputable def laws_toIntS {α : Type} : Nat → List Int → (List Int → Option α) → Option α := Classical.choose laws_toIntS.ex α
theorem laws_toIntS.eq : @laws_toIntS = @laws_toIntS.b := funext fun α => congrFun (Classical.choose_spec laws_toIntS.ex) α

/-- loop.example/pinfold/laws.toFrac -/
noncomputable def laws_toFrac.b {α : Type} (N : Nat) (a18 : Bool × (List Int) × (List Int) × Unit) (k0 : Bool → List Int → List Int → Option α) : Option α :=
  laws_toIntS N a18.2.1
    (fun x32 =>
      laws_toIntS N a18.2.2.1
        (fun x33 =>
          k0 a18.1 x32 x33))
theorem laws_toFrac.ex : ∃ f : ((α : Type) → Nat → (Bool × (List Int) × (List Int) × Unit) → (Bool → List Int → List Int → Option α) → Option α), f = fun α => @laws_toFrac.b α := ⟨_, rfl⟩
noncomputable def laws_toFrac {α : Type} : Nat → (Bool × (List Int) × (List Int) × Unit) → (Bool → List Int → List Int → Option α) → Option α := Classical.choose laws_toFrac.ex α
theorem laws_toFrac.eq : @laws_toFrac = @laws_toFrac.b := funext fun α => congrFun (Classical.choose_spec laws_toFrac.ex) α

noncomputable def spec_NatOk_L0r {α : Type} (N : Nat) (next : List Int → Int → Option α) (k0 : Bool → Option α) (k1 : List Int → Option α) (v46 : List Int) (v47 : Int) : Option α :=
  let x48 := ((v46.length : Nat) : Int)
  let x49 := decide (v47 < x48)
  bif x49 then
    bif (decide (v47 < (0 : Int))) then
      none
    else
      match v46[v47.toNat]? with
      | some x50 =>
        let x51 := (decide (x50 < (0 : Int)))
        bif x51 then
          k0 false
        else
          bif (decide (v47 < (0 : Int))) then
            none
          else
            match v46[v47.toNat]? with
            | some x52 =>
              let x53 := (decide ((65536 : Int) ≤ x52))
              bif x53 then
                k0 false
              else
                let x54 := (IntKind.i64.wrap (v47 + (1 : Int)))
                next v46 x54
            | none => none
      | none => none
  else
    k1 v46
noncomputable def spec_NatOk_L0.b {α : Type} (N n : Nat) (v46 : List Int) (v47 : Int) (k0 : Bool → Option α) (k1 : List Int → Option α) : Option α :=
  Nat.rec (motive := fun _ => List Int → Int → Option α) (fun _ _ => none) (fun _ next => spec_NatOk_L0r N next k0 k1) n v46 v47
theorem spec_NatOk_L0.ex : ∃ f : ((α : Type) → Nat → Nat → List Int → Int → (Bool → Option α) → (List Int → Option α) → Option α), f = fun α => @spec_NatOk_L0.b α := ⟨_, rfl⟩
noncomputable def spec_NatOk_L0 {α : Type} : Nat → Nat → List Int → Int → (Bool → Option α) → (List Int → Option α) → Option α := Classical.choose spec_NatOk_L0.ex α
theorem spec_NatOk_L0.eq : @spec_NatOk_L0 = @spec_NatOk_L0.b := funext fun α => congrFun (Classical.choose_spec spec_NatOk_L0.ex) α
theorem spec_NatOk_L0.zero {α : Type} (N : Nat) (v46 : List Int) (v47 : Int) (k0 : Bool → Option α) (k1 : List Int → Option α) : spec_NatOk_L0 N 0 v46 v47 k0 k1 = none := by rw [spec_NatOk_L0.eq]; rfl
theorem spec_NatOk_L0.succ {α : Type} (N n : Nat) (v46 : List Int) (v47 : Int) (k0 : Bool → Option α) (k1 : List Int → Option α) : spec_NatOk_L0 N (n + 1) v46 v47 k0 k1 = spec_NatOk_L0r N (fun y0 y1 => spec_NatOk_L0 N n y0 y1 k0 k1) k0 k1 v46 v47 := by rw [spec_NatOk_L0.eq]; rfl
/-- loop.example/pinfold/spec.NatOk -/
noncomputable def spec_NatOk.b {α : Type} (N : Nat) (a43 : List Int) (k0 : Bool → Option α) : Option α :=
  let x44 := ((a43.length : Nat) : Int)
  let x45 := (decide ((256 : Int) < x44))
  bif x45 then
    k0 false
  else
    spec_NatOk_L0 N N a43 (0 : Int)
      (fun x55 =>
        k0 x55)
      (fun x56 =>
        let x57 := ((x56.length : Nat) : Int)
        let x58 := (decide (x57 = (0 : Int)))
        bif x58 then
          k0 true
        else
          let x59 := ((x56.length : Nat) : Int)
          let x60 := (IntKind.i64.wrap (x59 - (1 : Int)))
          bif (decide (x60 < (0 : Int))) then
            none
          else
            match x56[x60.toNat]? with
            | some x61 =>
              let x62 := (!(decide (x61 = (0 : Int))))
              k0 x62
            | none => none)
theorem spec_NatOk.ex : ∃ f : ((α : Type) → Nat → List Int → (Bool → Option α) → Option α), f = fun α => @spec_NatOk.b α := ⟨_, rfl⟩
noncomputable def spec_NatOk {α : Type} : Nat → List Int → (Bool → Option α) → Option α := Classical.choose spec_NatOk.ex α
theorem spec_NatOk.eq : @spec_NatOk = @spec_NatOk.b := funext fun α => congrFun (Classical.choose_spec spec_NatOk.ex) α

noncomputable def spec_l5Trim_L0r {α : Type} (N : Nat) (next : List Int → Int → Option α) (k0 : List Int → Int → Option α) (v75 : List Int) (v76 : Int) : Option α :=
  let x77 := (decide ((0 : Int) < v76))
  bif x77 then
    let x78 := (IntKind.i64.wrap (v76 - (1 : Int)))
    bif (decide (x78 < (0 : Int))) then
      none
    else
      match v75[x78.toNat]? with
      | some x79 =>
        let x80 := (decide (x79 = (0 : Int)))
        bif x80 then
          let x81 := (IntKind.i64.wrap (v76 - (1 : Int)))
          next v75 x81
        else
          k0 v75 v76
      | none => none
  else
    k0 v75 v76
noncomputable def spec_l5Trim_L0.b {α : Type} (N n : Nat) (v75 : List Int) (v76 : Int) (k0 : List Int → Int → Option α) : Option α :=
  Nat.rec (motive := fun _ => List Int → Int → Option α) (fun _ _ => none) (fun _ next => spec_l5Trim_L0r N next k0) n v75 v76
theorem spec_l5Trim_L0.ex : ∃ f : ((α : Type) → Nat → Nat → List Int → Int → (List Int → Int → Option α) → Option α), f = fun α => @spec_l5Trim_L0.b α := ⟨_, rfl⟩
noncomputable def spec_l5Trim_L0 {α : Type} : Nat → Nat → List Int → Int → (List Int → Int → Option α) → Option α := Classical.choose spec_l5Trim_L0.ex α
theorem spec_l5Trim_L0.eq : @spec_l5Trim_L0 = @spec_l5Trim_L0.b := funext fun α => congrFun (Classical.choose_spec spec_l5Trim_L0.ex) α
theorem spec_l5Trim_L0.zero {α : Type} (N : Nat) (v75 : List Int) (v76 : Int) (k0 : List Int → Int → Option α) : spec_l5Trim_L0 N 0 v75 v76 k0 = none := by rw [spec_l5Trim_L0.eq]; rfl
theorem spec_l5Trim_L0.succ {α : Type} (N n : Nat) (v75 : List Int) (v76 : Int) (k0 : List Int → Int → Option α) : spec_l5Trim_L0 N (n + 1) v75 v76 k0 = spec_l5Trim_L0r N (fun y0 y1 => spec_l5Trim_L0 N n y0 y1 k0) k0 v75 v76 := by rw [spec_l5Trim_L0.eq]; rfl
noncomputable def spec_l5Trim_L2r {α : Type} (N : Nat) (next : List Int → Int → Int → List Int → Option α) (k0 : List Int → Option α) (v84 : List Int) (v85 : Int) (v86 : Int) (v87 : List Int) : Option α :=
  let x88 := decide (v86 < v85)
  bif x88 then
    bif (decide (v86 < (0 : Int))) then
      none
    else
      match v84[v86.toNat]? with
      | some x89 =>
        let x90 := [x89]
        bif decide (v87.length + x90.length ≤ 8796093022208) then
          let x91 := v87 ++ x90
          let x92 := (IntKind.i64.wrap (v86 + (1 : Int)))
          next v84 v85 x92 x91
        else
          none
      | none => none
  else
    k0 v87
noncomputable def spec_l5Trim_L2.b {α : Type} (N n : Nat) (v84 : List Int) (v85 : Int) (v86 : Int) (v87 : List Int) (k0 : List Int → Option α) : Option α :=
  Nat.rec (motive := fun _ => List Int → Int → Int → List Int → Option α) (fun _ _ _ _ => none) (fun _ next => spec_l5Trim_L2r N next k0) n v84 v85 v86 v87
theorem spec_l5Trim_L2.ex : ∃ f : ((α : Type) → Nat → Nat → List Int → Int → Int → List Int → (List Int → Option α) → Option α), f = fun α => @spec_l5Trim_L2.b α := ⟨_, rfl⟩
noncomputable def spec_l5Trim_L2 {α : Type} : Nat → Nat → List Int → Int → Int → List Int → (List Int → Option α) → Option α := Classical.choose spec_l5Trim_L2.ex α
theorem spec_l5Trim_L2.eq : @spec_l5Trim_L2 = @spec_l5Trim_L2.b := funext fun α => congrFun (Classical.choose_spec spec_l5Trim_L2.ex) α
theorem spec_l5Trim_L2.zero {α : Type} (N : Nat) (v84 : List Int) (v85 : Int) (v86 : Int) (v87 : List Int) (k0 : List Int → Option α) : spec_l5Trim_L2 N 0 v84 v85 v86 v87 k0 = none := by rw [spec_l5Trim_L2.eq]; rfl
theorem spec_l5Trim_L2.succ {α : Type} (N n : Nat) (v84 : List Int) (v85 : Int) (v86 : Int) (v87 : List Int) (k0 : List Int → Option α) : spec_l5Trim_L2 N (n + 1) v84 v85 v86 v87 k0 = spec_l5Trim_L2r N (fun y0 y1 y2 y3 => spec_l5Trim_L2 N n y0 y1 y2 y3 k0) k0 v84 v85 v86 v87 := by rw [spec_l5Trim_L2.eq]; rfl
/-- loop.example/pinfold/spec.l5Trim -/
noncomputable def spec_l5Trim.b {α : Type} (N : Nat) (a73 : List Int) (k0 : List Int → Option α) : Option α :=
  let x74 := ((a73.length : Nat) : Int)
  spec_l5Trim_L0 N N a73 x74
    (fun x82 x83 =>
      spec_l5Trim_L2 N N x82 x83 (0 : Int) []
        (fun x93 =>
          k0 x93))
theorem spec_l5Trim.ex : ∃ f : ((α : Type) → Nat → List Int → (List Int → Option α) → Option α), f = fun α => @spec_l5Trim.b α := ⟨_, rfl⟩
noncomputable def spec_l5Trim {α : Type} : Nat → List Int → (List Int → Option α) → Option α := Classical.choose spec_l5Trim.ex α
theorem spec_l5Trim.eq : @spec_l5Trim = @spec_l5Trim.b := funext fun α => congrFun (Classical.choose_spec spec_l5Trim.ex) α

noncomputable def spec_l5Cmp_L0r {α : Type} (N : Nat) (next : List Int → List Int → Int → Option α) (k0 : Int → Option α) (k1 : Option α) (v112 : List Int) (v113 : List Int) (v114 : Int) : Option α :=
  let x115 := (decide ((0 : Int) ≤ v114))
  bif x115 then
    bif (decide (v114 < (0 : Int))) then
      none
    else
      match v112[v114.toNat]? with
      | some x116 =>
        bif (decide (v114 < (0 : Int))) then
          none
        else
          match v113[v114.toNat]? with
          | some x117 =>
            let x118 := decide (x116 < x117)
            bif x118 then
              k0 (-1 : Int)
            else
              bif (decide (v114 < (0 : Int))) then
                none
              else
                match v112[v114.toNat]? with
                | some x119 =>
                  bif (decide (v114 < (0 : Int))) then
                    none
                  else
                    match v113[v114.toNat]? with
                    | some x120 =>
                      let x121 := decide (x120 < x119)
                      bif x121 then
                        k0 (1 : Int)
                      else
                        let x122 := (IntKind.i64.wrap (v114 - (1 : Int)))
                        next v112 v113 x122
                    | none => none
                | none => none
          | none => none
      | none => none
  else
    k1
noncomputable def spec_l5Cmp_L0.b {α : Type} (N n : Nat) (v112 : List Int) (v113 : List Int) (v114 : Int) (k0 : Int → Option α) (k1 : Option α) : Option α :=
  Nat.rec (motive := fun _ => List Int → List Int → Int → Option α) (fun _ _ _ => none) (fun _ next => spec_l5Cmp_L0r N next k0 k1) n v112 v113 v114
theorem spec_l5Cmp_L0.ex : ∃ f : ((α : Type) → Nat → Nat → List Int → List Int → Int → (Int → Option α) → (Option α) → Option α), f = fun α => @spec_l5Cmp_L0.b α := ⟨_, rfl⟩
noncomputable def spec_l5Cmp_L0 {α : Type} : Nat → Nat → List Int → List Int → Int → (Int → Option α) → (Option α) → Option α := Classical.choose spec_l5Cmp_L0.ex α
theorem spec_l5Cmp_L0.eq : @spec_l5Cmp_L0 = @spec_l5Cmp_L0.b := funext fun α => congrFun (Classical.choose_spec spec_l5Cmp_L0.ex) α
theorem spec_l5Cmp_L0.zero {α : Type} (N : Nat) (v112 : List Int) (v113 : List Int) (v114 : Int) (k0 : Int → Option α) (k1 : Option α) : spec_l5Cmp_L0 N 0 v112 v113 v114 k0 k1 = none := by rw [spec_l5Cmp_L0.eq]; rfl
theorem spec_l5Cmp_L0.succ {α : Type} (N n : Nat) (v112 : List Int) (v113 : List Int) (v114 : Int) (k0 : Int → Option α) (k1 : Option α) : spec_l5Cmp_L0 N (n + 1) v112 v113 v114 k0 k1 = spec_l5Cmp_L0r N (fun y0 y1 y2 => spec_l5Cmp_L0 N n y0 y1 y2 k0 k1) k0 k1 v112 v113 v114 := by rw [spec_l5Cmp_L0.eq]; rfl
/-- loop.example/pinfold/spec.l5Cmp -/
noncomputable def spec_l5Cmp.b {α : Type} (N : Nat) (a102 : List Int) (a103 : List Int) (k0 : Int → Option α) : Option α :=
  let x104 := ((a102.length : Nat) : Int)
  let x105 := ((a103.length : Nat) : Int)
  let x106 := decide (x104 < x105)
  bif x106 then
    k0 (-1 : Int)
  else
    let x107 := ((a102.length : Nat) : Int)
    let x108 := ((a103.length : Nat) : Int)
    let x109 := decide (x108 < x107)
    bif x109 then
      k0 (1 : Int)
    else
      let x110 := ((a102.length : Nat) : Int)
      let x111 := (IntKind.i64.wrap (x110 - (1 : Int)))
      spec_l5Cmp_L0 N N a102 a103 x111
        (fun x123 =>
          k0 x123)
        (
          k0 (0 : Int))
theorem spec_l5Cmp.ex : ∃ f : ((α : Type) → Nat → List Int → List Int → (Int → Option α) → Option α), f = fun α => @spec_l5Cmp.b α := ⟨_, rfl⟩
noncomputable def spec_l5Cmp {α : Type} : Nat → List Int → List Int → (Int → Option α) → Option α := Classical.choose spec_l5Cmp.ex α
theorem spec_l5Cmp.eq : @spec_l5Cmp = @spec_l5Cmp.b := funext fun α => congrFun (Classical.choose_spec spec_l5Cmp.ex) α

noncomputable def spec_l5DivSmall_L0r {α : Type} (N : Nat) (next : List Int → Int → Int → Int → List Int → Option α) (k0 : Int → List Int → Option α) (v136 : List Int) (v137 : Int) (v138 : Int) (v139 : Int) (v140 : List Int) : Option α :=
  let x141 := (decide ((0 : Int) ≤ v139))
  bif x141 then
    let x142 := (IntKind.i64.wrap (v138 * (65536 : Int)))
    bif (decide (v139 < (0 : Int))) then
      none
    else
      match v136[v139.toNat]? with
      | some x143 =>
        let x144 := IntKind.i64.wrap (x142 + x143)
        bif (decide (v137 = (0 : Int))) then
          none
        else
          let x145 := IntKind.i64.wrap (Int.tdiv x144 v137)
          bif (decide (v139 < (0 : Int))) then
            none
          else
            bif decide (v139.toNat < v140.length) then
              match v140[v139.toNat]? with
              | some x146 =>
                let x147 := v140.set v139.toNat x145
                bif (decide (v137 = (0 : Int))) then
                  none
                else
                  let x148 := Int.tmod x144 v137
                  let x149 := (IntKind.i64.wrap (v139 - (1 : Int)))
                  next v136 v137 x148 x149 x147
              | none => none
            else
              none
      | none => none
  else
    k0 v138 v140
noncomputable def spec_l5DivSmall_L0.b {α : Type} (N n : Nat) (v136 : List Int) (v137 : Int) (v138 : Int) (v139 : Int) (v140 : List Int) (k0 : Int → List Int → Option α) : Option α :=
  Nat.rec (motive := fun _ => List Int → Int → Int → Int → List Int → Option α) (fun _ _ _ _ _ => none) (fun _ next => spec_l5DivSmall_L0r N next k0) n v136 v137 v138 v139 v140
theorem spec_l5DivSmall_L0.ex : ∃ f : ((α : Type) → Nat → Nat → List Int → Int → Int → Int → List Int → (Int → List Int → Option α) → Option α), f = fun α => @spec_l5DivSmall_L0.b α := ⟨_, rfl⟩
noncomputable def spec_l5DivSmall_L0 {α : Type} : Nat → Nat → List Int → Int → Int → Int → List Int → (Int → List Int → Option α) → Option α := Classical.choose spec_l5DivSmall_L0.ex α
theorem spec_l5DivSmall_L0.eq : @spec_l5DivSmall_L0 = @spec_l5DivSmall_L0.b := funext fun α => congrFun (Classical.choose_spec spec_l5DivSmall_L0.ex) α
theorem spec_l5DivSmall_L0.zero {α : Type} (N : Nat) (v136 : List Int) (v137 : Int) (v138 : Int) (v139 : Int) (v140 : List Int) (k0 : Int → List Int → Option α) : spec_l5DivSmall_L0 N 0 v136 v137 v138 v139 v140 k0 = none := by rw [spec_l5DivSmall_L0.eq]; rfl
theorem spec_l5DivSmall_L0.succ {α : Type} (N n : Nat) (v136 : List Int) (v137 : Int) (v138 : Int) (v139 : Int) (v140 : List Int) (k0 : Int → List Int → Option α) : spec_l5DivSmall_L0 N (n + 1) v136 v137 v138 v139 v140 k0 = spec_l5DivSmall_L0r N (fun y0 y1 y2 y3 y4 => spec_l5DivSmall_L0 N n y0 y1 y2 y3 y4 k0) k0 v136 v137 v138 v139 v140 := by rw [spec_l5DivSmall_L0.eq]; rfl
/-- loop.example/pinfold/spec.l5DivSmall -/
noncomputable def spec_l5DivSmall.b {α : Type} (N : Nat) (a130 : List Int) (a131 : Int) (k0 : Int → List Int → Option α) : Option α :=
  let x132 := ((a130.length : Nat) : Int)
  bif (decide ((0 : Int) ≤ x132)) then
    bif decide (x132 ≤ x132) then
      bif (decide (x132 ≤ ((8796093022208 : Nat) : Int))) then
        let x133 := (List.replicate x132.toNat (0 : Int))
        let x134 := ((a130.length : Nat) : Int)
        let x135 := (IntKind.i64.wrap (x134 - (1 : Int)))
        spec_l5DivSmall_L0 N N a130 a131 (0 : Int) x135 x133
          (fun x150 x151 =>
            spec_l5Trim N x151
              (fun x152 =>
                k0 x150 x152))
      else
        none
    else
      none
  else
    none
theorem spec_l5DivSmall.ex : ∃ f : ((α : Type) → Nat → List Int → Int → (Int → List Int → Option α) → Option α), f = fun α => @spec_l5DivSmall.b α := ⟨_, rfl⟩
noncomputable def spec_l5DivSmall {α : Type} : Nat → List Int → Int → (Int → List Int → Option α) → Option α := Classical.choose spec_l5DivSmall.ex α
theorem spec_l5DivSmall.eq : @spec_l5DivSmall = @spec_l5DivSmall.b := funext fun α => congrFun (Classical.choose_spec spec_l5DivSmall.ex) α

noncomputable def spec_NatOf_L0r {α : Type} (N : Nat) (next : Int → List Int → Option α) (k0 : List Int → Option α) (v157 : Int) (v158 : List Int) : Option α :=
  let x159 := (decide ((0 : Int) < v157))
  bif x159 then
    let x160 := (Int.tmod v157 (65536 : Int))
    let x161 := IntKind.i64.wrap x160
    let x162 := [x161]
    bif decide (v158.length + x162.length ≤ 8796093022208) then
      let x163 := v158 ++ x162
      let x164 := (IntKind.u64.wrap (Int.tdiv v157 (65536 : Int)))
      next x164 x163
    else
      none
  else
    k0 v158
noncomputable def spec_NatOf_L0.b {α : Type} (N n : Nat) (v157 : Int) (v158 : List Int) (k0 : List Int → Option α) : Option α :=
  Nat.rec (motive := fun _ => Int → List Int → Option α) (fun _ _ => none) (fun _ next => spec_NatOf_L0r N next k0) n v157 v158
theorem spec_NatOf_L0.ex : ∃ f : ((α : Type) → Nat → Nat → Int → List Int → (List Int → Option α) → Option α), f = fun α => @spec_NatOf_L0.b α := ⟨_, rfl⟩
noncomputable def spec_NatOf_L0 {α : Type} : Nat → Nat → Int → List Int → (List Int → Option α) → Option α := Classical.choose spec_NatOf_L0.ex α
theorem spec_NatOf_L0.eq : @spec_NatOf_L0 = @spec_NatOf_L0.b := funext fun α => congrFun (Classical.choose_spec spec_NatOf_L0.ex) α
theorem spec_NatOf_L0.zero {α : Type} (N : Nat) (v157 : Int) (v158 : List Int) (k0 : List Int → Option α) : spec_NatOf_L0 N 0 v157 v158 k0 = none := by rw [spec_NatOf_L0.eq]; rfl
theorem spec_NatOf_L0.succ {α : Type} (N n : Nat) (v157 : Int) (v158 : List Int) (k0 : List Int → Option α) : spec_NatOf_L0 N (n + 1) v157 v158 k0 = spec_NatOf_L0r N (fun y0 y1 => spec_NatOf_L0 N n y0 y1 k0) k0 v157 v158 := by rw [spec_NatOf_L0.eq]; rfl
/-- loop.example/pinfold/spec.NatOf -/
noncomputable def spec_NatOf.b {α : Type} (N : Nat) (a156 : Int) (k0 : List Int → Option α) : Option α :=
  spec_NatOf_L0 N N a156 []
    (fun x165 =>
      k0 x165)
theorem spec_NatOf.ex : ∃ f : ((α : Type) → Nat → Int → (List Int → Option α) → Option α), f = fun α => @spec_NatOf.b α := ⟨_, rfl⟩
noncomputable def spec_NatOf {α : Type} : Nat → Int → (List Int → Option α) → Option α := Classical.choose spec_NatOf.ex α
theorem spec_NatOf.eq : @spec_NatOf = @spec_NatOf.b := funext fun α => congrFun (Classical.choose_spec spec_NatOf.ex) α

noncomputable def spec_l5Mul_L2r {α : Type} (N : Nat) (next : List Int → List Int → Int → Int → Int → List Int → Option α) (k0 : List Int → List Int → Int → Int → List Int → Option α) (v188 : List Int) (v189 : List Int) (v190 : Int) (v191 : Int) (v192 : Int) (v193 : List Int) : Option α :=
  let x194 := ((v189.length : Nat) : Int)
  let x195 := decide (v192 < x194)
  bif x195 then
    let x196 := IntKind.i64.wrap (v190 + v192)
    bif (decide (x196 < (0 : Int))) then
      none
    else
      bif decide (x196.toNat < v193.length) then
        match v193[x196.toNat]? with
        | some x197 =>
          bif (decide (v190 < (0 : Int))) then
            none
          else
            match v188[v190.toNat]? with
            | some x198 =>
              bif (decide (v192 < (0 : Int))) then
                none
              else
                match v189[v192.toNat]? with
                | some x199 =>
                  let x200 := IntKind.i64.wrap (x198 * x199)
                  let x201 := IntKind.i64.wrap (x197 + x200)
                  let x202 := IntKind.i64.wrap (x201 + v191)
                  let x203 := IntKind.i64.wrap (v190 + v192)
                  let x204 := (Int.tmod x202 (65536 : Int))
                  bif (decide (x203 < (0 : Int))) then
                    none
                  else
                    bif decide (x203.toNat < v193.length) then
                      match v193[x203.toNat]? with
                      | some x205 =>
                        let x206 := v193.set x203.toNat x204
                        let x207 := (IntKind.i64.wrap (Int.tdiv x202 (65536 : Int)))
                        let x208 := (IntKind.i64.wrap (v192 + (1 : Int)))
                        next v188 v189 v190 x207 x208 x206
                      | none => none
                    else
                      none
                | none => none
            | none => none
        | none => none
      else
        none
  else
    k0 v188 v189 v190 v191 v193
noncomputable def spec_l5Mul_L2.b {α : Type} (N n : Nat) (v188 : List Int) (v189 : List Int) (v190 : Int) (v191 : Int) (v192 : Int) (v193 : List Int) (k0 : List Int → List Int → Int → Int → List Int → Option α) : Option α :=
  Nat.rec (motive := fun _ => List Int → List Int → Int → Int → Int → List Int → Option α) (fun _ _ _ _ _ _ => none) (fun _ next => spec_l5Mul_L2r N next k0) n v188 v189 v190 v191 v192 v193
theorem spec_l5Mul_L2.ex : ∃ f : ((α : Type) → Nat → Nat → List Int → List Int → Int → Int → Int → List Int → (List Int → List Int → Int → Int → List Int → Option α) → Option α), f = fun α => @spec_l5Mul_L2.b α := ⟨_, rfl⟩
noncomputable def spec_l5Mul_L2 {α : Type} : Nat → Nat → List Int → List Int → Int → Int → Int → List Int → (List Int → List Int → Int → Int → List Int → Option α) → Option α := Classical.choose spec_l5Mul_L2.ex α
theorem spec_l5Mul_L2.eq : @spec_l5Mul_L2 = @spec_l5Mul_L2.b := funext fun α => congrFun (Classical.choose_spec spec_l5Mul_L2.ex) α
theorem spec_l5Mul_L2.zero {α : Type} (N : Nat) (v188 : List Int) (v189 : List Int) (v190 : Int) (v191 : Int) (v192 : Int) (v193 : List Int) (k0 : List Int → List Int → Int → Int → List Int → Option α) : spec_l5Mul_L2 N 0 v188 v189 v190 v191 v192 v193 k0 = none := by rw [spec_l5Mul_L2.eq]; rfl
theorem spec_l5Mul_L2.succ {α : Type} (N n : Nat) (v188 : List Int) (v189 : List Int) (v190 : Int) (v191 : Int) (v192 : Int) (v193 : List Int) (k0 : List Int → List Int → Int → Int → List Int → Option α) : spec_l5Mul_L2 N (n + 1) v188 v189 v190 v191 v192 v193 k0 = spec_l5Mul_L2r N (fun y0 y1 y2 y3 y4 y5 => spec_l5Mul_L2 N n y0 y1 y2 y3 y4 y5 k0) k0 v188 v189 v190 v191 v192 v193 := by rw [spec_l5Mul_L2.eq]; rfl
noncomputable def spec_l5Mul_L0r {α : Type} (N : Nat) (next : List Int → List Int → Int → List Int → Option α) (k0 : List Int → Option α) (v182 : List Int) (v183 : List Int) (v184 : Int) (v185 : List Int) : Option α :=
  let x186 := ((v182.length : Nat) : Int)
  let x187 := decide (v184 < x186)
  bif x187 then
    spec_l5Mul_L2 N N v182 v183 v184 (0 : Int) (0 : Int) v185
      (fun x209 x210 x211 x212 x213 =>
        let x214 := ((x210.length : Nat) : Int)
        let x215 := IntKind.i64.wrap (x211 + x214)
        bif (decide (x215 < (0 : Int))) then
          none
        else
          bif decide (x215.toNat < x213.length) then
            match x213[x215.toNat]? with
            | some x216 =>
              let x217 := x213.set x215.toNat x212
              let x218 := (IntKind.i64.wrap (x211 + (1 : Int)))
              next x209 x210 x218 x217
            | none => none
          else
            none)
  else
    k0 v185
noncomputable def spec_l5Mul_L0.b {α : Type} (N n : Nat) (v182 : List Int) (v183 : List Int) (v184 : Int) (v185 : List Int) (k0 : List Int → Option α) : Option α :=
  Nat.rec (motive := fun _ => List Int → List Int → Int → List Int → Option α) (fun _ _ _ _ => none) (fun _ next => spec_l5Mul_L0r N next k0) n v182 v183 v184 v185
theorem spec_l5Mul_L0.ex : ∃ f : ((α : Type) → Nat → Nat → List Int → List Int → Int → List Int → (List Int → Option α) → Option α), f = fun α => @spec_l5Mul_L0.b α := ⟨_, rfl⟩
noncomputable def spec_l5Mul_L0 {α : Type} : Nat → Nat → List Int → List Int → Int → List Int → (List Int → Option α) → Option α := Classical.choose spec_l5Mul_L0.ex α
theorem spec_l5Mul_L0.eq : @spec_l5Mul_L0 = @spec_l5Mul_L0.b := funext fun α => congrFun (Classical.choose_spec spec_l5Mul_L0.ex) α
theorem spec_l5Mul_L0.zero {α : Type} (N : Nat) (v182 : List Int) (v183 : List Int) (v184 : Int) (v185 : List Int) (k0 : List Int → Option α) : spec_l5Mul_L0 N 0 v182 v183 v184 v185 k0 = none := by rw [spec_l5Mul_L0.eq]; rfl
theorem spec_l5Mul_L0.succ {α : Type} (N n : Nat) (v182 : List Int) (v183 : List Int) (v184 : Int) (v185 : List Int) (k0 : List Int → Option α) : spec_l5Mul_L0 N (n + 1) v182 v183 v184 v185 k0 = spec_l5Mul_L0r N (fun y0 y1 y2 y3 => spec_l5Mul_L0 N n y0 y1 y2 y3 k0) k0 v182 v183 v184 v185 := by rw [spec_l5Mul_L0.eq]; rfl
/-- loop.example/pinfold/spec.l5Mul -/
noncomputable def spec_l5Mul.b {α : Type} (N : Nat) (a176 : List Int) (a177 : List Int) (k0 : List Int → Option α) : Option α :=
  let x178 := ((a176.length : Nat) : Int)
  let x179 := ((a177.length : Nat) : Int)
  let x180 := IntKind.i64.wrap (x178 + x179)
  bif (decide ((0 : Int) ≤ x180)) then
    bif decide (x180 ≤ x180) then
      bif (decide (x180 ≤ ((8796093022208 : Nat) : Int))) then
        let x181 := (List.replicate x180.toNat (0 : Int))
        spec_l5Mul_L0 N N a176 a177 (0 : Int) x181
          (fun x219 =>
            spec_l5Trim N x219
              (fun x220 =>
                k0 x220))
      else
        none
    else
      none
  else
    none
theorem spec_l5Mul.ex : ∃ f : ((α : Type) → Nat → List Int → List Int → (List Int → Option α) → Option α), f = fun α => @spec_l5Mul.b α := ⟨_, rfl⟩
noncomputable def spec_l5Mul {α : Type} : Nat → List Int → List Int → (List Int → Option α) → Option α := Classical.choose spec_l5Mul.ex α
theorem spec_l5Mul.eq : @spec_l5Mul = @spec_l5Mul.b := funext fun α => congrFun (Classical.choose_spec spec_l5Mul.ex) α

/-- loop.example/pinfold/spec.l5Times -/
noncomputable def spec_l5Times.b {α : Type} (N : Nat) (a172 : List Int) (a173 : Int) (k0 : List Int → Option α) : Option α :=
  let x174 := (decide (a173 = (0 : Int)))
  bif x174 then
    k0 []
  else
    let x175 := [a173]
    spec_l5Mul N a172 x175
      (fun x221 =>
        k0 x221)
theorem spec_l5Times.ex : ∃ f : ((α : Type) → Nat → List Int → Int → (List Int → Option α) → Option α), f = fun α => @spec_l5Times.b α := ⟨_, rfl⟩
noncomputable def spec_l5Times {α : Type} : Nat → List Int → Int → (List Int → Option α) → Option α := Classical.choose spec_l5Times.ex α
theorem spec_l5Times.eq : @spec_l5Times = @spec_l5Times.b := funext fun α => congrFun (Classical.choose_spec spec_l5Times.ex) α

noncomputable def spec_l5Top_L0r {α : Type} (N : Nat) (next : List Int → Int → List Int → Option α) (k0 : List Int → Option α) (v234 : List Int) (v235 : Int) (v236 : List Int) : Option α :=
  let x237 := ((v234.length : Nat) : Int)
  let x238 := decide (v235 < x237)
  bif x238 then
    bif (decide (v235 < (0 : Int))) then
      none
    else
      match v234[v235.toNat]? with
      | some x239 =>
        let x240 := [x239]
        bif decide (v236.length + x240.length ≤ 8796093022208) then
          let x241 := v236 ++ x240
          let x242 := (IntKind.i64.wrap (v235 + (1 : Int)))
          next v234 x242 x241
        else
          none
      | none => none
  else
    k0 v236
noncomputable def spec_l5Top_L0.b {α : Type} (N n : Nat) (v234 : List Int) (v235 : Int) (v236 : List Int) (k0 : List Int → Option α) : Option α :=
  Nat.rec (motive := fun _ => List Int → Int → List Int → Option α) (fun _ _ _ => none) (fun _ next => spec_l5Top_L0r N next k0) n v234 v235 v236
theorem spec_l5Top_L0.ex : ∃ f : ((α : Type) → Nat → Nat → List Int → Int → List Int → (List Int → Option α) → Option α), f = fun α => @spec_l5Top_L0.b α := ⟨_, rfl⟩
noncomputable def spec_l5Top_L0 {α : Type} : Nat → Nat → List Int → Int → List Int → (List Int → Option α) → Option α := Classical.choose spec_l5Top_L0.ex α
theorem spec_l5Top_L0.eq : @spec_l5Top_L0 = @spec_l5Top_L0.b := funext fun α => congrFun (Classical.choose_spec spec_l5Top_L0.ex) α
theorem spec_l5Top_L0.zero {α : Type} (N : Nat) (v234 : List Int) (v235 : Int) (v236 : List Int) (k0 : List Int → Option α) : spec_l5Top_L0 N 0 v234 v235 v236 k0 = none := by rw [spec_l5Top_L0.eq]; rfl
theorem spec_l5Top_L0.succ {α : Type} (N n : Nat) (v234 : List Int) (v235 : Int) (v236 : List Int) (k0 : List Int → Option α) : spec_l5Top_L0 N (n + 1) v234 v235 v236 k0 = spec_l5Top_L0r N (fun y0 y1 y2 => spec_l5Top_L0 N n y0 y1 y2 k0) k0 v234 v235 v236 := by rw [spec_l5Top_L0.eq]; rfl
/-- loop.example/pinfold/spec.l5Top -/
noncomputable def spec_l5Top.b {α : Type} (N : Nat) (a232 : List Int) (a233 : Int) (k0 : List Int → Option α) : Option α :=
  spec_l5Top_L0 N N a232 a233 []
    (fun x243 =>
      k0 x243)
theorem spec_l5Top.ex : ∃ f : ((α : Type) → Nat → List Int → Int → (List Int → Option α) → Option α), f = fun α => @spec_l5Top.b α := ⟨_, rfl⟩
noncomputable def spec_l5Top {α : Type} : Nat → List Int → Int → (List Int → Option α) → Option α := Classical.choose spec_l5Top.ex α
theorem spec_l5Top.eq : @spec_l5Top = @spec_l5Top.b := funext fun α => congrFun (Classical.choose_spec spec_l5Top.ex) α

noncomputable def spec_l5Shl_L0r {α : Type} (N : Nat) (next : List Int → Int → List Int → Option α) (k0 : List Int → Option α) (v260 : List Int) (v261 : Int) (v262 : List Int) : Option α :=
  let x263 := ((v260.length : Nat) : Int)
  let x264 := decide (v261 < x263)
  bif x264 then
    bif (decide (v261 < (0 : Int))) then
      none
    else
      match v260[v261.toNat]? with
      | some x265 =>
        let x266 := [x265]
        bif decide (v262.length + x266.length ≤ 8796093022208) then
          let x267 := v262 ++ x266
          let x268 := (IntKind.i64.wrap (v261 + (1 : Int)))
          next v260 x268 x267
        else
          none
      | none => none
  else
    k0 v262
noncomputable def spec_l5Shl_L0.b {α : Type} (N n : Nat) (v260 : List Int) (v261 : Int) (v262 : List Int) (k0 : List Int → Option α) : Option α :=
  Nat.rec (motive := fun _ => List Int → Int → List Int → Option α) (fun _ _ _ => none) (fun _ next => spec_l5Shl_L0r N next k0) n v260 v261 v262
theorem spec_l5Shl_L0.ex : ∃ f : ((α : Type) → Nat → Nat → List Int → Int → List Int → (List Int → Option α) → Option α), f = fun α => @spec_l5Shl_L0.b α := ⟨_, rfl⟩
noncomputable def spec_l5Shl_L0 {α : Type} : Nat → Nat → List Int → Int → List Int → (List Int → Option α) → Option α := Classical.choose spec_l5Shl_L0.ex α
theorem spec_l5Shl_L0.eq : @spec_l5Shl_L0 = @spec_l5Shl_L0.b := funext fun α => congrFun (Classical.choose_spec spec_l5Shl_L0.ex) α
theorem spec_l5Shl_L0.zero {α : Type} (N : Nat) (v260 : List Int) (v261 : Int) (v262 : List Int) (k0 : List Int → Option α) : spec_l5Shl_L0 N 0 v260 v261 v262 k0 = none := by rw [spec_l5Shl_L0.eq]; rfl
theorem spec_l5Shl_L0.succ {α : Type} (N n : Nat) (v260 : List Int) (v261 : Int) (v262 : List Int) (k0 : List Int → Option α) : spec_l5Shl_L0 N (n + 1) v260 v261 v262 k0 = spec_l5Shl_L0r N (fun y0 y1 y2 => spec_l5Shl_L0 N n y0 y1 y2 k0) k0 v260 v261 v262 := by rw [spec_l5Shl_L0.eq]; rfl
/-- loop.example/pinfold/spec.l5Shl -/
noncomputable def spec_l5Shl.b {α : Type} (N : Nat) (a255 : List Int) (a256 : Int) (k0 : List Int → Option α) : Option α :=
  let x257 := ((a255.length : Nat) : Int)
  let x258 := (decide (x257 = (0 : Int)))
  bif x258 then
    k0 []
  else
    bif (decide ((0 : Int) ≤ a256)) then
      bif decide (a256 ≤ a256) then
        bif (decide (a256 ≤ ((8796093022208 : Nat) : Int))) then
          let x259 := (List.replicate a256.toNat (0 : Int))
          spec_l5Shl_L0 N N a255 (0 : Int) x259
            (fun x269 =>
              k0 x269)
        else
          none
      else
        none
    else
      none
theorem spec_l5Shl.ex : ∃ f : ((α : Type) → Nat → List Int → Int → (List Int → Option α) → Option α), f = fun α => @spec_l5Shl.b α := ⟨_, rfl⟩
noncomputable def spec_l5Shl {α : Type} : Nat → List Int → Int → (List Int → Option α) → Option α := Classical.choose spec_l5Shl.ex α
theorem spec_l5Shl.eq : @spec_l5Shl = @spec_l5Shl.b := funext fun α => congrFun (Classical.choose_spec spec_l5Shl.ex) α

/-- loop.example/pinfold/spec.l5At -/
noncomputable def spec_l5At.b {α : Type} (N : Nat) (a293 : List Int) (a294 : Int) (k0 : Int → Option α) : Option α :=
  let x295 := ((a293.length : Nat) : Int)
  let x296 := decide (a294 < x295)
  bif x296 then
    bif (decide (a294 < (0 : Int))) then
      none
    else
      match a293[a294.toNat]? with
      | some x297 =>
        k0 x297
      | none => none
  else
    k0 (0 : Int)
theorem spec_l5At.ex : ∃ f : ((α : Type) → Nat → List Int → Int → (Int → Option α) → Option α), f = fun α => @spec_l5At.b α := ⟨_, rfl⟩
noncomputable def spec_l5At {α : Type} : Nat → List Int → Int → (Int → Option α) → Option α := Classical.choose spec_l5At.ex α
theorem spec_l5At.eq : @spec_l5At = @spec_l5At.b := funext fun α => congrFun (Classical.choose_spec spec_l5At.ex) α

noncomputable def spec_l5Add_J2.b {α : Type} (N : Nat) (v277 : List Int) (v278 : List Int) (v279 : Int) (k0 : List Int → List Int → Int → Option α) : Option α :=
  let x280 := ((v278.length : Nat) : Int)
  let x281 := decide (v279 < x280)
  bif x281 then
    let x282 := ((v278.length : Nat) : Int)
    k0 v277 v278 x282
  else
    k0 v277 v278 v279
theorem spec_l5Add_J2.ex : ∃ f : ((α : Type) → Nat → List Int → List Int → Int → (List Int → List Int → Int → Option α) → Option α), f = fun α => @spec_l5Add_J2.b α := ⟨_, rfl⟩
noncomputable def spec_l5Add_J2 {α : Type} : Nat → List Int → List Int → Int → (List Int → List Int → Int → Option α) → Option α := Classical.choose spec_l5Add_J2.ex α
theorem spec_l5Add_J2.eq : @spec_l5Add_J2 = @spec_l5Add_J2.b := funext fun α => congrFun (Classical.choose_spec spec_l5Add_J2.ex) α
noncomputable def spec_l5Add_L0r {α : Type} (N : Nat) (next : List Int → List Int → Int → Int → Int → List Int → Option α) (k0 : Int → List Int → Option α) (v286 : List Int) (v287 : List Int) (v288 : Int) (v289 : Int) (v290 : Int) (v291 : List Int) : Option α :=
  let x292 := decide (v290 < v288)
  bif x292 then
    spec_l5At N v286 v290
      (fun x298 =>
        spec_l5At N v287 v290
          (fun x299 =>
            let x300 := IntKind.i64.wrap (x298 + x299)
            let x301 := IntKind.i64.wrap (x300 + v289)
            let x302 := (Int.tmod x301 (65536 : Int))
            let x303 := [x302]
            bif decide (v291.length + x303.length ≤ 8796093022208) then
              let x304 := v291 ++ x303
              let x305 := (IntKind.i64.wrap (Int.tdiv x301 (65536 : Int)))
              let x306 := (IntKind.i64.wrap (v290 + (1 : Int)))
              next v286 v287 v288 x305 x306 x304
            else
              none))
  else
    k0 v289 v291
noncomputable def spec_l5Add_L0.b {α : Type} (N n : Nat) (v286 : List Int) (v287 : List Int) (v288 : Int) (v289 : Int) (v290 : Int) (v291 : List Int) (k0 : Int → List Int → Option α) : Option α :=
  Nat.rec (motive := fun _ => List Int → List Int → Int → Int → Int → List Int → Option α) (fun _ _ _ _ _ _ => none) (fun _ next => spec_l5Add_L0r N next k0) n v286 v287 v288 v289 v290 v291
theorem spec_l5Add_L0.ex : ∃ f : ((α : Type) → Nat → Nat → List Int → List Int → Int → Int → Int → List Int → (Int → List Int → Option α) → Option α), f = fun α => @spec_l5Add_L0.b α := ⟨_, rfl⟩
noncomputable def spec_l5Add_L0 {α : Type} : Nat → Nat → List Int → List Int → Int → Int → Int → List Int → (Int → List Int → Option α) → Option α := Classical.choose spec_l5Add_L0.ex α
theorem spec_l5Add_L0.eq : @spec_l5Add_L0 = @spec_l5Add_L0.b := funext fun α => congrFun (Classical.choose_spec spec_l5Add_L0.ex) α
theorem spec_l5Add_L0.zero {α : Type} (N : Nat) (v286 : List Int) (v287 : List Int) (v288 : Int) (v289 : Int) (v290 : Int) (v291 : List Int) (k0 : Int → List Int → Option α) : spec_l5Add_L0 N 0 v286 v287 v288 v289 v290 v291 k0 = none := by rw [spec_l5Add_L0.eq]; rfl
theorem spec_l5Add_L0.succ {α : Type} (N n : Nat) (v286 : List Int) (v287 : List Int) (v288 : Int) (v289 : Int) (v290 : Int) (v291 : List Int) (k0 : Int → List Int → Option α) : spec_l5Add_L0 N (n + 1) v286 v287 v288 v289 v290 v291 k0 = spec_l5Add_L0r N (fun y0 y1 y2 y3 y4 y5 => spec_l5Add_L0 N n y0 y1 y2 y3 y4 y5 k0) k0 v286 v287 v288 v289 v290 v291 := by rw [spec_l5Add_L0.eq]; rfl
noncomputable def spec_l5Add_J12.b {α : Type} (N : Nat) (v309 : Int) (v310 : List Int) (k0 : List Int → Option α) : Option α :=
  let x311 := (decide ((0 : Int) < v309))
  bif x311 then
    let x312 := [v309]
    bif decide (v310.length + x312.length ≤ 8796093022208) then
      let x313 := v310 ++ x312
      k0 x313
    else
      none
  else
    k0 v310
theorem spec_l5Add_J12.ex : ∃ f : ((α : Type) → Nat → Int → List Int → (List Int → Option α) → Option α), f = fun α => @spec_l5Add_J12.b α := ⟨_, rfl⟩
noncomputable def spec_l5Add_J12 {α : Type} : Nat → Int → List Int → (List Int → Option α) → Option α := Classical.choose spec_l5Add_J12.ex α
theorem spec_l5Add_J12.eq : @spec_l5Add_J12 = @spec_l5Add_J12.b := funext fun α => congrFun (Classical.choose_spec spec_l5Add_J12.ex) α
/-- loop.example/pinfold/spec.l5Add -/
noncomputable def spec_l5Add.b {α : Type} (N : Nat) (a274 : List Int) (a275 : List Int) (k0 : List Int → Option α) : Option α :=
  let x276 := ((a274.length : Nat) : Int)
  spec_l5Add_J2 N a274 a275 x276
    (fun x283 x284 x285 =>
      spec_l5Add_L0 N N x283 x284 x285 (0 : Int) (0 : Int) []
        (fun x307 x308 =>
          spec_l5Add_J12 N x307 x308
            (fun x314 =>
              k0 x314)))
theorem spec_l5Add.ex : ∃ f : ((α : Type) → Nat → List Int → List Int → (List Int → Option α) → Option α), f = fun α => @spec_l5Add.b α := ⟨_, rfl⟩
noncomputable def spec_l5Add {α : Type} : Nat → List Int → List Int → (List Int → Option α) → Option α := Classical.choose spec_l5Add.ex α
theorem spec_l5Add.eq : @spec_l5Add = @spec_l5Add.b := funext fun α => congrFun (Classical.choose_spec spec_l5Add.ex) α

noncomputable def spec_l5Sub_J8.b {α : Type} (N : Nat) (v367 : List Int) (v368 : List Int) (v369 : Int) (v370 : Int) (v371 : Int) (v372 : List Int) (k0 : List Int → List Int → Int → Int → Int → List Int → Option α) : Option α :=
  let x373 := (decide (v371 < (0 : Int)))
  bif x373 then
    let x374 := (IntKind.i64.wrap (v371 + (65536 : Int)))
    k0 v367 v368 (1 : Int) v370 x374 v372
  else
    k0 v367 v368 v369 v370 v371 v372
theorem spec_l5Sub_J8.ex : ∃ f : ((α : Type) → Nat → List Int → List Int → Int → Int → Int → List Int → (List Int → List Int → Int → Int → Int → List Int → Option α) → Option α), f = fun α => @spec_l5Sub_J8.b α := ⟨_, rfl⟩
noncomputable def spec_l5Sub_J8 {α : Type} : Nat → List Int → List Int → Int → Int → Int → List Int → (List Int → List Int → Int → Int → Int → List Int → Option α) → Option α := Classical.choose spec_l5Sub_J8.ex α
theorem spec_l5Sub_J8.eq : @spec_l5Sub_J8 = @spec_l5Sub_J8.b := funext fun α => congrFun (Classical.choose_spec spec_l5Sub_J8.ex) α
noncomputable def spec_l5Sub_L0r {α : Type} (N : Nat) (next : List Int → List Int → Int → Int → List Int → Option α) (k0 : List Int → Option α) (v356 : List Int) (v357 : List Int) (v358 : Int) (v359 : Int) (v360 : List Int) : Option α :=
  let x361 := ((v356.length : Nat) : Int)
  let x362 := decide (v359 < x361)
  bif x362 then
    bif (decide (v359 < (0 : Int))) then
      none
    else
      match v356[v359.toNat]? with
      | some x363 =>
        spec_l5At N v357 v359
          (fun x364 =>
            let x365 := IntKind.i64.wrap (x363 - x364)
            let x366 := IntKind.i64.wrap (x365 - v358)
            spec_l5Sub_J8 N v356 v357 (0 : Int) v359 x366 v360
              (fun x375 x376 x377 x378 x379 x380 =>
                let x381 := [x379]
                bif decide (x380.length + x381.length ≤ 8796093022208) then
                  let x382 := x380 ++ x381
                  let x383 := (IntKind.i64.wrap (x378 + (1 : Int)))
                  next x375 x376 x377 x383 x382
                else
                  none))
      | none => none
  else
    k0 v360
noncomputable def spec_l5Sub_L0.b {α : Type} (N n : Nat) (v356 : List Int) (v357 : List Int) (v358 : Int) (v359 : Int) (v360 : List Int) (k0 : List Int → Option α) : Option α :=
  Nat.rec (motive := fun _ => List Int → List Int → Int → Int → List Int → Option α) (fun _ _ _ _ _ => none) (fun _ next => spec_l5Sub_L0r N next k0) n v356 v357 v358 v359 v360
theorem spec_l5Sub_L0.ex : ∃ f : ((α : Type) → Nat → Nat → List Int → List Int → Int → Int → List Int → (List Int → Option α) → Option α), f = fun α => @spec_l5Sub_L0.b α := ⟨_, rfl⟩
noncomputable def spec_l5Sub_L0 {α : Type} : Nat → Nat → List Int → List Int → Int → Int → List Int → (List Int → Option α) → Option α := Classical.choose spec_l5Sub_L0.ex α
theorem spec_l5Sub_L0.eq : @spec_l5Sub_L0 = @spec_l5Sub_L0.b := funext fun α => congrFun (Classical.choose_spec spec_l5Sub_L0.ex) α
theorem spec_l5Sub_L0.zero {α : Type} (N : Nat) (v356 : List Int) (v357 : List Int) (v358 : Int) (v359 : Int) (v360 : List Int) (k0 : List Int → Option α) : spec_l5Sub_L0 N 0 v356 v357 v358 v359 v360 k0 = none := by rw [spec_l5Sub_L0.eq]; rfl
theorem spec_l5Sub_L0.succ {α : Type} (N n : Nat) (v356 : List Int) (v357 : List Int) (v358 : Int) (v359 : Int) (v360 : List Int) (k0 : List Int → Option α) : spec_l5Sub_L0 N (n + 1) v356 v357 v358 v359 v360 k0 = spec_l5Sub_L0r N (fun y0 y1 y2 y3 y4 => spec_l5Sub_L0 N n y0 y1 y2 y3 y4 k0) k0 v356 v357 v358 v359 v360 := by rw [spec_l5Sub_L0.eq]; rfl
/-- loop.example/pinfold/spec.l5Sub -/
noncomputable def spec_l5Sub.b {α : Type} (N : Nat) (a354 : List Int) (a355 : List Int) (k0 : List Int → Option α) : Option α :=
  spec_l5Sub_L0 N N a354 a355 (0 : Int) (0 : Int) []
    (fun x384 =>
      spec_l5Trim N x384
        (fun x385 =>
          k0 x385))
theorem spec_l5Sub.ex : ∃ f : ((α : Type) → Nat → List Int → List Int → (List Int → Option α) → Option α), f = fun α => @spec_l5Sub.b α := ⟨_, rfl⟩
noncomputable def spec_l5Sub {α : Type} : Nat → List Int → List Int → (List Int → Option α) → Option α := Classical.choose spec_l5Sub.ex α
theorem spec_l5Sub.eq : @spec_l5Sub = @spec_l5Sub.b := funext fun α => congrFun (Classical.choose_spec spec_l5Sub.ex) α

noncomputable def spec_l5Div_J17.b {α : Type} (N : Nat) (v325 : Int) (v326 : Int) (v327 : Int) (v328 : Int) (v329 : List Int) (v330 : List Int) (v331 : List Int) (v332 : List Int) (k0 : Int → Int → Int → Int → List Int → List Int → List Int → List Int → Option α) : Option α :=
  let x333 := (decide ((65536 : Int) ≤ v328))
  bif x333 then
    k0 v325 v326 v327 (65535 : Int) v329 v330 v331 v332
  else
    k0 v325 v326 v327 v328 v329 v330 v331 v332
theorem spec_l5Div_J17.ex : ∃ f : ((α : Type) → Nat → Int → Int → Int → Int → List Int → List Int → List Int → List Int → (Int → Int → Int → Int → List Int → List Int → List Int → List Int → Option α) → Option α), f = fun α => @spec_l5Div_J17.b α := ⟨_, rfl⟩
noncomputable def spec_l5Div_J17 {α : Type} : Nat → Int → Int → Int → Int → List Int → List Int → List Int → List Int → (Int → Int → Int → Int → List Int → List Int → List Int → List Int → Option α) → Option α := Classical.choose spec_l5Div_J17.ex α
theorem spec_l5Div_J17.eq : @spec_l5Div_J17 = @spec_l5Div_J17.b := funext fun α => congrFun (Classical.choose_spec spec_l5Div_J17.ex) α
noncomputable def spec_l5Div_L2r {α : Type} (N : Nat) (next : Int → Int → Int → Int → List Int → List Int → List Int → List Int → List Int → Option α) (k0 : Int → Int → Int → Int → List Int → List Int → List Int → List Int → List Int → Option α) (v343 : Int) (v344 : Int) (v345 : Int) (v346 : Int) (v347 : List Int) (v348 : List Int) (v349 : List Int) (v350 : List Int) (v351 : List Int) : Option α :=
  spec_l5Cmp N v351 v350
    (fun x352 =>
      let x353 := (decide ((0 : Int) < x352))
      bif x353 then
        spec_l5Sub N v351 v348
          (fun x386 =>
            let x387 := (IntKind.i64.wrap (v346 - (1 : Int)))
            next v343 v344 v345 x387 v347 v348 v349 v350 x386)
      else
        k0 v343 v344 v345 v346 v347 v348 v349 v350 v351)
noncomputable def spec_l5Div_L2.b {α : Type} (N n : Nat) (v343 : Int) (v344 : Int) (v345 : Int) (v346 : Int) (v347 : List Int) (v348 : List Int) (v349 : List Int) (v350 : List Int) (v351 : List Int) (k0 : Int → Int → Int → Int → List Int → List Int → List Int → List Int → List Int → Option α) : Option α :=
  Nat.rec (motive := fun _ => Int → Int → Int → Int → List Int → List Int → List Int → List Int → List Int → Option α) (fun _ _ _ _ _ _ _ _ _ => none) (fun _ next => spec_l5Div_L2r N next k0) n v343 v344 v345 v346 v347 v348 v349 v350 v351
theorem spec_l5Div_L2.ex : ∃ f : ((α : Type) → Nat → Nat → Int → Int → Int → Int → List Int → List Int → List Int → List Int → List Int → (Int → Int → Int → Int → List Int → List Int → List Int → List Int → List Int → Option α) → Option α), f = fun α => @spec_l5Div_L2.b α := ⟨_, rfl⟩
noncomputable def spec_l5Div_L2 {α : Type} : Nat → Nat → Int → Int → Int → Int → List Int → List Int → List Int → List Int → List Int → (Int → Int → Int → Int → List Int → List Int → List Int → List Int → List Int → Option α) → Option α := Classical.choose spec_l5Div_L2.ex α
theorem spec_l5Div_L2.eq : @spec_l5Div_L2 = @spec_l5Div_L2.b := funext fun α => congrFun (Classical.choose_spec spec_l5Div_L2.ex) α
theorem spec_l5Div_L2.zero {α : Type} (N : Nat) (v343 : Int) (v344 : Int) (v345 : Int) (v346 : Int) (v347 : List Int) (v348 : List Int) (v349 : List Int) (v350 : List Int) (v351 : List Int) (k0 : Int → Int → Int → Int → List Int → List Int → List Int → List Int → List Int → Option α) : spec_l5Div_L2 N 0 v343 v344 v345 v346 v347 v348 v349 v350 v351 k0 = none := by rw [spec_l5Div_L2.eq]; rfl
theorem spec_l5Div_L2.succ {α : Type} (N n : Nat) (v343 : Int) (v344 : Int) (v345 : Int) (v346 : Int) (v347 : List Int) (v348 : List Int) (v349 : List Int) (v350 : List Int) (v351 : List Int) (k0 : Int → Int → Int → Int → List Int → List Int → List Int → List Int → List Int → Option α) : spec_l5Div_L2 N (n + 1) v343 v344 v345 v346 v347 v348 v349 v350 v351 k0 = spec_l5Div_L2r N (fun y0 y1 y2 y3 y4 y5 y6 y7 y8 => spec_l5Div_L2 N n y0 y1 y2 y3 y4 y5 y6 y7 y8 k0) k0 v343 v344 v345 v346 v347 v348 v349 v350 v351 := by rw [spec_l5Div_L2.eq]; rfl
noncomputable def spec_l5Div_L0r {α : Type} (N : Nat) (next : Int → Int → Int → List Int → List Int → List Int → List Int → Option α) (k0 : Int → List Int → List Int → Option α) (v247 : Int) (v248 : Int) (v249 : Int) (v250 : List Int) (v251 : List Int) (v252 : List Int) (v253 : List Int) : Option α :=
  let x254 := (decide ((0 : Int) ≤ v249))
  bif x254 then
    spec_l5Shl N v253 (1 : Int)
      (fun x270 =>
        bif (decide (v249 < (0 : Int))) then
          none
        else
          bif decide (v249.toNat < v250.length) then
            match v250[v249.toNat]? with
            | some x271 =>
              let x272 := IntKind.u64.wrap x271
              spec_NatOf N x272
                (fun x273 =>
                  spec_l5Add N x270 x273
                    (fun x315 =>
                      spec_l5Trim N x315
                        (fun x316 =>
                          spec_l5At N x316 v248
                            (fun x317 =>
                              let x318 := (IntKind.i64.wrap (x317 * (65536 : Int)))
                              let x319 := (IntKind.i64.wrap (v248 - (1 : Int)))
                              spec_l5At N x316 x319
                                (fun x320 =>
                                  let x321 := IntKind.i64.wrap (x318 + x320)
                                  let x322 := (IntKind.i64.wrap (v248 - (1 : Int)))
                                  bif (decide (x322 < (0 : Int))) then
                                    none
                                  else
                                    bif decide (x322.toNat < v251.length) then
                                      match v251[x322.toNat]? with
                                      | some x323 =>
                                        bif (decide (x323 = (0 : Int))) then
                                          none
                                        else
                                          let x324 := IntKind.i64.wrap (Int.tdiv x321 x323)
                                          spec_l5Div_J17 N v247 v248 v249 x324 v250 v251 v252 x316
                                            (fun x334 x335 x336 x337 x338 x339 x340 x341 =>
                                              spec_l5Times N x339 x337
                                                (fun x342 =>
                                                  spec_l5Div_L2 N N x334 x335 x336 x337 x338 x339 x340 x341 x342
                                                    (fun x388 x389 x390 x391 x392 x393 x394 x395 x396 =>
                                                      bif (decide (x390 < (0 : Int))) then
                                                        none
                                                      else
                                                        bif decide (x390.toNat < x394.length) then
                                                          match x394[x390.toNat]? with
                                                          | some x397 =>
                                                            let x398 := x394.set x390.toNat x391
                                                            spec_l5Sub N x395 x396
                                                              (fun x399 =>
                                                                let x400 := (IntKind.i64.wrap (x390 - (1 : Int)))
                                                                next x388 x389 x400 x392 x393 x398 x399)
                                                          | none => none
                                                        else
                                                          none)))
                                      | none => none
                                    else
                                      none)))))
            | none => none
          else
            none)
  else
    k0 v247 v252 v253
noncomputable def spec_l5Div_L0.b {α : Type} (N n : Nat) (v247 : Int) (v248 : Int) (v249 : Int) (v250 : List Int) (v251 : List Int) (v252 : List Int) (v253 : List Int) (k0 : Int → List Int → List Int → Option α) : Option α :=
  Nat.rec (motive := fun _ => Int → Int → Int → List Int → List Int → List Int → List Int → Option α) (fun _ _ _ _ _ _ _ => none) (fun _ next => spec_l5Div_L0r N next k0) n v247 v248 v249 v250 v251 v252 v253
theorem spec_l5Div_L0.ex : ∃ f : ((α : Type) → Nat → Nat → Int → Int → Int → List Int → List Int → List Int → List Int → (Int → List Int → List Int → Option α) → Option α), f = fun α => @spec_l5Div_L0.b α := ⟨_, rfl⟩
noncomputable def spec_l5Div_L0 {α : Type} : Nat → Nat → Int → Int → Int → List Int → List Int → List Int → List Int → (Int → List Int → List Int → Option α) → Option α := Classical.choose spec_l5Div_L0.ex α
theorem spec_l5Div_L0.eq : @spec_l5Div_L0 = @spec_l5Div_L0.b := funext fun α => congrFun (Classical.choose_spec spec_l5Div_L0.ex) α
theorem spec_l5Div_L0.zero {α : Type} (N : Nat) (v247 : Int) (v248 : Int) (v249 : Int) (v250 : List Int) (v251 : List Int) (v252 : List Int) (v253 : List Int) (k0 : Int → List Int → List Int → Option α) : spec_l5Div_L0 N 0 v247 v248 v249 v250 v251 v252 v253 k0 = none := by rw [spec_l5Div_L0.eq]; rfl
theorem spec_l5Div_L0.succ {α : Type} (N n : Nat) (v247 : Int) (v248 : Int) (v249 : Int) (v250 : List Int) (v251 : List Int) (v252 : List Int) (v253 : List Int) (k0 : Int → List Int → List Int → Option α) : spec_l5Div_L0 N (n + 1) v247 v248 v249 v250 v251 v252 v253 k0 = spec_l5Div_L0r N (fun y0 y1 y2 y3 y4 y5 y6 => spec_l5Div_L0 N n y0 y1 y2 y3 y4 y5 y6 k0) k0 v247 v248 v249 v250 v251 v252 v253 := by rw [spec_l5Div_L0.eq]; rfl
/-- loop.example/pinfold/spec.l5Div -/
noncomputable def spec_l5Div.b {α : Type} (N : Nat) (a100 : List Int) (a101 : List Int) (k0 : List Int → List Int → Option α) : Option α :=
  spec_l5Cmp N a100 a101
    (fun x124 =>
      let x125 := (decide (x124 < (0 : Int)))
      bif x125 then
        spec_l5Trim N a100
          (fun x126 =>
            k0 [] x126)
      else
        let x127 := ((a101.length : Nat) : Int)
        let x128 := (decide (x127 = (1 : Int)))
        bif x128 then
          match a101[0]? with
          | some x129 =>
            spec_l5DivSmall N a100 x129
              (fun x153 x154 =>
                let x155 := IntKind.u64.wrap x153
                spec_NatOf N x155
                  (fun x166 =>
                    k0 x154 x166))
          | none => none
        else
          let x167 := ((a101.length : Nat) : Int)
          let x168 := (IntKind.i64.wrap (x167 - (1 : Int)))
          bif (decide (x168 < (0 : Int))) then
            none
          else
            match a101[x168.toNat]? with
            | some x169 =>
              let x170 := (IntKind.i64.wrap (x169 + (1 : Int)))
              bif (decide (x170 = (0 : Int))) then
                none
              else
                let x171 := (IntKind.i64.wrap (Int.tdiv (65536 : Int) x170))
                spec_l5Times N a100 x171
                  (fun x222 =>
                    spec_l5Times N a101 x171
                      (fun x223 =>
                        let x224 := ((x223.length : Nat) : Int)
                        let x225 := ((x222.length : Nat) : Int)
                        let x226 := IntKind.i64.wrap (x225 - x224)
                        let x227 := (IntKind.i64.wrap (x226 + (1 : Int)))
                        bif (decide ((0 : Int) ≤ x227)) then
                          bif decide (x227 ≤ x227) then
                            bif (decide (x227 ≤ ((8796093022208 : Nat) : Int))) then
                              let x228 := (List.replicate x227.toNat (0 : Int))
                              let x229 := ((x222.length : Nat) : Int)
                              let x230 := IntKind.i64.wrap (x229 - x224)
                              let x231 := (IntKind.i64.wrap (x230 + (1 : Int)))
                              spec_l5Top N x222 x231
                                (fun x244 =>
                                  let x245 := ((x222.length : Nat) : Int)
                                  let x246 := IntKind.i64.wrap (x245 - x224)
                                  spec_l5Div_L0 N N x171 x224 x246 x222 x223 x228 x244
                                    (fun x401 x402 x403 =>
                                      spec_l5DivSmall N x403 x401
                                        (fun _ x405 =>
                                          spec_l5Trim N x402
                                            (fun x406 =>
                                              k0 x406 x405))))
                            else
                              none
                          else
                            none
                        else
                          none))
            | none => none)
theorem spec_l5Div.ex : ∃ f : ((α : Type) → Nat → List Int → List Int → (List Int → List Int → Option α) → Option α), f = fun α => @spec_l5Div.b α := ⟨_, rfl⟩
noncomputable def spec_l5Div {α : Type} : Nat → List Int → List Int → (List Int → List Int → Option α) → Option α := Classical.choose spec_l5Div.ex α
theorem spec_l5Div.eq : @spec_l5Div = @spec_l5Div.b := funext fun α => congrFun (Classical.choose_spec spec_l5Div.ex) α

noncomputable def spec_l5Gcd_L0r {α : Type} (N : Nat) (next : List Int → List Int → Option α) (k0 : List Int → Option α) (v96 : List Int) (v97 : List Int) : Option α :=
  let x98 := ((v97.length : Nat) : Int)
  let x99 := (decide ((0 : Int) < x98))
  bif x99 then
    spec_l5Div N v96 v97
      (fun _ x408 =>
        next v97 x408)
  else
    k0 v96
noncomputable def spec_l5Gcd_L0.b {α : Type} (N n : Nat) (v96 : List Int) (v97 : List Int) (k0 : List Int → Option α) : Option α :=
  Nat.rec (motive := fun _ => List Int → List Int → Option α) (fun _ _ => none) (fun _ next => spec_l5Gcd_L0r N next k0) n v96 v97
theorem spec_l5Gcd_L0.ex : ∃ f : ((α : Type) → Nat → Nat → List Int → List Int → (List Int → Option α) → Option α), f = fun α => @spec_l5Gcd_L0.b α := ⟨_, rfl⟩
noncomputable def spec_l5Gcd_L0 {α : Type} : Nat → Nat → List Int → List Int → (List Int → Option α) → Option α := Classical.choose spec_l5Gcd_L0.ex α
theorem spec_l5Gcd_L0.eq : @spec_l5Gcd_L0 = @spec_l5Gcd_L0.b := funext fun α => congrFun (Classical.choose_spec spec_l5Gcd_L0.ex) α
theorem spec_l5Gcd_L0.zero {α : Type} (N : Nat) (v96 : List Int) (v97 : List Int) (k0 : List Int → Option α) : spec_l5Gcd_L0 N 0 v96 v97 k0 = none := by rw [spec_l5Gcd_L0.eq]; rfl
theorem spec_l5Gcd_L0.succ {α : Type} (N n : Nat) (v96 : List Int) (v97 : List Int) (k0 : List Int → Option α) : spec_l5Gcd_L0 N (n + 1) v96 v97 k0 = spec_l5Gcd_L0r N (fun y0 y1 => spec_l5Gcd_L0 N n y0 y1 k0) k0 v96 v97 := by rw [spec_l5Gcd_L0.eq]; rfl
/-- loop.example/pinfold/spec.l5Gcd -/
noncomputable def spec_l5Gcd.b {α : Type} (N : Nat) (a71 : List Int) (a72 : List Int) (k0 : List Int → Option α) : Option α :=
  spec_l5Trim N a71
    (fun x94 =>
      spec_l5Trim N a72
        (fun x95 =>
          spec_l5Gcd_L0 N N x94 x95
            (fun x409 =>
              k0 x409)))
theorem spec_l5Gcd.ex : ∃ f : ((α : Type) → Nat → List Int → List Int → (List Int → Option α) → Option α), f = fun α => @spec_l5Gcd.b α := ⟨_, rfl⟩
noncomputable def spec_l5Gcd {α : Type} : Nat → List Int → List Int → (List Int → Option α) → Option α := Classical.choose spec_l5Gcd.ex α
theorem spec_l5Gcd.eq : @spec_l5Gcd = @spec_l5Gcd.b := funext fun α => congrFun (Classical.choose_spec spec_l5Gcd.ex) α

/-- loop.example/pinfold/spec.l6One -/
noncomputable def spec_l6One.b {α : Type} (N : Nat) (a411 : List Int) (k0 : Bool → Option α) : Option α :=
  let x412 := ((a411.length : Nat) : Int)
  let x413 := (decide (x412 = (1 : Int)))
  bif x413 then
    match a411[0]? with
    | some x414 =>
      let x415 := (decide (x414 = (1 : Int)))
      k0 x415
    | none => none
  else
    k0 false
theorem spec_l6One.ex : ∃ f : ((α : Type) → Nat → List Int → (Bool → Option α) → Option α), f = fun α => @spec_l6One.b α := ⟨_, rfl⟩
noncomputable def spec_l6One {α : Type} : Nat → List Int → (Bool → Option α) → Option α := Classical.choose spec_l6One.ex α
theorem spec_l6One.eq : @spec_l6One = @spec_l6One.b := funext fun α => congrFun (Classical.choose_spec spec_l6One.ex) α

/-- loop.example/pinfold/spec.FracOk -/
noncomputable def spec_FracOk.b {α : Type} (N : Nat) (a42 : Bool × (List Int) × (List Int) × Unit) (k0 : Bool → Option α) : Option α :=
  spec_NatOk N a42.2.1
    (fun x63 =>
      let x64 := !x63
      bif x64 then
        k0 false
      else
        spec_NatOk N a42.2.2.1
          (fun x65 =>
            let x66 := !x65
            bif x66 then
              k0 false
            else
              let x67 := ((a42.2.2.1.length : Nat) : Int)
              let x68 := (decide (x67 = (0 : Int)))
              bif x68 then
                k0 false
              else
                let x69 := ((a42.2.1.length : Nat) : Int)
                let x70 := (decide (x69 = (0 : Int)))
                bif x70 then
                  bif a42.1 then
                    k0 false
                  else
                    spec_l5Gcd N a42.2.1 a42.2.2.1
                      (fun x410 =>
                        spec_l6One N x410
                          (fun x416 =>
                            k0 x416))
                else
                  spec_l5Gcd N a42.2.1 a42.2.2.1
                    (fun x417 =>
                      spec_l6One N x417
                        (fun x418 =>
                          k0 x418))))
theorem spec_FracOk.ex : ∃ f : ((α : Type) → Nat → (Bool × (List Int) × (List Int) × Unit) → (Bool → Option α) → Option α), f = fun α => @spec_FracOk.b α := ⟨_, rfl⟩
noncomputable def spec_FracOk {α : Type} : Nat → (Bool × (List Int) × (List Int) × Unit) → (Bool → Option α) → Option α := Classical.choose spec_FracOk.ex α
theorem spec_FracOk.eq : @spec_FracOk = @spec_FracOk.b := funext fun α => congrFun (Classical.choose_spec spec_FracOk.ex) α

/-- loop.example/pinfold/spec.l6Make -/
noncomputable def spec_l6Make.b {α : Type} (N : Nat) (a428 : Bool) (a429 : List Int) (a430 : List Int) (k0 : Bool → Bool → List Int → List Int → Option α) : Option α :=
  let x431 := ((a429.length : Nat) : Int)
  let x432 := (decide (x431 = (0 : Int)))
  bif x432 then
    let x433 := [(1 : Int)]
    k0 false true [] x433
  else
    spec_l5Gcd N a429 a430
      (fun x434 =>
        spec_l5Div N a429 x434
          (fun x435 _ =>
            spec_l5Div N a430 x434
              (fun x437 _ =>
                let x439 := ((x435.length : Nat) : Int)
                let x440 := (decide ((256 : Int) < x439))
                bif x440 then
                  k0 false false [] []
                else
                  let x441 := ((x437.length : Nat) : Int)
                  let x442 := (decide ((256 : Int) < x441))
                  bif x442 then
                    k0 false false [] []
                  else
                    k0 a428 true x435 x437)))
theorem spec_l6Make.ex : ∃ f : ((α : Type) → Nat → Bool → List Int → List Int → (Bool → Bool → List Int → List Int → Option α) → Option α), f = fun α => @spec_l6Make.b α := ⟨_, rfl⟩
noncomputable def spec_l6Make {α : Type} : Nat → Bool → List Int → List Int → (Bool → Bool → List Int → List Int → Option α) → Option α := Classical.choose spec_l6Make.ex α
theorem spec_l6Make.eq : @spec_l6Make = @spec_l6Make.b := funext fun α => congrFun (Classical.choose_spec spec_l6Make.ex) α

/-- loop.example/pinfold/spec.FracDiv -/
noncomputable def spec_FracDiv.b {α : Type} (N : Nat) (a40 : Bool × (List Int) × (List Int) × Unit) (a41 : Bool × (List Int) × (List Int) × Unit) (k0 : Bool → Bool → List Int → List Int → Option α) : Option α :=
  spec_FracOk N a40
    (fun x419 =>
      let x420 := !x419
      bif x420 then
        k0 false false [] []
      else
        spec_FracOk N a41
          (fun x421 =>
            let x422 := !x421
            bif x422 then
              k0 false false [] []
            else
              let x423 := ((a41.2.1.length : Nat) : Int)
              let x424 := (decide (x423 = (0 : Int)))
              bif x424 then
                k0 false false [] []
              else
                let x425 := !(a40.1 == a41.1)
                spec_l5Mul N a40.2.1 a41.2.2.1
                  (fun x426 =>
                    spec_l5Mul N a40.2.2.1 a41.2.1
                      (fun x427 =>
                        spec_l6Make N x425 x426 x427
                          (fun x443 x444 x445 x446 =>
                            k0 x443 x444 x445 x446)))))
theorem spec_FracDiv.ex : ∃ f : ((α : Type) → Nat → (Bool × (List Int) × (List Int) × Unit) → (Bool × (List Int) × (List Int) × Unit) → (Bool → Bool → List Int → List Int → Option α) → Option α), f = fun α => @spec_FracDiv.b α := ⟨_, rfl⟩
noncomputable def spec_FracDiv {α : Type} : Nat → (Bool × (List Int) × (List Int) × Unit) → (Bool × (List Int) × (List Int) × Unit) → (Bool → Bool → List Int → List Int → Option α) → Option α := Classical.choose spec_FracDiv.ex α
theorem spec_FracDiv.eq : @spec_FracDiv = @spec_FracDiv.b := funext fun α => congrFun (Classical.choose_spec spec_FracDiv.ex) α

/-- loop.example/pinfold/impl.in -/
noncomputable def impl_in.b {α : Type} (N : Nat) (a493 : Int) (a494 : Int) (a495 : Int) (k0 : Bool → Option α) : Option α :=
  let x496 := decide (a494 ≤ a493)
  bif x496 then
    let x497 := decide (a493 ≤ a495)
    k0 x497
  else
    k0 false
theorem impl_in.ex : ∃ f : ((α : Type) → Nat → Int → Int → Int → (Bool → Option α) → Option α), f = fun α => @impl_in.b α := ⟨_, rfl⟩
noncomputable def impl_in {α : Type} : Nat → Int → Int → Int → (Bool → Option α) → Option α := Classical.choose impl_in.ex α
theorem impl_in.eq : @impl_in = @impl_in.b := funext fun α => congrFun (Classical.choose_spec impl_in.ex) α

/-- loop.example/pinfold/impl.NatOk$1 -/
noncomputable def impl_NatOk_1.b {α : Type} (N : Nat) (a492 : Int) (k0 : Bool → Option α) : Option α :=
  impl_in N a492 (0 : Int) (65535 : Int)
    (fun x498 =>
      let x499 := !x498
      k0 x499)
theorem impl_NatOk_1.ex : ∃ f : ((α : Type) → Nat → Int → (Bool → Option α) → Option α), f = fun α => @impl_NatOk_1.b α := ⟨_, rfl⟩
noncomputable def impl_NatOk_1 {α : Type} : Nat → Int → (Bool → Option α) → Option α := Classical.choose impl_NatOk_1.ex α
theorem impl_NatOk_1.eq : @impl_NatOk_1 = @impl_NatOk_1.b := funext fun α => congrFun (Classical.choose_spec impl_NatOk_1.ex) α

noncomputable def slices_IndexFunc_int_int__impl_NatOk_1_L0r {α : Type} (N : Nat) (next : List Int → Int → Int → Option α) (k0 : Int → Option α) (k1 : Option α) (v487 : List Int) (v488 : Int) (v489 : Int) : Option α :=
  let x490 := decide (v489 < v488)
  bif x490 then
    bif (decide (v489 < (0 : Int))) then
      none
    else
      match v487[v489.toNat]? with
      | some x491 =>
        impl_NatOk_1 N x491
          (fun x500 =>
            bif x500 then
              k0 v489
            else
              let x501 := (IntKind.i64.wrap (v489 + (1 : Int)))
              next v487 v488 x501)
      | none => none
  else
    k1
noncomputable def slices_IndexFunc_int_int__impl_NatOk_1_L0.b {α : Type} (N n : Nat) (v487 : List Int) (v488 : Int) (v489 : Int) (k0 : Int → Option α) (k1 : Option α) : Option α :=
  Nat.rec (motive := fun _ => List Int → Int → Int → Option α) (fun _ _ _ => none) (fun _ next => slices_IndexFunc_int_int__impl_NatOk_1_L0r N next k0 k1) n v487 v488 v489
theorem slices_IndexFunc_int_int__impl_NatOk_1_L0.ex : ∃ f : ((α : Type) → Nat → Nat → List Int → Int → Int → (Int → Option α) → (Option α) → Option α), f = fun α => @slices_IndexFunc_int_int__impl_NatOk_1_L0.b α := ⟨_, rfl⟩
noncomputable def slices_IndexFunc_int_int__impl_NatOk_1_L0 {α : Type} : Nat → Nat → List Int → Int → Int → (Int → Option α) → (Option α) → Option α := Classical.choose slices_IndexFunc_int_int__impl_NatOk_1_L0.ex α
theorem slices_IndexFunc_int_int__impl_NatOk_1_L0.eq : @slices_IndexFunc_int_int__impl_NatOk_1_L0 = @slices_IndexFunc_int_int__impl_NatOk_1_L0.b := funext fun α => congrFun (Classical.choose_spec slices_IndexFunc_int_int__impl_NatOk_1_L0.ex) α
theorem slices_IndexFunc_int_int__impl_NatOk_1_L0.zero {α : Type} (N : Nat) (v487 : List Int) (v488 : Int) (v489 : Int) (k0 : Int → Option α) (k1 : Option α) : slices_IndexFunc_int_int__impl_NatOk_1_L0 N 0 v487 v488 v489 k0 k1 = none := by rw [slices_IndexFunc_int_int__impl_NatOk_1_L0.eq]; rfl
theorem slices_IndexFunc_int_int__impl_NatOk_1_L0.succ {α : Type} (N n : Nat) (v487 : List Int) (v488 : Int) (v489 : Int) (k0 : Int → Option α) (k1 : Option α) : slices_IndexFunc_int_int__impl_NatOk_1_L0 N (n + 1) v487 v488 v489 k0 k1 = slices_IndexFunc_int_int__impl_NatOk_1_L0r N (fun y0 y1 y2 => slices_IndexFunc_int_int__impl_NatOk_1_L0 N n y0 y1 y2 k0 k1) k0 k1 v487 v488 v489 := by rw [slices_IndexFunc_int_int__impl_NatOk_1_L0.eq]; rfl
/-- slices.IndexFunc[[]int,int] -/
noncomputable def slices_IndexFunc_int_int__impl_NatOk_1.b {α : Type} (N : Nat) (a485 : List Int) (k0 : Int → Option α) : Option α :=
  let x486 := ((a485.length : Nat) : Int)
  slices_IndexFunc_int_int__impl_NatOk_1_L0 N N a485 x486 (0 : Int)
    (fun x502 =>
      k0 x502)
    (
      k0 (-1 : Int))
theorem slices_IndexFunc_int_int__impl_NatOk_1.ex : ∃ f : ((α : Type) → Nat → List Int → (Int → Option α) → Option α), f = fun α => @slices_IndexFunc_int_int__impl_NatOk_1.b α := ⟨_, rfl⟩
noncomputable def slices_IndexFunc_int_int__impl_NatOk_1 {α : Type} : Nat → List Int → (Int → Option α) → Option α := Classical.choose slices_IndexFunc_int_int__impl_NatOk_1.ex α
theorem slices_IndexFunc_int_int__impl_NatOk_1.eq : @slices_IndexFunc_int_int__impl_NatOk_1 = @slices_IndexFunc_int_int__impl_NatOk_1.b := funext fun α => congrFun (Classical.choose_spec slices_IndexFunc_int_int__impl_NatOk_1.ex) α

/-- slices.ContainsFunc[[]int,int] -/
noncomputable def slices_ContainsFunc_int_int__impl_NatOk_1.b {α : Type} (N : Nat) (a484 : List Int) (k0 : Bool → Option α) : Option α :=
  slices_IndexFunc_int_int__impl_NatOk_1 N a484
    (fun x503 =>
      let x504 := (decide ((0 : Int) ≤ x503))
      k0 x504)
theorem slices_ContainsFunc_int_int__impl_NatOk_1.ex : ∃ f : ((α : Type) → Nat → List Int → (Bool → Option α) → Option α), f = fun α => @slices_ContainsFunc_int_int__impl_NatOk_1.b α := ⟨_, rfl⟩
noncomputable def slices_ContainsFunc_int_int__impl_NatOk_1 {α : Type} : Nat → List Int → (Bool → Option α) → Option α := Classical.choose slices_ContainsFunc_int_int__impl_NatOk_1.ex α
theorem slices_ContainsFunc_int_int__impl_NatOk_1.eq : @slices_ContainsFunc_int_int__impl_NatOk_1 = @slices_ContainsFunc_int_int__impl_NatOk_1.b := funext fun α => congrFun (Classical.choose_spec slices_ContainsFunc_int_int__impl_NatOk_1.ex) α

/-- loop.example/pinfold/impl.NatOk -/
noncomputable def impl_NatOk.b {α : Type} (N : Nat) (a479 : List Int) (k0 : Bool → Option α) : Option α :=
  let x480 := ((a479.length : Nat) : Int)
  let x481 := (decide (x480 ≤ (256 : Int)))
  bif x481 then
    let x482 := ((a479.length : Nat) : Int)
    let x483 := (decide (x482 = (0 : Int)))
    bif x483 then
      slices_ContainsFunc_int_int__impl_NatOk_1 N a479
        (fun x505 =>
          let x506 := !x505
          k0 x506)
    else
      let x507 := ((a479.length : Nat) : Int)
      let x508 := (IntKind.i64.wrap (x507 - (1 : Int)))
      bif (decide (x508 < (0 : Int))) then
        none
      else
        match a479[x508.toNat]? with
        | some x509 =>
          let x510 := (!(decide (x509 = (0 : Int))))
          bif x510 then
            slices_ContainsFunc_int_int__impl_NatOk_1 N a479
              (fun x511 =>
                let x512 := !x511
                k0 x512)
          else
            k0 false
        | none => none
  else
    k0 false
theorem impl_NatOk.ex : ∃ f : ((α : Type) → Nat → List Int → (Bool → Option α) → Option α), f = fun α => @impl_NatOk.b α := ⟨_, rfl⟩
noncomputable def impl_NatOk {α : Type} : Nat → List Int → (Bool → Option α) → Option α := Classical.choose impl_NatOk.ex α
theorem impl_NatOk.eq : @impl_NatOk = @impl_NatOk.b := funext fun α => congrFun (Classical.choose_spec impl_NatOk.ex) α

/-- loop.example/pinfold/impl.nats$1 -/
noncomputable def impl_nats_1.b {α : Type} (N : Nat) (a478 : List Int) (k0 : Bool → Option α) : Option α :=
  impl_NatOk N a478
    (fun x513 =>
      let x514 := !x513
      k0 x514)
theorem impl_nats_1.ex : ∃ f : ((α : Type) → Nat → List Int → (Bool → Option α) → Option α), f = fun α => @impl_nats_1.b α := ⟨_, rfl⟩
noncomputable def impl_nats_1 {α : Type} : Nat → List Int → (Bool → Option α) → Option α := Classical.choose impl_nats_1.ex α
theorem impl_nats_1.eq : @impl_nats_1 = @impl_nats_1.b := funext fun α => congrFun (Classical.choose_spec impl_nats_1.ex) α

noncomputable def slices_IndexFunc_int_int__impl_nats_1_L0r {α : Type} (N : Nat) (next : List (List Int) → Int → Int → Option α) (k0 : Int → Option α) (k1 : Option α) (v473 : List (List Int)) (v474 : Int) (v475 : Int) : Option α :=
  let x476 := decide (v475 < v474)
  bif x476 then
    bif (decide (v475 < (0 : Int))) then
      none
    else
      match v473[v475.toNat]? with
      | some x477 =>
        impl_nats_1 N x477
          (fun x515 =>
            bif x515 then
              k0 v475
            else
              let x516 := (IntKind.i64.wrap (v475 + (1 : Int)))
              next v473 v474 x516)
      | none => none
  else
    k1
noncomputable def slices_IndexFunc_int_int__impl_nats_1_L0.b {α : Type} (N n : Nat) (v473 : List (List Int)) (v474 : Int) (v475 : Int) (k0 : Int → Option α) (k1 : Option α) : Option α :=
  Nat.rec (motive := fun _ => List (List Int) → Int → Int → Option α) (fun _ _ _ => none) (fun _ next => slices_IndexFunc_int_int__impl_nats_1_L0r N next k0 k1) n v473 v474 v475
theorem slices_IndexFunc_int_int__impl_nats_1_L0.ex : ∃ f : ((α : Type) → Nat → Nat → List (List Int) → Int → Int → (Int → Option α) → (Option α) → Option α), f = fun α => @slices_IndexFunc_int_int__impl_nats_1_L0.b α := ⟨_, rfl⟩
noncomputable def slices_IndexFunc_int_int__impl_nats_1_L0 {α : Type} : Nat → Nat → List (List Int) → Int → Int → (Int → Option α) → (Option α) → Option α := Classical.choose slices_IndexFunc_int_int__impl_nats_1_L0.ex α
theorem slices_IndexFunc_int_int__impl_nats_1_L0.eq : @slices_IndexFunc_int_int__impl_nats_1_L0 = @slices_IndexFunc_int_int__impl_nats_1_L0.b := funext fun α => congrFun (Classical.choose_spec slices_IndexFunc_int_int__impl_nats_1_L0.ex) α
theorem slices_IndexFunc_int_int__impl_nats_1_L0.zero {α : Type} (N : Nat) (v473 : List (List Int)) (v474 : Int) (v475 : Int) (k0 : Int → Option α) (k1 : Option α) : slices_IndexFunc_int_int__impl_nats_1_L0 N 0 v473 v474 v475 k0 k1 = none := by rw [slices_IndexFunc_int_int__impl_nats_1_L0.eq]; rfl
theorem slices_IndexFunc_int_int__impl_nats_1_L0.succ {α : Type} (N n : Nat) (v473 : List (List Int)) (v474 : Int) (v475 : Int) (k0 : Int → Option α) (k1 : Option α) : slices_IndexFunc_int_int__impl_nats_1_L0 N (n + 1) v473 v474 v475 k0 k1 = slices_IndexFunc_int_int__impl_nats_1_L0r N (fun y0 y1 y2 => slices_IndexFunc_int_int__impl_nats_1_L0 N n y0 y1 y2 k0 k1) k0 k1 v473 v474 v475 := by rw [slices_IndexFunc_int_int__impl_nats_1_L0.eq]; rfl
/-- slices.IndexFunc[[][]int,[]int] -/
noncomputable def slices_IndexFunc_int_int__impl_nats_1.b {α : Type} (N : Nat) (a471 : List (List Int)) (k0 : Int → Option α) : Option α :=
  let x472 := ((a471.length : Nat) : Int)
  slices_IndexFunc_int_int__impl_nats_1_L0 N N a471 x472 (0 : Int)
    (fun x517 =>
      k0 x517)
    (
      k0 (-1 : Int))
theorem slices_IndexFunc_int_int__impl_nats_1.ex : ∃ f : ((α : Type) → Nat → List (List Int) → (Int → Option α) → Option α), f = fun α => @slices_IndexFunc_int_int__impl_nats_1.b α := ⟨_, rfl⟩
noncomputable def slices_IndexFunc_int_int__impl_nats_1 {α : Type} : Nat → List (List Int) → (Int → Option α) → Option α := Classical.choose slices_IndexFunc_int_int__impl_nats_1.ex α
theorem slices_IndexFunc_int_int__impl_nats_1.eq : @slices_IndexFunc_int_int__impl_nats_1 = @slices_IndexFunc_int_int__impl_nats_1.b := funext fun α => congrFun (Classical.choose_spec slices_IndexFunc_int_int__impl_nats_1.ex) α

/-- slices.ContainsFunc[[][]int,[]int] -/
noncomputable def slices_ContainsFunc_int_int__impl_nats_1.b {α : Type} (N : Nat) (a470 : List (List Int)) (k0 : Bool → Option α) : Option α :=
  slices_IndexFunc_int_int__impl_nats_1 N a470
    (fun x518 =>
      let x519 := (decide ((0 : Int) ≤ x518))
      k0 x519)
theorem slices_ContainsFunc_int_int__impl_nats_1.ex : ∃ f : ((α : Type) → Nat → List (List Int) → (Bool → Option α) → Option α), f = fun α => @slices_ContainsFunc_int_int__impl_nats_1.b α := ⟨_, rfl⟩
noncomputable def slices_ContainsFunc_int_int__impl_nats_1 {α : Type} : Nat → List (List Int) → (Bool → Option α) → Option α := Classical.choose slices_ContainsFunc_int_int__impl_nats_1.ex α
theorem slices_ContainsFunc_int_int__impl_nats_1.eq : @slices_ContainsFunc_int_int__impl_nats_1 = @slices_ContainsFunc_int_int__impl_nats_1.b := funext fun α => congrFun (Classical.choose_spec slices_ContainsFunc_int_int__impl_nats_1.ex) α

/-- loop.example/pinfold/impl.nats -/
noncomputable def impl_nats.b {α : Type} (N : Nat) (a469 : List (List Int)) (k0 : Bool → Option α) : Option α :=
  slices_ContainsFunc_int_int__impl_nats_1 N a469
    (fun x520 =>
      let x521 := !x520
      k0 x521)
theorem impl_nats.ex : ∃ f : ((α : Type) → Nat → List (List Int) → (Bool → Option α) → Option α), f = fun α => @impl_nats.b α := ⟨_, rfl⟩
noncomputable def impl_nats {α : Type} : Nat → List (List Int) → (Bool → Option α) → Option α := Classical.choose impl_nats.ex α
theorem impl_nats.eq : @impl_nats = @impl_nats.b := funext fun α => congrFun (Classical.choose_spec impl_nats.ex) α

noncomputable def impl_natCmp_L0r {α : Type} (N : Nat) (next : List Int → List Int → Int → Option α) (k0 : Int → Option α) (k1 : Option α) (v616 : List Int) (v617 : List Int) (v618 : Int) : Option α :=
  let x619 := (decide ((0 : Int) ≤ v618))
  bif x619 then
    bif (decide (v618 < (0 : Int))) then
      none
    else
      match v616[v618.toNat]? with
      | some x620 =>
        bif (decide (v618 < (0 : Int))) then
          none
        else
          match v617[v618.toNat]? with
          | some x621 =>
            let x622 := !(decide (x620 = x621))
            bif x622 then
              bif (decide (v618 < (0 : Int))) then
                none
              else
                match v616[v618.toNat]? with
                | some x623 =>
                  bif (decide (v618 < (0 : Int))) then
                    none
                  else
                    match v617[v618.toNat]? with
                    | some x624 =>
                      let x625 := IntKind.i64.wrap (x623 - x624)
                      let x626 := (minI (1 : Int) x625)
                      let x627 := (maxI (-1 : Int) x626)
                      k0 x627
                    | none => none
                | none => none
            else
              let x628 := (IntKind.i64.wrap (v618 - (1 : Int)))
              next v616 v617 x628
          | none => none
      | none => none
  else
    k1
noncomputable def impl_natCmp_L0.b {α : Type} (N n : Nat) (v616 : List Int) (v617 : List Int) (v618 : Int) (k0 : Int → Option α) (k1 : Option α) : Option α :=
  Nat.rec (motive := fun _ => List Int → List Int → Int → Option α) (fun _ _ _ => none) (fun _ next => impl_natCmp_L0r N next k0 k1) n v616 v617 v618
theorem impl_natCmp_L0.ex : ∃ f : ((α : Type) → Nat → Nat → List Int → List Int → Int → (Int → Option α) → (Option α) → Option α), f = fun α => @impl_natCmp_L0.b α := ⟨_, rfl⟩
noncomputable def impl_natCmp_L0 {α : Type} : Nat → Nat → List Int → List Int → Int → (Int → Option α) → (Option α) → Option α := Classical.choose impl_natCmp_L0.ex α
theorem impl_natCmp_L0.eq : @impl_natCmp_L0 = @impl_natCmp_L0.b := funext fun α => congrFun (Classical.choose_spec impl_natCmp_L0.ex) α
theorem impl_natCmp_L0.zero {α : Type} (N : Nat) (v616 : List Int) (v617 : List Int) (v618 : Int) (k0 : Int → Option α) (k1 : Option α) : impl_natCmp_L0 N 0 v616 v617 v618 k0 k1 = none := by rw [impl_natCmp_L0.eq]; rfl
theorem impl_natCmp_L0.succ {α : Type} (N n : Nat) (v616 : List Int) (v617 : List Int) (v618 : Int) (k0 : Int → Option α) (k1 : Option α) : impl_natCmp_L0 N (n + 1) v616 v617 v618 k0 k1 = impl_natCmp_L0r N (fun y0 y1 y2 => impl_natCmp_L0 N n y0 y1 y2 k0 k1) k0 k1 v616 v617 v618 := by rw [impl_natCmp_L0.eq]; rfl
/-- loop.example/pinfold/impl.natCmp -/
noncomputable def impl_natCmp.b {α : Type} (N : Nat) (a604 : List Int) (a605 : List Int) (k0 : Int → Option α) : Option α :=
  let x606 := ((a604.length : Nat) : Int)
  let x607 := ((a605.length : Nat) : Int)
  let x608 := !(decide (x606 = x607))
  bif x608 then
    let x609 := ((a604.length : Nat) : Int)
    let x610 := ((a605.length : Nat) : Int)
    let x611 := IntKind.i64.wrap (x609 - x610)
    let x612 := (minI (1 : Int) x611)
    let x613 := (maxI (-1 : Int) x612)
    k0 x613
  else
    let x614 := ((a604.length : Nat) : Int)
    let x615 := (IntKind.i64.wrap (x614 - (1 : Int)))
    impl_natCmp_L0 N N a604 a605 x615
      (fun x629 =>
        k0 x629)
      (
        k0 (0 : Int))
theorem impl_natCmp.ex : ∃ f : ((α : Type) → Nat → List Int → List Int → (Int → Option α) → Option α), f = fun α => @impl_natCmp.b α := ⟨_, rfl⟩
noncomputable def impl_natCmp {α : Type} : Nat → List Int → List Int → (Int → Option α) → Option α := Classical.choose impl_natCmp.ex α
theorem impl_natCmp.eq : @impl_natCmp = @impl_natCmp.b := funext fun α => congrFun (Classical.choose_spec impl_natCmp.ex) α

noncomputable def impl_trim_L0r {α : Type} (N : Nat) (next : List Int → Option α) (k0 : List Int → Option α) (v657 : List Int) : Option α :=
  let x658 := ((v657.length : Nat) : Int)
  let x659 := (decide ((0 : Int) < x658))
  bif x659 then
    let x660 := ((v657.length : Nat) : Int)
    let x661 := (IntKind.i64.wrap (x660 - (1 : Int)))
    bif (decide (x661 < (0 : Int))) then
      none
    else
      match v657[x661.toNat]? with
      | some x662 =>
        let x663 := (decide (x662 = (0 : Int)))
        bif x663 then
          let x664 := ((v657.length : Nat) : Int)
          let x665 := (IntKind.i64.wrap (x664 - (1 : Int)))
          bif (decide ((0 : Int) ≤ x665)) then
            bif (decide (x665 ≤ ((v657.length : Nat) : Int))) then
              let x666 := v657.take x665.toNat
              next x666
            else
              none
          else
            none
        else
          k0 v657
      | none => none
  else
    k0 v657
noncomputable def impl_trim_L0.b {α : Type} (N n : Nat) (v657 : List Int) (k0 : List Int → Option α) : Option α :=
  Nat.rec (motive := fun _ => List Int → Option α) (fun _ => none) (fun _ next => impl_trim_L0r N next k0) n v657
theorem impl_trim_L0.ex : ∃ f : ((α : Type) → Nat → Nat → List Int → (List Int → Option α) → Option α), f = fun α => @impl_trim_L0.b α := ⟨_, rfl⟩
noncomputable def impl_trim_L0 {α : Type} : Nat → Nat → List Int → (List Int → Option α) → Option α := Classical.choose impl_trim_L0.ex α
theorem impl_trim_L0.eq : @impl_trim_L0 = @impl_trim_L0.b := funext fun α => congrFun (Classical.choose_spec impl_trim_L0.ex) α
theorem impl_trim_L0.zero {α : Type} (N : Nat) (v657 : List Int) (k0 : List Int → Option α) : impl_trim_L0 N 0 v657 k0 = none := by rw [impl_trim_L0.eq]; rfl
theorem impl_trim_L0.succ {α : Type} (N n : Nat) (v657 : List Int) (k0 : List Int → Option α) : impl_trim_L0 N (n + 1) v657 k0 = impl_trim_L0r N (fun y0 => impl_trim_L0 N n y0 k0) k0 v657 := by rw [impl_trim_L0.eq]; rfl
/-- loop.example/pinfold/impl.trim -/
noncomputable def impl_trim.b {α : Type} (N : Nat) (a656 : List Int) (k0 : List Int → Option α) : Option α :=
  impl_trim_L0 N N a656
    (fun x667 =>
      k0 x667)
theorem impl_trim.ex : ∃ f : ((α : Type) → Nat → List Int → (List Int → Option α) → Option α), f = fun α => @impl_trim.b α := ⟨_, rfl⟩
noncomputable def impl_trim {α : Type} : Nat → List Int → (List Int → Option α) → Option α := Classical.choose impl_trim.ex α
theorem impl_trim.eq : @impl_trim = @impl_trim.b := funext fun α => congrFun (Classical.choose_spec impl_trim.ex) α

noncomputable def math_bits_Len64_J1.b {α : Type} (N : Nat) (v677 : Int) (v678 : Int) (k0 : Int → Int → Option α) : Option α :=
  let x679 := (decide ((4294967296 : Int) ≤ v677))
  bif x679 then
    let x680 := (shrI .u64 v677 (32 : Int))
    k0 x680 (32 : Int)
  else
    k0 v677 v678
theorem math_bits_Len64_J1.ex : ∃ f : ((α : Type) → Nat → Int → Int → (Int → Int → Option α) → Option α), f = fun α => @math_bits_Len64_J1.b α := ⟨_, rfl⟩
noncomputable def math_bits_Len64_J1 {α : Type} : Nat → Int → Int → (Int → Int → Option α) → Option α := Classical.choose math_bits_Len64_J1.ex α
theorem math_bits_Len64_J1.eq : @math_bits_Len64_J1 = @math_bits_Len64_J1.b := funext fun α => congrFun (Classical.choose_spec math_bits_Len64_J1.ex) α
noncomputable def math_bits_Len64_J4.b {α : Type} (N : Nat) (v683 : Int) (v684 : Int) (k0 : Int → Int → Option α) : Option α :=
  let x685 := (decide ((65536 : Int) ≤ v683))
  bif x685 then
    let x686 := (shrI .u64 v683 (16 : Int))
    let x687 := (IntKind.i64.wrap (v684 + (16 : Int)))
    k0 x686 x687
  else
    k0 v683 v684
theorem math_bits_Len64_J4.ex : ∃ f : ((α : Type) → Nat → Int → Int → (Int → Int → Option α) → Option α), f = fun α => @math_bits_Len64_J4.b α := ⟨_, rfl⟩
noncomputable def math_bits_Len64_J4 {α : Type} : Nat → Int → Int → (Int → Int → Option α) → Option α := Classical.choose math_bits_Len64_J4.ex α
theorem math_bits_Len64_J4.eq : @math_bits_Len64_J4 = @math_bits_Len64_J4.b := funext fun α => congrFun (Classical.choose_spec math_bits_Len64_J4.ex) α
noncomputable def math_bits_Len64_J7.b {α : Type} (N : Nat) (v690 : Int) (v691 : Int) (k0 : Int → Int → Option α) : Option α :=
  let x692 := (decide ((256 : Int) ≤ v690))
  bif x692 then
    let x693 := (shrI .u64 v690 (8 : Int))
    let x694 := (IntKind.i64.wrap (v691 + (8 : Int)))
    k0 x693 x694
  else
    k0 v690 v691
theorem math_bits_Len64_J7.ex : ∃ f : ((α : Type) → Nat → Int → Int → (Int → Int → Option α) → Option α), f = fun α => @math_bits_Len64_J7.b α := ⟨_, rfl⟩
noncomputable def math_bits_Len64_J7 {α : Type} : Nat → Int → Int → (Int → Int → Option α) → Option α := Classical.choose math_bits_Len64_J7.ex α
theorem math_bits_Len64_J7.eq : @math_bits_Len64_J7 = @math_bits_Len64_J7.b := funext fun α => congrFun (Classical.choose_spec math_bits_Len64_J7.ex) α
/-- math/bits.Len64 -/
noncomputable def math_bits_Len64.b {α : Type} (N : Nat) (a676 : Int) (k0 : Int → Option α) : Option α :=
  math_bits_Len64_J1 N a676 (0 : Int)
    (fun x681 x682 =>
      math_bits_Len64_J4 N x681 x682
        (fun x688 x689 =>
          math_bits_Len64_J7 N x688 x689
            (fun x695 x696 =>
              let x697 := IntKind.u8.wrap x695
              bif (decide (x697 < (0 : Int))) then
                none
              else
                match ((⟨#[0, 1, 2, 2, 3, 3, 3, 3, 4, 4, 4, 4, 4, 4, 4, 4, 5, 5, 5, 5, 5, 5, 5, 5, 5, 5, 5, 5, 5, 5, 5, 5, 6, 6, 6, 6, 6, 6, 6, 6, 6, 6, 6, 6, 6, 6, 6, 6, 6, 6, 6, 6, 6, 6, 6, 6, 6, 6, 6, 6, 6, 6, 6, 6, 7, 7, 7, 7, 7, 7, 7, 7, 7, 7, 7, 7, 7, 7, 7, 7, 7, 7, 7, 7, 7, 7, 7, 7, 7, 7, 7, 7, 7, 7, 7, 7, 7, 7, 7, 7, 7, 7, 7, 7, 7, 7, 7, 7, 7, 7, 7, 7, 7, 7, 7, 7, 7, 7, 7, 7, 7, 7, 7, 7, 7, 7, 7, 7, 8, 8, 8, 8, 8, 8, 8, 8, 8, 8, 8, 8, 8, 8, 8, 8, 8, 8, 8, 8, 8, 8, 8, 8, 8, 8, 8, 8, 8, 8, 8, 8, 8, 8, 8, 8, 8, 8, 8, 8, 8, 8, 8, 8, 8, 8, 8, 8, 8, 8, 8, 8, 8, 8, 8, 8, 8, 8, 8, 8, 8, 8, 8, 8, 8, 8, 8, 8, 8, 8, 8, 8, 8, 8, 8, 8, 8, 8, 8, 8, 8, 8, 8, 8, 8, 8, 8, 8, 8, 8, 8, 8, 8, 8, 8, 8, 8, 8, 8, 8, 8, 8, 8, 8, 8, 8, 8, 8, 8, 8, 8, 8, 8, 8, 8, 8, 8, 8, 8, 8, 8, 8, 8, 8, 8, 8, 8, 8]⟩ : ByteArray)[x697.toNat]? : Option UInt8) with
                | some x698 =>
                  let x699 := ((x698.toNat : Nat) : Int)
                  let x700 := IntKind.i64.wrap x699
                  let x701 := IntKind.i64.wrap (x696 + x700)
                  k0 x701
                | none => none)))
theorem math_bits_Len64.ex : ∃ f : ((α : Type) → Nat → Int → (Int → Option α) → Option α), f = fun α => @math_bits_Len64.b α := ⟨_, rfl⟩
noncomputable def math_bits_Len64 {α : Type} : Nat → Int → (Int → Option α) → Option α := Classical.choose math_bits_Len64.ex α
theorem math_bits_Len64.eq : @math_bits_Len64 = @math_bits_Len64.b := funext fun α => congrFun (Classical.choose_spec math_bits_Len64.ex) α

/-- math/bits.Len -/
noncomputable def math_bits_Len.b {α : Type} (N : Nat) (a675 : Int) (k0 : Int → Option α) : Option α :=
  math_bits_Len64 N a675
    (fun x702 =>
      k0 x702)
theorem math_bits_Len.ex : ∃ f : ((α : Type) → Nat → Int → (Int → Option α) → Option α), f = fun α => @math_bits_Len.b α := ⟨_, rfl⟩
noncomputable def math_bits_Len {α : Type} : Nat → Int → (Int → Option α) → Option α := Classical.choose math_bits_Len.ex α
theorem math_bits_Len.eq : @math_bits_Len = @math_bits_Len.b := funext fun α => congrFun (Classical.choose_spec math_bits_Len.ex) α

/-- slices.Clone[[]int,int] -/
noncomputable def slices_Clone_int_int {α : Type} (N : Nat) (a1 : List Int) (k0 : List Int → Option α) : Option α :=
  bif decide (([] : List Int).length + a1.length ≤ 8796093022208) then k0 a1 else none

noncomputable def impl_natShift_J10.b {α : Type} (N : Nat) (v781 : List Int) (v782 : Int) (v783 : Int) (v784 : Int) (v785 : Int) (v786 : Int) (v787 : List Int) (k0 : List Int → Int → Int → Int → Int → List Int → Option α) : Option α :=
  let x788 := IntKind.i64.wrap (v782 + v784)
  let x789 := (IntKind.i64.wrap (x788 + (1 : Int)))
  let x790 := ((v781.length : Nat) : Int)
  let x791 := decide (x789 < x790)
  bif x791 then
    bif (decide (v784 < (0 : Int))) then
      none
    else
      bif decide (v784.toNat < v787.length) then
        match v787[v784.toNat]? with
        | some x792 =>
          let x793 := IntKind.i64.wrap (v782 + v784)
          let x794 := (IntKind.i64.wrap (x793 + (1 : Int)))
          bif (decide (x794 < (0 : Int))) then
            none
          else
            match v781[x794.toNat]? with
            | some x795 =>
              let x796 := (IntKind.i64.wrap ((16 : Int) - v783))
              bif (decide (x796 < (0 : Int))) then
                none
              else
                let x797 := shlI .i64 x795 x796
                let x798 := (bitI .and .i64 x797 (65535 : Int))
                let x799 := bitI .or .i64 x792 x798
                bif (decide (v784 < (0 : Int))) then
                  none
                else
                  bif decide (v784.toNat < v787.length) then
                    match v787[v784.toNat]? with
                    | some x800 =>
                      let x801 := v787.set v784.toNat x799
                      k0 v781 v782 v783 v785 v786 x801
                    | none => none
                  else
                    none
            | none => none
        | none => none
      else
        none
  else
    k0 v781 v782 v783 v785 v786 v787
theorem impl_natShift_J10.ex : ∃ f : ((α : Type) → Nat → List Int → Int → Int → Int → Int → Int → List Int → (List Int → Int → Int → Int → Int → List Int → Option α) → Option α), f = fun α => @impl_natShift_J10.b α := ⟨_, rfl⟩
noncomputable def impl_natShift_J10 {α : Type} : Nat → List Int → Int → Int → Int → Int → Int → List Int → (List Int → Int → Int → Int → Int → List Int → Option α) → Option α := Classical.choose impl_natShift_J10.ex α
theorem impl_natShift_J10.eq : @impl_natShift_J10 = @impl_natShift_J10.b := funext fun α => congrFun (Classical.choose_spec impl_natShift_J10.ex) α
noncomputable def impl_natShift_L0r {α : Type} (N : Nat) (next : List Int → Int → Int → Int → Int → List Int → Option α) (k0 : List Int → Option α) (v770 : List Int) (v771 : Int) (v772 : Int) (v773 : Int) (v774 : Int) (v775 : List Int) : Option α :=
  let x776 := decide (v774 < v773)
  bif x776 then
    bif (decide (v774 < (0 : Int))) then
      none
    else
      bif decide (v774.toNat < v775.length) then
        match v775[v774.toNat]? with
        | some x777 =>
          bif (decide (v772 < (0 : Int))) then
            none
          else
            let x778 := shrI .i64 x777 v772
            bif (decide (v774 < (0 : Int))) then
              none
            else
              bif decide (v774.toNat < v775.length) then
                match v775[v774.toNat]? with
                | some x779 =>
                  let x780 := v775.set v774.toNat x778
                  impl_natShift_J10 N v770 v771 v772 v774 v773 v774 x780
                    (fun x802 x803 x804 x805 x806 x807 =>
                      let x808 := (IntKind.i64.wrap (x806 + (1 : Int)))
                      next x802 x803 x804 x805 x808 x807)
                | none => none
              else
                none
        | none => none
      else
        none
  else
    k0 v775
noncomputable def impl_natShift_L0.b {α : Type} (N n : Nat) (v770 : List Int) (v771 : Int) (v772 : Int) (v773 : Int) (v774 : Int) (v775 : List Int) (k0 : List Int → Option α) : Option α :=
  Nat.rec (motive := fun _ => List Int → Int → Int → Int → Int → List Int → Option α) (fun _ _ _ _ _ _ => none) (fun _ next => impl_natShift_L0r N next k0) n v770 v771 v772 v773 v774 v775
theorem impl_natShift_L0.ex : ∃ f : ((α : Type) → Nat → Nat → List Int → Int → Int → Int → Int → List Int → (List Int → Option α) → Option α), f = fun α => @impl_natShift_L0.b α := ⟨_, rfl⟩
noncomputable def impl_natShift_L0 {α : Type} : Nat → Nat → List Int → Int → Int → Int → Int → List Int → (List Int → Option α) → Option α := Classical.choose impl_natShift_L0.ex α
theorem impl_natShift_L0.eq : @impl_natShift_L0 = @impl_natShift_L0.b := funext fun α => congrFun (Classical.choose_spec impl_natShift_L0.ex) α
theorem impl_natShift_L0.zero {α : Type} (N : Nat) (v770 : List Int) (v771 : Int) (v772 : Int) (v773 : Int) (v774 : Int) (v775 : List Int) (k0 : List Int → Option α) : impl_natShift_L0 N 0 v770 v771 v772 v773 v774 v775 k0 = none := by rw [impl_natShift_L0.eq]; rfl
theorem impl_natShift_L0.succ {α : Type} (N n : Nat) (v770 : List Int) (v771 : Int) (v772 : Int) (v773 : Int) (v774 : Int) (v775 : List Int) (k0 : List Int → Option α) : impl_natShift_L0 N (n + 1) v770 v771 v772 v773 v774 v775 k0 = impl_natShift_L0r N (fun y0 y1 y2 y3 y4 y5 => impl_natShift_L0 N n y0 y1 y2 y3 y4 y5 k0) k0 v770 v771 v772 v773 v774 v775 := by rw [impl_natShift_L0.eq]; rfl
noncomputable def impl_natShift_L2r {α : Type} (N : Nat) (next : Int → List Int → Int → Int → List Int → Option α) (k0 : List Int → Option α) (v817 : Int) (v818 : List Int) (v819 : Int) (v820 : Int) (v821 : List Int) : Option α :=
  let x822 := decide (v820 < v819)
  bif x822 then
    bif (decide (v820 < (0 : Int))) then
      none
    else
      match v818[v820.toNat]? with
      | some x823 =>
        let x824 := (Int.tmod v817 (16 : Int))
        bif (decide (x824 < (0 : Int))) then
          none
        else
          let x825 := shlI .i64 x823 x824
          let x826 := (IntKind.i64.wrap (Int.tdiv v817 (16 : Int)))
          let x827 := IntKind.i64.wrap (x826 + v820)
          bif (decide (x827 < (0 : Int))) then
            none
          else
            bif decide (x827.toNat < v821.length) then
              match v821[x827.toNat]? with
              | some x828 =>
                let x829 := (bitI .and .i64 x825 (65535 : Int))
                let x830 := bitI .or .i64 x828 x829
                bif (decide (x827 < (0 : Int))) then
                  none
                else
                  bif decide (x827.toNat < v821.length) then
                    match v821[x827.toNat]? with
                    | some x831 =>
                      let x832 := v821.set x827.toNat x830
                      let x833 := (IntKind.i64.wrap (Int.tdiv v817 (16 : Int)))
                      let x834 := IntKind.i64.wrap (x833 + v820)
                      let x835 := (IntKind.i64.wrap (x834 + (1 : Int)))
                      let x836 := (shrI .i64 x825 (16 : Int))
                      bif (decide (x835 < (0 : Int))) then
                        none
                      else
                        bif decide (x835.toNat < x832.length) then
                          match x832[x835.toNat]? with
                          | some x837 =>
                            let x838 := x832.set x835.toNat x836
                            let x839 := (IntKind.i64.wrap (v820 + (1 : Int)))
                            next v817 v818 v819 x839 x838
                          | none => none
                        else
                          none
                    | none => none
                  else
                    none
              | none => none
            else
              none
      | none => none
  else
    k0 v821
noncomputable def impl_natShift_L2.b {α : Type} (N n : Nat) (v817 : Int) (v818 : List Int) (v819 : Int) (v820 : Int) (v821 : List Int) (k0 : List Int → Option α) : Option α :=
  Nat.rec (motive := fun _ => Int → List Int → Int → Int → List Int → Option α) (fun _ _ _ _ _ => none) (fun _ next => impl_natShift_L2r N next k0) n v817 v818 v819 v820 v821
theorem impl_natShift_L2.ex : ∃ f : ((α : Type) → Nat → Nat → Int → List Int → Int → Int → List Int → (List Int → Option α) → Option α), f = fun α => @impl_natShift_L2.b α := ⟨_, rfl⟩
noncomputable def impl_natShift_L2 {α : Type} : Nat → Nat → Int → List Int → Int → Int → List Int → (List Int → Option α) → Option α := Classical.choose impl_natShift_L2.ex α
theorem impl_natShift_L2.eq : @impl_natShift_L2 = @impl_natShift_L2.b := funext fun α => congrFun (Classical.choose_spec impl_natShift_L2.ex) α
theorem impl_natShift_L2.zero {α : Type} (N : Nat) (v817 : Int) (v818 : List Int) (v819 : Int) (v820 : Int) (v821 : List Int) (k0 : List Int → Option α) : impl_natShift_L2 N 0 v817 v818 v819 v820 v821 k0 = none := by rw [impl_natShift_L2.eq]; rfl
theorem impl_natShift_L2.succ {α : Type} (N n : Nat) (v817 : Int) (v818 : List Int) (v819 : Int) (v820 : Int) (v821 : List Int) (k0 : List Int → Option α) : impl_natShift_L2 N (n + 1) v817 v818 v819 v820 v821 k0 = impl_natShift_L2r N (fun y0 y1 y2 y3 y4 => impl_natShift_L2 N n y0 y1 y2 y3 y4 k0) k0 v817 v818 v819 v820 v821 := by rw [impl_natShift_L2.eq]; rfl
/-- loop.example/pinfold/impl.natShift -/
noncomputable def impl_natShift.b {α : Type} (N : Nat) (a758 : List Int) (a759 : Int) (k0 : List Int → Option α) : Option α :=
  let x760 := (decide (a759 < (0 : Int)))
  bif x760 then
    let x761 := IntKind.i64.wrap (0 - a759)
    let x762 := (IntKind.i64.wrap (Int.tdiv x761 (16 : Int)))
    let x763 := IntKind.i64.wrap (0 - a759)
    let x764 := (Int.tmod x763 (16 : Int))
    let x765 := ((a758.length : Nat) : Int)
    let x766 := decide (x765 ≤ x762)
    bif x766 then
      k0 []
    else
      bif (decide ((0 : Int) ≤ x762)) then
        bif (decide (x762 ≤ ((a758.length : Nat) : Int))) then
          let x767 := a758.drop x762.toNat
          slices_Clone_int_int N x767
            (fun x768 =>
              let x769 := ((x768.length : Nat) : Int)
              impl_natShift_L0 N N a758 x762 x764 x769 (0 : Int) x768
                (fun x809 =>
                  impl_trim N x809
                    (fun x810 =>
                      k0 x810)))
        else
          none
      else
        none
  else
    let x811 := (IntKind.i64.wrap (Int.tdiv a759 (16 : Int)))
    let x812 := ((a758.length : Nat) : Int)
    let x813 := IntKind.i64.wrap (x811 + x812)
    let x814 := (IntKind.i64.wrap (x813 + (1 : Int)))
    bif (decide ((0 : Int) ≤ x814)) then
      bif decide (x814 ≤ x814) then
        bif (decide (x814 ≤ ((8796093022208 : Nat) : Int))) then
          let x815 := (List.replicate x814.toNat (0 : Int))
          let x816 := ((a758.length : Nat) : Int)
          impl_natShift_L2 N N a759 a758 x816 (0 : Int) x815
            (fun x840 =>
              impl_trim N x840
                (fun x841 =>
                  k0 x841))
        else
          none
      else
        none
    else
      none
theorem impl_natShift.ex : ∃ f : ((α : Type) → Nat → List Int → Int → (List Int → Option α) → Option α), f = fun α => @impl_natShift.b α := ⟨_, rfl⟩
noncomputable def impl_natShift {α : Type} : Nat → List Int → Int → (List Int → Option α) → Option α := Classical.choose impl_natShift.ex α
theorem impl_natShift.eq : @impl_natShift = @impl_natShift.b := funext fun α => congrFun (Classical.choose_spec impl_natShift.ex) α

noncomputable def impl_natDiv_L0r {α : Type} (N : Nat) (next : List Int → List Int → Int → Int → List Int → Option α) (k0 : Int → List Int → Option α) (v638 : List Int) (v639 : List Int) (v640 : Int) (v641 : Int) (v642 : List Int) : Option α :=
  let x643 := (decide ((0 : Int) ≤ v641))
  bif x643 then
    let x644 := (shlI .i64 v640 (16 : Int))
    bif (decide (v641 < (0 : Int))) then
      none
    else
      match v638[v641.toNat]? with
      | some x645 =>
        let x646 := bitI .or .i64 x644 x645
        match v639[0]? with
        | some x647 =>
          bif (decide (x647 = (0 : Int))) then
            none
          else
            let x648 := IntKind.i64.wrap (Int.tdiv x646 x647)
            match v639[0]? with
            | some x649 =>
              bif (decide (x649 = (0 : Int))) then
                none
              else
                let x650 := Int.tmod x646 x649
                bif (decide (v641 < (0 : Int))) then
                  none
                else
                  bif decide (v641.toNat < v642.length) then
                    match v642[v641.toNat]? with
                    | some x651 =>
                      let x652 := v642.set v641.toNat x648
                      let x653 := (IntKind.i64.wrap (v641 - (1 : Int)))
                      next v638 v639 x650 x653 x652
                    | none => none
                  else
                    none
            | none => none
        | none => none
      | none => none
  else
    k0 v640 v642
noncomputable def impl_natDiv_L0.b {α : Type} (N n : Nat) (v638 : List Int) (v639 : List Int) (v640 : Int) (v641 : Int) (v642 : List Int) (k0 : Int → List Int → Option α) : Option α :=
  Nat.rec (motive := fun _ => List Int → List Int → Int → Int → List Int → Option α) (fun _ _ _ _ _ => none) (fun _ next => impl_natDiv_L0r N next k0) n v638 v639 v640 v641 v642
theorem impl_natDiv_L0.ex : ∃ f : ((α : Type) → Nat → Nat → List Int → List Int → Int → Int → List Int → (Int → List Int → Option α) → Option α), f = fun α => @impl_natDiv_L0.b α := ⟨_, rfl⟩
noncomputable def impl_natDiv_L0 {α : Type} : Nat → Nat → List Int → List Int → Int → Int → List Int → (Int → List Int → Option α) → Option α := Classical.choose impl_natDiv_L0.ex α
theorem impl_natDiv_L0.eq : @impl_natDiv_L0 = @impl_natDiv_L0.b := funext fun α => congrFun (Classical.choose_spec impl_natDiv_L0.ex) α
theorem impl_natDiv_L0.zero {α : Type} (N : Nat) (v638 : List Int) (v639 : List Int) (v640 : Int) (v641 : Int) (v642 : List Int) (k0 : Int → List Int → Option α) : impl_natDiv_L0 N 0 v638 v639 v640 v641 v642 k0 = none := by rw [impl_natDiv_L0.eq]; rfl
theorem impl_natDiv_L0.succ {α : Type} (N n : Nat) (v638 : List Int) (v639 : List Int) (v640 : Int) (v641 : Int) (v642 : List Int) (k0 : Int → List Int → Option α) : impl_natDiv_L0 N (n + 1) v638 v639 v640 v641 v642 k0 = impl_natDiv_L0r N (fun y0 y1 y2 y3 y4 => impl_natDiv_L0 N n y0 y1 y2 y3 y4 k0) k0 v638 v639 v640 v641 v642 := by rw [impl_natDiv_L0.eq]; rfl
noncomputable def impl_natDiv_L2r {α : Type} (N : Nat) (next : List Int → Int → List Int → Int → List Int → Option α) (k0 : Int → List Int → Int → List Int → Option α) (v848 : List Int) (v849 : Int) (v850 : List Int) (v851 : Int) (v852 : List Int) : Option α :=
  let x853 := ((v852.length : Nat) : Int)
  let x854 := ((v848.length : Nat) : Int)
  let x855 := (IntKind.i64.wrap (x854 + (1 : Int)))
  let x856 := decide (x853 < x855)
  bif x856 then
    let x857 := [(0 : Int)]
    bif decide (v852.length + x857.length ≤ 8796093022208) then
      let x858 := v852 ++ x857
      next v848 v849 v850 v851 x858
    else
      none
  else
    k0 v849 v850 v851 v852
noncomputable def impl_natDiv_L2.b {α : Type} (N n : Nat) (v848 : List Int) (v849 : Int) (v850 : List Int) (v851 : Int) (v852 : List Int) (k0 : Int → List Int → Int → List Int → Option α) : Option α :=
  Nat.rec (motive := fun _ => List Int → Int → List Int → Int → List Int → Option α) (fun _ _ _ _ _ => none) (fun _ next => impl_natDiv_L2r N next k0) n v848 v849 v850 v851 v852
theorem impl_natDiv_L2.ex : ∃ f : ((α : Type) → Nat → Nat → List Int → Int → List Int → Int → List Int → (Int → List Int → Int → List Int → Option α) → Option α), f = fun α => @impl_natDiv_L2.b α := ⟨_, rfl⟩
noncomputable def impl_natDiv_L2 {α : Type} : Nat → Nat → List Int → Int → List Int → Int → List Int → (Int → List Int → Int → List Int → Option α) → Option α := Classical.choose impl_natDiv_L2.ex α
theorem impl_natDiv_L2.eq : @impl_natDiv_L2 = @impl_natDiv_L2.b := funext fun α => congrFun (Classical.choose_spec impl_natDiv_L2.ex) α
theorem impl_natDiv_L2.zero {α : Type} (N : Nat) (v848 : List Int) (v849 : Int) (v850 : List Int) (v851 : Int) (v852 : List Int) (k0 : Int → List Int → Int → List Int → Option α) : impl_natDiv_L2 N 0 v848 v849 v850 v851 v852 k0 = none := by rw [impl_natDiv_L2.eq]; rfl
theorem impl_natDiv_L2.succ {α : Type} (N n : Nat) (v848 : List Int) (v849 : Int) (v850 : List Int) (v851 : Int) (v852 : List Int) (k0 : Int → List Int → Int → List Int → Option α) : impl_natDiv_L2 N (n + 1) v848 v849 v850 v851 v852 k0 = impl_natDiv_L2r N (fun y0 y1 y2 y3 y4 => impl_natDiv_L2 N n y0 y1 y2 y3 y4 k0) k0 v848 v849 v850 v851 v852 := by rw [impl_natDiv_L2.eq]; rfl
noncomputable def impl_natDiv_L6r {α : Type} (N : Nat) (next : Int → List Int → Int → Int → Int → Int → List Int → List Int → Option α) (k0 : Int → List Int → Int → Int → Int → List Int → List Int → Option α) (v889 : Int) (v890 : List Int) (v891 : Int) (v892 : Int) (v893 : Int) (v894 : Int) (v895 : List Int) (v896 : List Int) : Option α :=
  let x897 := (decide ((65536 : Int) ≤ v893))
  bif x897 then
    let x898 := (IntKind.i64.wrap (v893 - (1 : Int)))
    let x899 := (IntKind.i64.wrap (v891 - (1 : Int)))
    bif (decide (x899 < (0 : Int))) then
      none
    else
      match v890[x899.toNat]? with
      | some x900 =>
        let x901 := IntKind.i64.wrap (v894 + x900)
        let x902 := (decide ((65536 : Int) ≤ x901))
        bif x902 then
          k0 v889 v890 v891 v892 x898 v895 v896
        else
          next v889 v890 v891 v892 x898 x901 v895 v896
      | none => none
  else
    let x903 := (IntKind.i64.wrap (v891 - (2 : Int)))
    bif (decide (x903 < (0 : Int))) then
      none
    else
      match v890[x903.toNat]? with
      | some x904 =>
        let x905 := IntKind.i64.wrap (v893 * x904)
        let x906 := (shlI .i64 v894 (16 : Int))
        let x907 := IntKind.i64.wrap (v892 + v891)
        let x908 := (IntKind.i64.wrap (x907 - (2 : Int)))
        bif (decide (x908 < (0 : Int))) then
          none
        else
          bif decide (x908.toNat < v895.length) then
            match v895[x908.toNat]? with
            | some x909 =>
              let x910 := bitI .or .i64 x906 x909
              let x911 := decide (x910 < x905)
              bif x911 then
                let x912 := (IntKind.i64.wrap (v893 - (1 : Int)))
                let x913 := (IntKind.i64.wrap (v891 - (1 : Int)))
                bif (decide (x913 < (0 : Int))) then
                  none
                else
                  match v890[x913.toNat]? with
                  | some x914 =>
                    let x915 := IntKind.i64.wrap (v894 + x914)
                    let x916 := (decide ((65536 : Int) ≤ x915))
                    bif x916 then
                      k0 v889 v890 v891 v892 x912 v895 v896
                    else
                      next v889 v890 v891 v892 x912 x915 v895 v896
                  | none => none
              else
                k0 v889 v890 v891 v892 v893 v895 v896
            | none => none
          else
            none
      | none => none
noncomputable def impl_natDiv_L6.b {α : Type} (N n : Nat) (v889 : Int) (v890 : List Int) (v891 : Int) (v892 : Int) (v893 : Int) (v894 : Int) (v895 : List Int) (v896 : List Int) (k0 : Int → List Int → Int → Int → Int → List Int → List Int → Option α) : Option α :=
  Nat.rec (motive := fun _ => Int → List Int → Int → Int → Int → Int → List Int → List Int → Option α) (fun _ _ _ _ _ _ _ _ => none) (fun _ next => impl_natDiv_L6r N next k0) n v889 v890 v891 v892 v893 v894 v895 v896
theorem impl_natDiv_L6.ex : ∃ f : ((α : Type) → Nat → Nat → Int → List Int → Int → Int → Int → Int → List Int → List Int → (Int → List Int → Int → Int → Int → List Int → List Int → Option α) → Option α), f = fun α => @impl_natDiv_L6.b α := ⟨_, rfl⟩
noncomputable def impl_natDiv_L6 {α : Type} : Nat → Nat → Int → List Int → Int → Int → Int → Int → List Int → List Int → (Int → List Int → Int → Int → Int → List Int → List Int → Option α) → Option α := Classical.choose impl_natDiv_L6.ex α
theorem impl_natDiv_L6.eq : @impl_natDiv_L6 = @impl_natDiv_L6.b := funext fun α => congrFun (Classical.choose_spec impl_natDiv_L6.ex) α
theorem impl_natDiv_L6.zero {α : Type} (N : Nat) (v889 : Int) (v890 : List Int) (v891 : Int) (v892 : Int) (v893 : Int) (v894 : Int) (v895 : List Int) (v896 : List Int) (k0 : Int → List Int → Int → Int → Int → List Int → List Int → Option α) : impl_natDiv_L6 N 0 v889 v890 v891 v892 v893 v894 v895 v896 k0 = none := by rw [impl_natDiv_L6.eq]; rfl
theorem impl_natDiv_L6.succ {α : Type} (N n : Nat) (v889 : Int) (v890 : List Int) (v891 : Int) (v892 : Int) (v893 : Int) (v894 : Int) (v895 : List Int) (v896 : List Int) (k0 : Int → List Int → Int → Int → Int → List Int → List Int → Option α) : impl_natDiv_L6 N (n + 1) v889 v890 v891 v892 v893 v894 v895 v896 k0 = impl_natDiv_L6r N (fun y0 y1 y2 y3 y4 y5 y6 y7 => impl_natDiv_L6 N n y0 y1 y2 y3 y4 y5 y6 y7 k0) k0 v889 v890 v891 v892 v893 v894 v895 v896 := by rw [impl_natDiv_L6.eq]; rfl
noncomputable def impl_natDiv_J34.b {α : Type} (N : Nat) (v943 : Int) (v944 : List Int) (v945 : Int) (v946 : Int) (v947 : Int) (v948 : Int) (v949 : Int) (v950 : Int) (v951 : List Int) (v952 : Int) (v953 : Int) (v954 : List Int) (v955 : List Int) (k0 : Int → List Int → Int → Int → Int → Int → Int → Int → List Int → Int → Int → List Int → List Int → Option α) : Option α :=
  let x956 := (decide (v950 < (0 : Int)))
  bif x956 then
    let x957 := IntKind.i64.wrap (0 - v950)
    let x958 := (IntKind.i64.wrap (x957 + (65536 : Int)))
    let x959 := (IntKind.i64.wrap (x958 - (1 : Int)))
    let x960 := (IntKind.i64.wrap (Int.tdiv x959 (65536 : Int)))
    let x961 := (IntKind.i64.wrap (x960 * (65536 : Int)))
    let x962 := IntKind.i64.wrap (v950 + x961)
    k0 v943 v944 v945 v946 v947 x960 v949 x962 v951 v952 v953 v954 v955
  else
    k0 v943 v944 v945 v946 v947 v948 v949 v950 v951 v952 v953 v954 v955
theorem impl_natDiv_J34.ex : ∃ f : ((α : Type) → Nat → Int → List Int → Int → Int → Int → Int → Int → Int → List Int → Int → Int → List Int → List Int → (Int → List Int → Int → Int → Int → Int → Int → Int → List Int → Int → Int → List Int → List Int → Option α) → Option α), f = fun α => @impl_natDiv_J34.b α := ⟨_, rfl⟩
noncomputable def impl_natDiv_J34 {α : Type} : Nat → Int → List Int → Int → Int → Int → Int → Int → Int → List Int → Int → Int → List Int → List Int → (Int → List Int → Int → Int → Int → Int → Int → Int → List Int → Int → Int → List Int → List Int → Option α) → Option α := Classical.choose impl_natDiv_J34.ex α
theorem impl_natDiv_J34.eq : @impl_natDiv_J34 = @impl_natDiv_J34.b := funext fun α => congrFun (Classical.choose_spec impl_natDiv_J34.ex) α
noncomputable def impl_natDiv_L8r {α : Type} (N : Nat) (next : Int → List Int → Int → Int → Int → Int → List Int → Int → Int → List Int → List Int → Option α) (k0 : Int → List Int → Int → Int → Int → Int → List Int → List Int → Option α) (v925 : Int) (v926 : List Int) (v927 : Int) (v928 : Int) (v929 : Int) (v930 : Int) (v931 : List Int) (v932 : Int) (v933 : Int) (v934 : List Int) (v935 : List Int) : Option α :=
  let x936 := decide (v933 < v932)
  bif x936 then
    bif (decide (v933 < (0 : Int))) then
      none
    else
      match v931[v933.toNat]? with
      | some x937 =>
        let x938 := IntKind.i64.wrap (v928 + v933)
        bif (decide (x938 < (0 : Int))) then
          none
        else
          bif decide (x938.toNat < v934.length) then
            match v934[x938.toNat]? with
            | some x939 =>
              let x940 := IntKind.i64.wrap (x939 - v930)
              let x941 := IntKind.i64.wrap (v929 * x937)
              let x942 := IntKind.i64.wrap (x940 - x941)
              impl_natDiv_J34 N v925 v926 v927 v928 v929 (0 : Int) v933 x942 v931 v932 v933 v934 v935
                (fun x963 x964 x965 x966 x967 x968 x969 x970 x971 x972 x973 x974 x975 =>
                  let x976 := IntKind.i64.wrap (x966 + x969)
                  bif (decide (x976 < (0 : Int))) then
                    none
                  else
                    bif decide (x976.toNat < x974.length) then
                      match x974[x976.toNat]? with
                      | some x977 =>
                        let x978 := x974.set x976.toNat x970
                        let x979 := (IntKind.i64.wrap (x973 + (1 : Int)))
                        next x963 x964 x965 x966 x967 x968 x971 x972 x979 x978 x975
                      | none => none
                    else
                      none)
            | none => none
          else
            none
      | none => none
  else
    k0 v925 v926 v927 v928 v929 v930 v934 v935
noncomputable def impl_natDiv_L8.b {α : Type} (N n : Nat) (v925 : Int) (v926 : List Int) (v927 : Int) (v928 : Int) (v929 : Int) (v930 : Int) (v931 : List Int) (v932 : Int) (v933 : Int) (v934 : List Int) (v935 : List Int) (k0 : Int → List Int → Int → Int → Int → Int → List Int → List Int → Option α) : Option α :=
  Nat.rec (motive := fun _ => Int → List Int → Int → Int → Int → Int → List Int → Int → Int → List Int → List Int → Option α) (fun _ _ _ _ _ _ _ _ _ _ _ => none) (fun _ next => impl_natDiv_L8r N next k0) n v925 v926 v927 v928 v929 v930 v931 v932 v933 v934 v935
theorem impl_natDiv_L8.ex : ∃ f : ((α : Type) → Nat → Nat → Int → List Int → Int → Int → Int → Int → List Int → Int → Int → List Int → List Int → (Int → List Int → Int → Int → Int → Int → List Int → List Int → Option α) → Option α), f = fun α => @impl_natDiv_L8.b α := ⟨_, rfl⟩
noncomputable def impl_natDiv_L8 {α : Type} : Nat → Nat → Int → List Int → Int → Int → Int → Int → List Int → Int → Int → List Int → List Int → (Int → List Int → Int → Int → Int → Int → List Int → List Int → Option α) → Option α := Classical.choose impl_natDiv_L8.ex α
theorem impl_natDiv_L8.eq : @impl_natDiv_L8 = @impl_natDiv_L8.b := funext fun α => congrFun (Classical.choose_spec impl_natDiv_L8.ex) α
theorem impl_natDiv_L8.zero {α : Type} (N : Nat) (v925 : Int) (v926 : List Int) (v927 : Int) (v928 : Int) (v929 : Int) (v930 : Int) (v931 : List Int) (v932 : Int) (v933 : Int) (v934 : List Int) (v935 : List Int) (k0 : Int → List Int → Int → Int → Int → Int → List Int → List Int → Option α) : impl_natDiv_L8 N 0 v925 v926 v927 v928 v929 v930 v931 v932 v933 v934 v935 k0 = none := by rw [impl_natDiv_L8.eq]; rfl
theorem impl_natDiv_L8.succ {α : Type} (N n : Nat) (v925 : Int) (v926 : List Int) (v927 : Int) (v928 : Int) (v929 : Int) (v930 : Int) (v931 : List Int) (v932 : Int) (v933 : Int) (v934 : List Int) (v935 : List Int) (k0 : Int → List Int → Int → Int → Int → Int → List Int → List Int → Option α) : impl_natDiv_L8 N (n + 1) v925 v926 v927 v928 v929 v930 v931 v932 v933 v934 v935 k0 = impl_natDiv_L8r N (fun y0 y1 y2 y3 y4 y5 y6 y7 y8 y9 y10 => impl_natDiv_L8 N n y0 y1 y2 y3 y4 y5 y6 y7 y8 y9 y10 k0) k0 v925 v926 v927 v928 v929 v930 v931 v932 v933 v934 v935 := by rw [impl_natDiv_L8.eq]; rfl
noncomputable def impl_natDiv_L10r {α : Type} (N : Nat) (next : Int → List Int → Int → Int → Int → Int → List Int → Int → Int → List Int → List Int → Option α) (k0 : Int → List Int → Int → Int → Int → Int → List Int → List Int → Option α) (v1005 : Int) (v1006 : List Int) (v1007 : Int) (v1008 : Int) (v1009 : Int) (v1010 : Int) (v1011 : List Int) (v1012 : Int) (v1013 : Int) (v1014 : List Int) (v1015 : List Int) : Option α :=
  let x1016 := decide (v1013 < v1012)
  bif x1016 then
    bif (decide (v1013 < (0 : Int))) then
      none
    else
      match v1011[v1013.toNat]? with
      | some x1017 =>
        let x1018 := IntKind.i64.wrap (v1008 + v1013)
        bif (decide (x1018 < (0 : Int))) then
          none
        else
          bif decide (x1018.toNat < v1014.length) then
            match v1014[x1018.toNat]? with
            | some x1019 =>
              let x1020 := IntKind.i64.wrap (x1019 + x1017)
              let x1021 := IntKind.i64.wrap (x1020 + v1010)
              let x1022 := IntKind.i64.wrap (v1008 + v1013)
              let x1023 := (bitI .and .i64 x1021 (65535 : Int))
              let x1024 := (shrI .i64 x1021 (16 : Int))
              bif (decide (x1022 < (0 : Int))) then
                none
              else
                bif decide (x1022.toNat < v1014.length) then
                  match v1014[x1022.toNat]? with
                  | some x1025 =>
                    let x1026 := v1014.set x1022.toNat x1023
                    let x1027 := (IntKind.i64.wrap (v1013 + (1 : Int)))
                    next v1005 v1006 v1007 v1008 v1009 x1024 v1011 v1012 x1027 x1026 v1015
                  | none => none
                else
                  none
            | none => none
          else
            none
      | none => none
  else
    k0 v1005 v1006 v1007 v1008 v1009 v1010 v1014 v1015
noncomputable def impl_natDiv_L10.b {α : Type} (N n : Nat) (v1005 : Int) (v1006 : List Int) (v1007 : Int) (v1008 : Int) (v1009 : Int) (v1010 : Int) (v1011 : List Int) (v1012 : Int) (v1013 : Int) (v1014 : List Int) (v1015 : List Int) (k0 : Int → List Int → Int → Int → Int → Int → List Int → List Int → Option α) : Option α :=
  Nat.rec (motive := fun _ => Int → List Int → Int → Int → Int → Int → List Int → Int → Int → List Int → List Int → Option α) (fun _ _ _ _ _ _ _ _ _ _ _ => none) (fun _ next => impl_natDiv_L10r N next k0) n v1005 v1006 v1007 v1008 v1009 v1010 v1011 v1012 v1013 v1014 v1015
theorem impl_natDiv_L10.ex : ∃ f : ((α : Type) → Nat → Nat → Int → List Int → Int → Int → Int → Int → List Int → Int → Int → List Int → List Int → (Int → List Int → Int → Int → Int → Int → List Int → List Int → Option α) → Option α), f = fun α => @impl_natDiv_L10.b α := ⟨_, rfl⟩
noncomputable def impl_natDiv_L10 {α : Type} : Nat → Nat → Int → List Int → Int → Int → Int → Int → List Int → Int → Int → List Int → List Int → (Int → List Int → Int → Int → Int → Int → List Int → List Int → Option α) → Option α := Classical.choose impl_natDiv_L10.ex α
theorem impl_natDiv_L10.eq : @impl_natDiv_L10 = @impl_natDiv_L10.b := funext fun α => congrFun (Classical.choose_spec impl_natDiv_L10.ex) α
theorem impl_natDiv_L10.zero {α : Type} (N : Nat) (v1005 : Int) (v1006 : List Int) (v1007 : Int) (v1008 : Int) (v1009 : Int) (v1010 : Int) (v1011 : List Int) (v1012 : Int) (v1013 : Int) (v1014 : List Int) (v1015 : List Int) (k0 : Int → List Int → Int → Int → Int → Int → List Int → List Int → Option α) : impl_natDiv_L10 N 0 v1005 v1006 v1007 v1008 v1009 v1010 v1011 v1012 v1013 v1014 v1015 k0 = none := by rw [impl_natDiv_L10.eq]; rfl
theorem impl_natDiv_L10.succ {α : Type} (N n : Nat) (v1005 : Int) (v1006 : List Int) (v1007 : Int) (v1008 : Int) (v1009 : Int) (v1010 : Int) (v1011 : List Int) (v1012 : Int) (v1013 : Int) (v1014 : List Int) (v1015 : List Int) (k0 : Int → List Int → Int → Int → Int → Int → List Int → List Int → Option α) : impl_natDiv_L10 N (n + 1) v1005 v1006 v1007 v1008 v1009 v1010 v1011 v1012 v1013 v1014 v1015 k0 = impl_natDiv_L10r N (fun y0 y1 y2 y3 y4 y5 y6 y7 y8 y9 y10 => impl_natDiv_L10 N n y0 y1 y2 y3 y4 y5 y6 y7 y8 y9 y10 k0) k0 v1005 v1006 v1007 v1008 v1009 v1010 v1011 v1012 v1013 v1014 v1015 := by rw [impl_natDiv_L10.eq]; rfl
noncomputable def impl_natDiv_J40.b {α : Type} (N : Nat) (v993 : Int) (v994 : List Int) (v995 : Int) (v996 : Int) (v997 : Int) (v998 : List Int) (v999 : List Int) (k0 : Int → List Int → Int → Int → Int → List Int → List Int → Option α) : Option α :=
  let x1000 := IntKind.i64.wrap (v996 + v995)
  bif (decide (x1000 < (0 : Int))) then
    none
  else
    bif decide (x1000.toNat < v998.length) then
      match v998[x1000.toNat]? with
      | some x1001 =>
        let x1002 := (decide (x1001 < (0 : Int)))
        bif x1002 then
          let x1003 := (IntKind.i64.wrap (v997 - (1 : Int)))
          let x1004 := ((v994.length : Nat) : Int)
          impl_natDiv_L10 N N v993 v994 v995 v996 x1003 (0 : Int) v994 x1004 (0 : Int) v998 v999
            (fun x1028 x1029 x1030 x1031 x1032 x1033 x1034 x1035 =>
              let x1036 := IntKind.i64.wrap (x1031 + x1030)
              bif (decide (x1036 < (0 : Int))) then
                none
              else
                bif decide (x1036.toNat < x1034.length) then
                  match x1034[x1036.toNat]? with
                  | some x1037 =>
                    let x1038 := IntKind.i64.wrap (x1037 + x1033)
                    bif (decide (x1036 < (0 : Int))) then
                      none
                    else
                      bif decide (x1036.toNat < x1034.length) then
                        match x1034[x1036.toNat]? with
                        | some x1039 =>
                          let x1040 := x1034.set x1036.toNat x1038
                          k0 x1028 x1029 x1030 x1031 x1032 x1040 x1035
                        | none => none
                      else
                        none
                  | none => none
                else
                  none)
        else
          k0 v993 v994 v995 v996 v997 v998 v999
      | none => none
    else
      none
theorem impl_natDiv_J40.ex : ∃ f : ((α : Type) → Nat → Int → List Int → Int → Int → Int → List Int → List Int → (Int → List Int → Int → Int → Int → List Int → List Int → Option α) → Option α), f = fun α => @impl_natDiv_J40.b α := ⟨_, rfl⟩
noncomputable def impl_natDiv_J40 {α : Type} : Nat → Int → List Int → Int → Int → Int → List Int → List Int → (Int → List Int → Int → Int → Int → List Int → List Int → Option α) → Option α := Classical.choose impl_natDiv_J40.ex α
theorem impl_natDiv_J40.eq : @impl_natDiv_J40 = @impl_natDiv_J40.b := funext fun α => congrFun (Classical.choose_spec impl_natDiv_J40.ex) α
noncomputable def impl_natDiv_L4r {α : Type} (N : Nat) (next : Int → List Int → Int → Int → List Int → List Int → Option α) (k0 : Int → List Int → List Int → Option α) (v869 : Int) (v870 : List Int) (v871 : Int) (v872 : Int) (v873 : List Int) (v874 : List Int) : Option α :=
  let x875 := (decide ((0 : Int) ≤ v872))
  bif x875 then
    let x876 := IntKind.i64.wrap (v872 + v871)
    bif (decide (x876 < (0 : Int))) then
      none
    else
      bif decide (x876.toNat < v873.length) then
        match v873[x876.toNat]? with
        | some x877 =>
          let x878 := (shlI .i64 x877 (16 : Int))
          let x879 := IntKind.i64.wrap (v872 + v871)
          let x880 := (IntKind.i64.wrap (x879 - (1 : Int)))
          bif (decide (x880 < (0 : Int))) then
            none
          else
            bif decide (x880.toNat < v873.length) then
              match v873[x880.toNat]? with
              | some x881 =>
                let x882 := bitI .or .i64 x878 x881
                let x883 := (IntKind.i64.wrap (v871 - (1 : Int)))
                bif (decide (x883 < (0 : Int))) then
                  none
                else
                  match v870[x883.toNat]? with
                  | some x884 =>
                    bif (decide (x884 = (0 : Int))) then
                      none
                    else
                      let x885 := IntKind.i64.wrap (Int.tdiv x882 x884)
                      let x886 := (IntKind.i64.wrap (v871 - (1 : Int)))
                      bif (decide (x886 < (0 : Int))) then
                        none
                      else
                        match v870[x886.toNat]? with
                        | some x887 =>
                          bif (decide (x887 = (0 : Int))) then
                            none
                          else
                            let x888 := Int.tmod x882 x887
                            impl_natDiv_L6 N N v869 v870 v871 v872 x885 x888 v873 v874
                              (fun x917 x918 x919 x920 x921 x922 x923 =>
                                let x924 := ((x918.length : Nat) : Int)
                                impl_natDiv_L8 N N x917 x918 x919 x920 x921 (0 : Int) x918 x924 (0 : Int) x922 x923
                                  (fun x980 x981 x982 x983 x984 x985 x986 x987 =>
                                    let x988 := IntKind.i64.wrap (x983 + x982)
                                    bif (decide (x988 < (0 : Int))) then
                                      none
                                    else
                                      bif decide (x988.toNat < x986.length) then
                                        match x986[x988.toNat]? with
                                        | some x989 =>
                                          let x990 := IntKind.i64.wrap (x989 - x985)
                                          bif (decide (x988 < (0 : Int))) then
                                            none
                                          else
                                            bif decide (x988.toNat < x986.length) then
                                              match x986[x988.toNat]? with
                                              | some x991 =>
                                                let x992 := x986.set x988.toNat x990
                                                impl_natDiv_J40 N x980 x981 x982 x983 x984 x992 x987
                                                  (fun x1041 x1042 x1043 x1044 x1045 x1046 x1047 =>
                                                    bif (decide (x1044 < (0 : Int))) then
                                                      none
                                                    else
                                                      bif decide (x1044.toNat < x1047.length) then
                                                        match x1047[x1044.toNat]? with
                                                        | some x1048 =>
                                                          let x1049 := x1047.set x1044.toNat x1045
                                                          let x1050 := (IntKind.i64.wrap (x1044 - (1 : Int)))
                                                          next x1041 x1042 x1043 x1050 x1046 x1049
                                                        | none => none
                                                      else
                                                        none)
                                              | none => none
                                            else
                                              none
                                        | none => none
                                      else
                                        none))
                        | none => none
                  | none => none
              | none => none
            else
              none
        | none => none
      else
        none
  else
    k0 v869 v873 v874
noncomputable def impl_natDiv_L4.b {α : Type} (N n : Nat) (v869 : Int) (v870 : List Int) (v871 : Int) (v872 : Int) (v873 : List Int) (v874 : List Int) (k0 : Int → List Int → List Int → Option α) : Option α :=
  Nat.rec (motive := fun _ => Int → List Int → Int → Int → List Int → List Int → Option α) (fun _ _ _ _ _ _ => none) (fun _ next => impl_natDiv_L4r N next k0) n v869 v870 v871 v872 v873 v874
theorem impl_natDiv_L4.ex : ∃ f : ((α : Type) → Nat → Nat → Int → List Int → Int → Int → List Int → List Int → (Int → List Int → List Int → Option α) → Option α), f = fun α => @impl_natDiv_L4.b α := ⟨_, rfl⟩
noncomputable def impl_natDiv_L4 {α : Type} : Nat → Nat → Int → List Int → Int → Int → List Int → List Int → (Int → List Int → List Int → Option α) → Option α := Classical.choose impl_natDiv_L4.ex α
theorem impl_natDiv_L4.eq : @impl_natDiv_L4 = @impl_natDiv_L4.b := funext fun α => congrFun (Classical.choose_spec impl_natDiv_L4.ex) α
theorem impl_natDiv_L4.zero {α : Type} (N : Nat) (v869 : Int) (v870 : List Int) (v871 : Int) (v872 : Int) (v873 : List Int) (v874 : List Int) (k0 : Int → List Int → List Int → Option α) : impl_natDiv_L4 N 0 v869 v870 v871 v872 v873 v874 k0 = none := by rw [impl_natDiv_L4.eq]; rfl
theorem impl_natDiv_L4.succ {α : Type} (N n : Nat) (v869 : Int) (v870 : List Int) (v871 : Int) (v872 : Int) (v873 : List Int) (v874 : List Int) (k0 : Int → List Int → List Int → Option α) : impl_natDiv_L4 N (n + 1) v869 v870 v871 v872 v873 v874 k0 = impl_natDiv_L4r N (fun y0 y1 y2 y3 y4 y5 => impl_natDiv_L4 N n y0 y1 y2 y3 y4 y5 k0) k0 v869 v870 v871 v872 v873 v874 := by rw [impl_natDiv_L4.eq]; rfl
/-- loop.example/pinfold/impl.natDiv -/
noncomputable def impl_natDiv.b {α : Type} (N : Nat) (a602 : List Int) (a603 : List Int) (k0 : List Int → List Int → Option α) : Option α :=
  impl_natCmp N a602 a603
    (fun x630 =>
      let x631 := (decide (x630 < (0 : Int)))
      bif x631 then
        k0 [] a602
      else
        let x632 := ((a603.length : Nat) : Int)
        let x633 := (decide (x632 = (1 : Int)))
        bif x633 then
          let x634 := ((a602.length : Nat) : Int)
          bif (decide ((0 : Int) ≤ x634)) then
            bif decide (x634 ≤ x634) then
              bif (decide (x634 ≤ ((8796093022208 : Nat) : Int))) then
                let x635 := (List.replicate x634.toNat (0 : Int))
                let x636 := ((a602.length : Nat) : Int)
                let x637 := (IntKind.i64.wrap (x636 - (1 : Int)))
                impl_natDiv_L0 N N a602 a603 (0 : Int) x637 x635
                  (fun x654 x655 =>
                    impl_trim N x655
                      (fun x668 =>
                        let x669 := [x654]
                        impl_trim N x669
                          (fun x670 =>
                            k0 x668 x670)))
              else
                none
            else
              none
          else
            none
        else
          let x671 := ((a603.length : Nat) : Int)
          let x672 := (IntKind.i64.wrap (x671 - (1 : Int)))
          bif (decide (x672 < (0 : Int))) then
            none
          else
            match a603[x672.toNat]? with
            | some x673 =>
              let x674 := IntKind.u64.wrap x673
              math_bits_Len N x674
                (fun x703 =>
                  let x704 := (IntKind.i64.wrap ((16 : Int) - x703))
                  impl_natShift N a603 x704
                    (fun x842 =>
                      impl_natShift N a602 x704
                        (fun x843 =>
                          slices_Clone_int_int N x843
                            (fun x844 =>
                              let x845 := [(0 : Int)]
                              bif decide (x844.length + x845.length ≤ 8796093022208) then
                                let x846 := x844 ++ x845
                                let x847 := ((x842.length : Nat) : Int)
                                impl_natDiv_L2 N N a602 x704 x842 x847 x846
                                  (fun x859 x860 x861 x862 =>
                                    let x863 := ((x862.length : Nat) : Int)
                                    let x864 := IntKind.i64.wrap (x863 - x861)
                                    bif (decide ((0 : Int) ≤ x864)) then
                                      bif decide (x864 ≤ x864) then
                                        bif (decide (x864 ≤ ((8796093022208 : Nat) : Int))) then
                                          let x865 := (List.replicate x864.toNat (0 : Int))
                                          let x866 := ((x862.length : Nat) : Int)
                                          let x867 := IntKind.i64.wrap (x866 - x861)
                                          let x868 := (IntKind.i64.wrap (x867 - (1 : Int)))
                                          impl_natDiv_L4 N N x859 x860 x861 x868 x862 x865
                                            (fun x1051 x1052 x1053 =>
                                              impl_trim N x1053
                                                (fun x1054 =>
                                                  impl_trim N x1052
                                                    (fun x1055 =>
                                                      let x1056 := IntKind.i64.wrap (0 - x1051)
                                                      impl_natShift N x1055 x1056
                                                        (fun x1057 =>
                                                          k0 x1054 x1057))))
                                        else
                                          none
                                      else
                                        none
                                    else
                                      none)
                              else
                                none))))
            | none => none)
theorem impl_natDiv.ex : ∃ f : ((α : Type) → Nat → List Int → List Int → (List Int → List Int → Option α) → Option α), f = fun α => @impl_natDiv.b α := ⟨_, rfl⟩
noncomputable def impl_natDiv {α : Type} : Nat → List Int → List Int → (List Int → List Int → Option α) → Option α := Classical.choose impl_natDiv.ex α
theorem impl_natDiv.eq : @impl_natDiv = @impl_natDiv.b := funext fun α => congrFun (Classical.choose_spec impl_natDiv.ex) α

noncomputable def impl_natGcd_L0r {α : Type} (N : Nat) (next : List Int → List Int → Option α) (k0 : List Int → Option α) (v529 : List Int) (v530 : List Int) : Option α :=
  let x531 := ((v530.length : Nat) : Int)
  let x532 := (decide ((0 : Int) < x531))
  bif x532 then
    impl_natDiv N v529 v530
      (fun _ x1059 =>
        next v530 x1059)
  else
    k0 v529
noncomputable def impl_natGcd_L0.b {α : Type} (N n : Nat) (v529 : List Int) (v530 : List Int) (k0 : List Int → Option α) : Option α :=
  Nat.rec (motive := fun _ => List Int → List Int → Option α) (fun _ _ => none) (fun _ next => impl_natGcd_L0r N next k0) n v529 v530
theorem impl_natGcd_L0.ex : ∃ f : ((α : Type) → Nat → Nat → List Int → List Int → (List Int → Option α) → Option α), f = fun α => @impl_natGcd_L0.b α := ⟨_, rfl⟩
noncomputable def impl_natGcd_L0 {α : Type} : Nat → Nat → List Int → List Int → (List Int → Option α) → Option α := Classical.choose impl_natGcd_L0.ex α
theorem impl_natGcd_L0.eq : @impl_natGcd_L0 = @impl_natGcd_L0.b := funext fun α => congrFun (Classical.choose_spec impl_natGcd_L0.ex) α
theorem impl_natGcd_L0.zero {α : Type} (N : Nat) (v529 : List Int) (v530 : List Int) (k0 : List Int → Option α) : impl_natGcd_L0 N 0 v529 v530 k0 = none := by rw [impl_natGcd_L0.eq]; rfl
theorem impl_natGcd_L0.succ {α : Type} (N n : Nat) (v529 : List Int) (v530 : List Int) (k0 : List Int → Option α) : impl_natGcd_L0 N (n + 1) v529 v530 k0 = impl_natGcd_L0r N (fun y0 y1 => impl_natGcd_L0 N n y0 y1 k0) k0 v529 v530 := by rw [impl_natGcd_L0.eq]; rfl
/-- loop.example/pinfold/impl.natGcd -/
noncomputable def impl_natGcd.b {α : Type} (N : Nat) (a527 : List Int) (a528 : List Int) (k0 : List Int → Option α) : Option α :=
  impl_natGcd_L0 N N a527 a528
    (fun x1060 =>
      k0 x1060)
theorem impl_natGcd.ex : ∃ f : ((α : Type) → Nat → List Int → List Int → (List Int → Option α) → Option α), f = fun α => @impl_natGcd.b α := ⟨_, rfl⟩
noncomputable def impl_natGcd {α : Type} : Nat → List Int → List Int → (List Int → Option α) → Option α := Classical.choose impl_natGcd.ex α
theorem impl_natGcd.eq : @impl_natGcd = @impl_natGcd.b := funext fun α => congrFun (Classical.choose_spec impl_natGcd.ex) α

/-- loop.example/pinfold/impl.FracOk -/
noncomputable def impl_FracOk.b {α : Type} (N : Nat) (a467 : Bool × (List Int) × (List Int) × Unit) (k0 : Bool → Option α) : Option α :=
  let x468 := [a467.2.1, a467.2.2.1]
  impl_nats N x468
    (fun x522 =>
      bif x522 then
        let x523 := ((a467.2.2.1.length : Nat) : Int)
        let x524 := (decide ((0 : Int) < x523))
        bif x524 then
          let x525 := ((a467.2.1.length : Nat) : Int)
          let x526 := (decide ((0 : Int) < x525))
          bif x526 then
            impl_natGcd N a467.2.1 a467.2.2.1
              (fun x1061 =>
                let x1062 := [(1 : Int)]
                impl_natCmp N x1061 x1062
                  (fun x1063 =>
                    let x1064 := (decide (x1063 = (0 : Int)))
                    k0 x1064))
          else
            let x1065 := !a467.1
            bif x1065 then
              impl_natGcd N a467.2.1 a467.2.2.1
                (fun x1066 =>
                  let x1067 := [(1 : Int)]
                  impl_natCmp N x1066 x1067
                    (fun x1068 =>
                      let x1069 := (decide (x1068 = (0 : Int)))
                      k0 x1069))
            else
              k0 false
        else
          k0 false
      else
        k0 false)
theorem impl_FracOk.ex : ∃ f : ((α : Type) → Nat → (Bool × (List Int) × (List Int) × Unit) → (Bool → Option α) → Option α), f = fun α => @impl_FracOk.b α := ⟨_, rfl⟩
noncomputable def impl_FracOk {α : Type} : Nat → (Bool × (List Int) × (List Int) × Unit) → (Bool → Option α) → Option α := Classical.choose impl_FracOk.ex α
theorem impl_FracOk.eq : @impl_FracOk = @impl_FracOk.b := funext fun α => congrFun (Classical.choose_spec impl_FracOk.ex) α

noncomputable def impl_fracs_L0r {α : Type} (N : Nat) (next : List (Bool × (List Int) × (List Int) × Unit) → Int → Int → Option α) (k0 : Bool → Option α) (k1 : Option α) (v462 : List (Bool × (List Int) × (List Int) × Unit)) (v463 : Int) (v464 : Int) : Option α :=
  let x465 := decide (v464 < v463)
  bif x465 then
    bif (decide (v464 < (0 : Int))) then
      none
    else
      match v462[v464.toNat]? with
      | some x466 =>
        impl_FracOk N x466
          (fun x1070 =>
            let x1071 := !x1070
            bif x1071 then
              k0 false
            else
              let x1072 := (IntKind.i64.wrap (v464 + (1 : Int)))
              next v462 v463 x1072)
      | none => none
  else
    k1
noncomputable def impl_fracs_L0.b {α : Type} (N n : Nat) (v462 : List (Bool × (List Int) × (List Int) × Unit)) (v463 : Int) (v464 : Int) (k0 : Bool → Option α) (k1 : Option α) : Option α :=
  Nat.rec (motive := fun _ => List (Bool × (List Int) × (List Int) × Unit) → Int → Int → Option α) (fun _ _ _ => none) (fun _ next => impl_fracs_L0r N next k0 k1) n v462 v463 v464
theorem impl_fracs_L0.ex : ∃ f : ((α : Type) → Nat → Nat → List (Bool × (List Int) × (List Int) × Unit) → Int → Int → (Bool → Option α) → (Option α) → Option α), f = fun α => @impl_fracs_L0.b α := ⟨_, rfl⟩
noncomputable def impl_fracs_L0 {α : Type} : Nat → Nat → List (Bool × (List Int) × (List Int) × Unit) → Int → Int → (Bool → Option α) → (Option α) → Option α := Classical.choose impl_fracs_L0.ex α
theorem impl_fracs_L0.eq : @impl_fracs_L0 = @impl_fracs_L0.b := funext fun α => congrFun (Classical.choose_spec impl_fracs_L0.ex) α
theorem impl_fracs_L0.zero {α : Type} (N : Nat) (v462 : List (Bool × (List Int) × (List Int) × Unit)) (v463 : Int) (v464 : Int) (k0 : Bool → Option α) (k1 : Option α) : impl_fracs_L0 N 0 v462 v463 v464 k0 k1 = none := by rw [impl_fracs_L0.eq]; rfl
theorem impl_fracs_L0.succ {α : Type} (N n : Nat) (v462 : List (Bool × (List Int) × (List Int) × Unit)) (v463 : Int) (v464 : Int) (k0 : Bool → Option α) (k1 : Option α) : impl_fracs_L0 N (n + 1) v462 v463 v464 k0 k1 = impl_fracs_L0r N (fun y0 y1 y2 => impl_fracs_L0 N n y0 y1 y2 k0 k1) k0 k1 v462 v463 v464 := by rw [impl_fracs_L0.eq]; rfl
/-- loop.example/pinfold/impl.fracs -/
noncomputable def impl_fracs.b {α : Type} (N : Nat) (a460 : List (Bool × (List Int) × (List Int) × Unit)) (k0 : Bool → Option α) : Option α :=
  let x461 := ((a460.length : Nat) : Int)
  impl_fracs_L0 N N a460 x461 (0 : Int)
    (fun x1073 =>
      k0 x1073)
    (
      k0 true)
theorem impl_fracs.ex : ∃ f : ((α : Type) → Nat → List (Bool × (List Int) × (List Int) × Unit) → (Bool → Option α) → Option α), f = fun α => @impl_fracs.b α := ⟨_, rfl⟩
noncomputable def impl_fracs {α : Type} : Nat → List (Bool × (List Int) × (List Int) × Unit) → (Bool → Option α) → Option α := Classical.choose impl_fracs.ex α
theorem impl_fracs.eq : @impl_fracs = @impl_fracs.b := funext fun α => congrFun (Classical.choose_spec impl_fracs.ex) α

noncomputable def impl_natMul_L2r {α : Type} (N : Nat) (next : List Int → Int → Int → Int → List Int → Int → Int → List Int → Int → Int → List Int → Option α) (k0 : List Int → Int → Int → List Int → Int → Int → List Int → Option α) (v1097 : List Int) (v1098 : Int) (v1099 : Int) (v1100 : Int) (v1101 : List Int) (v1102 : Int) (v1103 : Int) (v1104 : List Int) (v1105 : Int) (v1106 : Int) (v1107 : List Int) : Option α :=
  let x1108 := decide (v1106 < v1105)
  bif x1108 then
    bif (decide (v1106 < (0 : Int))) then
      none
    else
      match v1104[v1106.toNat]? with
      | some x1109 =>
        let x1110 := IntKind.i64.wrap (v1098 + v1106)
        bif (decide (x1110 < (0 : Int))) then
          none
        else
          bif decide (x1110.toNat < v1107.length) then
            match v1107[x1110.toNat]? with
            | some x1111 =>
              let x1112 := IntKind.i64.wrap (v1099 * x1109)
              let x1113 := IntKind.i64.wrap (x1111 + x1112)
              let x1114 := IntKind.i64.wrap (x1113 + v1100)
              let x1115 := IntKind.i64.wrap (v1098 + v1106)
              let x1116 := (bitI .and .i64 x1114 (65535 : Int))
              bif (decide (x1115 < (0 : Int))) then
                none
              else
                bif decide (x1115.toNat < v1107.length) then
                  match v1107[x1115.toNat]? with
                  | some x1117 =>
                    let x1118 := v1107.set x1115.toNat x1116
                    let x1119 := (shrI .i64 x1114 (16 : Int))
                    let x1120 := (IntKind.i64.wrap (v1106 + (1 : Int)))
                    next v1097 v1098 v1099 x1119 v1101 v1102 v1103 v1104 v1105 x1120 x1118
                  | none => none
                else
                  none
            | none => none
          else
            none
      | none => none
  else
    k0 v1097 v1098 v1100 v1101 v1102 v1103 v1107
noncomputable def impl_natMul_L2.b {α : Type} (N n : Nat) (v1097 : List Int) (v1098 : Int) (v1099 : Int) (v1100 : Int) (v1101 : List Int) (v1102 : Int) (v1103 : Int) (v1104 : List Int) (v1105 : Int) (v1106 : Int) (v1107 : List Int) (k0 : List Int → Int → Int → List Int → Int → Int → List Int → Option α) : Option α :=
  Nat.rec (motive := fun _ => List Int → Int → Int → Int → List Int → Int → Int → List Int → Int → Int → List Int → Option α) (fun _ _ _ _ _ _ _ _ _ _ _ => none) (fun _ next => impl_natMul_L2r N next k0) n v1097 v1098 v1099 v1100 v1101 v1102 v1103 v1104 v1105 v1106 v1107
theorem impl_natMul_L2.ex : ∃ f : ((α : Type) → Nat → Nat → List Int → Int → Int → Int → List Int → Int → Int → List Int → Int → Int → List Int → (List Int → Int → Int → List Int → Int → Int → List Int → Option α) → Option α), f = fun α => @impl_natMul_L2.b α := ⟨_, rfl⟩
noncomputable def impl_natMul_L2 {α : Type} : Nat → Nat → List Int → Int → Int → Int → List Int → Int → Int → List Int → Int → Int → List Int → (List Int → Int → Int → List Int → Int → Int → List Int → Option α) → Option α := Classical.choose impl_natMul_L2.ex α
theorem impl_natMul_L2.eq : @impl_natMul_L2 = @impl_natMul_L2.b := funext fun α => congrFun (Classical.choose_spec impl_natMul_L2.ex) α
theorem impl_natMul_L2.zero {α : Type} (N : Nat) (v1097 : List Int) (v1098 : Int) (v1099 : Int) (v1100 : Int) (v1101 : List Int) (v1102 : Int) (v1103 : Int) (v1104 : List Int) (v1105 : Int) (v1106 : Int) (v1107 : List Int) (k0 : List Int → Int → Int → List Int → Int → Int → List Int → Option α) : impl_natMul_L2 N 0 v1097 v1098 v1099 v1100 v1101 v1102 v1103 v1104 v1105 v1106 v1107 k0 = none := by rw [impl_natMul_L2.eq]; rfl
theorem impl_natMul_L2.succ {α : Type} (N n : Nat) (v1097 : List Int) (v1098 : Int) (v1099 : Int) (v1100 : Int) (v1101 : List Int) (v1102 : Int) (v1103 : Int) (v1104 : List Int) (v1105 : Int) (v1106 : Int) (v1107 : List Int) (k0 : List Int → Int → Int → List Int → Int → Int → List Int → Option α) : impl_natMul_L2 N (n + 1) v1097 v1098 v1099 v1100 v1101 v1102 v1103 v1104 v1105 v1106 v1107 k0 = impl_natMul_L2r N (fun y0 y1 y2 y3 y4 y5 y6 y7 y8 y9 y10 => impl_natMul_L2 N n y0 y1 y2 y3 y4 y5 y6 y7 y8 y9 y10 k0) k0 v1097 v1098 v1099 v1100 v1101 v1102 v1103 v1104 v1105 v1106 v1107 := by rw [impl_natMul_L2.eq]; rfl
noncomputable def impl_natMul_L0r {α : Type} (N : Nat) (next : List Int → List Int → Int → Int → List Int → Option α) (k0 : List Int → Option α) (v1089 : List Int) (v1090 : List Int) (v1091 : Int) (v1092 : Int) (v1093 : List Int) : Option α :=
  let x1094 := decide (v1092 < v1091)
  bif x1094 then
    bif (decide (v1092 < (0 : Int))) then
      none
    else
      match v1090[v1092.toNat]? with
      | some x1095 =>
        let x1096 := ((v1089.length : Nat) : Int)
        impl_natMul_L2 N N v1089 v1092 x1095 (0 : Int) v1090 v1091 v1092 v1089 x1096 (0 : Int) v1093
          (fun x1121 x1122 x1123 x1124 x1125 x1126 x1127 =>
            let x1128 := ((x1121.length : Nat) : Int)
            let x1129 := IntKind.i64.wrap (x1122 + x1128)
            bif (decide (x1129 < (0 : Int))) then
              none
            else
              bif decide (x1129.toNat < x1127.length) then
                match x1127[x1129.toNat]? with
                | some x1130 =>
                  let x1131 := IntKind.i64.wrap (x1130 + x1123)
                  bif (decide (x1129 < (0 : Int))) then
                    none
                  else
                    bif decide (x1129.toNat < x1127.length) then
                      match x1127[x1129.toNat]? with
                      | some x1132 =>
                        let x1133 := x1127.set x1129.toNat x1131
                        let x1134 := (IntKind.i64.wrap (x1126 + (1 : Int)))
                        next x1121 x1124 x1125 x1134 x1133
                      | none => none
                    else
                      none
                | none => none
              else
                none)
      | none => none
  else
    k0 v1093
noncomputable def impl_natMul_L0.b {α : Type} (N n : Nat) (v1089 : List Int) (v1090 : List Int) (v1091 : Int) (v1092 : Int) (v1093 : List Int) (k0 : List Int → Option α) : Option α :=
  Nat.rec (motive := fun _ => List Int → List Int → Int → Int → List Int → Option α) (fun _ _ _ _ _ => none) (fun _ next => impl_natMul_L0r N next k0) n v1089 v1090 v1091 v1092 v1093
theorem impl_natMul_L0.ex : ∃ f : ((α : Type) → Nat → Nat → List Int → List Int → Int → Int → List Int → (List Int → Option α) → Option α), f = fun α => @impl_natMul_L0.b α := ⟨_, rfl⟩
noncomputable def impl_natMul_L0 {α : Type} : Nat → Nat → List Int → List Int → Int → Int → List Int → (List Int → Option α) → Option α := Classical.choose impl_natMul_L0.ex α
theorem impl_natMul_L0.eq : @impl_natMul_L0 = @impl_natMul_L0.b := funext fun α => congrFun (Classical.choose_spec impl_natMul_L0.ex) α
theorem impl_natMul_L0.zero {α : Type} (N : Nat) (v1089 : List Int) (v1090 : List Int) (v1091 : Int) (v1092 : Int) (v1093 : List Int) (k0 : List Int → Option α) : impl_natMul_L0 N 0 v1089 v1090 v1091 v1092 v1093 k0 = none := by rw [impl_natMul_L0.eq]; rfl
theorem impl_natMul_L0.succ {α : Type} (N n : Nat) (v1089 : List Int) (v1090 : List Int) (v1091 : Int) (v1092 : Int) (v1093 : List Int) (k0 : List Int → Option α) : impl_natMul_L0 N (n + 1) v1089 v1090 v1091 v1092 v1093 k0 = impl_natMul_L0r N (fun y0 y1 y2 y3 y4 => impl_natMul_L0 N n y0 y1 y2 y3 y4 k0) k0 v1089 v1090 v1091 v1092 v1093 := by rw [impl_natMul_L0.eq]; rfl
/-- loop.example/pinfold/impl.natMul -/
noncomputable def impl_natMul.b {α : Type} (N : Nat) (a1081 : List Int) (a1082 : List Int) (k0 : List Int → Option α) : Option α :=
  let x1083 := ((a1081.length : Nat) : Int)
  let x1084 := ((a1082.length : Nat) : Int)
  let x1085 := IntKind.i64.wrap (x1083 + x1084)
  let x1086 := (IntKind.i64.wrap (x1085 + (1 : Int)))
  bif (decide ((0 : Int) ≤ x1086)) then
    bif decide (x1086 ≤ x1086) then
      bif (decide (x1086 ≤ ((8796093022208 : Nat) : Int))) then
        let x1087 := (List.replicate x1086.toNat (0 : Int))
        let x1088 := ((a1081.length : Nat) : Int)
        impl_natMul_L0 N N a1082 a1081 x1088 (0 : Int) x1087
          (fun x1135 =>
            impl_trim N x1135
              (fun x1136 =>
                k0 x1136))
      else
        none
    else
      none
  else
    none
theorem impl_natMul.ex : ∃ f : ((α : Type) → Nat → List Int → List Int → (List Int → Option α) → Option α), f = fun α => @impl_natMul.b α := ⟨_, rfl⟩
noncomputable def impl_natMul {α : Type} : Nat → List Int → List Int → (List Int → Option α) → Option α := Classical.choose impl_natMul.ex α
theorem impl_natMul.eq : @impl_natMul = @impl_natMul.b := funext fun α => congrFun (Classical.choose_spec impl_natMul.ex) α

noncomputable def impl_lowest_J2.b {α : Type} (N : Nat) (v1143 : Bool) (v1144 : List Int) (v1145 : List Int) (v1146 : List Int) (v1147 : Bool) (v1148 : List Int) (v1149 : List Int) (k0 : Bool → List Int → List Int → Bool → List Int → List Int → Option α) : Option α :=
  let x1150 := [(1 : Int)]
  impl_natCmp N v1146 x1150
    (fun x1151 =>
      let x1152 := (!(decide (x1151 = (0 : Int))))
      bif x1152 then
        impl_natDiv N v1144 v1146
          (fun x1153 _ =>
            impl_natDiv N v1145 v1146
              (fun x1155 _ =>
                k0 v1143 x1153 x1155 v1147 v1148 v1149))
      else
        k0 v1143 v1144 v1145 v1147 v1148 v1149)
theorem impl_lowest_J2.ex : ∃ f : ((α : Type) → Nat → Bool → List Int → List Int → List Int → Bool → List Int → List Int → (Bool → List Int → List Int → Bool → List Int → List Int → Option α) → Option α), f = fun α => @impl_lowest_J2.b α := ⟨_, rfl⟩
noncomputable def impl_lowest_J2 {α : Type} : Nat → Bool → List Int → List Int → List Int → Bool → List Int → List Int → (Bool → List Int → List Int → Bool → List Int → List Int → Option α) → Option α := Classical.choose impl_lowest_J2.ex α
theorem impl_lowest_J2.eq : @impl_lowest_J2 = @impl_lowest_J2.b := funext fun α => congrFun (Classical.choose_spec impl_lowest_J2.ex) α
/-- loop.example/pinfold/impl.lowest -/
noncomputable def impl_lowest.b {α : Type} (N : Nat) (a1139 : Bool) (a1140 : List Int) (a1141 : List Int) (k0 : (Bool × (List Int) × (List Int) × Unit) → Option α) : Option α :=
  impl_natGcd N a1140 a1141
    (fun x1142 =>
      impl_lowest_J2 N a1139 a1140 a1141 x1142 false [] []
        (fun x1157 x1158 x1159 _ _ _ =>
          bif x1157 then
            let x1163 := ((x1158.length : Nat) : Int)
            let x1164 := (decide ((0 : Int) < x1163))
            k0 (x1164, (x1158, (x1159, ())))
          else
            k0 (false, (x1158, (x1159, ())))))
theorem impl_lowest.ex : ∃ f : ((α : Type) → Nat → Bool → List Int → List Int → ((Bool × (List Int) × (List Int) × Unit) → Option α) → Option α), f = fun α => @impl_lowest.b α := ⟨_, rfl⟩
noncomputable def impl_lowest {α : Type} : Nat → Bool → List Int → List Int → ((Bool × (List Int) × (List Int) × Unit) → Option α) → Option α := Classical.choose impl_lowest.ex α
theorem impl_lowest.eq : @impl_lowest = @impl_lowest.b := funext fun α => congrFun (Classical.choose_spec impl_lowest.ex) α

/-- (loop.example/pinfold/impl.Frac).div -/
noncomputable def impl_Frac_div.b {α : Type} (N : Nat) (a1078 : Bool × (List Int) × (List Int) × Unit) (a1079 : Bool × (List Int) × (List Int) × Unit) (k0 : (Bool × (List Int) × (List Int) × Unit) → Option α) : Option α :=
  let x1080 := !(a1078.1 == a1079.1)
  impl_natMul N a1078.2.1 a1079.2.2.1
    (fun x1137 =>
      impl_natMul N a1078.2.2.1 a1079.2.1
        (fun x1138 =>
          impl_lowest N x1080 x1137 x1138
            (fun x1165 =>
              k0 x1165)))
theorem impl_Frac_div.ex : ∃ f : ((α : Type) → Nat → (Bool × (List Int) × (List Int) × Unit) → (Bool × (List Int) × (List Int) × Unit) → ((Bool × (List Int) × (List Int) × Unit) → Option α) → Option α), f = fun α => @impl_Frac_div.b α := ⟨_, rfl⟩
noncomputable def impl_Frac_div {α : Type} : Nat → (Bool × (List Int) × (List Int) × Unit) → (Bool × (List Int) × (List Int) × Unit) → ((Bool × (List Int) × (List Int) × Unit) → Option α) → Option α := Classical.choose impl_Frac_div.ex α
theorem impl_Frac_div.eq : @impl_Frac_div = @impl_Frac_div.b := funext fun α => congrFun (Classical.choose_spec impl_Frac_div.ex) α

/-- slices.Clip[[]int,int] -/
noncomputable def slices_Clip_int_int.b {α : Type} (N : Nat) (a1174 : List Int) (k0 : List Int → Option α) : Option α :=
  let x1175 := ((a1174.length : Nat) : Int)
  let x1176 := ((a1174.length : Nat) : Int)
  bif (decide ((0 : Int) ≤ x1176)) then
    bif (decide (x1176 ≤ ((a1174.length : Nat) : Int))) then
      bif (decide ((0 : Int) ≤ x1175)) then
        bif (decide (x1175 ≤ ((x1176.toNat : Nat) : Int))) then
          let x1177 := a1174.take x1175.toNat
          k0 x1177
        else
          none
      else
        none
    else
      none
  else
    none
theorem slices_Clip_int_int.ex : ∃ f : ((α : Type) → Nat → List Int → (List Int → Option α) → Option α), f = fun α => @slices_Clip_int_int.b α := ⟨_, rfl⟩
noncomputable def slices_Clip_int_int {α : Type} : Nat → List Int → (List Int → Option α) → Option α := Classical.choose slices_Clip_int_int.ex α
theorem slices_Clip_int_int.eq : @slices_Clip_int_int = @slices_Clip_int_int.b := funext fun α => congrFun (Classical.choose_spec slices_Clip_int_int.ex) α

/-- loop.example/pinfold/impl.clone[int] -/
noncomputable def impl_clone_int.b {α : Type} (N : Nat) (a1172 : List Int) (k0 : List Int → Option α) : Option α :=
  slices_Clone_int_int N a1172
    (fun x1173 =>
      slices_Clip_int_int N x1173
        (fun x1178 =>
          k0 x1178))
theorem impl_clone_int.ex : ∃ f : ((α : Type) → Nat → List Int → (List Int → Option α) → Option α), f = fun α => @impl_clone_int.b α := ⟨_, rfl⟩
noncomputable def impl_clone_int {α : Type} : Nat → List Int → (List Int → Option α) → Option α := Classical.choose impl_clone_int.ex α
theorem impl_clone_int.eq : @impl_clone_int = @impl_clone_int.b := funext fun α => congrFun (Classical.choose_spec impl_clone_int.ex) α

/-- loop.example/pinfold/impl.given -/
noncomputable def impl_given.b {α : Type} (N : Nat) (a1167 : Bool × (List Int) × (List Int) × Unit) (k0 : Bool → Bool → List Int → List Int → Option α) : Option α :=
  let x1168 := ((a1167.2.1.length : Nat) : Int)
  let x1169 := (decide ((256 : Int) < x1168))
  bif x1169 then
    k0 false false [] []
  else
    let x1170 := ((a1167.2.2.1.length : Nat) : Int)
    let x1171 := (decide ((256 : Int) < x1170))
    bif x1171 then
      k0 false false [] []
    else
      impl_clone_int N a1167.2.1
        (fun x1179 =>
          impl_clone_int N a1167.2.2.1
            (fun x1180 =>
              k0 a1167.1 true x1179 x1180))
theorem impl_given.ex : ∃ f : ((α : Type) → Nat → (Bool × (List Int) × (List Int) × Unit) → (Bool → Bool → List Int → List Int → Option α) → Option α), f = fun α => @impl_given.b α := ⟨_, rfl⟩
noncomputable def impl_given {α : Type} : Nat → (Bool × (List Int) × (List Int) × Unit) → (Bool → Bool → List Int → List Int → Option α) → Option α := Classical.choose impl_given.ex α
theorem impl_given.eq : @impl_given = @impl_given.b := funext fun α => congrFun (Classical.choose_spec impl_given.ex) α

/-- loop.example/pinfold/impl.FracDiv -/
noncomputable def impl_FracDiv.b {α : Type} (N : Nat) (a457 : Bool × (List Int) × (List Int) × Unit) (a458 : Bool × (List Int) × (List Int) × Unit) (k0 : Bool → Bool → List Int → List Int → Option α) : Option α :=
  let x459 := [a457, a458]
  impl_fracs N x459
    (fun x1074 =>
      let x1075 := !x1074
      bif x1075 then
        k0 false false [] []
      else
        let x1076 := ((a458.2.1.length : Nat) : Int)
        let x1077 := (decide (x1076 = (0 : Int)))
        bif x1077 then
          k0 false false [] []
        else
          impl_Frac_div N a457 a458
            (fun x1166 =>
              impl_given N x1166
                (fun x1181 x1182 x1183 x1184 =>
                  k0 x1181 x1182 x1183 x1184)))
theorem impl_FracDiv.ex : ∃ f : ((α : Type) → Nat → (Bool × (List Int) × (List Int) × Unit) → (Bool × (List Int) × (List Int) × Unit) → (Bool → Bool → List Int → List Int → Option α) → Option α), f = fun α => @impl_FracDiv.b α := ⟨_, rfl⟩
noncomputable def impl_FracDiv {α : Type} : Nat → (Bool × (List Int) × (List Int) × Unit) → (Bool × (List Int) × (List Int) × Unit) → (Bool → Bool → List Int → List Int → Option α) → Option α := Classical.choose impl_FracDiv.ex α
theorem impl_FracDiv.eq : @impl_FracDiv = @impl_FracDiv.b := funext fun α => congrFun (Classical.choose_spec impl_FracDiv.ex) α

noncomputable def laws_eqIntS_L0r {α : Type} (N : Nat) (next : List Int → List Int → Int → Option α) (k0 : Bool → Option α) (k1 : Option α) (v1197 : List Int) (v1198 : List Int) (v1199 : Int) : Option α :=
  let x1200 := ((v1197.length : Nat) : Int)
  let x1201 := decide (v1199 < x1200)
  bif x1201 then
    bif (decide (v1199 < (0 : Int))) then
      none
    else
      match v1197[v1199.toNat]? with
      | some x1202 =>
        bif (decide (v1199 < (0 : Int))) then
          none
        else
          match v1198[v1199.toNat]? with
          | some x1203 =>
            let x1204 := !(decide (x1202 = x1203))
            bif x1204 then
              k0 false
            else
              let x1205 := (IntKind.i64.wrap (v1199 + (1 : Int)))
              next v1197 v1198 x1205
          | none => none
      | none => none
  else
    k1
noncomputable def laws_eqIntS_L0.b {α : Type} (N n : Nat) (v1197 : List Int) (v1198 : List Int) (v1199 : Int) (k0 : Bool → Option α) (k1 : Option α) : Option α :=
  Nat.rec (motive := fun _ => List Int → List Int → Int → Option α) (fun _ _ _ => none) (fun _ next => laws_eqIntS_L0r N next k0 k1) n v1197 v1198 v1199
theorem laws_eqIntS_L0.ex : ∃ f : ((α : Type) → Nat → Nat → List Int → List Int → Int → (Bool → Option α) → (Option α) → Option α), f = fun α => @laws_eqIntS_L0.b α := ⟨_, rfl⟩
noncomputable def laws_eqIntS_L0 {α : Type} : Nat → Nat → List Int → List Int → Int → (Bool → Option α) → (Option α) → Option α := Classical.choose laws_eqIntS_L0.ex α
theorem laws_eqIntS_L0.eq : @laws_eqIntS_L0 = @laws_eqIntS_L0.b := funext fun α => congrFun (Classical.choose_spec laws_eqIntS_L0.ex) α
theorem laws_eqIntS_L0.zero {α : Type} (N : Nat) (v1197 : List Int) (v1198 : List Int) (v1199 : Int) (k0 : Bool → Option α) (k1 : Option α) : laws_eqIntS_L0 N 0 v1197 v1198 v1199 k0 k1 = none := by rw [laws_eqIntS_L0.eq]; rfl
theorem laws_eqIntS_L0.succ {α : Type} (N n : Nat) (v1197 : List Int) (v1198 : List Int) (v1199 : Int) (k0 : Bool → Option α) (k1 : Option α) : laws_eqIntS_L0 N (n + 1) v1197 v1198 v1199 k0 k1 = laws_eqIntS_L0r N (fun y0 y1 y2 => laws_eqIntS_L0 N n y0 y1 y2 k0 k1) k0 k1 v1197 v1198 v1199 := by rw [laws_eqIntS_L0.eq]; rfl
/-- loop.example/pinfold/laws.eqIntS -/
noncomputable def laws_eqIntS.b {α : Type} (N : Nat) (a1192 : List Int) (a1193 : List Int) (k0 : Bool → Option α) : Option α :=
  let x1194 := ((a1192.length : Nat) : Int)
  let x1195 := ((a1193.length : Nat) : Int)
  let x1196 := !(decide (x1194 = x1195))
  bif x1196 then
    k0 false
  else
    laws_eqIntS_L0 N N a1192 a1193 (0 : Int)
      (fun x1206 =>
        k0 x1206)
      (
        k0 true)
theorem laws_eqIntS.ex : ∃ f : ((α : Type) → Nat → List Int → List Int → (Bool → Option α) → Option α), f = fun α => @laws_eqIntS.b α := ⟨_, rfl⟩
noncomputable def laws_eqIntS {α : Type} : Nat → List Int → List Int → (Bool → Option α) → Option α := Classical.choose laws_eqIntS.ex α
theorem laws_eqIntS.eq : @laws_eqIntS = @laws_eqIntS.b := funext fun α => congrFun (Classical.choose_spec laws_eqIntS.ex) α

/-- loop.example/pinfold/laws.eqFrac -/
noncomputable def laws_eqFrac.b {α : Type} (N : Nat) (a1189 : Bool × (List Int) × (List Int) × Unit) (a1190 : Bool × (List Int) × (List Int) × Unit) (k0 : Bool → Option α) : Option α :=
  let x1191 := !(a1189.1 == a1190.1)
  bif x1191 then
    k0 false
  else
    laws_eqIntS N a1189.2.1 a1190.2.1
      (fun x1207 =>
        let x1208 := !x1207
        bif x1208 then
          k0 false
        else
          laws_eqIntS N a1189.2.2.1 a1190.2.2.1
            (fun x1209 =>
              let x1210 := !x1209
              bif x1210 then
                k0 false
              else
                k0 true))
theorem laws_eqFrac.ex : ∃ f : ((α : Type) → Nat → (Bool × (List Int) × (List Int) × Unit) → (Bool × (List Int) × (List Int) × Unit) → (Bool → Option α) → Option α), f = fun α => @laws_eqFrac.b α := ⟨_, rfl⟩
noncomputable def laws_eqFrac {α : Type} : Nat → (Bool × (List Int) × (List Int) × Unit) → (Bool × (List Int) × (List Int) × Unit) → (Bool → Option α) → Option α := Classical.choose laws_eqFrac.ex α
theorem laws_eqFrac.eq : @laws_eqFrac = @laws_eqFrac.b := funext fun α => congrFun (Classical.choose_spec laws_eqFrac.ex) α

noncomputable def laws_markIntS_L0r {α : Type} (N : Nat) (next : Int → Int → List Int → Option α) (k0 : Int → List Int → Option α) (v1230 : Int) (v1231 : Int) (v1232 : List Int) : Option α :=
  let x1233 := ((v1232.length : Nat) : Int)
  let x1234 := decide (v1231 < x1233)
  bif x1234 then
    bif (decide (v1231 < (0 : Int))) then
      none
    else
      bif decide (v1231.toNat < v1232.length) then
        match v1232[v1231.toNat]? with
        | some x1235 =>
          let x1236 := v1232.set v1231.toNat v1230
          let x1237 := (IntKind.i64.wrap (v1230 + (1 : Int)))
          let x1238 := (IntKind.i64.wrap (v1231 + (1 : Int)))
          next x1237 x1238 x1236
        | none => none
      else
        none
  else
    k0 v1230 v1232
noncomputable def laws_markIntS_L0.b {α : Type} (N n : Nat) (v1230 : Int) (v1231 : Int) (v1232 : List Int) (k0 : Int → List Int → Option α) : Option α :=
  Nat.rec (motive := fun _ => Int → Int → List Int → Option α) (fun _ _ _ => none) (fun _ next => laws_markIntS_L0r N next k0) n v1230 v1231 v1232
theorem laws_markIntS_L0.ex : ∃ f : ((α : Type) → Nat → Nat → Int → Int → List Int → (Int → List Int → Option α) → Option α), f = fun α => @laws_markIntS_L0.b α := ⟨_, rfl⟩
noncomputable def laws_markIntS_L0 {α : Type} : Nat → Nat → Int → Int → List Int → (Int → List Int → Option α) → Option α := Classical.choose laws_markIntS_L0.ex α
theorem laws_markIntS_L0.eq : @laws_markIntS_L0 = @laws_markIntS_L0.b := funext fun α => congrFun (Classical.choose_spec laws_markIntS_L0.ex) α
theorem laws_markIntS_L0.zero {α : Type} (N : Nat) (v1230 : Int) (v1231 : Int) (v1232 : List Int) (k0 : Int → List Int → Option α) : laws_markIntS_L0 N 0 v1230 v1231 v1232 k0 = none := by rw [laws_markIntS_L0.eq]; rfl
theorem laws_markIntS_L0.succ {α : Type} (N n : Nat) (v1230 : Int) (v1231 : Int) (v1232 : List Int) (k0 : Int → List Int → Option α) : laws_markIntS_L0 N (n + 1) v1230 v1231 v1232 k0 = laws_markIntS_L0r N (fun y0 y1 y2 => laws_markIntS_L0 N n y0 y1 y2 k0) k0 v1230 v1231 v1232 := by rw [laws_markIntS_L0.eq]; rfl
/-- loop.example/pinfold/laws.markIntS -/
noncomputable def laws_markIntS.b {α : Type} (N : Nat) (a1228 : Int) (a1229 : List Int) (k0 : Int → List Int → Option α) : Option α :=
  laws_markIntS_L0 N N a1228 (0 : Int) a1229
    (fun x1239 x1240 =>
      k0 x1239 x1240)
theorem laws_markIntS.ex : ∃ f : ((α : Type) → Nat → Int → List Int → (Int → List Int → Option α) → Option α), f = fun α => @laws_markIntS.b α := ⟨_, rfl⟩
noncomputable def laws_markIntS {α : Type} : Nat → Int → List Int → (Int → List Int → Option α) → Option α := Classical.choose laws_markIntS.ex α
theorem laws_markIntS.eq : @laws_markIntS = @laws_markIntS.b := funext fun α => congrFun (Classical.choose_spec laws_markIntS.ex) α

/-- loop.example/pinfold/laws.markFrac -/
noncomputable def laws_markFrac.b {α : Type} (N : Nat) (a1224 : Bool) (a1225 : Int) (a1226 : List Int) (a1227 : List Int) (k0 : Int → List Int → List Int → Option α) : Option α :=
  laws_markIntS N a1225 a1226
    (fun x1241 x1242 =>
      laws_markIntS N x1241 a1227
        (fun x1243 x1244 =>
          k0 x1243 x1242 x1244))
theorem laws_markFrac.ex : ∃ f : ((α : Type) → Nat → Bool → Int → List Int → List Int → (Int → List Int → List Int → Option α) → Option α), f = fun α => @laws_markFrac.b α := ⟨_, rfl⟩
noncomputable def laws_markFrac {α : Type} : Nat → Bool → Int → List Int → List Int → (Int → List Int → List Int → Option α) → Option α := Classical.choose laws_markFrac.ex α
theorem laws_markFrac.eq : @laws_markFrac = @laws_markFrac.b := funext fun α => congrFun (Classical.choose_spec laws_markFrac.ex) α

noncomputable def laws_heldIntS_L0r {α : Type} (N : Nat) (next : List Int → Int → Int → Option α) (k0 : Int → Option α) (k1 : Int → Option α) (v1262 : List Int) (v1263 : Int) (v1264 : Int) : Option α :=
  let x1265 := ((v1262.length : Nat) : Int)
  let x1266 := decide (v1264 < x1265)
  bif x1266 then
    bif (decide (v1264 < (0 : Int))) then
      none
    else
      match v1262[v1264.toNat]? with
      | some x1267 =>
        let x1268 := !(decide (x1267 = v1263))
        bif x1268 then
          k0 (-1 : Int)
        else
          let x1269 := (IntKind.i64.wrap (v1263 + (1 : Int)))
          let x1270 := (IntKind.i64.wrap (v1264 + (1 : Int)))
          next v1262 x1269 x1270
      | none => none
  else
    k1 v1263
noncomputable def laws_heldIntS_L0.b {α : Type} (N n : Nat) (v1262 : List Int) (v1263 : Int) (v1264 : Int) (k0 : Int → Option α) (k1 : Int → Option α) : Option α :=
  Nat.rec (motive := fun _ => List Int → Int → Int → Option α) (fun _ _ _ => none) (fun _ next => laws_heldIntS_L0r N next k0 k1) n v1262 v1263 v1264
theorem laws_heldIntS_L0.ex : ∃ f : ((α : Type) → Nat → Nat → List Int → Int → Int → (Int → Option α) → (Int → Option α) → Option α), f = fun α => @laws_heldIntS_L0.b α := ⟨_, rfl⟩
noncomputable def laws_heldIntS_L0 {α : Type} : Nat → Nat → List Int → Int → Int → (Int → Option α) → (Int → Option α) → Option α := Classical.choose laws_heldIntS_L0.ex α
theorem laws_heldIntS_L0.eq : @laws_heldIntS_L0 = @laws_heldIntS_L0.b := funext fun α => congrFun (Classical.choose_spec laws_heldIntS_L0.ex) α
theorem laws_heldIntS_L0.zero {α : Type} (N : Nat) (v1262 : List Int) (v1263 : Int) (v1264 : Int) (k0 : Int → Option α) (k1 : Int → Option α) : laws_heldIntS_L0 N 0 v1262 v1263 v1264 k0 k1 = none := by rw [laws_heldIntS_L0.eq]; rfl
theorem laws_heldIntS_L0.succ {α : Type} (N n : Nat) (v1262 : List Int) (v1263 : Int) (v1264 : Int) (k0 : Int → Option α) (k1 : Int → Option α) : laws_heldIntS_L0 N (n + 1) v1262 v1263 v1264 k0 k1 = laws_heldIntS_L0r N (fun y0 y1 y2 => laws_heldIntS_L0 N n y0 y1 y2 k0 k1) k0 k1 v1262 v1263 v1264 := by rw [laws_heldIntS_L0.eq]; rfl
/-- loop.example/pinfold/laws.heldIntS -/
noncomputable def laws_heldIntS.b {α : Type} (N : Nat) (a1260 : List Int) (a1261 : Int) (k0 : Int → Option α) : Option α :=
  laws_heldIntS_L0 N N a1260 a1261 (0 : Int)
    (fun x1271 =>
      k0 x1271)
    (fun x1272 =>
      k0 x1272)
theorem laws_heldIntS.ex : ∃ f : ((α : Type) → Nat → List Int → Int → (Int → Option α) → Option α), f = fun α => @laws_heldIntS.b α := ⟨_, rfl⟩
noncomputable def laws_heldIntS {α : Type} : Nat → List Int → Int → (Int → Option α) → Option α := Classical.choose laws_heldIntS.ex α
theorem laws_heldIntS.eq : @laws_heldIntS = @laws_heldIntS.b := funext fun α => congrFun (Classical.choose_spec laws_heldIntS.ex) α

/-- loop.example/pinfold/laws.heldFrac -/
noncomputable def laws_heldFrac.b {α : Type} (N : Nat) (a1258 : Bool × (List Int) × (List Int) × Unit) (a1259 : Int) (k0 : Int → Option α) : Option α :=
  laws_heldIntS N a1258.2.1 a1259
    (fun x1273 =>
      let x1274 := (decide (x1273 < (0 : Int)))
      bif x1274 then
        k0 (-1 : Int)
      else
        laws_heldIntS N a1258.2.2.1 x1273
          (fun x1275 =>
            let x1276 := (decide (x1275 < (0 : Int)))
            bif x1276 then
              k0 (-1 : Int)
            else
              k0 x1275))
theorem laws_heldFrac.ex : ∃ f : ((α : Type) → Nat → (Bool × (List Int) × (List Int) × Unit) → Int → (Int → Option α) → Option α), f = fun α => @laws_heldFrac.b α := ⟨_, rfl⟩
noncomputable def laws_heldFrac {α : Type} : Nat → (Bool × (List Int) × (List Int) × Unit) → Int → (Int → Option α) → Option α := Classical.choose laws_heldFrac.ex α
theorem laws_heldFrac.eq : @laws_heldFrac = @laws_heldFrac.b := funext fun α => congrFun (Classical.choose_spec laws_heldFrac.ex) α

/-- loop.example/pinfold/laws.FnExactFracDiv -/
noncomputable def laws_FnExactFracDiv.b {α : Type} (N : Nat) (a1 : Bool × (List Int) × (List Int) × Unit) (a2 : Bool × (List Int) × (List Int) × Unit) (k0 : Bool → Option α) : Option α :=
  laws_szFrac N a1 (1048576 : Int)
    (fun x14 =>
      let x15 := (decide (x14 < (0 : Int)))
      bif x15 then
        k0 true
      else
        laws_szFrac N a2 x14
          (fun x16 =>
            let x17 := (decide (x16 < (0 : Int)))
            bif x17 then
              k0 true
            else
              laws_toFrac N a1
                (fun x34 x35 x36 =>
                  laws_toFrac N a2
                    (fun x37 x38 x39 =>
                      spec_FracDiv N (x34, (x35, (x36, ()))) (x37, (x38, (x39, ())))
                        (fun x447 x448 x449 x450 =>
                          laws_toFrac N a1
                            (fun x451 x452 x453 =>
                              laws_toFrac N a2
                                (fun x454 x455 x456 =>
                                  impl_FracDiv N (x451, (x452, (x453, ()))) (x454, (x455, (x456, ())))
                                    (fun x1185 x1186 x1187 x1188 =>
                                      laws_eqFrac N (x1185, (x1187, (x1188, ()))) (x447, (x449, (x450, ())))
                                        (fun x1211 =>
                                          let x1212 := !x1211
                                          bif x1212 then
                                            k0 false
                                          else
                                            let x1213 := !(x1186 == x448)
                                            bif x1213 then
                                              k0 false
                                            else
                                              laws_toFrac N a1
                                                (fun x1214 x1215 x1216 =>
                                                  laws_eqFrac N (x451, (x452, (x453, ()))) (x1214, (x1215, (x1216, ())))
                                                    (fun x1217 =>
                                                      let x1218 := !x1217
                                                      bif x1218 then
                                                        k0 false
                                                      else
                                                        laws_toFrac N a2
                                                          (fun x1219 x1220 x1221 =>
                                                            laws_eqFrac N (x454, (x455, (x456, ()))) (x1219, (x1220, (x1221, ())))
                                                              (fun x1222 =>
                                                                let x1223 := !x1222
                                                                bif x1223 then
                                                                  k0 false
                                                                else
                                                                  laws_markFrac N x451 (1 : Int) x452 x453
                                                                    (fun x1245 _ _ =>
                                                                      laws_markFrac N x454 x1245 x455 x456
                                                                        (fun x1248 _ _ =>
                                                                          let x1251 := (decide (x1248 < (0 : Int)))
                                                                          bif x1251 then
                                                                            k0 false
                                                                          else
                                                                            laws_eqFrac N (x1185, (x1187, (x1188, ()))) (x447, (x449, (x450, ())))
                                                                              (fun x1252 =>
                                                                                let x1253 := !x1252
                                                                                bif x1253 then
                                                                                  k0 false
                                                                                else
                                                                                  let x1254 := !(x1186 == x448)
                                                                                  bif x1254 then
                                                                                    k0 false
                                                                                  else
                                                                                    laws_markFrac N x1185 (1 : Int) x1187 x1188
                                                                                      (fun x1255 x1256 x1257 =>
                                                                                        laws_heldFrac N (x1185, (x1256, (x1257, ()))) (1 : Int)
                                                                                          (fun x1277 =>
                                                                                            let x1278 := (decide (x1277 < (0 : Int)))
                                                                                            bif x1278 then
                                                                                              k0 false
                                                                                            else
                                                                                              let x1279 := !(decide (x1277 = x1255))
                                                                                              bif x1279 then
                                                                                                k0 false
                                                                                              else
                                                                                                laws_toFrac N a1
                                                                                                  (fun x1280 x1281 x1282 =>
                                                                                                    laws_toFrac N a2
                                                                                                      (fun x1283 x1284 x1285 =>
                                                                                                        impl_FracDiv N (x1280, (x1281, (x1282, ()))) (x1283, (x1284, (x1285, ())))
                                                                                                          (fun x1286 x1287 x1288 x1289 =>
                                                                                                            laws_eqFrac N (x1286, (x1288, (x1289, ()))) (x447, (x449, (x450, ())))
                                                                                                              (fun x1290 =>
                                                                                                                let x1291 := !x1290
                                                                                                                bif x1291 then
                                                                                                                  k0 false
                                                                                                                else
                                                                                                                  let x1292 := !(x1287 == x448)
                                                                                                                  bif x1292 then
                                                                                                                    k0 false
                                                                                                                  else
                                                                                                                    laws_heldFrac N (x1185, (x1256, (x1257, ()))) (1 : Int)
                                                                                                                      (fun x1293 =>
                                                                                                                        let x1294 := (decide (x1293 < (0 : Int)))
                                                                                                                        bif x1294 then
                                                                                                                          k0 false
                                                                                                                        else
                                                                                                                          let x1295 := !(decide (x1293 = x1255))
                                                                                                                          bif x1295 then
                                                                                                                            k0 false
                                                                                                                          else
                                                                                                                            k0 true)))))))))))))))))))))))
theorem laws_FnExactFracDiv.ex : ∃ f : ((α : Type) → Nat → (Bool × (List Int) × (List Int) × Unit) → (Bool × (List Int) × (List Int) × Unit) → (Bool → Option α) → Option α), f = fun α => @laws_FnExactFracDiv.b α := ⟨_, rfl⟩
noncomputable def laws_FnExactFracDiv {α : Type} : Nat → (Bool × (List Int) × (List Int) × Unit) → (Bool × (List Int) × (List Int) × Unit) → (Bool → Option α) → Option α := Classical.choose laws_FnExactFracDiv.ex α
theorem laws_FnExactFracDiv.eq : @laws_FnExactFracDiv = @laws_FnExactFracDiv.b := funext fun α => congrFun (Classical.choose_spec laws_FnExactFracDiv.ex) α

end
end Go.Proofs.YthjjaddhcdekjaaAm
