/-
  The functions that the program computes, as the abstract machine tells them. Printed by amp.py.
-/
import Derived.Test.YthjjaddhcdekjaaAmb
namespace Go.Proofs.YthjjaddhcdekjaaAm
open Go
noncomputable section
set_option linter.unusedVariables false
set_option linter.unusedSimpArgs false

/-- loop.example/pinfold/laws.szIntS -/
noncomputable def laws_szIntS.b {α : Type} (N : Nat) (a6 : List Int) (a7 : Int) (k0 : Int → Option α) : Option α :=
  let x8 := ((a6.length : Nat) : Int)
  let x9 := IntKind.i64.wrap (a7 - x8)
  let x10 := (decide (x9 < (0 : Int)))
  bif x10 then
    k0 (-1 : Int)
  else
    k0 x9
theorem laws_szIntS.ex : ∃ f : ((α : Type) → Nat → List Int → Int → (Int → Option α) → Option α), f = fun α => @laws_szIntS.b α := ⟨_, rfl⟩
noncomputable def laws_szIntS {α : Type} : Nat → List Int → Int → (Int → Option α) → Option α := Classical.choose laws_szIntS.ex α
theorem laws_szIntS.eq : @laws_szIntS = @laws_szIntS.b := funext fun α => congrFun (Classical.choose_spec laws_szIntS.ex) α

/-- loop.example/pinfold/laws.szFrac -/
noncomputable def laws_szFrac.b {α : Type} (N : Nat) (a4 : Bool × (List Int) × (List Int) × Unit) (a5 : Int) (k0 : Int → Option α) : Option α :=
  laws_szIntS N a4.2.1 a5
    (fun x11 =>
      let x12 := (decide (x11 < (0 : Int)))
      bif x12 then
        k0 (-1 : Int)
      else
        laws_szIntS N a4.2.2.1 x11
          (fun x13 =>
            let x14 := (decide (x13 < (0 : Int)))
            bif x14 then
              k0 (-1 : Int)
            else
              k0 x13))
theorem laws_szFrac.ex : ∃ f : ((α : Type) → Nat → (Bool × (List Int) × (List Int) × Unit) → Int → (Int → Option α) → Option α), f = fun α => @laws_szFrac.b α := ⟨_, rfl⟩
noncomputable def laws_szFrac {α : Type} : Nat → (Bool × (List Int) × (List Int) × Unit) → Int → (Int → Option α) → Option α := Classical.choose laws_szFrac.ex α
theorem laws_szFrac.eq : @laws_szFrac = @laws_szFrac.b := funext fun α => congrFun (Classical.choose_spec laws_szFrac.ex) α

noncomputable def laws_toIntS_L0r {α : Type} (N : Nat) (next : List Int → Int → List Int → Option α) (k0 : List Int → Option α) (v23 : List Int) (v24 : Int) (v25 : List Int) : Option α :=
  let x26 := ((v23.length : Nat) : Int)
  let x27 := decide (v24 < x26)
  bif x27 then
    bif (decide (v24 < (0 : Int))) then
      none
    else
      match v23[v24.toNat]? with
      | some x28 =>
        bif (decide (v24 < (0 : Int))) then
          none
        else
          bif decide (v24.toNat < v25.length) then
            match v25[v24.toNat]? with
            | some x29 =>
              let x30 := v25.set v24.toNat x28
              let x31 := (IntKind.i64.wrap (v24 + (1 : Int)))
              next v23 x31 x30
            | none => none
          else
            none
      | none => none
  else
    k0 v25
noncomputable def laws_toIntS_L0.b {α : Type} (N n : Nat) (v23 : List Int) (v24 : Int) (v25 : List Int) (k0 : List Int → Option α) : Option α :=
  Nat.rec (motive := fun _ => List Int → Int → List Int → Option α) (fun _ _ _ => none) (fun _ next => laws_toIntS_L0r N next k0) n v23 v24 v25
theorem laws_toIntS_L0.ex : ∃ f : ((α : Type) → Nat → Nat → List Int → Int → List Int → (List Int → Option α) → Option α), f = fun α => @laws_toIntS_L0.b α := ⟨_, rfl⟩
noncomputable def laws_toIntS_L0 {α : Type} : Nat → Nat → List Int → Int → List Int → (List Int → Option α) → Option α := Classical.choose laws_toIntS_L0.ex α
theorem laws_toIntS_L0.eq : @laws_toIntS_L0 = @laws_toIntS_L0.b := funext fun α => congrFun (Classical.choose_spec laws_toIntS_L0.ex) α
theorem laws_toIntS_L0.zero {α : Type} (N : Nat) (v23 : List Int) (v24 : Int) (v25 : List Int) (k0 : List Int → Option α) : laws_toIntS_L0 N 0 v23 v24 v25 k0 = none := by rw [laws_toIntS_L0.eq]; rfl
theorem laws_toIntS_L0.succ {α : Type} (N n : Nat) (v23 : List Int) (v24 : Int) (v25 : List Int) (k0 : List Int → Option α) : laws_toIntS_L0 N (n + 1) v23 v24 v25 k0 = laws_toIntS_L0r N (fun y0 y1 y2 => laws_toIntS_L0 N n y0 y1 y2 k0) k0 v23 v24 v25 := by rw [laws_toIntS_L0.eq]; rfl
/-- loop.example/pinfold/laws.toIntS -/
noncomputable def laws_toIntS.b {α : Type} (N : Nat) (a20 : List Int) (k0 : List Int → Option α) : Option α :=
  let x21 := ((a20.length : Nat) : Int)
  bif (decide ((0 : Int) ≤ x21)) then
    bif decide (x21 ≤ x21) then
      bif (decide (x21 ≤ ((8796093022208 : Nat) : Int))) then
        let x22 := (List.replicate x21.toNat (0 : Int))
        laws_toIntS_L0 N N a20 (0 : Int) x22
          (fun x32 =>
            k0 x32)
      else
        none
    else
      none
  else
    none
theorem laws_toIntS.ex : ∃ f : ((α : Type) → Nat → List Int → (List Int → Option α) → Option α), f = fun α => @laws_toIntS.b α := ⟨_, rfl⟩
noncomputable def laws_toIntS {α : Type} : Nat → List Int → (List Int → Option α) → Option α := Classical.choose laws_toIntS.ex α
theorem laws_toIntS.eq : @laws_toIntS = @laws_toIntS.b := funext fun α => congrFun (Classical.choose_spec laws_toIntS.ex) α

/-- loop.example/pinfold/laws.toFrac -/
noncomputable def laws_toFrac.b {α : Type} (N : Nat) (a19 : Bool × (List Int) × (List Int) × Unit) (k0 : Bool → List Int → List Int → Option α) : Option α :=
  laws_toIntS N a19.2.1
    (fun x33 =>
      laws_toIntS N a19.2.2.1
        (fun x34 =>
          k0 a19.1 x33 x34))
theorem laws_toFrac.ex : ∃ f : ((α : Type) → Nat → (Bool × (List Int) × (List Int) × Unit) → (Bool → List Int → List Int → Option α) → Option α), f = fun α => @laws_toFrac.b α := ⟨_, rfl⟩
noncomputable def laws_toFrac {α : Type} : Nat → (Bool × (List Int) × (List Int) × Unit) → (Bool → List Int → List Int → Option α) → Option α := Classical.choose laws_toFrac.ex α
theorem laws_toFrac.eq : @laws_toFrac = @laws_toFrac.b := funext fun α => congrFun (Classical.choose_spec laws_toFrac.ex) α

noncomputable def spec_NatOk_L0r {α : Type} (N : Nat) (next : List Int → Int → Option α) (k0 : Bool → Option α) (k1 : List Int → Option α) (v50 : List Int) (v51 : Int) : Option α :=
  let x52 := ((v50.length : Nat) : Int)
  let x53 := decide (v51 < x52)
  bif x53 then
    bif (decide (v51 < (0 : Int))) then
      none
    else
      match v50[v51.toNat]? with
      | some x54 =>
        let x55 := (decide (x54 < (0 : Int)))
        bif x55 then
          k0 false
        else
          bif (decide (v51 < (0 : Int))) then
            none
          else
            match v50[v51.toNat]? with
            | some x56 =>
              let x57 := (decide ((65536 : Int) ≤ x56))
              bif x57 then
                k0 false
              else
                let x58 := (IntKind.i64.wrap (v51 + (1 : Int)))
                next v50 x58
            | none => none
      | none => none
  else
    k1 v50
noncomputable def spec_NatOk_L0.b {α : Type} (N n : Nat) (v50 : List Int) (v51 : Int) (k0 : Bool → Option α) (k1 : List Int → Option α) : Option α :=
  Nat.rec (motive := fun _ => List Int → Int → Option α) (fun _ _ => none) (fun _ next => spec_NatOk_L0r N next k0 k1) n v50 v51
theorem spec_NatOk_L0.ex : ∃ f : ((α : Type) → Nat → Nat → List Int → Int → (Bool → Option α) → (List Int → Option α) → Option α), f = fun α => @spec_NatOk_L0.b α := ⟨_, rfl⟩
noncomputable def spec_NatOk_L0 {α : Type} : Nat → Nat → List Int → Int → (Bool → Option α) → (List Int → Option α) → Option α := Classical.choose spec_NatOk_L0.ex α
theorem spec_NatOk_L0.eq : @spec_NatOk_L0 = @spec_NatOk_L0.b := funext fun α => congrFun (Classical.choose_spec spec_NatOk_L0.ex) α
theorem spec_NatOk_L0.zero {α : Type} (N : Nat) (v50 : List Int) (v51 : Int) (k0 : Bool → Option α) (k1 : List Int → Option α) : spec_NatOk_L0 N 0 v50 v51 k0 k1 = none := by rw [spec_NatOk_L0.eq]; rfl
theorem spec_NatOk_L0.succ {α : Type} (N n : Nat) (v50 : List Int) (v51 : Int) (k0 : Bool → Option α) (k1 : List Int → Option α) : spec_NatOk_L0 N (n + 1) v50 v51 k0 k1 = spec_NatOk_L0r N (fun y0 y1 => spec_NatOk_L0 N n y0 y1 k0 k1) k0 k1 v50 v51 := by rw [spec_NatOk_L0.eq]; rfl
/-- loop.example/pinfold/spec.NatOk -/
noncomputable def spec_NatOk.b {α : Type} (N : Nat) (a47 : List Int) (k0 : Bool → Option α) : Option α :=
  let x48 := ((a47.length : Nat) : Int)
  let x49 := (decide ((256 : Int) < x48))
  bif x49 then
    k0 false
  else
    spec_NatOk_L0 N N a47 (0 : Int)
      (fun x59 =>
        k0 x59)
      (fun x60 =>
        let x61 := ((x60.length : Nat) : Int)
        let x62 := (decide (x61 = (0 : Int)))
        bif x62 then
          k0 true
        else
          let x63 := ((x60.length : Nat) : Int)
          let x64 := (IntKind.i64.wrap (x63 - (1 : Int)))
          bif (decide (x64 < (0 : Int))) then
            none
          else
            match x60[x64.toNat]? with
            | some x65 =>
              let x66 := (!(decide (x65 = (0 : Int))))
              k0 x66
            | none => none)
theorem spec_NatOk.ex : ∃ f : ((α : Type) → Nat → List Int → (Bool → Option α) → Option α), f = fun α => @spec_NatOk.b α := ⟨_, rfl⟩
noncomputable def spec_NatOk {α : Type} : Nat → List Int → (Bool → Option α) → Option α := Classical.choose spec_NatOk.ex α
theorem spec_NatOk.eq : @spec_NatOk = @spec_NatOk.b := funext fun α => congrFun (Classical.choose_spec spec_NatOk.ex) α

noncomputable def spec_l5Trim_L0r {α : Type} (N : Nat) (next : List Int → Int → Option α) (k0 : List Int → Int → Option α) (v79 : List Int) (v80 : Int) : Option α :=
  let x81 := (decide ((0 : Int) < v80))
  bif x81 then
    let x82 := (IntKind.i64.wrap (v80 - (1 : Int)))
    bif (decide (x82 < (0 : Int))) then
      none
    else
      match v79[x82.toNat]? with
      | some x83 =>
        let x84 := (decide (x83 = (0 : Int)))
        bif x84 then
          let x85 := (IntKind.i64.wrap (v80 - (1 : Int)))
          next v79 x85
        else
          k0 v79 v80
      | none => none
  else
    k0 v79 v80
noncomputable def spec_l5Trim_L0.b {α : Type} (N n : Nat) (v79 : List Int) (v80 : Int) (k0 : List Int → Int → Option α) : Option α :=
  Nat.rec (motive := fun _ => List Int → Int → Option α) (fun _ _ => none) (fun _ next => spec_l5Trim_L0r N next k0) n v79 v80
theorem spec_l5Trim_L0.ex : ∃ f : ((α : Type) → Nat → Nat → List Int → Int → (List Int → Int → Option α) → Option α), f = fun α => @spec_l5Trim_L0.b α := ⟨_, rfl⟩
noncomputable def spec_l5Trim_L0 {α : Type} : Nat → Nat → List Int → Int → (List Int → Int → Option α) → Option α := Classical.choose spec_l5Trim_L0.ex α
theorem spec_l5Trim_L0.eq : @spec_l5Trim_L0 = @spec_l5Trim_L0.b := funext fun α => congrFun (Classical.choose_spec spec_l5Trim_L0.ex) α
theorem spec_l5Trim_L0.zero {α : Type} (N : Nat) (v79 : List Int) (v80 : Int) (k0 : List Int → Int → Option α) : spec_l5Trim_L0 N 0 v79 v80 k0 = none := by rw [spec_l5Trim_L0.eq]; rfl
theorem spec_l5Trim_L0.succ {α : Type} (N n : Nat) (v79 : List Int) (v80 : Int) (k0 : List Int → Int → Option α) : spec_l5Trim_L0 N (n + 1) v79 v80 k0 = spec_l5Trim_L0r N (fun y0 y1 => spec_l5Trim_L0 N n y0 y1 k0) k0 v79 v80 := by rw [spec_l5Trim_L0.eq]; rfl
noncomputable def spec_l5Trim_L2r {α : Type} (N : Nat) (next : List Int → Int → Int → List Int → Option α) (k0 : List Int → Option α) (v88 : List Int) (v89 : Int) (v90 : Int) (v91 : List Int) : Option α :=
  let x92 := decide (v90 < v89)
  bif x92 then
    bif (decide (v90 < (0 : Int))) then
      none
    else
      match v88[v90.toNat]? with
      | some x93 =>
        let x94 := [x93]
        bif decide (v91.length + x94.length ≤ 8796093022208) then
          let x95 := v91 ++ x94
          let x96 := (IntKind.i64.wrap (v90 + (1 : Int)))
          next v88 v89 x96 x95
        else
          none
      | none => none
  else
    k0 v91
noncomputable def spec_l5Trim_L2.b {α : Type} (N n : Nat) (v88 : List Int) (v89 : Int) (v90 : Int) (v91 : List Int) (k0 : List Int → Option α) : Option α :=
  Nat.rec (motive := fun _ => List Int → Int → Int → List Int → Option α) (fun _ _ _ _ => none) (fun _ next => spec_l5Trim_L2r N next k0) n v88 v89 v90 v91
theorem spec_l5Trim_L2.ex : ∃ f : ((α : Type) → Nat → Nat → List Int → Int → Int → List Int → (List Int → Option α) → Option α), f = fun α => @spec_l5Trim_L2.b α := ⟨_, rfl⟩
noncomputable def spec_l5Trim_L2 {α : Type} : Nat → Nat → List Int → Int → Int → List Int → (List Int → Option α) → Option α := Classical.choose spec_l5Trim_L2.ex α
theorem spec_l5Trim_L2.eq : @spec_l5Trim_L2 = @spec_l5Trim_L2.b := funext fun α => congrFun (Classical.choose_spec spec_l5Trim_L2.ex) α
theorem spec_l5Trim_L2.zero {α : Type} (N : Nat) (v88 : List Int) (v89 : Int) (v90 : Int) (v91 : List Int) (k0 : List Int → Option α) : spec_l5Trim_L2 N 0 v88 v89 v90 v91 k0 = none := by rw [spec_l5Trim_L2.eq]; rfl
theorem spec_l5Trim_L2.succ {α : Type} (N n : Nat) (v88 : List Int) (v89 : Int) (v90 : Int) (v91 : List Int) (k0 : List Int → Option α) : spec_l5Trim_L2 N (n + 1) v88 v89 v90 v91 k0 = spec_l5Trim_L2r N (fun y0 y1 y2 y3 => spec_l5Trim_L2 N n y0 y1 y2 y3 k0) k0 v88 v89 v90 v91 := by rw [spec_l5Trim_L2.eq]; rfl
/-- loop.example/pinfold/spec.l5Trim -/
noncomputable def spec_l5Trim.b {α : Type} (N : Nat) (a77 : List Int) (k0 : List Int → Option α) : Option α :=
  let x78 := ((a77.length : Nat) : Int)
  spec_l5Trim_L0 N N a77 x78
    (fun x86 x87 =>
      spec_l5Trim_L2 N N x86 x87 (0 : Int) []
        (fun x97 =>
          k0 x97))
theorem spec_l5Trim.ex : ∃ f : ((α : Type) → Nat → List Int → (List Int → Option α) → Option α), f = fun α => @spec_l5Trim.b α := ⟨_, rfl⟩
noncomputable def spec_l5Trim {α : Type} : Nat → List Int → (List Int → Option α) → Option α := Classical.choose spec_l5Trim.ex α
theorem spec_l5Trim.eq : @spec_l5Trim = @spec_l5Trim.b := funext fun α => congrFun (Classical.choose_spec spec_l5Trim.ex) α

noncomputable def spec_l5Cmp_L0r {α : Type} (N : Nat) (next : List Int → List Int → Int → Option α) (k0 : Int → Option α) (k1 : Option α) (v116 : List Int) (v117 : List Int) (v118 : Int) : Option α :=
  let x119 := (decide ((0 : Int) ≤ v118))
  bif x119 then
    bif (decide (v118 < (0 : Int))) then
      none
    else
      match v116[v118.toNat]? with
      | some x120 =>
        bif (decide (v118 < (0 : Int))) then
          none
        else
          match v117[v118.toNat]? with
          | some x121 =>
            let x122 := decide (x120 < x121)
            bif x122 then
              k0 (-1 : Int)
            else
              bif (decide (v118 < (0 : Int))) then
                none
              else
                match v116[v118.toNat]? with
                | some x123 =>
                  bif (decide (v118 < (0 : Int))) then
                    none
                  else
                    match v117[v118.toNat]? with
                    | some x124 =>
                      let x125 := decide (x124 < x123)
                      bif x125 then
                        k0 (1 : Int)
                      else
                        let x126 := (IntKind.i64.wrap (v118 - (1 : Int)))
                        next v116 v117 x126
                    | none => none
                | none => none
          | none => none
      | none => none
  else
    k1
noncomputable def spec_l5Cmp_L0.b {α : Type} (N n : Nat) (v116 : List Int) (v117 : List Int) (v118 : Int) (k0 : Int → Option α) (k1 : Option α) : Option α :=
  Nat.rec (motive := fun _ => List Int → List Int → Int → Option α) (fun _ _ _ => none) (fun _ next => spec_l5Cmp_L0r N next k0 k1) n v116 v117 v118
theorem spec_l5Cmp_L0.ex : ∃ f : ((α : Type) → Nat → Nat → List Int → List Int → Int → (Int → Option α) → (Option α) → Option α), f = fun α => @spec_l5Cmp_L0.b α := ⟨_, rfl⟩
noncomputable def spec_l5Cmp_L0 {α : Type} : Nat → Nat → List Int → List Int → Int → (Int → Option α) → (Option α) → Option α := Classical.choose spec_l5Cmp_L0.ex α
theorem spec_l5Cmp_L0.eq : @spec_l5Cmp_L0 = @spec_l5Cmp_L0.b := funext fun α => congrFun (Classical.choose_spec spec_l5Cmp_L0.ex) α
theorem spec_l5Cmp_L0.zero {α : Type} (N : Nat) (v116 : List Int) (v117 : List Int) (v118 : Int) (k0 : Int → Option α) (k1 : Option α) : spec_l5Cmp_L0 N 0 v116 v117 v118 k0 k1 = none := by rw [spec_l5Cmp_L0.eq]; rfl
theorem spec_l5Cmp_L0.succ {α : Type} (N n : Nat) (v116 : List Int) (v117 : List Int) (v118 : Int) (k0 : Int → Option α) (k1 : Option α) : spec_l5Cmp_L0 N (n + 1) v116 v117 v118 k0 k1 = spec_l5Cmp_L0r N (fun y0 y1 y2 => spec_l5Cmp_L0 N n y0 y1 y2 k0 k1) k0 k1 v116 v117 v118 := by rw [spec_l5Cmp_L0.eq]; rfl
/-- loop.example/pinfold/spec.l5Cmp -/
noncomputable def spec_l5Cmp.b {α : Type} (N : Nat) (a106 : List Int) (a107 : List Int) (k0 : Int → Option α) : Option α :=
  let x108 := ((a106.length : Nat) : Int)
  let x109 := ((a107.length : Nat) : Int)
  let x110 := decide (x108 < x109)
  bif x110 then
    k0 (-1 : Int)
  else
    let x111 := ((a106.length : Nat) : Int)
    let x112 := ((a107.length : Nat) : Int)
    let x113 := decide (x112 < x111)
    bif x113 then
      k0 (1 : Int)
    else
      let x114 := ((a106.length : Nat) : Int)
      let x115 := (IntKind.i64.wrap (x114 - (1 : Int)))
      spec_l5Cmp_L0 N N a106 a107 x115
        (fun x127 =>
          k0 x127)
        (
          k0 (0 : Int))
theorem spec_l5Cmp.ex : ∃ f : ((α : Type) → Nat → List Int → List Int → (Int → Option α) → Option α), f = fun α => @spec_l5Cmp.b α := ⟨_, rfl⟩
noncomputable def spec_l5Cmp {α : Type} : Nat → List Int → List Int → (Int → Option α) → Option α := Classical.choose spec_l5Cmp.ex α
theorem spec_l5Cmp.eq : @spec_l5Cmp = @spec_l5Cmp.b := funext fun α => congrFun (Classical.choose_spec spec_l5Cmp.ex) α

noncomputable def spec_l5DivSmall_L0r {α : Type} (N : Nat) (next : List Int → Int → Int → Int → List Int → Option α) (k0 : Int → List Int → Option α) (v140 : List Int) (v141 : Int) (v142 : Int) (v143 : Int) (v144 : List Int) : Option α :=
  let x145 := (decide ((0 : Int) ≤ v143))
  bif x145 then
    let x146 := (IntKind.i64.wrap (v142 * (65536 : Int)))
    bif (decide (v143 < (0 : Int))) then
      none
    else
      match v140[v143.toNat]? with
      | some x147 =>
        let x148 := IntKind.i64.wrap (x146 + x147)
        bif (decide (v141 = (0 : Int))) then
          none
        else
          let x149 := IntKind.i64.wrap (Int.tdiv x148 v141)
          bif (decide (v143 < (0 : Int))) then
            none
          else
            bif decide (v143.toNat < v144.length) then
              match v144[v143.toNat]? with
              | some x150 =>
                let x151 := v144.set v143.toNat x149
                bif (decide (v141 = (0 : Int))) then
                  none
                else
                  let x152 := Int.tmod x148 v141
                  let x153 := (IntKind.i64.wrap (v143 - (1 : Int)))
                  next v140 v141 x152 x153 x151
              | none => none
            else
              none
      | none => none
  else
    k0 v142 v144
noncomputable def spec_l5DivSmall_L0.b {α : Type} (N n : Nat) (v140 : List Int) (v141 : Int) (v142 : Int) (v143 : Int) (v144 : List Int) (k0 : Int → List Int → Option α) : Option α :=
  Nat.rec (motive := fun _ => List Int → Int → Int → Int → List Int → Option α) (fun _ _ _ _ _ => none) (fun _ next => spec_l5DivSmall_L0r N next k0) n v140 v141 v142 v143 v144
theorem spec_l5DivSmall_L0.ex : ∃ f : ((α : Type) → Nat → Nat → List Int → Int → Int → Int → List Int → (Int → List Int → Option α) → Option α), f = fun α => @spec_l5DivSmall_L0.b α := ⟨_, rfl⟩
noncomputable def spec_l5DivSmall_L0 {α : Type} : Nat → Nat → List Int → Int → Int → Int → List Int → (Int → List Int → Option α) → Option α := Classical.choose spec_l5DivSmall_L0.ex α
theorem spec_l5DivSmall_L0.eq : @spec_l5DivSmall_L0 = @spec_l5DivSmall_L0.b := funext fun α => congrFun (Classical.choose_spec spec_l5DivSmall_L0.ex) α
theorem spec_l5DivSmall_L0.zero {α : Type} (N : Nat) (v140 : List Int) (v141 : Int) (v142 : Int) (v143 : Int) (v144 : List Int) (k0 : Int → List Int → Option α) : spec_l5DivSmall_L0 N 0 v140 v141 v142 v143 v144 k0 = none := by rw [spec_l5DivSmall_L0.eq]; rfl
theorem spec_l5DivSmall_L0.succ {α : Type} (N n : Nat) (v140 : List Int) (v141 : Int) (v142 : Int) (v143 : Int) (v144 : List Int) (k0 : Int → List Int → Option α) : spec_l5DivSmall_L0 N (n + 1) v140 v141 v142 v143 v144 k0 = spec_l5DivSmall_L0r N (fun y0 y1 y2 y3 y4 => spec_l5DivSmall_L0 N n y0 y1 y2 y3 y4 k0) k0 v140 v141 v142 v143 v144 := by rw [spec_l5DivSmall_L0.eq]; rfl
/-- loop.example/pinfold/spec.l5DivSmall -/
noncomputable def spec_l5DivSmall.b {α : Type} (N : Nat) (a134 : List Int) (a135 : Int) (k0 : Int → List Int → Option α) : Option α :=
  let x136 := ((a134.length : Nat) : Int)
  bif (decide ((0 : Int) ≤ x136)) then
    bif decide (x136 ≤ x136) then
      bif (decide (x136 ≤ ((8796093022208 : Nat) : Int))) then
        let x137 := (List.replicate x136.toNat (0 : Int))
        let x138 := ((a134.length : Nat) : Int)
        let x139 := (IntKind.i64.wrap (x138 - (1 : Int)))
        spec_l5DivSmall_L0 N N a134 a135 (0 : Int) x139 x137
          (fun x154 x155 =>
            spec_l5Trim N x155
              (fun x156 =>
                k0 x154 x156))
      else
        none
    else
      none
  else
    none
theorem spec_l5DivSmall.ex : ∃ f : ((α : Type) → Nat → List Int → Int → (Int → List Int → Option α) → Option α), f = fun α => @spec_l5DivSmall.b α := ⟨_, rfl⟩
noncomputable def spec_l5DivSmall {α : Type} : Nat → List Int → Int → (Int → List Int → Option α) → Option α := Classical.choose spec_l5DivSmall.ex α
theorem spec_l5DivSmall.eq : @spec_l5DivSmall = @spec_l5DivSmall.b := funext fun α => congrFun (Classical.choose_spec spec_l5DivSmall.ex) α

noncomputable def spec_NatOf_L0r {α : Type} (N : Nat) (next : Int → List Int → Option α) (k0 : List Int → Option α) (v161 : Int) (v162 : List Int) : Option α :=
  let x163 := (decide ((0 : Int) < v161))
  bif x163 then
    let x164 := (Int.tmod v161 (65536 : Int))
    let x165 := IntKind.i64.wrap x164
    let x166 := [x165]
    bif decide (v162.length + x166.length ≤ 8796093022208) then
      let x167 := v162 ++ x166
      let x168 := (IntKind.u64.wrap (Int.tdiv v161 (65536 : Int)))
      next x168 x167
    else
      none
  else
    k0 v162
noncomputable def spec_NatOf_L0.b {α : Type} (N n : Nat) (v161 : Int) (v162 : List Int) (k0 : List Int → Option α) : Option α :=
  Nat.rec (motive := fun _ => Int → List Int → Option α) (fun _ _ => none) (fun _ next => spec_NatOf_L0r N next k0) n v161 v162
theorem spec_NatOf_L0.ex : ∃ f : ((α : Type) → Nat → Nat → Int → List Int → (List Int → Option α) → Option α), f = fun α => @spec_NatOf_L0.b α := ⟨_, rfl⟩
noncomputable def spec_NatOf_L0 {α : Type} : Nat → Nat → Int → List Int → (List Int → Option α) → Option α := Classical.choose spec_NatOf_L0.ex α
theorem spec_NatOf_L0.eq : @spec_NatOf_L0 = @spec_NatOf_L0.b := funext fun α => congrFun (Classical.choose_spec spec_NatOf_L0.ex) α
theorem spec_NatOf_L0.zero {α : Type} (N : Nat) (v161 : Int) (v162 : List Int) (k0 : List Int → Option α) : spec_NatOf_L0 N 0 v161 v162 k0 = none := by rw [spec_NatOf_L0.eq]; rfl
theorem spec_NatOf_L0.succ {α : Type} (N n : Nat) (v161 : Int) (v162 : List Int) (k0 : List Int → Option α) : spec_NatOf_L0 N (n + 1) v161 v162 k0 = spec_NatOf_L0r N (fun y0 y1 => spec_NatOf_L0 N n y0 y1 k0) k0 v161 v162 := by rw [spec_NatOf_L0.eq]; rfl
/-- loop.example/pinfold/spec.NatOf -/
noncomputable def spec_NatOf.b {α : Type} (N : Nat) (a160 : Int) (k0 : List Int → Option α) : Option α :=
  spec_NatOf_L0 N N a160 []
    (fun x169 =>
      k0 x169)
theorem spec_NatOf.ex : ∃ f : ((α : Type) → Nat → Int → (List Int → Option α) → Option α), f = fun α => @spec_NatOf.b α := ⟨_, rfl⟩
noncomputable def spec_NatOf {α : Type} : Nat → Int → (List Int → Option α) → Option α := Classical.choose spec_NatOf.ex α
theorem spec_NatOf.eq : @spec_NatOf = @spec_NatOf.b := funext fun α => congrFun (Classical.choose_spec spec_NatOf.ex) α

noncomputable def spec_l5Mul_L2r {α : Type} (N : Nat) (next : List Int → List Int → Int → Int → Int → List Int → Option α) (k0 : List Int → List Int → Int → Int → List Int → Option α) (v192 : List Int) (v193 : List Int) (v194 : Int) (v195 : Int) (v196 : Int) (v197 : List Int) : Option α :=
  let x198 := ((v193.length : Nat) : Int)
  let x199 := decide (v196 < x198)
  bif x199 then
    let x200 := IntKind.i64.wrap (v194 + v196)
    bif (decide (x200 < (0 : Int))) then
      none
    else
      bif decide (x200.toNat < v197.length) then
        match v197[x200.toNat]? with
        | some x201 =>
          bif (decide (v194 < (0 : Int))) then
            none
          else
            match v192[v194.toNat]? with
            | some x202 =>
              bif (decide (v196 < (0 : Int))) then
                none
              else
                match v193[v196.toNat]? with
                | some x203 =>
                  let x204 := IntKind.i64.wrap (x202 * x203)
                  let x205 := IntKind.i64.wrap (x201 + x204)
                  let x206 := IntKind.i64.wrap (x205 + v195)
                  let x207 := IntKind.i64.wrap (v194 + v196)
                  let x208 := (Int.tmod x206 (65536 : Int))
                  bif (decide (x207 < (0 : Int))) then
                    none
                  else
                    bif decide (x207.toNat < v197.length) then
                      match v197[x207.toNat]? with
                      | some x209 =>
                        let x210 := v197.set x207.toNat x208
                        let x211 := (IntKind.i64.wrap (Int.tdiv x206 (65536 : Int)))
                        let x212 := (IntKind.i64.wrap (v196 + (1 : Int)))
                        next v192 v193 v194 x211 x212 x210
                      | none => none
                    else
                      none
                | none => none
            | none => none
        | none => none
      else
        none
  else
    k0 v192 v193 v194 v195 v197
noncomputable def spec_l5Mul_L2.b {α : Type} (N n : Nat) (v192 : List Int) (v193 : List Int) (v194 : Int) (v195 : Int) (v196 : Int) (v197 : List Int) (k0 : List Int → List Int → Int → Int → List Int → Option α) : Option α :=
  Nat.rec (motive := fun _ => List Int → List Int → Int → Int → Int → List Int → Option α) (fun _ _ _ _ _ _ => none) (fun _ next => spec_l5Mul_L2r N next k0) n v192 v193 v194 v195 v196 v197
theorem spec_l5Mul_L2.ex : ∃ f : ((α : Type) → Nat → Nat → List Int → List Int → Int → Int → Int → List Int → (List Int → List Int → Int → Int → List Int → Option α) → Option α), f = fun α => @spec_l5Mul_L2.b α := ⟨_, rfl⟩
noncomputable def spec_l5Mul_L2 {α : Type} : Nat → Nat → List Int → List Int → Int → Int → Int → List Int → (List Int → List Int → Int → Int → List Int → Option α) → Option α := Classical.choose spec_l5Mul_L2.ex α
theorem spec_l5Mul_L2.eq : @spec_l5Mul_L2 = @spec_l5Mul_L2.b := funext fun α => congrFun (Classical.choose_spec spec_l5Mul_L2.ex) α
theorem spec_l5Mul_L2.zero {α : Type} (N : Nat) (v192 : List Int) (v193 : List Int) (v194 : Int) (v195 : Int) (v196 : Int) (v197 : List Int) (k0 : List Int → List Int → Int → Int → List Int → Option α) : spec_l5Mul_L2 N 0 v192 v193 v194 v195 v196 v197 k0 = none := by rw [spec_l5Mul_L2.eq]; rfl
theorem spec_l5Mul_L2.succ {α : Type} (N n : Nat) (v192 : List Int) (v193 : List Int) (v194 : Int) (v195 : Int) (v196 : Int) (v197 : List Int) (k0 : List Int → List Int → Int → Int → List Int → Option α) : spec_l5Mul_L2 N (n + 1) v192 v193 v194 v195 v196 v197 k0 = spec_l5Mul_L2r N (fun y0 y1 y2 y3 y4 y5 => spec_l5Mul_L2 N n y0 y1 y2 y3 y4 y5 k0) k0 v192 v193 v194 v195 v196 v197 := by rw [spec_l5Mul_L2.eq]; rfl
noncomputable def spec_l5Mul_L0r {α : Type} (N : Nat) (next : List Int → List Int → Int → List Int → Option α) (k0 : List Int → Option α) (v186 : List Int) (v187 : List Int) (v188 : Int) (v189 : List Int) : Option α :=
  let x190 := ((v186.length : Nat) : Int)
  let x191 := decide (v188 < x190)
  bif x191 then
    spec_l5Mul_L2 N N v186 v187 v188 (0 : Int) (0 : Int) v189
      (fun x213 x214 x215 x216 x217 =>
        let x218 := ((x214.length : Nat) : Int)
        let x219 := IntKind.i64.wrap (x215 + x218)
        bif (decide (x219 < (0 : Int))) then
          none
        else
          bif decide (x219.toNat < x217.length) then
            match x217[x219.toNat]? with
            | some x220 =>
              let x221 := x217.set x219.toNat x216
              let x222 := (IntKind.i64.wrap (x215 + (1 : Int)))
              next x213 x214 x222 x221
            | none => none
          else
            none)
  else
    k0 v189
noncomputable def spec_l5Mul_L0.b {α : Type} (N n : Nat) (v186 : List Int) (v187 : List Int) (v188 : Int) (v189 : List Int) (k0 : List Int → Option α) : Option α :=
  Nat.rec (motive := fun _ => List Int → List Int → Int → List Int → Option α) (fun _ _ _ _ => none) (fun _ next => spec_l5Mul_L0r N next k0) n v186 v187 v188 v189
theorem spec_l5Mul_L0.ex : ∃ f : ((α : Type) → Nat → Nat → List Int → List Int → Int → List Int → (List Int → Option α) → Option α), f = fun α => @spec_l5Mul_L0.b α := ⟨_, rfl⟩
noncomputable def spec_l5Mul_L0 {α : Type} : Nat → Nat → List Int → List Int → Int → List Int → (List Int → Option α) → Option α := Classical.choose spec_l5Mul_L0.ex α
theorem spec_l5Mul_L0.eq : @spec_l5Mul_L0 = @spec_l5Mul_L0.b := funext fun α => congrFun (Classical.choose_spec spec_l5Mul_L0.ex) α
theorem spec_l5Mul_L0.zero {α : Type} (N : Nat) (v186 : List Int) (v187 : List Int) (v188 : Int) (v189 : List Int) (k0 : List Int → Option α) : spec_l5Mul_L0 N 0 v186 v187 v188 v189 k0 = none := by rw [spec_l5Mul_L0.eq]; rfl
theorem spec_l5Mul_L0.succ {α : Type} (N n : Nat) (v186 : List Int) (v187 : List Int) (v188 : Int) (v189 : List Int) (k0 : List Int → Option α) : spec_l5Mul_L0 N (n + 1) v186 v187 v188 v189 k0 = spec_l5Mul_L0r N (fun y0 y1 y2 y3 => spec_l5Mul_L0 N n y0 y1 y2 y3 k0) k0 v186 v187 v188 v189 := by rw [spec_l5Mul_L0.eq]; rfl
/-- loop.example/pinfold/spec.l5Mul -/
noncomputable def spec_l5Mul.b {α : Type} (N : Nat) (a180 : List Int) (a181 : List Int) (k0 : List Int → Option α) : Option α :=
  let x182 := ((a180.length : Nat) : Int)
  let x183 := ((a181.length : Nat) : Int)
  let x184 := IntKind.i64.wrap (x182 + x183)
  bif (decide ((0 : Int) ≤ x184)) then
    bif decide (x184 ≤ x184) then
      bif (decide (x184 ≤ ((8796093022208 : Nat) : Int))) then
        let x185 := (List.replicate x184.toNat (0 : Int))
        spec_l5Mul_L0 N N a180 a181 (0 : Int) x185
          (fun x223 =>
            spec_l5Trim N x223
              (fun x224 =>
                k0 x224))
      else
        none
    else
      none
  else
    none
theorem spec_l5Mul.ex : ∃ f : ((α : Type) → Nat → List Int → List Int → (List Int → Option α) → Option α), f = fun α => @spec_l5Mul.b α := ⟨_, rfl⟩
noncomputable def spec_l5Mul {α : Type} : Nat → List Int → List Int → (List Int → Option α) → Option α := Classical.choose spec_l5Mul.ex α
theorem spec_l5Mul.eq : @spec_l5Mul = @spec_l5Mul.b := funext fun α => congrFun (Classical.choose_spec spec_l5Mul.ex) α

/-- loop.example/pinfold/spec.l5Times -/
noncomputable def spec_l5Times.b {α : Type} (N : Nat) (a176 : List Int) (a177 : Int) (k0 : List Int → Option α) : Option α :=
  let x178 := (decide (a177 = (0 : Int)))
  bif x178 then
    k0 []
  else
    let x179 := [a177]
    spec_l5Mul N a176 x179
      (fun x225 =>
        k0 x225)
theorem spec_l5Times.ex : ∃ f : ((α : Type) → Nat → List Int → Int → (List Int → Option α) → Option α), f = fun α => @spec_l5Times.b α := ⟨_, rfl⟩
noncomputable def spec_l5Times {α : Type} : Nat → List Int → Int → (List Int → Option α) → Option α := Classical.choose spec_l5Times.ex α
theorem spec_l5Times.eq : @spec_l5Times = @spec_l5Times.b := funext fun α => congrFun (Classical.choose_spec spec_l5Times.ex) α

noncomputable def spec_l5Top_L0r {α : Type} (N : Nat) (next : List Int → Int → List Int → Option α) (k0 : List Int → Option α) (v238 : List Int) (v239 : Int) (v240 : List Int) : Option α :=
  let x241 := ((v238.length : Nat) : Int)
  let x242 := decide (v239 < x241)
  bif x242 then
    bif (decide (v239 < (0 : Int))) then
      none
    else
      match v238[v239.toNat]? with
      | some x243 =>
        let x244 := [x243]
        bif decide (v240.length + x244.length ≤ 8796093022208) then
          let x245 := v240 ++ x244
          let x246 := (IntKind.i64.wrap (v239 + (1 : Int)))
          next v238 x246 x245
        else
          none
      | none => none
  else
    k0 v240
noncomputable def spec_l5Top_L0.b {α : Type} (N n : Nat) (v238 : List Int) (v239 : Int) (v240 : List Int) (k0 : List Int → Option α) : Option α :=
  Nat.rec (motive := fun _ => List Int → Int → List Int → Option α) (fun _ _ _ => none) (fun _ next => spec_l5Top_L0r N next k0) n v238 v239 v240
theorem spec_l5Top_L0.ex : ∃ f : ((α : Type) → Nat → Nat → List Int → Int → List Int → (List Int → Option α) → Option α), f = fun α => @spec_l5Top_L0.b α := ⟨_, rfl⟩
noncomputable def spec_l5Top_L0 {α : Type} : Nat → Nat → List Int → Int → List Int → (List Int → Option α) → Option α := Classical.choose spec_l5Top_L0.ex α
theorem spec_l5Top_L0.eq : @spec_l5Top_L0 = @spec_l5Top_L0.b := funext fun α => congrFun (Classical.choose_spec spec_l5Top_L0.ex) α
theorem spec_l5Top_L0.zero {α : Type} (N : Nat) (v238 : List Int) (v239 : Int) (v240 : List Int) (k0 : List Int → Option α) : spec_l5Top_L0 N 0 v238 v239 v240 k0 = none := by rw [spec_l5Top_L0.eq]; rfl
theorem spec_l5Top_L0.succ {α : Type} (N n : Nat) (v238 : List Int) (v239 : Int) (v240 : List Int) (k0 : List Int → Option α) : spec_l5Top_L0 N (n + 1) v238 v239 v240 k0 = spec_l5Top_L0r N (fun y0 y1 y2 => spec_l5Top_L0 N n y0 y1 y2 k0) k0 v238 v239 v240 := by rw [spec_l5Top_L0.eq]; rfl
/-- loop.example/pinfold/spec.l5Top -/
noncomputable def spec_l5Top.b {α : Type} (N : Nat) (a236 : List Int) (a237 : Int) (k0 : List Int → Option α) : Option α :=
  spec_l5Top_L0 N N a236 a237 []
    (fun x247 =>
      k0 x247)
theorem spec_l5Top.ex : ∃ f : ((α : Type) → Nat → List Int → Int → (List Int → Option α) → Option α), f = fun α => @spec_l5Top.b α := ⟨_, rfl⟩
noncomputable def spec_l5Top {α : Type} : Nat → List Int → Int → (List Int → Option α) → Option α := Classical.choose spec_l5Top.ex α
theorem spec_l5Top.eq : @spec_l5Top = @spec_l5Top.b := funext fun α => congrFun (Classical.choose_spec spec_l5Top.ex) α

noncomputable def spec_l5Shl_L0r {α : Type} (N : Nat) (next : List Int → Int → List Int → Option α) (k0 : List Int → Option α) (v264 : List Int) (v265 : Int) (v266 : List Int) : Option α :=
  let x267 := ((v264.length : Nat) : Int)
  let x268 := decide (v265 < x267)
  bif x268 then
    bif (decide (v265 < (0 : Int))) then
      none
    else
      match v264[v265.toNat]? with
      | some x269 =>
        let x270 := [x269]
        bif decide (v266.length + x270.length ≤ 8796093022208) then
          let x271 := v266 ++ x270
          let x272 := (IntKind.i64.wrap (v265 + (1 : Int)))
          next v264 x272 x271
        else
          none
      | none => none
  else
    k0 v266
noncomputable def spec_l5Shl_L0.b {α : Type} (N n : Nat) (v264 : List Int) (v265 : Int) (v266 : List Int) (k0 : List Int → Option α) : Option α :=
  Nat.rec (motive := fun _ => List Int → Int → List Int → Option α) (fun _ _ _ => none) (fun _ next => spec_l5Shl_L0r N next k0) n v264 v265 v266
theorem spec_l5Shl_L0.ex : ∃ f : ((α : Type) → Nat → Nat → List Int → Int → List Int → (List Int → Option α) → Option α), f = fun α => @spec_l5Shl_L0.b α := ⟨_, rfl⟩
noncomputable def spec_l5Shl_L0 {α : Type} : Nat → Nat → List Int → Int → List Int → (List Int → Option α) → Option α := Classical.choose spec_l5Shl_L0.ex α
theorem spec_l5Shl_L0.eq : @spec_l5Shl_L0 = @spec_l5Shl_L0.b := funext fun α => congrFun (Classical.choose_spec spec_l5Shl_L0.ex) α
theorem spec_l5Shl_L0.zero {α : Type} (N : Nat) (v264 : List Int) (v265 : Int) (v266 : List Int) (k0 : List Int → Option α) : spec_l5Shl_L0 N 0 v264 v265 v266 k0 = none := by rw [spec_l5Shl_L0.eq]; rfl
theorem spec_l5Shl_L0.succ {α : Type} (N n : Nat) (v264 : List Int) (v265 : Int) (v266 : List Int) (k0 : List Int → Option α) : spec_l5Shl_L0 N (n + 1) v264 v265 v266 k0 = spec_l5Shl_L0r N (fun y0 y1 y2 => spec_l5Shl_L0 N n y0 y1 y2 k0) k0 v264 v265 v266 := by rw [spec_l5Shl_L0.eq]; rfl
/-- loop.example/pinfold/spec.l5Shl -/
noncomputable def spec_l5Shl.b {α : Type} (N : Nat) (a259 : List Int) (a260 : Int) (k0 : List Int → Option α) : Option α :=
  let x261 := ((a259.length : Nat) : Int)
  let x262 := (decide (x261 = (0 : Int)))
  bif x262 then
    k0 []
  else
    bif (decide ((0 : Int) ≤ a260)) then
      bif decide (a260 ≤ a260) then
        bif (decide (a260 ≤ ((8796093022208 : Nat) : Int))) then
          let x263 := (List.replicate a260.toNat (0 : Int))
          spec_l5Shl_L0 N N a259 (0 : Int) x263
            (fun x273 =>
              k0 x273)
        else
          none
      else
        none
    else
      none
theorem spec_l5Shl.ex : ∃ f : ((α : Type) → Nat → List Int → Int → (List Int → Option α) → Option α), f = fun α => @spec_l5Shl.b α := ⟨_, rfl⟩
noncomputable def spec_l5Shl {α : Type} : Nat → List Int → Int → (List Int → Option α) → Option α := Classical.choose spec_l5Shl.ex α
theorem spec_l5Shl.eq : @spec_l5Shl = @spec_l5Shl.b := funext fun α => congrFun (Classical.choose_spec spec_l5Shl.ex) α

/-- loop.example/pinfold/spec.l5At -/
noncomputable def spec_l5At.b {α : Type} (N : Nat) (a297 : List Int) (a298 : Int) (k0 : Int → Option α) : Option α :=
  let x299 := ((a297.length : Nat) : Int)
  let x300 := decide (a298 < x299)
  bif x300 then
    bif (decide (a298 < (0 : Int))) then
      none
    else
      match a297[a298.toNat]? with
      | some x301 =>
        k0 x301
      | none => none
  else
    k0 (0 : Int)
theorem spec_l5At.ex : ∃ f : ((α : Type) → Nat → List Int → Int → (Int → Option α) → Option α), f = fun α => @spec_l5At.b α := ⟨_, rfl⟩
noncomputable def spec_l5At {α : Type} : Nat → List Int → Int → (Int → Option α) → Option α := Classical.choose spec_l5At.ex α
theorem spec_l5At.eq : @spec_l5At = @spec_l5At.b := funext fun α => congrFun (Classical.choose_spec spec_l5At.ex) α

noncomputable def spec_l5Add_J2.b {α : Type} (N : Nat) (v281 : List Int) (v282 : List Int) (v283 : Int) (k0 : List Int → List Int → Int → Option α) : Option α :=
  let x284 := ((v282.length : Nat) : Int)
  let x285 := decide (v283 < x284)
  bif x285 then
    let x286 := ((v282.length : Nat) : Int)
    k0 v281 v282 x286
  else
    k0 v281 v282 v283
theorem spec_l5Add_J2.ex : ∃ f : ((α : Type) → Nat → List Int → List Int → Int → (List Int → List Int → Int → Option α) → Option α), f = fun α => @spec_l5Add_J2.b α := ⟨_, rfl⟩
noncomputable def spec_l5Add_J2 {α : Type} : Nat → List Int → List Int → Int → (List Int → List Int → Int → Option α) → Option α := Classical.choose spec_l5Add_J2.ex α
theorem spec_l5Add_J2.eq : @spec_l5Add_J2 = @spec_l5Add_J2.b := funext fun α => congrFun (Classical.choose_spec spec_l5Add_J2.ex) α
noncomputable def spec_l5Add_L0r {α : Type} (N : Nat) (next : List Int → List Int → Int → Int → Int → List Int → Option α) (k0 : Int → List Int → Option α) (v290 : List Int) (v291 : List Int) (v292 : Int) (v293 : Int) (v294 : Int) (v295 : List Int) : Option α :=
  let x296 := decide (v294 < v292)
  bif x296 then
    spec_l5At N v290 v294
      (fun x302 =>
        spec_l5At N v291 v294
          (fun x303 =>
            let x304 := IntKind.i64.wrap (x302 + x303)
            let x305 := IntKind.i64.wrap (x304 + v293)
            let x306 := (Int.tmod x305 (65536 : Int))
            let x307 := [x306]
            bif decide (v295.length + x307.length ≤ 8796093022208) then
              let x308 := v295 ++ x307
              let x309 := (IntKind.i64.wrap (Int.tdiv x305 (65536 : Int)))
              let x310 := (IntKind.i64.wrap (v294 + (1 : Int)))
              next v290 v291 v292 x309 x310 x308
            else
              none))
  else
    k0 v293 v295
noncomputable def spec_l5Add_L0.b {α : Type} (N n : Nat) (v290 : List Int) (v291 : List Int) (v292 : Int) (v293 : Int) (v294 : Int) (v295 : List Int) (k0 : Int → List Int → Option α) : Option α :=
  Nat.rec (motive := fun _ => List Int → List Int → Int → Int → Int → List Int → Option α) (fun _ _ _ _ _ _ => none) (fun _ next => spec_l5Add_L0r N next k0) n v290 v291 v292 v293 v294 v295
theorem spec_l5Add_L0.ex : ∃ f : ((α : Type) → Nat → Nat → List Int → List Int → Int → Int → Int → List Int → (Int → List Int → Option α) → Option α), f = fun α => @spec_l5Add_L0.b α := ⟨_, rfl⟩
noncomputable def spec_l5Add_L0 {α : Type} : Nat → Nat → List Int → List Int → Int → Int → Int → List Int → (Int → List Int → Option α) → Option α := Classical.choose spec_l5Add_L0.ex α
theorem spec_l5Add_L0.eq : @spec_l5Add_L0 = @spec_l5Add_L0.b := funext fun α => congrFun (Classical.choose_spec spec_l5Add_L0.ex) α
theorem spec_l5Add_L0.zero {α : Type} (N : Nat) (v290 : List Int) (v291 : List Int) (v292 : Int) (v293 : Int) (v294 : Int) (v295 : List Int) (k0 : Int → List Int → Option α) : spec_l5Add_L0 N 0 v290 v291 v292 v293 v294 v295 k0 = none := by rw [spec_l5Add_L0.eq]; rfl
theorem spec_l5Add_L0.succ {α : Type} (N n : Nat) (v290 : List Int) (v291 : List Int) (v292 : Int) (v293 : Int) (v294 : Int) (v295 : List Int) (k0 : Int → List Int → Option α) : spec_l5Add_L0 N (n + 1) v290 v291 v292 v293 v294 v295 k0 = spec_l5Add_L0r N (fun y0 y1 y2 y3 y4 y5 => spec_l5Add_L0 N n y0 y1 y2 y3 y4 y5 k0) k0 v290 v291 v292 v293 v294 v295 := by rw [spec_l5Add_L0.eq]; rfl
noncomputable def spec_l5Add_J12.b {α : Type} (N : Nat) (v313 : Int) (v314 : List Int) (k0 : List Int → Option α) : Option α :=
  let x315 := (decide ((0 : Int) < v313))
  bif x315 then
    let x316 := [v313]
    bif decide (v314.length + x316.length ≤ 8796093022208) then
      let x317 := v314 ++ x316
      k0 x317
    else
      none
  else
    k0 v314
theorem spec_l5Add_J12.ex : ∃ f : ((α : Type) → Nat → Int → List Int → (List Int → Option α) → Option α), f = fun α => @spec_l5Add_J12.b α := ⟨_, rfl⟩
noncomputable def spec_l5Add_J12 {α : Type} : Nat → Int → List Int → (List Int → Option α) → Option α := Classical.choose spec_l5Add_J12.ex α
theorem spec_l5Add_J12.eq : @spec_l5Add_J12 = @spec_l5Add_J12.b := funext fun α => congrFun (Classical.choose_spec spec_l5Add_J12.ex) α
/-- loop.example/pinfold/spec.l5Add -/
noncomputable def spec_l5Add.b {α : Type} (N : Nat) (a278 : List Int) (a279 : List Int) (k0 : List Int → Option α) : Option α :=
  let x280 := ((a278.length : Nat) : Int)
  spec_l5Add_J2 N a278 a279 x280
    (fun x287 x288 x289 =>
      spec_l5Add_L0 N N x287 x288 x289 (0 : Int) (0 : Int) []
        (fun x311 x312 =>
          spec_l5Add_J12 N x311 x312
            (fun x318 =>
              k0 x318)))
theorem spec_l5Add.ex : ∃ f : ((α : Type) → Nat → List Int → List Int → (List Int → Option α) → Option α), f = fun α => @spec_l5Add.b α := ⟨_, rfl⟩
noncomputable def spec_l5Add {α : Type} : Nat → List Int → List Int → (List Int → Option α) → Option α := Classical.choose spec_l5Add.ex α
theorem spec_l5Add.eq : @spec_l5Add = @spec_l5Add.b := funext fun α => congrFun (Classical.choose_spec spec_l5Add.ex) α

noncomputable def spec_l5Sub_J8.b {α : Type} (N : Nat) (v371 : List Int) (v372 : List Int) (v373 : Int) (v374 : Int) (v375 : Int) (v376 : List Int) (k0 : List Int → List Int → Int → Int → Int → List Int → Option α) : Option α :=
  let x377 := (decide (v375 < (0 : Int)))
  bif x377 then
    let x378 := (IntKind.i64.wrap (v375 + (65536 : Int)))
    k0 v371 v372 (1 : Int) v374 x378 v376
  else
    k0 v371 v372 v373 v374 v375 v376
theorem spec_l5Sub_J8.ex : ∃ f : ((α : Type) → Nat → List Int → List Int → Int → Int → Int → List Int → (List Int → List Int → Int → Int → Int → List Int → Option α) → Option α), f = fun α => @spec_l5Sub_J8.b α := ⟨_, rfl⟩
noncomputable def spec_l5Sub_J8 {α : Type} : Nat → List Int → List Int → Int → Int → Int → List Int → (List Int → List Int → Int → Int → Int → List Int → Option α) → Option α := Classical.choose spec_l5Sub_J8.ex α
theorem spec_l5Sub_J8.eq : @spec_l5Sub_J8 = @spec_l5Sub_J8.b := funext fun α => congrFun (Classical.choose_spec spec_l5Sub_J8.ex) α
noncomputable def spec_l5Sub_L0r {α : Type} (N : Nat) (next : List Int → List Int → Int → Int → List Int → Option α) (k0 : List Int → Option α) (v360 : List Int) (v361 : List Int) (v362 : Int) (v363 : Int) (v364 : List Int) : Option α :=
  let x365 := ((v360.length : Nat) : Int)
  let x366 := decide (v363 < x365)
  bif x366 then
    bif (decide (v363 < (0 : Int))) then
      none
    else
      match v360[v363.toNat]? with
      | some x367 =>
        spec_l5At N v361 v363
          (fun x368 =>
            let x369 := IntKind.i64.wrap (x367 - x368)
            let x370 := IntKind.i64.wrap (x369 - v362)
            spec_l5Sub_J8 N v360 v361 (0 : Int) v363 x370 v364
              (fun x379 x380 x381 x382 x383 x384 =>
                let x385 := [x383]
                bif decide (x384.length + x385.length ≤ 8796093022208) then
                  let x386 := x384 ++ x385
                  let x387 := (IntKind.i64.wrap (x382 + (1 : Int)))
                  next x379 x380 x381 x387 x386
                else
                  none))
      | none => none
  else
    k0 v364
noncomputable def spec_l5Sub_L0.b {α : Type} (N n : Nat) (v360 : List Int) (v361 : List Int) (v362 : Int) (v363 : Int) (v364 : List Int) (k0 : List Int → Option α) : Option α :=
  Nat.rec (motive := fun _ => List Int → List Int → Int → Int → List Int → Option α) (fun _ _ _ _ _ => none) (fun _ next => spec_l5Sub_L0r N next k0) n v360 v361 v362 v363 v364
theorem spec_l5Sub_L0.ex : ∃ f : ((α : Type) → Nat → Nat → List Int → List Int → Int → Int → List Int → (List Int → Option α) → Option α), f = fun α => @spec_l5Sub_L0.b α := ⟨_, rfl⟩
noncomputable def spec_l5Sub_L0 {α : Type} : Nat → Nat → List Int → List Int → Int → Int → List Int → (List Int → Option α) → Option α := Classical.choose spec_l5Sub_L0.ex α
theorem spec_l5Sub_L0.eq : @spec_l5Sub_L0 = @spec_l5Sub_L0.b := funext fun α => congrFun (Classical.choose_spec spec_l5Sub_L0.ex) α
theorem spec_l5Sub_L0.zero {α : Type} (N : Nat) (v360 : List Int) (v361 : List Int) (v362 : Int) (v363 : Int) (v364 : List Int) (k0 : List Int → Option α) : spec_l5Sub_L0 N 0 v360 v361 v362 v363 v364 k0 = none := by rw [spec_l5Sub_L0.eq]; rfl
theorem spec_l5Sub_L0.succ {α : Type} (N n : Nat) (v360 : List Int) (v361 : List Int) (v362 : Int) (v363 : Int) (v364 : List Int) (k0 : List Int → Option α) : spec_l5Sub_L0 N (n + 1) v360 v361 v362 v363 v364 k0 = spec_l5Sub_L0r N (fun y0 y1 y2 y3 y4 => spec_l5Sub_L0 N n y0 y1 y2 y3 y4 k0) k0 v360 v361 v362 v363 v364 := by rw [spec_l5Sub_L0.eq]; rfl
/-- loop.example/pinfold/spec.l5Sub -/
noncomputable def spec_l5Sub.b {α : Type} (N : Nat) (a358 : List Int) (a359 : List Int) (k0 : List Int → Option α) : Option α :=
  spec_l5Sub_L0 N N a358 a359 (0 : Int) (0 : Int) []
    (fun x388 =>
      spec_l5Trim N x388
        (fun x389 =>
          k0 x389))
theorem spec_l5Sub.ex : ∃ f : ((α : Type) → Nat → List Int → List Int → (List Int → Option α) → Option α), f = fun α => @spec_l5Sub.b α := ⟨_, rfl⟩
noncomputable def spec_l5Sub {α : Type} : Nat → List Int → List Int → (List Int → Option α) → Option α := Classical.choose spec_l5Sub.ex α
theorem spec_l5Sub.eq : @spec_l5Sub = @spec_l5Sub.b := funext fun α => congrFun (Classical.choose_spec spec_l5Sub.ex) α

noncomputable def spec_l5Div_J17.b {α : Type} (N : Nat) (v329 : Int) (v330 : Int) (v331 : Int) (v332 : Int) (v333 : List Int) (v334 : List Int) (v335 : List Int) (v336 : List Int) (k0 : Int → Int → Int → Int → List Int → List Int → List Int → List Int → Option α) : Option α :=
  let x337 := (decide ((65536 : Int) ≤ v332))
  bif x337 then
    k0 v329 v330 v331 (65535 : Int) v333 v334 v335 v336
  else
    k0 v329 v330 v331 v332 v333 v334 v335 v336
theorem spec_l5Div_J17.ex : ∃ f : ((α : Type) → Nat → Int → Int → Int → Int → List Int → List Int → List Int → List Int → (Int → Int → Int → Int → List Int → List Int → List Int → List Int → Option α) → Option α), f = fun α => @spec_l5Div_J17.b α := ⟨_, rfl⟩
noncomputable def spec_l5Div_J17 {α : Type} : Nat → Int → Int → Int → Int → List Int → List Int → List Int → List Int → (Int → Int → Int → Int → List Int → List Int → List Int → List Int → Option α) → Option α := Classical.choose spec_l5Div_J17.ex α
theorem spec_l5Div_J17.eq : @spec_l5Div_J17 = @spec_l5Div_J17.b := funext fun α => congrFun (Classical.choose_spec spec_l5Div_J17.ex) α
noncomputable def spec_l5Div_L2r {α : Type} (N : Nat) (next : Int → Int → Int → Int → List Int → List Int → List Int → List Int → List Int → Option α) (k0 : Int → Int → Int → Int → List Int → List Int → List Int → List Int → List Int → Option α) (v347 : Int) (v348 : Int) (v349 : Int) (v350 : Int) (v351 : List Int) (v352 : List Int) (v353 : List Int) (v354 : List Int) (v355 : List Int) : Option α :=
  spec_l5Cmp N v355 v354
    (fun x356 =>
      let x357 := (decide ((0 : Int) < x356))
      bif x357 then
        spec_l5Sub N v355 v352
          (fun x390 =>
            let x391 := (IntKind.i64.wrap (v350 - (1 : Int)))
            next v347 v348 v349 x391 v351 v352 v353 v354 x390)
      else
        k0 v347 v348 v349 v350 v351 v352 v353 v354 v355)
noncomputable def spec_l5Div_L2.b {α : Type} (N n : Nat) (v347 : Int) (v348 : Int) (v349 : Int) (v350 : Int) (v351 : List Int) (v352 : List Int) (v353 : List Int) (v354 : List Int) (v355 : List Int) (k0 : Int → Int → Int → Int → List Int → List Int → List Int → List Int → List Int → Option α) : Option α :=
  Nat.rec (motive := fun _ => Int → Int → Int → Int → List Int → List Int → List Int → List Int → List Int → Option α) (fun _ _ _ _ _ _ _ _ _ => none) (fun _ next => spec_l5Div_L2r N next k0) n v347 v348 v349 v350 v351 v352 v353 v354 v355
theorem spec_l5Div_L2.ex : ∃ f : ((α : Type) → Nat → Nat → Int → Int → Int → Int → List Int → List Int → List Int → List Int → List Int → (Int → Int → Int → Int → List Int → List Int → List Int → List Int → List Int → Option α) → Option α), f = fun α => @spec_l5Div_L2.b α := ⟨_, rfl⟩
noncomputable def spec_l5Div_L2 {α : Type} : Nat → Nat → Int → Int → Int → Int → List Int → List Int → List Int → List Int → List Int → (Int → Int → Int → Int → List Int → List Int → List Int → List Int → List Int → Option α) → Option α := Classical.choose spec_l5Div_L2.ex α
theorem spec_l5Div_L2.eq : @spec_l5Div_L2 = @spec_l5Div_L2.b := funext fun α => congrFun (Classical.choose_spec spec_l5Div_L2.ex) α
theorem spec_l5Div_L2.zero {α : Type} (N : Nat) (v347 : Int) (v348 : Int) (v349 : Int) (v350 : Int) (v351 : List Int) (v352 : List Int) (v353 : List Int) (v354 : List Int) (v355 : List Int) (k0 : Int → Int → Int → Int → List Int → List Int → List Int → List Int → List Int → Option α) : spec_l5Div_L2 N 0 v347 v348 v349 v350 v351 v352 v353 v354 v355 k0 = none := by rw [spec_l5Div_L2.eq]; rfl
theorem spec_l5Div_L2.succ {α : Type} (N n : Nat) (v347 : Int) (v348 : Int) (v349 : Int) (v350 : Int) (v351 : List Int) (v352 : List Int) (v353 : List Int) (v354 : List Int) (v355 : List Int) (k0 : Int → Int → Int → Int → List Int → List Int → List Int → List Int → List Int → Option α) : spec_l5Div_L2 N (n + 1) v347 v348 v349 v350 v351 v352 v353 v354 v355 k0 = spec_l5Div_L2r N (fun y0 y1 y2 y3 y4 y5 y6 y7 y8 => spec_l5Div_L2 N n y0 y1 y2 y3 y4 y5 y6 y7 y8 k0) k0 v347 v348 v349 v350 v351 v352 v353 v354 v355 := by rw [spec_l5Div_L2.eq]; rfl
noncomputable def spec_l5Div_L0r {α : Type} (N : Nat) (next : Int → Int → Int → List Int → List Int → List Int → List Int → Option α) (k0 : Int → List Int → List Int → Option α) (v251 : Int) (v252 : Int) (v253 : Int) (v254 : List Int) (v255 : List Int) (v256 : List Int) (v257 : List Int) : Option α :=
  let x258 := (decide ((0 : Int) ≤ v253))
  bif x258 then
    spec_l5Shl N v257 (1 : Int)
      (fun x274 =>
        bif (decide (v253 < (0 : Int))) then
          none
        else
          bif decide (v253.toNat < v254.length) then
            match v254[v253.toNat]? with
            | some x275 =>
              let x276 := IntKind.u64.wrap x275
              spec_NatOf N x276
                (fun x277 =>
                  spec_l5Add N x274 x277
                    (fun x319 =>
                      spec_l5Trim N x319
                        (fun x320 =>
                          spec_l5At N x320 v252
                            (fun x321 =>
                              let x322 := (IntKind.i64.wrap (x321 * (65536 : Int)))
                              let x323 := (IntKind.i64.wrap (v252 - (1 : Int)))
                              spec_l5At N x320 x323
                                (fun x324 =>
                                  let x325 := IntKind.i64.wrap (x322 + x324)
                                  let x326 := (IntKind.i64.wrap (v252 - (1 : Int)))
                                  bif (decide (x326 < (0 : Int))) then
                                    none
                                  else
                                    bif decide (x326.toNat < v255.length) then
                                      match v255[x326.toNat]? with
                                      | some x327 =>
                                        bif (decide (x327 = (0 : Int))) then
                                          none
                                        else
                                          let x328 := IntKind.i64.wrap (Int.tdiv x325 x327)
                                          spec_l5Div_J17 N v251 v252 v253 x328 v254 v255 v256 x320
                                            (fun x338 x339 x340 x341 x342 x343 x344 x345 =>
                                              spec_l5Times N x343 x341
                                                (fun x346 =>
                                                  spec_l5Div_L2 N N x338 x339 x340 x341 x342 x343 x344 x345 x346
                                                    (fun x392 x393 x394 x395 x396 x397 x398 x399 x400 =>
                                                      bif (decide (x394 < (0 : Int))) then
                                                        none
                                                      else
                                                        bif decide (x394.toNat < x398.length) then
                                                          match x398[x394.toNat]? with
                                                          | some x401 =>
                                                            let x402 := x398.set x394.toNat x395
                                                            spec_l5Sub N x399 x400
                                                              (fun x403 =>
                                                                let x404 := (IntKind.i64.wrap (x394 - (1 : Int)))
                                                                next x392 x393 x404 x396 x397 x402 x403)
                                                          | none => none
                                                        else
                                                          none)))
                                      | none => none
                                    else
                                      none)))))
            | none => none
          else
            none)
  else
    k0 v251 v256 v257
noncomputable def spec_l5Div_L0.b {α : Type} (N n : Nat) (v251 : Int) (v252 : Int) (v253 : Int) (v254 : List Int) (v255 : List Int) (v256 : List Int) (v257 : List Int) (k0 : Int → List Int → List Int → Option α) : Option α :=
  Nat.rec (motive := fun _ => Int → Int → Int → List Int → List Int → List Int → List Int → Option α) (fun _ _ _ _ _ _ _ => none) (fun _ next => spec_l5Div_L0r N next k0) n v251 v252 v253 v254 v255 v256 v257
theorem spec_l5Div_L0.ex : ∃ f : ((α : Type) → Nat → Nat → Int → Int → Int → List Int → List Int → List Int → List Int → (Int → List Int → List Int → Option α) → Option α), f = fun α => @spec_l5Div_L0.b α := ⟨_, rfl⟩
noncomputable def spec_l5Div_L0 {α : Type} : Nat → Nat → Int → Int → Int → List Int → List Int → List Int → List Int → (Int → List Int → List Int → Option α) → Option α := Classical.choose spec_l5Div_L0.ex α
theorem spec_l5Div_L0.eq : @spec_l5Div_L0 = @spec_l5Div_L0.b := funext fun α => congrFun (Classical.choose_spec spec_l5Div_L0.ex) α
theorem spec_l5Div_L0.zero {α : Type} (N : Nat) (v251 : Int) (v252 : Int) (v253 : Int) (v254 : List Int) (v255 : List Int) (v256 : List Int) (v257 : List Int) (k0 : Int → List Int → List Int → Option α) : spec_l5Div_L0 N 0 v251 v252 v253 v254 v255 v256 v257 k0 = none := by rw [spec_l5Div_L0.eq]; rfl
theorem spec_l5Div_L0.succ {α : Type} (N n : Nat) (v251 : Int) (v252 : Int) (v253 : Int) (v254 : List Int) (v255 : List Int) (v256 : List Int) (v257 : List Int) (k0 : Int → List Int → List Int → Option α) : spec_l5Div_L0 N (n + 1) v251 v252 v253 v254 v255 v256 v257 k0 = spec_l5Div_L0r N (fun y0 y1 y2 y3 y4 y5 y6 => spec_l5Div_L0 N n y0 y1 y2 y3 y4 y5 y6 k0) k0 v251 v252 v253 v254 v255 v256 v257 := by rw [spec_l5Div_L0.eq]; rfl
/-- loop.example/pinfold/spec.l5Div -/
noncomputable def spec_l5Div.b {α : Type} (N : Nat) (a104 : List Int) (a105 : List Int) (k0 : List Int → List Int → Option α) : Option α :=
  spec_l5Cmp N a104 a105
    (fun x128 =>
      let x129 := (decide (x128 < (0 : Int)))
      bif x129 then
        spec_l5Trim N a104
          (fun x130 =>
            k0 [] x130)
      else
        let x131 := ((a105.length : Nat) : Int)
        let x132 := (decide (x131 = (1 : Int)))
        bif x132 then
          match a105[0]? with
          | some x133 =>
            spec_l5DivSmall N a104 x133
              (fun x157 x158 =>
                let x159 := IntKind.u64.wrap x157
                spec_NatOf N x159
                  (fun x170 =>
                    k0 x158 x170))
          | none => none
        else
          let x171 := ((a105.length : Nat) : Int)
          let x172 := (IntKind.i64.wrap (x171 - (1 : Int)))
          bif (decide (x172 < (0 : Int))) then
            none
          else
            match a105[x172.toNat]? with
            | some x173 =>
              let x174 := (IntKind.i64.wrap (x173 + (1 : Int)))
              bif (decide (x174 = (0 : Int))) then
                none
              else
                let x175 := (IntKind.i64.wrap (Int.tdiv (65536 : Int) x174))
                spec_l5Times N a104 x175
                  (fun x226 =>
                    spec_l5Times N a105 x175
                      (fun x227 =>
                        let x228 := ((x227.length : Nat) : Int)
                        let x229 := ((x226.length : Nat) : Int)
                        let x230 := IntKind.i64.wrap (x229 - x228)
                        let x231 := (IntKind.i64.wrap (x230 + (1 : Int)))
                        bif (decide ((0 : Int) ≤ x231)) then
                          bif decide (x231 ≤ x231) then
                            bif (decide (x231 ≤ ((8796093022208 : Nat) : Int))) then
                              let x232 := (List.replicate x231.toNat (0 : Int))
                              let x233 := ((x226.length : Nat) : Int)
                              let x234 := IntKind.i64.wrap (x233 - x228)
                              let x235 := (IntKind.i64.wrap (x234 + (1 : Int)))
                              spec_l5Top N x226 x235
                                (fun x248 =>
                                  let x249 := ((x226.length : Nat) : Int)
                                  let x250 := IntKind.i64.wrap (x249 - x228)
                                  spec_l5Div_L0 N N x175 x228 x250 x226 x227 x232 x248
                                    (fun x405 x406 x407 =>
                                      spec_l5DivSmall N x407 x405
                                        (fun _ x409 =>
                                          spec_l5Trim N x406
                                            (fun x410 =>
                                              k0 x410 x409))))
                            else
                              none
                          else
                            none
                        else
                          none))
            | none => none)
theorem spec_l5Div.ex : ∃ f : ((α : Type) → Nat → List Int → List Int → (List Int → List Int → Option α) → Option α), f = fun α => @spec_l5Div.b α := ⟨_, rfl⟩
noncomputable def spec_l5Div {α : Type} : Nat → List Int → List Int → (List Int → List Int → Option α) → Option α := Classical.choose spec_l5Div.ex α
theorem spec_l5Div.eq : @spec_l5Div = @spec_l5Div.b := funext fun α => congrFun (Classical.choose_spec spec_l5Div.ex) α

noncomputable def spec_l5Gcd_L0r {α : Type} (N : Nat) (next : List Int → List Int → Option α) (k0 : List Int → Option α) (v100 : List Int) (v101 : List Int) : Option α :=
  let x102 := ((v101.length : Nat) : Int)
  let x103 := (decide ((0 : Int) < x102))
  bif x103 then
    spec_l5Div N v100 v101
      (fun _ x412 =>
        next v101 x412)
  else
    k0 v100
noncomputable def spec_l5Gcd_L0.b {α : Type} (N n : Nat) (v100 : List Int) (v101 : List Int) (k0 : List Int → Option α) : Option α :=
  Nat.rec (motive := fun _ => List Int → List Int → Option α) (fun _ _ => none) (fun _ next => spec_l5Gcd_L0r N next k0) n v100 v101
theorem spec_l5Gcd_L0.ex : ∃ f : ((α : Type) → Nat → Nat → List Int → List Int → (List Int → Option α) → Option α), f = fun α => @spec_l5Gcd_L0.b α := ⟨_, rfl⟩
noncomputable def spec_l5Gcd_L0 {α : Type} : Nat → Nat → List Int → List Int → (List Int → Option α) → Option α := Classical.choose spec_l5Gcd_L0.ex α
theorem spec_l5Gcd_L0.eq : @spec_l5Gcd_L0 = @spec_l5Gcd_L0.b := funext fun α => congrFun (Classical.choose_spec spec_l5Gcd_L0.ex) α
theorem spec_l5Gcd_L0.zero {α : Type} (N : Nat) (v100 : List Int) (v101 : List Int) (k0 : List Int → Option α) : spec_l5Gcd_L0 N 0 v100 v101 k0 = none := by rw [spec_l5Gcd_L0.eq]; rfl
theorem spec_l5Gcd_L0.succ {α : Type} (N n : Nat) (v100 : List Int) (v101 : List Int) (k0 : List Int → Option α) : spec_l5Gcd_L0 N (n + 1) v100 v101 k0 = spec_l5Gcd_L0r N (fun y0 y1 => spec_l5Gcd_L0 N n y0 y1 k0) k0 v100 v101 := by rw [spec_l5Gcd_L0.eq]; rfl
/-- loop.example/pinfold/spec.l5Gcd -/
noncomputable def spec_l5Gcd.b {α : Type} (N : Nat) (a75 : List Int) (a76 : List Int) (k0 : List Int → Option α) : Option α :=
  spec_l5Trim N a75
    (fun x98 =>
      spec_l5Trim N a76
        (fun x99 =>
          spec_l5Gcd_L0 N N x98 x99
            (fun x413 =>
              k0 x413)))
theorem spec_l5Gcd.ex : ∃ f : ((α : Type) → Nat → List Int → List Int → (List Int → Option α) → Option α), f = fun α => @spec_l5Gcd.b α := ⟨_, rfl⟩
noncomputable def spec_l5Gcd {α : Type} : Nat → List Int → List Int → (List Int → Option α) → Option α := Classical.choose spec_l5Gcd.ex α
theorem spec_l5Gcd.eq : @spec_l5Gcd = @spec_l5Gcd.b := funext fun α => congrFun (Classical.choose_spec spec_l5Gcd.ex) α

/-- loop.example/pinfold/spec.l6One -/
noncomputable def spec_l6One.b {α : Type} (N : Nat) (a415 : List Int) (k0 : Bool → Option α) : Option α :=
  let x416 := ((a415.length : Nat) : Int)
  let x417 := (decide (x416 = (1 : Int)))
  bif x417 then
    match a415[0]? with
    | some x418 =>
      let x419 := (decide (x418 = (1 : Int)))
      k0 x419
    | none => none
  else
    k0 false
theorem spec_l6One.ex : ∃ f : ((α : Type) → Nat → List Int → (Bool → Option α) → Option α), f = fun α => @spec_l6One.b α := ⟨_, rfl⟩
noncomputable def spec_l6One {α : Type} : Nat → List Int → (Bool → Option α) → Option α := Classical.choose spec_l6One.ex α
theorem spec_l6One.eq : @spec_l6One = @spec_l6One.b := funext fun α => congrFun (Classical.choose_spec spec_l6One.ex) α

/-- loop.example/pinfold/spec.FracOk -/
noncomputable def spec_FracOk.b {α : Type} (N : Nat) (a46 : Bool × (List Int) × (List Int) × Unit) (k0 : Bool → Option α) : Option α :=
  spec_NatOk N a46.2.1
    (fun x67 =>
      let x68 := !x67
      bif x68 then
        k0 false
      else
        spec_NatOk N a46.2.2.1
          (fun x69 =>
            let x70 := !x69
            bif x70 then
              k0 false
            else
              let x71 := ((a46.2.2.1.length : Nat) : Int)
              let x72 := (decide (x71 = (0 : Int)))
              bif x72 then
                k0 false
              else
                let x73 := ((a46.2.1.length : Nat) : Int)
                let x74 := (decide (x73 = (0 : Int)))
                bif x74 then
                  bif a46.1 then
                    k0 false
                  else
                    spec_l5Gcd N a46.2.1 a46.2.2.1
                      (fun x414 =>
                        spec_l6One N x414
                          (fun x420 =>
                            k0 x420))
                else
                  spec_l5Gcd N a46.2.1 a46.2.2.1
                    (fun x421 =>
                      spec_l6One N x421
                        (fun x422 =>
                          k0 x422))))
theorem spec_FracOk.ex : ∃ f : ((α : Type) → Nat → (Bool × (List Int) × (List Int) × Unit) → (Bool → Option α) → Option α), f = fun α => @spec_FracOk.b α := ⟨_, rfl⟩
noncomputable def spec_FracOk {α : Type} : Nat → (Bool × (List Int) × (List Int) × Unit) → (Bool → Option α) → Option α := Classical.choose spec_FracOk.ex α
theorem spec_FracOk.eq : @spec_FracOk = @spec_FracOk.b := funext fun α => congrFun (Classical.choose_spec spec_FracOk.ex) α

/-- loop.example/pinfold/spec.l6Neg -/
noncomputable def spec_l6Neg.b {α : Type} (N : Nat) (a427 : Bool × (List Int) × (List Int) × Unit) (k0 : Bool → List Int → List Int → Option α) : Option α :=
  let x428 := !a427.1
  bif x428 then
    let x429 := ((a427.2.1.length : Nat) : Int)
    let x430 := (decide ((0 : Int) < x429))
    spec_l5Trim N a427.2.1
      (fun x431 =>
        spec_l5Trim N a427.2.2.1
          (fun x432 =>
            k0 x430 x431 x432))
  else
    spec_l5Trim N a427.2.1
      (fun x433 =>
        spec_l5Trim N a427.2.2.1
          (fun x434 =>
            k0 false x433 x434))
theorem spec_l6Neg.ex : ∃ f : ((α : Type) → Nat → (Bool × (List Int) × (List Int) × Unit) → (Bool → List Int → List Int → Option α) → Option α), f = fun α => @spec_l6Neg.b α := ⟨_, rfl⟩
noncomputable def spec_l6Neg {α : Type} : Nat → (Bool × (List Int) × (List Int) × Unit) → (Bool → List Int → List Int → Option α) → Option α := Classical.choose spec_l6Neg.ex α
theorem spec_l6Neg.eq : @spec_l6Neg = @spec_l6Neg.b := funext fun α => congrFun (Classical.choose_spec spec_l6Neg.ex) α

/-- loop.example/pinfold/spec.l6Sum -/
noncomputable def spec_l6Sum.b {α : Type} (N : Nat) (a438 : Bool × (List Int) × (List Int) × Unit) (a439 : Bool × (List Int) × (List Int) × Unit) (k0 : Bool → List Int → List Int → Option α) : Option α :=
  spec_l5Mul N a438.2.1 a439.2.2.1
    (fun x440 =>
      spec_l5Mul N a439.2.1 a438.2.2.1
        (fun x441 =>
          spec_l5Mul N a438.2.2.1 a439.2.2.1
            (fun x442 =>
              let x443 := a438.1 == a439.1
              bif x443 then
                spec_l5Add N x440 x441
                  (fun x444 =>
                    k0 a438.1 x444 x442)
              else
                spec_l5Cmp N x440 x441
                  (fun x445 =>
                    let x446 := (decide ((0 : Int) ≤ x445))
                    bif x446 then
                      spec_l5Sub N x440 x441
                        (fun x447 =>
                          k0 a438.1 x447 x442)
                    else
                      spec_l5Sub N x441 x440
                        (fun x448 =>
                          k0 a439.1 x448 x442)))))
theorem spec_l6Sum.ex : ∃ f : ((α : Type) → Nat → (Bool × (List Int) × (List Int) × Unit) → (Bool × (List Int) × (List Int) × Unit) → (Bool → List Int → List Int → Option α) → Option α), f = fun α => @spec_l6Sum.b α := ⟨_, rfl⟩
noncomputable def spec_l6Sum {α : Type} : Nat → (Bool × (List Int) × (List Int) × Unit) → (Bool × (List Int) × (List Int) × Unit) → (Bool → List Int → List Int → Option α) → Option α := Classical.choose spec_l6Sum.ex α
theorem spec_l6Sum.eq : @spec_l6Sum = @spec_l6Sum.b := funext fun α => congrFun (Classical.choose_spec spec_l6Sum.ex) α

/-- loop.example/pinfold/spec.FracCmp -/
noncomputable def spec_FracCmp.b {α : Type} (N : Nat) (a44 : Bool × (List Int) × (List Int) × Unit) (a45 : Bool × (List Int) × (List Int) × Unit) (k0 : Int → Option α) : Option α :=
  spec_FracOk N a44
    (fun x423 =>
      let x424 := !x423
      bif x424 then
        k0 (2 : Int)
      else
        spec_FracOk N a45
          (fun x425 =>
            let x426 := !x425
            bif x426 then
              k0 (2 : Int)
            else
              spec_l6Neg N a45
                (fun x435 x436 x437 =>
                  spec_l6Sum N a44 (x435, (x436, (x437, ())))
                    (fun x449 x450 _ =>
                      let x452 := ((x450.length : Nat) : Int)
                      let x453 := (decide (x452 = (0 : Int)))
                      bif x453 then
                        k0 (0 : Int)
                      else
                        bif x449 then
                          k0 (-1 : Int)
                        else
                          k0 (1 : Int)))))
theorem spec_FracCmp.ex : ∃ f : ((α : Type) → Nat → (Bool × (List Int) × (List Int) × Unit) → (Bool × (List Int) × (List Int) × Unit) → (Int → Option α) → Option α), f = fun α => @spec_FracCmp.b α := ⟨_, rfl⟩
noncomputable def spec_FracCmp {α : Type} : Nat → (Bool × (List Int) × (List Int) × Unit) → (Bool × (List Int) × (List Int) × Unit) → (Int → Option α) → Option α := Classical.choose spec_FracCmp.ex α
theorem spec_FracCmp.eq : @spec_FracCmp = @spec_FracCmp.b := funext fun α => congrFun (Classical.choose_spec spec_FracCmp.ex) α

/-- loop.example/pinfold/spec.l10Rel -/
noncomputable def spec_l10Rel.b {α : Type} (N : Nat) (a456 : Int) (k0 : Bool → Option α) : Option α :=
  let x457 := (decide (a456 = (1 : Int)))
  bif x457 then
    k0 true
  else
    let x458 := (decide (a456 = (2 : Int)))
    bif x458 then
      k0 true
    else
      let x459 := (decide (a456 = (3 : Int)))
      k0 x459
theorem spec_l10Rel.ex : ∃ f : ((α : Type) → Nat → Int → (Bool → Option α) → Option α), f = fun α => @spec_l10Rel.b α := ⟨_, rfl⟩
noncomputable def spec_l10Rel {α : Type} : Nat → Int → (Bool → Option α) → Option α := Classical.choose spec_l10Rel.ex α
theorem spec_l10Rel.eq : @spec_l10Rel = @spec_l10Rel.b := funext fun α => congrFun (Classical.choose_spec spec_l10Rel.ex) α

/-- loop.example/pinfold/spec.RelHolds -/
noncomputable def spec_RelHolds.b {α : Type} (N : Nat) (a41 : Int) (a42 : Bool × (List Int) × (List Int) × Unit) (a43 : Bool × (List Int) × (List Int) × Unit) (k0 : Bool → Option α) : Option α :=
  spec_FracCmp N a42 a43
    (fun x454 =>
      let x455 := (decide (x454 = (0 : Int)))
      bif x455 then
        spec_l10Rel N a41
          (fun x460 =>
            bif x460 then
              k0 true
            else
              let x461 := (decide (x454 = (-1 : Int)))
              bif x461 then
                let x462 := (decide (a41 = (1 : Int)))
                bif x462 then
                  k0 true
                else
                  let x463 := (decide (x454 = (1 : Int)))
                  bif x463 then
                    let x464 := (decide (a41 = (2 : Int)))
                    k0 x464
                  else
                    k0 false
              else
                let x465 := (decide (x454 = (1 : Int)))
                bif x465 then
                  let x466 := (decide (a41 = (2 : Int)))
                  k0 x466
                else
                  k0 false)
      else
        let x467 := (decide (x454 = (-1 : Int)))
        bif x467 then
          let x468 := (decide (a41 = (1 : Int)))
          bif x468 then
            k0 true
          else
            let x469 := (decide (x454 = (1 : Int)))
            bif x469 then
              let x470 := (decide (a41 = (2 : Int)))
              k0 x470
            else
              k0 false
        else
          let x471 := (decide (x454 = (1 : Int)))
          bif x471 then
            let x472 := (decide (a41 = (2 : Int)))
            k0 x472
          else
            k0 false)
theorem spec_RelHolds.ex : ∃ f : ((α : Type) → Nat → Int → (Bool × (List Int) × (List Int) × Unit) → (Bool × (List Int) × (List Int) × Unit) → (Bool → Option α) → Option α), f = fun α => @spec_RelHolds.b α := ⟨_, rfl⟩
noncomputable def spec_RelHolds {α : Type} : Nat → Int → (Bool × (List Int) × (List Int) × Unit) → (Bool × (List Int) × (List Int) × Unit) → (Bool → Option α) → Option α := Classical.choose spec_RelHolds.ex α
theorem spec_RelHolds.eq : @spec_RelHolds = @spec_RelHolds.b := funext fun α => congrFun (Classical.choose_spec spec_RelHolds.ex) α

/-- loop.example/pinfold/impl.in -/
noncomputable def impl_in.b {α : Type} (N : Nat) (a517 : Int) (a518 : Int) (a519 : Int) (k0 : Bool → Option α) : Option α :=
  let x520 := decide (a518 ≤ a517)
  bif x520 then
    let x521 := decide (a517 ≤ a519)
    k0 x521
  else
    k0 false
theorem impl_in.ex : ∃ f : ((α : Type) → Nat → Int → Int → Int → (Bool → Option α) → Option α), f = fun α => @impl_in.b α := ⟨_, rfl⟩
noncomputable def impl_in {α : Type} : Nat → Int → Int → Int → (Bool → Option α) → Option α := Classical.choose impl_in.ex α
theorem impl_in.eq : @impl_in = @impl_in.b := funext fun α => congrFun (Classical.choose_spec impl_in.ex) α

/-- loop.example/pinfold/impl.NatOk$1 -/
noncomputable def impl_NatOk_1.b {α : Type} (N : Nat) (a516 : Int) (k0 : Bool → Option α) : Option α :=
  impl_in N a516 (0 : Int) (65535 : Int)
    (fun x522 =>
      let x523 := !x522
      k0 x523)
theorem impl_NatOk_1.ex : ∃ f : ((α : Type) → Nat → Int → (Bool → Option α) → Option α), f = fun α => @impl_NatOk_1.b α := ⟨_, rfl⟩
noncomputable def impl_NatOk_1 {α : Type} : Nat → Int → (Bool → Option α) → Option α := Classical.choose impl_NatOk_1.ex α
theorem impl_NatOk_1.eq : @impl_NatOk_1 = @impl_NatOk_1.b := funext fun α => congrFun (Classical.choose_spec impl_NatOk_1.ex) α

noncomputable def slices_IndexFunc_int_int__impl_NatOk_1_L0r {α : Type} (N : Nat) (next : List Int → Int → Int → Option α) (k0 : Int → Option α) (k1 : Option α) (v511 : List Int) (v512 : Int) (v513 : Int) : Option α :=
  let x514 := decide (v513 < v512)
  bif x514 then
    bif (decide (v513 < (0 : Int))) then
      none
    else
      match v511[v513.toNat]? with
      | some x515 =>
        impl_NatOk_1 N x515
          (fun x524 =>
            bif x524 then
              k0 v513
            else
              let x525 := (IntKind.i64.wrap (v513 + (1 : Int)))
              next v511 v512 x525)
      | none => none
  else
    k1
noncomputable def slices_IndexFunc_int_int__impl_NatOk_1_L0.b {α : Type} (N n : Nat) (v511 : List Int) (v512 : Int) (v513 : Int) (k0 : Int → Option α) (k1 : Option α) : Option α :=
  Nat.rec (motive := fun _ => List Int → Int → Int → Option α) (fun _ _ _ => none) (fun _ next => slices_IndexFunc_int_int__impl_NatOk_1_L0r N next k0 k1) n v511 v512 v513
theorem slices_IndexFunc_int_int__impl_NatOk_1_L0.ex : ∃ f : ((α : Type) → Nat → Nat → List Int → Int → Int → (Int → Option α) → (Option α) → Option α), f = fun α => @slices_IndexFunc_int_int__impl_NatOk_1_L0.b α := ⟨_, rfl⟩
noncomputable def slices_IndexFunc_int_int__impl_NatOk_1_L0 {α : Type} : Nat → Nat → List Int → Int → Int → (Int → Option α) → (Option α) → Option α := Classical.choose slices_IndexFunc_int_int__impl_NatOk_1_L0.ex α
theorem slices_IndexFunc_int_int__impl_NatOk_1_L0.eq : @slices_IndexFunc_int_int__impl_NatOk_1_L0 = @slices_IndexFunc_int_int__impl_NatOk_1_L0.b := funext fun α => congrFun (Classical.choose_spec slices_IndexFunc_int_int__impl_NatOk_1_L0.ex) α
theorem slices_IndexFunc_int_int__impl_NatOk_1_L0.zero {α : Type} (N : Nat) (v511 : List Int) (v512 : Int) (v513 : Int) (k0 : Int → Option α) (k1 : Option α) : slices_IndexFunc_int_int__impl_NatOk_1_L0 N 0 v511 v512 v513 k0 k1 = none := by rw [slices_IndexFunc_int_int__impl_NatOk_1_L0.eq]; rfl
theorem slices_IndexFunc_int_int__impl_NatOk_1_L0.succ {α : Type} (N n : Nat) (v511 : List Int) (v512 : Int) (v513 : Int) (k0 : Int → Option α) (k1 : Option α) : slices_IndexFunc_int_int__impl_NatOk_1_L0 N (n + 1) v511 v512 v513 k0 k1 = slices_IndexFunc_int_int__impl_NatOk_1_L0r N (fun y0 y1 y2 => slices_IndexFunc_int_int__impl_NatOk_1_L0 N n y0 y1 y2 k0 k1) k0 k1 v511 v512 v513 := by rw [slices_IndexFunc_int_int__impl_NatOk_1_L0.eq]; rfl
/-- slices.IndexFunc[[]int,int] -/
noncomputable def slices_IndexFunc_int_int__impl_NatOk_1.b {α : Type} (N : Nat) (a509 : List Int) (k0 : Int → Option α) : Option α :=
  let x510 := ((a509.length : Nat) : Int)
  slices_IndexFunc_int_int__impl_NatOk_1_L0 N N a509 x510 (0 : Int)
    (fun x526 =>
      k0 x526)
    (
      k0 (-1 : Int))
theorem slices_IndexFunc_int_int__impl_NatOk_1.ex : ∃ f : ((α : Type) → Nat → List Int → (Int → Option α) → Option α), f = fun α => @slices_IndexFunc_int_int__impl_NatOk_1.b α := ⟨_, rfl⟩
noncomputable def slices_IndexFunc_int_int__impl_NatOk_1 {α : Type} : Nat → List Int → (Int → Option α) → Option α := Classical.choose slices_IndexFunc_int_int__impl_NatOk_1.ex α
theorem slices_IndexFunc_int_int__impl_NatOk_1.eq : @slices_IndexFunc_int_int__impl_NatOk_1 = @slices_IndexFunc_int_int__impl_NatOk_1.b := funext fun α => congrFun (Classical.choose_spec slices_IndexFunc_int_int__impl_NatOk_1.ex) α

/-- slices.ContainsFunc[[]int,int] -/
noncomputable def slices_ContainsFunc_int_int__impl_NatOk_1.b {α : Type} (N : Nat) (a508 : List Int) (k0 : Bool → Option α) : Option α :=
  slices_IndexFunc_int_int__impl_NatOk_1 N a508
    (fun x527 =>
      let x528 := (decide ((0 : Int) ≤ x527))
      k0 x528)
theorem slices_ContainsFunc_int_int__impl_NatOk_1.ex : ∃ f : ((α : Type) → Nat → List Int → (Bool → Option α) → Option α), f = fun α => @slices_ContainsFunc_int_int__impl_NatOk_1.b α := ⟨_, rfl⟩
noncomputable def slices_ContainsFunc_int_int__impl_NatOk_1 {α : Type} : Nat → List Int → (Bool → Option α) → Option α := Classical.choose slices_ContainsFunc_int_int__impl_NatOk_1.ex α
theorem slices_ContainsFunc_int_int__impl_NatOk_1.eq : @slices_ContainsFunc_int_int__impl_NatOk_1 = @slices_ContainsFunc_int_int__impl_NatOk_1.b := funext fun α => congrFun (Classical.choose_spec slices_ContainsFunc_int_int__impl_NatOk_1.ex) α

/-- loop.example/pinfold/impl.NatOk -/
noncomputable def impl_NatOk.b {α : Type} (N : Nat) (a503 : List Int) (k0 : Bool → Option α) : Option α :=
  let x504 := ((a503.length : Nat) : Int)
  let x505 := (decide (x504 ≤ (256 : Int)))
  bif x505 then
    let x506 := ((a503.length : Nat) : Int)
    let x507 := (decide (x506 = (0 : Int)))
    bif x507 then
      slices_ContainsFunc_int_int__impl_NatOk_1 N a503
        (fun x529 =>
          let x530 := !x529
          k0 x530)
    else
      let x531 := ((a503.length : Nat) : Int)
      let x532 := (IntKind.i64.wrap (x531 - (1 : Int)))
      bif (decide (x532 < (0 : Int))) then
        none
      else
        match a503[x532.toNat]? with
        | some x533 =>
          let x534 := (!(decide (x533 = (0 : Int))))
          bif x534 then
            slices_ContainsFunc_int_int__impl_NatOk_1 N a503
              (fun x535 =>
                let x536 := !x535
                k0 x536)
          else
            k0 false
        | none => none
  else
    k0 false
theorem impl_NatOk.ex : ∃ f : ((α : Type) → Nat → List Int → (Bool → Option α) → Option α), f = fun α => @impl_NatOk.b α := ⟨_, rfl⟩
noncomputable def impl_NatOk {α : Type} : Nat → List Int → (Bool → Option α) → Option α := Classical.choose impl_NatOk.ex α
theorem impl_NatOk.eq : @impl_NatOk = @impl_NatOk.b := funext fun α => congrFun (Classical.choose_spec impl_NatOk.ex) α

/-- loop.example/pinfold/impl.nats$1 -/
noncomputable def impl_nats_1.b {α : Type} (N : Nat) (a502 : List Int) (k0 : Bool → Option α) : Option α :=
  impl_NatOk N a502
    (fun x537 =>
      let x538 := !x537
      k0 x538)
theorem impl_nats_1.ex : ∃ f : ((α : Type) → Nat → List Int → (Bool → Option α) → Option α), f = fun α => @impl_nats_1.b α := ⟨_, rfl⟩
noncomputable def impl_nats_1 {α : Type} : Nat → List Int → (Bool → Option α) → Option α := Classical.choose impl_nats_1.ex α
theorem impl_nats_1.eq : @impl_nats_1 = @impl_nats_1.b := funext fun α => congrFun (Classical.choose_spec impl_nats_1.ex) α

noncomputable def slices_IndexFunc_int_int__impl_nats_1_L0r {α : Type} (N : Nat) (next : List (List Int) → Int → Int → Option α) (k0 : Int → Option α) (k1 : Option α) (v497 : List (List Int)) (v498 : Int) (v499 : Int) : Option α :=
  let x500 := decide (v499 < v498)
  bif x500 then
    bif (decide (v499 < (0 : Int))) then
      none
    else
      match v497[v499.toNat]? with
      | some x501 =>
        impl_nats_1 N x501
          (fun x539 =>
            bif x539 then
              k0 v499
            else
              let x540 := (IntKind.i64.wrap (v499 + (1 : Int)))
              next v497 v498 x540)
      | none => none
  else
    k1
noncomputable def slices_IndexFunc_int_int__impl_nats_1_L0.b {α : Type} (N n : Nat) (v497 : List (List Int)) (v498 : Int) (v499 : Int) (k0 : Int → Option α) (k1 : Option α) : Option α :=
  Nat.rec (motive := fun _ => List (List Int) → Int → Int → Option α) (fun _ _ _ => none) (fun _ next => slices_IndexFunc_int_int__impl_nats_1_L0r N next k0 k1) n v497 v498 v499
theorem slices_IndexFunc_int_int__impl_nats_1_L0.ex : ∃ f : ((α : Type) → Nat → Nat → List (List Int) → Int → Int → (Int → Option α) → (Option α) → Option α), f = fun α => @slices_IndexFunc_int_int__impl_nats_1_L0.b α := ⟨_, rfl⟩
noncomputable def slices_IndexFunc_int_int__impl_nats_1_L0 {α : Type} : Nat → Nat → List (List Int) → Int → Int → (Int → Option α) → (Option α) → Option α := Classical.choose slices_IndexFunc_int_int__impl_nats_1_L0.ex α
theorem slices_IndexFunc_int_int__impl_nats_1_L0.eq : @slices_IndexFunc_int_int__impl_nats_1_L0 = @slices_IndexFunc_int_int__impl_nats_1_L0.b := funext fun α => congrFun (Classical.choose_spec slices_IndexFunc_int_int__impl_nats_1_L0.ex) α
theorem slices_IndexFunc_int_int__impl_nats_1_L0.zero {α : Type} (N : Nat) (v497 : List (List Int)) (v498 : Int) (v499 : Int) (k0 : Int → Option α) (k1 : Option α) : slices_IndexFunc_int_int__impl_nats_1_L0 N 0 v497 v498 v499 k0 k1 = none := by rw [slices_IndexFunc_int_int__impl_nats_1_L0.eq]; rfl
theorem slices_IndexFunc_int_int__impl_nats_1_L0.succ {α : Type} (N n : Nat) (v497 : List (List Int)) (v498 : Int) (v499 : Int) (k0 : Int → Option α) (k1 : Option α) : slices_IndexFunc_int_int__impl_nats_1_L0 N (n + 1) v497 v498 v499 k0 k1 = slices_IndexFunc_int_int__impl_nats_1_L0r N (fun y0 y1 y2 => slices_IndexFunc_int_int__impl_nats_1_L0 N n y0 y1 y2 k0 k1) k0 k1 v497 v498 v499 := by rw [slices_IndexFunc_int_int__impl_nats_1_L0.eq]; rfl
/-- slices.IndexFunc[[][]int,[]int] -/
noncomputable def slices_IndexFunc_int_int__impl_nats_1.b {α : Type} (N : Nat) (a495 : List (List Int)) (k0 : Int → Option α) : Option α :=
  let x496 := ((a495.length : Nat) : Int)
  slices_IndexFunc_int_int__impl_nats_1_L0 N N a495 x496 (0 : Int)
    (fun x541 =>
      k0 x541)
    (
      k0 (-1 : Int))
theorem slices_IndexFunc_int_int__impl_nats_1.ex : ∃ f : ((α : Type) → Nat → List (List Int) → (Int → Option α) → Option α), f = fun α => @slices_IndexFunc_int_int__impl_nats_1.b α := ⟨_, rfl⟩
noncomputable def slices_IndexFunc_int_int__impl_nats_1 {α : Type} : Nat → List (List Int) → (Int → Option α) → Option α := Classical.choose slices_IndexFunc_int_int__impl_nats_1.ex α
theorem slices_IndexFunc_int_int__impl_nats_1.eq : @slices_IndexFunc_int_int__impl_nats_1 = @slices_IndexFunc_int_int__impl_nats_1.b := funext fun α => congrFun (Classical.choose_spec slices_IndexFunc_int_int__impl_nats_1.ex) α

/-- slices.ContainsFunc[[][]int,[]int] -/
noncomputable def slices_ContainsFunc_int_int__impl_nats_1.b {α : Type} (N : Nat) (a494 : List (List Int)) (k0 : Bool → Option α) : Option α :=
  slices_IndexFunc_int_int__impl_nats_1 N a494
    (fun x542 =>
      let x543 := (decide ((0 : Int) ≤ x542))
      k0 x543)
theorem slices_ContainsFunc_int_int__impl_nats_1.ex : ∃ f : ((α : Type) → Nat → List (List Int) → (Bool → Option α) → Option α), f = fun α => @slices_ContainsFunc_int_int__impl_nats_1.b α := ⟨_, rfl⟩
noncomputable def slices_ContainsFunc_int_int__impl_nats_1 {α : Type} : Nat → List (List Int) → (Bool → Option α) → Option α := Classical.choose slices_ContainsFunc_int_int__impl_nats_1.ex α
theorem slices_ContainsFunc_int_int__impl_nats_1.eq : @slices_ContainsFunc_int_int__impl_nats_1 = @slices_ContainsFunc_int_int__impl_nats_1.b := funext fun α => congrFun (Classical.choose_spec slices_ContainsFunc_int_int__impl_nats_1.ex) α

/-- loop.example/pinfold/impl.nats -/
noncomputable def impl_nats.b {α : Type} (N : Nat) (a493 : List (List Int)) (k0 : Bool → Option α) : Option α :=
  slices_ContainsFunc_int_int__impl_nats_1 N a493
    (fun x544 =>
      let x545 := !x544
      k0 x545)
theorem impl_nats.ex : ∃ f : ((α : Type) → Nat → List (List Int) → (Bool → Option α) → Option α), f = fun α => @impl_nats.b α := ⟨_, rfl⟩
noncomputable def impl_nats {α : Type} : Nat → List (List Int) → (Bool → Option α) → Option α := Classical.choose impl_nats.ex α
theorem impl_nats.eq : @impl_nats = @impl_nats.b := funext fun α => congrFun (Classical.choose_spec impl_nats.ex) α

noncomputable def impl_natCmp_L0r {α : Type} (N : Nat) (next : List Int → List Int → Int → Option α) (k0 : Int → Option α) (k1 : Option α) (v640 : List Int) (v641 : List Int) (v642 : Int) : Option α :=
  let x643 := (decide ((0 : Int) ≤ v642))
  bif x643 then
    bif (decide (v642 < (0 : Int))) then
      none
    else
      match v640[v642.toNat]? with
      | some x644 =>
        bif (decide (v642 < (0 : Int))) then
          none
        else
          match v641[v642.toNat]? with
          | some x645 =>
            let x646 := !(decide (x644 = x645))
            bif x646 then
              bif (decide (v642 < (0 : Int))) then
                none
              else
                match v640[v642.toNat]? with
                | some x647 =>
                  bif (decide (v642 < (0 : Int))) then
                    none
                  else
                    match v641[v642.toNat]? with
                    | some x648 =>
                      let x649 := IntKind.i64.wrap (x647 - x648)
                      let x650 := (minI (1 : Int) x649)
                      let x651 := (maxI (-1 : Int) x650)
                      k0 x651
                    | none => none
                | none => none
            else
              let x652 := (IntKind.i64.wrap (v642 - (1 : Int)))
              next v640 v641 x652
          | none => none
      | none => none
  else
    k1
noncomputable def impl_natCmp_L0.b {α : Type} (N n : Nat) (v640 : List Int) (v641 : List Int) (v642 : Int) (k0 : Int → Option α) (k1 : Option α) : Option α :=
  Nat.rec (motive := fun _ => List Int → List Int → Int → Option α) (fun _ _ _ => none) (fun _ next => impl_natCmp_L0r N next k0 k1) n v640 v641 v642
theorem impl_natCmp_L0.ex : ∃ f : ((α : Type) → Nat → Nat → List Int → List Int → Int → (Int → Option α) → (Option α) → Option α), f = fun α => @impl_natCmp_L0.b α := ⟨_, rfl⟩
noncomputable def impl_natCmp_L0 {α : Type} : Nat → Nat → List Int → List Int → Int → (Int → Option α) → (Option α) → Option α := Classical.choose impl_natCmp_L0.ex α
theorem impl_natCmp_L0.eq : @impl_natCmp_L0 = @impl_natCmp_L0.b := funext fun α => congrFun (Classical.choose_spec impl_natCmp_L0.ex) α
theorem impl_natCmp_L0.zero {α : Type} (N : Nat) (v640 : List Int) (v641 : List Int) (v642 : Int) (k0 : Int → Option α) (k1 : Option α) : impl_natCmp_L0 N 0 v640 v641 v642 k0 k1 = none := by rw [impl_natCmp_L0.eq]; rfl
theorem impl_natCmp_L0.succ {α : Type} (N n : Nat) (v640 : List Int) (v641 : List Int) (v642 : Int) (k0 : Int → Option α) (k1 : Option α) : impl_natCmp_L0 N (n + 1) v640 v641 v642 k0 k1 = impl_natCmp_L0r N (fun y0 y1 y2 => impl_natCmp_L0 N n y0 y1 y2 k0 k1) k0 k1 v640 v641 v642 := by rw [impl_natCmp_L0.eq]; rfl
/-- loop.example/pinfold/impl.natCmp -/
noncomputable def impl_natCmp.b {α : Type} (N : Nat) (a628 : List Int) (a629 : List Int) (k0 : Int → Option α) : Option α :=
  let x630 := ((a628.length : Nat) : Int)
  let x631 := ((a629.length : Nat) : Int)
  let x632 := !(decide (x630 = x631))
  bif x632 then
    let x633 := ((a628.length : Nat) : Int)
    let x634 := ((a629.length : Nat) : Int)
    let x635 := IntKind.i64.wrap (x633 - x634)
    let x636 := (minI (1 : Int) x635)
    let x637 := (maxI (-1 : Int) x636)
    k0 x637
  else
    let x638 := ((a628.length : Nat) : Int)
    let x639 := (IntKind.i64.wrap (x638 - (1 : Int)))
    impl_natCmp_L0 N N a628 a629 x639
      (fun x653 =>
        k0 x653)
      (
        k0 (0 : Int))
theorem impl_natCmp.ex : ∃ f : ((α : Type) → Nat → List Int → List Int → (Int → Option α) → Option α), f = fun α => @impl_natCmp.b α := ⟨_, rfl⟩
noncomputable def impl_natCmp {α : Type} : Nat → List Int → List Int → (Int → Option α) → Option α := Classical.choose impl_natCmp.ex α
theorem impl_natCmp.eq : @impl_natCmp = @impl_natCmp.b := funext fun α => congrFun (Classical.choose_spec impl_natCmp.ex) α

noncomputable def impl_trim_L0r {α : Type} (N : Nat) (next : List Int → Option α) (k0 : List Int → Option α) (v681 : List Int) : Option α :=
  let x682 := ((v681.length : Nat) : Int)
  let x683 := (decide ((0 : Int) < x682))
  bif x683 then
    let x684 := ((v681.length : Nat) : Int)
    let x685 := (IntKind.i64.wrap (x684 - (1 : Int)))
    bif (decide (x685 < (0 : Int))) then
      none
    else
      match v681[x685.toNat]? with
      | some x686 =>
        let x687 := (decide (x686 = (0 : Int)))
        bif x687 then
          let x688 := ((v681.length : Nat) : Int)
          let x689 := (IntKind.i64.wrap (x688 - (1 : Int)))
          bif (decide ((0 : Int) ≤ x689)) then
            bif (decide (x689 ≤ ((v681.length : Nat) : Int))) then
              let x690 := v681.take x689.toNat
              next x690
            else
              none
          else
            none
        else
          k0 v681
      | none => none
  else
    k0 v681
noncomputable def impl_trim_L0.b {α : Type} (N n : Nat) (v681 : List Int) (k0 : List Int → Option α) : Option α :=
  Nat.rec (motive := fun _ => List Int → Option α) (fun _ => none) (fun _ next => impl_trim_L0r N next k0) n v681
theorem impl_trim_L0.ex : ∃ f : ((α : Type) → Nat → Nat → List Int → (List Int → Option α) → Option α), f = fun α => @impl_trim_L0.b α := ⟨_, rfl⟩
noncomputable def impl_trim_L0 {α : Type} : Nat → Nat → List Int → (List Int → Option α) → Option α := Classical.choose impl_trim_L0.ex α
theorem impl_trim_L0.eq : @impl_trim_L0 = @impl_trim_L0.b := funext fun α => congrFun (Classical.choose_spec impl_trim_L0.ex) α
theorem impl_trim_L0.zero {α : Type} (N : Nat) (v681 : List Int) (k0 : List Int → Option α) : impl_trim_L0 N 0 v681 k0 = none := by rw [impl_trim_L0.eq]; rfl
theorem impl_trim_L0.succ {α : Type} (N n : Nat) (v681 : List Int) (k0 : List Int → Option α) : impl_trim_L0 N (n + 1) v681 k0 = impl_trim_L0r N (fun y0 => impl_trim_L0 N n y0 k0) k0 v681 := by rw [impl_trim_L0.eq]; rfl
/-- loop.example/pinfold/impl.trim -/
noncomputable def impl_trim.b {α : Type} (N : Nat) (a680 : List Int) (k0 : List Int → Option α) : Option α :=
  impl_trim_L0 N N a680
    (fun x691 =>
      k0 x691)
theorem impl_trim.ex : ∃ f : ((α : Type) → Nat → List Int → (List Int → Option α) → Option α), f = fun α => @impl_trim.b α := ⟨_, rfl⟩
noncomputable def impl_trim {α : Type} : Nat → List Int → (List Int → Option α) → Option α := Classical.choose impl_trim.ex α
theorem impl_trim.eq : @impl_trim = @impl_trim.b := funext fun α => congrFun (Classical.choose_spec impl_trim.ex) α

noncomputable def math_bits_Len64_J1.b {α : Type} (N : Nat) (v701 : Int) (v702 : Int) (k0 : Int → Int → Option α) : Option α :=
  let x703 := (decide ((4294967296 : Int) ≤ v701))
  bif x703 then
    let x704 := (shrI .u64 v701 (32 : Int))
    k0 x704 (32 : Int)
  else
    k0 v701 v702
theorem math_bits_Len64_J1.ex : ∃ f : ((α : Type) → Nat → Int → Int → (Int → Int → Option α) → Option α), f = fun α => @math_bits_Len64_J1.b α := ⟨_, rfl⟩
noncomputable def math_bits_Len64_J1 {α : Type} : Nat → Int → Int → (Int → Int → Option α) → Option α := Classical.choose math_bits_Len64_J1.ex α
theorem math_bits_Len64_J1.eq : @math_bits_Len64_J1 = @math_bits_Len64_J1.b := funext fun α => congrFun (Classical.choose_spec math_bits_Len64_J1.ex) α
noncomputable def math_bits_Len64_J4.b {α : Type} (N : Nat) (v707 : Int) (v708 : Int) (k0 : Int → Int → Option α) : Option α :=
  let x709 := (decide ((65536 : Int) ≤ v707))
  bif x709 then
    let x710 := (shrI .u64 v707 (16 : Int))
    let x711 := (IntKind.i64.wrap (v708 + (16 : Int)))
    k0 x710 x711
  else
    k0 v707 v708
theorem math_bits_Len64_J4.ex : ∃ f : ((α : Type) → Nat → Int → Int → (Int → Int → Option α) → Option α), f = fun α => @math_bits_Len64_J4.b α := ⟨_, rfl⟩
noncomputable def math_bits_Len64_J4 {α : Type} : Nat → Int → Int → (Int → Int → Option α) → Option α := Classical.choose math_bits_Len64_J4.ex α
theorem math_bits_Len64_J4.eq : @math_bits_Len64_J4 = @math_bits_Len64_J4.b := funext fun α => congrFun (Classical.choose_spec math_bits_Len64_J4.ex) α
noncomputable def math_bits_Len64_J7.b {α : Type} (N : Nat) (v714 : Int) (v715 : Int) (k0 : Int → Int → Option α) : Option α :=
  let x716 := (decide ((256 : Int) ≤ v714))
  bif x716 then
    let x717 := (shrI .u64 v714 (8 : Int))
    let x718 := (IntKind.i64.wrap (v715 + (8 : Int)))
    k0 x717 x718
  else
    k0 v714 v715
theorem math_bits_Len64_J7.ex : ∃ f : ((α : Type) → Nat → Int → Int → (Int → Int → Option α) → Option α), f = fun α => @math_bits_Len64_J7.b α := ⟨_, rfl⟩
noncomputable def math_bits_Len64_J7 {α : Type} : Nat → Int → Int → (Int → Int → Option α) → Option α := Classical.choose math_bits_Len64_J7.ex α
theorem math_bits_Len64_J7.eq : @math_bits_Len64_J7 = @math_bits_Len64_J7.b := funext fun α => congrFun (Classical.choose_spec math_bits_Len64_J7.ex) α
/-- math/bits.Len64 -/
noncomputable def math_bits_Len64.b {α : Type} (N : Nat) (a700 : Int) (k0 : Int → Option α) : Option α :=
  math_bits_Len64_J1 N a700 (0 : Int)
    (fun x705 x706 =>
      math_bits_Len64_J4 N x705 x706
        (fun x712 x713 =>
          math_bits_Len64_J7 N x712 x713
            (fun x719 x720 =>
              let x721 := IntKind.u8.wrap x719
              bif (decide (x721 < (0 : Int))) then
                none
              else
                match ((⟨#[0, 1, 2, 2, 3, 3, 3, 3, 4, 4, 4, 4, 4, 4, 4, 4, 5, 5, 5, 5, 5, 5, 5, 5, 5, 5, 5, 5, 5, 5, 5, 5, 6, 6, 6, 6, 6, 6, 6, 6, 6, 6, 6, 6, 6, 6, 6, 6, 6, 6, 6, 6, 6, 6, 6, 6, 6, 6, 6, 6, 6, 6, 6, 6, 7, 7, 7, 7, 7, 7, 7, 7, 7, 7, 7, 7, 7, 7, 7, 7, 7, 7, 7, 7, 7, 7, 7, 7, 7, 7, 7, 7, 7, 7, 7, 7, 7, 7, 7, 7, 7, 7, 7, 7, 7, 7, 7, 7, 7, 7, 7, 7, 7, 7, 7, 7, 7, 7, 7, 7, 7, 7, 7, 7, 7, 7, 7, 7, 8, 8, 8, 8, 8, 8, 8, 8, 8, 8, 8, 8, 8, 8, 8, 8, 8, 8, 8, 8, 8, 8, 8, 8, 8, 8, 8, 8, 8, 8, 8, 8, 8, 8, 8, 8, 8, 8, 8, 8, 8, 8, 8, 8, 8, 8, 8, 8, 8, 8, 8, 8, 8, 8, 8, 8, 8, 8, 8, 8, 8, 8, 8, 8, 8, 8, 8, 8, 8, 8, 8, 8, 8, 8, 8, 8, 8, 8, 8, 8, 8, 8, 8, 8, 8, 8, 8, 8, 8, 8, 8, 8, 8, 8, 8, 8, 8, 8, 8, 8, 8, 8, 8, 8, 8, 8, 8, 8, 8, 8, 8, 8, 8, 8, 8, 8, 8, 8, 8, 8, 8, 8, 8, 8, 8, 8, 8, 8]⟩ : ByteArray)[x721.toNat]? : Option UInt8) with
                | some x722 =>
                  let x723 := ((x722.toNat : Nat) : Int)
                  let x724 := IntKind.i64.wrap x723
                  let x725 := IntKind.i64.wrap (x720 + x724)
                  k0 x725
                | none => none)))
theorem math_bits_Len64.ex : ∃ f : ((α : Type) → Nat → Int → (Int → Option α) → Option α), f = fun α => @math_bits_Len64.b α := ⟨_, rfl⟩
noncomputable def math_bits_Len64 {α : Type} : Nat → Int → (Int → Option α) → Option α := Classical.choose math_bits_Len64.ex α
theorem math_bits_Len64.eq : @math_bits_Len64 = @math_bits_Len64.b := funext fun α => congrFun (Classical.choose_spec math_bits_Len64.ex) α

/-- math/bits.Len -/
noncomputable def math_bits_Len.b {α : Type} (N : Nat) (a699 : Int) (k0 : Int → Option α) : Option α :=
  math_bits_Len64 N a699
    (fun x726 =>
      k0 x726)
theorem math_bits_Len.ex : ∃ f : ((α : Type) → Nat → Int → (Int → Option α) → Option α), f = fun α => @math_bits_Len.b α := ⟨_, rfl⟩
noncomputable def math_bits_Len {α : Type} : Nat → Int → (Int → Option α) → Option α := Classical.choose math_bits_Len.ex α
theorem math_bits_Len.eq : @math_bits_Len = @math_bits_Len.b := funext fun α => congrFun (Classical.choose_spec math_bits_Len.ex) α

/-- slices.Clone[[]int,int] -/
noncomputable def slices_Clone_int_int {α : Type} (N : Nat) (a1 : List Int) (k0 : List Int → Option α) : Option α :=
  bif decide (([] : List Int).length + a1.length ≤ 8796093022208) then k0 a1 else none

noncomputable def impl_natShift_J10.b {α : Type} (N : Nat) (v805 : List Int) (v806 : Int) (v807 : Int) (v808 : Int) (v809 : Int) (v810 : Int) (v811 : List Int) (k0 : List Int → Int → Int → Int → Int → List Int → Option α) : Option α :=
  let x812 := IntKind.i64.wrap (v806 + v808)
  let x813 := (IntKind.i64.wrap (x812 + (1 : Int)))
  let x814 := ((v805.length : Nat) : Int)
  let x815 := decide (x813 < x814)
  bif x815 then
    bif (decide (v808 < (0 : Int))) then
      none
    else
      bif decide (v808.toNat < v811.length) then
        match v811[v808.toNat]? with
        | some x816 =>
          let x817 := IntKind.i64.wrap (v806 + v808)
          let x818 := (IntKind.i64.wrap (x817 + (1 : Int)))
          bif (decide (x818 < (0 : Int))) then
            none
          else
            match v805[x818.toNat]? with
            | some x819 =>
              let x820 := (IntKind.i64.wrap ((16 : Int) - v807))
              bif (decide (x820 < (0 : Int))) then
                none
              else
                let x821 := shlI .i64 x819 x820
                let x822 := (bitI .and .i64 x821 (65535 : Int))
                let x823 := bitI .or .i64 x816 x822
                bif (decide (v808 < (0 : Int))) then
                  none
                else
                  bif decide (v808.toNat < v811.length) then
                    match v811[v808.toNat]? with
                    | some x824 =>
                      let x825 := v811.set v808.toNat x823
                      k0 v805 v806 v807 v809 v810 x825
                    | none => none
                  else
                    none
            | none => none
        | none => none
      else
        none
  else
    k0 v805 v806 v807 v809 v810 v811
theorem impl_natShift_J10.ex : ∃ f : ((α : Type) → Nat → List Int → Int → Int → Int → Int → Int → List Int → (List Int → Int → Int → Int → Int → List Int → Option α) → Option α), f = fun α => @impl_natShift_J10.b α := ⟨_, rfl⟩
noncomputable def impl_natShift_J10 {α : Type} : Nat → List Int → Int → Int → Int → Int → Int → List Int → (List Int → Int → Int → Int → Int → List Int → Option α) → Option α := Classical.choose impl_natShift_J10.ex α
theorem impl_natShift_J10.eq : @impl_natShift_J10 = @impl_natShift_J10.b := funext fun α => congrFun (Classical.choose_spec impl_natShift_J10.ex) α
noncomputable def impl_natShift_L0r {α : Type} (N : Nat) (next : List Int → Int → Int → Int → Int → List Int → Option α) (k0 : List Int → Option α) (v794 : List Int) (v795 : Int) (v796 : Int) (v797 : Int) (v798 : Int) (v799 : List Int) : Option α :=
  let x800 := decide (v798 < v797)
  bif x800 then
    bif (decide (v798 < (0 : Int))) then
      none
    else
      bif decide (v798.toNat < v799.length) then
        match v799[v798.toNat]? with
        | some x801 =>
          bif (decide (v796 < (0 : Int))) then
            none
          else
            let x802 := shrI .i64 x801 v796
            bif (decide (v798 < (0 : Int))) then
              none
            else
              bif decide (v798.toNat < v799.length) then
                match v799[v798.toNat]? with
                | some x803 =>
                  let x804 := v799.set v798.toNat x802
                  impl_natShift_J10 N v794 v795 v796 v798 v797 v798 x804
                    (fun x826 x827 x828 x829 x830 x831 =>
                      let x832 := (IntKind.i64.wrap (x830 + (1 : Int)))
                      next x826 x827 x828 x829 x832 x831)
                | none => none
              else
                none
        | none => none
      else
        none
  else
    k0 v799
noncomputable def impl_natShift_L0.b {α : Type} (N n : Nat) (v794 : List Int) (v795 : Int) (v796 : Int) (v797 : Int) (v798 : Int) (v799 : List Int) (k0 : List Int → Option α) : Option α :=
  Nat.rec (motive := fun _ => List Int → Int → Int → Int → Int → List Int → Option α) (fun _ _ _ _ _ _ => none) (fun _ next => impl_natShift_L0r N next k0) n v794 v795 v796 v797 v798 v799
theorem impl_natShift_L0.ex : ∃ f : ((α : Type) → Nat → Nat → List Int → Int → Int → Int → Int → List Int → (List Int → Option α) → Option α), f = fun α => @impl_natShift_L0.b α := ⟨_, rfl⟩
noncomputable def impl_natShift_L0 {α : Type} : Nat → Nat → List Int → Int → Int → Int → Int → List Int → (List Int → Option α) → Option α := Classical.choose impl_natShift_L0.ex α
theorem impl_natShift_L0.eq : @impl_natShift_L0 = @impl_natShift_L0.b := funext fun α => congrFun (Classical.choose_spec impl_natShift_L0.ex) α
theorem impl_natShift_L0.zero {α : Type} (N : Nat) (v794 : List Int) (v795 : Int) (v796 : Int) (v797 : Int) (v798 : Int) (v799 : List Int) (k0 : List Int → Option α) : impl_natShift_L0 N 0 v794 v795 v796 v797 v798 v799 k0 = none := by rw [impl_natShift_L0.eq]; rfl
theorem impl_natShift_L0.succ {α : Type} (N n : Nat) (v794 : List Int) (v795 : Int) (v796 : Int) (v797 : Int) (v798 : Int) (v799 : List Int) (k0 : List Int → Option α) : impl_natShift_L0 N (n + 1) v794 v795 v796 v797 v798 v799 k0 = impl_natShift_L0r N (fun y0 y1 y2 y3 y4 y5 => impl_natShift_L0 N n y0 y1 y2 y3 y4 y5 k0) k0 v794 v795 v796 v797 v798 v799 := by rw [impl_natShift_L0.eq]; rfl
noncomputable def impl_natShift_L2r {α : Type} (N : Nat) (next : Int → List Int → Int → Int → List Int → Option α) (k0 : List Int → Option α) (v841 : Int) (v842 : List Int) (v843 : Int) (v844 : Int) (v845 : List Int) : Option α :=
  let x846 := decide (v844 < v843)
  bif x846 then
    bif (decide (v844 < (0 : Int))) then
      none
    else
      match v842[v844.toNat]? with
      | some x847 =>
        let x848 := (Int.tmod v841 (16 : Int))
        bif (decide (x848 < (0 : Int))) then
          none
        else
          let x849 := shlI .i64 x847 x848
          let x850 := (IntKind.i64.wrap (Int.tdiv v841 (16 : Int)))
          let x851 := IntKind.i64.wrap (x850 + v844)
          bif (decide (x851 < (0 : Int))) then
            none
          else
            bif decide (x851.toNat < v845.length) then
              match v845[x851.toNat]? with
              | some x852 =>
                let x853 := (bitI .and .i64 x849 (65535 : Int))
                let x854 := bitI .or .i64 x852 x853
                bif (decide (x851 < (0 : Int))) then
                  none
                else
                  bif decide (x851.toNat < v845.length) then
                    match v845[x851.toNat]? with
                    | some x855 =>
                      let x856 := v845.set x851.toNat x854
                      let x857 := (IntKind.i64.wrap (Int.tdiv v841 (16 : Int)))
                      let x858 := IntKind.i64.wrap (x857 + v844)
                      let x859 := (IntKind.i64.wrap (x858 + (1 : Int)))
                      let x860 := (shrI .i64 x849 (16 : Int))
                      bif (decide (x859 < (0 : Int))) then
                        none
                      else
                        bif decide (x859.toNat < x856.length) then
                          match x856[x859.toNat]? with
                          | some x861 =>
                            let x862 := x856.set x859.toNat x860
                            let x863 := (IntKind.i64.wrap (v844 + (1 : Int)))
                            next v841 v842 v843 x863 x862
                          | none => none
                        else
                          none
                    | none => none
                  else
                    none
              | none => none
            else
              none
      | none => none
  else
    k0 v845
noncomputable def impl_natShift_L2.b {α : Type} (N n : Nat) (v841 : Int) (v842 : List Int) (v843 : Int) (v844 : Int) (v845 : List Int) (k0 : List Int → Option α) : Option α :=
  Nat.rec (motive := fun _ => Int → List Int → Int → Int → List Int → Option α) (fun _ _ _ _ _ => none) (fun _ next => impl_natShift_L2r N next k0) n v841 v842 v843 v844 v845
theorem impl_natShift_L2.ex : ∃ f : ((α : Type) → Nat → Nat → Int → List Int → Int → Int → List Int → (List Int → Option α) → Option α), f = fun α => @impl_natShift_L2.b α := ⟨_, rfl⟩
noncomputable def impl_natShift_L2 {α : Type} : Nat → Nat → Int → List Int → Int → Int → List Int → (List Int → Option α) → Option α := Classical.choose impl_natShift_L2.ex α
theorem impl_natShift_L2.eq : @impl_natShift_L2 = @impl_natShift_L2.b := funext fun α => congrFun (Classical.choose_spec impl_natShift_L2.ex) α
theorem impl_natShift_L2.zero {α : Type} (N : Nat) (v841 : Int) (v842 : List Int) (v843 : Int) (v844 : Int) (v845 : List Int) (k0 : List Int → Option α) : impl_natShift_L2 N 0 v841 v842 v843 v844 v845 k0 = none := by rw [impl_natShift_L2.eq]; rfl
theorem impl_natShift_L2.succ {α : Type} (N n : Nat) (v841 : Int) (v842 : List Int) (v843 : Int) (v844 : Int) (v845 : List Int) (k0 : List Int → Option α) : impl_natShift_L2 N (n + 1) v841 v842 v843 v844 v845 k0 = impl_natShift_L2r N (fun y0 y1 y2 y3 y4 => impl_natShift_L2 N n y0 y1 y2 y3 y4 k0) k0 v841 v842 v843 v844 v845 := by rw [impl_natShift_L2.eq]; rfl
/-- loop.example/pinfold/impl.natShift -/
noncomputable def impl_natShift.b {α : Type} (N : Nat) (a782 : List Int) (a783 : Int) (k0 : List Int → Option α) : Option α :=
  let x784 := (decide (a783 < (0 : Int)))
  bif x784 then
    let x785 := IntKind.i64.wrap (0 - a783)
    let x786 := (IntKind.i64.wrap (Int.tdiv x785 (16 : Int)))
    let x787 := IntKind.i64.wrap (0 - a783)
    let x788 := (Int.tmod x787 (16 : Int))
    let x789 := ((a782.length : Nat) : Int)
    let x790 := decide (x789 ≤ x786)
    bif x790 then
      k0 []
    else
      bif (decide ((0 : Int) ≤ x786)) then
        bif (decide (x786 ≤ ((a782.length : Nat) : Int))) then
          let x791 := a782.drop x786.toNat
          slices_Clone_int_int N x791
            (fun x792 =>
              let x793 := ((x792.length : Nat) : Int)
              impl_natShift_L0 N N a782 x786 x788 x793 (0 : Int) x792
                (fun x833 =>
                  impl_trim N x833
                    (fun x834 =>
                      k0 x834)))
        else
          none
      else
        none
  else
    let x835 := (IntKind.i64.wrap (Int.tdiv a783 (16 : Int)))
    let x836 := ((a782.length : Nat) : Int)
    let x837 := IntKind.i64.wrap (x835 + x836)
    let x838 := (IntKind.i64.wrap (x837 + (1 : Int)))
    bif (decide ((0 : Int) ≤ x838)) then
      bif decide (x838 ≤ x838) then
        bif (decide (x838 ≤ ((8796093022208 : Nat) : Int))) then
          let x839 := (List.replicate x838.toNat (0 : Int))
          let x840 := ((a782.length : Nat) : Int)
          impl_natShift_L2 N N a783 a782 x840 (0 : Int) x839
            (fun x864 =>
              impl_trim N x864
                (fun x865 =>
                  k0 x865))
        else
          none
      else
        none
    else
      none
theorem impl_natShift.ex : ∃ f : ((α : Type) → Nat → List Int → Int → (List Int → Option α) → Option α), f = fun α => @impl_natShift.b α := ⟨_, rfl⟩
noncomputable def impl_natShift {α : Type} : Nat → List Int → Int → (List Int → Option α) → Option α := Classical.choose impl_natShift.ex α
theorem impl_natShift.eq : @impl_natShift = @impl_natShift.b := funext fun α => congrFun (Classical.choose_spec impl_natShift.ex) α

noncomputable def impl_natDiv_L0r {α : Type} (N : Nat) (next : List Int → List Int → Int → Int → List Int → Option α) (k0 : Int → List Int → Option α) (v662 : List Int) (v663 : List Int) (v664 : Int) (v665 : Int) (v666 : List Int) : Option α :=
  let x667 := (decide ((0 : Int) ≤ v665))
  bif x667 then
    let x668 := (shlI .i64 v664 (16 : Int))
    bif (decide (v665 < (0 : Int))) then
      none
    else
      match v662[v665.toNat]? with
      | some x669 =>
        let x670 := bitI .or .i64 x668 x669
        match v663[0]? with
        | some x671 =>
          bif (decide (x671 = (0 : Int))) then
            none
          else
            let x672 := IntKind.i64.wrap (Int.tdiv x670 x671)
            match v663[0]? with
            | some x673 =>
              bif (decide (x673 = (0 : Int))) then
                none
              else
                let x674 := Int.tmod x670 x673
                bif (decide (v665 < (0 : Int))) then
                  none
                else
                  bif decide (v665.toNat < v666.length) then
                    match v666[v665.toNat]? with
                    | some x675 =>
                      let x676 := v666.set v665.toNat x672
                      let x677 := (IntKind.i64.wrap (v665 - (1 : Int)))
                      next v662 v663 x674 x677 x676
                    | none => none
                  else
                    none
            | none => none
        | none => none
      | none => none
  else
    k0 v664 v666
noncomputable def impl_natDiv_L0.b {α : Type} (N n : Nat) (v662 : List Int) (v663 : List Int) (v664 : Int) (v665 : Int) (v666 : List Int) (k0 : Int → List Int → Option α) : Option α :=
  Nat.rec (motive := fun _ => List Int → List Int → Int → Int → List Int → Option α) (fun _ _ _ _ _ => none) (fun _ next => impl_natDiv_L0r N next k0) n v662 v663 v664 v665 v666
theorem impl_natDiv_L0.ex : ∃ f : ((α : Type) → Nat → Nat → List Int → List Int → Int → Int → List Int → (Int → List Int → Option α) → Option α), f = fun α => @impl_natDiv_L0.b α := ⟨_, rfl⟩
noncomputable def impl_natDiv_L0 {α : Type} : Nat → Nat → List Int → List Int → Int → Int → List Int → (Int → List Int → Option α) → Option α := Classical.choose impl_natDiv_L0.ex α
theorem impl_natDiv_L0.eq : @impl_natDiv_L0 = @impl_natDiv_L0.b := funext fun α => congrFun (Classical.choose_spec impl_natDiv_L0.ex) α
theorem impl_natDiv_L0.zero {α : Type} (N : Nat) (v662 : List Int) (v663 : List Int) (v664 : Int) (v665 : Int) (v666 : List Int) (k0 : Int → List Int → Option α) : impl_natDiv_L0 N 0 v662 v663 v664 v665 v666 k0 = none := by rw [impl_natDiv_L0.eq]; rfl
theorem impl_natDiv_L0.succ {α : Type} (N n : Nat) (v662 : List Int) (v663 : List Int) (v664 : Int) (v665 : Int) (v666 : List Int) (k0 : Int → List Int → Option α) : impl_natDiv_L0 N (n + 1) v662 v663 v664 v665 v666 k0 = impl_natDiv_L0r N (fun y0 y1 y2 y3 y4 => impl_natDiv_L0 N n y0 y1 y2 y3 y4 k0) k0 v662 v663 v664 v665 v666 := by rw [impl_natDiv_L0.eq]; rfl
noncomputable def impl_natDiv_L2r {α : Type} (N : Nat) (next : List Int → Int → List Int → Int → List Int → Option α) (k0 : Int → List Int → Int → List Int → Option α) (v872 : List Int) (v873 : Int) (v874 : List Int) (v875 : Int) (v876 : List Int) : Option α :=
  let x877 := ((v876.length : Nat) : Int)
  let x878 := ((v872.length : Nat) : Int)
  let x879 := (IntKind.i64.wrap (x878 + (1 : Int)))
  let x880 := decide (x877 < x879)
  bif x880 then
    let x881 := [(0 : Int)]
    bif decide (v876.length + x881.length ≤ 8796093022208) then
      let x882 := v876 ++ x881
      next v872 v873 v874 v875 x882
    else
      none
  else
    k0 v873 v874 v875 v876
noncomputable def impl_natDiv_L2.b {α : Type} (N n : Nat) (v872 : List Int) (v873 : Int) (v874 : List Int) (v875 : Int) (v876 : List Int) (k0 : Int → List Int → Int → List Int → Option α) : Option α :=
  Nat.rec (motive := fun _ => List Int → Int → List Int → Int → List Int → Option α) (fun _ _ _ _ _ => none) (fun _ next => impl_natDiv_L2r N next k0) n v872 v873 v874 v875 v876
theorem impl_natDiv_L2.ex : ∃ f : ((α : Type) → Nat → Nat → List Int → Int → List Int → Int → List Int → (Int → List Int → Int → List Int → Option α) → Option α), f = fun α => @impl_natDiv_L2.b α := ⟨_, rfl⟩
noncomputable def impl_natDiv_L2 {α : Type} : Nat → Nat → List Int → Int → List Int → Int → List Int → (Int → List Int → Int → List Int → Option α) → Option α := Classical.choose impl_natDiv_L2.ex α
theorem impl_natDiv_L2.eq : @impl_natDiv_L2 = @impl_natDiv_L2.b := funext fun α => congrFun (Classical.choose_spec impl_natDiv_L2.ex) α
theorem impl_natDiv_L2.zero {α : Type} (N : Nat) (v872 : List Int) (v873 : Int) (v874 : List Int) (v875 : Int) (v876 : List Int) (k0 : Int → List Int → Int → List Int → Option α) : impl_natDiv_L2 N 0 v872 v873 v874 v875 v876 k0 = none := by rw [impl_natDiv_L2.eq]; rfl
theorem impl_natDiv_L2.succ {α : Type} (N n : Nat) (v872 : List Int) (v873 : Int) (v874 : List Int) (v875 : Int) (v876 : List Int) (k0 : Int → List Int → Int → List Int → Option α) : impl_natDiv_L2 N (n + 1) v872 v873 v874 v875 v876 k0 = impl_natDiv_L2r N (fun y0 y1 y2 y3 y4 => impl_natDiv_L2 N n y0 y1 y2 y3 y4 k0) k0 v872 v873 v874 v875 v876 := by rw [impl_natDiv_L2.eq]; rfl
noncomputable def impl_natDiv_L6r {α : Type} (N : Nat) (next : Int → List Int → Int → Int → Int → Int → List Int → List Int → Option α) (k0 : Int → List Int → Int → Int → Int → List Int → List Int → Option α) (v913 : Int) (v914 : List Int) (v915 : Int) (v916 : Int) (v917 : Int) (v918 : Int) (v919 : List Int) (v920 : List Int) : Option α :=
  let x921 := (decide ((65536 : Int) ≤ v917))
  bif x921 then
    let x922 := (IntKind.i64.wrap (v917 - (1 : Int)))
    let x923 := (IntKind.i64.wrap (v915 - (1 : Int)))
    bif (decide (x923 < (0 : Int))) then
      none
    else
      match v914[x923.toNat]? with
      | some x924 =>
        let x925 := IntKind.i64.wrap (v918 + x924)
        let x926 := (decide ((65536 : Int) ≤ x925))
        bif x926 then
          k0 v913 v914 v915 v916 x922 v919 v920
        else
          next v913 v914 v915 v916 x922 x925 v919 v920
      | none => none
  else
    let x927 := (IntKind.i64.wrap (v915 - (2 : Int)))
    bif (decide (x927 < (0 : Int))) then
      none
    else
      match v914[x927.toNat]? with
      | some x928 =>
        let x929 := IntKind.i64.wrap (v917 * x928)
        let x930 := (shlI .i64 v918 (16 : Int))
        let x931 := IntKind.i64.wrap (v916 + v915)
        let x932 := (IntKind.i64.wrap (x931 - (2 : Int)))
        bif (decide (x932 < (0 : Int))) then
          none
        else
          bif decide (x932.toNat < v919.length) then
            match v919[x932.toNat]? with
            | some x933 =>
              let x934 := bitI .or .i64 x930 x933
              let x935 := decide (x934 < x929)
              bif x935 then
                let x936 := (IntKind.i64.wrap (v917 - (1 : Int)))
                let x937 := (IntKind.i64.wrap (v915 - (1 : Int)))
                bif (decide (x937 < (0 : Int))) then
                  none
                else
                  match v914[x937.toNat]? with
                  | some x938 =>
                    let x939 := IntKind.i64.wrap (v918 + x938)
                    let x940 := (decide ((65536 : Int) ≤ x939))
                    bif x940 then
                      k0 v913 v914 v915 v916 x936 v919 v920
                    else
                      next v913 v914 v915 v916 x936 x939 v919 v920
                  | none => none
              else
                k0 v913 v914 v915 v916 v917 v919 v920
            | none => none
          else
            none
      | none => none
noncomputable def impl_natDiv_L6.b {α : Type} (N n : Nat) (v913 : Int) (v914 : List Int) (v915 : Int) (v916 : Int) (v917 : Int) (v918 : Int) (v919 : List Int) (v920 : List Int) (k0 : Int → List Int → Int → Int → Int → List Int → List Int → Option α) : Option α :=
  Nat.rec (motive := fun _ => Int → List Int → Int → Int → Int → Int → List Int → List Int → Option α) (fun _ _ _ _ _ _ _ _ => none) (fun _ next => impl_natDiv_L6r N next k0) n v913 v914 v915 v916 v917 v918 v919 v920
theorem impl_natDiv_L6.ex : ∃ f : ((α : Type) → Nat → Nat → Int → List Int → Int → Int → Int → Int → List Int → List Int → (Int → List Int → Int → Int → Int → List Int → List Int → Option α) → Option α), f = fun α => @impl_natDiv_L6.b α := ⟨_, rfl⟩
noncomputable def impl_natDiv_L6 {α : Type} : Nat → Nat → Int → List Int → Int → Int → Int → Int → List Int → List Int → (Int → List Int → Int → Int → Int → List Int → List Int → Option α) → Option α := Classical.choose impl_natDiv_L6.ex α
theorem impl_natDiv_L6.eq : @impl_natDiv_L6 = @impl_natDiv_L6.b := funext fun α => congrFun (Classical.choose_spec impl_natDiv_L6.ex) α
theorem impl_natDiv_L6.zero {α : Type} (N : Nat) (v913 : Int) (v914 : List Int) (v915 : Int) (v916 : Int) (v917 : Int) (v918 : Int) (v919 : List Int) (v920 : List Int) (k0 : Int → List Int → Int → Int → Int → List Int → List Int → Option α) : impl_natDiv_L6 N 0 v913 v914 v915 v916 v917 v918 v919 v920 k0 = none := by rw [impl_natDiv_L6.eq]; rfl
theorem impl_natDiv_L6.succ {α : Type} (N n : Nat) (v913 : Int) (v914 : List Int) (v915 : Int) (v916 : Int) (v917 : Int) (v918 : Int) (v919 : List Int) (v920 : List Int) (k0 : Int → List Int → Int → Int → Int → List Int → List Int → Option α) : impl_natDiv_L6 N (n + 1) v913 v914 v915 v916 v917 v918 v919 v920 k0 = impl_natDiv_L6r N (fun y0 y1 y2 y3 y4 y5 y6 y7 => impl_natDiv_L6 N n y0 y1 y2 y3 y4 y5 y6 y7 k0) k0 v913 v914 v915 v916 v917 v918 v919 v920 := by rw [impl_natDiv_L6.eq]; rfl
noncomputable def impl_natDiv_J34.b {α : Type} (N : Nat) (v967 : Int) (v968 : List Int) (v969 : Int) (v970 : Int) (v971 : Int) (v972 : Int) (v973 : Int) (v974 : Int) (v975 : List Int) (v976 : Int) (v977 : Int) (v978 : List Int) (v979 : List Int) (k0 : Int → List Int → Int → Int → Int → Int → Int → Int → List Int → Int → Int → List Int → List Int → Option α) : Option α :=
  let x980 := (decide (v974 < (0 : Int)))
  bif x980 then
    let x981 := IntKind.i64.wrap (0 - v974)
    let x982 := (IntKind.i64.wrap (x981 + (65536 : Int)))
    let x983 := (IntKind.i64.wrap (x982 - (1 : Int)))
    let x984 := (IntKind.i64.wrap (Int.tdiv x983 (65536 : Int)))
    let x985 := (IntKind.i64.wrap (x984 * (65536 : Int)))
    let x986 := IntKind.i64.wrap (v974 + x985)
    k0 v967 v968 v969 v970 v971 x984 v973 x986 v975 v976 v977 v978 v979
  else
    k0 v967 v968 v969 v970 v971 v972 v973 v974 v975 v976 v977 v978 v979
theorem impl_natDiv_J34.ex : ∃ f : ((α : Type) → Nat → Int → List Int → Int → Int → Int → Int → Int → Int → List Int → Int → Int → List Int → List Int → (Int → List Int → Int → Int → Int → Int → Int → Int → List Int → Int → Int → List Int → List Int → Option α) → Option α), f = fun α => @impl_natDiv_J34.b α := ⟨_, rfl⟩
noncomputable def impl_natDiv_J34 {α : Type} : Nat → Int → List Int → Int → Int → Int → Int → Int → Int → List Int → Int → Int → List Int → List Int → (Int → List Int → Int → Int → Int → Int → Int → Int → List Int → Int → Int → List Int → List Int → Option α) → Option α := Classical.choose impl_natDiv_J34.ex α
theorem impl_natDiv_J34.eq : @impl_natDiv_J34 = @impl_natDiv_J34.b := funext fun α => congrFun (Classical.choose_spec impl_natDiv_J34.ex) α
noncomputable def impl_natDiv_L8r {α : Type} (N : Nat) (next : Int → List Int → Int → Int → Int → Int → List Int → Int → Int → List Int → List Int → Option α) (k0 : Int → List Int → Int → Int → Int → Int → List Int → List Int → Option α) (v949 : Int) (v950 : List Int) (v951 : Int) (v952 : Int) (v953 : Int) (v954 : Int) (v955 : List Int) (v956 : Int) (v957 : Int) (v958 : List Int) (v959 : List Int) : Option α :=
  let x960 := decide (v957 < v956)
  bif x960 then
    bif (decide (v957 < (0 : Int))) then
      none
    else
      match v955[v957.toNat]? with
      | some x961 =>
        let x962 := IntKind.i64.wrap (v952 + v957)
        bif (decide (x962 < (0 : Int))) then
          none
        else
          bif decide (x962.toNat < v958.length) then
            match v958[x962.toNat]? with
            | some x963 =>
              let x964 := IntKind.i64.wrap (x963 - v954)
              let x965 := IntKind.i64.wrap (v953 * x961)
              let x966 := IntKind.i64.wrap (x964 - x965)
              impl_natDiv_J34 N v949 v950 v951 v952 v953 (0 : Int) v957 x966 v955 v956 v957 v958 v959
                (fun x987 x988 x989 x990 x991 x992 x993 x994 x995 x996 x997 x998 x999 =>
                  let x1000 := IntKind.i64.wrap (x990 + x993)
                  bif (decide (x1000 < (0 : Int))) then
                    none
                  else
                    bif decide (x1000.toNat < x998.length) then
                      match x998[x1000.toNat]? with
                      | some x1001 =>
                        let x1002 := x998.set x1000.toNat x994
                        let x1003 := (IntKind.i64.wrap (x997 + (1 : Int)))
                        next x987 x988 x989 x990 x991 x992 x995 x996 x1003 x1002 x999
                      | none => none
                    else
                      none)
            | none => none
          else
            none
      | none => none
  else
    k0 v949 v950 v951 v952 v953 v954 v958 v959
noncomputable def impl_natDiv_L8.b {α : Type} (N n : Nat) (v949 : Int) (v950 : List Int) (v951 : Int) (v952 : Int) (v953 : Int) (v954 : Int) (v955 : List Int) (v956 : Int) (v957 : Int) (v958 : List Int) (v959 : List Int) (k0 : Int → List Int → Int → Int → Int → Int → List Int → List Int → Option α) : Option α :=
  Nat.rec (motive := fun _ => Int → List Int → Int → Int → Int → Int → List Int → Int → Int → List Int → List Int → Option α) (fun _ _ _ _ _ _ _ _ _ _ _ => none) (fun _ next => impl_natDiv_L8r N next k0) n v949 v950 v951 v952 v953 v954 v955 v956 v957 v958 v959
theorem impl_natDiv_L8.ex : ∃ f : ((α : Type) → Nat → Nat → Int → List Int → Int → Int → Int → Int → List Int → Int → Int → List Int → List Int → (Int → List Int → Int → Int → Int → Int → List Int → List Int → Option α) → Option α), f = fun α => @impl_natDiv_L8.b α := ⟨_, rfl⟩
noncomputable def impl_natDiv_L8 {α : Type} : Nat → Nat → Int → List Int → Int → Int → Int → Int → List Int → Int → Int → List Int → List Int → (Int → List Int → Int → Int → Int → Int → List Int → List Int → Option α) → Option α := Classical.choose impl_natDiv_L8.ex α
theorem impl_natDiv_L8.eq : @impl_natDiv_L8 = @impl_natDiv_L8.b := funext fun α => congrFun (Classical.choose_spec impl_natDiv_L8.ex) α
theorem impl_natDiv_L8.zero {α : Type} (N : Nat) (v949 : Int) (v950 : List Int) (v951 : Int) (v952 : Int) (v953 : Int) (v954 : Int) (v955 : List Int) (v956 : Int) (v957 : Int) (v958 : List Int) (v959 : List Int) (k0 : Int → List Int → Int → Int → Int → Int → List Int → List Int → Option α) : impl_natDiv_L8 N 0 v949 v950 v951 v952 v953 v954 v955 v956 v957 v958 v959 k0 = none := by rw [impl_natDiv_L8.eq]; rfl
theorem impl_natDiv_L8.succ {α : Type} (N n : Nat) (v949 : Int) (v950 : List Int) (v951 : Int) (v952 : Int) (v953 : Int) (v954 : Int) (v955 : List Int) (v956 : Int) (v957 : Int) (v958 : List Int) (v959 : List Int) (k0 : Int → List Int → Int → Int → Int → Int → List Int → List Int → Option α) : impl_natDiv_L8 N (n + 1) v949 v950 v951 v952 v953 v954 v955 v956 v957 v958 v959 k0 = impl_natDiv_L8r N (fun y0 y1 y2 y3 y4 y5 y6 y7 y8 y9 y10 => impl_natDiv_L8 N n y0 y1 y2 y3 y4 y5 y6 y7 y8 y9 y10 k0) k0 v949 v950 v951 v952 v953 v954 v955 v956 v957 v958 v959 := by rw [impl_natDiv_L8.eq]; rfl
noncomputable def impl_natDiv_L10r {α : Type} (N : Nat) (next : Int → List Int → Int → Int → Int → Int → List Int → Int → Int → List Int → List Int → Option α) (k0 : Int → List Int → Int → Int → Int → Int → List Int → List Int → Option α) (v1029 : Int) (v1030 : List Int) (v1031 : Int) (v1032 : Int) (v1033 : Int) (v1034 : Int) (v1035 : List Int) (v1036 : Int) (v1037 : Int) (v1038 : List Int) (v1039 : List Int) : Option α :=
  let x1040 := decide (v1037 < v1036)
  bif x1040 then
    bif (decide (v1037 < (0 : Int))) then
      none
    else
      match v1035[v1037.toNat]? with
      | some x1041 =>
        let x1042 := IntKind.i64.wrap (v1032 + v1037)
        bif (decide (x1042 < (0 : Int))) then
          none
        else
          bif decide (x1042.toNat < v1038.length) then
            match v1038[x1042.toNat]? with
            | some x1043 =>
              let x1044 := IntKind.i64.wrap (x1043 + x1041)
              let x1045 := IntKind.i64.wrap (x1044 + v1034)
              let x1046 := IntKind.i64.wrap (v1032 + v1037)
              let x1047 := (bitI .and .i64 x1045 (65535 : Int))
              let x1048 := (shrI .i64 x1045 (16 : Int))
              bif (decide (x1046 < (0 : Int))) then
                none
              else
                bif decide (x1046.toNat < v1038.length) then
                  match v1038[x1046.toNat]? with
                  | some x1049 =>
                    let x1050 := v1038.set x1046.toNat x1047
                    let x1051 := (IntKind.i64.wrap (v1037 + (1 : Int)))
                    next v1029 v1030 v1031 v1032 v1033 x1048 v1035 v1036 x1051 x1050 v1039
                  | none => none
                else
                  none
            | none => none
          else
            none
      | none => none
  else
    k0 v1029 v1030 v1031 v1032 v1033 v1034 v1038 v1039
noncomputable def impl_natDiv_L10.b {α : Type} (N n : Nat) (v1029 : Int) (v1030 : List Int) (v1031 : Int) (v1032 : Int) (v1033 : Int) (v1034 : Int) (v1035 : List Int) (v1036 : Int) (v1037 : Int) (v1038 : List Int) (v1039 : List Int) (k0 : Int → List Int → Int → Int → Int → Int → List Int → List Int → Option α) : Option α :=
  Nat.rec (motive := fun _ => Int → List Int → Int → Int → Int → Int → List Int → Int → Int → List Int → List Int → Option α) (fun _ _ _ _ _ _ _ _ _ _ _ => none) (fun _ next => impl_natDiv_L10r N next k0) n v1029 v1030 v1031 v1032 v1033 v1034 v1035 v1036 v1037 v1038 v1039
theorem impl_natDiv_L10.ex : ∃ f : ((α : Type) → Nat → Nat → Int → List Int → Int → Int → Int → Int → List Int → Int → Int → List Int → List Int → (Int → List Int → Int → Int → Int → Int → List Int → List Int → Option α) → Option α), f = fun α => @impl_natDiv_L10.b α := ⟨_, rfl⟩
noncomputable def impl_natDiv_L10 {α : Type} : Nat → Nat → Int → List Int → Int → Int → Int → Int → List Int → Int → Int → List Int → List Int → (Int → List Int → Int → Int → Int → Int → List Int → List Int → Option α) → Option α := Classical.choose impl_natDiv_L10.ex α
theorem impl_natDiv_L10.eq : @impl_natDiv_L10 = @impl_natDiv_L10.b := funext fun α => congrFun (Classical.choose_spec impl_natDiv_L10.ex) α
theorem impl_natDiv_L10.zero {α : Type} (N : Nat) (v1029 : Int) (v1030 : List Int) (v1031 : Int) (v1032 : Int) (v1033 : Int) (v1034 : Int) (v1035 : List Int) (v1036 : Int) (v1037 : Int) (v1038 : List Int) (v1039 : List Int) (k0 : Int → List Int → Int → Int → Int → Int → List Int → List Int → Option α) : impl_natDiv_L10 N 0 v1029 v1030 v1031 v1032 v1033 v1034 v1035 v1036 v1037 v1038 v1039 k0 = none := by rw [impl_natDiv_L10.eq]; rfl
theorem impl_natDiv_L10.succ {α : Type} (N n : Nat) (v1029 : Int) (v1030 : List Int) (v1031 : Int) (v1032 : Int) (v1033 : Int) (v1034 : Int) (v1035 : List Int) (v1036 : Int) (v1037 : Int) (v1038 : List Int) (v1039 : List Int) (k0 : Int → List Int → Int → Int → Int → Int → List Int → List Int → Option α) : impl_natDiv_L10 N (n + 1) v1029 v1030 v1031 v1032 v1033 v1034 v1035 v1036 v1037 v1038 v1039 k0 = impl_natDiv_L10r N (fun y0 y1 y2 y3 y4 y5 y6 y7 y8 y9 y10 => impl_natDiv_L10 N n y0 y1 y2 y3 y4 y5 y6 y7 y8 y9 y10 k0) k0 v1029 v1030 v1031 v1032 v1033 v1034 v1035 v1036 v1037 v1038 v1039 := by rw [impl_natDiv_L10.eq]; rfl
noncomputable def impl_natDiv_J40.b {α : Type} (N : Nat) (v1017 : Int) (v1018 : List Int) (v1019 : Int) (v1020 : Int) (v1021 : Int) (v1022 : List Int) (v1023 : List Int) (k0 : Int → List Int → Int → Int → Int → List Int → List Int → Option α) : Option α :=
  let x1024 := IntKind.i64.wrap (v1020 + v1019)
  bif (decide (x1024 < (0 : Int))) then
    none
  else
    bif decide (x1024.toNat < v1022.length) then
      match v1022[x1024.toNat]? with
      | some x1025 =>
        let x1026 := (decide (x1025 < (0 : Int)))
        bif x1026 then
          let x1027 := (IntKind.i64.wrap (v1021 - (1 : Int)))
          let x1028 := ((v1018.length : Nat) : Int)
          impl_natDiv_L10 N N v1017 v1018 v1019 v1020 x1027 (0 : Int) v1018 x1028 (0 : Int) v1022 v1023
            (fun x1052 x1053 x1054 x1055 x1056 x1057 x1058 x1059 =>
              let x1060 := IntKind.i64.wrap (x1055 + x1054)
              bif (decide (x1060 < (0 : Int))) then
                none
              else
                bif decide (x1060.toNat < x1058.length) then
                  match x1058[x1060.toNat]? with
                  | some x1061 =>
                    let x1062 := IntKind.i64.wrap (x1061 + x1057)
                    bif (decide (x1060 < (0 : Int))) then
                      none
                    else
                      bif decide (x1060.toNat < x1058.length) then
                        match x1058[x1060.toNat]? with
                        | some x1063 =>
                          let x1064 := x1058.set x1060.toNat x1062
                          k0 x1052 x1053 x1054 x1055 x1056 x1064 x1059
                        | none => none
                      else
                        none
                  | none => none
                else
                  none)
        else
          k0 v1017 v1018 v1019 v1020 v1021 v1022 v1023
      | none => none
    else
      none
theorem impl_natDiv_J40.ex : ∃ f : ((α : Type) → Nat → Int → List Int → Int → Int → Int → List Int → List Int → (Int → List Int → Int → Int → Int → List Int → List Int → Option α) → Option α), f = fun α => @impl_natDiv_J40.b α := ⟨_, rfl⟩
noncomputable def impl_natDiv_J40 {α : Type} : Nat → Int → List Int → Int → Int → Int → List Int → List Int → (Int → List Int → Int → Int → Int → List Int → List Int → Option α) → Option α := Classical.choose impl_natDiv_J40.ex α
theorem impl_natDiv_J40.eq : @impl_natDiv_J40 = @impl_natDiv_J40.b := funext fun α => congrFun (Classical.choose_spec impl_natDiv_J40.ex) α
noncomputable def impl_natDiv_L4r {α : Type} (N : Nat) (next : Int → List Int → Int → Int → List Int → List Int → Option α) (k0 : Int → List Int → List Int → Option α) (v893 : Int) (v894 : List Int) (v895 : Int) (v896 : Int) (v897 : List Int) (v898 : List Int) : Option α :=
  let x899 := (decide ((0 : Int) ≤ v896))
  bif x899 then
    let x900 := IntKind.i64.wrap (v896 + v895)
    bif (decide (x900 < (0 : Int))) then
      none
    else
      bif decide (x900.toNat < v897.length) then
        match v897[x900.toNat]? with
        | some x901 =>
          let x902 := (shlI .i64 x901 (16 : Int))
          let x903 := IntKind.i64.wrap (v896 + v895)
          let x904 := (IntKind.i64.wrap (x903 - (1 : Int)))
          bif (decide (x904 < (0 : Int))) then
            none
          else
            bif decide (x904.toNat < v897.length) then
              match v897[x904.toNat]? with
              | some x905 =>
                let x906 := bitI .or .i64 x902 x905
                let x907 := (IntKind.i64.wrap (v895 - (1 : Int)))
                bif (decide (x907 < (0 : Int))) then
                  none
                else
                  match v894[x907.toNat]? with
                  | some x908 =>
                    bif (decide (x908 = (0 : Int))) then
                      none
                    else
                      let x909 := IntKind.i64.wrap (Int.tdiv x906 x908)
                      let x910 := (IntKind.i64.wrap (v895 - (1 : Int)))
                      bif (decide (x910 < (0 : Int))) then
                        none
                      else
                        match v894[x910.toNat]? with
                        | some x911 =>
                          bif (decide (x911 = (0 : Int))) then
                            none
                          else
                            let x912 := Int.tmod x906 x911
                            impl_natDiv_L6 N N v893 v894 v895 v896 x909 x912 v897 v898
                              (fun x941 x942 x943 x944 x945 x946 x947 =>
                                let x948 := ((x942.length : Nat) : Int)
                                impl_natDiv_L8 N N x941 x942 x943 x944 x945 (0 : Int) x942 x948 (0 : Int) x946 x947
                                  (fun x1004 x1005 x1006 x1007 x1008 x1009 x1010 x1011 =>
                                    let x1012 := IntKind.i64.wrap (x1007 + x1006)
                                    bif (decide (x1012 < (0 : Int))) then
                                      none
                                    else
                                      bif decide (x1012.toNat < x1010.length) then
                                        match x1010[x1012.toNat]? with
                                        | some x1013 =>
                                          let x1014 := IntKind.i64.wrap (x1013 - x1009)
                                          bif (decide (x1012 < (0 : Int))) then
                                            none
                                          else
                                            bif decide (x1012.toNat < x1010.length) then
                                              match x1010[x1012.toNat]? with
                                              | some x1015 =>
                                                let x1016 := x1010.set x1012.toNat x1014
                                                impl_natDiv_J40 N x1004 x1005 x1006 x1007 x1008 x1016 x1011
                                                  (fun x1065 x1066 x1067 x1068 x1069 x1070 x1071 =>
                                                    bif (decide (x1068 < (0 : Int))) then
                                                      none
                                                    else
                                                      bif decide (x1068.toNat < x1071.length) then
                                                        match x1071[x1068.toNat]? with
                                                        | some x1072 =>
                                                          let x1073 := x1071.set x1068.toNat x1069
                                                          let x1074 := (IntKind.i64.wrap (x1068 - (1 : Int)))
                                                          next x1065 x1066 x1067 x1074 x1070 x1073
                                                        | none => none
                                                      else
                                                        none)
                                              | none => none
                                            else
                                              none
                                        | none => none
                                      else
                                        none))
                        | none => none
                  | none => none
              | none => none
            else
              none
        | none => none
      else
        none
  else
    k0 v893 v897 v898
noncomputable def impl_natDiv_L4.b {α : Type} (N n : Nat) (v893 : Int) (v894 : List Int) (v895 : Int) (v896 : Int) (v897 : List Int) (v898 : List Int) (k0 : Int → List Int → List Int → Option α) : Option α :=
  Nat.rec (motive := fun _ => Int → List Int → Int → Int → List Int → List Int → Option α) (fun _ _ _ _ _ _ => none) (fun _ next => impl_natDiv_L4r N next k0) n v893 v894 v895 v896 v897 v898
theorem impl_natDiv_L4.ex : ∃ f : ((α : Type) → Nat → Nat → Int → List Int → Int → Int → List Int → List Int → (Int → List Int → List Int → Option α) → Option α), f = fun α => @impl_natDiv_L4.b α := ⟨_, rfl⟩
noncomputable def impl_natDiv_L4 {α : Type} : Nat → Nat → Int → List Int → Int → Int → List Int → List Int → (Int → List Int → List Int → Option α) → Option α := Classical.choose impl_natDiv_L4.ex α
theorem impl_natDiv_L4.eq : @impl_natDiv_L4 = @impl_natDiv_L4.b := funext fun α => congrFun (Classical.choose_spec impl_natDiv_L4.ex) α
theorem impl_natDiv_L4.zero {α : Type} (N : Nat) (v893 : Int) (v894 : List Int) (v895 : Int) (v896 : Int) (v897 : List Int) (v898 : List Int) (k0 : Int → List Int → List Int → Option α) : impl_natDiv_L4 N 0 v893 v894 v895 v896 v897 v898 k0 = none := by rw [impl_natDiv_L4.eq]; rfl
theorem impl_natDiv_L4.succ {α : Type} (N n : Nat) (v893 : Int) (v894 : List Int) (v895 : Int) (v896 : Int) (v897 : List Int) (v898 : List Int) (k0 : Int → List Int → List Int → Option α) : impl_natDiv_L4 N (n + 1) v893 v894 v895 v896 v897 v898 k0 = impl_natDiv_L4r N (fun y0 y1 y2 y3 y4 y5 => impl_natDiv_L4 N n y0 y1 y2 y3 y4 y5 k0) k0 v893 v894 v895 v896 v897 v898 := by rw [impl_natDiv_L4.eq]; rfl
/-- loop.example/pinfold/impl.natDiv -/
noncomputable def impl_natDiv.b {α : Type} (N : Nat) (a626 : List Int) (a627 : List Int) (k0 : List Int → List Int → Option α) : Option α :=
  impl_natCmp N a626 a627
    (fun x654 =>
      let x655 := (decide (x654 < (0 : Int)))
      bif x655 then
        k0 [] a626
      else
        let x656 := ((a627.length : Nat) : Int)
        let x657 := (decide (x656 = (1 : Int)))
        bif x657 then
          let x658 := ((a626.length : Nat) : Int)
          bif (decide ((0 : Int) ≤ x658)) then
            bif decide (x658 ≤ x658) then
              bif (decide (x658 ≤ ((8796093022208 : Nat) : Int))) then
                let x659 := (List.replicate x658.toNat (0 : Int))
                let x660 := ((a626.length : Nat) : Int)
                let x661 := (IntKind.i64.wrap (x660 - (1 : Int)))
                impl_natDiv_L0 N N a626 a627 (0 : Int) x661 x659
                  (fun x678 x679 =>
                    impl_trim N x679
                      (fun x692 =>
                        let x693 := [x678]
                        impl_trim N x693
                          (fun x694 =>
                            k0 x692 x694)))
              else
                none
            else
              none
          else
            none
        else
          let x695 := ((a627.length : Nat) : Int)
          let x696 := (IntKind.i64.wrap (x695 - (1 : Int)))
          bif (decide (x696 < (0 : Int))) then
            none
          else
            match a627[x696.toNat]? with
            | some x697 =>
              let x698 := IntKind.u64.wrap x697
              math_bits_Len N x698
                (fun x727 =>
                  let x728 := (IntKind.i64.wrap ((16 : Int) - x727))
                  impl_natShift N a627 x728
                    (fun x866 =>
                      impl_natShift N a626 x728
                        (fun x867 =>
                          slices_Clone_int_int N x867
                            (fun x868 =>
                              let x869 := [(0 : Int)]
                              bif decide (x868.length + x869.length ≤ 8796093022208) then
                                let x870 := x868 ++ x869
                                let x871 := ((x866.length : Nat) : Int)
                                impl_natDiv_L2 N N a626 x728 x866 x871 x870
                                  (fun x883 x884 x885 x886 =>
                                    let x887 := ((x886.length : Nat) : Int)
                                    let x888 := IntKind.i64.wrap (x887 - x885)
                                    bif (decide ((0 : Int) ≤ x888)) then
                                      bif decide (x888 ≤ x888) then
                                        bif (decide (x888 ≤ ((8796093022208 : Nat) : Int))) then
                                          let x889 := (List.replicate x888.toNat (0 : Int))
                                          let x890 := ((x886.length : Nat) : Int)
                                          let x891 := IntKind.i64.wrap (x890 - x885)
                                          let x892 := (IntKind.i64.wrap (x891 - (1 : Int)))
                                          impl_natDiv_L4 N N x883 x884 x885 x892 x886 x889
                                            (fun x1075 x1076 x1077 =>
                                              impl_trim N x1077
                                                (fun x1078 =>
                                                  impl_trim N x1076
                                                    (fun x1079 =>
                                                      let x1080 := IntKind.i64.wrap (0 - x1075)
                                                      impl_natShift N x1079 x1080
                                                        (fun x1081 =>
                                                          k0 x1078 x1081))))
                                        else
                                          none
                                      else
                                        none
                                    else
                                      none)
                              else
                                none))))
            | none => none)
theorem impl_natDiv.ex : ∃ f : ((α : Type) → Nat → List Int → List Int → (List Int → List Int → Option α) → Option α), f = fun α => @impl_natDiv.b α := ⟨_, rfl⟩
noncomputable def impl_natDiv {α : Type} : Nat → List Int → List Int → (List Int → List Int → Option α) → Option α := Classical.choose impl_natDiv.ex α
theorem impl_natDiv.eq : @impl_natDiv = @impl_natDiv.b := funext fun α => congrFun (Classical.choose_spec impl_natDiv.ex) α

noncomputable def impl_natGcd_L0r {α : Type} (N : Nat) (next : List Int → List Int → Option α) (k0 : List Int → Option α) (v553 : List Int) (v554 : List Int) : Option α :=
  let x555 := ((v554.length : Nat) : Int)
  let x556 := (decide ((0 : Int) < x555))
  bif x556 then
    impl_natDiv N v553 v554
      (fun _ x1083 =>
        next v554 x1083)
  else
    k0 v553
noncomputable def impl_natGcd_L0.b {α : Type} (N n : Nat) (v553 : List Int) (v554 : List Int) (k0 : List Int → Option α) : Option α :=
  Nat.rec (motive := fun _ => List Int → List Int → Option α) (fun _ _ => none) (fun _ next => impl_natGcd_L0r N next k0) n v553 v554
theorem impl_natGcd_L0.ex : ∃ f : ((α : Type) → Nat → Nat → List Int → List Int → (List Int → Option α) → Option α), f = fun α => @impl_natGcd_L0.b α := ⟨_, rfl⟩
noncomputable def impl_natGcd_L0 {α : Type} : Nat → Nat → List Int → List Int → (List Int → Option α) → Option α := Classical.choose impl_natGcd_L0.ex α
theorem impl_natGcd_L0.eq : @impl_natGcd_L0 = @impl_natGcd_L0.b := funext fun α => congrFun (Classical.choose_spec impl_natGcd_L0.ex) α
theorem impl_natGcd_L0.zero {α : Type} (N : Nat) (v553 : List Int) (v554 : List Int) (k0 : List Int → Option α) : impl_natGcd_L0 N 0 v553 v554 k0 = none := by rw [impl_natGcd_L0.eq]; rfl
theorem impl_natGcd_L0.succ {α : Type} (N n : Nat) (v553 : List Int) (v554 : List Int) (k0 : List Int → Option α) : impl_natGcd_L0 N (n + 1) v553 v554 k0 = impl_natGcd_L0r N (fun y0 y1 => impl_natGcd_L0 N n y0 y1 k0) k0 v553 v554 := by rw [impl_natGcd_L0.eq]; rfl
/-- loop.example/pinfold/impl.natGcd -/
noncomputable def impl_natGcd.b {α : Type} (N : Nat) (a551 : List Int) (a552 : List Int) (k0 : List Int → Option α) : Option α :=
  impl_natGcd_L0 N N a551 a552
    (fun x1084 =>
      k0 x1084)
theorem impl_natGcd.ex : ∃ f : ((α : Type) → Nat → List Int → List Int → (List Int → Option α) → Option α), f = fun α => @impl_natGcd.b α := ⟨_, rfl⟩
noncomputable def impl_natGcd {α : Type} : Nat → List Int → List Int → (List Int → Option α) → Option α := Classical.choose impl_natGcd.ex α
theorem impl_natGcd.eq : @impl_natGcd = @impl_natGcd.b := funext fun α => congrFun (Classical.choose_spec impl_natGcd.ex) α

/-- loop.example/pinfold/impl.FracOk -/
noncomputable def impl_FracOk.b {α : Type} (N : Nat) (a491 : Bool × (List Int) × (List Int) × Unit) (k0 : Bool → Option α) : Option α :=
  let x492 := [a491.2.1, a491.2.2.1]
  impl_nats N x492
    (fun x546 =>
      bif x546 then
        let x547 := ((a491.2.2.1.length : Nat) : Int)
        let x548 := (decide ((0 : Int) < x547))
        bif x548 then
          let x549 := ((a491.2.1.length : Nat) : Int)
          let x550 := (decide ((0 : Int) < x549))
          bif x550 then
            impl_natGcd N a491.2.1 a491.2.2.1
              (fun x1085 =>
                let x1086 := [(1 : Int)]
                impl_natCmp N x1085 x1086
                  (fun x1087 =>
                    let x1088 := (decide (x1087 = (0 : Int)))
                    k0 x1088))
          else
            let x1089 := !a491.1
            bif x1089 then
              impl_natGcd N a491.2.1 a491.2.2.1
                (fun x1090 =>
                  let x1091 := [(1 : Int)]
                  impl_natCmp N x1090 x1091
                    (fun x1092 =>
                      let x1093 := (decide (x1092 = (0 : Int)))
                      k0 x1093))
            else
              k0 false
        else
          k0 false
      else
        k0 false)
theorem impl_FracOk.ex : ∃ f : ((α : Type) → Nat → (Bool × (List Int) × (List Int) × Unit) → (Bool → Option α) → Option α), f = fun α => @impl_FracOk.b α := ⟨_, rfl⟩
noncomputable def impl_FracOk {α : Type} : Nat → (Bool × (List Int) × (List Int) × Unit) → (Bool → Option α) → Option α := Classical.choose impl_FracOk.ex α
theorem impl_FracOk.eq : @impl_FracOk = @impl_FracOk.b := funext fun α => congrFun (Classical.choose_spec impl_FracOk.ex) α

noncomputable def impl_fracs_L0r {α : Type} (N : Nat) (next : List (Bool × (List Int) × (List Int) × Unit) → Int → Int → Option α) (k0 : Bool → Option α) (k1 : Option α) (v486 : List (Bool × (List Int) × (List Int) × Unit)) (v487 : Int) (v488 : Int) : Option α :=
  let x489 := decide (v488 < v487)
  bif x489 then
    bif (decide (v488 < (0 : Int))) then
      none
    else
      match v486[v488.toNat]? with
      | some x490 =>
        impl_FracOk N x490
          (fun x1094 =>
            let x1095 := !x1094
            bif x1095 then
              k0 false
            else
              let x1096 := (IntKind.i64.wrap (v488 + (1 : Int)))
              next v486 v487 x1096)
      | none => none
  else
    k1
noncomputable def impl_fracs_L0.b {α : Type} (N n : Nat) (v486 : List (Bool × (List Int) × (List Int) × Unit)) (v487 : Int) (v488 : Int) (k0 : Bool → Option α) (k1 : Option α) : Option α :=
  Nat.rec (motive := fun _ => List (Bool × (List Int) × (List Int) × Unit) → Int → Int → Option α) (fun _ _ _ => none) (fun _ next => impl_fracs_L0r N next k0 k1) n v486 v487 v488
theorem impl_fracs_L0.ex : ∃ f : ((α : Type) → Nat → Nat → List (Bool × (List Int) × (List Int) × Unit) → Int → Int → (Bool → Option α) → (Option α) → Option α), f = fun α => @impl_fracs_L0.b α := ⟨_, rfl⟩
noncomputable def impl_fracs_L0 {α : Type} : Nat → Nat → List (Bool × (List Int) × (List Int) × Unit) → Int → Int → (Bool → Option α) → (Option α) → Option α := Classical.choose impl_fracs_L0.ex α
theorem impl_fracs_L0.eq : @impl_fracs_L0 = @impl_fracs_L0.b := funext fun α => congrFun (Classical.choose_spec impl_fracs_L0.ex) α
theorem impl_fracs_L0.zero {α : Type} (N : Nat) (v486 : List (Bool × (List Int) × (List Int) × Unit)) (v487 : Int) (v488 : Int) (k0 : Bool → Option α) (k1 : Option α) : impl_fracs_L0 N 0 v486 v487 v488 k0 k1 = none := by rw [impl_fracs_L0.eq]; rfl
theorem impl_fracs_L0.succ {α : Type} (N n : Nat) (v486 : List (Bool × (List Int) × (List Int) × Unit)) (v487 : Int) (v488 : Int) (k0 : Bool → Option α) (k1 : Option α) : impl_fracs_L0 N (n + 1) v486 v487 v488 k0 k1 = impl_fracs_L0r N (fun y0 y1 y2 => impl_fracs_L0 N n y0 y1 y2 k0 k1) k0 k1 v486 v487 v488 := by rw [impl_fracs_L0.eq]; rfl
/-- loop.example/pinfold/impl.fracs -/
noncomputable def impl_fracs.b {α : Type} (N : Nat) (a484 : List (Bool × (List Int) × (List Int) × Unit)) (k0 : Bool → Option α) : Option α :=
  let x485 := ((a484.length : Nat) : Int)
  impl_fracs_L0 N N a484 x485 (0 : Int)
    (fun x1097 =>
      k0 x1097)
    (
      k0 true)
theorem impl_fracs.ex : ∃ f : ((α : Type) → Nat → List (Bool × (List Int) × (List Int) × Unit) → (Bool → Option α) → Option α), f = fun α => @impl_fracs.b α := ⟨_, rfl⟩
noncomputable def impl_fracs {α : Type} : Nat → List (Bool × (List Int) × (List Int) × Unit) → (Bool → Option α) → Option α := Classical.choose impl_fracs.ex α
theorem impl_fracs.eq : @impl_fracs = @impl_fracs.b := funext fun α => congrFun (Classical.choose_spec impl_fracs.ex) α

/-- (loop.example/pinfold/impl.Frac).sign -/
noncomputable def impl_Frac_sign.b {α : Type} (N : Nat) (a1102 : Bool × (List Int) × (List Int) × Unit) (k0 : Int → Option α) : Option α :=
  bif a1102.1 then
    k0 (-1 : Int)
  else
    let x1103 := ((a1102.2.1.length : Nat) : Int)
    let x1104 := (decide (x1103 = (0 : Int)))
    bif x1104 then
      k0 (0 : Int)
    else
      k0 (1 : Int)
theorem impl_Frac_sign.ex : ∃ f : ((α : Type) → Nat → (Bool × (List Int) × (List Int) × Unit) → (Int → Option α) → Option α), f = fun α => @impl_Frac_sign.b α := ⟨_, rfl⟩
noncomputable def impl_Frac_sign {α : Type} : Nat → (Bool × (List Int) × (List Int) × Unit) → (Int → Option α) → Option α := Classical.choose impl_Frac_sign.ex α
theorem impl_Frac_sign.eq : @impl_Frac_sign = @impl_Frac_sign.b := funext fun α => congrFun (Classical.choose_spec impl_Frac_sign.ex) α

noncomputable def impl_natMul_L2r {α : Type} (N : Nat) (next : List Int → Int → Int → Int → List Int → Int → Int → List Int → Int → Int → List Int → Option α) (k0 : List Int → Int → Int → List Int → Int → Int → List Int → Option α) (v1129 : List Int) (v1130 : Int) (v1131 : Int) (v1132 : Int) (v1133 : List Int) (v1134 : Int) (v1135 : Int) (v1136 : List Int) (v1137 : Int) (v1138 : Int) (v1139 : List Int) : Option α :=
  let x1140 := decide (v1138 < v1137)
  bif x1140 then
    bif (decide (v1138 < (0 : Int))) then
      none
    else
      match v1136[v1138.toNat]? with
      | some x1141 =>
        let x1142 := IntKind.i64.wrap (v1130 + v1138)
        bif (decide (x1142 < (0 : Int))) then
          none
        else
          bif decide (x1142.toNat < v1139.length) then
            match v1139[x1142.toNat]? with
            | some x1143 =>
              let x1144 := IntKind.i64.wrap (v1131 * x1141)
              let x1145 := IntKind.i64.wrap (x1143 + x1144)
              let x1146 := IntKind.i64.wrap (x1145 + v1132)
              let x1147 := IntKind.i64.wrap (v1130 + v1138)
              let x1148 := (bitI .and .i64 x1146 (65535 : Int))
              bif (decide (x1147 < (0 : Int))) then
                none
              else
                bif decide (x1147.toNat < v1139.length) then
                  match v1139[x1147.toNat]? with
                  | some x1149 =>
                    let x1150 := v1139.set x1147.toNat x1148
                    let x1151 := (shrI .i64 x1146 (16 : Int))
                    let x1152 := (IntKind.i64.wrap (v1138 + (1 : Int)))
                    next v1129 v1130 v1131 x1151 v1133 v1134 v1135 v1136 v1137 x1152 x1150
                  | none => none
                else
                  none
            | none => none
          else
            none
      | none => none
  else
    k0 v1129 v1130 v1132 v1133 v1134 v1135 v1139
noncomputable def impl_natMul_L2.b {α : Type} (N n : Nat) (v1129 : List Int) (v1130 : Int) (v1131 : Int) (v1132 : Int) (v1133 : List Int) (v1134 : Int) (v1135 : Int) (v1136 : List Int) (v1137 : Int) (v1138 : Int) (v1139 : List Int) (k0 : List Int → Int → Int → List Int → Int → Int → List Int → Option α) : Option α :=
  Nat.rec (motive := fun _ => List Int → Int → Int → Int → List Int → Int → Int → List Int → Int → Int → List Int → Option α) (fun _ _ _ _ _ _ _ _ _ _ _ => none) (fun _ next => impl_natMul_L2r N next k0) n v1129 v1130 v1131 v1132 v1133 v1134 v1135 v1136 v1137 v1138 v1139
theorem impl_natMul_L2.ex : ∃ f : ((α : Type) → Nat → Nat → List Int → Int → Int → Int → List Int → Int → Int → List Int → Int → Int → List Int → (List Int → Int → Int → List Int → Int → Int → List Int → Option α) → Option α), f = fun α => @impl_natMul_L2.b α := ⟨_, rfl⟩
noncomputable def impl_natMul_L2 {α : Type} : Nat → Nat → List Int → Int → Int → Int → List Int → Int → Int → List Int → Int → Int → List Int → (List Int → Int → Int → List Int → Int → Int → List Int → Option α) → Option α := Classical.choose impl_natMul_L2.ex α
theorem impl_natMul_L2.eq : @impl_natMul_L2 = @impl_natMul_L2.b := funext fun α => congrFun (Classical.choose_spec impl_natMul_L2.ex) α
theorem impl_natMul_L2.zero {α : Type} (N : Nat) (v1129 : List Int) (v1130 : Int) (v1131 : Int) (v1132 : Int) (v1133 : List Int) (v1134 : Int) (v1135 : Int) (v1136 : List Int) (v1137 : Int) (v1138 : Int) (v1139 : List Int) (k0 : List Int → Int → Int → List Int → Int → Int → List Int → Option α) : impl_natMul_L2 N 0 v1129 v1130 v1131 v1132 v1133 v1134 v1135 v1136 v1137 v1138 v1139 k0 = none := by rw [impl_natMul_L2.eq]; rfl
theorem impl_natMul_L2.succ {α : Type} (N n : Nat) (v1129 : List Int) (v1130 : Int) (v1131 : Int) (v1132 : Int) (v1133 : List Int) (v1134 : Int) (v1135 : Int) (v1136 : List Int) (v1137 : Int) (v1138 : Int) (v1139 : List Int) (k0 : List Int → Int → Int → List Int → Int → Int → List Int → Option α) : impl_natMul_L2 N (n + 1) v1129 v1130 v1131 v1132 v1133 v1134 v1135 v1136 v1137 v1138 v1139 k0 = impl_natMul_L2r N (fun y0 y1 y2 y3 y4 y5 y6 y7 y8 y9 y10 => impl_natMul_L2 N n y0 y1 y2 y3 y4 y5 y6 y7 y8 y9 y10 k0) k0 v1129 v1130 v1131 v1132 v1133 v1134 v1135 v1136 v1137 v1138 v1139 := by rw [impl_natMul_L2.eq]; rfl
noncomputable def impl_natMul_L0r {α : Type} (N : Nat) (next : List Int → List Int → Int → Int → List Int → Option α) (k0 : List Int → Option α) (v1121 : List Int) (v1122 : List Int) (v1123 : Int) (v1124 : Int) (v1125 : List Int) : Option α :=
  let x1126 := decide (v1124 < v1123)
  bif x1126 then
    bif (decide (v1124 < (0 : Int))) then
      none
    else
      match v1122[v1124.toNat]? with
      | some x1127 =>
        let x1128 := ((v1121.length : Nat) : Int)
        impl_natMul_L2 N N v1121 v1124 x1127 (0 : Int) v1122 v1123 v1124 v1121 x1128 (0 : Int) v1125
          (fun x1153 x1154 x1155 x1156 x1157 x1158 x1159 =>
            let x1160 := ((x1153.length : Nat) : Int)
            let x1161 := IntKind.i64.wrap (x1154 + x1160)
            bif (decide (x1161 < (0 : Int))) then
              none
            else
              bif decide (x1161.toNat < x1159.length) then
                match x1159[x1161.toNat]? with
                | some x1162 =>
                  let x1163 := IntKind.i64.wrap (x1162 + x1155)
                  bif (decide (x1161 < (0 : Int))) then
                    none
                  else
                    bif decide (x1161.toNat < x1159.length) then
                      match x1159[x1161.toNat]? with
                      | some x1164 =>
                        let x1165 := x1159.set x1161.toNat x1163
                        let x1166 := (IntKind.i64.wrap (x1158 + (1 : Int)))
                        next x1153 x1156 x1157 x1166 x1165
                      | none => none
                    else
                      none
                | none => none
              else
                none)
      | none => none
  else
    k0 v1125
noncomputable def impl_natMul_L0.b {α : Type} (N n : Nat) (v1121 : List Int) (v1122 : List Int) (v1123 : Int) (v1124 : Int) (v1125 : List Int) (k0 : List Int → Option α) : Option α :=
  Nat.rec (motive := fun _ => List Int → List Int → Int → Int → List Int → Option α) (fun _ _ _ _ _ => none) (fun _ next => impl_natMul_L0r N next k0) n v1121 v1122 v1123 v1124 v1125
theorem impl_natMul_L0.ex : ∃ f : ((α : Type) → Nat → Nat → List Int → List Int → Int → Int → List Int → (List Int → Option α) → Option α), f = fun α => @impl_natMul_L0.b α := ⟨_, rfl⟩
noncomputable def impl_natMul_L0 {α : Type} : Nat → Nat → List Int → List Int → Int → Int → List Int → (List Int → Option α) → Option α := Classical.choose impl_natMul_L0.ex α
theorem impl_natMul_L0.eq : @impl_natMul_L0 = @impl_natMul_L0.b := funext fun α => congrFun (Classical.choose_spec impl_natMul_L0.ex) α
theorem impl_natMul_L0.zero {α : Type} (N : Nat) (v1121 : List Int) (v1122 : List Int) (v1123 : Int) (v1124 : Int) (v1125 : List Int) (k0 : List Int → Option α) : impl_natMul_L0 N 0 v1121 v1122 v1123 v1124 v1125 k0 = none := by rw [impl_natMul_L0.eq]; rfl
theorem impl_natMul_L0.succ {α : Type} (N n : Nat) (v1121 : List Int) (v1122 : List Int) (v1123 : Int) (v1124 : Int) (v1125 : List Int) (k0 : List Int → Option α) : impl_natMul_L0 N (n + 1) v1121 v1122 v1123 v1124 v1125 k0 = impl_natMul_L0r N (fun y0 y1 y2 y3 y4 => impl_natMul_L0 N n y0 y1 y2 y3 y4 k0) k0 v1121 v1122 v1123 v1124 v1125 := by rw [impl_natMul_L0.eq]; rfl
/-- loop.example/pinfold/impl.natMul -/
noncomputable def impl_natMul.b {α : Type} (N : Nat) (a1113 : List Int) (a1114 : List Int) (k0 : List Int → Option α) : Option α :=
  let x1115 := ((a1113.length : Nat) : Int)
  let x1116 := ((a1114.length : Nat) : Int)
  let x1117 := IntKind.i64.wrap (x1115 + x1116)
  let x1118 := (IntKind.i64.wrap (x1117 + (1 : Int)))
  bif (decide ((0 : Int) ≤ x1118)) then
    bif decide (x1118 ≤ x1118) then
      bif (decide (x1118 ≤ ((8796093022208 : Nat) : Int))) then
        let x1119 := (List.replicate x1118.toNat (0 : Int))
        let x1120 := ((a1113.length : Nat) : Int)
        impl_natMul_L0 N N a1114 a1113 x1120 (0 : Int) x1119
          (fun x1167 =>
            impl_trim N x1167
              (fun x1168 =>
                k0 x1168))
      else
        none
    else
      none
  else
    none
theorem impl_natMul.ex : ∃ f : ((α : Type) → Nat → List Int → List Int → (List Int → Option α) → Option α), f = fun α => @impl_natMul.b α := ⟨_, rfl⟩
noncomputable def impl_natMul {α : Type} : Nat → List Int → List Int → (List Int → Option α) → Option α := Classical.choose impl_natMul.ex α
theorem impl_natMul.eq : @impl_natMul = @impl_natMul.b := funext fun α => congrFun (Classical.choose_spec impl_natMul.ex) α

/-- (loop.example/pinfold/impl.Frac).cmp -/
noncomputable def impl_Frac_cmp.b {α : Type} (N : Nat) (a1100 : Bool × (List Int) × (List Int) × Unit) (a1101 : Bool × (List Int) × (List Int) × Unit) (k0 : Int → Option α) : Option α :=
  impl_Frac_sign N a1100
    (fun x1105 =>
      impl_Frac_sign N a1101
        (fun x1106 =>
          let x1107 := !(decide (x1105 = x1106))
          bif x1107 then
            impl_Frac_sign N a1100
              (fun x1108 =>
                impl_Frac_sign N a1101
                  (fun x1109 =>
                    let x1110 := IntKind.i64.wrap (x1108 - x1109)
                    let x1111 := (minI (1 : Int) x1110)
                    let x1112 := (maxI (-1 : Int) x1111)
                    k0 x1112))
          else
            impl_natMul N a1100.2.1 a1101.2.2.1
              (fun x1169 =>
                impl_natMul N a1101.2.1 a1100.2.2.1
                  (fun x1170 =>
                    impl_natCmp N x1169 x1170
                      (fun x1171 =>
                        bif a1100.1 then
                          let x1172 := IntKind.i64.wrap (0 - x1171)
                          k0 x1172
                        else
                          k0 x1171)))))
theorem impl_Frac_cmp.ex : ∃ f : ((α : Type) → Nat → (Bool × (List Int) × (List Int) × Unit) → (Bool × (List Int) × (List Int) × Unit) → (Int → Option α) → Option α), f = fun α => @impl_Frac_cmp.b α := ⟨_, rfl⟩
noncomputable def impl_Frac_cmp {α : Type} : Nat → (Bool × (List Int) × (List Int) × Unit) → (Bool × (List Int) × (List Int) × Unit) → (Int → Option α) → Option α := Classical.choose impl_Frac_cmp.ex α
theorem impl_Frac_cmp.eq : @impl_Frac_cmp = @impl_Frac_cmp.b := funext fun α => congrFun (Classical.choose_spec impl_Frac_cmp.ex) α

/-- loop.example/pinfold/impl.RelHolds -/
noncomputable def impl_RelHolds.b {α : Type} (N : Nat) (a480 : Int) (a481 : Bool × (List Int) × (List Int) × Unit) (a482 : Bool × (List Int) × (List Int) × Unit) (k0 : Bool → Option α) : Option α :=
  let x483 := [a481, a482]
  impl_fracs N x483
    (fun x1098 =>
      let x1099 := !x1098
      bif x1099 then
        k0 false
      else
        impl_Frac_cmp N a481 a482
          (fun x1173 =>
            let x1174 := (decide (a480 = (1 : Int)))
            bif x1174 then
              let x1175 := (decide (x1173 ≤ (0 : Int)))
              k0 x1175
            else
              let x1176 := (decide (a480 = (2 : Int)))
              bif x1176 then
                let x1177 := (decide ((0 : Int) ≤ x1173))
                k0 x1177
              else
                let x1178 := (decide (a480 = (3 : Int)))
                bif x1178 then
                  let x1179 := (decide (x1173 = (0 : Int)))
                  k0 x1179
                else
                  k0 false))
theorem impl_RelHolds.ex : ∃ f : ((α : Type) → Nat → Int → (Bool × (List Int) × (List Int) × Unit) → (Bool × (List Int) × (List Int) × Unit) → (Bool → Option α) → Option α), f = fun α => @impl_RelHolds.b α := ⟨_, rfl⟩
noncomputable def impl_RelHolds {α : Type} : Nat → Int → (Bool × (List Int) × (List Int) × Unit) → (Bool × (List Int) × (List Int) × Unit) → (Bool → Option α) → Option α := Classical.choose impl_RelHolds.ex α
theorem impl_RelHolds.eq : @impl_RelHolds = @impl_RelHolds.b := funext fun α => congrFun (Classical.choose_spec impl_RelHolds.ex) α

noncomputable def laws_eqIntS_L0r {α : Type} (N : Nat) (next : List Int → List Int → Int → Option α) (k0 : Bool → Option α) (k1 : Option α) (v1193 : List Int) (v1194 : List Int) (v1195 : Int) : Option α :=
  let x1196 := ((v1193.length : Nat) : Int)
  let x1197 := decide (v1195 < x1196)
  bif x1197 then
    bif (decide (v1195 < (0 : Int))) then
      none
    else
      match v1193[v1195.toNat]? with
      | some x1198 =>
        bif (decide (v1195 < (0 : Int))) then
          none
        else
          match v1194[v1195.toNat]? with
          | some x1199 =>
            let x1200 := !(decide (x1198 = x1199))
            bif x1200 then
              k0 false
            else
              let x1201 := (IntKind.i64.wrap (v1195 + (1 : Int)))
              next v1193 v1194 x1201
          | none => none
      | none => none
  else
    k1
noncomputable def laws_eqIntS_L0.b {α : Type} (N n : Nat) (v1193 : List Int) (v1194 : List Int) (v1195 : Int) (k0 : Bool → Option α) (k1 : Option α) : Option α :=
  Nat.rec (motive := fun _ => List Int → List Int → Int → Option α) (fun _ _ _ => none) (fun _ next => laws_eqIntS_L0r N next k0 k1) n v1193 v1194 v1195
theorem laws_eqIntS_L0.ex : ∃ f : ((α : Type) → Nat → Nat → List Int → List Int → Int → (Bool → Option α) → (Option α) → Option α), f = fun α => @laws_eqIntS_L0.b α := ⟨_, rfl⟩
noncomputable def laws_eqIntS_L0 {α : Type} : Nat → Nat → List Int → List Int → Int → (Bool → Option α) → (Option α) → Option α := Classical.choose laws_eqIntS_L0.ex α
theorem laws_eqIntS_L0.eq : @laws_eqIntS_L0 = @laws_eqIntS_L0.b := funext fun α => congrFun (Classical.choose_spec laws_eqIntS_L0.ex) α
theorem laws_eqIntS_L0.zero {α : Type} (N : Nat) (v1193 : List Int) (v1194 : List Int) (v1195 : Int) (k0 : Bool → Option α) (k1 : Option α) : laws_eqIntS_L0 N 0 v1193 v1194 v1195 k0 k1 = none := by rw [laws_eqIntS_L0.eq]; rfl
theorem laws_eqIntS_L0.succ {α : Type} (N n : Nat) (v1193 : List Int) (v1194 : List Int) (v1195 : Int) (k0 : Bool → Option α) (k1 : Option α) : laws_eqIntS_L0 N (n + 1) v1193 v1194 v1195 k0 k1 = laws_eqIntS_L0r N (fun y0 y1 y2 => laws_eqIntS_L0 N n y0 y1 y2 k0 k1) k0 k1 v1193 v1194 v1195 := by rw [laws_eqIntS_L0.eq]; rfl
/-- loop.example/pinfold/laws.eqIntS -/
noncomputable def laws_eqIntS.b {α : Type} (N : Nat) (a1188 : List Int) (a1189 : List Int) (k0 : Bool → Option α) : Option α :=
  let x1190 := ((a1188.length : Nat) : Int)
  let x1191 := ((a1189.length : Nat) : Int)
  let x1192 := !(decide (x1190 = x1191))
  bif x1192 then
    k0 false
  else
    laws_eqIntS_L0 N N a1188 a1189 (0 : Int)
      (fun x1202 =>
        k0 x1202)
      (
        k0 true)
theorem laws_eqIntS.ex : ∃ f : ((α : Type) → Nat → List Int → List Int → (Bool → Option α) → Option α), f = fun α => @laws_eqIntS.b α := ⟨_, rfl⟩
noncomputable def laws_eqIntS {α : Type} : Nat → List Int → List Int → (Bool → Option α) → Option α := Classical.choose laws_eqIntS.ex α
theorem laws_eqIntS.eq : @laws_eqIntS = @laws_eqIntS.b := funext fun α => congrFun (Classical.choose_spec laws_eqIntS.ex) α

/-- loop.example/pinfold/laws.eqFrac -/
noncomputable def laws_eqFrac.b {α : Type} (N : Nat) (a1185 : Bool × (List Int) × (List Int) × Unit) (a1186 : Bool × (List Int) × (List Int) × Unit) (k0 : Bool → Option α) : Option α :=
  let x1187 := !(a1185.1 == a1186.1)
  bif x1187 then
    k0 false
  else
    laws_eqIntS N a1185.2.1 a1186.2.1
      (fun x1203 =>
        let x1204 := !x1203
        bif x1204 then
          k0 false
        else
          laws_eqIntS N a1185.2.2.1 a1186.2.2.1
            (fun x1205 =>
              let x1206 := !x1205
              bif x1206 then
                k0 false
              else
                k0 true))
theorem laws_eqFrac.ex : ∃ f : ((α : Type) → Nat → (Bool × (List Int) × (List Int) × Unit) → (Bool × (List Int) × (List Int) × Unit) → (Bool → Option α) → Option α), f = fun α => @laws_eqFrac.b α := ⟨_, rfl⟩
noncomputable def laws_eqFrac {α : Type} : Nat → (Bool × (List Int) × (List Int) × Unit) → (Bool × (List Int) × (List Int) × Unit) → (Bool → Option α) → Option α := Classical.choose laws_eqFrac.ex α
theorem laws_eqFrac.eq : @laws_eqFrac = @laws_eqFrac.b := funext fun α => congrFun (Classical.choose_spec laws_eqFrac.ex) α

/-- loop.example/pinfold/laws.FnExactRelHolds -/
noncomputable def laws_FnExactRelHolds.b {α : Type} (N : Nat) (a1 : Int) (a2 : Bool × (List Int) × (List Int) × Unit) (a3 : Bool × (List Int) × (List Int) × Unit) (k0 : Bool → Option α) : Option α :=
  laws_szFrac N a2 (1048576 : Int)
    (fun x15 =>
      let x16 := (decide (x15 < (0 : Int)))
      bif x16 then
        k0 true
      else
        laws_szFrac N a3 x15
          (fun x17 =>
            let x18 := (decide (x17 < (0 : Int)))
            bif x18 then
              k0 true
            else
              laws_toFrac N a2
                (fun x35 x36 x37 =>
                  laws_toFrac N a3
                    (fun x38 x39 x40 =>
                      spec_RelHolds N a1 (x35, (x36, (x37, ()))) (x38, (x39, (x40, ())))
                        (fun x473 =>
                          laws_toFrac N a2
                            (fun x474 x475 x476 =>
                              laws_toFrac N a3
                                (fun x477 x478 x479 =>
                                  impl_RelHolds N a1 (x474, (x475, (x476, ()))) (x477, (x478, (x479, ())))
                                    (fun x1180 =>
                                      let x1181 := !(x1180 == x473)
                                      bif x1181 then
                                        k0 false
                                      else
                                        laws_toFrac N a2
                                          (fun x1182 x1183 x1184 =>
                                            laws_eqFrac N (x474, (x475, (x476, ()))) (x1182, (x1183, (x1184, ())))
                                              (fun x1207 =>
                                                let x1208 := !x1207
                                                bif x1208 then
                                                  k0 false
                                                else
                                                  laws_toFrac N a3
                                                    (fun x1209 x1210 x1211 =>
                                                      laws_eqFrac N (x477, (x478, (x479, ()))) (x1209, (x1210, (x1211, ())))
                                                        (fun x1212 =>
                                                          let x1213 := !x1212
                                                          bif x1213 then
                                                            k0 false
                                                          else
                                                            k0 true))))))))))))
theorem laws_FnExactRelHolds.ex : ∃ f : ((α : Type) → Nat → Int → (Bool × (List Int) × (List Int) × Unit) → (Bool × (List Int) × (List Int) × Unit) → (Bool → Option α) → Option α), f = fun α => @laws_FnExactRelHolds.b α := ⟨_, rfl⟩
noncomputable def laws_FnExactRelHolds {α : Type} : Nat → Int → (Bool × (List Int) × (List Int) × Unit) → (Bool × (List Int) × (List Int) × Unit) → (Bool → Option α) → Option α := Classical.choose laws_FnExactRelHolds.ex α
theorem laws_FnExactRelHolds.eq : @laws_FnExactRelHolds = @laws_FnExactRelHolds.b := funext fun α => congrFun (Classical.choose_spec laws_FnExactRelHolds.ex) α

end
end Go.Proofs.YthjjaddhcdekjaaAm
