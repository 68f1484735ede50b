/-
  The functions that the program computes, as the abstract machine tells them. Printed by amp.py.
-/
import Derived.Test.YthjjaddhcdekjaaAmb
namespace Go.Proofs.YthjjaddhcdekjaaAm
open Go
noncomputable section
set_option linter.unusedVariables false
set_option linter.unusedSimpArgs false

noncomputable def laws_toIntS_L0r {α : Type} (N : Nat) (next : List Int → Int → List Int → Option α) (k0 : List Int → Option α) (v11 : List Int) (v12 : Int) (v13 : List Int) : Option α :=
  let x14 := ((v11.length : Nat) : Int)
  let x15 := decide (v12 < x14)
  bif x15 then
    bif (decide (v12 < (0 : Int))) then
      none
    else
      match v11[v12.toNat]? with
      | some x16 =>
        bif (decide (v12 < (0 : Int))) then
          none
        else
          bif decide (v12.toNat < v13.length) then
            match v13[v12.toNat]? with
            | some x17 =>
              let x18 := v13.set v12.toNat x16
              let x19 := (IntKind.i64.wrap (v12 + (1 : Int)))
              next v11 x19 x18
            | none => none
          else
            none
      | none => none
  else
    k0 v13
noncomputable def laws_toIntS_L0.b {α : Type} (N n : Nat) (v11 : List Int) (v12 : Int) (v13 : List Int) (k0 : List Int → Option α) : Option α :=
  Nat.rec (motive := fun _ => List Int → Int → List Int → Option α) (fun _ _ _ => none) (fun _ next => laws_toIntS_L0r N next k0) n v11 v12 v13
theorem laws_toIntS_L0.ex : ∃ f : ((α : Type) → Nat → Nat → List Int → Int → List Int → (List Int → Option α) → Option α), f = fun α => @laws_toIntS_L0.b α := ⟨_, rfl⟩
noncomputable def laws_toIntS_L0 {α : Type} : Nat → Nat → List Int → Int → List Int → (List Int → Option α) → Option α := Classical.choose laws_toIntS_L0.ex α
theorem laws_toIntS_L0.eq : @laws_toIntS_L0 = @laws_toIntS_L0.b := funext fun α => congrFun (Classical.choose_spec laws_toIntS_L0.ex) α
theorem laws_toIntS_L0.zero {α : Type} (N : Nat) (v11 : List Int) (v12 : Int) (v13 : List Int) (k0 : List Int → Option α) : laws_toIntS_L0 N 0 v11 v12 v13 k0 = none := by rw [laws_toIntS_L0.eq]; rfl
theorem laws_toIntS_L0.succ {α : Type} (N n : Nat) (v11 : List Int) (v12 : Int) (v13 : List Int) (k0 : List Int → Option α) : laws_toIntS_L0 N (n + 1) v11 v12 v13 k0 = laws_toIntS_L0r N (fun y0 y1 y2 => laws_toIntS_L0 N n y0 y1 y2 k0) k0 v11 v12 v13 := by rw [laws_toIntS_L0.eq]; rfl
/-- loop.example/pinfold/laws.toIntS -/
noncomputable def laws_toIntS.b {α : Type} (N : Nat) (a8 : List Int) (k0 : List Int → Option α) : Option α :=
  let x9 := ((a8.length : Nat) : Int)
  bif (decide ((0 : Int) ≤ x9)) then
    bif decide (x9 ≤ x9) then
      bif (decide (x9 ≤ ((8796093022208 : Nat) : Int))) then
        let x10 := (List.replicate x9.toNat (0 : Int))
        laws_toIntS_L0 N N a8 (0 : Int) x10
          (fun x20 =>
            k0 x20)
      else
        none
    else
      none
  else
    none
theorem laws_toIntS.ex : ∃ f : ((α : Type) → Nat → List Int → (List Int → Option α) → Option α), f = fun α => @laws_toIntS.b α := ⟨_, rfl⟩
noncomputable def laws_toIntS {α : Type} : Nat → List Int → (List Int → Option α) → Option α := Classical.choose laws_toIntS.ex α
theorem laws_toIntS.eq : @laws_toIntS = @laws_toIntS.b := funext fun α => congrFun (Classical.choose_spec laws_toIntS.ex) α

noncomputable def spec_NatOk_L0r {α : Type} (N : Nat) (next : List Int → Int → Option α) (k0 : Bool → Option α) (k1 : List Int → Option α) (v29 : List Int) (v30 : Int) : Option α :=
  let x31 := ((v29.length : Nat) : Int)
  let x32 := decide (v30 < x31)
  bif x32 then
    bif (decide (v30 < (0 : Int))) then
      none
    else
      match v29[v30.toNat]? with
      | some x33 =>
        let x34 := (decide (x33 < (0 : Int)))
        bif x34 then
          k0 false
        else
          bif (decide (v30 < (0 : Int))) then
            none
          else
            match v29[v30.toNat]? with
            | some x35 =>
              let x36 := (decide ((65536 : Int) ≤ x35))
              bif x36 then
                k0 false
              else
                let x37 := (IntKind.i64.wrap (v30 + (1 : Int)))
                next v29 x37
            | none => none
      | none => none
  else
    k1 v29
noncomputable def spec_NatOk_L0.b {α : Type} (N n : Nat) (v29 : List Int) (v30 : Int) (k0 : Bool → Option α) (k1 : List Int → Option α) : Option α :=
  Nat.rec (motive := fun _ => List Int → Int → Option α) (fun _ _ => none) (fun _ next => spec_NatOk_L0r N next k0 k1) n v29 v30
theorem spec_NatOk_L0.ex : ∃ f : ((α : Type) → Nat → Nat → List Int → Int → (Bool → Option α) → (List Int → Option α) → Option α), f = fun α => @spec_NatOk_L0.b α := ⟨_, rfl⟩
noncomputable def spec_NatOk_L0 {α : Type} : Nat → Nat → List Int → Int → (Bool → Option α) → (List Int → Option α) → Option α := Classical.choose spec_NatOk_L0.ex α
theorem spec_NatOk_L0.eq : @spec_NatOk_L0 = @spec_NatOk_L0.b := funext fun α => congrFun (Classical.choose_spec spec_NatOk_L0.ex) α
theorem spec_NatOk_L0.zero {α : Type} (N : Nat) (v29 : List Int) (v30 : Int) (k0 : Bool → Option α) (k1 : List Int → Option α) : spec_NatOk_L0 N 0 v29 v30 k0 k1 = none := by rw [spec_NatOk_L0.eq]; rfl
theorem spec_NatOk_L0.succ {α : Type} (N n : Nat) (v29 : List Int) (v30 : Int) (k0 : Bool → Option α) (k1 : List Int → Option α) : spec_NatOk_L0 N (n + 1) v29 v30 k0 k1 = spec_NatOk_L0r N (fun y0 y1 => spec_NatOk_L0 N n y0 y1 k0 k1) k0 k1 v29 v30 := by rw [spec_NatOk_L0.eq]; rfl
/-- loop.example/pinfold/spec.NatOk -/
noncomputable def spec_NatOk.b {α : Type} (N : Nat) (a26 : List Int) (k0 : Bool → Option α) : Option α :=
  let x27 := ((a26.length : Nat) : Int)
  let x28 := (decide ((256 : Int) < x27))
  bif x28 then
    k0 false
  else
    spec_NatOk_L0 N N a26 (0 : Int)
      (fun x38 =>
        k0 x38)
      (fun x39 =>
        let x40 := ((x39.length : Nat) : Int)
        let x41 := (decide (x40 = (0 : Int)))
        bif x41 then
          k0 true
        else
          let x42 := ((x39.length : Nat) : Int)
          let x43 := (IntKind.i64.wrap (x42 - (1 : Int)))
          bif (decide (x43 < (0 : Int))) then
            none
          else
            match x39[x43.toNat]? with
            | some x44 =>
              let x45 := (!(decide (x44 = (0 : Int))))
              k0 x45
            | none => none)
theorem spec_NatOk.ex : ∃ f : ((α : Type) → Nat → List Int → (Bool → Option α) → Option α), f = fun α => @spec_NatOk.b α := ⟨_, rfl⟩
noncomputable def spec_NatOk {α : Type} : Nat → List Int → (Bool → Option α) → Option α := Classical.choose spec_NatOk.ex α
theorem spec_NatOk.eq : @spec_NatOk = @spec_NatOk.b := funext fun α => congrFun (Classical.choose_spec spec_NatOk.ex) α

noncomputable def spec_l5Trim_L0r {α : Type} (N : Nat) (next : List Int → Int → Option α) (k0 : List Int → Int → Option α) (v62 : List Int) (v63 : Int) : Option α :=
  let x64 := (decide ((0 : Int) < v63))
  bif x64 then
    let x65 := (IntKind.i64.wrap (v63 - (1 : Int)))
    bif (decide (x65 < (0 : Int))) then
      none
    else
      match v62[x65.toNat]? with
      | some x66 =>
        let x67 := (decide (x66 = (0 : Int)))
        bif x67 then
          let x68 := (IntKind.i64.wrap (v63 - (1 : Int)))
          next v62 x68
        else
          k0 v62 v63
      | none => none
  else
    k0 v62 v63
noncomputable def spec_l5Trim_L0.b {α : Type} (N n : Nat) (v62 : List Int) (v63 : Int) (k0 : List Int → Int → Option α) : Option α :=
  Nat.rec (motive := fun _ => List Int → Int → Option α) (fun _ _ => none) (fun _ next => spec_l5Trim_L0r N next k0) n v62 v63
theorem spec_l5Trim_L0.ex : ∃ f : ((α : Type) → Nat → Nat → List Int → Int → (List Int → Int → Option α) → Option α), f = fun α => @spec_l5Trim_L0.b α := ⟨_, rfl⟩
noncomputable def spec_l5Trim_L0 {α : Type} : Nat → Nat → List Int → Int → (List Int → Int → Option α) → Option α := Classical.choose spec_l5Trim_L0.ex α
theorem spec_l5Trim_L0.eq : @spec_l5Trim_L0 = @spec_l5Trim_L0.b := funext fun α => congrFun (Classical.choose_spec spec_l5Trim_L0.ex) α
theorem spec_l5Trim_L0.zero {α : Type} (N : Nat) (v62 : List Int) (v63 : Int) (k0 : List Int → Int → Option α) : spec_l5Trim_L0 N 0 v62 v63 k0 = none := by rw [spec_l5Trim_L0.eq]; rfl
theorem spec_l5Trim_L0.succ {α : Type} (N n : Nat) (v62 : List Int) (v63 : Int) (k0 : List Int → Int → Option α) : spec_l5Trim_L0 N (n + 1) v62 v63 k0 = spec_l5Trim_L0r N (fun y0 y1 => spec_l5Trim_L0 N n y0 y1 k0) k0 v62 v63 := by rw [spec_l5Trim_L0.eq]; rfl
noncomputable def spec_l5Trim_L2r {α : Type} (N : Nat) (next : List Int → Int → Int → List Int → Option α) (k0 : List Int → Option α) (v71 : List Int) (v72 : Int) (v73 : Int) (v74 : List Int) : Option α :=
  let x75 := decide (v73 < v72)
  bif x75 then
    bif (decide (v73 < (0 : Int))) then
      none
    else
      match v71[v73.toNat]? with
      | some x76 =>
        let x77 := [x76]
        bif decide (v74.length + x77.length ≤ 8796093022208) then
          let x78 := v74 ++ x77
          let x79 := (IntKind.i64.wrap (v73 + (1 : Int)))
          next v71 v72 x79 x78
        else
          none
      | none => none
  else
    k0 v74
noncomputable def spec_l5Trim_L2.b {α : Type} (N n : Nat) (v71 : List Int) (v72 : Int) (v73 : Int) (v74 : List Int) (k0 : List Int → Option α) : Option α :=
  Nat.rec (motive := fun _ => List Int → Int → Int → List Int → Option α) (fun _ _ _ _ => none) (fun _ next => spec_l5Trim_L2r N next k0) n v71 v72 v73 v74
theorem spec_l5Trim_L2.ex : ∃ f : ((α : Type) → Nat → Nat → List Int → Int → Int → List Int → (List Int → Option α) → Option α), f = fun α => @spec_l5Trim_L2.b α := ⟨_, rfl⟩
noncomputable def spec_l5Trim_L2 {α : Type} : Nat → Nat → List Int → Int → Int → List Int → (List Int → Option α) → Option α := Classical.choose spec_l5Trim_L2.ex α
theorem spec_l5Trim_L2.eq : @spec_l5Trim_L2 = @spec_l5Trim_L2.b := funext fun α => congrFun (Classical.choose_spec spec_l5Trim_L2.ex) α
theorem spec_l5Trim_L2.zero {α : Type} (N : Nat) (v71 : List Int) (v72 : Int) (v73 : Int) (v74 : List Int) (k0 : List Int → Option α) : spec_l5Trim_L2 N 0 v71 v72 v73 v74 k0 = none := by rw [spec_l5Trim_L2.eq]; rfl
theorem spec_l5Trim_L2.succ {α : Type} (N n : Nat) (v71 : List Int) (v72 : Int) (v73 : Int) (v74 : List Int) (k0 : List Int → Option α) : spec_l5Trim_L2 N (n + 1) v71 v72 v73 v74 k0 = spec_l5Trim_L2r N (fun y0 y1 y2 y3 => spec_l5Trim_L2 N n y0 y1 y2 y3 k0) k0 v71 v72 v73 v74 := by rw [spec_l5Trim_L2.eq]; rfl
/-- loop.example/pinfold/spec.l5Trim -/
noncomputable def spec_l5Trim.b {α : Type} (N : Nat) (a60 : List Int) (k0 : List Int → Option α) : Option α :=
  let x61 := ((a60.length : Nat) : Int)
  spec_l5Trim_L0 N N a60 x61
    (fun x69 x70 =>
      spec_l5Trim_L2 N N x69 x70 (0 : Int) []
        (fun x80 =>
          k0 x80))
theorem spec_l5Trim.ex : ∃ f : ((α : Type) → Nat → List Int → (List Int → Option α) → Option α), f = fun α => @spec_l5Trim.b α := ⟨_, rfl⟩
noncomputable def spec_l5Trim {α : Type} : Nat → List Int → (List Int → Option α) → Option α := Classical.choose spec_l5Trim.ex α
theorem spec_l5Trim.eq : @spec_l5Trim = @spec_l5Trim.b := funext fun α => congrFun (Classical.choose_spec spec_l5Trim.ex) α

noncomputable def spec_l5Cmp_L0r {α : Type} (N : Nat) (next : List Int → List Int → Int → Option α) (k0 : Int → Option α) (k1 : Option α) (v99 : List Int) (v100 : List Int) (v101 : Int) : Option α :=
  let x102 := (decide ((0 : Int) ≤ v101))
  bif x102 then
    bif (decide (v101 < (0 : Int))) then
      none
    else
      match v99[v101.toNat]? with
      | some x103 =>
        bif (decide (v101 < (0 : Int))) then
          none
        else
          match v100[v101.toNat]? with
          | some x104 =>
            let x105 := decide (x103 < x104)
            bif x105 then
              k0 (-1 : Int)
            else
              bif (decide (v101 < (0 : Int))) then
                none
              else
                match v99[v101.toNat]? with
                | some x106 =>
                  bif (decide (v101 < (0 : Int))) then
                    none
                  else
                    match v100[v101.toNat]? with
                    | some x107 =>
                      let x108 := decide (x107 < x106)
                      bif x108 then
                        k0 (1 : Int)
                      else
                        let x109 := (IntKind.i64.wrap (v101 - (1 : Int)))
                        next v99 v100 x109
                    | none => none
                | none => none
          | none => none
      | none => none
  else
    k1
noncomputable def spec_l5Cmp_L0.b {α : Type} (N n : Nat) (v99 : List Int) (v100 : List Int) (v101 : Int) (k0 : Int → Option α) (k1 : Option α) : Option α :=
  Nat.rec (motive := fun _ => List Int → List Int → Int → Option α) (fun _ _ _ => none) (fun _ next => spec_l5Cmp_L0r N next k0 k1) n v99 v100 v101
theorem spec_l5Cmp_L0.ex : ∃ f : ((α : Type) → Nat → Nat → List Int → List Int → Int → (Int → Option α) → (Option α) → Option α), f = fun α => @spec_l5Cmp_L0.b α := ⟨_, rfl⟩
noncomputable def spec_l5Cmp_L0 {α : Type} : Nat → Nat → List Int → List Int → Int → (Int → Option α) → (Option α) → Option α := Classical.choose spec_l5Cmp_L0.ex α
theorem spec_l5Cmp_L0.eq : @spec_l5Cmp_L0 = @spec_l5Cmp_L0.b := funext fun α => congrFun (Classical.choose_spec spec_l5Cmp_L0.ex) α
theorem spec_l5Cmp_L0.zero {α : Type} (N : Nat) (v99 : List Int) (v100 : List Int) (v101 : Int) (k0 : Int → Option α) (k1 : Option α) : spec_l5Cmp_L0 N 0 v99 v100 v101 k0 k1 = none := by rw [spec_l5Cmp_L0.eq]; rfl
theorem spec_l5Cmp_L0.succ {α : Type} (N n : Nat) (v99 : List Int) (v100 : List Int) (v101 : Int) (k0 : Int → Option α) (k1 : Option α) : spec_l5Cmp_L0 N (n + 1) v99 v100 v101 k0 k1 = spec_l5Cmp_L0r N (fun y0 y1 y2 => spec_l5Cmp_L0 N n y0 y1 y2 k0 k1) k0 k1 v99 v100 v101 := by rw [spec_l5Cmp_L0.eq]; rfl
/-- loop.example/pinfold/spec.l5Cmp -/
noncomputable def spec_l5Cmp.b {α : Type} (N : Nat) (a89 : List Int) (a90 : List Int) (k0 : Int → Option α) : Option α :=
  let x91 := ((a89.length : Nat) : Int)
  let x92 := ((a90.length : Nat) : Int)
  let x93 := decide (x91 < x92)
  bif x93 then
    k0 (-1 : Int)
  else
    let x94 := ((a89.length : Nat) : Int)
    let x95 := ((a90.length : Nat) : Int)
    let x96 := decide (x95 < x94)
    bif x96 then
      k0 (1 : Int)
    else
      let x97 := ((a89.length : Nat) : Int)
      let x98 := (IntKind.i64.wrap (x97 - (1 : Int)))
      spec_l5Cmp_L0 N N a89 a90 x98
        (fun x110 =>
          k0 x110)
        (
          k0 (0 : Int))
theorem spec_l5Cmp.ex : ∃ f : ((α : Type) → Nat → List Int → List Int → (Int → Option α) → Option α), f = fun α => @spec_l5Cmp.b α := ⟨_, rfl⟩
noncomputable def spec_l5Cmp {α : Type} : Nat → List Int → List Int → (Int → Option α) → Option α := Classical.choose spec_l5Cmp.ex α
theorem spec_l5Cmp.eq : @spec_l5Cmp = @spec_l5Cmp.b := funext fun α => congrFun (Classical.choose_spec spec_l5Cmp.ex) α

noncomputable def spec_l5DivSmall_L0r {α : Type} (N : Nat) (next : List Int → Int → Int → Int → List Int → Option α) (k0 : Int → List Int → Option α) (v123 : List Int) (v124 : Int) (v125 : Int) (v126 : Int) (v127 : List Int) : Option α :=
  let x128 := (decide ((0 : Int) ≤ v126))
  bif x128 then
    let x129 := (IntKind.i64.wrap (v125 * (65536 : Int)))
    bif (decide (v126 < (0 : Int))) then
      none
    else
      match v123[v126.toNat]? with
      | some x130 =>
        let x131 := IntKind.i64.wrap (x129 + x130)
        bif (decide (v124 = (0 : Int))) then
          none
        else
          let x132 := IntKind.i64.wrap (Int.tdiv x131 v124)
          bif (decide (v126 < (0 : Int))) then
            none
          else
            bif decide (v126.toNat < v127.length) then
              match v127[v126.toNat]? with
              | some x133 =>
                let x134 := v127.set v126.toNat x132
                bif (decide (v124 = (0 : Int))) then
                  none
                else
                  let x135 := Int.tmod x131 v124
                  let x136 := (IntKind.i64.wrap (v126 - (1 : Int)))
                  next v123 v124 x135 x136 x134
              | none => none
            else
              none
      | none => none
  else
    k0 v125 v127
noncomputable def spec_l5DivSmall_L0.b {α : Type} (N n : Nat) (v123 : List Int) (v124 : Int) (v125 : Int) (v126 : Int) (v127 : List Int) (k0 : Int → List Int → Option α) : Option α :=
  Nat.rec (motive := fun _ => List Int → Int → Int → Int → List Int → Option α) (fun _ _ _ _ _ => none) (fun _ next => spec_l5DivSmall_L0r N next k0) n v123 v124 v125 v126 v127
theorem spec_l5DivSmall_L0.ex : ∃ f : ((α : Type) → Nat → Nat → List Int → Int → Int → Int → List Int → (Int → List Int → Option α) → Option α), f = fun α => @spec_l5DivSmall_L0.b α := ⟨_, rfl⟩
noncomputable def spec_l5DivSmall_L0 {α : Type} : Nat → Nat → List Int → Int → Int → Int → List Int → (Int → List Int → Option α) → Option α := Classical.choose spec_l5DivSmall_L0.ex α
theorem spec_l5DivSmall_L0.eq : @spec_l5DivSmall_L0 = @spec_l5DivSmall_L0.b := funext fun α => congrFun (Classical.choose_spec spec_l5DivSmall_L0.ex) α
theorem spec_l5DivSmall_L0.zero {α : Type} (N : Nat) (v123 : List Int) (v124 : Int) (v125 : Int) (v126 : Int) (v127 : List Int) (k0 : Int → List Int → Option α) : spec_l5DivSmall_L0 N 0 v123 v124 v125 v126 v127 k0 = none := by rw [spec_l5DivSmall_L0.eq]; rfl
theorem spec_l5DivSmall_L0.succ {α : Type} (N n : Nat) (v123 : List Int) (v124 : Int) (v125 : Int) (v126 : Int) (v127 : List Int) (k0 : Int → List Int → Option α) : spec_l5DivSmall_L0 N (n + 1) v123 v124 v125 v126 v127 k0 = spec_l5DivSmall_L0r N (fun y0 y1 y2 y3 y4 => spec_l5DivSmall_L0 N n y0 y1 y2 y3 y4 k0) k0 v123 v124 v125 v126 v127 := by rw [spec_l5DivSmall_L0.eq]; rfl
/-- loop.example/pinfold/spec.l5DivSmall -/
noncomputable def spec_l5DivSmall.b {α : Type} (N : Nat) (a117 : List Int) (a118 : Int) (k0 : Int → List Int → Option α) : Option α :=
  let x119 := ((a117.length : Nat) : Int)
  bif (decide ((0 : Int) ≤ x119)) then
    bif decide (x119 ≤ x119) then
      bif (decide (x119 ≤ ((8796093022208 : Nat) : Int))) then
        let x120 := (List.replicate x119.toNat (0 : Int))
        let x121 := ((a117.length : Nat) : Int)
        let x122 := (IntKind.i64.wrap (x121 - (1 : Int)))
        spec_l5DivSmall_L0 N N a117 a118 (0 : Int) x122 x120
          (fun x137 x138 =>
            spec_l5Trim N x138
              (fun x139 =>
                k0 x137 x139))
      else
        none
    else
      none
  else
    none
theorem spec_l5DivSmall.ex : ∃ f : ((α : Type) → Nat → List Int → Int → (Int → List Int → Option α) → Option α), f = fun α => @spec_l5DivSmall.b α := ⟨_, rfl⟩
noncomputable def spec_l5DivSmall {α : Type} : Nat → List Int → Int → (Int → List Int → Option α) → Option α := Classical.choose spec_l5DivSmall.ex α
theorem spec_l5DivSmall.eq : @spec_l5DivSmall = @spec_l5DivSmall.b := funext fun α => congrFun (Classical.choose_spec spec_l5DivSmall.ex) α

noncomputable def spec_NatOf_L0r {α : Type} (N : Nat) (next : Int → List Int → Option α) (k0 : List Int → Option α) (v144 : Int) (v145 : List Int) : Option α :=
  let x146 := (decide ((0 : Int) < v144))
  bif x146 then
    let x147 := (Int.tmod v144 (65536 : Int))
    let x148 := IntKind.i64.wrap x147
    let x149 := [x148]
    bif decide (v145.length + x149.length ≤ 8796093022208) then
      let x150 := v145 ++ x149
      let x151 := (IntKind.u64.wrap (Int.tdiv v144 (65536 : Int)))
      next x151 x150
    else
      none
  else
    k0 v145
noncomputable def spec_NatOf_L0.b {α : Type} (N n : Nat) (v144 : Int) (v145 : List Int) (k0 : List Int → Option α) : Option α :=
  Nat.rec (motive := fun _ => Int → List Int → Option α) (fun _ _ => none) (fun _ next => spec_NatOf_L0r N next k0) n v144 v145
theorem spec_NatOf_L0.ex : ∃ f : ((α : Type) → Nat → Nat → Int → List Int → (List Int → Option α) → Option α), f = fun α => @spec_NatOf_L0.b α := ⟨_, rfl⟩
noncomputable def spec_NatOf_L0 {α : Type} : Nat → Nat → Int → List Int → (List Int → Option α) → Option α := Classical.choose spec_NatOf_L0.ex α
theorem spec_NatOf_L0.eq : @spec_NatOf_L0 = @spec_NatOf_L0.b := funext fun α => congrFun (Classical.choose_spec spec_NatOf_L0.ex) α
theorem spec_NatOf_L0.zero {α : Type} (N : Nat) (v144 : Int) (v145 : List Int) (k0 : List Int → Option α) : spec_NatOf_L0 N 0 v144 v145 k0 = none := by rw [spec_NatOf_L0.eq]; rfl
theorem spec_NatOf_L0.succ {α : Type} (N n : Nat) (v144 : Int) (v145 : List Int) (k0 : List Int → Option α) : spec_NatOf_L0 N (n + 1) v144 v145 k0 = spec_NatOf_L0r N (fun y0 y1 => spec_NatOf_L0 N n y0 y1 k0) k0 v144 v145 := by rw [spec_NatOf_L0.eq]; rfl
/-- loop.example/pinfold/spec.NatOf -/
noncomputable def spec_NatOf.b {α : Type} (N : Nat) (a143 : Int) (k0 : List Int → Option α) : Option α :=
  spec_NatOf_L0 N N a143 []
    (fun x152 =>
      k0 x152)
theorem spec_NatOf.ex : ∃ f : ((α : Type) → Nat → Int → (List Int → Option α) → Option α), f = fun α => @spec_NatOf.b α := ⟨_, rfl⟩
noncomputable def spec_NatOf {α : Type} : Nat → Int → (List Int → Option α) → Option α := Classical.choose spec_NatOf.ex α
theorem spec_NatOf.eq : @spec_NatOf = @spec_NatOf.b := funext fun α => congrFun (Classical.choose_spec spec_NatOf.ex) α

noncomputable def spec_l5Mul_L2r {α : Type} (N : Nat) (next : List Int → List Int → Int → Int → Int → List Int → Option α) (k0 : List Int → List Int → Int → Int → List Int → Option α) (v175 : List Int) (v176 : List Int) (v177 : Int) (v178 : Int) (v179 : Int) (v180 : List Int) : Option α :=
  let x181 := ((v176.length : Nat) : Int)
  let x182 := decide (v179 < x181)
  bif x182 then
    let x183 := IntKind.i64.wrap (v177 + v179)
    bif (decide (x183 < (0 : Int))) then
      none
    else
      bif decide (x183.toNat < v180.length) then
        match v180[x183.toNat]? with
        | some x184 =>
          bif (decide (v177 < (0 : Int))) then
            none
          else
            match v175[v177.toNat]? with
            | some x185 =>
              bif (decide (v179 < (0 : Int))) then
                none
              else
                match v176[v179.toNat]? with
                | some x186 =>
                  let x187 := IntKind.i64.wrap (x185 * x186)
                  let x188 := IntKind.i64.wrap (x184 + x187)
                  let x189 := IntKind.i64.wrap (x188 + v178)
                  let x190 := IntKind.i64.wrap (v177 + v179)
                  let x191 := (Int.tmod x189 (65536 : Int))
                  bif (decide (x190 < (0 : Int))) then
                    none
                  else
                    bif decide (x190.toNat < v180.length) then
                      match v180[x190.toNat]? with
                      | some x192 =>
                        let x193 := v180.set x190.toNat x191
                        let x194 := (IntKind.i64.wrap (Int.tdiv x189 (65536 : Int)))
                        let x195 := (IntKind.i64.wrap (v179 + (1 : Int)))
                        next v175 v176 v177 x194 x195 x193
                      | none => none
                    else
                      none
                | none => none
            | none => none
        | none => none
      else
        none
  else
    k0 v175 v176 v177 v178 v180
noncomputable def spec_l5Mul_L2.b {α : Type} (N n : Nat) (v175 : List Int) (v176 : List Int) (v177 : Int) (v178 : Int) (v179 : Int) (v180 : List Int) (k0 : List Int → List Int → Int → Int → List Int → Option α) : Option α :=
  Nat.rec (motive := fun _ => List Int → List Int → Int → Int → Int → List Int → Option α) (fun _ _ _ _ _ _ => none) (fun _ next => spec_l5Mul_L2r N next k0) n v175 v176 v177 v178 v179 v180
theorem spec_l5Mul_L2.ex : ∃ f : ((α : Type) → Nat → Nat → List Int → List Int → Int → Int → Int → List Int → (List Int → List Int → Int → Int → List Int → Option α) → Option α), f = fun α => @spec_l5Mul_L2.b α := ⟨_, rfl⟩
noncomputable def spec_l5Mul_L2 {α : Type} : Nat → Nat → List Int → List Int → Int → Int → Int → List Int → (List Int → List Int → Int → Int → List Int → Option α) → Option α := Classical.choose spec_l5Mul_L2.ex α
theorem spec_l5Mul_L2.eq : @spec_l5Mul_L2 = @spec_l5Mul_L2.b := funext fun α => congrFun (Classical.choose_spec spec_l5Mul_L2.ex) α
theorem spec_l5Mul_L2.zero {α : Type} (N : Nat) (v175 : List Int) (v176 : List Int) (v177 : Int) (v178 : Int) (v179 : Int) (v180 : List Int) (k0 : List Int → List Int → Int → Int → List Int → Option α) : spec_l5Mul_L2 N 0 v175 v176 v177 v178 v179 v180 k0 = none := by rw [spec_l5Mul_L2.eq]; rfl
theorem spec_l5Mul_L2.succ {α : Type} (N n : Nat) (v175 : List Int) (v176 : List Int) (v177 : Int) (v178 : Int) (v179 : Int) (v180 : List Int) (k0 : List Int → List Int → Int → Int → List Int → Option α) : spec_l5Mul_L2 N (n + 1) v175 v176 v177 v178 v179 v180 k0 = spec_l5Mul_L2r N (fun y0 y1 y2 y3 y4 y5 => spec_l5Mul_L2 N n y0 y1 y2 y3 y4 y5 k0) k0 v175 v176 v177 v178 v179 v180 := by rw [spec_l5Mul_L2.eq]; rfl
noncomputable def spec_l5Mul_L0r {α : Type} (N : Nat) (next : List Int → List Int → Int → List Int → Option α) (k0 : List Int → Option α) (v169 : List Int) (v170 : List Int) (v171 : Int) (v172 : List Int) : Option α :=
  let x173 := ((v169.length : Nat) : Int)
  let x174 := decide (v171 < x173)
  bif x174 then
    spec_l5Mul_L2 N N v169 v170 v171 (0 : Int) (0 : Int) v172
      (fun x196 x197 x198 x199 x200 =>
        let x201 := ((x197.length : Nat) : Int)
        let x202 := IntKind.i64.wrap (x198 + x201)
        bif (decide (x202 < (0 : Int))) then
          none
        else
          bif decide (x202.toNat < x200.length) then
            match x200[x202.toNat]? with
            | some x203 =>
              let x204 := x200.set x202.toNat x199
              let x205 := (IntKind.i64.wrap (x198 + (1 : Int)))
              next x196 x197 x205 x204
            | none => none
          else
            none)
  else
    k0 v172
noncomputable def spec_l5Mul_L0.b {α : Type} (N n : Nat) (v169 : List Int) (v170 : List Int) (v171 : Int) (v172 : List Int) (k0 : List Int → Option α) : Option α :=
  Nat.rec (motive := fun _ => List Int → List Int → Int → List Int → Option α) (fun _ _ _ _ => none) (fun _ next => spec_l5Mul_L0r N next k0) n v169 v170 v171 v172
theorem spec_l5Mul_L0.ex : ∃ f : ((α : Type) → Nat → Nat → List Int → List Int → Int → List Int → (List Int → Option α) → Option α), f = fun α => @spec_l5Mul_L0.b α := ⟨_, rfl⟩
noncomputable def spec_l5Mul_L0 {α : Type} : Nat → Nat → List Int → List Int → Int → List Int → (List Int → Option α) → Option α := Classical.choose spec_l5Mul_L0.ex α
theorem spec_l5Mul_L0.eq : @spec_l5Mul_L0 = @spec_l5Mul_L0.b := funext fun α => congrFun (Classical.choose_spec spec_l5Mul_L0.ex) α
theorem spec_l5Mul_L0.zero {α : Type} (N : Nat) (v169 : List Int) (v170 : List Int) (v171 : Int) (v172 : List Int) (k0 : List Int → Option α) : spec_l5Mul_L0 N 0 v169 v170 v171 v172 k0 = none := by rw [spec_l5Mul_L0.eq]; rfl
theorem spec_l5Mul_L0.succ {α : Type} (N n : Nat) (v169 : List Int) (v170 : List Int) (v171 : Int) (v172 : List Int) (k0 : List Int → Option α) : spec_l5Mul_L0 N (n + 1) v169 v170 v171 v172 k0 = spec_l5Mul_L0r N (fun y0 y1 y2 y3 => spec_l5Mul_L0 N n y0 y1 y2 y3 k0) k0 v169 v170 v171 v172 := by rw [spec_l5Mul_L0.eq]; rfl
/-- loop.example/pinfold/spec.l5Mul -/
noncomputable def spec_l5Mul.b {α : Type} (N : Nat) (a163 : List Int) (a164 : List Int) (k0 : List Int → Option α) : Option α :=
  let x165 := ((a163.length : Nat) : Int)
  let x166 := ((a164.length : Nat) : Int)
  let x167 := IntKind.i64.wrap (x165 + x166)
  bif (decide ((0 : Int) ≤ x167)) then
    bif decide (x167 ≤ x167) then
      bif (decide (x167 ≤ ((8796093022208 : Nat) : Int))) then
        let x168 := (List.replicate x167.toNat (0 : Int))
        spec_l5Mul_L0 N N a163 a164 (0 : Int) x168
          (fun x206 =>
            spec_l5Trim N x206
              (fun x207 =>
                k0 x207))
      else
        none
    else
      none
  else
    none
theorem spec_l5Mul.ex : ∃ f : ((α : Type) → Nat → List Int → List Int → (List Int → Option α) → Option α), f = fun α => @spec_l5Mul.b α := ⟨_, rfl⟩
noncomputable def spec_l5Mul {α : Type} : Nat → List Int → List Int → (List Int → Option α) → Option α := Classical.choose spec_l5Mul.ex α
theorem spec_l5Mul.eq : @spec_l5Mul = @spec_l5Mul.b := funext fun α => congrFun (Classical.choose_spec spec_l5Mul.ex) α

/-- loop.example/pinfold/spec.l5Times -/
noncomputable def spec_l5Times.b {α : Type} (N : Nat) (a159 : List Int) (a160 : Int) (k0 : List Int → Option α) : Option α :=
  let x161 := (decide (a160 = (0 : Int)))
  bif x161 then
    k0 []
  else
    let x162 := [a160]
    spec_l5Mul N a159 x162
      (fun x208 =>
        k0 x208)
theorem spec_l5Times.ex : ∃ f : ((α : Type) → Nat → List Int → Int → (List Int → Option α) → Option α), f = fun α => @spec_l5Times.b α := ⟨_, rfl⟩
noncomputable def spec_l5Times {α : Type} : Nat → List Int → Int → (List Int → Option α) → Option α := Classical.choose spec_l5Times.ex α
theorem spec_l5Times.eq : @spec_l5Times = @spec_l5Times.b := funext fun α => congrFun (Classical.choose_spec spec_l5Times.ex) α

noncomputable def spec_l5Top_L0r {α : Type} (N : Nat) (next : List Int → Int → List Int → Option α) (k0 : List Int → Option α) (v221 : List Int) (v222 : Int) (v223 : List Int) : Option α :=
  let x224 := ((v221.length : Nat) : Int)
  let x225 := decide (v222 < x224)
  bif x225 then
    bif (decide (v222 < (0 : Int))) then
      none
    else
      match v221[v222.toNat]? with
      | some x226 =>
        let x227 := [x226]
        bif decide (v223.length + x227.length ≤ 8796093022208) then
          let x228 := v223 ++ x227
          let x229 := (IntKind.i64.wrap (v222 + (1 : Int)))
          next v221 x229 x228
        else
          none
      | none => none
  else
    k0 v223
noncomputable def spec_l5Top_L0.b {α : Type} (N n : Nat) (v221 : List Int) (v222 : Int) (v223 : List Int) (k0 : List Int → Option α) : Option α :=
  Nat.rec (motive := fun _ => List Int → Int → List Int → Option α) (fun _ _ _ => none) (fun _ next => spec_l5Top_L0r N next k0) n v221 v222 v223
theorem spec_l5Top_L0.ex : ∃ f : ((α : Type) → Nat → Nat → List Int → Int → List Int → (List Int → Option α) → Option α), f = fun α => @spec_l5Top_L0.b α := ⟨_, rfl⟩
noncomputable def spec_l5Top_L0 {α : Type} : Nat → Nat → List Int → Int → List Int → (List Int → Option α) → Option α := Classical.choose spec_l5Top_L0.ex α
theorem spec_l5Top_L0.eq : @spec_l5Top_L0 = @spec_l5Top_L0.b := funext fun α => congrFun (Classical.choose_spec spec_l5Top_L0.ex) α
theorem spec_l5Top_L0.zero {α : Type} (N : Nat) (v221 : List Int) (v222 : Int) (v223 : List Int) (k0 : List Int → Option α) : spec_l5Top_L0 N 0 v221 v222 v223 k0 = none := by rw [spec_l5Top_L0.eq]; rfl
theorem spec_l5Top_L0.succ {α : Type} (N n : Nat) (v221 : List Int) (v222 : Int) (v223 : List Int) (k0 : List Int → Option α) : spec_l5Top_L0 N (n + 1) v221 v222 v223 k0 = spec_l5Top_L0r N (fun y0 y1 y2 => spec_l5Top_L0 N n y0 y1 y2 k0) k0 v221 v222 v223 := by rw [spec_l5Top_L0.eq]; rfl
/-- loop.example/pinfold/spec.l5Top -/
noncomputable def spec_l5Top.b {α : Type} (N : Nat) (a219 : List Int) (a220 : Int) (k0 : List Int → Option α) : Option α :=
  spec_l5Top_L0 N N a219 a220 []
    (fun x230 =>
      k0 x230)
theorem spec_l5Top.ex : ∃ f : ((α : Type) → Nat → List Int → Int → (List Int → Option α) → Option α), f = fun α => @spec_l5Top.b α := ⟨_, rfl⟩
noncomputable def spec_l5Top {α : Type} : Nat → List Int → Int → (List Int → Option α) → Option α := Classical.choose spec_l5Top.ex α
theorem spec_l5Top.eq : @spec_l5Top = @spec_l5Top.b := funext fun α => congrFun (Classical.choose_spec spec_l5Top.ex) α

noncomputable def spec_l5Shl_L0r {α : Type} (N : Nat) (next : List Int → Int → List Int → Option α) (k0 : List Int → Option α) (v247 : List Int) (v248 : Int) (v249 : List Int) : Option α :=
  let x250 := ((v247.length : Nat) : Int)
  let x251 := decide (v248 < x250)
  bif x251 then
    bif (decide (v248 < (0 : Int))) then
      none
    else
      match v247[v248.toNat]? with
      | some x252 =>
        let x253 := [x252]
        bif decide (v249.length + x253.length ≤ 8796093022208) then
          let x254 := v249 ++ x253
          let x255 := (IntKind.i64.wrap (v248 + (1 : Int)))
          next v247 x255 x254
        else
          none
      | none => none
  else
    k0 v249
noncomputable def spec_l5Shl_L0.b {α : Type} (N n : Nat) (v247 : List Int) (v248 : Int) (v249 : List Int) (k0 : List Int → Option α) : Option α :=
  Nat.rec (motive := fun _ => List Int → Int → List Int → Option α) (fun _ _ _ => none) (fun _ next => spec_l5Shl_L0r N next k0) n v247 v248 v249
theorem spec_l5Shl_L0.ex : ∃ f : ((α : Type) → Nat → Nat → List Int → Int → List Int → (List Int → Option α) → Option α), f = fun α => @spec_l5Shl_L0.b α := ⟨_, rfl⟩
noncomputable def spec_l5Shl_L0 {α : Type} : Nat → Nat → List Int → Int → List Int → (List Int → Option α) → Option α := Classical.choose spec_l5Shl_L0.ex α
theorem spec_l5Shl_L0.eq : @spec_l5Shl_L0 = @spec_l5Shl_L0.b := funext fun α => congrFun (Classical.choose_spec spec_l5Shl_L0.ex) α
theorem spec_l5Shl_L0.zero {α : Type} (N : Nat) (v247 : List Int) (v248 : Int) (v249 : List Int) (k0 : List Int → Option α) : spec_l5Shl_L0 N 0 v247 v248 v249 k0 = none := by rw [spec_l5Shl_L0.eq]; rfl
theorem spec_l5Shl_L0.succ {α : Type} (N n : Nat) (v247 : List Int) (v248 : Int) (v249 : List Int) (k0 : List Int → Option α) : spec_l5Shl_L0 N (n + 1) v247 v248 v249 k0 = spec_l5Shl_L0r N (fun y0 y1 y2 => spec_l5Shl_L0 N n y0 y1 y2 k0) k0 v247 v248 v249 := by rw [spec_l5Shl_L0.eq]; rfl
/-- loop.example/pinfold/spec.l5Shl -/
noncomputable def spec_l5Shl.b {α : Type} (N : Nat) (a242 : List Int) (a243 : Int) (k0 : List Int → Option α) : Option α :=
  let x244 := ((a242.length : Nat) : Int)
  let x245 := (decide (x244 = (0 : Int)))
  bif x245 then
    k0 []
  else
    bif (decide ((0 : Int) ≤ a243)) then
      bif decide (a243 ≤ a243) then
        bif (decide (a243 ≤ ((8796093022208 : Nat) : Int))) then
          let x246 := (List.replicate a243.toNat (0 : Int))
          spec_l5Shl_L0 N N a242 (0 : Int) x246
            (fun x256 =>
              k0 x256)
        else
          none
      else
        none
    else
      none
theorem spec_l5Shl.ex : ∃ f : ((α : Type) → Nat → List Int → Int → (List Int → Option α) → Option α), f = fun α => @spec_l5Shl.b α := ⟨_, rfl⟩
noncomputable def spec_l5Shl {α : Type} : Nat → List Int → Int → (List Int → Option α) → Option α := Classical.choose spec_l5Shl.ex α
theorem spec_l5Shl.eq : @spec_l5Shl = @spec_l5Shl.b := funext fun α => congrFun (Classical.choose_spec spec_l5Shl.ex) α

/-- loop.example/pinfold/spec.l5At -/
noncomputable def spec_l5At.b {α : Type} (N : Nat) (a280 : List Int) (a281 : Int) (k0 : Int → Option α) : Option α :=
  let x282 := ((a280.length : Nat) : Int)
  let x283 := decide (a281 < x282)
  bif x283 then
    bif (decide (a281 < (0 : Int))) then
      none
    else
      match a280[a281.toNat]? with
      | some x284 =>
        k0 x284
      | none => none
  else
    k0 (0 : Int)
theorem spec_l5At.ex : ∃ f : ((α : Type) → Nat → List Int → Int → (Int → Option α) → Option α), f = fun α => @spec_l5At.b α := ⟨_, rfl⟩
noncomputable def spec_l5At {α : Type} : Nat → List Int → Int → (Int → Option α) → Option α := Classical.choose spec_l5At.ex α
theorem spec_l5At.eq : @spec_l5At = @spec_l5At.b := funext fun α => congrFun (Classical.choose_spec spec_l5At.ex) α

noncomputable def spec_l5Add_J2.b {α : Type} (N : Nat) (v264 : List Int) (v265 : List Int) (v266 : Int) (k0 : List Int → List Int → Int → Option α) : Option α :=
  let x267 := ((v265.length : Nat) : Int)
  let x268 := decide (v266 < x267)
  bif x268 then
    let x269 := ((v265.length : Nat) : Int)
    k0 v264 v265 x269
  else
    k0 v264 v265 v266
theorem spec_l5Add_J2.ex : ∃ f : ((α : Type) → Nat → List Int → List Int → Int → (List Int → List Int → Int → Option α) → Option α), f = fun α => @spec_l5Add_J2.b α := ⟨_, rfl⟩
noncomputable def spec_l5Add_J2 {α : Type} : Nat → List Int → List Int → Int → (List Int → List Int → Int → Option α) → Option α := Classical.choose spec_l5Add_J2.ex α
theorem spec_l5Add_J2.eq : @spec_l5Add_J2 = @spec_l5Add_J2.b := funext fun α => congrFun (Classical.choose_spec spec_l5Add_J2.ex) α
noncomputable def spec_l5Add_L0r {α : Type} (N : Nat) (next : List Int → List Int → Int → Int → Int → List Int → Option α) (k0 : Int → List Int → Option α) (v273 : List Int) (v274 : List Int) (v275 : Int) (v276 : Int) (v277 : Int) (v278 : List Int) : Option α :=
  let x279 := decide (v277 < v275)
  bif x279 then
    spec_l5At N v273 v277
      (fun x285 =>
        spec_l5At N v274 v277
          (fun x286 =>
            let x287 := IntKind.i64.wrap (x285 + x286)
            let x288 := IntKind.i64.wrap (x287 + v276)
            let x289 := (Int.tmod x288 (65536 : Int))
            let x290 := [x289]
            bif decide (v278.length + x290.length ≤ 8796093022208) then
              let x291 := v278 ++ x290
              let x292 := (IntKind.i64.wrap (Int.tdiv x288 (65536 : Int)))
              let x293 := (IntKind.i64.wrap (v277 + (1 : Int)))
              next v273 v274 v275 x292 x293 x291
            else
              none))
  else
    k0 v276 v278
noncomputable def spec_l5Add_L0.b {α : Type} (N n : Nat) (v273 : List Int) (v274 : List Int) (v275 : Int) (v276 : Int) (v277 : Int) (v278 : List Int) (k0 : Int → List Int → Option α) : Option α :=
  Nat.rec (motive := fun _ => List Int → List Int → Int → Int → Int → List Int → Option α) (fun _ _ _ _ _ _ => none) (fun _ next => spec_l5Add_L0r N next k0) n v273 v274 v275 v276 v277 v278
theorem spec_l5Add_L0.ex : ∃ f : ((α : Type) → Nat → Nat → List Int → List Int → Int → Int → Int → List Int → (Int → List Int → Option α) → Option α), f = fun α => @spec_l5Add_L0.b α := ⟨_, rfl⟩
noncomputable def spec_l5Add_L0 {α : Type} : Nat → Nat → List Int → List Int → Int → Int → Int → List Int → (Int → List Int → Option α) → Option α := Classical.choose spec_l5Add_L0.ex α
theorem spec_l5Add_L0.eq : @spec_l5Add_L0 = @spec_l5Add_L0.b := funext fun α => congrFun (Classical.choose_spec spec_l5Add_L0.ex) α
theorem spec_l5Add_L0.zero {α : Type} (N : Nat) (v273 : List Int) (v274 : List Int) (v275 : Int) (v276 : Int) (v277 : Int) (v278 : List Int) (k0 : Int → List Int → Option α) : spec_l5Add_L0 N 0 v273 v274 v275 v276 v277 v278 k0 = none := by rw [spec_l5Add_L0.eq]; rfl
theorem spec_l5Add_L0.succ {α : Type} (N n : Nat) (v273 : List Int) (v274 : List Int) (v275 : Int) (v276 : Int) (v277 : Int) (v278 : List Int) (k0 : Int → List Int → Option α) : spec_l5Add_L0 N (n + 1) v273 v274 v275 v276 v277 v278 k0 = spec_l5Add_L0r N (fun y0 y1 y2 y3 y4 y5 => spec_l5Add_L0 N n y0 y1 y2 y3 y4 y5 k0) k0 v273 v274 v275 v276 v277 v278 := by rw [spec_l5Add_L0.eq]; rfl
noncomputable def spec_l5Add_J12.b {α : Type} (N : Nat) (v296 : Int) (v297 : List Int) (k0 : List Int → Option α) : Option α :=
  let x298 := (decide ((0 : Int) < v296))
  bif x298 then
    let x299 := [v296]
    bif decide (v297.length + x299.length ≤ 8796093022208) then
      let x300 := v297 ++ x299
      k0 x300
    else
      none
  else
    k0 v297
theorem spec_l5Add_J12.ex : ∃ f : ((α : Type) → Nat → Int → List Int → (List Int → Option α) → Option α), f = fun α => @spec_l5Add_J12.b α := ⟨_, rfl⟩
noncomputable def spec_l5Add_J12 {α : Type} : Nat → Int → List Int → (List Int → Option α) → Option α := Classical.choose spec_l5Add_J12.ex α
theorem spec_l5Add_J12.eq : @spec_l5Add_J12 = @spec_l5Add_J12.b := funext fun α => congrFun (Classical.choose_spec spec_l5Add_J12.ex) α
/-- loop.example/pinfold/spec.l5Add -/
noncomputable def spec_l5Add.b {α : Type} (N : Nat) (a261 : List Int) (a262 : List Int) (k0 : List Int → Option α) : Option α :=
  let x263 := ((a261.length : Nat) : Int)
  spec_l5Add_J2 N a261 a262 x263
    (fun x270 x271 x272 =>
      spec_l5Add_L0 N N x270 x271 x272 (0 : Int) (0 : Int) []
        (fun x294 x295 =>
          spec_l5Add_J12 N x294 x295
            (fun x301 =>
              k0 x301)))
theorem spec_l5Add.ex : ∃ f : ((α : Type) → Nat → List Int → List Int → (List Int → Option α) → Option α), f = fun α => @spec_l5Add.b α := ⟨_, rfl⟩
noncomputable def spec_l5Add {α : Type} : Nat → List Int → List Int → (List Int → Option α) → Option α := Classical.choose spec_l5Add.ex α
theorem spec_l5Add.eq : @spec_l5Add = @spec_l5Add.b := funext fun α => congrFun (Classical.choose_spec spec_l5Add.ex) α

noncomputable def spec_l5Sub_J8.b {α : Type} (N : Nat) (v354 : List Int) (v355 : List Int) (v356 : Int) (v357 : Int) (v358 : Int) (v359 : List Int) (k0 : List Int → List Int → Int → Int → Int → List Int → Option α) : Option α :=
  let x360 := (decide (v358 < (0 : Int)))
  bif x360 then
    let x361 := (IntKind.i64.wrap (v358 + (65536 : Int)))
    k0 v354 v355 (1 : Int) v357 x361 v359
  else
    k0 v354 v355 v356 v357 v358 v359
theorem spec_l5Sub_J8.ex : ∃ f : ((α : Type) → Nat → List Int → List Int → Int → Int → Int → List Int → (List Int → List Int → Int → Int → Int → List Int → Option α) → Option α), f = fun α => @spec_l5Sub_J8.b α := ⟨_, rfl⟩
noncomputable def spec_l5Sub_J8 {α : Type} : Nat → List Int → List Int → Int → Int → Int → List Int → (List Int → List Int → Int → Int → Int → List Int → Option α) → Option α := Classical.choose spec_l5Sub_J8.ex α
theorem spec_l5Sub_J8.eq : @spec_l5Sub_J8 = @spec_l5Sub_J8.b := funext fun α => congrFun (Classical.choose_spec spec_l5Sub_J8.ex) α
noncomputable def spec_l5Sub_L0r {α : Type} (N : Nat) (next : List Int → List Int → Int → Int → List Int → Option α) (k0 : List Int → Option α) (v343 : List Int) (v344 : List Int) (v345 : Int) (v346 : Int) (v347 : List Int) : Option α :=
  let x348 := ((v343.length : Nat) : Int)
  let x349 := decide (v346 < x348)
  bif x349 then
    bif (decide (v346 < (0 : Int))) then
      none
    else
      match v343[v346.toNat]? with
      | some x350 =>
        spec_l5At N v344 v346
          (fun x351 =>
            let x352 := IntKind.i64.wrap (x350 - x351)
            let x353 := IntKind.i64.wrap (x352 - v345)
            spec_l5Sub_J8 N v343 v344 (0 : Int) v346 x353 v347
              (fun x362 x363 x364 x365 x366 x367 =>
                let x368 := [x366]
                bif decide (x367.length + x368.length ≤ 8796093022208) then
                  let x369 := x367 ++ x368
                  let x370 := (IntKind.i64.wrap (x365 + (1 : Int)))
                  next x362 x363 x364 x370 x369
                else
                  none))
      | none => none
  else
    k0 v347
noncomputable def spec_l5Sub_L0.b {α : Type} (N n : Nat) (v343 : List Int) (v344 : List Int) (v345 : Int) (v346 : Int) (v347 : List Int) (k0 : List Int → Option α) : Option α :=
  Nat.rec (motive := fun _ => List Int → List Int → Int → Int → List Int → Option α) (fun _ _ _ _ _ => none) (fun _ next => spec_l5Sub_L0r N next k0) n v343 v344 v345 v346 v347
theorem spec_l5Sub_L0.ex : ∃ f : ((α : Type) → Nat → Nat → List Int → List Int → Int → Int → List Int → (List Int → Option α) → Option α), f = fun α => @spec_l5Sub_L0.b α := ⟨_, rfl⟩
noncomputable def spec_l5Sub_L0 {α : Type} : Nat → Nat → List Int → List Int → Int → Int → List Int → (List Int → Option α) → Option α := Classical.choose spec_l5Sub_L0.ex α
theorem spec_l5Sub_L0.eq : @spec_l5Sub_L0 = @spec_l5Sub_L0.b := funext fun α => congrFun (Classical.choose_spec spec_l5Sub_L0.ex) α
theorem spec_l5Sub_L0.zero {α : Type} (N : Nat) (v343 : List Int) (v344 : List Int) (v345 : Int) (v346 : Int) (v347 : List Int) (k0 : List Int → Option α) : spec_l5Sub_L0 N 0 v343 v344 v345 v346 v347 k0 = none := by rw [spec_l5Sub_L0.eq]; rfl
theorem spec_l5Sub_L0.succ {α : Type} (N n : Nat) (v343 : List Int) (v344 : List Int) (v345 : Int) (v346 : Int) (v347 : List Int) (k0 : List Int → Option α) : spec_l5Sub_L0 N (n + 1) v343 v344 v345 v346 v347 k0 = spec_l5Sub_L0r N (fun y0 y1 y2 y3 y4 => spec_l5Sub_L0 N n y0 y1 y2 y3 y4 k0) k0 v343 v344 v345 v346 v347 := by rw [spec_l5Sub_L0.eq]; rfl
/-- loop.example/pinfold/spec.l5Sub -/
noncomputable def spec_l5Sub.b {α : Type} (N : Nat) (a341 : List Int) (a342 : List Int) (k0 : List Int → Option α) : Option α :=
  spec_l5Sub_L0 N N a341 a342 (0 : Int) (0 : Int) []
    (fun x371 =>
      spec_l5Trim N x371
        (fun x372 =>
          k0 x372))
theorem spec_l5Sub.ex : ∃ f : ((α : Type) → Nat → List Int → List Int → (List Int → Option α) → Option α), f = fun α => @spec_l5Sub.b α := ⟨_, rfl⟩
noncomputable def spec_l5Sub {α : Type} : Nat → List Int → List Int → (List Int → Option α) → Option α := Classical.choose spec_l5Sub.ex α
theorem spec_l5Sub.eq : @spec_l5Sub = @spec_l5Sub.b := funext fun α => congrFun (Classical.choose_spec spec_l5Sub.ex) α

noncomputable def spec_l5Div_J17.b {α : Type} (N : Nat) (v312 : Int) (v313 : Int) (v314 : Int) (v315 : Int) (v316 : List Int) (v317 : List Int) (v318 : List Int) (v319 : List Int) (k0 : Int → Int → Int → Int → List Int → List Int → List Int → List Int → Option α) : Option α :=
  let x320 := (decide ((65536 : Int) ≤ v315))
  bif x320 then
    k0 v312 v313 v314 (65535 : Int) v316 v317 v318 v319
  else
    k0 v312 v313 v314 v315 v316 v317 v318 v319
theorem spec_l5Div_J17.ex : ∃ f : ((α : Type) → Nat → Int → Int → Int → Int → List Int → List Int → List Int → List Int → (Int → Int → Int → Int → List Int → List Int → List Int → List Int → Option α) → Option α), f = fun α => @spec_l5Div_J17.b α := ⟨_, rfl⟩
noncomputable def spec_l5Div_J17 {α : Type} : Nat → Int → Int → Int → Int → List Int → List Int → List Int → List Int → (Int → Int → Int → Int → List Int → List Int → List Int → List Int → Option α) → Option α := Classical.choose spec_l5Div_J17.ex α
theorem spec_l5Div_J17.eq : @spec_l5Div_J17 = @spec_l5Div_J17.b := funext fun α => congrFun (Classical.choose_spec spec_l5Div_J17.ex) α
noncomputable def spec_l5Div_L2r {α : Type} (N : Nat) (next : Int → Int → Int → Int → List Int → List Int → List Int → List Int → List Int → Option α) (k0 : Int → Int → Int → Int → List Int → List Int → List Int → List Int → List Int → Option α) (v330 : Int) (v331 : Int) (v332 : Int) (v333 : Int) (v334 : List Int) (v335 : List Int) (v336 : List Int) (v337 : List Int) (v338 : List Int) : Option α :=
  spec_l5Cmp N v338 v337
    (fun x339 =>
      let x340 := (decide ((0 : Int) < x339))
      bif x340 then
        spec_l5Sub N v338 v335
          (fun x373 =>
            let x374 := (IntKind.i64.wrap (v333 - (1 : Int)))
            next v330 v331 v332 x374 v334 v335 v336 v337 x373)
      else
        k0 v330 v331 v332 v333 v334 v335 v336 v337 v338)
noncomputable def spec_l5Div_L2.b {α : Type} (N n : Nat) (v330 : Int) (v331 : Int) (v332 : Int) (v333 : Int) (v334 : List Int) (v335 : List Int) (v336 : List Int) (v337 : List Int) (v338 : List Int) (k0 : Int → Int → Int → Int → List Int → List Int → List Int → List Int → List Int → Option α) : Option α :=
  Nat.rec (motive := fun _ => Int → Int → Int → Int → List Int → List Int → List Int → List Int → List Int → Option α) (fun _ _ _ _ _ _ _ _ _ => none) (fun _ next => spec_l5Div_L2r N next k0) n v330 v331 v332 v333 v334 v335 v336 v337 v338
theorem spec_l5Div_L2.ex : ∃ f : ((α : Type) → Nat → Nat → Int → Int → Int → Int → List Int → List Int → List Int → List Int → List Int → (Int → Int → Int → Int → List Int → List Int → List Int → List Int → List Int → Option α) → Option α), f = fun α => @spec_l5Div_L2.b α := ⟨_, rfl⟩
noncomputable def spec_l5Div_L2 {α : Type} : Nat → Nat → Int → Int → Int → Int → List Int → List Int → List Int → List Int → List Int → (Int → Int → Int → Int → List Int → List Int → List Int → List Int → List Int → Option α) → Option α := Classical.choose spec_l5Div_L2.ex α
theorem spec_l5Div_L2.eq : @spec_l5Div_L2 = @spec_l5Div_L2.b := funext fun α => congrFun (Classical.choose_spec spec_l5Div_L2.ex) α
theorem spec_l5Div_L2.zero {α : Type} (N : Nat) (v330 : Int) (v331 : Int) (v332 : Int) (v333 : Int) (v334 : List Int) (v335 : List Int) (v336 : List Int) (v337 : List Int) (v338 : List Int) (k0 : Int → Int → Int → Int → List Int → List Int → List Int → List Int → List Int → Option α) : spec_l5Div_L2 N 0 v330 v331 v332 v333 v334 v335 v336 v337 v338 k0 = none := by rw [spec_l5Div_L2.eq]; rfl
theorem spec_l5Div_L2.succ {α : Type} (N n : Nat) (v330 : Int) (v331 : Int) (v332 : Int) (v333 : Int) (v334 : List Int) (v335 : List Int) (v336 : List Int) (v337 : List Int) (v338 : List Int) (k0 : Int → Int → Int → Int → List Int → List Int → List Int → List Int → List Int → Option α) : spec_l5Div_L2 N (n + 1) v330 v331 v332 v333 v334 v335 v336 v337 v338 k0 = spec_l5Div_L2r N (fun y0 y1 y2 y3 y4 y5 y6 y7 y8 => spec_l5Div_L2 N n y0 y1 y2 y3 y4 y5 y6 y7 y8 k0) k0 v330 v331 v332 v333 v334 v335 v336 v337 v338 := by rw [spec_l5Div_L2.eq]; rfl
noncomputable def spec_l5Div_L0r {α : Type} (N : Nat) (next : Int → Int → Int → List Int → List Int → List Int → List Int → Option α) (k0 : Int → List Int → List Int → Option α) (v234 : Int) (v235 : Int) (v236 : Int) (v237 : List Int) (v238 : List Int) (v239 : List Int) (v240 : List Int) : Option α :=
  let x241 := (decide ((0 : Int) ≤ v236))
  bif x241 then
    spec_l5Shl N v240 (1 : Int)
      (fun x257 =>
        bif (decide (v236 < (0 : Int))) then
          none
        else
          bif decide (v236.toNat < v237.length) then
            match v237[v236.toNat]? with
            | some x258 =>
              let x259 := IntKind.u64.wrap x258
              spec_NatOf N x259
                (fun x260 =>
                  spec_l5Add N x257 x260
                    (fun x302 =>
                      spec_l5Trim N x302
                        (fun x303 =>
                          spec_l5At N x303 v235
                            (fun x304 =>
                              let x305 := (IntKind.i64.wrap (x304 * (65536 : Int)))
                              let x306 := (IntKind.i64.wrap (v235 - (1 : Int)))
                              spec_l5At N x303 x306
                                (fun x307 =>
                                  let x308 := IntKind.i64.wrap (x305 + x307)
                                  let x309 := (IntKind.i64.wrap (v235 - (1 : Int)))
                                  bif (decide (x309 < (0 : Int))) then
                                    none
                                  else
                                    bif decide (x309.toNat < v238.length) then
                                      match v238[x309.toNat]? with
                                      | some x310 =>
                                        bif (decide (x310 = (0 : Int))) then
                                          none
                                        else
                                          let x311 := IntKind.i64.wrap (Int.tdiv x308 x310)
                                          spec_l5Div_J17 N v234 v235 v236 x311 v237 v238 v239 x303
                                            (fun x321 x322 x323 x324 x325 x326 x327 x328 =>
                                              spec_l5Times N x326 x324
                                                (fun x329 =>
                                                  spec_l5Div_L2 N N x321 x322 x323 x324 x325 x326 x327 x328 x329
                                                    (fun x375 x376 x377 x378 x379 x380 x381 x382 x383 =>
                                                      bif (decide (x377 < (0 : Int))) then
                                                        none
                                                      else
                                                        bif decide (x377.toNat < x381.length) then
                                                          match x381[x377.toNat]? with
                                                          | some x384 =>
                                                            let x385 := x381.set x377.toNat x378
                                                            spec_l5Sub N x382 x383
                                                              (fun x386 =>
                                                                let x387 := (IntKind.i64.wrap (x377 - (1 : Int)))
                                                                next x375 x376 x387 x379 x380 x385 x386)
                                                          | none => none
                                                        else
                                                          none)))
                                      | none => none
                                    else
                                      none)))))
            | none => none
          else
            none)
  else
    k0 v234 v239 v240
noncomputable def spec_l5Div_L0.b {α : Type} (N n : Nat) (v234 : Int) (v235 : Int) (v236 : Int) (v237 : List Int) (v238 : List Int) (v239 : List Int) (v240 : List Int) (k0 : Int → List Int → List Int → Option α) : Option α :=
  Nat.rec (motive := fun _ => Int → Int → Int → List Int → List Int → List Int → List Int → Option α) (fun _ _ _ _ _ _ _ => none) (fun _ next => spec_l5Div_L0r N next k0) n v234 v235 v236 v237 v238 v239 v240
theorem spec_l5Div_L0.ex : ∃ f : ((α : Type) → Nat → Nat → Int → Int → Int → List Int → List Int → List Int → List Int → (Int → List Int → List Int → Option α) → Option α), f = fun α => @spec_l5Div_L0.b α := ⟨_, rfl⟩
noncomputable def spec_l5Div_L0 {α : Type} : Nat → Nat → Int → Int → Int → List Int → List Int → List Int → List Int → (Int → List Int → List Int → Option α) → Option α := Classical.choose spec_l5Div_L0.ex α
theorem spec_l5Div_L0.eq : @spec_l5Div_L0 = @spec_l5Div_L0.b := funext fun α => congrFun (Classical.choose_spec spec_l5Div_L0.ex) α
theorem spec_l5Div_L0.zero {α : Type} (N : Nat) (v234 : Int) (v235 : Int) (v236 : Int) (v237 : List Int) (v238 : List Int) (v239 : List Int) (v240 : List Int) (k0 : Int → List Int → List Int → Option α) : spec_l5Div_L0 N 0 v234 v235 v236 v237 v238 v239 v240 k0 = none := by rw [spec_l5Div_L0.eq]; rfl
theorem spec_l5Div_L0.succ {α : Type} (N n : Nat) (v234 : Int) (v235 : Int) (v236 : Int) (v237 : List Int) (v238 : List Int) (v239 : List Int) (v240 : List Int) (k0 : Int → List Int → List Int → Option α) : spec_l5Div_L0 N (n + 1) v234 v235 v236 v237 v238 v239 v240 k0 = spec_l5Div_L0r N (fun y0 y1 y2 y3 y4 y5 y6 => spec_l5Div_L0 N n y0 y1 y2 y3 y4 y5 y6 k0) k0 v234 v235 v236 v237 v238 v239 v240 := by rw [spec_l5Div_L0.eq]; rfl
/-- loop.example/pinfold/spec.l5Div -/
noncomputable def spec_l5Div.b {α : Type} (N : Nat) (a87 : List Int) (a88 : List Int) (k0 : List Int → List Int → Option α) : Option α :=
  spec_l5Cmp N a87 a88
    (fun x111 =>
      let x112 := (decide (x111 < (0 : Int)))
      bif x112 then
        spec_l5Trim N a87
          (fun x113 =>
            k0 [] x113)
      else
        let x114 := ((a88.length : Nat) : Int)
        let x115 := (decide (x114 = (1 : Int)))
        bif x115 then
          match a88[0]? with
          | some x116 =>
            spec_l5DivSmall N a87 x116
              (fun x140 x141 =>
                let x142 := IntKind.u64.wrap x140
                spec_NatOf N x142
                  (fun x153 =>
                    k0 x141 x153))
          | none => none
        else
          let x154 := ((a88.length : Nat) : Int)
          let x155 := (IntKind.i64.wrap (x154 - (1 : Int)))
          bif (decide (x155 < (0 : Int))) then
            none
          else
            match a88[x155.toNat]? with
            | some x156 =>
              let x157 := (IntKind.i64.wrap (x156 + (1 : Int)))
              bif (decide (x157 = (0 : Int))) then
                none
              else
                let x158 := (IntKind.i64.wrap (Int.tdiv (65536 : Int) x157))
                spec_l5Times N a87 x158
                  (fun x209 =>
                    spec_l5Times N a88 x158
                      (fun x210 =>
                        let x211 := ((x210.length : Nat) : Int)
                        let x212 := ((x209.length : Nat) : Int)
                        let x213 := IntKind.i64.wrap (x212 - x211)
                        let x214 := (IntKind.i64.wrap (x213 + (1 : Int)))
                        bif (decide ((0 : Int) ≤ x214)) then
                          bif decide (x214 ≤ x214) then
                            bif (decide (x214 ≤ ((8796093022208 : Nat) : Int))) then
                              let x215 := (List.replicate x214.toNat (0 : Int))
                              let x216 := ((x209.length : Nat) : Int)
                              let x217 := IntKind.i64.wrap (x216 - x211)
                              let x218 := (IntKind.i64.wrap (x217 + (1 : Int)))
                              spec_l5Top N x209 x218
                                (fun x231 =>
                                  let x232 := ((x209.length : Nat) : Int)
                                  let x233 := IntKind.i64.wrap (x232 - x211)
                                  spec_l5Div_L0 N N x158 x211 x233 x209 x210 x215 x231
                                    (fun x388 x389 x390 =>
                                      spec_l5DivSmall N x390 x388
                                        (fun _ x392 =>
                                          spec_l5Trim N x389
                                            (fun x393 =>
                                              k0 x393 x392))))
                            else
                              none
                          else
                            none
                        else
                          none))
            | none => none)
theorem spec_l5Div.ex : ∃ f : ((α : Type) → Nat → List Int → List Int → (List Int → List Int → Option α) → Option α), f = fun α => @spec_l5Div.b α := ⟨_, rfl⟩
noncomputable def spec_l5Div {α : Type} : Nat → List Int → List Int → (List Int → List Int → Option α) → Option α := Classical.choose spec_l5Div.ex α
theorem spec_l5Div.eq : @spec_l5Div = @spec_l5Div.b := funext fun α => congrFun (Classical.choose_spec spec_l5Div.ex) α

noncomputable def spec_l5Gcd_L0r {α : Type} (N : Nat) (next : List Int → List Int → Option α) (k0 : List Int → Option α) (v83 : List Int) (v84 : List Int) : Option α :=
  let x85 := ((v84.length : Nat) : Int)
  let x86 := (decide ((0 : Int) < x85))
  bif x86 then
    spec_l5Div N v83 v84
      (fun _ x395 =>
        next v84 x395)
  else
    k0 v83
noncomputable def spec_l5Gcd_L0.b {α : Type} (N n : Nat) (v83 : List Int) (v84 : List Int) (k0 : List Int → Option α) : Option α :=
  Nat.rec (motive := fun _ => List Int → List Int → Option α) (fun _ _ => none) (fun _ next => spec_l5Gcd_L0r N next k0) n v83 v84
theorem spec_l5Gcd_L0.ex : ∃ f : ((α : Type) → Nat → Nat → List Int → List Int → (List Int → Option α) → Option α), f = fun α => @spec_l5Gcd_L0.b α := ⟨_, rfl⟩
noncomputable def spec_l5Gcd_L0 {α : Type} : Nat → Nat → List Int → List Int → (List Int → Option α) → Option α := Classical.choose spec_l5Gcd_L0.ex α
theorem spec_l5Gcd_L0.eq : @spec_l5Gcd_L0 = @spec_l5Gcd_L0.b := funext fun α => congrFun (Classical.choose_spec spec_l5Gcd_L0.ex) α
theorem spec_l5Gcd_L0.zero {α : Type} (N : Nat) (v83 : List Int) (v84 : List Int) (k0 : List Int → Option α) : spec_l5Gcd_L0 N 0 v83 v84 k0 = none := by rw [spec_l5Gcd_L0.eq]; rfl
theorem spec_l5Gcd_L0.succ {α : Type} (N n : Nat) (v83 : List Int) (v84 : List Int) (k0 : List Int → Option α) : spec_l5Gcd_L0 N (n + 1) v83 v84 k0 = spec_l5Gcd_L0r N (fun y0 y1 => spec_l5Gcd_L0 N n y0 y1 k0) k0 v83 v84 := by rw [spec_l5Gcd_L0.eq]; rfl
/-- loop.example/pinfold/spec.l5Gcd -/
noncomputable def spec_l5Gcd.b {α : Type} (N : Nat) (a58 : List Int) (a59 : List Int) (k0 : List Int → Option α) : Option α :=
  spec_l5Trim N a58
    (fun x81 =>
      spec_l5Trim N a59
        (fun x82 =>
          spec_l5Gcd_L0 N N x81 x82
            (fun x396 =>
              k0 x396)))
theorem spec_l5Gcd.ex : ∃ f : ((α : Type) → Nat → List Int → List Int → (List Int → Option α) → Option α), f = fun α => @spec_l5Gcd.b α := ⟨_, rfl⟩
noncomputable def spec_l5Gcd {α : Type} : Nat → List Int → List Int → (List Int → Option α) → Option α := Classical.choose spec_l5Gcd.ex α
theorem spec_l5Gcd.eq : @spec_l5Gcd = @spec_l5Gcd.b := funext fun α => congrFun (Classical.choose_spec spec_l5Gcd.ex) α

/-- loop.example/pinfold/spec.l6Make -/
noncomputable def spec_l6Make.b {α : Type} (N : Nat) (a52 : Bool) (a53 : List Int) (a54 : List Int) (k0 : Bool → Bool → List Int → List Int → Option α) : Option α :=
  let x55 := ((a53.length : Nat) : Int)
  let x56 := (decide (x55 = (0 : Int)))
  bif x56 then
    let x57 := [(1 : Int)]
    k0 false true [] x57
  else
    spec_l5Gcd N a53 a54
      (fun x397 =>
        spec_l5Div N a53 x397
          (fun x398 _ =>
            spec_l5Div N a54 x397
              (fun x400 _ =>
                let x402 := ((x398.length : Nat) : Int)
                let x403 := (decide ((256 : Int) < x402))
                bif x403 then
                  k0 false false [] []
                else
                  let x404 := ((x400.length : Nat) : Int)
                  let x405 := (decide ((256 : Int) < x404))
                  bif x405 then
                    k0 false false [] []
                  else
                    k0 a52 true x398 x400)))
theorem spec_l6Make.ex : ∃ f : ((α : Type) → Nat → Bool → List Int → List Int → (Bool → Bool → List Int → List Int → Option α) → Option α), f = fun α => @spec_l6Make.b α := ⟨_, rfl⟩
noncomputable def spec_l6Make {α : Type} : Nat → Bool → List Int → List Int → (Bool → Bool → List Int → List Int → Option α) → Option α := Classical.choose spec_l6Make.ex α
theorem spec_l6Make.eq : @spec_l6Make = @spec_l6Make.b := funext fun α => congrFun (Classical.choose_spec spec_l6Make.ex) α

/-- loop.example/pinfold/spec.FracOf -/
noncomputable def spec_FracOf.b {α : Type} (N : Nat) (a23 : Bool) (a24 : List Int) (a25 : List Int) (k0 : Bool → Bool → List Int → List Int → Option α) : Option α :=
  spec_NatOk N a24
    (fun x46 =>
      let x47 := !x46
      bif x47 then
        k0 false false [] []
      else
        spec_NatOk N a25
          (fun x48 =>
            let x49 := !x48
            bif x49 then
              k0 false false [] []
            else
              let x50 := ((a25.length : Nat) : Int)
              let x51 := (decide (x50 = (0 : Int)))
              bif x51 then
                k0 false false [] []
              else
                spec_l6Make N a23 a24 a25
                  (fun x406 x407 x408 x409 =>
                    k0 x406 x407 x408 x409)))
theorem spec_FracOf.ex : ∃ f : ((α : Type) → Nat → Bool → List Int → List Int → (Bool → Bool → List Int → List Int → Option α) → Option α), f = fun α => @spec_FracOf.b α := ⟨_, rfl⟩
noncomputable def spec_FracOf {α : Type} : Nat → Bool → List Int → List Int → (Bool → Bool → List Int → List Int → Option α) → Option α := Classical.choose spec_FracOf.ex α
theorem spec_FracOf.eq : @spec_FracOf = @spec_FracOf.b := funext fun α => congrFun (Classical.choose_spec spec_FracOf.ex) α

/-- loop.example/pinfold/impl.in -/
noncomputable def impl_in.b {α : Type} (N : Nat) (a444 : Int) (a445 : Int) (a446 : Int) (k0 : Bool → Option α) : Option α :=
  let x447 := decide (a445 ≤ a444)
  bif x447 then
    let x448 := decide (a444 ≤ a446)
    k0 x448
  else
    k0 false
theorem impl_in.ex : ∃ f : ((α : Type) → Nat → Int → Int → Int → (Bool → Option α) → Option α), f = fun α => @impl_in.b α := ⟨_, rfl⟩
noncomputable def impl_in {α : Type} : Nat → Int → Int → Int → (Bool → Option α) → Option α := Classical.choose impl_in.ex α
theorem impl_in.eq : @impl_in = @impl_in.b := funext fun α => congrFun (Classical.choose_spec impl_in.ex) α

/-- loop.example/pinfold/impl.NatOk$1 -/
noncomputable def impl_NatOk_1.b {α : Type} (N : Nat) (a443 : Int) (k0 : Bool → Option α) : Option α :=
  impl_in N a443 (0 : Int) (65535 : Int)
    (fun x449 =>
      let x450 := !x449
      k0 x450)
theorem impl_NatOk_1.ex : ∃ f : ((α : Type) → Nat → Int → (Bool → Option α) → Option α), f = fun α => @impl_NatOk_1.b α := ⟨_, rfl⟩
noncomputable def impl_NatOk_1 {α : Type} : Nat → Int → (Bool → Option α) → Option α := Classical.choose impl_NatOk_1.ex α
theorem impl_NatOk_1.eq : @impl_NatOk_1 = @impl_NatOk_1.b := funext fun α => congrFun (Classical.choose_spec impl_NatOk_1.ex) α

noncomputable def slices_IndexFunc_int_int__impl_NatOk_1_L0r {α : Type} (N : Nat) (next : List Int → Int → Int → Option α) (k0 : Int → Option α) (k1 : Option α) (v438 : List Int) (v439 : Int) (v440 : Int) : Option α :=
  let x441 := decide (v440 < v439)
  bif x441 then
    bif (decide (v440 < (0 : Int))) then
      none
    else
      match v438[v440.toNat]? with
      | some x442 =>
        impl_NatOk_1 N x442
          (fun x451 =>
            bif x451 then
              k0 v440
            else
              let x452 := (IntKind.i64.wrap (v440 + (1 : Int)))
              next v438 v439 x452)
      | none => none
  else
    k1
noncomputable def slices_IndexFunc_int_int__impl_NatOk_1_L0.b {α : Type} (N n : Nat) (v438 : List Int) (v439 : Int) (v440 : Int) (k0 : Int → Option α) (k1 : Option α) : Option α :=
  Nat.rec (motive := fun _ => List Int → Int → Int → Option α) (fun _ _ _ => none) (fun _ next => slices_IndexFunc_int_int__impl_NatOk_1_L0r N next k0 k1) n v438 v439 v440
theorem slices_IndexFunc_int_int__impl_NatOk_1_L0.ex : ∃ f : ((α : Type) → Nat → Nat → List Int → Int → Int → (Int → Option α) → (Option α) → Option α), f = fun α => @slices_IndexFunc_int_int__impl_NatOk_1_L0.b α := ⟨_, rfl⟩
noncomputable def slices_IndexFunc_int_int__impl_NatOk_1_L0 {α : Type} : Nat → Nat → List Int → Int → Int → (Int → Option α) → (Option α) → Option α := Classical.choose slices_IndexFunc_int_int__impl_NatOk_1_L0.ex α
theorem slices_IndexFunc_int_int__impl_NatOk_1_L0.eq : @slices_IndexFunc_int_int__impl_NatOk_1_L0 = @slices_IndexFunc_int_int__impl_NatOk_1_L0.b := funext fun α => congrFun (Classical.choose_spec slices_IndexFunc_int_int__impl_NatOk_1_L0.ex) α
theorem slices_IndexFunc_int_int__impl_NatOk_1_L0.zero {α : Type} (N : Nat) (v438 : List Int) (v439 : Int) (v440 : Int) (k0 : Int → Option α) (k1 : Option α) : slices_IndexFunc_int_int__impl_NatOk_1_L0 N 0 v438 v439 v440 k0 k1 = none := by rw [slices_IndexFunc_int_int__impl_NatOk_1_L0.eq]; rfl
theorem slices_IndexFunc_int_int__impl_NatOk_1_L0.succ {α : Type} (N n : Nat) (v438 : List Int) (v439 : Int) (v440 : Int) (k0 : Int → Option α) (k1 : Option α) : slices_IndexFunc_int_int__impl_NatOk_1_L0 N (n + 1) v438 v439 v440 k0 k1 = slices_IndexFunc_int_int__impl_NatOk_1_L0r N (fun y0 y1 y2 => slices_IndexFunc_int_int__impl_NatOk_1_L0 N n y0 y1 y2 k0 k1) k0 k1 v438 v439 v440 := by rw [slices_IndexFunc_int_int__impl_NatOk_1_L0.eq]; rfl
/-- slices.IndexFunc[[]int,int] -/
noncomputable def slices_IndexFunc_int_int__impl_NatOk_1.b {α : Type} (N : Nat) (a436 : List Int) (k0 : Int → Option α) : Option α :=
  let x437 := ((a436.length : Nat) : Int)
  slices_IndexFunc_int_int__impl_NatOk_1_L0 N N a436 x437 (0 : Int)
    (fun x453 =>
      k0 x453)
    (
      k0 (-1 : Int))
theorem slices_IndexFunc_int_int__impl_NatOk_1.ex : ∃ f : ((α : Type) → Nat → List Int → (Int → Option α) → Option α), f = fun α => @slices_IndexFunc_int_int__impl_NatOk_1.b α := ⟨_, rfl⟩
noncomputable def slices_IndexFunc_int_int__impl_NatOk_1 {α : Type} : Nat → List Int → (Int → Option α) → Option α := Classical.choose slices_IndexFunc_int_int__impl_NatOk_1.ex α
theorem slices_IndexFunc_int_int__impl_NatOk_1.eq : @slices_IndexFunc_int_int__impl_NatOk_1 = @slices_IndexFunc_int_int__impl_NatOk_1.b := funext fun α => congrFun (Classical.choose_spec slices_IndexFunc_int_int__impl_NatOk_1.ex) α

/-- slices.ContainsFunc[[]int,int] -/
noncomputable def slices_ContainsFunc_int_int__impl_NatOk_1.b {α : Type} (N : Nat) (a435 : List Int) (k0 : Bool → Option α) : Option α :=
  slices_IndexFunc_int_int__impl_NatOk_1 N a435
    (fun x454 =>
      let x455 := (decide ((0 : Int) ≤ x454))
      k0 x455)
theorem slices_ContainsFunc_int_int__impl_NatOk_1.ex : ∃ f : ((α : Type) → Nat → List Int → (Bool → Option α) → Option α), f = fun α => @slices_ContainsFunc_int_int__impl_NatOk_1.b α := ⟨_, rfl⟩
noncomputable def slices_ContainsFunc_int_int__impl_NatOk_1 {α : Type} : Nat → List Int → (Bool → Option α) → Option α := Classical.choose slices_ContainsFunc_int_int__impl_NatOk_1.ex α
theorem slices_ContainsFunc_int_int__impl_NatOk_1.eq : @slices_ContainsFunc_int_int__impl_NatOk_1 = @slices_ContainsFunc_int_int__impl_NatOk_1.b := funext fun α => congrFun (Classical.choose_spec slices_ContainsFunc_int_int__impl_NatOk_1.ex) α

/-- loop.example/pinfold/impl.NatOk -/
noncomputable def impl_NatOk.b {α : Type} (N : Nat) (a430 : List Int) (k0 : Bool → Option α) : Option α :=
  let x431 := ((a430.length : Nat) : Int)
  let x432 := (decide (x431 ≤ (256 : Int)))
  bif x432 then
    let x433 := ((a430.length : Nat) : Int)
    let x434 := (decide (x433 = (0 : Int)))
    bif x434 then
      slices_ContainsFunc_int_int__impl_NatOk_1 N a430
        (fun x456 =>
          let x457 := !x456
          k0 x457)
    else
      let x458 := ((a430.length : Nat) : Int)
      let x459 := (IntKind.i64.wrap (x458 - (1 : Int)))
      bif (decide (x459 < (0 : Int))) then
        none
      else
        match a430[x459.toNat]? with
        | some x460 =>
          let x461 := (!(decide (x460 = (0 : Int))))
          bif x461 then
            slices_ContainsFunc_int_int__impl_NatOk_1 N a430
              (fun x462 =>
                let x463 := !x462
                k0 x463)
          else
            k0 false
        | none => none
  else
    k0 false
theorem impl_NatOk.ex : ∃ f : ((α : Type) → Nat → List Int → (Bool → Option α) → Option α), f = fun α => @impl_NatOk.b α := ⟨_, rfl⟩
noncomputable def impl_NatOk {α : Type} : Nat → List Int → (Bool → Option α) → Option α := Classical.choose impl_NatOk.ex α
theorem impl_NatOk.eq : @impl_NatOk = @impl_NatOk.b := funext fun α => congrFun (Classical.choose_spec impl_NatOk.ex) α

/-- loop.example/pinfold/impl.nats$1 -/
noncomputable def impl_nats_1.b {α : Type} (N : Nat) (a429 : List Int) (k0 : Bool → Option α) : Option α :=
  impl_NatOk N a429
    (fun x464 =>
      let x465 := !x464
      k0 x465)
theorem impl_nats_1.ex : ∃ f : ((α : Type) → Nat → List Int → (Bool → Option α) → Option α), f = fun α => @impl_nats_1.b α := ⟨_, rfl⟩
noncomputable def impl_nats_1 {α : Type} : Nat → List Int → (Bool → Option α) → Option α := Classical.choose impl_nats_1.ex α
theorem impl_nats_1.eq : @impl_nats_1 = @impl_nats_1.b := funext fun α => congrFun (Classical.choose_spec impl_nats_1.ex) α

noncomputable def slices_IndexFunc_int_int__impl_nats_1_L0r {α : Type} (N : Nat) (next : List (List Int) → Int → Int → Option α) (k0 : Int → Option α) (k1 : Option α) (v424 : List (List Int)) (v425 : Int) (v426 : Int) : Option α :=
  let x427 := decide (v426 < v425)
  bif x427 then
    bif (decide (v426 < (0 : Int))) then
      none
    else
      match v424[v426.toNat]? with
      | some x428 =>
        impl_nats_1 N x428
          (fun x466 =>
            bif x466 then
              k0 v426
            else
              let x467 := (IntKind.i64.wrap (v426 + (1 : Int)))
              next v424 v425 x467)
      | none => none
  else
    k1
noncomputable def slices_IndexFunc_int_int__impl_nats_1_L0.b {α : Type} (N n : Nat) (v424 : List (List Int)) (v425 : Int) (v426 : Int) (k0 : Int → Option α) (k1 : Option α) : Option α :=
  Nat.rec (motive := fun _ => List (List Int) → Int → Int → Option α) (fun _ _ _ => none) (fun _ next => slices_IndexFunc_int_int__impl_nats_1_L0r N next k0 k1) n v424 v425 v426
theorem slices_IndexFunc_int_int__impl_nats_1_L0.ex : ∃ f : ((α : Type) → Nat → Nat → List (List Int) → Int → Int → (Int → Option α) → (Option α) → Option α), f = fun α => @slices_IndexFunc_int_int__impl_nats_1_L0.b α := ⟨_, rfl⟩
noncomputable def slices_IndexFunc_int_int__impl_nats_1_L0 {α : Type} : Nat → Nat → List (List Int) → Int → Int → (Int → Option α) → (Option α) → Option α := Classical.choose slices_IndexFunc_int_int__impl_nats_1_L0.ex α
theorem slices_IndexFunc_int_int__impl_nats_1_L0.eq : @slices_IndexFunc_int_int__impl_nats_1_L0 = @slices_IndexFunc_int_int__impl_nats_1_L0.b := funext fun α => congrFun (Classical.choose_spec slices_IndexFunc_int_int__impl_nats_1_L0.ex) α
theorem slices_IndexFunc_int_int__impl_nats_1_L0.zero {α : Type} (N : Nat) (v424 : List (List Int)) (v425 : Int) (v426 : Int) (k0 : Int → Option α) (k1 : Option α) : slices_IndexFunc_int_int__impl_nats_1_L0 N 0 v424 v425 v426 k0 k1 = none := by rw [slices_IndexFunc_int_int__impl_nats_1_L0.eq]; rfl
theorem slices_IndexFunc_int_int__impl_nats_1_L0.succ {α : Type} (N n : Nat) (v424 : List (List Int)) (v425 : Int) (v426 : Int) (k0 : Int → Option α) (k1 : Option α) : slices_IndexFunc_int_int__impl_nats_1_L0 N (n + 1) v424 v425 v426 k0 k1 = slices_IndexFunc_int_int__impl_nats_1_L0r N (fun y0 y1 y2 => slices_IndexFunc_int_int__impl_nats_1_L0 N n y0 y1 y2 k0 k1) k0 k1 v424 v425 v426 := by rw [slices_IndexFunc_int_int__impl_nats_1_L0.eq]; rfl
/-- slices.IndexFunc[[][]int,[]int] -/
noncomputable def slices_IndexFunc_int_int__impl_nats_1.b {α : Type} (N : Nat) (a422 : List (List Int)) (k0 : Int → Option α) : Option α :=
  let x423 := ((a422.length : Nat) : Int)
  slices_IndexFunc_int_int__impl_nats_1_L0 N N a422 x423 (0 : Int)
    (fun x468 =>
      k0 x468)
    (
      k0 (-1 : Int))
theorem slices_IndexFunc_int_int__impl_nats_1.ex : ∃ f : ((α : Type) → Nat → List (List Int) → (Int → Option α) → Option α), f = fun α => @slices_IndexFunc_int_int__impl_nats_1.b α := ⟨_, rfl⟩
noncomputable def slices_IndexFunc_int_int__impl_nats_1 {α : Type} : Nat → List (List Int) → (Int → Option α) → Option α := Classical.choose slices_IndexFunc_int_int__impl_nats_1.ex α
theorem slices_IndexFunc_int_int__impl_nats_1.eq : @slices_IndexFunc_int_int__impl_nats_1 = @slices_IndexFunc_int_int__impl_nats_1.b := funext fun α => congrFun (Classical.choose_spec slices_IndexFunc_int_int__impl_nats_1.ex) α

/-- slices.ContainsFunc[[][]int,[]int] -/
noncomputable def slices_ContainsFunc_int_int__impl_nats_1.b {α : Type} (N : Nat) (a421 : List (List Int)) (k0 : Bool → Option α) : Option α :=
  slices_IndexFunc_int_int__impl_nats_1 N a421
    (fun x469 =>
      let x470 := (decide ((0 : Int) ≤ x469))
      k0 x470)
theorem slices_ContainsFunc_int_int__impl_nats_1.ex : ∃ f : ((α : Type) → Nat → List (List Int) → (Bool → Option α) → Option α), f = fun α => @slices_ContainsFunc_int_int__impl_nats_1.b α := ⟨_, rfl⟩
noncomputable def slices_ContainsFunc_int_int__impl_nats_1 {α : Type} : Nat → List (List Int) → (Bool → Option α) → Option α := Classical.choose slices_ContainsFunc_int_int__impl_nats_1.ex α
theorem slices_ContainsFunc_int_int__impl_nats_1.eq : @slices_ContainsFunc_int_int__impl_nats_1 = @slices_ContainsFunc_int_int__impl_nats_1.b := funext fun α => congrFun (Classical.choose_spec slices_ContainsFunc_int_int__impl_nats_1.ex) α

/-- loop.example/pinfold/impl.nats -/
noncomputable def impl_nats.b {α : Type} (N : Nat) (a420 : List (List Int)) (k0 : Bool → Option α) : Option α :=
  slices_ContainsFunc_int_int__impl_nats_1 N a420
    (fun x471 =>
      let x472 := !x471
      k0 x472)
theorem impl_nats.ex : ∃ f : ((α : Type) → Nat → List (List Int) → (Bool → Option α) → Option α), f = fun α => @impl_nats.b α := ⟨_, rfl⟩
noncomputable def impl_nats {α : Type} : Nat → List (List Int) → (Bool → Option α) → Option α := Classical.choose impl_nats.ex α
theorem impl_nats.eq : @impl_nats = @impl_nats.b := funext fun α => congrFun (Classical.choose_spec impl_nats.ex) α

noncomputable def impl_natCmp_L0r {α : Type} (N : Nat) (next : List Int → List Int → Int → Option α) (k0 : Int → Option α) (k1 : Option α) (v569 : List Int) (v570 : List Int) (v571 : Int) : Option α :=
  let x572 := (decide ((0 : Int) ≤ v571))
  bif x572 then
    bif (decide (v571 < (0 : Int))) then
      none
    else
      match v569[v571.toNat]? with
      | some x573 =>
        bif (decide (v571 < (0 : Int))) then
          none
        else
          match v570[v571.toNat]? with
          | some x574 =>
            let x575 := !(decide (x573 = x574))
            bif x575 then
              bif (decide (v571 < (0 : Int))) then
                none
              else
                match v569[v571.toNat]? with
                | some x576 =>
                  bif (decide (v571 < (0 : Int))) then
                    none
                  else
                    match v570[v571.toNat]? with
                    | some x577 =>
                      let x578 := IntKind.i64.wrap (x576 - x577)
                      let x579 := (minI (1 : Int) x578)
                      let x580 := (maxI (-1 : Int) x579)
                      k0 x580
                    | none => none
                | none => none
            else
              let x581 := (IntKind.i64.wrap (v571 - (1 : Int)))
              next v569 v570 x581
          | none => none
      | none => none
  else
    k1
noncomputable def impl_natCmp_L0.b {α : Type} (N n : Nat) (v569 : List Int) (v570 : List Int) (v571 : Int) (k0 : Int → Option α) (k1 : Option α) : Option α :=
  Nat.rec (motive := fun _ => List Int → List Int → Int → Option α) (fun _ _ _ => none) (fun _ next => impl_natCmp_L0r N next k0 k1) n v569 v570 v571
theorem impl_natCmp_L0.ex : ∃ f : ((α : Type) → Nat → Nat → List Int → List Int → Int → (Int → Option α) → (Option α) → Option α), f = fun α => @impl_natCmp_L0.b α := ⟨_, rfl⟩
noncomputable def impl_natCmp_L0 {α : Type} : Nat → Nat → List Int → List Int → Int → (Int → Option α) → (Option α) → Option α := Classical.choose impl_natCmp_L0.ex α
theorem impl_natCmp_L0.eq : @impl_natCmp_L0 = @impl_natCmp_L0.b := funext fun α => congrFun (Classical.choose_spec impl_natCmp_L0.ex) α
theorem impl_natCmp_L0.zero {α : Type} (N : Nat) (v569 : List Int) (v570 : List Int) (v571 : Int) (k0 : Int → Option α) (k1 : Option α) : impl_natCmp_L0 N 0 v569 v570 v571 k0 k1 = none := by rw [impl_natCmp_L0.eq]; rfl
theorem impl_natCmp_L0.succ {α : Type} (N n : Nat) (v569 : List Int) (v570 : List Int) (v571 : Int) (k0 : Int → Option α) (k1 : Option α) : impl_natCmp_L0 N (n + 1) v569 v570 v571 k0 k1 = impl_natCmp_L0r N (fun y0 y1 y2 => impl_natCmp_L0 N n y0 y1 y2 k0 k1) k0 k1 v569 v570 v571 := by rw [impl_natCmp_L0.eq]; rfl
/-- loop.example/pinfold/impl.natCmp -/
noncomputable def impl_natCmp.b {α : Type} (N : Nat) (a557 : List Int) (a558 : List Int) (k0 : Int → Option α) : Option α :=
  let x559 := ((a557.length : Nat) : Int)
  let x560 := ((a558.length : Nat) : Int)
  let x561 := !(decide (x559 = x560))
  bif x561 then
    let x562 := ((a557.length : Nat) : Int)
    let x563 := ((a558.length : Nat) : Int)
    let x564 := IntKind.i64.wrap (x562 - x563)
    let x565 := (minI (1 : Int) x564)
    let x566 := (maxI (-1 : Int) x565)
    k0 x566
  else
    let x567 := ((a557.length : Nat) : Int)
    let x568 := (IntKind.i64.wrap (x567 - (1 : Int)))
    impl_natCmp_L0 N N a557 a558 x568
      (fun x582 =>
        k0 x582)
      (
        k0 (0 : Int))
theorem impl_natCmp.ex : ∃ f : ((α : Type) → Nat → List Int → List Int → (Int → Option α) → Option α), f = fun α => @impl_natCmp.b α := ⟨_, rfl⟩
noncomputable def impl_natCmp {α : Type} : Nat → List Int → List Int → (Int → Option α) → Option α := Classical.choose impl_natCmp.ex α
theorem impl_natCmp.eq : @impl_natCmp = @impl_natCmp.b := funext fun α => congrFun (Classical.choose_spec impl_natCmp.ex) α

noncomputable def impl_trim_L0r {α : Type} (N : Nat) (next : List Int → Option α) (k0 : List Int → Option α) (v610 : List Int) : Option α :=
  let x611 := ((v610.length : Nat) : Int)
  let x612 := (decide ((0 : Int) < x611))
  bif x612 then
    let x613 := ((v610.length : Nat) : Int)
    let x614 := (IntKind.i64.wrap (x613 - (1 : Int)))
    bif (decide (x614 < (0 : Int))) then
      none
    else
      match v610[x614.toNat]? with
      | some x615 =>
        let x616 := (decide (x615 = (0 : Int)))
        bif x616 then
          let x617 := ((v610.length : Nat) : Int)
          let x618 := (IntKind.i64.wrap (x617 - (1 : Int)))
          bif (decide ((0 : Int) ≤ x618)) then
            bif (decide (x618 ≤ ((v610.length : Nat) : Int))) then
              let x619 := v610.take x618.toNat
              next x619
            else
              none
          else
            none
        else
          k0 v610
      | none => none
  else
    k0 v610
noncomputable def impl_trim_L0.b {α : Type} (N n : Nat) (v610 : List Int) (k0 : List Int → Option α) : Option α :=
  Nat.rec (motive := fun _ => List Int → Option α) (fun _ => none) (fun _ next => impl_trim_L0r N next k0) n v610
theorem impl_trim_L0.ex : ∃ f : ((α : Type) → Nat → Nat → List Int → (List Int → Option α) → Option α), f = fun α => @impl_trim_L0.b α := ⟨_, rfl⟩
noncomputable def impl_trim_L0 {α : Type} : Nat → Nat → List Int → (List Int → Option α) → Option α := Classical.choose impl_trim_L0.ex α
theorem impl_trim_L0.eq : @impl_trim_L0 = @impl_trim_L0.b := funext fun α => congrFun (Classical.choose_spec impl_trim_L0.ex) α
theorem impl_trim_L0.zero {α : Type} (N : Nat) (v610 : List Int) (k0 : List Int → Option α) : impl_trim_L0 N 0 v610 k0 = none := by rw [impl_trim_L0.eq]; rfl
theorem impl_trim_L0.succ {α : Type} (N n : Nat) (v610 : List Int) (k0 : List Int → Option α) : impl_trim_L0 N (n + 1) v610 k0 = impl_trim_L0r N (fun y0 => impl_trim_L0 N n y0 k0) k0 v610 := by rw [impl_trim_L0.eq]; rfl
/-- loop.example/pinfold/impl.trim -/
noncomputable def impl_trim.b {α : Type} (N : Nat) (a609 : List Int) (k0 : List Int → Option α) : Option α :=
  impl_trim_L0 N N a609
    (fun x620 =>
      k0 x620)
theorem impl_trim.ex : ∃ f : ((α : Type) → Nat → List Int → (List Int → Option α) → Option α), f = fun α => @impl_trim.b α := ⟨_, rfl⟩
noncomputable def impl_trim {α : Type} : Nat → List Int → (List Int → Option α) → Option α := Classical.choose impl_trim.ex α
theorem impl_trim.eq : @impl_trim = @impl_trim.b := funext fun α => congrFun (Classical.choose_spec impl_trim.ex) α

noncomputable def math_bits_Len64_J1.b {α : Type} (N : Nat) (v630 : Int) (v631 : Int) (k0 : Int → Int → Option α) : Option α :=
  let x632 := (decide ((4294967296 : Int) ≤ v630))
  bif x632 then
    let x633 := (shrI .u64 v630 (32 : Int))
    k0 x633 (32 : Int)
  else
    k0 v630 v631
theorem math_bits_Len64_J1.ex : ∃ f : ((α : Type) → Nat → Int → Int → (Int → Int → Option α) → Option α), f = fun α => @math_bits_Len64_J1.b α := ⟨_, rfl⟩
noncomputable def math_bits_Len64_J1 {α : Type} : Nat → Int → Int → (Int → Int → Option α) → Option α := Classical.choose math_bits_Len64_J1.ex α
theorem math_bits_Len64_J1.eq : @math_bits_Len64_J1 = @math_bits_Len64_J1.b := funext fun α => congrFun (Classical.choose_spec math_bits_Len64_J1.ex) α
noncomputable def math_bits_Len64_J4.b {α : Type} (N : Nat) (v636 : Int) (v637 : Int) (k0 : Int → Int → Option α) : Option α :=
  let x638 := (decide ((65536 : Int) ≤ v636))
  bif x638 then
    let x639 := (shrI .u64 v636 (16 : Int))
    let x640 := (IntKind.i64.wrap (v637 + (16 : Int)))
    k0 x639 x640
  else
    k0 v636 v637
theorem math_bits_Len64_J4.ex : ∃ f : ((α : Type) → Nat → Int → Int → (Int → Int → Option α) → Option α), f = fun α => @math_bits_Len64_J4.b α := ⟨_, rfl⟩
noncomputable def math_bits_Len64_J4 {α : Type} : Nat → Int → Int → (Int → Int → Option α) → Option α := Classical.choose math_bits_Len64_J4.ex α
theorem math_bits_Len64_J4.eq : @math_bits_Len64_J4 = @math_bits_Len64_J4.b := funext fun α => congrFun (Classical.choose_spec math_bits_Len64_J4.ex) α
noncomputable def math_bits_Len64_J7.b {α : Type} (N : Nat) (v643 : Int) (v644 : Int) (k0 : Int → Int → Option α) : Option α :=
  let x645 := (decide ((256 : Int) ≤ v643))
  bif x645 then
    let x646 := (shrI .u64 v643 (8 : Int))
    let x647 := (IntKind.i64.wrap (v644 + (8 : Int)))
    k0 x646 x647
  else
    k0 v643 v644
theorem math_bits_Len64_J7.ex : ∃ f : ((α : Type) → Nat → Int → Int → (Int → Int → Option α) → Option α), f = fun α => @math_bits_Len64_J7.b α := ⟨_, rfl⟩
noncomputable def math_bits_Len64_J7 {α : Type} : Nat → Int → Int → (Int → Int → Option α) → Option α := Classical.choose math_bits_Len64_J7.ex α
theorem math_bits_Len64_J7.eq : @math_bits_Len64_J7 = @math_bits_Len64_J7.b := funext fun α => congrFun (Classical.choose_spec math_bits_Len64_J7.ex) α
/-- math/bits.Len64 -/
noncomputable def math_bits_Len64.b {α : Type} (N : Nat) (a629 : Int) (k0 : Int → Option α) : Option α :=
  math_bits_Len64_J1 N a629 (0 : Int)
    (fun x634 x635 =>
      math_bits_Len64_J4 N x634 x635
        (fun x641 x642 =>
          math_bits_Len64_J7 N x641 x642
            (fun x648 x649 =>
              let x650 := IntKind.u8.wrap x648
              bif (decide (x650 < (0 : Int))) then
                none
              else
                match ((⟨#[0, 1, 2, 2, 3, 3, 3, 3, 4, 4, 4, 4, 4, 4, 4, 4, 5, 5, 5, 5, 5, 5, 5, 5, 5, 5, 5, 5, 5, 5, 5, 5, 6, 6, 6, 6, 6, 6, 6, 6, 6, 6, 6, 6, 6, 6, 6, 6, 6, 6, 6, 6, 6, 6, 6, 6, 6, 6, 6, 6, 6, 6, 6, 6, 7, 7, 7, 7, 7, 7, 7, 7, 7, 7, 7, 7, 7, 7, 7, 7, 7, 7, 7, 7, 7, 7, 7, 7, 7, 7, 7, 7, 7, 7, 7, 7, 7, 7, 7, 7, 7, 7, 7, 7, 7, 7, 7, 7, 7, 7, 7, 7, 7, 7, 7, 7, 7, 7, 7, 7, 7, 7, 7, 7, 7, 7, 7, 7, 8, 8, 8, 8, 8, 8, 8, 8, 8, 8, 8, 8, 8, 8, 8, 8, 8, 8, 8, 8, 8, 8, 8, 8, 8, 8, 8, 8, 8, 8, 8, 8, 8, 8, 8, 8, 8, 8, 8, 8, 8, 8, 8, 8, 8, 8, 8, 8, 8, 8, 8, 8, 8, 8, 8, 8, 8, 8, 8, 8, 8, 8, 8, 8, 8, 8, 8, 8, 8, 8, 8, 8, 8, 8, 8, 8, 8, 8, 8, 8, 8, 8, 8, 8, 8, 8, 8, 8, 8, 8, 8, 8, 8, 8, 8, 8, 8, 8, 8, 8, 8, 8, 8, 8, 8, 8, 8, 8, 8, 8, 8, 8, 8, 8, 8, 8, 8, 8, 8, 8, 8, 8, 8, 8, 8, 8, 8, 8]⟩ : ByteArray)[x650.toNat]? : Option UInt8) with
                | some x651 =>
                  let x652 := ((x651.toNat : Nat) : Int)
                  let x653 := IntKind.i64.wrap x652
                  let x654 := IntKind.i64.wrap (x649 + x653)
                  k0 x654
                | none => none)))
theorem math_bits_Len64.ex : ∃ f : ((α : Type) → Nat → Int → (Int → Option α) → Option α), f = fun α => @math_bits_Len64.b α := ⟨_, rfl⟩
noncomputable def math_bits_Len64 {α : Type} : Nat → Int → (Int → Option α) → Option α := Classical.choose math_bits_Len64.ex α
theorem math_bits_Len64.eq : @math_bits_Len64 = @math_bits_Len64.b := funext fun α => congrFun (Classical.choose_spec math_bits_Len64.ex) α

/-- math/bits.Len -/
noncomputable def math_bits_Len.b {α : Type} (N : Nat) (a628 : Int) (k0 : Int → Option α) : Option α :=
  math_bits_Len64 N a628
    (fun x655 =>
      k0 x655)
theorem math_bits_Len.ex : ∃ f : ((α : Type) → Nat → Int → (Int → Option α) → Option α), f = fun α => @math_bits_Len.b α := ⟨_, rfl⟩
noncomputable def math_bits_Len {α : Type} : Nat → Int → (Int → Option α) → Option α := Classical.choose math_bits_Len.ex α
theorem math_bits_Len.eq : @math_bits_Len = @math_bits_Len.b := funext fun α => congrFun (Classical.choose_spec math_bits_Len.ex) α

/-- slices.Clone[[]int,int] -/
noncomputable def slices_Clone_int_int {α : Type} (N : Nat) (a1 : List Int) (k0 : List Int → Option α) : Option α :=
  bif decide (([] : List Int).length + a1.length ≤ 8796093022208) then k0 a1 else none

noncomputable def impl_natShift_J10.b {α : Type} (N : Nat) (v734 : List Int) (v735 : Int) (v736 : Int) (v737 : Int) (v738 : Int) (v739 : Int) (v740 : List Int) (k0 : List Int → Int → Int → Int → Int → List Int → Option α) : Option α :=
  let x741 := IntKind.i64.wrap (v735 + v737)
  let x742 := (IntKind.i64.wrap (x741 + (1 : Int)))
  let x743 := ((v734.length : Nat) : Int)
  let x744 := decide (x742 < x743)
  bif x744 then
    bif (decide (v737 < (0 : Int))) then
      none
    else
      bif decide (v737.toNat < v740.length) then
        match v740[v737.toNat]? with
        | some x745 =>
          let x746 := IntKind.i64.wrap (v735 + v737)
          let x747 := (IntKind.i64.wrap (x746 + (1 : Int)))
          bif (decide (x747 < (0 : Int))) then
            none
          else
            match v734[x747.toNat]? with
            | some x748 =>
              let x749 := (IntKind.i64.wrap ((16 : Int) - v736))
              bif (decide (x749 < (0 : Int))) then
                none
              else
                let x750 := shlI .i64 x748 x749
                let x751 := (bitI .and .i64 x750 (65535 : Int))
                let x752 := bitI .or .i64 x745 x751
                bif (decide (v737 < (0 : Int))) then
                  none
                else
                  bif decide (v737.toNat < v740.length) then
                    match v740[v737.toNat]? with
                    | some x753 =>
                      let x754 := v740.set v737.toNat x752
                      k0 v734 v735 v736 v738 v739 x754
                    | none => none
                  else
                    none
            | none => none
        | none => none
      else
        none
  else
    k0 v734 v735 v736 v738 v739 v740
theorem impl_natShift_J10.ex : ∃ f : ((α : Type) → Nat → List Int → Int → Int → Int → Int → Int → List Int → (List Int → Int → Int → Int → Int → List Int → Option α) → Option α), f = fun α => @impl_natShift_J10.b α := ⟨_, rfl⟩
noncomputable def impl_natShift_J10 {α : Type} : Nat → List Int → Int → Int → Int → Int → Int → List Int → (List Int → Int → Int → Int → Int → List Int → Option α) → Option α := Classical.choose impl_natShift_J10.ex α
theorem impl_natShift_J10.eq : @impl_natShift_J10 = @impl_natShift_J10.b := funext fun α => congrFun (Classical.choose_spec impl_natShift_J10.ex) α
noncomputable def impl_natShift_L0r {α : Type} (N : Nat) (next : List Int → Int → Int → Int → Int → List Int → Option α) (k0 : List Int → Option α) (v723 : List Int) (v724 : Int) (v725 : Int) (v726 : Int) (v727 : Int) (v728 : List Int) : Option α :=
  let x729 := decide (v727 < v726)
  bif x729 then
    bif (decide (v727 < (0 : Int))) then
      none
    else
      bif decide (v727.toNat < v728.length) then
        match v728[v727.toNat]? with
        | some x730 =>
          bif (decide (v725 < (0 : Int))) then
            none
          else
            let x731 := shrI .i64 x730 v725
            bif (decide (v727 < (0 : Int))) then
              none
            else
              bif decide (v727.toNat < v728.length) then
                match v728[v727.toNat]? with
                | some x732 =>
                  let x733 := v728.set v727.toNat x731
                  impl_natShift_J10 N v723 v724 v725 v727 v726 v727 x733
                    (fun x755 x756 x757 x758 x759 x760 =>
                      let x761 := (IntKind.i64.wrap (x759 + (1 : Int)))
                      next x755 x756 x757 x758 x761 x760)
                | none => none
              else
                none
        | none => none
      else
        none
  else
    k0 v728
noncomputable def impl_natShift_L0.b {α : Type} (N n : Nat) (v723 : List Int) (v724 : Int) (v725 : Int) (v726 : Int) (v727 : Int) (v728 : List Int) (k0 : List Int → Option α) : Option α :=
  Nat.rec (motive := fun _ => List Int → Int → Int → Int → Int → List Int → Option α) (fun _ _ _ _ _ _ => none) (fun _ next => impl_natShift_L0r N next k0) n v723 v724 v725 v726 v727 v728
theorem impl_natShift_L0.ex : ∃ f : ((α : Type) → Nat → Nat → List Int → Int → Int → Int → Int → List Int → (List Int → Option α) → Option α), f = fun α => @impl_natShift_L0.b α := ⟨_, rfl⟩
noncomputable def impl_natShift_L0 {α : Type} : Nat → Nat → List Int → Int → Int → Int → Int → List Int → (List Int → Option α) → Option α := Classical.choose impl_natShift_L0.ex α
theorem impl_natShift_L0.eq : @impl_natShift_L0 = @impl_natShift_L0.b := funext fun α => congrFun (Classical.choose_spec impl_natShift_L0.ex) α
theorem impl_natShift_L0.zero {α : Type} (N : Nat) (v723 : List Int) (v724 : Int) (v725 : Int) (v726 : Int) (v727 : Int) (v728 : List Int) (k0 : List Int → Option α) : impl_natShift_L0 N 0 v723 v724 v725 v726 v727 v728 k0 = none := by rw [impl_natShift_L0.eq]; rfl
theorem impl_natShift_L0.succ {α : Type} (N n : Nat) (v723 : List Int) (v724 : Int) (v725 : Int) (v726 : Int) (v727 : Int) (v728 : List Int) (k0 : List Int → Option α) : impl_natShift_L0 N (n + 1) v723 v724 v725 v726 v727 v728 k0 = impl_natShift_L0r N (fun y0 y1 y2 y3 y4 y5 => impl_natShift_L0 N n y0 y1 y2 y3 y4 y5 k0) k0 v723 v724 v725 v726 v727 v728 := by rw [impl_natShift_L0.eq]; rfl
noncomputable def impl_natShift_L2r {α : Type} (N : Nat) (next : Int → List Int → Int → Int → List Int → Option α) (k0 : List Int → Option α) (v770 : Int) (v771 : List Int) (v772 : Int) (v773 : Int) (v774 : List Int) : Option α :=
  let x775 := decide (v773 < v772)
  bif x775 then
    bif (decide (v773 < (0 : Int))) then
      none
    else
      match v771[v773.toNat]? with
      | some x776 =>
        let x777 := (Int.tmod v770 (16 : Int))
        bif (decide (x777 < (0 : Int))) then
          none
        else
          let x778 := shlI .i64 x776 x777
          let x779 := (IntKind.i64.wrap (Int.tdiv v770 (16 : Int)))
          let x780 := IntKind.i64.wrap (x779 + v773)
          bif (decide (x780 < (0 : Int))) then
            none
          else
            bif decide (x780.toNat < v774.length) then
              match v774[x780.toNat]? with
              | some x781 =>
                let x782 := (bitI .and .i64 x778 (65535 : Int))
                let x783 := bitI .or .i64 x781 x782
                bif (decide (x780 < (0 : Int))) then
                  none
                else
                  bif decide (x780.toNat < v774.length) then
                    match v774[x780.toNat]? with
                    | some x784 =>
                      let x785 := v774.set x780.toNat x783
                      let x786 := (IntKind.i64.wrap (Int.tdiv v770 (16 : Int)))
                      let x787 := IntKind.i64.wrap (x786 + v773)
                      let x788 := (IntKind.i64.wrap (x787 + (1 : Int)))
                      let x789 := (shrI .i64 x778 (16 : Int))
                      bif (decide (x788 < (0 : Int))) then
                        none
                      else
                        bif decide (x788.toNat < x785.length) then
                          match x785[x788.toNat]? with
                          | some x790 =>
                            let x791 := x785.set x788.toNat x789
                            let x792 := (IntKind.i64.wrap (v773 + (1 : Int)))
                            next v770 v771 v772 x792 x791
                          | none => none
                        else
                          none
                    | none => none
                  else
                    none
              | none => none
            else
              none
      | none => none
  else
    k0 v774
noncomputable def impl_natShift_L2.b {α : Type} (N n : Nat) (v770 : Int) (v771 : List Int) (v772 : Int) (v773 : Int) (v774 : List Int) (k0 : List Int → Option α) : Option α :=
  Nat.rec (motive := fun _ => Int → List Int → Int → Int → List Int → Option α) (fun _ _ _ _ _ => none) (fun _ next => impl_natShift_L2r N next k0) n v770 v771 v772 v773 v774
theorem impl_natShift_L2.ex : ∃ f : ((α : Type) → Nat → Nat → Int → List Int → Int → Int → List Int → (List Int → Option α) → Option α), f = fun α => @impl_natShift_L2.b α := ⟨_, rfl⟩
noncomputable def impl_natShift_L2 {α : Type} : Nat → Nat → Int → List Int → Int → Int → List Int → (List Int → Option α) → Option α := Classical.choose impl_natShift_L2.ex α
theorem impl_natShift_L2.eq : @impl_natShift_L2 = @impl_natShift_L2.b := funext fun α => congrFun (Classical.choose_spec impl_natShift_L2.ex) α
theorem impl_natShift_L2.zero {α : Type} (N : Nat) (v770 : Int) (v771 : List Int) (v772 : Int) (v773 : Int) (v774 : List Int) (k0 : List Int → Option α) : impl_natShift_L2 N 0 v770 v771 v772 v773 v774 k0 = none := by rw [impl_natShift_L2.eq]; rfl
theorem impl_natShift_L2.succ {α : Type} (N n : Nat) (v770 : Int) (v771 : List Int) (v772 : Int) (v773 : Int) (v774 : List Int) (k0 : List Int → Option α) : impl_natShift_L2 N (n + 1) v770 v771 v772 v773 v774 k0 = impl_natShift_L2r N (fun y0 y1 y2 y3 y4 => impl_natShift_L2 N n y0 y1 y2 y3 y4 k0) k0 v770 v771 v772 v773 v774 := by rw [impl_natShift_L2.eq]; rfl
/-- loop.example/pinfold/impl.natShift -/
noncomputable def impl_natShift.b {α : Type} (N : Nat) (a711 : List Int) (a712 : Int) (k0 : List Int → Option α) : Option α :=
  let x713 := (decide (a712 < (0 : Int)))
  bif x713 then
    let x714 := IntKind.i64.wrap (0 - a712)
    let x715 := (IntKind.i64.wrap (Int.tdiv x714 (16 : Int)))
    let x716 := IntKind.i64.wrap (0 - a712)
    let x717 := (Int.tmod x716 (16 : Int))
    let x718 := ((a711.length : Nat) : Int)
    let x719 := decide (x718 ≤ x715)
    bif x719 then
      k0 []
    else
      bif (decide ((0 : Int) ≤ x715)) then
        bif (decide (x715 ≤ ((a711.length : Nat) : Int))) then
          let x720 := a711.drop x715.toNat
          slices_Clone_int_int N x720
            (fun x721 =>
              let x722 := ((x721.length : Nat) : Int)
              impl_natShift_L0 N N a711 x715 x717 x722 (0 : Int) x721
                (fun x762 =>
                  impl_trim N x762
                    (fun x763 =>
                      k0 x763)))
        else
          none
      else
        none
  else
    let x764 := (IntKind.i64.wrap (Int.tdiv a712 (16 : Int)))
    let x765 := ((a711.length : Nat) : Int)
    let x766 := IntKind.i64.wrap (x764 + x765)
    let x767 := (IntKind.i64.wrap (x766 + (1 : Int)))
    bif (decide ((0 : Int) ≤ x767)) then
      bif decide (x767 ≤ x767) then
        bif (decide (x767 ≤ ((8796093022208 : Nat) : Int))) then
          let x768 := (List.replicate x767.toNat (0 : Int))
          let x769 := ((a711.length : Nat) : Int)
          impl_natShift_L2 N N a712 a711 x769 (0 : Int) x768
            (fun x793 =>
              impl_trim N x793
                (fun x794 =>
                  k0 x794))
        else
          none
      else
        none
    else
      none
theorem impl_natShift.ex : ∃ f : ((α : Type) → Nat → List Int → Int → (List Int → Option α) → Option α), f = fun α => @impl_natShift.b α := ⟨_, rfl⟩
noncomputable def impl_natShift {α : Type} : Nat → List Int → Int → (List Int → Option α) → Option α := Classical.choose impl_natShift.ex α
theorem impl_natShift.eq : @impl_natShift = @impl_natShift.b := funext fun α => congrFun (Classical.choose_spec impl_natShift.ex) α

noncomputable def impl_natDiv_L0r {α : Type} (N : Nat) (next : List Int → List Int → Int → Int → List Int → Option α) (k0 : Int → List Int → Option α) (v591 : List Int) (v592 : List Int) (v593 : Int) (v594 : Int) (v595 : List Int) : Option α :=
  let x596 := (decide ((0 : Int) ≤ v594))
  bif x596 then
    let x597 := (shlI .i64 v593 (16 : Int))
    bif (decide (v594 < (0 : Int))) then
      none
    else
      match v591[v594.toNat]? with
      | some x598 =>
        let x599 := bitI .or .i64 x597 x598
        match v592[0]? with
        | some x600 =>
          bif (decide (x600 = (0 : Int))) then
            none
          else
            let x601 := IntKind.i64.wrap (Int.tdiv x599 x600)
            match v592[0]? with
            | some x602 =>
              bif (decide (x602 = (0 : Int))) then
                none
              else
                let x603 := Int.tmod x599 x602
                bif (decide (v594 < (0 : Int))) then
                  none
                else
                  bif decide (v594.toNat < v595.length) then
                    match v595[v594.toNat]? with
                    | some x604 =>
                      let x605 := v595.set v594.toNat x601
                      let x606 := (IntKind.i64.wrap (v594 - (1 : Int)))
                      next v591 v592 x603 x606 x605
                    | none => none
                  else
                    none
            | none => none
        | none => none
      | none => none
  else
    k0 v593 v595
noncomputable def impl_natDiv_L0.b {α : Type} (N n : Nat) (v591 : List Int) (v592 : List Int) (v593 : Int) (v594 : Int) (v595 : List Int) (k0 : Int → List Int → Option α) : Option α :=
  Nat.rec (motive := fun _ => List Int → List Int → Int → Int → List Int → Option α) (fun _ _ _ _ _ => none) (fun _ next => impl_natDiv_L0r N next k0) n v591 v592 v593 v594 v595
theorem impl_natDiv_L0.ex : ∃ f : ((α : Type) → Nat → Nat → List Int → List Int → Int → Int → List Int → (Int → List Int → Option α) → Option α), f = fun α => @impl_natDiv_L0.b α := ⟨_, rfl⟩
noncomputable def impl_natDiv_L0 {α : Type} : Nat → Nat → List Int → List Int → Int → Int → List Int → (Int → List Int → Option α) → Option α := Classical.choose impl_natDiv_L0.ex α
theorem impl_natDiv_L0.eq : @impl_natDiv_L0 = @impl_natDiv_L0.b := funext fun α => congrFun (Classical.choose_spec impl_natDiv_L0.ex) α
theorem impl_natDiv_L0.zero {α : Type} (N : Nat) (v591 : List Int) (v592 : List Int) (v593 : Int) (v594 : Int) (v595 : List Int) (k0 : Int → List Int → Option α) : impl_natDiv_L0 N 0 v591 v592 v593 v594 v595 k0 = none := by rw [impl_natDiv_L0.eq]; rfl
theorem impl_natDiv_L0.succ {α : Type} (N n : Nat) (v591 : List Int) (v592 : List Int) (v593 : Int) (v594 : Int) (v595 : List Int) (k0 : Int → List Int → Option α) : impl_natDiv_L0 N (n + 1) v591 v592 v593 v594 v595 k0 = impl_natDiv_L0r N (fun y0 y1 y2 y3 y4 => impl_natDiv_L0 N n y0 y1 y2 y3 y4 k0) k0 v591 v592 v593 v594 v595 := by rw [impl_natDiv_L0.eq]; rfl
noncomputable def impl_natDiv_L2r {α : Type} (N : Nat) (next : List Int → Int → List Int → Int → List Int → Option α) (k0 : Int → List Int → Int → List Int → Option α) (v801 : List Int) (v802 : Int) (v803 : List Int) (v804 : Int) (v805 : List Int) : Option α :=
  let x806 := ((v805.length : Nat) : Int)
  let x807 := ((v801.length : Nat) : Int)
  let x808 := (IntKind.i64.wrap (x807 + (1 : Int)))
  let x809 := decide (x806 < x808)
  bif x809 then
    let x810 := [(0 : Int)]
    bif decide (v805.length + x810.length ≤ 8796093022208) then
      let x811 := v805 ++ x810
      next v801 v802 v803 v804 x811
    else
      none
  else
    k0 v802 v803 v804 v805
noncomputable def impl_natDiv_L2.b {α : Type} (N n : Nat) (v801 : List Int) (v802 : Int) (v803 : List Int) (v804 : Int) (v805 : List Int) (k0 : Int → List Int → Int → List Int → Option α) : Option α :=
  Nat.rec (motive := fun _ => List Int → Int → List Int → Int → List Int → Option α) (fun _ _ _ _ _ => none) (fun _ next => impl_natDiv_L2r N next k0) n v801 v802 v803 v804 v805
theorem impl_natDiv_L2.ex : ∃ f : ((α : Type) → Nat → Nat → List Int → Int → List Int → Int → List Int → (Int → List Int → Int → List Int → Option α) → Option α), f = fun α => @impl_natDiv_L2.b α := ⟨_, rfl⟩
noncomputable def impl_natDiv_L2 {α : Type} : Nat → Nat → List Int → Int → List Int → Int → List Int → (Int → List Int → Int → List Int → Option α) → Option α := Classical.choose impl_natDiv_L2.ex α
theorem impl_natDiv_L2.eq : @impl_natDiv_L2 = @impl_natDiv_L2.b := funext fun α => congrFun (Classical.choose_spec impl_natDiv_L2.ex) α
theorem impl_natDiv_L2.zero {α : Type} (N : Nat) (v801 : List Int) (v802 : Int) (v803 : List Int) (v804 : Int) (v805 : List Int) (k0 : Int → List Int → Int → List Int → Option α) : impl_natDiv_L2 N 0 v801 v802 v803 v804 v805 k0 = none := by rw [impl_natDiv_L2.eq]; rfl
theorem impl_natDiv_L2.succ {α : Type} (N n : Nat) (v801 : List Int) (v802 : Int) (v803 : List Int) (v804 : Int) (v805 : List Int) (k0 : Int → List Int → Int → List Int → Option α) : impl_natDiv_L2 N (n + 1) v801 v802 v803 v804 v805 k0 = impl_natDiv_L2r N (fun y0 y1 y2 y3 y4 => impl_natDiv_L2 N n y0 y1 y2 y3 y4 k0) k0 v801 v802 v803 v804 v805 := by rw [impl_natDiv_L2.eq]; rfl
noncomputable def impl_natDiv_L6r {α : Type} (N : Nat) (next : Int → List Int → Int → Int → Int → Int → List Int → List Int → Option α) (k0 : Int → List Int → Int → Int → Int → List Int → List Int → Option α) (v842 : Int) (v843 : List Int) (v844 : Int) (v845 : Int) (v846 : Int) (v847 : Int) (v848 : List Int) (v849 : List Int) : Option α :=
  let x850 := (decide ((65536 : Int) ≤ v846))
  bif x850 then
    let x851 := (IntKind.i64.wrap (v846 - (1 : Int)))
    let x852 := (IntKind.i64.wrap (v844 - (1 : Int)))
    bif (decide (x852 < (0 : Int))) then
      none
    else
      match v843[x852.toNat]? with
      | some x853 =>
        let x854 := IntKind.i64.wrap (v847 + x853)
        let x855 := (decide ((65536 : Int) ≤ x854))
        bif x855 then
          k0 v842 v843 v844 v845 x851 v848 v849
        else
          next v842 v843 v844 v845 x851 x854 v848 v849
      | none => none
  else
    let x856 := (IntKind.i64.wrap (v844 - (2 : Int)))
    bif (decide (x856 < (0 : Int))) then
      none
    else
      match v843[x856.toNat]? with
      | some x857 =>
        let x858 := IntKind.i64.wrap (v846 * x857)
        let x859 := (shlI .i64 v847 (16 : Int))
        let x860 := IntKind.i64.wrap (v845 + v844)
        let x861 := (IntKind.i64.wrap (x860 - (2 : Int)))
        bif (decide (x861 < (0 : Int))) then
          none
        else
          bif decide (x861.toNat < v848.length) then
            match v848[x861.toNat]? with
            | some x862 =>
              let x863 := bitI .or .i64 x859 x862
              let x864 := decide (x863 < x858)
              bif x864 then
                let x865 := (IntKind.i64.wrap (v846 - (1 : Int)))
                let x866 := (IntKind.i64.wrap (v844 - (1 : Int)))
                bif (decide (x866 < (0 : Int))) then
                  none
                else
                  match v843[x866.toNat]? with
                  | some x867 =>
                    let x868 := IntKind.i64.wrap (v847 + x867)
                    let x869 := (decide ((65536 : Int) ≤ x868))
                    bif x869 then
                      k0 v842 v843 v844 v845 x865 v848 v849
                    else
                      next v842 v843 v844 v845 x865 x868 v848 v849
                  | none => none
              else
                k0 v842 v843 v844 v845 v846 v848 v849
            | none => none
          else
            none
      | none => none
noncomputable def impl_natDiv_L6.b {α : Type} (N n : Nat) (v842 : Int) (v843 : List Int) (v844 : Int) (v845 : Int) (v846 : Int) (v847 : Int) (v848 : List Int) (v849 : List Int) (k0 : Int → List Int → Int → Int → Int → List Int → List Int → Option α) : Option α :=
  Nat.rec (motive := fun _ => Int → List Int → Int → Int → Int → Int → List Int → List Int → Option α) (fun _ _ _ _ _ _ _ _ => none) (fun _ next => impl_natDiv_L6r N next k0) n v842 v843 v844 v845 v846 v847 v848 v849
theorem impl_natDiv_L6.ex : ∃ f : ((α : Type) → Nat → Nat → Int → List Int → Int → Int → Int → Int → List Int → List Int → (Int → List Int → Int → Int → Int → List Int → List Int → Option α) → Option α), f = fun α => @impl_natDiv_L6.b α := ⟨_, rfl⟩
noncomputable def impl_natDiv_L6 {α : Type} : Nat → Nat → Int → List Int → Int → Int → Int → Int → List Int → List Int → (Int → List Int → Int → Int → Int → List Int → List Int → Option α) → Option α := Classical.choose impl_natDiv_L6.ex α
theorem impl_natDiv_L6.eq : @impl_natDiv_L6 = @impl_natDiv_L6.b := funext fun α => congrFun (Classical.choose_spec impl_natDiv_L6.ex) α
theorem impl_natDiv_L6.zero {α : Type} (N : Nat) (v842 : Int) (v843 : List Int) (v844 : Int) (v845 : Int) (v846 : Int) (v847 : Int) (v848 : List Int) (v849 : List Int) (k0 : Int → List Int → Int → Int → Int → List Int → List Int → Option α) : impl_natDiv_L6 N 0 v842 v843 v844 v845 v846 v847 v848 v849 k0 = none := by rw [impl_natDiv_L6.eq]; rfl
theorem impl_natDiv_L6.succ {α : Type} (N n : Nat) (v842 : Int) (v843 : List Int) (v844 : Int) (v845 : Int) (v846 : Int) (v847 : Int) (v848 : List Int) (v849 : List Int) (k0 : Int → List Int → Int → Int → Int → List Int → List Int → Option α) : impl_natDiv_L6 N (n + 1) v842 v843 v844 v845 v846 v847 v848 v849 k0 = impl_natDiv_L6r N (fun y0 y1 y2 y3 y4 y5 y6 y7 => impl_natDiv_L6 N n y0 y1 y2 y3 y4 y5 y6 y7 k0) k0 v842 v843 v844 v845 v846 v847 v848 v849 := by rw [impl_natDiv_L6.eq]; rfl
noncomputable def impl_natDiv_J34.b {α : Type} (N : Nat) (v896 : Int) (v897 : List Int) (v898 : Int) (v899 : Int) (v900 : Int) (v901 : Int) (v902 : Int) (v903 : Int) (v904 : List Int) (v905 : Int) (v906 : Int) (v907 : List Int) (v908 : List Int) (k0 : Int → List Int → Int → Int → Int → Int → Int → Int → List Int → Int → Int → List Int → List Int → Option α) : Option α :=
  let x909 := (decide (v903 < (0 : Int)))
  bif x909 then
    let x910 := IntKind.i64.wrap (0 - v903)
    let x911 := (IntKind.i64.wrap (x910 + (65536 : Int)))
    let x912 := (IntKind.i64.wrap (x911 - (1 : Int)))
    let x913 := (IntKind.i64.wrap (Int.tdiv x912 (65536 : Int)))
    let x914 := (IntKind.i64.wrap (x913 * (65536 : Int)))
    let x915 := IntKind.i64.wrap (v903 + x914)
    k0 v896 v897 v898 v899 v900 x913 v902 x915 v904 v905 v906 v907 v908
  else
    k0 v896 v897 v898 v899 v900 v901 v902 v903 v904 v905 v906 v907 v908
theorem impl_natDiv_J34.ex : ∃ f : ((α : Type) → Nat → Int → List Int → Int → Int → Int → Int → Int → Int → List Int → Int → Int → List Int → List Int → (Int → List Int → Int → Int → Int → Int → Int → Int → List Int → Int → Int → List Int → List Int → Option α) → Option α), f = fun α => @impl_natDiv_J34.b α := ⟨_, rfl⟩
noncomputable def impl_natDiv_J34 {α : Type} : Nat → Int → List Int → Int → Int → Int → Int → Int → Int → List Int → Int → Int → List Int → List Int → (Int → List Int → Int → Int → Int → Int → Int → Int → List Int → Int → Int → List Int → List Int → Option α) → Option α := Classical.choose impl_natDiv_J34.ex α
theorem impl_natDiv_J34.eq : @impl_natDiv_J34 = @impl_natDiv_J34.b := funext fun α => congrFun (Classical.choose_spec impl_natDiv_J34.ex) α
noncomputable def impl_natDiv_L8r {α : Type} (N : Nat) (next : Int → List Int → Int → Int → Int → Int → List Int → Int → Int → List Int → List Int → Option α) (k0 : Int → List Int → Int → Int → Int → Int → List Int → List Int → Option α) (v878 : Int) (v879 : List Int) (v880 : Int) (v881 : Int) (v882 : Int) (v883 : Int) (v884 : List Int) (v885 : Int) (v886 : Int) (v887 : List Int) (v888 : List Int) : Option α :=
  let x889 := decide (v886 < v885)
  bif x889 then
    bif (decide (v886 < (0 : Int))) then
      none
    else
      match v884[v886.toNat]? with
      | some x890 =>
        let x891 := IntKind.i64.wrap (v881 + v886)
        bif (decide (x891 < (0 : Int))) then
          none
        else
          bif decide (x891.toNat < v887.length) then
            match v887[x891.toNat]? with
            | some x892 =>
              let x893 := IntKind.i64.wrap (x892 - v883)
              let x894 := IntKind.i64.wrap (v882 * x890)
              let x895 := IntKind.i64.wrap (x893 - x894)
              impl_natDiv_J34 N v878 v879 v880 v881 v882 (0 : Int) v886 x895 v884 v885 v886 v887 v888
                (fun x916 x917 x918 x919 x920 x921 x922 x923 x924 x925 x926 x927 x928 =>
                  let x929 := IntKind.i64.wrap (x919 + x922)
                  bif (decide (x929 < (0 : Int))) then
                    none
                  else
                    bif decide (x929.toNat < x927.length) then
                      match x927[x929.toNat]? with
                      | some x930 =>
                        let x931 := x927.set x929.toNat x923
                        let x932 := (IntKind.i64.wrap (x926 + (1 : Int)))
                        next x916 x917 x918 x919 x920 x921 x924 x925 x932 x931 x928
                      | none => none
                    else
                      none)
            | none => none
          else
            none
      | none => none
  else
    k0 v878 v879 v880 v881 v882 v883 v887 v888
noncomputable def impl_natDiv_L8.b {α : Type} (N n : Nat) (v878 : Int) (v879 : List Int) (v880 : Int) (v881 : Int) (v882 : Int) (v883 : Int) (v884 : List Int) (v885 : Int) (v886 : Int) (v887 : List Int) (v888 : List Int) (k0 : Int → List Int → Int → Int → Int → Int → List Int → List Int → Option α) : Option α :=
  Nat.rec (motive := fun _ => Int → List Int → Int → Int → Int → Int → List Int → Int → Int → List Int → List Int → Option α) (fun _ _ _ _ _ _ _ _ _ _ _ => none) (fun _ next => impl_natDiv_L8r N next k0) n v878 v879 v880 v881 v882 v883 v884 v885 v886 v887 v888
theorem impl_natDiv_L8.ex : ∃ f : ((α : Type) → Nat → Nat → Int → List Int → Int → Int → Int → Int → List Int → Int → Int → List Int → List Int → (Int → List Int → Int → Int → Int → Int → List Int → List Int → Option α) → Option α), f = fun α => @impl_natDiv_L8.b α := ⟨_, rfl⟩
noncomputable def impl_natDiv_L8 {α : Type} : Nat → Nat → Int → List Int → Int → Int → Int → Int → List Int → Int → Int → List Int → List Int → (Int → List Int → Int → Int → Int → Int → List Int → List Int → Option α) → Option α := Classical.choose impl_natDiv_L8.ex α
theorem impl_natDiv_L8.eq : @impl_natDiv_L8 = @impl_natDiv_L8.b := funext fun α => congrFun (Classical.choose_spec impl_natDiv_L8.ex) α
theorem impl_natDiv_L8.zero {α : Type} (N : Nat) (v878 : Int) (v879 : List Int) (v880 : Int) (v881 : Int) (v882 : Int) (v883 : Int) (v884 : List Int) (v885 : Int) (v886 : Int) (v887 : List Int) (v888 : List Int) (k0 : Int → List Int → Int → Int → Int → Int → List Int → List Int → Option α) : impl_natDiv_L8 N 0 v878 v879 v880 v881 v882 v883 v884 v885 v886 v887 v888 k0 = none := by rw [impl_natDiv_L8.eq]; rfl
theorem impl_natDiv_L8.succ {α : Type} (N n : Nat) (v878 : Int) (v879 : List Int) (v880 : Int) (v881 : Int) (v882 : Int) (v883 : Int) (v884 : List Int) (v885 : Int) (v886 : Int) (v887 : List Int) (v888 : List Int) (k0 : Int → List Int → Int → Int → Int → Int → List Int → List Int → Option α) : impl_natDiv_L8 N (n + 1) v878 v879 v880 v881 v882 v883 v884 v885 v886 v887 v888 k0 = impl_natDiv_L8r N (fun y0 y1 y2 y3 y4 y5 y6 y7 y8 y9 y10 => impl_natDiv_L8 N n y0 y1 y2 y3 y4 y5 y6 y7 y8 y9 y10 k0) k0 v878 v879 v880 v881 v882 v883 v884 v885 v886 v887 v888 := by rw [impl_natDiv_L8.eq]; rfl
noncomputable def impl_natDiv_L10r {α : Type} (N : Nat) (next : Int → List Int → Int → Int → Int → Int → List Int → Int → Int → List Int → List Int → Option α) (k0 : Int → List Int → Int → Int → Int → Int → List Int → List Int → Option α) (v958 : Int) (v959 : List Int) (v960 : Int) (v961 : Int) (v962 : Int) (v963 : Int) (v964 : List Int) (v965 : Int) (v966 : Int) (v967 : List Int) (v968 : List Int) : Option α :=
  let x969 := decide (v966 < v965)
  bif x969 then
    bif (decide (v966 < (0 : Int))) then
      none
    else
      match v964[v966.toNat]? with
      | some x970 =>
        let x971 := IntKind.i64.wrap (v961 + v966)
        bif (decide (x971 < (0 : Int))) then
          none
        else
          bif decide (x971.toNat < v967.length) then
            match v967[x971.toNat]? with
            | some x972 =>
              let x973 := IntKind.i64.wrap (x972 + x970)
              let x974 := IntKind.i64.wrap (x973 + v963)
              let x975 := IntKind.i64.wrap (v961 + v966)
              let x976 := (bitI .and .i64 x974 (65535 : Int))
              let x977 := (shrI .i64 x974 (16 : Int))
              bif (decide (x975 < (0 : Int))) then
                none
              else
                bif decide (x975.toNat < v967.length) then
                  match v967[x975.toNat]? with
                  | some x978 =>
                    let x979 := v967.set x975.toNat x976
                    let x980 := (IntKind.i64.wrap (v966 + (1 : Int)))
                    next v958 v959 v960 v961 v962 x977 v964 v965 x980 x979 v968
                  | none => none
                else
                  none
            | none => none
          else
            none
      | none => none
  else
    k0 v958 v959 v960 v961 v962 v963 v967 v968
noncomputable def impl_natDiv_L10.b {α : Type} (N n : Nat) (v958 : Int) (v959 : List Int) (v960 : Int) (v961 : Int) (v962 : Int) (v963 : Int) (v964 : List Int) (v965 : Int) (v966 : Int) (v967 : List Int) (v968 : List Int) (k0 : Int → List Int → Int → Int → Int → Int → List Int → List Int → Option α) : Option α :=
  Nat.rec (motive := fun _ => Int → List Int → Int → Int → Int → Int → List Int → Int → Int → List Int → List Int → Option α) (fun _ _ _ _ _ _ _ _ _ _ _ => none) (fun _ next => impl_natDiv_L10r N next k0) n v958 v959 v960 v961 v962 v963 v964 v965 v966 v967 v968
theorem impl_natDiv_L10.ex : ∃ f : ((α : Type) → Nat → Nat → Int → List Int → Int → Int → Int → Int → List Int → Int → Int → List Int → List Int → (Int → List Int → Int → Int → Int → Int → List Int → List Int → Option α) → Option α), f = fun α => @impl_natDiv_L10.b α := ⟨_, rfl⟩
noncomputable def impl_natDiv_L10 {α : Type} : Nat → Nat → Int → List Int → Int → Int → Int → Int → List Int → Int → Int → List Int → List Int → (Int → List Int → Int → Int → Int → Int → List Int → List Int → Option α) → Option α := Classical.choose impl_natDiv_L10.ex α
theorem impl_natDiv_L10.eq : @impl_natDiv_L10 = @impl_natDiv_L10.b := funext fun α => congrFun (Classical.choose_spec impl_natDiv_L10.ex) α
theorem impl_natDiv_L10.zero {α : Type} (N : Nat) (v958 : Int) (v959 : List Int) (v960 : Int) (v961 : Int) (v962 : Int) (v963 : Int) (v964 : List Int) (v965 : Int) (v966 : Int) (v967 : List Int) (v968 : List Int) (k0 : Int → List Int → Int → Int → Int → Int → List Int → List Int → Option α) : impl_natDiv_L10 N 0 v958 v959 v960 v961 v962 v963 v964 v965 v966 v967 v968 k0 = none := by rw [impl_natDiv_L10.eq]; rfl
theorem impl_natDiv_L10.succ {α : Type} (N n : Nat) (v958 : Int) (v959 : List Int) (v960 : Int) (v961 : Int) (v962 : Int) (v963 : Int) (v964 : List Int) (v965 : Int) (v966 : Int) (v967 : List Int) (v968 : List Int) (k0 : Int → List Int → Int → Int → Int → Int → List Int → List Int → Option α) : impl_natDiv_L10 N (n + 1) v958 v959 v960 v961 v962 v963 v964 v965 v966 v967 v968 k0 = impl_natDiv_L10r N (fun y0 y1 y2 y3 y4 y5 y6 y7 y8 y9 y10 => impl_natDiv_L10 N n y0 y1 y2 y3 y4 y5 y6 y7 y8 y9 y10 k0) k0 v958 v959 v960 v961 v962 v963 v964 v965 v966 v967 v968 := by rw [impl_natDiv_L10.eq]; rfl
noncomputable def impl_natDiv_J40.b {α : Type} (N : Nat) (v946 : Int) (v947 : List Int) (v948 : Int) (v949 : Int) (v950 : Int) (v951 : List Int) (v952 : List Int) (k0 : Int → List Int → Int → Int → Int → List Int → List Int → Option α) : Option α :=
  let x953 := IntKind.i64.wrap (v949 + v948)
  bif (decide (x953 < (0 : Int))) then
    none
  else
    bif decide (x953.toNat < v951.length) then
      match v951[x953.toNat]? with
      | some x954 =>
        let x955 := (decide (x954 < (0 : Int)))
        bif x955 then
          let x956 := (IntKind.i64.wrap (v950 - (1 : Int)))
          let x957 := ((v947.length : Nat) : Int)
          impl_natDiv_L10 N N v946 v947 v948 v949 x956 (0 : Int) v947 x957 (0 : Int) v951 v952
            (fun x981 x982 x983 x984 x985 x986 x987 x988 =>
              let x989 := IntKind.i64.wrap (x984 + x983)
              bif (decide (x989 < (0 : Int))) then
                none
              else
                bif decide (x989.toNat < x987.length) then
                  match x987[x989.toNat]? with
                  | some x990 =>
                    let x991 := IntKind.i64.wrap (x990 + x986)
                    bif (decide (x989 < (0 : Int))) then
                      none
                    else
                      bif decide (x989.toNat < x987.length) then
                        match x987[x989.toNat]? with
                        | some x992 =>
                          let x993 := x987.set x989.toNat x991
                          k0 x981 x982 x983 x984 x985 x993 x988
                        | none => none
                      else
                        none
                  | none => none
                else
                  none)
        else
          k0 v946 v947 v948 v949 v950 v951 v952
      | none => none
    else
      none
theorem impl_natDiv_J40.ex : ∃ f : ((α : Type) → Nat → Int → List Int → Int → Int → Int → List Int → List Int → (Int → List Int → Int → Int → Int → List Int → List Int → Option α) → Option α), f = fun α => @impl_natDiv_J40.b α := ⟨_, rfl⟩
noncomputable def impl_natDiv_J40 {α : Type} : Nat → Int → List Int → Int → Int → Int → List Int → List Int → (Int → List Int → Int → Int → Int → List Int → List Int → Option α) → Option α := Classical.choose impl_natDiv_J40.ex α
theorem impl_natDiv_J40.eq : @impl_natDiv_J40 = @impl_natDiv_J40.b := funext fun α => congrFun (Classical.choose_spec impl_natDiv_J40.ex) α
noncomputable def impl_natDiv_L4r {α : Type} (N : Nat) (next : Int → List Int → Int → Int → List Int → List Int → Option α) (k0 : Int → List Int → List Int → Option α) (v822 : Int) (v823 : List Int) (v824 : Int) (v825 : Int) (v826 : List Int) (v827 : List Int) : Option α :=
  let x828 := (decide ((0 : Int) ≤ v825))
  bif x828 then
    let x829 := IntKind.i64.wrap (v825 + v824)
    bif (decide (x829 < (0 : Int))) then
      none
    else
      bif decide (x829.toNat < v826.length) then
        match v826[x829.toNat]? with
        | some x830 =>
          let x831 := (shlI .i64 x830 (16 : Int))
          let x832 := IntKind.i64.wrap (v825 + v824)
          let x833 := (IntKind.i64.wrap (x832 - (1 : Int)))
          bif (decide (x833 < (0 : Int))) then
            none
          else
            bif decide (x833.toNat < v826.length) then
              match v826[x833.toNat]? with
              | some x834 =>
                let x835 := bitI .or .i64 x831 x834
                let x836 := (IntKind.i64.wrap (v824 - (1 : Int)))
                bif (decide (x836 < (0 : Int))) then
                  none
                else
                  match v823[x836.toNat]? with
                  | some x837 =>
                    bif (decide (x837 = (0 : Int))) then
                      none
                    else
                      let x838 := IntKind.i64.wrap (Int.tdiv x835 x837)
                      let x839 := (IntKind.i64.wrap (v824 - (1 : Int)))
                      bif (decide (x839 < (0 : Int))) then
                        none
                      else
                        match v823[x839.toNat]? with
                        | some x840 =>
                          bif (decide (x840 = (0 : Int))) then
                            none
                          else
                            let x841 := Int.tmod x835 x840
                            impl_natDiv_L6 N N v822 v823 v824 v825 x838 x841 v826 v827
                              (fun x870 x871 x872 x873 x874 x875 x876 =>
                                let x877 := ((x871.length : Nat) : Int)
                                impl_natDiv_L8 N N x870 x871 x872 x873 x874 (0 : Int) x871 x877 (0 : Int) x875 x876
                                  (fun x933 x934 x935 x936 x937 x938 x939 x940 =>
                                    let x941 := IntKind.i64.wrap (x936 + x935)
                                    bif (decide (x941 < (0 : Int))) then
                                      none
                                    else
                                      bif decide (x941.toNat < x939.length) then
                                        match x939[x941.toNat]? with
                                        | some x942 =>
                                          let x943 := IntKind.i64.wrap (x942 - x938)
                                          bif (decide (x941 < (0 : Int))) then
                                            none
                                          else
                                            bif decide (x941.toNat < x939.length) then
                                              match x939[x941.toNat]? with
                                              | some x944 =>
                                                let x945 := x939.set x941.toNat x943
                                                impl_natDiv_J40 N x933 x934 x935 x936 x937 x945 x940
                                                  (fun x994 x995 x996 x997 x998 x999 x1000 =>
                                                    bif (decide (x997 < (0 : Int))) then
                                                      none
                                                    else
                                                      bif decide (x997.toNat < x1000.length) then
                                                        match x1000[x997.toNat]? with
                                                        | some x1001 =>
                                                          let x1002 := x1000.set x997.toNat x998
                                                          let x1003 := (IntKind.i64.wrap (x997 - (1 : Int)))
                                                          next x994 x995 x996 x1003 x999 x1002
                                                        | none => none
                                                      else
                                                        none)
                                              | none => none
                                            else
                                              none
                                        | none => none
                                      else
                                        none))
                        | none => none
                  | none => none
              | none => none
            else
              none
        | none => none
      else
        none
  else
    k0 v822 v826 v827
noncomputable def impl_natDiv_L4.b {α : Type} (N n : Nat) (v822 : Int) (v823 : List Int) (v824 : Int) (v825 : Int) (v826 : List Int) (v827 : List Int) (k0 : Int → List Int → List Int → Option α) : Option α :=
  Nat.rec (motive := fun _ => Int → List Int → Int → Int → List Int → List Int → Option α) (fun _ _ _ _ _ _ => none) (fun _ next => impl_natDiv_L4r N next k0) n v822 v823 v824 v825 v826 v827
theorem impl_natDiv_L4.ex : ∃ f : ((α : Type) → Nat → Nat → Int → List Int → Int → Int → List Int → List Int → (Int → List Int → List Int → Option α) → Option α), f = fun α => @impl_natDiv_L4.b α := ⟨_, rfl⟩
noncomputable def impl_natDiv_L4 {α : Type} : Nat → Nat → Int → List Int → Int → Int → List Int → List Int → (Int → List Int → List Int → Option α) → Option α := Classical.choose impl_natDiv_L4.ex α
theorem impl_natDiv_L4.eq : @impl_natDiv_L4 = @impl_natDiv_L4.b := funext fun α => congrFun (Classical.choose_spec impl_natDiv_L4.ex) α
theorem impl_natDiv_L4.zero {α : Type} (N : Nat) (v822 : Int) (v823 : List Int) (v824 : Int) (v825 : Int) (v826 : List Int) (v827 : List Int) (k0 : Int → List Int → List Int → Option α) : impl_natDiv_L4 N 0 v822 v823 v824 v825 v826 v827 k0 = none := by rw [impl_natDiv_L4.eq]; rfl
theorem impl_natDiv_L4.succ {α : Type} (N n : Nat) (v822 : Int) (v823 : List Int) (v824 : Int) (v825 : Int) (v826 : List Int) (v827 : List Int) (k0 : Int → List Int → List Int → Option α) : impl_natDiv_L4 N (n + 1) v822 v823 v824 v825 v826 v827 k0 = impl_natDiv_L4r N (fun y0 y1 y2 y3 y4 y5 => impl_natDiv_L4 N n y0 y1 y2 y3 y4 y5 k0) k0 v822 v823 v824 v825 v826 v827 := by rw [impl_natDiv_L4.eq]; rfl
/-- loop.example/pinfold/impl.natDiv -/
noncomputable def impl_natDiv.b {α : Type} (N : Nat) (a555 : List Int) (a556 : List Int) (k0 : List Int → List Int → Option α) : Option α :=
  impl_natCmp N a555 a556
    (fun x583 =>
      let x584 := (decide (x583 < (0 : Int)))
      bif x584 then
        k0 [] a555
      else
        let x585 := ((a556.length : Nat) : Int)
        let x586 := (decide (x585 = (1 : Int)))
        bif x586 then
          let x587 := ((a555.length : Nat) : Int)
          bif (decide ((0 : Int) ≤ x587)) then
            bif decide (x587 ≤ x587) then
              bif (decide (x587 ≤ ((8796093022208 : Nat) : Int))) then
                let x588 := (List.replicate x587.toNat (0 : Int))
                let x589 := ((a555.length : Nat) : Int)
                let x590 := (IntKind.i64.wrap (x589 - (1 : Int)))
                impl_natDiv_L0 N N a555 a556 (0 : Int) x590 x588
                  (fun x607 x608 =>
                    impl_trim N x608
                      (fun x621 =>
                        let x622 := [x607]
                        impl_trim N x622
                          (fun x623 =>
                            k0 x621 x623)))
              else
                none
            else
              none
          else
            none
        else
          let x624 := ((a556.length : Nat) : Int)
          let x625 := (IntKind.i64.wrap (x624 - (1 : Int)))
          bif (decide (x625 < (0 : Int))) then
            none
          else
            match a556[x625.toNat]? with
            | some x626 =>
              let x627 := IntKind.u64.wrap x626
              math_bits_Len N x627
                (fun x656 =>
                  let x657 := (IntKind.i64.wrap ((16 : Int) - x656))
                  impl_natShift N a556 x657
                    (fun x795 =>
                      impl_natShift N a555 x657
                        (fun x796 =>
                          slices_Clone_int_int N x796
                            (fun x797 =>
                              let x798 := [(0 : Int)]
                              bif decide (x797.length + x798.length ≤ 8796093022208) then
                                let x799 := x797 ++ x798
                                let x800 := ((x795.length : Nat) : Int)
                                impl_natDiv_L2 N N a555 x657 x795 x800 x799
                                  (fun x812 x813 x814 x815 =>
                                    let x816 := ((x815.length : Nat) : Int)
                                    let x817 := IntKind.i64.wrap (x816 - x814)
                                    bif (decide ((0 : Int) ≤ x817)) then
                                      bif decide (x817 ≤ x817) then
                                        bif (decide (x817 ≤ ((8796093022208 : Nat) : Int))) then
                                          let x818 := (List.replicate x817.toNat (0 : Int))
                                          let x819 := ((x815.length : Nat) : Int)
                                          let x820 := IntKind.i64.wrap (x819 - x814)
                                          let x821 := (IntKind.i64.wrap (x820 - (1 : Int)))
                                          impl_natDiv_L4 N N x812 x813 x814 x821 x815 x818
                                            (fun x1004 x1005 x1006 =>
                                              impl_trim N x1006
                                                (fun x1007 =>
                                                  impl_trim N x1005
                                                    (fun x1008 =>
                                                      let x1009 := IntKind.i64.wrap (0 - x1004)
                                                      impl_natShift N x1008 x1009
                                                        (fun x1010 =>
                                                          k0 x1007 x1010))))
                                        else
                                          none
                                      else
                                        none
                                    else
                                      none)
                              else
                                none))))
            | none => none)
theorem impl_natDiv.ex : ∃ f : ((α : Type) → Nat → List Int → List Int → (List Int → List Int → Option α) → Option α), f = fun α => @impl_natDiv.b α := ⟨_, rfl⟩
noncomputable def impl_natDiv {α : Type} : Nat → List Int → List Int → (List Int → List Int → Option α) → Option α := Classical.choose impl_natDiv.ex α
theorem impl_natDiv.eq : @impl_natDiv = @impl_natDiv.b := funext fun α => congrFun (Classical.choose_spec impl_natDiv.ex) α

noncomputable def impl_natGcd_L0r {α : Type} (N : Nat) (next : List Int → List Int → Option α) (k0 : List Int → Option α) (v482 : List Int) (v483 : List Int) : Option α :=
  let x484 := ((v483.length : Nat) : Int)
  let x485 := (decide ((0 : Int) < x484))
  bif x485 then
    impl_natDiv N v482 v483
      (fun _ x1012 =>
        next v483 x1012)
  else
    k0 v482
noncomputable def impl_natGcd_L0.b {α : Type} (N n : Nat) (v482 : List Int) (v483 : List Int) (k0 : List Int → Option α) : Option α :=
  Nat.rec (motive := fun _ => List Int → List Int → Option α) (fun _ _ => none) (fun _ next => impl_natGcd_L0r N next k0) n v482 v483
theorem impl_natGcd_L0.ex : ∃ f : ((α : Type) → Nat → Nat → List Int → List Int → (List Int → Option α) → Option α), f = fun α => @impl_natGcd_L0.b α := ⟨_, rfl⟩
noncomputable def impl_natGcd_L0 {α : Type} : Nat → Nat → List Int → List Int → (List Int → Option α) → Option α := Classical.choose impl_natGcd_L0.ex α
theorem impl_natGcd_L0.eq : @impl_natGcd_L0 = @impl_natGcd_L0.b := funext fun α => congrFun (Classical.choose_spec impl_natGcd_L0.ex) α
theorem impl_natGcd_L0.zero {α : Type} (N : Nat) (v482 : List Int) (v483 : List Int) (k0 : List Int → Option α) : impl_natGcd_L0 N 0 v482 v483 k0 = none := by rw [impl_natGcd_L0.eq]; rfl
theorem impl_natGcd_L0.succ {α : Type} (N n : Nat) (v482 : List Int) (v483 : List Int) (k0 : List Int → Option α) : impl_natGcd_L0 N (n + 1) v482 v483 k0 = impl_natGcd_L0r N (fun y0 y1 => impl_natGcd_L0 N n y0 y1 k0) k0 v482 v483 := by rw [impl_natGcd_L0.eq]; rfl
/-- loop.example/pinfold/impl.natGcd -/
noncomputable def impl_natGcd.b {α : Type} (N : Nat) (a480 : List Int) (a481 : List Int) (k0 : List Int → Option α) : Option α :=
  impl_natGcd_L0 N N a480 a481
    (fun x1013 =>
      k0 x1013)
theorem impl_natGcd.ex : ∃ f : ((α : Type) → Nat → List Int → List Int → (List Int → Option α) → Option α), f = fun α => @impl_natGcd.b α := ⟨_, rfl⟩
noncomputable def impl_natGcd {α : Type} : Nat → List Int → List Int → (List Int → Option α) → Option α := Classical.choose impl_natGcd.ex α
theorem impl_natGcd.eq : @impl_natGcd = @impl_natGcd.b := funext fun α => congrFun (Classical.choose_spec impl_natGcd.ex) α

noncomputable def impl_lowest_J2.b {α : Type} (N : Nat) (v1015 : Bool) (v1016 : List Int) (v1017 : List Int) (v1018 : List Int) (v1019 : Bool) (v1020 : List Int) (v1021 : List Int) (k0 : Bool → List Int → List Int → Bool → List Int → List Int → Option α) : Option α :=
  let x1022 := [(1 : Int)]
  impl_natCmp N v1018 x1022
    (fun x1023 =>
      let x1024 := (!(decide (x1023 = (0 : Int))))
      bif x1024 then
        impl_natDiv N v1016 v1018
          (fun x1025 _ =>
            impl_natDiv N v1017 v1018
              (fun x1027 _ =>
                k0 v1015 x1025 x1027 v1019 v1020 v1021))
      else
        k0 v1015 v1016 v1017 v1019 v1020 v1021)
theorem impl_lowest_J2.ex : ∃ f : ((α : Type) → Nat → Bool → List Int → List Int → List Int → Bool → List Int → List Int → (Bool → List Int → List Int → Bool → List Int → List Int → Option α) → Option α), f = fun α => @impl_lowest_J2.b α := ⟨_, rfl⟩
noncomputable def impl_lowest_J2 {α : Type} : Nat → Bool → List Int → List Int → List Int → Bool → List Int → List Int → (Bool → List Int → List Int → Bool → List Int → List Int → Option α) → Option α := Classical.choose impl_lowest_J2.ex α
theorem impl_lowest_J2.eq : @impl_lowest_J2 = @impl_lowest_J2.b := funext fun α => congrFun (Classical.choose_spec impl_lowest_J2.ex) α
/-- loop.example/pinfold/impl.lowest -/
noncomputable def impl_lowest.b {α : Type} (N : Nat) (a477 : Bool) (a478 : List Int) (a479 : List Int) (k0 : (Bool × (List Int) × (List Int) × Unit) → Option α) : Option α :=
  impl_natGcd N a478 a479
    (fun x1014 =>
      impl_lowest_J2 N a477 a478 a479 x1014 false [] []
        (fun x1029 x1030 x1031 _ _ _ =>
          bif x1029 then
            let x1035 := ((x1030.length : Nat) : Int)
            let x1036 := (decide ((0 : Int) < x1035))
            k0 (x1036, (x1030, (x1031, ())))
          else
            k0 (false, (x1030, (x1031, ())))))
theorem impl_lowest.ex : ∃ f : ((α : Type) → Nat → Bool → List Int → List Int → ((Bool × (List Int) × (List Int) × Unit) → Option α) → Option α), f = fun α => @impl_lowest.b α := ⟨_, rfl⟩
noncomputable def impl_lowest {α : Type} : Nat → Bool → List Int → List Int → ((Bool × (List Int) × (List Int) × Unit) → Option α) → Option α := Classical.choose impl_lowest.ex α
theorem impl_lowest.eq : @impl_lowest = @impl_lowest.b := funext fun α => congrFun (Classical.choose_spec impl_lowest.ex) α

/-- slices.Clip[[]int,int] -/
noncomputable def slices_Clip_int_int.b {α : Type} (N : Nat) (a1045 : List Int) (k0 : List Int → Option α) : Option α :=
  let x1046 := ((a1045.length : Nat) : Int)
  let x1047 := ((a1045.length : Nat) : Int)
  bif (decide ((0 : Int) ≤ x1047)) then
    bif (decide (x1047 ≤ ((a1045.length : Nat) : Int))) then
      bif (decide ((0 : Int) ≤ x1046)) then
        bif (decide (x1046 ≤ ((x1047.toNat : Nat) : Int))) then
          let x1048 := a1045.take x1046.toNat
          k0 x1048
        else
          none
      else
        none
    else
      none
  else
    none
theorem slices_Clip_int_int.ex : ∃ f : ((α : Type) → Nat → List Int → (List Int → Option α) → Option α), f = fun α => @slices_Clip_int_int.b α := ⟨_, rfl⟩
noncomputable def slices_Clip_int_int {α : Type} : Nat → List Int → (List Int → Option α) → Option α := Classical.choose slices_Clip_int_int.ex α
theorem slices_Clip_int_int.eq : @slices_Clip_int_int = @slices_Clip_int_int.b := funext fun α => congrFun (Classical.choose_spec slices_Clip_int_int.ex) α

/-- loop.example/pinfold/impl.clone[int] -/
noncomputable def impl_clone_int.b {α : Type} (N : Nat) (a1043 : List Int) (k0 : List Int → Option α) : Option α :=
  slices_Clone_int_int N a1043
    (fun x1044 =>
      slices_Clip_int_int N x1044
        (fun x1049 =>
          k0 x1049))
theorem impl_clone_int.ex : ∃ f : ((α : Type) → Nat → List Int → (List Int → Option α) → Option α), f = fun α => @impl_clone_int.b α := ⟨_, rfl⟩
noncomputable def impl_clone_int {α : Type} : Nat → List Int → (List Int → Option α) → Option α := Classical.choose impl_clone_int.ex α
theorem impl_clone_int.eq : @impl_clone_int = @impl_clone_int.b := funext fun α => congrFun (Classical.choose_spec impl_clone_int.ex) α

/-- loop.example/pinfold/impl.given -/
noncomputable def impl_given.b {α : Type} (N : Nat) (a1038 : Bool × (List Int) × (List Int) × Unit) (k0 : Bool → Bool → List Int → List Int → Option α) : Option α :=
  let x1039 := ((a1038.2.1.length : Nat) : Int)
  let x1040 := (decide ((256 : Int) < x1039))
  bif x1040 then
    k0 false false [] []
  else
    let x1041 := ((a1038.2.2.1.length : Nat) : Int)
    let x1042 := (decide ((256 : Int) < x1041))
    bif x1042 then
      k0 false false [] []
    else
      impl_clone_int N a1038.2.1
        (fun x1050 =>
          impl_clone_int N a1038.2.2.1
            (fun x1051 =>
              k0 a1038.1 true x1050 x1051))
theorem impl_given.ex : ∃ f : ((α : Type) → Nat → (Bool × (List Int) × (List Int) × Unit) → (Bool → Bool → List Int → List Int → Option α) → Option α), f = fun α => @impl_given.b α := ⟨_, rfl⟩
noncomputable def impl_given {α : Type} : Nat → (Bool × (List Int) × (List Int) × Unit) → (Bool → Bool → List Int → List Int → Option α) → Option α := Classical.choose impl_given.ex α
theorem impl_given.eq : @impl_given = @impl_given.b := funext fun α => congrFun (Classical.choose_spec impl_given.ex) α

/-- loop.example/pinfold/impl.FracOf -/
noncomputable def impl_FracOf.b {α : Type} (N : Nat) (a416 : Bool) (a417 : List Int) (a418 : List Int) (k0 : Bool → Bool → List Int → List Int → Option α) : Option α :=
  let x419 := [a417, a418]
  impl_nats N x419
    (fun x473 =>
      let x474 := !x473
      bif x474 then
        k0 false false [] []
      else
        let x475 := ((a418.length : Nat) : Int)
        let x476 := (decide (x475 = (0 : Int)))
        bif x476 then
          k0 false false [] []
        else
          impl_lowest N a416 a417 a418
            (fun x1037 =>
              impl_given N x1037
                (fun x1052 x1053 x1054 x1055 =>
                  k0 x1052 x1053 x1054 x1055)))
theorem impl_FracOf.ex : ∃ f : ((α : Type) → Nat → Bool → List Int → List Int → (Bool → Bool → List Int → List Int → Option α) → Option α), f = fun α => @impl_FracOf.b α := ⟨_, rfl⟩
noncomputable def impl_FracOf {α : Type} : Nat → Bool → List Int → List Int → (Bool → Bool → List Int → List Int → Option α) → Option α := Classical.choose impl_FracOf.ex α
theorem impl_FracOf.eq : @impl_FracOf = @impl_FracOf.b := funext fun α => congrFun (Classical.choose_spec impl_FracOf.ex) α

noncomputable def laws_eqIntS_L0r {α : Type} (N : Nat) (next : List Int → List Int → Int → Option α) (k0 : Bool → Option α) (k1 : Option α) (v1068 : List Int) (v1069 : List Int) (v1070 : Int) : Option α :=
  let x1071 := ((v1068.length : Nat) : Int)
  let x1072 := decide (v1070 < x1071)
  bif x1072 then
    bif (decide (v1070 < (0 : Int))) then
      none
    else
      match v1068[v1070.toNat]? with
      | some x1073 =>
        bif (decide (v1070 < (0 : Int))) then
          none
        else
          match v1069[v1070.toNat]? with
          | some x1074 =>
            let x1075 := !(decide (x1073 = x1074))
            bif x1075 then
              k0 false
            else
              let x1076 := (IntKind.i64.wrap (v1070 + (1 : Int)))
              next v1068 v1069 x1076
          | none => none
      | none => none
  else
    k1
noncomputable def laws_eqIntS_L0.b {α : Type} (N n : Nat) (v1068 : List Int) (v1069 : List Int) (v1070 : Int) (k0 : Bool → Option α) (k1 : Option α) : Option α :=
  Nat.rec (motive := fun _ => List Int → List Int → Int → Option α) (fun _ _ _ => none) (fun _ next => laws_eqIntS_L0r N next k0 k1) n v1068 v1069 v1070
theorem laws_eqIntS_L0.ex : ∃ f : ((α : Type) → Nat → Nat → List Int → List Int → Int → (Bool → Option α) → (Option α) → Option α), f = fun α => @laws_eqIntS_L0.b α := ⟨_, rfl⟩
noncomputable def laws_eqIntS_L0 {α : Type} : Nat → Nat → List Int → List Int → Int → (Bool → Option α) → (Option α) → Option α := Classical.choose laws_eqIntS_L0.ex α
theorem laws_eqIntS_L0.eq : @laws_eqIntS_L0 = @laws_eqIntS_L0.b := funext fun α => congrFun (Classical.choose_spec laws_eqIntS_L0.ex) α
theorem laws_eqIntS_L0.zero {α : Type} (N : Nat) (v1068 : List Int) (v1069 : List Int) (v1070 : Int) (k0 : Bool → Option α) (k1 : Option α) : laws_eqIntS_L0 N 0 v1068 v1069 v1070 k0 k1 = none := by rw [laws_eqIntS_L0.eq]; rfl
theorem laws_eqIntS_L0.succ {α : Type} (N n : Nat) (v1068 : List Int) (v1069 : List Int) (v1070 : Int) (k0 : Bool → Option α) (k1 : Option α) : laws_eqIntS_L0 N (n + 1) v1068 v1069 v1070 k0 k1 = laws_eqIntS_L0r N (fun y0 y1 y2 => laws_eqIntS_L0 N n y0 y1 y2 k0 k1) k0 k1 v1068 v1069 v1070 := by rw [laws_eqIntS_L0.eq]; rfl
/-- loop.example/pinfold/laws.eqIntS -/
noncomputable def laws_eqIntS.b {α : Type} (N : Nat) (a1063 : List Int) (a1064 : List Int) (k0 : Bool → Option α) : Option α :=
  let x1065 := ((a1063.length : Nat) : Int)
  let x1066 := ((a1064.length : Nat) : Int)
  let x1067 := !(decide (x1065 = x1066))
  bif x1067 then
    k0 false
  else
    laws_eqIntS_L0 N N a1063 a1064 (0 : Int)
      (fun x1077 =>
        k0 x1077)
      (
        k0 true)
theorem laws_eqIntS.ex : ∃ f : ((α : Type) → Nat → List Int → List Int → (Bool → Option α) → Option α), f = fun α => @laws_eqIntS.b α := ⟨_, rfl⟩
noncomputable def laws_eqIntS {α : Type} : Nat → List Int → List Int → (Bool → Option α) → Option α := Classical.choose laws_eqIntS.ex α
theorem laws_eqIntS.eq : @laws_eqIntS = @laws_eqIntS.b := funext fun α => congrFun (Classical.choose_spec laws_eqIntS.ex) α

/-- loop.example/pinfold/laws.eqFrac -/
noncomputable def laws_eqFrac.b {α : Type} (N : Nat) (a1060 : Bool × (List Int) × (List Int) × Unit) (a1061 : Bool × (List Int) × (List Int) × Unit) (k0 : Bool → Option α) : Option α :=
  let x1062 := !(a1060.1 == a1061.1)
  bif x1062 then
    k0 false
  else
    laws_eqIntS N a1060.2.1 a1061.2.1
      (fun x1078 =>
        let x1079 := !x1078
        bif x1079 then
          k0 false
        else
          laws_eqIntS N a1060.2.2.1 a1061.2.2.1
            (fun x1080 =>
              let x1081 := !x1080
              bif x1081 then
                k0 false
              else
                k0 true))
theorem laws_eqFrac.ex : ∃ f : ((α : Type) → Nat → (Bool × (List Int) × (List Int) × Unit) → (Bool × (List Int) × (List Int) × Unit) → (Bool → Option α) → Option α), f = fun α => @laws_eqFrac.b α := ⟨_, rfl⟩
noncomputable def laws_eqFrac {α : Type} : Nat → (Bool × (List Int) × (List Int) × Unit) → (Bool × (List Int) × (List Int) × Unit) → (Bool → Option α) → Option α := Classical.choose laws_eqFrac.ex α
theorem laws_eqFrac.eq : @laws_eqFrac = @laws_eqFrac.b := funext fun α => congrFun (Classical.choose_spec laws_eqFrac.ex) α

noncomputable def laws_markIntS_L0r {α : Type} (N : Nat) (next : Int → Int → List Int → Option α) (k0 : Int → List Int → Option α) (v1093 : Int) (v1094 : Int) (v1095 : List Int) : Option α :=
  let x1096 := ((v1095.length : Nat) : Int)
  let x1097 := decide (v1094 < x1096)
  bif x1097 then
    bif (decide (v1094 < (0 : Int))) then
      none
    else
      bif decide (v1094.toNat < v1095.length) then
        match v1095[v1094.toNat]? with
        | some x1098 =>
          let x1099 := v1095.set v1094.toNat v1093
          let x1100 := (IntKind.i64.wrap (v1093 + (1 : Int)))
          let x1101 := (IntKind.i64.wrap (v1094 + (1 : Int)))
          next x1100 x1101 x1099
        | none => none
      else
        none
  else
    k0 v1093 v1095
noncomputable def laws_markIntS_L0.b {α : Type} (N n : Nat) (v1093 : Int) (v1094 : Int) (v1095 : List Int) (k0 : Int → List Int → Option α) : Option α :=
  Nat.rec (motive := fun _ => Int → Int → List Int → Option α) (fun _ _ _ => none) (fun _ next => laws_markIntS_L0r N next k0) n v1093 v1094 v1095
theorem laws_markIntS_L0.ex : ∃ f : ((α : Type) → Nat → Nat → Int → Int → List Int → (Int → List Int → Option α) → Option α), f = fun α => @laws_markIntS_L0.b α := ⟨_, rfl⟩
noncomputable def laws_markIntS_L0 {α : Type} : Nat → Nat → Int → Int → List Int → (Int → List Int → Option α) → Option α := Classical.choose laws_markIntS_L0.ex α
theorem laws_markIntS_L0.eq : @laws_markIntS_L0 = @laws_markIntS_L0.b := funext fun α => congrFun (Classical.choose_spec laws_markIntS_L0.ex) α
theorem laws_markIntS_L0.zero {α : Type} (N : Nat) (v1093 : Int) (v1094 : Int) (v1095 : List Int) (k0 : Int → List Int → Option α) : laws_markIntS_L0 N 0 v1093 v1094 v1095 k0 = none := by rw [laws_markIntS_L0.eq]; rfl
theorem laws_markIntS_L0.succ {α : Type} (N n : Nat) (v1093 : Int) (v1094 : Int) (v1095 : List Int) (k0 : Int → List Int → Option α) : laws_markIntS_L0 N (n + 1) v1093 v1094 v1095 k0 = laws_markIntS_L0r N (fun y0 y1 y2 => laws_markIntS_L0 N n y0 y1 y2 k0) k0 v1093 v1094 v1095 := by rw [laws_markIntS_L0.eq]; rfl
/-- loop.example/pinfold/laws.markIntS -/
noncomputable def laws_markIntS.b {α : Type} (N : Nat) (a1091 : Int) (a1092 : List Int) (k0 : Int → List Int → Option α) : Option α :=
  laws_markIntS_L0 N N a1091 (0 : Int) a1092
    (fun x1102 x1103 =>
      k0 x1102 x1103)
theorem laws_markIntS.ex : ∃ f : ((α : Type) → Nat → Int → List Int → (Int → List Int → Option α) → Option α), f = fun α => @laws_markIntS.b α := ⟨_, rfl⟩
noncomputable def laws_markIntS {α : Type} : Nat → Int → List Int → (Int → List Int → Option α) → Option α := Classical.choose laws_markIntS.ex α
theorem laws_markIntS.eq : @laws_markIntS = @laws_markIntS.b := funext fun α => congrFun (Classical.choose_spec laws_markIntS.ex) α

/-- loop.example/pinfold/laws.markFrac -/
noncomputable def laws_markFrac.b {α : Type} (N : Nat) (a1112 : Bool) (a1113 : Int) (a1114 : List Int) (a1115 : List Int) (k0 : Int → List Int → List Int → Option α) : Option α :=
  laws_markIntS N a1113 a1114
    (fun x1116 x1117 =>
      laws_markIntS N x1116 a1115
        (fun x1118 x1119 =>
          k0 x1118 x1117 x1119))
theorem laws_markFrac.ex : ∃ f : ((α : Type) → Nat → Bool → Int → List Int → List Int → (Int → List Int → List Int → Option α) → Option α), f = fun α => @laws_markFrac.b α := ⟨_, rfl⟩
noncomputable def laws_markFrac {α : Type} : Nat → Bool → Int → List Int → List Int → (Int → List Int → List Int → Option α) → Option α := Classical.choose laws_markFrac.ex α
theorem laws_markFrac.eq : @laws_markFrac = @laws_markFrac.b := funext fun α => congrFun (Classical.choose_spec laws_markFrac.ex) α

noncomputable def laws_heldIntS_L0r {α : Type} (N : Nat) (next : List Int → Int → Int → Option α) (k0 : Int → Option α) (k1 : Int → Option α) (v1127 : List Int) (v1128 : Int) (v1129 : Int) : Option α :=
  let x1130 := ((v1127.length : Nat) : Int)
  let x1131 := decide (v1129 < x1130)
  bif x1131 then
    bif (decide (v1129 < (0 : Int))) then
      none
    else
      match v1127[v1129.toNat]? with
      | some x1132 =>
        let x1133 := !(decide (x1132 = v1128))
        bif x1133 then
          k0 (-1 : Int)
        else
          let x1134 := (IntKind.i64.wrap (v1128 + (1 : Int)))
          let x1135 := (IntKind.i64.wrap (v1129 + (1 : Int)))
          next v1127 x1134 x1135
      | none => none
  else
    k1 v1128
noncomputable def laws_heldIntS_L0.b {α : Type} (N n : Nat) (v1127 : List Int) (v1128 : Int) (v1129 : Int) (k0 : Int → Option α) (k1 : Int → Option α) : Option α :=
  Nat.rec (motive := fun _ => List Int → Int → Int → Option α) (fun _ _ _ => none) (fun _ next => laws_heldIntS_L0r N next k0 k1) n v1127 v1128 v1129
theorem laws_heldIntS_L0.ex : ∃ f : ((α : Type) → Nat → Nat → List Int → Int → Int → (Int → Option α) → (Int → Option α) → Option α), f = fun α => @laws_heldIntS_L0.b α := ⟨_, rfl⟩
noncomputable def laws_heldIntS_L0 {α : Type} : Nat → Nat → List Int → Int → Int → (Int → Option α) → (Int → Option α) → Option α := Classical.choose laws_heldIntS_L0.ex α
theorem laws_heldIntS_L0.eq : @laws_heldIntS_L0 = @laws_heldIntS_L0.b := funext fun α => congrFun (Classical.choose_spec laws_heldIntS_L0.ex) α
theorem laws_heldIntS_L0.zero {α : Type} (N : Nat) (v1127 : List Int) (v1128 : Int) (v1129 : Int) (k0 : Int → Option α) (k1 : Int → Option α) : laws_heldIntS_L0 N 0 v1127 v1128 v1129 k0 k1 = none := by rw [laws_heldIntS_L0.eq]; rfl
theorem laws_heldIntS_L0.succ {α : Type} (N n : Nat) (v1127 : List Int) (v1128 : Int) (v1129 : Int) (k0 : Int → Option α) (k1 : Int → Option α) : laws_heldIntS_L0 N (n + 1) v1127 v1128 v1129 k0 k1 = laws_heldIntS_L0r N (fun y0 y1 y2 => laws_heldIntS_L0 N n y0 y1 y2 k0 k1) k0 k1 v1127 v1128 v1129 := by rw [laws_heldIntS_L0.eq]; rfl
/-- loop.example/pinfold/laws.heldIntS -/
noncomputable def laws_heldIntS.b {α : Type} (N : Nat) (a1125 : List Int) (a1126 : Int) (k0 : Int → Option α) : Option α :=
  laws_heldIntS_L0 N N a1125 a1126 (0 : Int)
    (fun x1136 =>
      k0 x1136)
    (fun x1137 =>
      k0 x1137)
theorem laws_heldIntS.ex : ∃ f : ((α : Type) → Nat → List Int → Int → (Int → Option α) → Option α), f = fun α => @laws_heldIntS.b α := ⟨_, rfl⟩
noncomputable def laws_heldIntS {α : Type} : Nat → List Int → Int → (Int → Option α) → Option α := Classical.choose laws_heldIntS.ex α
theorem laws_heldIntS.eq : @laws_heldIntS = @laws_heldIntS.b := funext fun α => congrFun (Classical.choose_spec laws_heldIntS.ex) α

/-- loop.example/pinfold/laws.heldFrac -/
noncomputable def laws_heldFrac.b {α : Type} (N : Nat) (a1123 : Bool × (List Int) × (List Int) × Unit) (a1124 : Int) (k0 : Int → Option α) : Option α :=
  laws_heldIntS N a1123.2.1 a1124
    (fun x1138 =>
      let x1139 := (decide (x1138 < (0 : Int)))
      bif x1139 then
        k0 (-1 : Int)
      else
        laws_heldIntS N a1123.2.2.1 x1138
          (fun x1140 =>
            let x1141 := (decide (x1140 < (0 : Int)))
            bif x1141 then
              k0 (-1 : Int)
            else
              k0 x1140))
theorem laws_heldFrac.ex : ∃ f : ((α : Type) → Nat → (Bool × (List Int) × (List Int) × Unit) → Int → (Int → Option α) → Option α), f = fun α => @laws_heldFrac.b α := ⟨_, rfl⟩
noncomputable def laws_heldFrac {α : Type} : Nat → (Bool × (List Int) × (List Int) × Unit) → Int → (Int → Option α) → Option α := Classical.choose laws_heldFrac.ex α
theorem laws_heldFrac.eq : @laws_heldFrac = @laws_heldFrac.b := funext fun α => congrFun (Classical.choose_spec laws_heldFrac.ex) α

/-- loop.example/pinfold/laws.FnExactFracOf -/
noncomputable def laws_FnExactFracOf.b {α : Type} (N : Nat) (a1 : Bool) (a2 : List Int) (a3 : List Int) (k0 : Bool → Option α) : Option α :=
  let x4 := ((a2.length : Nat) : Int)
  let x5 := (decide ((1048576 : Int) < x4))
  bif x5 then
    k0 true
  else
    let x6 := ((a3.length : Nat) : Int)
    let x7 := (decide ((1048576 : Int) < x6))
    bif x7 then
      k0 true
    else
      laws_toIntS N a2
        (fun x21 =>
          laws_toIntS N a3
            (fun x22 =>
              spec_FracOf N a1 x21 x22
                (fun x410 x411 x412 x413 =>
                  laws_toIntS N a2
                    (fun x414 =>
                      laws_toIntS N a3
                        (fun x415 =>
                          impl_FracOf N a1 x414 x415
                            (fun x1056 x1057 x1058 x1059 =>
                              laws_eqFrac N (x1056, (x1058, (x1059, ()))) (x410, (x412, (x413, ())))
                                (fun x1082 =>
                                  let x1083 := !x1082
                                  bif x1083 then
                                    k0 false
                                  else
                                    let x1084 := !(x1057 == x411)
                                    bif x1084 then
                                      k0 false
                                    else
                                      laws_toIntS N a2
                                        (fun x1085 =>
                                          laws_eqIntS N x414 x1085
                                            (fun x1086 =>
                                              let x1087 := !x1086
                                              bif x1087 then
                                                k0 false
                                              else
                                                laws_toIntS N a3
                                                  (fun x1088 =>
                                                    laws_eqIntS N x415 x1088
                                                      (fun x1089 =>
                                                        let x1090 := !x1089
                                                        bif x1090 then
                                                          k0 false
                                                        else
                                                          laws_markIntS N (1 : Int) x414
                                                            (fun x1104 _ =>
                                                              laws_markIntS N x1104 x415
                                                                (fun x1106 _ =>
                                                                  let x1108 := (decide (x1106 < (0 : Int)))
                                                                  bif x1108 then
                                                                    k0 false
                                                                  else
                                                                    laws_eqFrac N (x1056, (x1058, (x1059, ()))) (x410, (x412, (x413, ())))
                                                                      (fun x1109 =>
                                                                        let x1110 := !x1109
                                                                        bif x1110 then
                                                                          k0 false
                                                                        else
                                                                          let x1111 := !(x1057 == x411)
                                                                          bif x1111 then
                                                                            k0 false
                                                                          else
                                                                            laws_markFrac N x1056 (1 : Int) x1058 x1059
                                                                              (fun x1120 x1121 x1122 =>
                                                                                laws_heldFrac N (x1056, (x1121, (x1122, ()))) (1 : Int)
                                                                                  (fun x1142 =>
                                                                                    let x1143 := (decide (x1142 < (0 : Int)))
                                                                                    bif x1143 then
                                                                                      k0 false
                                                                                    else
                                                                                      let x1144 := !(decide (x1142 = x1120))
                                                                                      bif x1144 then
                                                                                        k0 false
                                                                                      else
                                                                                        laws_toIntS N a2
                                                                                          (fun x1145 =>
                                                                                            laws_toIntS N a3
                                                                                              (fun x1146 =>
                                                                                                impl_FracOf N a1 x1145 x1146
                                                                                                  (fun x1147 x1148 x1149 x1150 =>
                                                                                                    laws_eqFrac N (x1147, (x1149, (x1150, ()))) (x410, (x412, (x413, ())))
                                                                                                      (fun x1151 =>
                                                                                                        let x1152 := !x1151
                                                                                                        bif x1152 then
                                                                                                          k0 false
                                                                                                        else
                                                                                                          let x1153 := !(x1148 == x411)
                                                                                                          bif x1153 then
                                                                                                            k0 false
                                                                                                          else
                                                                                                            laws_heldFrac N (x1056, (x1121, (x1122, ()))) (1 : Int)
                                                                                                              (fun x1154 =>
                                                                                                                let x1155 := (decide (x1154 < (0 : Int)))
                                                                                                                bif x1155 then
                                                                                                                  k0 false
                                                                                                                else
                                                                                                                  let x1156 := !(decide (x1154 = x1120))
                                                                                                                  bif x1156 then
                                                                                                                    k0 false
                                                                                                                  else
                                                                                                                    k0 true)))))))))))))))))))))
theorem laws_FnExactFracOf.ex : ∃ f : ((α : Type) → Nat → Bool → List Int → List Int → (Bool → Option α) → Option α), f = fun α => @laws_FnExactFracOf.b α := ⟨_, rfl⟩
noncomputable def laws_FnExactFracOf {α : Type} : Nat → Bool → List Int → List Int → (Bool → Option α) → Option α := Classical.choose laws_FnExactFracOf.ex α
theorem laws_FnExactFracOf.eq : @laws_FnExactFracOf = @laws_FnExactFracOf.b := funext fun α => congrFun (Classical.choose_spec laws_FnExactFracOf.ex) α

end
end Go.Proofs.YthjjaddhcdekjaaAm
