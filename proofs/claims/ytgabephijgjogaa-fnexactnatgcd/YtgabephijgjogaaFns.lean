/-
  The functions that the program computes, as the abstract machine tells them. Printed by amp.py.
-/
import Derived.Test.YtgabephijgjogaaAmb
namespace Go.Proofs.YtgabephijgjogaaAm
open Go
noncomputable section
set_option linter.unusedVariables false
set_option linter.unusedSimpArgs false

noncomputable def laws_toIntS_L0r {α : Type} (N : Nat) (next : List Int → Int → List Int → Option α) (k0 : List Int → Option α) (v10 : List Int) (v11 : Int) (v12 : List Int) : Option α :=
  let x13 := ((v10.length : Nat) : Int)
  let x14 := decide (v11 < x13)
  bif x14 then
    bif (decide (v11 < (0 : Int))) then
      none
    else
      match v10[v11.toNat]? with
      | some x15 =>
        bif (decide (v11 < (0 : Int))) then
          none
        else
          bif decide (v11.toNat < v12.length) then
            match v12[v11.toNat]? with
            | some x16 =>
              let x17 := v12.set v11.toNat x15
              let x18 := (IntKind.i64.wrap (v11 + (1 : Int)))
              next v10 x18 x17
            | none => none
          else
            none
      | none => none
  else
    k0 v12
noncomputable def laws_toIntS_L0.b {α : Type} (N n : Nat) (v10 : List Int) (v11 : Int) (v12 : List Int) (k0 : List Int → Option α) : Option α :=
  Nat.rec (motive := fun _ => List Int → Int → List Int → Option α) (fun _ _ _ => none) (fun _ next => laws_toIntS_L0r N next k0) n v10 v11 v12
theorem laws_toIntS_L0.ex : ∃ f : ((α : Type) → Nat → Nat → List Int → Int → List Int → (List Int → Option α) → Option α), f = fun α => @laws_toIntS_L0.b α := ⟨_, rfl⟩
noncomputable def laws_toIntS_L0 {α : Type} : Nat → Nat → List Int → Int → List Int → (List Int → Option α) → Option α := Classical.choose laws_toIntS_L0.ex α
theorem laws_toIntS_L0.eq : @laws_toIntS_L0 = @laws_toIntS_L0.b := funext fun α => congrFun (Classical.choose_spec laws_toIntS_L0.ex) α
theorem laws_toIntS_L0.zero {α : Type} (N : Nat) (v10 : List Int) (v11 : Int) (v12 : List Int) (k0 : List Int → Option α) : laws_toIntS_L0 N 0 v10 v11 v12 k0 = none := by rw [laws_toIntS_L0.eq]; rfl
theorem laws_toIntS_L0.succ {α : Type} (N n : Nat) (v10 : List Int) (v11 : Int) (v12 : List Int) (k0 : List Int → Option α) : laws_toIntS_L0 N (n + 1) v10 v11 v12 k0 = laws_toIntS_L0r N (fun y0 y1 y2 => laws_toIntS_L0 N n y0 y1 y2 k0) k0 v10 v11 v12 := by rw [laws_toIntS_L0.eq]; rfl
/-- loop.example/pinfold/laws.toIntS -/
noncomputable def laws_toIntS.b {α : Type} (N : Nat) (a7 : List Int) (k0 : List Int → Option α) : Option α :=
  let x8 := ((a7.length : Nat) : Int)
  bif (decide ((0 : Int) ≤ x8)) then
    bif decide (x8 ≤ x8) then
      bif (decide (x8 ≤ ((8796093022208 : Nat) : Int))) then
        let x9 := (List.replicate x8.toNat (0 : Int))
        laws_toIntS_L0 N N a7 (0 : Int) x9
          (fun x19 =>
            k0 x19)
      else
        none
    else
      none
  else
    none
theorem laws_toIntS.ex : ∃ f : ((α : Type) → Nat → List Int → (List Int → Option α) → Option α), f = fun α => @laws_toIntS.b α := ⟨_, rfl⟩
noncomputable def laws_toIntS {α : Type} : Nat → List Int → (List Int → Option α) → Option α := Classical.choose laws_toIntS.ex α
theorem laws_toIntS.eq : @laws_toIntS = @laws_toIntS.b := funext fun α => congrFun (Classical.choose_spec laws_toIntS.ex) α

noncomputable def spec_NatOk_L0r {α : Type} (N : Nat) (next : List Int → Int → Option α) (k0 : Bool → Option α) (k1 : List Int → Option α) (v27 : List Int) (v28 : Int) : Option α :=
  let x29 := ((v27.length : Nat) : Int)
  let x30 := decide (v28 < x29)
  bif x30 then
    bif (decide (v28 < (0 : Int))) then
      none
    else
      match v27[v28.toNat]? with
      | some x31 =>
        let x32 := (decide (x31 < (0 : Int)))
        bif x32 then
          k0 false
        else
          bif (decide (v28 < (0 : Int))) then
            none
          else
            match v27[v28.toNat]? with
            | some x33 =>
              let x34 := (decide ((65536 : Int) ≤ x33))
              bif x34 then
                k0 false
              else
                let x35 := (IntKind.i64.wrap (v28 + (1 : Int)))
                next v27 x35
            | none => none
      | none => none
  else
    k1 v27
noncomputable def spec_NatOk_L0.b {α : Type} (N n : Nat) (v27 : List Int) (v28 : Int) (k0 : Bool → Option α) (k1 : List Int → Option α) : Option α :=
  Nat.rec (motive := fun _ => List Int → Int → Option α) (fun _ _ => none) (fun _ next => spec_NatOk_L0r N next k0 k1) n v27 v28
theorem spec_NatOk_L0.ex : ∃ f : ((α : Type) → Nat → Nat → List Int → Int → (Bool → Option α) → (List Int → Option α) → Option α), f = fun α => @spec_NatOk_L0.b α := ⟨_, rfl⟩
noncomputable def spec_NatOk_L0 {α : Type} : Nat → Nat → List Int → Int → (Bool → Option α) → (List Int → Option α) → Option α := Classical.choose spec_NatOk_L0.ex α
theorem spec_NatOk_L0.eq : @spec_NatOk_L0 = @spec_NatOk_L0.b := funext fun α => congrFun (Classical.choose_spec spec_NatOk_L0.ex) α
theorem spec_NatOk_L0.zero {α : Type} (N : Nat) (v27 : List Int) (v28 : Int) (k0 : Bool → Option α) (k1 : List Int → Option α) : spec_NatOk_L0 N 0 v27 v28 k0 k1 = none := by rw [spec_NatOk_L0.eq]; rfl
theorem spec_NatOk_L0.succ {α : Type} (N n : Nat) (v27 : List Int) (v28 : Int) (k0 : Bool → Option α) (k1 : List Int → Option α) : spec_NatOk_L0 N (n + 1) v27 v28 k0 k1 = spec_NatOk_L0r N (fun y0 y1 => spec_NatOk_L0 N n y0 y1 k0 k1) k0 k1 v27 v28 := by rw [spec_NatOk_L0.eq]; rfl
/-- loop.example/pinfold/spec.NatOk -/
noncomputable def spec_NatOk.b {α : Type} (N : Nat) (a24 : List Int) (k0 : Bool → Option α) : Option α :=
  let x25 := ((a24.length : Nat) : Int)
  let x26 := (decide ((256 : Int) < x25))
  bif x26 then
    k0 false
  else
    spec_NatOk_L0 N N a24 (0 : Int)
      (fun x36 =>
        k0 x36)
      (fun x37 =>
        let x38 := ((x37.length : Nat) : Int)
        let x39 := (decide (x38 = (0 : Int)))
        bif x39 then
          k0 true
        else
          let x40 := ((x37.length : Nat) : Int)
          let x41 := (IntKind.i64.wrap (x40 - (1 : Int)))
          bif (decide (x41 < (0 : Int))) then
            none
          else
            match x37[x41.toNat]? with
            | some x42 =>
              let x43 := (!(decide (x42 = (0 : Int))))
              k0 x43
            | none => none)
theorem spec_NatOk.ex : ∃ f : ((α : Type) → Nat → List Int → (Bool → Option α) → Option α), f = fun α => @spec_NatOk.b α := ⟨_, rfl⟩
noncomputable def spec_NatOk {α : Type} : Nat → List Int → (Bool → Option α) → Option α := Classical.choose spec_NatOk.ex α
theorem spec_NatOk.eq : @spec_NatOk = @spec_NatOk.b := funext fun α => congrFun (Classical.choose_spec spec_NatOk.ex) α

noncomputable def spec_l5Trim_L0r {α : Type} (N : Nat) (next : List Int → Int → Option α) (k0 : List Int → Int → Option α) (v52 : List Int) (v53 : Int) : Option α :=
  let x54 := (decide ((0 : Int) < v53))
  bif x54 then
    let x55 := (IntKind.i64.wrap (v53 - (1 : Int)))
    bif (decide (x55 < (0 : Int))) then
      none
    else
      match v52[x55.toNat]? with
      | some x56 =>
        let x57 := (decide (x56 = (0 : Int)))
        bif x57 then
          let x58 := (IntKind.i64.wrap (v53 - (1 : Int)))
          next v52 x58
        else
          k0 v52 v53
      | none => none
  else
    k0 v52 v53
noncomputable def spec_l5Trim_L0.b {α : Type} (N n : Nat) (v52 : List Int) (v53 : Int) (k0 : List Int → Int → Option α) : Option α :=
  Nat.rec (motive := fun _ => List Int → Int → Option α) (fun _ _ => none) (fun _ next => spec_l5Trim_L0r N next k0) n v52 v53
theorem spec_l5Trim_L0.ex : ∃ f : ((α : Type) → Nat → Nat → List Int → Int → (List Int → Int → Option α) → Option α), f = fun α => @spec_l5Trim_L0.b α := ⟨_, rfl⟩
noncomputable def spec_l5Trim_L0 {α : Type} : Nat → Nat → List Int → Int → (List Int → Int → Option α) → Option α := Classical.choose spec_l5Trim_L0.ex α
theorem spec_l5Trim_L0.eq : @spec_l5Trim_L0 = @spec_l5Trim_L0.b := funext fun α => congrFun (Classical.choose_spec spec_l5Trim_L0.ex) α
theorem spec_l5Trim_L0.zero {α : Type} (N : Nat) (v52 : List Int) (v53 : Int) (k0 : List Int → Int → Option α) : spec_l5Trim_L0 N 0 v52 v53 k0 = none := by rw [spec_l5Trim_L0.eq]; rfl
theorem spec_l5Trim_L0.succ {α : Type} (N n : Nat) (v52 : List Int) (v53 : Int) (k0 : List Int → Int → Option α) : spec_l5Trim_L0 N (n + 1) v52 v53 k0 = spec_l5Trim_L0r N (fun y0 y1 => spec_l5Trim_L0 N n y0 y1 k0) k0 v52 v53 := by rw [spec_l5Trim_L0.eq]; rfl
noncomputable def spec_l5Trim_L2r {α : Type} (N : Nat) (next : List Int → Int → Int → List Int → Option α) (k0 : List Int → Option α) (v61 : List Int) (v62 : Int) (v63 : Int) (v64 : List Int) : Option α :=
  let x65 := decide (v63 < v62)
  bif x65 then
    bif (decide (v63 < (0 : Int))) then
      none
    else
      match v61[v63.toNat]? with
      | some x66 =>
        let x67 := [x66]
        bif decide (v64.length + x67.length ≤ 8796093022208) then
          let x68 := v64 ++ x67
          let x69 := (IntKind.i64.wrap (v63 + (1 : Int)))
          next v61 v62 x69 x68
        else
          none
      | none => none
  else
    k0 v64
noncomputable def spec_l5Trim_L2.b {α : Type} (N n : Nat) (v61 : List Int) (v62 : Int) (v63 : Int) (v64 : List Int) (k0 : List Int → Option α) : Option α :=
  Nat.rec (motive := fun _ => List Int → Int → Int → List Int → Option α) (fun _ _ _ _ => none) (fun _ next => spec_l5Trim_L2r N next k0) n v61 v62 v63 v64
theorem spec_l5Trim_L2.ex : ∃ f : ((α : Type) → Nat → Nat → List Int → Int → Int → List Int → (List Int → Option α) → Option α), f = fun α => @spec_l5Trim_L2.b α := ⟨_, rfl⟩
noncomputable def spec_l5Trim_L2 {α : Type} : Nat → Nat → List Int → Int → Int → List Int → (List Int → Option α) → Option α := Classical.choose spec_l5Trim_L2.ex α
theorem spec_l5Trim_L2.eq : @spec_l5Trim_L2 = @spec_l5Trim_L2.b := funext fun α => congrFun (Classical.choose_spec spec_l5Trim_L2.ex) α
theorem spec_l5Trim_L2.zero {α : Type} (N : Nat) (v61 : List Int) (v62 : Int) (v63 : Int) (v64 : List Int) (k0 : List Int → Option α) : spec_l5Trim_L2 N 0 v61 v62 v63 v64 k0 = none := by rw [spec_l5Trim_L2.eq]; rfl
theorem spec_l5Trim_L2.succ {α : Type} (N n : Nat) (v61 : List Int) (v62 : Int) (v63 : Int) (v64 : List Int) (k0 : List Int → Option α) : spec_l5Trim_L2 N (n + 1) v61 v62 v63 v64 k0 = spec_l5Trim_L2r N (fun y0 y1 y2 y3 => spec_l5Trim_L2 N n y0 y1 y2 y3 k0) k0 v61 v62 v63 v64 := by rw [spec_l5Trim_L2.eq]; rfl
/-- loop.example/pinfold/spec.l5Trim -/
noncomputable def spec_l5Trim.b {α : Type} (N : Nat) (a50 : List Int) (k0 : List Int → Option α) : Option α :=
  let x51 := ((a50.length : Nat) : Int)
  spec_l5Trim_L0 N N a50 x51
    (fun x59 x60 =>
      spec_l5Trim_L2 N N x59 x60 (0 : Int) []
        (fun x70 =>
          k0 x70))
theorem spec_l5Trim.ex : ∃ f : ((α : Type) → Nat → List Int → (List Int → Option α) → Option α), f = fun α => @spec_l5Trim.b α := ⟨_, rfl⟩
noncomputable def spec_l5Trim {α : Type} : Nat → List Int → (List Int → Option α) → Option α := Classical.choose spec_l5Trim.ex α
theorem spec_l5Trim.eq : @spec_l5Trim = @spec_l5Trim.b := funext fun α => congrFun (Classical.choose_spec spec_l5Trim.ex) α

noncomputable def spec_l5Cmp_L0r {α : Type} (N : Nat) (next : List Int → List Int → Int → Option α) (k0 : Int → Option α) (k1 : Option α) (v89 : List Int) (v90 : List Int) (v91 : Int) : Option α :=
  let x92 := (decide ((0 : Int) ≤ v91))
  bif x92 then
    bif (decide (v91 < (0 : Int))) then
      none
    else
      match v89[v91.toNat]? with
      | some x93 =>
        bif (decide (v91 < (0 : Int))) then
          none
        else
          match v90[v91.toNat]? with
          | some x94 =>
            let x95 := decide (x93 < x94)
            bif x95 then
              k0 (-1 : Int)
            else
              bif (decide (v91 < (0 : Int))) then
                none
              else
                match v89[v91.toNat]? with
                | some x96 =>
                  bif (decide (v91 < (0 : Int))) then
                    none
                  else
                    match v90[v91.toNat]? with
                    | some x97 =>
                      let x98 := decide (x97 < x96)
                      bif x98 then
                        k0 (1 : Int)
                      else
                        let x99 := (IntKind.i64.wrap (v91 - (1 : Int)))
                        next v89 v90 x99
                    | none => none
                | none => none
          | none => none
      | none => none
  else
    k1
noncomputable def spec_l5Cmp_L0.b {α : Type} (N n : Nat) (v89 : List Int) (v90 : List Int) (v91 : Int) (k0 : Int → Option α) (k1 : Option α) : Option α :=
  Nat.rec (motive := fun _ => List Int → List Int → Int → Option α) (fun _ _ _ => none) (fun _ next => spec_l5Cmp_L0r N next k0 k1) n v89 v90 v91
theorem spec_l5Cmp_L0.ex : ∃ f : ((α : Type) → Nat → Nat → List Int → List Int → Int → (Int → Option α) → (Option α) → Option α), f = fun α => @spec_l5Cmp_L0.b α := ⟨_, rfl⟩
noncomputable def spec_l5Cmp_L0 {α : Type} : Nat → Nat → List Int → List Int → Int → (Int → Option α) → (Option α) → Option α := Classical.choose spec_l5Cmp_L0.ex α
theorem spec_l5Cmp_L0.eq : @spec_l5Cmp_L0 = @spec_l5Cmp_L0.b := funext fun α => congrFun (Classical.choose_spec spec_l5Cmp_L0.ex) α
theorem spec_l5Cmp_L0.zero {α : Type} (N : Nat) (v89 : List Int) (v90 : List Int) (v91 : Int) (k0 : Int → Option α) (k1 : Option α) : spec_l5Cmp_L0 N 0 v89 v90 v91 k0 k1 = none := by rw [spec_l5Cmp_L0.eq]; rfl
theorem spec_l5Cmp_L0.succ {α : Type} (N n : Nat) (v89 : List Int) (v90 : List Int) (v91 : Int) (k0 : Int → Option α) (k1 : Option α) : spec_l5Cmp_L0 N (n + 1) v89 v90 v91 k0 k1 = spec_l5Cmp_L0r N (fun y0 y1 y2 => spec_l5Cmp_L0 N n y0 y1 y2 k0 k1) k0 k1 v89 v90 v91 := by rw [spec_l5Cmp_L0.eq]; rfl
/-- loop.example/pinfold/spec.l5Cmp -/
noncomputable def spec_l5Cmp.b {α : Type} (N : Nat) (a79 : List Int) (a80 : List Int) (k0 : Int → Option α) : Option α :=
  let x81 := ((a79.length : Nat) : Int)
  let x82 := ((a80.length : Nat) : Int)
  let x83 := decide (x81 < x82)
  bif x83 then
    k0 (-1 : Int)
  else
    let x84 := ((a79.length : Nat) : Int)
    let x85 := ((a80.length : Nat) : Int)
    let x86 := decide (x85 < x84)
    bif x86 then
      k0 (1 : Int)
    else
      let x87 := ((a79.length : Nat) : Int)
      let x88 := (IntKind.i64.wrap (x87 - (1 : Int)))
      spec_l5Cmp_L0 N N a79 a80 x88
        (fun x100 =>
          k0 x100)
        (
          k0 (0 : Int))
theorem spec_l5Cmp.ex : ∃ f : ((α : Type) → Nat → List Int → List Int → (Int → Option α) → Option α), f = fun α => @spec_l5Cmp.b α := ⟨_, rfl⟩
noncomputable def spec_l5Cmp {α : Type} : Nat → List Int → List Int → (Int → Option α) → Option α := Classical.choose spec_l5Cmp.ex α
theorem spec_l5Cmp.eq : @spec_l5Cmp = @spec_l5Cmp.b := funext fun α => congrFun (Classical.choose_spec spec_l5Cmp.ex) α

noncomputable def spec_l5DivSmall_L0r {α : Type} (N : Nat) (next : List Int → Int → Int → Int → List Int → Option α) (k0 : Int → List Int → Option α) (v113 : List Int) (v114 : Int) (v115 : Int) (v116 : Int) (v117 : List Int) : Option α :=
  let x118 := (decide ((0 : Int) ≤ v116))
  bif x118 then
    let x119 := (IntKind.i64.wrap (v115 * (65536 : Int)))
    bif (decide (v116 < (0 : Int))) then
      none
    else
      match v113[v116.toNat]? with
      | some x120 =>
        let x121 := IntKind.i64.wrap (x119 + x120)
        bif (decide (v114 = (0 : Int))) then
          none
        else
          let x122 := IntKind.i64.wrap (Int.tdiv x121 v114)
          bif (decide (v116 < (0 : Int))) then
            none
          else
            bif decide (v116.toNat < v117.length) then
              match v117[v116.toNat]? with
              | some x123 =>
                let x124 := v117.set v116.toNat x122
                bif (decide (v114 = (0 : Int))) then
                  none
                else
                  let x125 := Int.tmod x121 v114
                  let x126 := (IntKind.i64.wrap (v116 - (1 : Int)))
                  next v113 v114 x125 x126 x124
              | none => none
            else
              none
      | none => none
  else
    k0 v115 v117
noncomputable def spec_l5DivSmall_L0.b {α : Type} (N n : Nat) (v113 : List Int) (v114 : Int) (v115 : Int) (v116 : Int) (v117 : List Int) (k0 : Int → List Int → Option α) : Option α :=
  Nat.rec (motive := fun _ => List Int → Int → Int → Int → List Int → Option α) (fun _ _ _ _ _ => none) (fun _ next => spec_l5DivSmall_L0r N next k0) n v113 v114 v115 v116 v117
theorem spec_l5DivSmall_L0.ex : ∃ f : ((α : Type) → Nat → Nat → List Int → Int → Int → Int → List Int → (Int → List Int → Option α) → Option α), f = fun α => @spec_l5DivSmall_L0.b α := ⟨_, rfl⟩
noncomputable def spec_l5DivSmall_L0 {α : Type} : Nat → Nat → List Int → Int → Int → Int → List Int → (Int → List Int → Option α) → Option α := Classical.choose spec_l5DivSmall_L0.ex α
theorem spec_l5DivSmall_L0.eq : @spec_l5DivSmall_L0 = @spec_l5DivSmall_L0.b := funext fun α => congrFun (Classical.choose_spec spec_l5DivSmall_L0.ex) α
theorem spec_l5DivSmall_L0.zero {α : Type} (N : Nat) (v113 : List Int) (v114 : Int) (v115 : Int) (v116 : Int) (v117 : List Int) (k0 : Int → List Int → Option α) : spec_l5DivSmall_L0 N 0 v113 v114 v115 v116 v117 k0 = none := by rw [spec_l5DivSmall_L0.eq]; rfl
theorem spec_l5DivSmall_L0.succ {α : Type} (N n : Nat) (v113 : List Int) (v114 : Int) (v115 : Int) (v116 : Int) (v117 : List Int) (k0 : Int → List Int → Option α) : spec_l5DivSmall_L0 N (n + 1) v113 v114 v115 v116 v117 k0 = spec_l5DivSmall_L0r N (fun y0 y1 y2 y3 y4 => spec_l5DivSmall_L0 N n y0 y1 y2 y3 y4 k0) k0 v113 v114 v115 v116 v117 := by rw [spec_l5DivSmall_L0.eq]; rfl
/-- loop.example/pinfold/spec.l5DivSmall -/
noncomputable def spec_l5DivSmall.b {α : Type} (N : Nat) (a107 : List Int) (a108 : Int) (k0 : Int → List Int → Option α) : Option α :=
  let x109 := ((a107.length : Nat) : Int)
  bif (decide ((0 : Int) ≤ x109)) then
    bif decide (x109 ≤ x109) then
      bif (decide (x109 ≤ ((8796093022208 : Nat) : Int))) then
        let x110 := (List.replicate x109.toNat (0 : Int))
        let x111 := ((a107.length : Nat) : Int)
        let x112 := (IntKind.i64.wrap (x111 - (1 : Int)))
        spec_l5DivSmall_L0 N N a107 a108 (0 : Int) x112 x110
          (fun x127 x128 =>
            spec_l5Trim N x128
              (fun x129 =>
                k0 x127 x129))
      else
        none
    else
      none
  else
    none
theorem spec_l5DivSmall.ex : ∃ f : ((α : Type) → Nat → List Int → Int → (Int → List Int → Option α) → Option α), f = fun α => @spec_l5DivSmall.b α := ⟨_, rfl⟩
noncomputable def spec_l5DivSmall {α : Type} : Nat → List Int → Int → (Int → List Int → Option α) → Option α := Classical.choose spec_l5DivSmall.ex α
theorem spec_l5DivSmall.eq : @spec_l5DivSmall = @spec_l5DivSmall.b := funext fun α => congrFun (Classical.choose_spec spec_l5DivSmall.ex) α

noncomputable def spec_NatOf_L0r {α : Type} (N : Nat) (next : Int → List Int → Option α) (k0 : List Int → Option α) (v134 : Int) (v135 : List Int) : Option α :=
  let x136 := (decide ((0 : Int) < v134))
  bif x136 then
    let x137 := (Int.tmod v134 (65536 : Int))
    let x138 := IntKind.i64.wrap x137
    let x139 := [x138]
    bif decide (v135.length + x139.length ≤ 8796093022208) then
      let x140 := v135 ++ x139
      let x141 := (IntKind.u64.wrap (Int.tdiv v134 (65536 : Int)))
      next x141 x140
    else
      none
  else
    k0 v135
noncomputable def spec_NatOf_L0.b {α : Type} (N n : Nat) (v134 : Int) (v135 : List Int) (k0 : List Int → Option α) : Option α :=
  Nat.rec (motive := fun _ => Int → List Int → Option α) (fun _ _ => none) (fun _ next => spec_NatOf_L0r N next k0) n v134 v135
theorem spec_NatOf_L0.ex : ∃ f : ((α : Type) → Nat → Nat → Int → List Int → (List Int → Option α) → Option α), f = fun α => @spec_NatOf_L0.b α := ⟨_, rfl⟩
noncomputable def spec_NatOf_L0 {α : Type} : Nat → Nat → Int → List Int → (List Int → Option α) → Option α := Classical.choose spec_NatOf_L0.ex α
theorem spec_NatOf_L0.eq : @spec_NatOf_L0 = @spec_NatOf_L0.b := funext fun α => congrFun (Classical.choose_spec spec_NatOf_L0.ex) α
theorem spec_NatOf_L0.zero {α : Type} (N : Nat) (v134 : Int) (v135 : List Int) (k0 : List Int → Option α) : spec_NatOf_L0 N 0 v134 v135 k0 = none := by rw [spec_NatOf_L0.eq]; rfl
theorem spec_NatOf_L0.succ {α : Type} (N n : Nat) (v134 : Int) (v135 : List Int) (k0 : List Int → Option α) : spec_NatOf_L0 N (n + 1) v134 v135 k0 = spec_NatOf_L0r N (fun y0 y1 => spec_NatOf_L0 N n y0 y1 k0) k0 v134 v135 := by rw [spec_NatOf_L0.eq]; rfl
/-- loop.example/pinfold/spec.NatOf -/
noncomputable def spec_NatOf.b {α : Type} (N : Nat) (a133 : Int) (k0 : List Int → Option α) : Option α :=
  spec_NatOf_L0 N N a133 []
    (fun x142 =>
      k0 x142)
theorem spec_NatOf.ex : ∃ f : ((α : Type) → Nat → Int → (List Int → Option α) → Option α), f = fun α => @spec_NatOf.b α := ⟨_, rfl⟩
noncomputable def spec_NatOf {α : Type} : Nat → Int → (List Int → Option α) → Option α := Classical.choose spec_NatOf.ex α
theorem spec_NatOf.eq : @spec_NatOf = @spec_NatOf.b := funext fun α => congrFun (Classical.choose_spec spec_NatOf.ex) α

noncomputable def spec_l5Mul_L2r {α : Type} (N : Nat) (next : List Int → List Int → Int → Int → Int → List Int → Option α) (k0 : List Int → List Int → Int → Int → List Int → Option α) (v165 : List Int) (v166 : List Int) (v167 : Int) (v168 : Int) (v169 : Int) (v170 : List Int) : Option α :=
  let x171 := ((v166.length : Nat) : Int)
  let x172 := decide (v169 < x171)
  bif x172 then
    let x173 := IntKind.i64.wrap (v167 + v169)
    bif (decide (x173 < (0 : Int))) then
      none
    else
      bif decide (x173.toNat < v170.length) then
        match v170[x173.toNat]? with
        | some x174 =>
          bif (decide (v167 < (0 : Int))) then
            none
          else
            match v165[v167.toNat]? with
            | some x175 =>
              bif (decide (v169 < (0 : Int))) then
                none
              else
                match v166[v169.toNat]? with
                | some x176 =>
                  let x177 := IntKind.i64.wrap (x175 * x176)
                  let x178 := IntKind.i64.wrap (x174 + x177)
                  let x179 := IntKind.i64.wrap (x178 + v168)
                  let x180 := IntKind.i64.wrap (v167 + v169)
                  let x181 := (Int.tmod x179 (65536 : Int))
                  bif (decide (x180 < (0 : Int))) then
                    none
                  else
                    bif decide (x180.toNat < v170.length) then
                      match v170[x180.toNat]? with
                      | some x182 =>
                        let x183 := v170.set x180.toNat x181
                        let x184 := (IntKind.i64.wrap (Int.tdiv x179 (65536 : Int)))
                        let x185 := (IntKind.i64.wrap (v169 + (1 : Int)))
                        next v165 v166 v167 x184 x185 x183
                      | none => none
                    else
                      none
                | none => none
            | none => none
        | none => none
      else
        none
  else
    k0 v165 v166 v167 v168 v170
noncomputable def spec_l5Mul_L2.b {α : Type} (N n : Nat) (v165 : List Int) (v166 : List Int) (v167 : Int) (v168 : Int) (v169 : Int) (v170 : List Int) (k0 : List Int → List Int → Int → Int → List Int → Option α) : Option α :=
  Nat.rec (motive := fun _ => List Int → List Int → Int → Int → Int → List Int → Option α) (fun _ _ _ _ _ _ => none) (fun _ next => spec_l5Mul_L2r N next k0) n v165 v166 v167 v168 v169 v170
theorem spec_l5Mul_L2.ex : ∃ f : ((α : Type) → Nat → Nat → List Int → List Int → Int → Int → Int → List Int → (List Int → List Int → Int → Int → List Int → Option α) → Option α), f = fun α => @spec_l5Mul_L2.b α := ⟨_, rfl⟩
noncomputable def spec_l5Mul_L2 {α : Type} : Nat → Nat → List Int → List Int → Int → Int → Int → List Int → (List Int → List Int → Int → Int → List Int → Option α) → Option α := Classical.choose spec_l5Mul_L2.ex α
theorem spec_l5Mul_L2.eq : @spec_l5Mul_L2 = @spec_l5Mul_L2.b := funext fun α => congrFun (Classical.choose_spec spec_l5Mul_L2.ex) α
theorem spec_l5Mul_L2.zero {α : Type} (N : Nat) (v165 : List Int) (v166 : List Int) (v167 : Int) (v168 : Int) (v169 : Int) (v170 : List Int) (k0 : List Int → List Int → Int → Int → List Int → Option α) : spec_l5Mul_L2 N 0 v165 v166 v167 v168 v169 v170 k0 = none := by rw [spec_l5Mul_L2.eq]; rfl
theorem spec_l5Mul_L2.succ {α : Type} (N n : Nat) (v165 : List Int) (v166 : List Int) (v167 : Int) (v168 : Int) (v169 : Int) (v170 : List Int) (k0 : List Int → List Int → Int → Int → List Int → Option α) : spec_l5Mul_L2 N (n + 1) v165 v166 v167 v168 v169 v170 k0 = spec_l5Mul_L2r N (fun y0 y1 y2 y3 y4 y5 => spec_l5Mul_L2 N n y0 y1 y2 y3 y4 y5 k0) k0 v165 v166 v167 v168 v169 v170 := by rw [spec_l5Mul_L2.eq]; rfl
noncomputable def spec_l5Mul_L0r {α : Type} (N : Nat) (next : List Int → List Int → Int → List Int → Option α) (k0 : List Int → Option α) (v159 : List Int) (v160 : List Int) (v161 : Int) (v162 : List Int) : Option α :=
  let x163 := ((v159.length : Nat) : Int)
  let x164 := decide (v161 < x163)
  bif x164 then
    spec_l5Mul_L2 N N v159 v160 v161 (0 : Int) (0 : Int) v162
      (fun x186 x187 x188 x189 x190 =>
        let x191 := ((x187.length : Nat) : Int)
        let x192 := IntKind.i64.wrap (x188 + x191)
        bif (decide (x192 < (0 : Int))) then
          none
        else
          bif decide (x192.toNat < x190.length) then
            match x190[x192.toNat]? with
            | some x193 =>
              let x194 := x190.set x192.toNat x189
              let x195 := (IntKind.i64.wrap (x188 + (1 : Int)))
              next x186 x187 x195 x194
            | none => none
          else
            none)
  else
    k0 v162
noncomputable def spec_l5Mul_L0.b {α : Type} (N n : Nat) (v159 : List Int) (v160 : List Int) (v161 : Int) (v162 : List Int) (k0 : List Int → Option α) : Option α :=
  Nat.rec (motive := fun _ => List Int → List Int → Int → List Int → Option α) (fun _ _ _ _ => none) (fun _ next => spec_l5Mul_L0r N next k0) n v159 v160 v161 v162
theorem spec_l5Mul_L0.ex : ∃ f : ((α : Type) → Nat → Nat → List Int → List Int → Int → List Int → (List Int → Option α) → Option α), f = fun α => @spec_l5Mul_L0.b α := ⟨_, rfl⟩
noncomputable def spec_l5Mul_L0 {α : Type} : Nat → Nat → List Int → List Int → Int → List Int → (List Int → Option α) → Option α := Classical.choose spec_l5Mul_L0.ex α
theorem spec_l5Mul_L0.eq : @spec_l5Mul_L0 = @spec_l5Mul_L0.b := funext fun α => congrFun (Classical.choose_spec spec_l5Mul_L0.ex) α
theorem spec_l5Mul_L0.zero {α : Type} (N : Nat) (v159 : List Int) (v160 : List Int) (v161 : Int) (v162 : List Int) (k0 : List Int → Option α) : spec_l5Mul_L0 N 0 v159 v160 v161 v162 k0 = none := by rw [spec_l5Mul_L0.eq]; rfl
theorem spec_l5Mul_L0.succ {α : Type} (N n : Nat) (v159 : List Int) (v160 : List Int) (v161 : Int) (v162 : List Int) (k0 : List Int → Option α) : spec_l5Mul_L0 N (n + 1) v159 v160 v161 v162 k0 = spec_l5Mul_L0r N (fun y0 y1 y2 y3 => spec_l5Mul_L0 N n y0 y1 y2 y3 k0) k0 v159 v160 v161 v162 := by rw [spec_l5Mul_L0.eq]; rfl
/-- loop.example/pinfold/spec.l5Mul -/
noncomputable def spec_l5Mul.b {α : Type} (N : Nat) (a153 : List Int) (a154 : List Int) (k0 : List Int → Option α) : Option α :=
  let x155 := ((a153.length : Nat) : Int)
  let x156 := ((a154.length : Nat) : Int)
  let x157 := IntKind.i64.wrap (x155 + x156)
  bif (decide ((0 : Int) ≤ x157)) then
    bif decide (x157 ≤ x157) then
      bif (decide (x157 ≤ ((8796093022208 : Nat) : Int))) then
        let x158 := (List.replicate x157.toNat (0 : Int))
        spec_l5Mul_L0 N N a153 a154 (0 : Int) x158
          (fun x196 =>
            spec_l5Trim N x196
              (fun x197 =>
                k0 x197))
      else
        none
    else
      none
  else
    none
theorem spec_l5Mul.ex : ∃ f : ((α : Type) → Nat → List Int → List Int → (List Int → Option α) → Option α), f = fun α => @spec_l5Mul.b α := ⟨_, rfl⟩
noncomputable def spec_l5Mul {α : Type} : Nat → List Int → List Int → (List Int → Option α) → Option α := Classical.choose spec_l5Mul.ex α
theorem spec_l5Mul.eq : @spec_l5Mul = @spec_l5Mul.b := funext fun α => congrFun (Classical.choose_spec spec_l5Mul.ex) α

/-- loop.example/pinfold/spec.l5Times -/
noncomputable def spec_l5Times.b {α : Type} (N : Nat) (a149 : List Int) (a150 : Int) (k0 : List Int → Option α) : Option α :=
  let x151 := (decide (a150 = (0 : Int)))
  bif x151 then
    k0 []
  else
    let x152 := [a150]
    spec_l5Mul N a149 x152
      (fun x198 =>
        k0 x198)
theorem spec_l5Times.ex : ∃ f : ((α : Type) → Nat → List Int → Int → (List Int → Option α) → Option α), f = fun α => @spec_l5Times.b α := ⟨_, rfl⟩
noncomputable def spec_l5Times {α : Type} : Nat → List Int → Int → (List Int → Option α) → Option α := Classical.choose spec_l5Times.ex α
theorem spec_l5Times.eq : @spec_l5Times = @spec_l5Times.b := funext fun α => congrFun (Classical.choose_spec spec_l5Times.ex) α

noncomputable def spec_l5Top_L0r {α : Type} (N : Nat) (next : List Int → Int → List Int → Option α) (k0 : List Int → Option α) (v211 : List Int) (v212 : Int) (v213 : List Int) : Option α :=
  let x214 := ((v211.length : Nat) : Int)
  let x215 := decide (v212 < x214)
  bif x215 then
    bif (decide (v212 < (0 : Int))) then
      none
    else
      match v211[v212.toNat]? with
      | some x216 =>
        let x217 := [x216]
        bif decide (v213.length + x217.length ≤ 8796093022208) then
          let x218 := v213 ++ x217
          let x219 := (IntKind.i64.wrap (v212 + (1 : Int)))
          next v211 x219 x218
        else
          none
      | none => none
  else
    k0 v213
noncomputable def spec_l5Top_L0.b {α : Type} (N n : Nat) (v211 : List Int) (v212 : Int) (v213 : List Int) (k0 : List Int → Option α) : Option α :=
  Nat.rec (motive := fun _ => List Int → Int → List Int → Option α) (fun _ _ _ => none) (fun _ next => spec_l5Top_L0r N next k0) n v211 v212 v213
theorem spec_l5Top_L0.ex : ∃ f : ((α : Type) → Nat → Nat → List Int → Int → List Int → (List Int → Option α) → Option α), f = fun α => @spec_l5Top_L0.b α := ⟨_, rfl⟩
noncomputable def spec_l5Top_L0 {α : Type} : Nat → Nat → List Int → Int → List Int → (List Int → Option α) → Option α := Classical.choose spec_l5Top_L0.ex α
theorem spec_l5Top_L0.eq : @spec_l5Top_L0 = @spec_l5Top_L0.b := funext fun α => congrFun (Classical.choose_spec spec_l5Top_L0.ex) α
theorem spec_l5Top_L0.zero {α : Type} (N : Nat) (v211 : List Int) (v212 : Int) (v213 : List Int) (k0 : List Int → Option α) : spec_l5Top_L0 N 0 v211 v212 v213 k0 = none := by rw [spec_l5Top_L0.eq]; rfl
theorem spec_l5Top_L0.succ {α : Type} (N n : Nat) (v211 : List Int) (v212 : Int) (v213 : List Int) (k0 : List Int → Option α) : spec_l5Top_L0 N (n + 1) v211 v212 v213 k0 = spec_l5Top_L0r N (fun y0 y1 y2 => spec_l5Top_L0 N n y0 y1 y2 k0) k0 v211 v212 v213 := by rw [spec_l5Top_L0.eq]; rfl
/-- loop.example/pinfold/spec.l5Top -/
noncomputable def spec_l5Top.b {α : Type} (N : Nat) (a209 : List Int) (a210 : Int) (k0 : List Int → Option α) : Option α :=
  spec_l5Top_L0 N N a209 a210 []
    (fun x220 =>
      k0 x220)
theorem spec_l5Top.ex : ∃ f : ((α : Type) → Nat → List Int → Int → (List Int → Option α) → Option α), f = fun α => @spec_l5Top.b α := ⟨_, rfl⟩
noncomputable def spec_l5Top {α : Type} : Nat → List Int → Int → (List Int → Option α) → Option α := Classical.choose spec_l5Top.ex α
theorem spec_l5Top.eq : @spec_l5Top = @spec_l5Top.b := funext fun α => congrFun (Classical.choose_spec spec_l5Top.ex) α

noncomputable def spec_l5Shl_L0r {α : Type} (N : Nat) (next : List Int → Int → List Int → Option α) (k0 : List Int → Option α) (v237 : List Int) (v238 : Int) (v239 : List Int) : Option α :=
  let x240 := ((v237.length : Nat) : Int)
  let x241 := decide (v238 < x240)
  bif x241 then
    bif (decide (v238 < (0 : Int))) then
      none
    else
      match v237[v238.toNat]? with
      | some x242 =>
        let x243 := [x242]
        bif decide (v239.length + x243.length ≤ 8796093022208) then
          let x244 := v239 ++ x243
          let x245 := (IntKind.i64.wrap (v238 + (1 : Int)))
          next v237 x245 x244
        else
          none
      | none => none
  else
    k0 v239
noncomputable def spec_l5Shl_L0.b {α : Type} (N n : Nat) (v237 : List Int) (v238 : Int) (v239 : List Int) (k0 : List Int → Option α) : Option α :=
  Nat.rec (motive := fun _ => List Int → Int → List Int → Option α) (fun _ _ _ => none) (fun _ next => spec_l5Shl_L0r N next k0) n v237 v238 v239
theorem spec_l5Shl_L0.ex : ∃ f : ((α : Type) → Nat → Nat → List Int → Int → List Int → (List Int → Option α) → Option α), f = fun α => @spec_l5Shl_L0.b α := ⟨_, rfl⟩
noncomputable def spec_l5Shl_L0 {α : Type} : Nat → Nat → List Int → Int → List Int → (List Int → Option α) → Option α := Classical.choose spec_l5Shl_L0.ex α
theorem spec_l5Shl_L0.eq : @spec_l5Shl_L0 = @spec_l5Shl_L0.b := funext fun α => congrFun (Classical.choose_spec spec_l5Shl_L0.ex) α
theorem spec_l5Shl_L0.zero {α : Type} (N : Nat) (v237 : List Int) (v238 : Int) (v239 : List Int) (k0 : List Int → Option α) : spec_l5Shl_L0 N 0 v237 v238 v239 k0 = none := by rw [spec_l5Shl_L0.eq]; rfl
theorem spec_l5Shl_L0.succ {α : Type} (N n : Nat) (v237 : List Int) (v238 : Int) (v239 : List Int) (k0 : List Int → Option α) : spec_l5Shl_L0 N (n + 1) v237 v238 v239 k0 = spec_l5Shl_L0r N (fun y0 y1 y2 => spec_l5Shl_L0 N n y0 y1 y2 k0) k0 v237 v238 v239 := by rw [spec_l5Shl_L0.eq]; rfl
/-- loop.example/pinfold/spec.l5Shl -/
noncomputable def spec_l5Shl.b {α : Type} (N : Nat) (a232 : List Int) (a233 : Int) (k0 : List Int → Option α) : Option α :=
  let x234 := ((a232.length : Nat) : Int)
  let x235 := (decide (x234 = (0 : Int)))
  bif x235 then
    k0 []
  else
    bif (decide ((0 : Int) ≤ a233)) then
      bif decide (a233 ≤ a233) then
        bif (decide (a233 ≤ ((8796093022208 : Nat) : Int))) then
          let x236 := (List.replicate a233.toNat (0 : Int))
          spec_l5Shl_L0 N N a232 (0 : Int) x236
            (fun x246 =>
              k0 x246)
        else
          none
      else
        none
    else
      none
theorem spec_l5Shl.ex : ∃ f : ((α : Type) → Nat → List Int → Int → (List Int → Option α) → Option α), f = fun α => @spec_l5Shl.b α := ⟨_, rfl⟩
noncomputable def spec_l5Shl {α : Type} : Nat → List Int → Int → (List Int → Option α) → Option α := Classical.choose spec_l5Shl.ex α
theorem spec_l5Shl.eq : @spec_l5Shl = @spec_l5Shl.b := funext fun α => congrFun (Classical.choose_spec spec_l5Shl.ex) α

/-- loop.example/pinfold/spec.l5At -/
noncomputable def spec_l5At.b {α : Type} (N : Nat) (a270 : List Int) (a271 : Int) (k0 : Int → Option α) : Option α :=
  let x272 := ((a270.length : Nat) : Int)
  let x273 := decide (a271 < x272)
  bif x273 then
    bif (decide (a271 < (0 : Int))) then
      none
    else
      match a270[a271.toNat]? with
      | some x274 =>
        k0 x274
      | none => none
  else
    k0 (0 : Int)
theorem spec_l5At.ex : ∃ f : ((α : Type) → Nat → List Int → Int → (Int → Option α) → Option α), f = fun α => @spec_l5At.b α := ⟨_, rfl⟩
noncomputable def spec_l5At {α : Type} : Nat → List Int → Int → (Int → Option α) → Option α := Classical.choose spec_l5At.ex α
theorem spec_l5At.eq : @spec_l5At = @spec_l5At.b := funext fun α => congrFun (Classical.choose_spec spec_l5At.ex) α

noncomputable def spec_l5Add_J2.b {α : Type} (N : Nat) (v254 : List Int) (v255 : List Int) (v256 : Int) (k0 : List Int → List Int → Int → Option α) : Option α :=
  let x257 := ((v255.length : Nat) : Int)
  let x258 := decide (v256 < x257)
  bif x258 then
    let x259 := ((v255.length : Nat) : Int)
    k0 v254 v255 x259
  else
    k0 v254 v255 v256
theorem spec_l5Add_J2.ex : ∃ f : ((α : Type) → Nat → List Int → List Int → Int → (List Int → List Int → Int → Option α) → Option α), f = fun α => @spec_l5Add_J2.b α := ⟨_, rfl⟩
noncomputable def spec_l5Add_J2 {α : Type} : Nat → List Int → List Int → Int → (List Int → List Int → Int → Option α) → Option α := Classical.choose spec_l5Add_J2.ex α
theorem spec_l5Add_J2.eq : @spec_l5Add_J2 = @spec_l5Add_J2.b := funext fun α => congrFun (Classical.choose_spec spec_l5Add_J2.ex) α
noncomputable def spec_l5Add_L0r {α : Type} (N : Nat) (next : List Int → List Int → Int → Int → Int → List Int → Option α) (k0 : Int → List Int → Option α) (v263 : List Int) (v264 : List Int) (v265 : Int) (v266 : Int) (v267 : Int) (v268 : List Int) : Option α :=
  let x269 := decide (v267 < v265)
  bif x269 then
    spec_l5At N v263 v267
      (fun x275 =>
        spec_l5At N v264 v267
          (fun x276 =>
            let x277 := IntKind.i64.wrap (x275 + x276)
            let x278 := IntKind.i64.wrap (x277 + v266)
            let x279 := (Int.tmod x278 (65536 : Int))
            let x280 := [x279]
            bif decide (v268.length + x280.length ≤ 8796093022208) then
              let x281 := v268 ++ x280
              let x282 := (IntKind.i64.wrap (Int.tdiv x278 (65536 : Int)))
              let x283 := (IntKind.i64.wrap (v267 + (1 : Int)))
              next v263 v264 v265 x282 x283 x281
            else
              none))
  else
    k0 v266 v268
noncomputable def spec_l5Add_L0.b {α : Type} (N n : Nat) (v263 : List Int) (v264 : List Int) (v265 : Int) (v266 : Int) (v267 : Int) (v268 : List Int) (k0 : Int → List Int → Option α) : Option α :=
  Nat.rec (motive := fun _ => List Int → List Int → Int → Int → Int → List Int → Option α) (fun _ _ _ _ _ _ => none) (fun _ next => spec_l5Add_L0r N next k0) n v263 v264 v265 v266 v267 v268
theorem spec_l5Add_L0.ex : ∃ f : ((α : Type) → Nat → Nat → List Int → List Int → Int → Int → Int → List Int → (Int → List Int → Option α) → Option α), f = fun α => @spec_l5Add_L0.b α := ⟨_, rfl⟩
noncomputable def spec_l5Add_L0 {α : Type} : Nat → Nat → List Int → List Int → Int → Int → Int → List Int → (Int → List Int → Option α) → Option α := Classical.choose spec_l5Add_L0.ex α
theorem spec_l5Add_L0.eq : @spec_l5Add_L0 = @spec_l5Add_L0.b := funext fun α => congrFun (Classical.choose_spec spec_l5Add_L0.ex) α
theorem spec_l5Add_L0.zero {α : Type} (N : Nat) (v263 : List Int) (v264 : List Int) (v265 : Int) (v266 : Int) (v267 : Int) (v268 : List Int) (k0 : Int → List Int → Option α) : spec_l5Add_L0 N 0 v263 v264 v265 v266 v267 v268 k0 = none := by rw [spec_l5Add_L0.eq]; rfl
theorem spec_l5Add_L0.succ {α : Type} (N n : Nat) (v263 : List Int) (v264 : List Int) (v265 : Int) (v266 : Int) (v267 : Int) (v268 : List Int) (k0 : Int → List Int → Option α) : spec_l5Add_L0 N (n + 1) v263 v264 v265 v266 v267 v268 k0 = spec_l5Add_L0r N (fun y0 y1 y2 y3 y4 y5 => spec_l5Add_L0 N n y0 y1 y2 y3 y4 y5 k0) k0 v263 v264 v265 v266 v267 v268 := by rw [spec_l5Add_L0.eq]; rfl
noncomputable def spec_l5Add_J12.b {α : Type} (N : Nat) (v286 : Int) (v287 : List Int) (k0 : List Int → Option α) : Option α :=
  let x288 := (decide ((0 : Int) < v286))
  bif x288 then
    let x289 := [v286]
    bif decide (v287.length + x289.length ≤ 8796093022208) then
      let x290 := v287 ++ x289
      k0 x290
    else
      none
  else
    k0 v287
theorem spec_l5Add_J12.ex : ∃ f : ((α : Type) → Nat → Int → List Int → (List Int → Option α) → Option α), f = fun α => @spec_l5Add_J12.b α := ⟨_, rfl⟩
noncomputable def spec_l5Add_J12 {α : Type} : Nat → Int → List Int → (List Int → Option α) → Option α := Classical.choose spec_l5Add_J12.ex α
theorem spec_l5Add_J12.eq : @spec_l5Add_J12 = @spec_l5Add_J12.b := funext fun α => congrFun (Classical.choose_spec spec_l5Add_J12.ex) α
/-- loop.example/pinfold/spec.l5Add -/
noncomputable def spec_l5Add.b {α : Type} (N : Nat) (a251 : List Int) (a252 : List Int) (k0 : List Int → Option α) : Option α :=
  let x253 := ((a251.length : Nat) : Int)
  spec_l5Add_J2 N a251 a252 x253
    (fun x260 x261 x262 =>
      spec_l5Add_L0 N N x260 x261 x262 (0 : Int) (0 : Int) []
        (fun x284 x285 =>
          spec_l5Add_J12 N x284 x285
            (fun x291 =>
              k0 x291)))
theorem spec_l5Add.ex : ∃ f : ((α : Type) → Nat → List Int → List Int → (List Int → Option α) → Option α), f = fun α => @spec_l5Add.b α := ⟨_, rfl⟩
noncomputable def spec_l5Add {α : Type} : Nat → List Int → List Int → (List Int → Option α) → Option α := Classical.choose spec_l5Add.ex α
theorem spec_l5Add.eq : @spec_l5Add = @spec_l5Add.b := funext fun α => congrFun (Classical.choose_spec spec_l5Add.ex) α

noncomputable def spec_l5Sub_J8.b {α : Type} (N : Nat) (v344 : List Int) (v345 : List Int) (v346 : Int) (v347 : Int) (v348 : Int) (v349 : List Int) (k0 : List Int → List Int → Int → Int → Int → List Int → Option α) : Option α :=
  let x350 := (decide (v348 < (0 : Int)))
  bif x350 then
    let x351 := (IntKind.i64.wrap (v348 + (65536 : Int)))
    k0 v344 v345 (1 : Int) v347 x351 v349
  else
    k0 v344 v345 v346 v347 v348 v349
theorem spec_l5Sub_J8.ex : ∃ f : ((α : Type) → Nat → List Int → List Int → Int → Int → Int → List Int → (List Int → List Int → Int → Int → Int → List Int → Option α) → Option α), f = fun α => @spec_l5Sub_J8.b α := ⟨_, rfl⟩
noncomputable def spec_l5Sub_J8 {α : Type} : Nat → List Int → List Int → Int → Int → Int → List Int → (List Int → List Int → Int → Int → Int → List Int → Option α) → Option α := Classical.choose spec_l5Sub_J8.ex α
theorem spec_l5Sub_J8.eq : @spec_l5Sub_J8 = @spec_l5Sub_J8.b := funext fun α => congrFun (Classical.choose_spec spec_l5Sub_J8.ex) α
noncomputable def spec_l5Sub_L0r {α : Type} (N : Nat) (next : List Int → List Int → Int → Int → List Int → Option α) (k0 : List Int → Option α) (v333 : List Int) (v334 : List Int) (v335 : Int) (v336 : Int) (v337 : List Int) : Option α :=
  let x338 := ((v333.length : Nat) : Int)
  let x339 := decide (v336 < x338)
  bif x339 then
    bif (decide (v336 < (0 : Int))) then
      none
    else
      match v333[v336.toNat]? with
      | some x340 =>
        spec_l5At N v334 v336
          (fun x341 =>
            let x342 := IntKind.i64.wrap (x340 - x341)
            let x343 := IntKind.i64.wrap (x342 - v335)
            spec_l5Sub_J8 N v333 v334 (0 : Int) v336 x343 v337
              (fun x352 x353 x354 x355 x356 x357 =>
                let x358 := [x356]
                bif decide (x357.length + x358.length ≤ 8796093022208) then
                  let x359 := x357 ++ x358
                  let x360 := (IntKind.i64.wrap (x355 + (1 : Int)))
                  next x352 x353 x354 x360 x359
                else
                  none))
      | none => none
  else
    k0 v337
noncomputable def spec_l5Sub_L0.b {α : Type} (N n : Nat) (v333 : List Int) (v334 : List Int) (v335 : Int) (v336 : Int) (v337 : List Int) (k0 : List Int → Option α) : Option α :=
  Nat.rec (motive := fun _ => List Int → List Int → Int → Int → List Int → Option α) (fun _ _ _ _ _ => none) (fun _ next => spec_l5Sub_L0r N next k0) n v333 v334 v335 v336 v337
theorem spec_l5Sub_L0.ex : ∃ f : ((α : Type) → Nat → Nat → List Int → List Int → Int → Int → List Int → (List Int → Option α) → Option α), f = fun α => @spec_l5Sub_L0.b α := ⟨_, rfl⟩
noncomputable def spec_l5Sub_L0 {α : Type} : Nat → Nat → List Int → List Int → Int → Int → List Int → (List Int → Option α) → Option α := Classical.choose spec_l5Sub_L0.ex α
theorem spec_l5Sub_L0.eq : @spec_l5Sub_L0 = @spec_l5Sub_L0.b := funext fun α => congrFun (Classical.choose_spec spec_l5Sub_L0.ex) α
theorem spec_l5Sub_L0.zero {α : Type} (N : Nat) (v333 : List Int) (v334 : List Int) (v335 : Int) (v336 : Int) (v337 : List Int) (k0 : List Int → Option α) : spec_l5Sub_L0 N 0 v333 v334 v335 v336 v337 k0 = none := by rw [spec_l5Sub_L0.eq]; rfl
theorem spec_l5Sub_L0.succ {α : Type} (N n : Nat) (v333 : List Int) (v334 : List Int) (v335 : Int) (v336 : Int) (v337 : List Int) (k0 : List Int → Option α) : spec_l5Sub_L0 N (n + 1) v333 v334 v335 v336 v337 k0 = spec_l5Sub_L0r N (fun y0 y1 y2 y3 y4 => spec_l5Sub_L0 N n y0 y1 y2 y3 y4 k0) k0 v333 v334 v335 v336 v337 := by rw [spec_l5Sub_L0.eq]; rfl
/-- loop.example/pinfold/spec.l5Sub -/
noncomputable def spec_l5Sub.b {α : Type} (N : Nat) (a331 : List Int) (a332 : List Int) (k0 : List Int → Option α) : Option α :=
  spec_l5Sub_L0 N N a331 a332 (0 : Int) (0 : Int) []
    (fun x361 =>
      spec_l5Trim N x361
        (fun x362 =>
          k0 x362))
theorem spec_l5Sub.ex : ∃ f : ((α : Type) → Nat → List Int → List Int → (List Int → Option α) → Option α), f = fun α => @spec_l5Sub.b α := ⟨_, rfl⟩
noncomputable def spec_l5Sub {α : Type} : Nat → List Int → List Int → (List Int → Option α) → Option α := Classical.choose spec_l5Sub.ex α
theorem spec_l5Sub.eq : @spec_l5Sub = @spec_l5Sub.b := funext fun α => congrFun (Classical.choose_spec spec_l5Sub.ex) α

noncomputable def spec_l5Div_J17.b {α : Type} (N : Nat) (v302 : Int) (v303 : Int) (v304 : Int) (v305 : Int) (v306 : List Int) (v307 : List Int) (v308 : List Int) (v309 : List Int) (k0 : Int → Int → Int → Int → List Int → List Int → List Int → List Int → Option α) : Option α :=
  let x310 := (decide ((65536 : Int) ≤ v305))
  bif x310 then
    k0 v302 v303 v304 (65535 : Int) v306 v307 v308 v309
  else
    k0 v302 v303 v304 v305 v306 v307 v308 v309
theorem spec_l5Div_J17.ex : ∃ f : ((α : Type) → Nat → Int → Int → Int → Int → List Int → List Int → List Int → List Int → (Int → Int → Int → Int → List Int → List Int → List Int → List Int → Option α) → Option α), f = fun α => @spec_l5Div_J17.b α := ⟨_, rfl⟩
noncomputable def spec_l5Div_J17 {α : Type} : Nat → Int → Int → Int → Int → List Int → List Int → List Int → List Int → (Int → Int → Int → Int → List Int → List Int → List Int → List Int → Option α) → Option α := Classical.choose spec_l5Div_J17.ex α
theorem spec_l5Div_J17.eq : @spec_l5Div_J17 = @spec_l5Div_J17.b := funext fun α => congrFun (Classical.choose_spec spec_l5Div_J17.ex) α
noncomputable def spec_l5Div_L2r {α : Type} (N : Nat) (next : Int → Int → Int → Int → List Int → List Int → List Int → List Int → List Int → Option α) (k0 : Int → Int → Int → Int → List Int → List Int → List Int → List Int → List Int → Option α) (v320 : Int) (v321 : Int) (v322 : Int) (v323 : Int) (v324 : List Int) (v325 : List Int) (v326 : List Int) (v327 : List Int) (v328 : List Int) : Option α :=
  spec_l5Cmp N v328 v327
    (fun x329 =>
      let x330 := (decide ((0 : Int) < x329))
      bif x330 then
        spec_l5Sub N v328 v325
          (fun x363 =>
            let x364 := (IntKind.i64.wrap (v323 - (1 : Int)))
            next v320 v321 v322 x364 v324 v325 v326 v327 x363)
      else
        k0 v320 v321 v322 v323 v324 v325 v326 v327 v328)
noncomputable def spec_l5Div_L2.b {α : Type} (N n : Nat) (v320 : Int) (v321 : Int) (v322 : Int) (v323 : Int) (v324 : List Int) (v325 : List Int) (v326 : List Int) (v327 : List Int) (v328 : List Int) (k0 : Int → Int → Int → Int → List Int → List Int → List Int → List Int → List Int → Option α) : Option α :=
  Nat.rec (motive := fun _ => Int → Int → Int → Int → List Int → List Int → List Int → List Int → List Int → Option α) (fun _ _ _ _ _ _ _ _ _ => none) (fun _ next => spec_l5Div_L2r N next k0) n v320 v321 v322 v323 v324 v325 v326 v327 v328
theorem spec_l5Div_L2.ex : ∃ f : ((α : Type) → Nat → Nat → Int → Int → Int → Int → List Int → List Int → List Int → List Int → List Int → (Int → Int → Int → Int → List Int → List Int → List Int → List Int → List Int → Option α) → Option α), f = fun α => @spec_l5Div_L2.b α := ⟨_, rfl⟩
noncomputable def spec_l5Div_L2 {α : Type} : Nat → Nat → Int → Int → Int → Int → List Int → List Int → List Int → List Int → List Int → (Int → Int → Int → Int → List Int → List Int → List Int → List Int → List Int → Option α) → Option α := Classical.choose spec_l5Div_L2.ex α
theorem spec_l5Div_L2.eq : @spec_l5Div_L2 = @spec_l5Div_L2.b := funext fun α => congrFun (Classical.choose_spec spec_l5Div_L2.ex) α
theorem spec_l5Div_L2.zero {α : Type} (N : Nat) (v320 : Int) (v321 : Int) (v322 : Int) (v323 : Int) (v324 : List Int) (v325 : List Int) (v326 : List Int) (v327 : List Int) (v328 : List Int) (k0 : Int → Int → Int → Int → List Int → List Int → List Int → List Int → List Int → Option α) : spec_l5Div_L2 N 0 v320 v321 v322 v323 v324 v325 v326 v327 v328 k0 = none := by rw [spec_l5Div_L2.eq]; rfl
theorem spec_l5Div_L2.succ {α : Type} (N n : Nat) (v320 : Int) (v321 : Int) (v322 : Int) (v323 : Int) (v324 : List Int) (v325 : List Int) (v326 : List Int) (v327 : List Int) (v328 : List Int) (k0 : Int → Int → Int → Int → List Int → List Int → List Int → List Int → List Int → Option α) : spec_l5Div_L2 N (n + 1) v320 v321 v322 v323 v324 v325 v326 v327 v328 k0 = spec_l5Div_L2r N (fun y0 y1 y2 y3 y4 y5 y6 y7 y8 => spec_l5Div_L2 N n y0 y1 y2 y3 y4 y5 y6 y7 y8 k0) k0 v320 v321 v322 v323 v324 v325 v326 v327 v328 := by rw [spec_l5Div_L2.eq]; rfl
noncomputable def spec_l5Div_L0r {α : Type} (N : Nat) (next : Int → Int → Int → List Int → List Int → List Int → List Int → Option α) (k0 : Int → List Int → List Int → Option α) (v224 : Int) (v225 : Int) (v226 : Int) (v227 : List Int) (v228 : List Int) (v229 : List Int) (v230 : List Int) : Option α :=
  let x231 := (decide ((0 : Int) ≤ v226))
  bif x231 then
    spec_l5Shl N v230 (1 : Int)
      (fun x247 =>
        bif (decide (v226 < (0 : Int))) then
          none
        else
          bif decide (v226.toNat < v227.length) then
            match v227[v226.toNat]? with
            | some x248 =>
              let x249 := IntKind.u64.wrap x248
              spec_NatOf N x249
                (fun x250 =>
                  spec_l5Add N x247 x250
                    (fun x292 =>
                      spec_l5Trim N x292
                        (fun x293 =>
                          spec_l5At N x293 v225
                            (fun x294 =>
                              let x295 := (IntKind.i64.wrap (x294 * (65536 : Int)))
                              let x296 := (IntKind.i64.wrap (v225 - (1 : Int)))
                              spec_l5At N x293 x296
                                (fun x297 =>
                                  let x298 := IntKind.i64.wrap (x295 + x297)
                                  let x299 := (IntKind.i64.wrap (v225 - (1 : Int)))
                                  bif (decide (x299 < (0 : Int))) then
                                    none
                                  else
                                    bif decide (x299.toNat < v228.length) then
                                      match v228[x299.toNat]? with
                                      | some x300 =>
                                        bif (decide (x300 = (0 : Int))) then
                                          none
                                        else
                                          let x301 := IntKind.i64.wrap (Int.tdiv x298 x300)
                                          spec_l5Div_J17 N v224 v225 v226 x301 v227 v228 v229 x293
                                            (fun x311 x312 x313 x314 x315 x316 x317 x318 =>
                                              spec_l5Times N x316 x314
                                                (fun x319 =>
                                                  spec_l5Div_L2 N N x311 x312 x313 x314 x315 x316 x317 x318 x319
                                                    (fun x365 x366 x367 x368 x369 x370 x371 x372 x373 =>
                                                      bif (decide (x367 < (0 : Int))) then
                                                        none
                                                      else
                                                        bif decide (x367.toNat < x371.length) then
                                                          match x371[x367.toNat]? with
                                                          | some x374 =>
                                                            let x375 := x371.set x367.toNat x368
                                                            spec_l5Sub N x372 x373
                                                              (fun x376 =>
                                                                let x377 := (IntKind.i64.wrap (x367 - (1 : Int)))
                                                                next x365 x366 x377 x369 x370 x375 x376)
                                                          | none => none
                                                        else
                                                          none)))
                                      | none => none
                                    else
                                      none)))))
            | none => none
          else
            none)
  else
    k0 v224 v229 v230
noncomputable def spec_l5Div_L0.b {α : Type} (N n : Nat) (v224 : Int) (v225 : Int) (v226 : Int) (v227 : List Int) (v228 : List Int) (v229 : List Int) (v230 : List Int) (k0 : Int → List Int → List Int → Option α) : Option α :=
  Nat.rec (motive := fun _ => Int → Int → Int → List Int → List Int → List Int → List Int → Option α) (fun _ _ _ _ _ _ _ => none) (fun _ next => spec_l5Div_L0r N next k0) n v224 v225 v226 v227 v228 v229 v230
theorem spec_l5Div_L0.ex : ∃ f : ((α : Type) → Nat → Nat → Int → Int → Int → List Int → List Int → List Int → List Int → (Int → List Int → List Int → Option α) → Option α), f = fun α => @spec_l5Div_L0.b α := ⟨_, rfl⟩
noncomputable def spec_l5Div_L0 {α : Type} : Nat → Nat → Int → Int → Int → List Int → List Int → List Int → List Int → (Int → List Int → List Int → Option α) → Option α := Classical.choose spec_l5Div_L0.ex α
theorem spec_l5Div_L0.eq : @spec_l5Div_L0 = @spec_l5Div_L0.b := funext fun α => congrFun (Classical.choose_spec spec_l5Div_L0.ex) α
theorem spec_l5Div_L0.zero {α : Type} (N : Nat) (v224 : Int) (v225 : Int) (v226 : Int) (v227 : List Int) (v228 : List Int) (v229 : List Int) (v230 : List Int) (k0 : Int → List Int → List Int → Option α) : spec_l5Div_L0 N 0 v224 v225 v226 v227 v228 v229 v230 k0 = none := by rw [spec_l5Div_L0.eq]; rfl
theorem spec_l5Div_L0.succ {α : Type} (N n : Nat) (v224 : Int) (v225 : Int) (v226 : Int) (v227 : List Int) (v228 : List Int) (v229 : List Int) (v230 : List Int) (k0 : Int → List Int → List Int → Option α) : spec_l5Div_L0 N (n + 1) v224 v225 v226 v227 v228 v229 v230 k0 = spec_l5Div_L0r N (fun y0 y1 y2 y3 y4 y5 y6 => spec_l5Div_L0 N n y0 y1 y2 y3 y4 y5 y6 k0) k0 v224 v225 v226 v227 v228 v229 v230 := by rw [spec_l5Div_L0.eq]; rfl
/-- loop.example/pinfold/spec.l5Div -/
noncomputable def spec_l5Div.b {α : Type} (N : Nat) (a77 : List Int) (a78 : List Int) (k0 : List Int → List Int → Option α) : Option α :=
  spec_l5Cmp N a77 a78
    (fun x101 =>
      let x102 := (decide (x101 < (0 : Int)))
      bif x102 then
        spec_l5Trim N a77
          (fun x103 =>
            k0 [] x103)
      else
        let x104 := ((a78.length : Nat) : Int)
        let x105 := (decide (x104 = (1 : Int)))
        bif x105 then
          match a78[0]? with
          | some x106 =>
            spec_l5DivSmall N a77 x106
              (fun x130 x131 =>
                let x132 := IntKind.u64.wrap x130
                spec_NatOf N x132
                  (fun x143 =>
                    k0 x131 x143))
          | none => none
        else
          let x144 := ((a78.length : Nat) : Int)
          let x145 := (IntKind.i64.wrap (x144 - (1 : Int)))
          bif (decide (x145 < (0 : Int))) then
            none
          else
            match a78[x145.toNat]? with
            | some x146 =>
              let x147 := (IntKind.i64.wrap (x146 + (1 : Int)))
              bif (decide (x147 = (0 : Int))) then
                none
              else
                let x148 := (IntKind.i64.wrap (Int.tdiv (65536 : Int) x147))
                spec_l5Times N a77 x148
                  (fun x199 =>
                    spec_l5Times N a78 x148
                      (fun x200 =>
                        let x201 := ((x200.length : Nat) : Int)
                        let x202 := ((x199.length : Nat) : Int)
                        let x203 := IntKind.i64.wrap (x202 - x201)
                        let x204 := (IntKind.i64.wrap (x203 + (1 : Int)))
                        bif (decide ((0 : Int) ≤ x204)) then
                          bif decide (x204 ≤ x204) then
                            bif (decide (x204 ≤ ((8796093022208 : Nat) : Int))) then
                              let x205 := (List.replicate x204.toNat (0 : Int))
                              let x206 := ((x199.length : Nat) : Int)
                              let x207 := IntKind.i64.wrap (x206 - x201)
                              let x208 := (IntKind.i64.wrap (x207 + (1 : Int)))
                              spec_l5Top N x199 x208
                                (fun x221 =>
                                  let x222 := ((x199.length : Nat) : Int)
                                  let x223 := IntKind.i64.wrap (x222 - x201)
                                  spec_l5Div_L0 N N x148 x201 x223 x199 x200 x205 x221
                                    (fun x378 x379 x380 =>
                                      spec_l5DivSmall N x380 x378
                                        (fun _ x382 =>
                                          spec_l5Trim N x379
                                            (fun x383 =>
                                              k0 x383 x382))))
                            else
                              none
                          else
                            none
                        else
                          none))
            | none => none)
theorem spec_l5Div.ex : ∃ f : ((α : Type) → Nat → List Int → List Int → (List Int → List Int → Option α) → Option α), f = fun α => @spec_l5Div.b α := ⟨_, rfl⟩
noncomputable def spec_l5Div {α : Type} : Nat → List Int → List Int → (List Int → List Int → Option α) → Option α := Classical.choose spec_l5Div.ex α
theorem spec_l5Div.eq : @spec_l5Div = @spec_l5Div.b := funext fun α => congrFun (Classical.choose_spec spec_l5Div.ex) α

noncomputable def spec_l5Gcd_L0r {α : Type} (N : Nat) (next : List Int → List Int → Option α) (k0 : List Int → Option α) (v73 : List Int) (v74 : List Int) : Option α :=
  let x75 := ((v74.length : Nat) : Int)
  let x76 := (decide ((0 : Int) < x75))
  bif x76 then
    spec_l5Div N v73 v74
      (fun _ x385 =>
        next v74 x385)
  else
    k0 v73
noncomputable def spec_l5Gcd_L0.b {α : Type} (N n : Nat) (v73 : List Int) (v74 : List Int) (k0 : List Int → Option α) : Option α :=
  Nat.rec (motive := fun _ => List Int → List Int → Option α) (fun _ _ => none) (fun _ next => spec_l5Gcd_L0r N next k0) n v73 v74
theorem spec_l5Gcd_L0.ex : ∃ f : ((α : Type) → Nat → Nat → List Int → List Int → (List Int → Option α) → Option α), f = fun α => @spec_l5Gcd_L0.b α := ⟨_, rfl⟩
noncomputable def spec_l5Gcd_L0 {α : Type} : Nat → Nat → List Int → List Int → (List Int → Option α) → Option α := Classical.choose spec_l5Gcd_L0.ex α
theorem spec_l5Gcd_L0.eq : @spec_l5Gcd_L0 = @spec_l5Gcd_L0.b := funext fun α => congrFun (Classical.choose_spec spec_l5Gcd_L0.ex) α
theorem spec_l5Gcd_L0.zero {α : Type} (N : Nat) (v73 : List Int) (v74 : List Int) (k0 : List Int → Option α) : spec_l5Gcd_L0 N 0 v73 v74 k0 = none := by rw [spec_l5Gcd_L0.eq]; rfl
theorem spec_l5Gcd_L0.succ {α : Type} (N n : Nat) (v73 : List Int) (v74 : List Int) (k0 : List Int → Option α) : spec_l5Gcd_L0 N (n + 1) v73 v74 k0 = spec_l5Gcd_L0r N (fun y0 y1 => spec_l5Gcd_L0 N n y0 y1 k0) k0 v73 v74 := by rw [spec_l5Gcd_L0.eq]; rfl
/-- loop.example/pinfold/spec.l5Gcd -/
noncomputable def spec_l5Gcd.b {α : Type} (N : Nat) (a48 : List Int) (a49 : List Int) (k0 : List Int → Option α) : Option α :=
  spec_l5Trim N a48
    (fun x71 =>
      spec_l5Trim N a49
        (fun x72 =>
          spec_l5Gcd_L0 N N x71 x72
            (fun x386 =>
              k0 x386)))
theorem spec_l5Gcd.ex : ∃ f : ((α : Type) → Nat → List Int → List Int → (List Int → Option α) → Option α), f = fun α => @spec_l5Gcd.b α := ⟨_, rfl⟩
noncomputable def spec_l5Gcd {α : Type} : Nat → List Int → List Int → (List Int → Option α) → Option α := Classical.choose spec_l5Gcd.ex α
theorem spec_l5Gcd.eq : @spec_l5Gcd = @spec_l5Gcd.b := funext fun α => congrFun (Classical.choose_spec spec_l5Gcd.ex) α

/-- loop.example/pinfold/spec.NatGcd -/
noncomputable def spec_NatGcd.b {α : Type} (N : Nat) (a22 : List Int) (a23 : List Int) (k0 : Bool → List Int → Option α) : Option α :=
  spec_NatOk N a22
    (fun x44 =>
      let x45 := !x44
      bif x45 then
        k0 false []
      else
        spec_NatOk N a23
          (fun x46 =>
            let x47 := !x46
            bif x47 then
              k0 false []
            else
              spec_l5Gcd N a22 a23
                (fun x387 =>
                  k0 true x387)))
theorem spec_NatGcd.ex : ∃ f : ((α : Type) → Nat → List Int → List Int → (Bool → List Int → Option α) → Option α), f = fun α => @spec_NatGcd.b α := ⟨_, rfl⟩
noncomputable def spec_NatGcd {α : Type} : Nat → List Int → List Int → (Bool → List Int → Option α) → Option α := Classical.choose spec_NatGcd.ex α
theorem spec_NatGcd.eq : @spec_NatGcd = @spec_NatGcd.b := funext fun α => congrFun (Classical.choose_spec spec_NatGcd.ex) α

/-- loop.example/pinfold/impl.in -/
noncomputable def impl_in.b {α : Type} (N : Nat) (a419 : Int) (a420 : Int) (a421 : Int) (k0 : Bool → Option α) : Option α :=
  let x422 := decide (a420 ≤ a419)
  bif x422 then
    let x423 := decide (a419 ≤ a421)
    k0 x423
  else
    k0 false
theorem impl_in.ex : ∃ f : ((α : Type) → Nat → Int → Int → Int → (Bool → Option α) → Option α), f = fun α => @impl_in.b α := ⟨_, rfl⟩
noncomputable def impl_in {α : Type} : Nat → Int → Int → Int → (Bool → Option α) → Option α := Classical.choose impl_in.ex α
theorem impl_in.eq : @impl_in = @impl_in.b := funext fun α => congrFun (Classical.choose_spec impl_in.ex) α

/-- loop.example/pinfold/impl.NatOk$1 -/
noncomputable def impl_NatOk_1.b {α : Type} (N : Nat) (a418 : Int) (k0 : Bool → Option α) : Option α :=
  impl_in N a418 (0 : Int) (65535 : Int)
    (fun x424 =>
      let x425 := !x424
      k0 x425)
theorem impl_NatOk_1.ex : ∃ f : ((α : Type) → Nat → Int → (Bool → Option α) → Option α), f = fun α => @impl_NatOk_1.b α := ⟨_, rfl⟩
noncomputable def impl_NatOk_1 {α : Type} : Nat → Int → (Bool → Option α) → Option α := Classical.choose impl_NatOk_1.ex α
theorem impl_NatOk_1.eq : @impl_NatOk_1 = @impl_NatOk_1.b := funext fun α => congrFun (Classical.choose_spec impl_NatOk_1.ex) α

noncomputable def slices_IndexFunc_int_int__impl_NatOk_1_L0r {α : Type} (N : Nat) (next : List Int → Int → Int → Option α) (k0 : Int → Option α) (k1 : Option α) (v413 : List Int) (v414 : Int) (v415 : Int) : Option α :=
  let x416 := decide (v415 < v414)
  bif x416 then
    bif (decide (v415 < (0 : Int))) then
      none
    else
      match v413[v415.toNat]? with
      | some x417 =>
        impl_NatOk_1 N x417
          (fun x426 =>
            bif x426 then
              k0 v415
            else
              let x427 := (IntKind.i64.wrap (v415 + (1 : Int)))
              next v413 v414 x427)
      | none => none
  else
    k1
noncomputable def slices_IndexFunc_int_int__impl_NatOk_1_L0.b {α : Type} (N n : Nat) (v413 : List Int) (v414 : Int) (v415 : Int) (k0 : Int → Option α) (k1 : Option α) : Option α :=
  Nat.rec (motive := fun _ => List Int → Int → Int → Option α) (fun _ _ _ => none) (fun _ next => slices_IndexFunc_int_int__impl_NatOk_1_L0r N next k0 k1) n v413 v414 v415
theorem slices_IndexFunc_int_int__impl_NatOk_1_L0.ex : ∃ f : ((α : Type) → Nat → Nat → List Int → Int → Int → (Int → Option α) → (Option α) → Option α), f = fun α => @slices_IndexFunc_int_int__impl_NatOk_1_L0.b α := ⟨_, rfl⟩
noncomputable def slices_IndexFunc_int_int__impl_NatOk_1_L0 {α : Type} : Nat → Nat → List Int → Int → Int → (Int → Option α) → (Option α) → Option α := Classical.choose slices_IndexFunc_int_int__impl_NatOk_1_L0.ex α
theorem slices_IndexFunc_int_int__impl_NatOk_1_L0.eq : @slices_IndexFunc_int_int__impl_NatOk_1_L0 = @slices_IndexFunc_int_int__impl_NatOk_1_L0.b := funext fun α => congrFun (Classical.choose_spec slices_IndexFunc_int_int__impl_NatOk_1_L0.ex) α
theorem slices_IndexFunc_int_int__impl_NatOk_1_L0.zero {α : Type} (N : Nat) (v413 : List Int) (v414 : Int) (v415 : Int) (k0 : Int → Option α) (k1 : Option α) : slices_IndexFunc_int_int__impl_NatOk_1_L0 N 0 v413 v414 v415 k0 k1 = none := by rw [slices_IndexFunc_int_int__impl_NatOk_1_L0.eq]; rfl
theorem slices_IndexFunc_int_int__impl_NatOk_1_L0.succ {α : Type} (N n : Nat) (v413 : List Int) (v414 : Int) (v415 : Int) (k0 : Int → Option α) (k1 : Option α) : slices_IndexFunc_int_int__impl_NatOk_1_L0 N (n + 1) v413 v414 v415 k0 k1 = slices_IndexFunc_int_int__impl_NatOk_1_L0r N (fun y0 y1 y2 => slices_IndexFunc_int_int__impl_NatOk_1_L0 N n y0 y1 y2 k0 k1) k0 k1 v413 v414 v415 := by rw [slices_IndexFunc_int_int__impl_NatOk_1_L0.eq]; rfl
/-- slices.IndexFunc[[]int,int] -/
noncomputable def slices_IndexFunc_int_int__impl_NatOk_1.b {α : Type} (N : Nat) (a411 : List Int) (k0 : Int → Option α) : Option α :=
  let x412 := ((a411.length : Nat) : Int)
  slices_IndexFunc_int_int__impl_NatOk_1_L0 N N a411 x412 (0 : Int)
    (fun x428 =>
      k0 x428)
    (
      k0 (-1 : Int))
theorem slices_IndexFunc_int_int__impl_NatOk_1.ex : ∃ f : ((α : Type) → Nat → List Int → (Int → Option α) → Option α), f = fun α => @slices_IndexFunc_int_int__impl_NatOk_1.b α := ⟨_, rfl⟩
noncomputable def slices_IndexFunc_int_int__impl_NatOk_1 {α : Type} : Nat → List Int → (Int → Option α) → Option α := Classical.choose slices_IndexFunc_int_int__impl_NatOk_1.ex α
theorem slices_IndexFunc_int_int__impl_NatOk_1.eq : @slices_IndexFunc_int_int__impl_NatOk_1 = @slices_IndexFunc_int_int__impl_NatOk_1.b := funext fun α => congrFun (Classical.choose_spec slices_IndexFunc_int_int__impl_NatOk_1.ex) α

/-- slices.ContainsFunc[[]int,int] -/
noncomputable def slices_ContainsFunc_int_int__impl_NatOk_1.b {α : Type} (N : Nat) (a410 : List Int) (k0 : Bool → Option α) : Option α :=
  slices_IndexFunc_int_int__impl_NatOk_1 N a410
    (fun x429 =>
      let x430 := (decide ((0 : Int) ≤ x429))
      k0 x430)
theorem slices_ContainsFunc_int_int__impl_NatOk_1.ex : ∃ f : ((α : Type) → Nat → List Int → (Bool → Option α) → Option α), f = fun α => @slices_ContainsFunc_int_int__impl_NatOk_1.b α := ⟨_, rfl⟩
noncomputable def slices_ContainsFunc_int_int__impl_NatOk_1 {α : Type} : Nat → List Int → (Bool → Option α) → Option α := Classical.choose slices_ContainsFunc_int_int__impl_NatOk_1.ex α
theorem slices_ContainsFunc_int_int__impl_NatOk_1.eq : @slices_ContainsFunc_int_int__impl_NatOk_1 = @slices_ContainsFunc_int_int__impl_NatOk_1.b := funext fun α => congrFun (Classical.choose_spec slices_ContainsFunc_int_int__impl_NatOk_1.ex) α

/-- loop.example/pinfold/impl.NatOk -/
noncomputable def impl_NatOk.b {α : Type} (N : Nat) (a405 : List Int) (k0 : Bool → Option α) : Option α :=
  let x406 := ((a405.length : Nat) : Int)
  let x407 := (decide (x406 ≤ (256 : Int)))
  bif x407 then
    let x408 := ((a405.length : Nat) : Int)
    let x409 := (decide (x408 = (0 : Int)))
    bif x409 then
      slices_ContainsFunc_int_int__impl_NatOk_1 N a405
        (fun x431 =>
          let x432 := !x431
          k0 x432)
    else
      let x433 := ((a405.length : Nat) : Int)
      let x434 := (IntKind.i64.wrap (x433 - (1 : Int)))
      bif (decide (x434 < (0 : Int))) then
        none
      else
        match a405[x434.toNat]? with
        | some x435 =>
          let x436 := (!(decide (x435 = (0 : Int))))
          bif x436 then
            slices_ContainsFunc_int_int__impl_NatOk_1 N a405
              (fun x437 =>
                let x438 := !x437
                k0 x438)
          else
            k0 false
        | none => none
  else
    k0 false
theorem impl_NatOk.ex : ∃ f : ((α : Type) → Nat → List Int → (Bool → Option α) → Option α), f = fun α => @impl_NatOk.b α := ⟨_, rfl⟩
noncomputable def impl_NatOk {α : Type} : Nat → List Int → (Bool → Option α) → Option α := Classical.choose impl_NatOk.ex α
theorem impl_NatOk.eq : @impl_NatOk = @impl_NatOk.b := funext fun α => congrFun (Classical.choose_spec impl_NatOk.ex) α

/-- loop.example/pinfold/impl.nats$1 -/
noncomputable def impl_nats_1.b {α : Type} (N : Nat) (a404 : List Int) (k0 : Bool → Option α) : Option α :=
  impl_NatOk N a404
    (fun x439 =>
      let x440 := !x439
      k0 x440)
theorem impl_nats_1.ex : ∃ f : ((α : Type) → Nat → List Int → (Bool → Option α) → Option α), f = fun α => @impl_nats_1.b α := ⟨_, rfl⟩
noncomputable def impl_nats_1 {α : Type} : Nat → List Int → (Bool → Option α) → Option α := Classical.choose impl_nats_1.ex α
theorem impl_nats_1.eq : @impl_nats_1 = @impl_nats_1.b := funext fun α => congrFun (Classical.choose_spec impl_nats_1.ex) α

noncomputable def slices_IndexFunc_int_int__impl_nats_1_L0r {α : Type} (N : Nat) (next : List (List Int) → Int → Int → Option α) (k0 : Int → Option α) (k1 : Option α) (v399 : List (List Int)) (v400 : Int) (v401 : Int) : Option α :=
  let x402 := decide (v401 < v400)
  bif x402 then
    bif (decide (v401 < (0 : Int))) then
      none
    else
      match v399[v401.toNat]? with
      | some x403 =>
        impl_nats_1 N x403
          (fun x441 =>
            bif x441 then
              k0 v401
            else
              let x442 := (IntKind.i64.wrap (v401 + (1 : Int)))
              next v399 v400 x442)
      | none => none
  else
    k1
noncomputable def slices_IndexFunc_int_int__impl_nats_1_L0.b {α : Type} (N n : Nat) (v399 : List (List Int)) (v400 : Int) (v401 : Int) (k0 : Int → Option α) (k1 : Option α) : Option α :=
  Nat.rec (motive := fun _ => List (List Int) → Int → Int → Option α) (fun _ _ _ => none) (fun _ next => slices_IndexFunc_int_int__impl_nats_1_L0r N next k0 k1) n v399 v400 v401
theorem slices_IndexFunc_int_int__impl_nats_1_L0.ex : ∃ f : ((α : Type) → Nat → Nat → List (List Int) → Int → Int → (Int → Option α) → (Option α) → Option α), f = fun α => @slices_IndexFunc_int_int__impl_nats_1_L0.b α := ⟨_, rfl⟩
noncomputable def slices_IndexFunc_int_int__impl_nats_1_L0 {α : Type} : Nat → Nat → List (List Int) → Int → Int → (Int → Option α) → (Option α) → Option α := Classical.choose slices_IndexFunc_int_int__impl_nats_1_L0.ex α
theorem slices_IndexFunc_int_int__impl_nats_1_L0.eq : @slices_IndexFunc_int_int__impl_nats_1_L0 = @slices_IndexFunc_int_int__impl_nats_1_L0.b := funext fun α => congrFun (Classical.choose_spec slices_IndexFunc_int_int__impl_nats_1_L0.ex) α
theorem slices_IndexFunc_int_int__impl_nats_1_L0.zero {α : Type} (N : Nat) (v399 : List (List Int)) (v400 : Int) (v401 : Int) (k0 : Int → Option α) (k1 : Option α) : slices_IndexFunc_int_int__impl_nats_1_L0 N 0 v399 v400 v401 k0 k1 = none := by rw [slices_IndexFunc_int_int__impl_nats_1_L0.eq]; rfl
theorem slices_IndexFunc_int_int__impl_nats_1_L0.succ {α : Type} (N n : Nat) (v399 : List (List Int)) (v400 : Int) (v401 : Int) (k0 : Int → Option α) (k1 : Option α) : slices_IndexFunc_int_int__impl_nats_1_L0 N (n + 1) v399 v400 v401 k0 k1 = slices_IndexFunc_int_int__impl_nats_1_L0r N (fun y0 y1 y2 => slices_IndexFunc_int_int__impl_nats_1_L0 N n y0 y1 y2 k0 k1) k0 k1 v399 v400 v401 := by rw [slices_IndexFunc_int_int__impl_nats_1_L0.eq]; rfl
/-- slices.IndexFunc[[][]int,[]int] -/
noncomputable def slices_IndexFunc_int_int__impl_nats_1.b {α : Type} (N : Nat) (a397 : List (List Int)) (k0 : Int → Option α) : Option α :=
  let x398 := ((a397.length : Nat) : Int)
  slices_IndexFunc_int_int__impl_nats_1_L0 N N a397 x398 (0 : Int)
    (fun x443 =>
      k0 x443)
    (
      k0 (-1 : Int))
theorem slices_IndexFunc_int_int__impl_nats_1.ex : ∃ f : ((α : Type) → Nat → List (List Int) → (Int → Option α) → Option α), f = fun α => @slices_IndexFunc_int_int__impl_nats_1.b α := ⟨_, rfl⟩
noncomputable def slices_IndexFunc_int_int__impl_nats_1 {α : Type} : Nat → List (List Int) → (Int → Option α) → Option α := Classical.choose slices_IndexFunc_int_int__impl_nats_1.ex α
theorem slices_IndexFunc_int_int__impl_nats_1.eq : @slices_IndexFunc_int_int__impl_nats_1 = @slices_IndexFunc_int_int__impl_nats_1.b := funext fun α => congrFun (Classical.choose_spec slices_IndexFunc_int_int__impl_nats_1.ex) α

/-- slices.ContainsFunc[[][]int,[]int] -/
noncomputable def slices_ContainsFunc_int_int__impl_nats_1.b {α : Type} (N : Nat) (a396 : List (List Int)) (k0 : Bool → Option α) : Option α :=
  slices_IndexFunc_int_int__impl_nats_1 N a396
    (fun x444 =>
      let x445 := (decide ((0 : Int) ≤ x444))
      k0 x445)
theorem slices_ContainsFunc_int_int__impl_nats_1.ex : ∃ f : ((α : Type) → Nat → List (List Int) → (Bool → Option α) → Option α), f = fun α => @slices_ContainsFunc_int_int__impl_nats_1.b α := ⟨_, rfl⟩
noncomputable def slices_ContainsFunc_int_int__impl_nats_1 {α : Type} : Nat → List (List Int) → (Bool → Option α) → Option α := Classical.choose slices_ContainsFunc_int_int__impl_nats_1.ex α
theorem slices_ContainsFunc_int_int__impl_nats_1.eq : @slices_ContainsFunc_int_int__impl_nats_1 = @slices_ContainsFunc_int_int__impl_nats_1.b := funext fun α => congrFun (Classical.choose_spec slices_ContainsFunc_int_int__impl_nats_1.ex) α

/-- loop.example/pinfold/impl.nats -/
noncomputable def impl_nats.b {α : Type} (N : Nat) (a395 : List (List Int)) (k0 : Bool → Option α) : Option α :=
  slices_ContainsFunc_int_int__impl_nats_1 N a395
    (fun x446 =>
      let x447 := !x446
      k0 x447)
theorem impl_nats.ex : ∃ f : ((α : Type) → Nat → List (List Int) → (Bool → Option α) → Option α), f = fun α => @impl_nats.b α := ⟨_, rfl⟩
noncomputable def impl_nats {α : Type} : Nat → List (List Int) → (Bool → Option α) → Option α := Classical.choose impl_nats.ex α
theorem impl_nats.eq : @impl_nats = @impl_nats.b := funext fun α => congrFun (Classical.choose_spec impl_nats.ex) α

noncomputable def impl_natCmp_L0r {α : Type} (N : Nat) (next : List Int → List Int → Int → Option α) (k0 : Int → Option α) (k1 : Option α) (v539 : List Int) (v540 : List Int) (v541 : Int) : Option α :=
  let x542 := (decide ((0 : Int) ≤ v541))
  bif x542 then
    bif (decide (v541 < (0 : Int))) then
      none
    else
      match v539[v541.toNat]? with
      | some x543 =>
        bif (decide (v541 < (0 : Int))) then
          none
        else
          match v540[v541.toNat]? with
          | some x544 =>
            let x545 := !(decide (x543 = x544))
            bif x545 then
              bif (decide (v541 < (0 : Int))) then
                none
              else
                match v539[v541.toNat]? with
                | some x546 =>
                  bif (decide (v541 < (0 : Int))) then
                    none
                  else
                    match v540[v541.toNat]? with
                    | some x547 =>
                      let x548 := IntKind.i64.wrap (x546 - x547)
                      let x549 := (minI (1 : Int) x548)
                      let x550 := (maxI (-1 : Int) x549)
                      k0 x550
                    | none => none
                | none => none
            else
              let x551 := (IntKind.i64.wrap (v541 - (1 : Int)))
              next v539 v540 x551
          | none => none
      | none => none
  else
    k1
noncomputable def impl_natCmp_L0.b {α : Type} (N n : Nat) (v539 : List Int) (v540 : List Int) (v541 : Int) (k0 : Int → Option α) (k1 : Option α) : Option α :=
  Nat.rec (motive := fun _ => List Int → List Int → Int → Option α) (fun _ _ _ => none) (fun _ next => impl_natCmp_L0r N next k0 k1) n v539 v540 v541
theorem impl_natCmp_L0.ex : ∃ f : ((α : Type) → Nat → Nat → List Int → List Int → Int → (Int → Option α) → (Option α) → Option α), f = fun α => @impl_natCmp_L0.b α := ⟨_, rfl⟩
noncomputable def impl_natCmp_L0 {α : Type} : Nat → Nat → List Int → List Int → Int → (Int → Option α) → (Option α) → Option α := Classical.choose impl_natCmp_L0.ex α
theorem impl_natCmp_L0.eq : @impl_natCmp_L0 = @impl_natCmp_L0.b := funext fun α => congrFun (Classical.choose_spec impl_natCmp_L0.ex) α
theorem impl_natCmp_L0.zero {α : Type} (N : Nat) (v539 : List Int) (v540 : List Int) (v541 : Int) (k0 : Int → Option α) (k1 : Option α) : impl_natCmp_L0 N 0 v539 v540 v541 k0 k1 = none := by rw [impl_natCmp_L0.eq]; rfl
theorem impl_natCmp_L0.succ {α : Type} (N n : Nat) (v539 : List Int) (v540 : List Int) (v541 : Int) (k0 : Int → Option α) (k1 : Option α) : impl_natCmp_L0 N (n + 1) v539 v540 v541 k0 k1 = impl_natCmp_L0r N (fun y0 y1 y2 => impl_natCmp_L0 N n y0 y1 y2 k0 k1) k0 k1 v539 v540 v541 := by rw [impl_natCmp_L0.eq]; rfl
/-- loop.example/pinfold/impl.natCmp -/
noncomputable def impl_natCmp.b {α : Type} (N : Nat) (a527 : List Int) (a528 : List Int) (k0 : Int → Option α) : Option α :=
  let x529 := ((a527.length : Nat) : Int)
  let x530 := ((a528.length : Nat) : Int)
  let x531 := !(decide (x529 = x530))
  bif x531 then
    let x532 := ((a527.length : Nat) : Int)
    let x533 := ((a528.length : Nat) : Int)
    let x534 := IntKind.i64.wrap (x532 - x533)
    let x535 := (minI (1 : Int) x534)
    let x536 := (maxI (-1 : Int) x535)
    k0 x536
  else
    let x537 := ((a527.length : Nat) : Int)
    let x538 := (IntKind.i64.wrap (x537 - (1 : Int)))
    impl_natCmp_L0 N N a527 a528 x538
      (fun x552 =>
        k0 x552)
      (
        k0 (0 : Int))
theorem impl_natCmp.ex : ∃ f : ((α : Type) → Nat → List Int → List Int → (Int → Option α) → Option α), f = fun α => @impl_natCmp.b α := ⟨_, rfl⟩
noncomputable def impl_natCmp {α : Type} : Nat → List Int → List Int → (Int → Option α) → Option α := Classical.choose impl_natCmp.ex α
theorem impl_natCmp.eq : @impl_natCmp = @impl_natCmp.b := funext fun α => congrFun (Classical.choose_spec impl_natCmp.ex) α

noncomputable def impl_trim_L0r {α : Type} (N : Nat) (next : List Int → Option α) (k0 : List Int → Option α) (v580 : List Int) : Option α :=
  let x581 := ((v580.length : Nat) : Int)
  let x582 := (decide ((0 : Int) < x581))
  bif x582 then
    let x583 := ((v580.length : Nat) : Int)
    let x584 := (IntKind.i64.wrap (x583 - (1 : Int)))
    bif (decide (x584 < (0 : Int))) then
      none
    else
      match v580[x584.toNat]? with
      | some x585 =>
        let x586 := (decide (x585 = (0 : Int)))
        bif x586 then
          let x587 := ((v580.length : Nat) : Int)
          let x588 := (IntKind.i64.wrap (x587 - (1 : Int)))
          bif (decide ((0 : Int) ≤ x588)) then
            bif (decide (x588 ≤ ((v580.length : Nat) : Int))) then
              let x589 := v580.take x588.toNat
              next x589
            else
              none
          else
            none
        else
          k0 v580
      | none => none
  else
    k0 v580
noncomputable def impl_trim_L0.b {α : Type} (N n : Nat) (v580 : List Int) (k0 : List Int → Option α) : Option α :=
  Nat.rec (motive := fun _ => List Int → Option α) (fun _ => none) (fun _ next => impl_trim_L0r N next k0) n v580
theorem impl_trim_L0.ex : ∃ f : ((α : Type) → Nat → Nat → List Int → (List Int → Option α) → Option α), f = fun α => @impl_trim_L0.b α := ⟨_, rfl⟩
noncomputable def impl_trim_L0 {α : Type} : Nat → Nat → List Int → (List Int → Option α) → Option α := Classical.choose impl_trim_L0.ex α
theorem impl_trim_L0.eq : @impl_trim_L0 = @impl_trim_L0.b := funext fun α => congrFun (Classical.choose_spec impl_trim_L0.ex) α
theorem impl_trim_L0.zero {α : Type} (N : Nat) (v580 : List Int) (k0 : List Int → Option α) : impl_trim_L0 N 0 v580 k0 = none := by rw [impl_trim_L0.eq]; rfl
theorem impl_trim_L0.succ {α : Type} (N n : Nat) (v580 : List Int) (k0 : List Int → Option α) : impl_trim_L0 N (n + 1) v580 k0 = impl_trim_L0r N (fun y0 => impl_trim_L0 N n y0 k0) k0 v580 := by rw [impl_trim_L0.eq]; rfl
/-- loop.example/pinfold/impl.trim -/
noncomputable def impl_trim.b {α : Type} (N : Nat) (a579 : List Int) (k0 : List Int → Option α) : Option α :=
  impl_trim_L0 N N a579
    (fun x590 =>
      k0 x590)
theorem impl_trim.ex : ∃ f : ((α : Type) → Nat → List Int → (List Int → Option α) → Option α), f = fun α => @impl_trim.b α := ⟨_, rfl⟩
noncomputable def impl_trim {α : Type} : Nat → List Int → (List Int → Option α) → Option α := Classical.choose impl_trim.ex α
theorem impl_trim.eq : @impl_trim = @impl_trim.b := funext fun α => congrFun (Classical.choose_spec impl_trim.ex) α

noncomputable def math_bits_Len64_J1.b {α : Type} (N : Nat) (v600 : Int) (v601 : Int) (k0 : Int → Int → Option α) : Option α :=
  let x602 := (decide ((4294967296 : Int) ≤ v600))
  bif x602 then
    let x603 := (shrI .u64 v600 (32 : Int))
    k0 x603 (32 : Int)
  else
    k0 v600 v601
theorem math_bits_Len64_J1.ex : ∃ f : ((α : Type) → Nat → Int → Int → (Int → Int → Option α) → Option α), f = fun α => @math_bits_Len64_J1.b α := ⟨_, rfl⟩
noncomputable def math_bits_Len64_J1 {α : Type} : Nat → Int → Int → (Int → Int → Option α) → Option α := Classical.choose math_bits_Len64_J1.ex α
theorem math_bits_Len64_J1.eq : @math_bits_Len64_J1 = @math_bits_Len64_J1.b := funext fun α => congrFun (Classical.choose_spec math_bits_Len64_J1.ex) α
noncomputable def math_bits_Len64_J4.b {α : Type} (N : Nat) (v606 : Int) (v607 : Int) (k0 : Int → Int → Option α) : Option α :=
  let x608 := (decide ((65536 : Int) ≤ v606))
  bif x608 then
    let x609 := (shrI .u64 v606 (16 : Int))
    let x610 := (IntKind.i64.wrap (v607 + (16 : Int)))
    k0 x609 x610
  else
    k0 v606 v607
theorem math_bits_Len64_J4.ex : ∃ f : ((α : Type) → Nat → Int → Int → (Int → Int → Option α) → Option α), f = fun α => @math_bits_Len64_J4.b α := ⟨_, rfl⟩
noncomputable def math_bits_Len64_J4 {α : Type} : Nat → Int → Int → (Int → Int → Option α) → Option α := Classical.choose math_bits_Len64_J4.ex α
theorem math_bits_Len64_J4.eq : @math_bits_Len64_J4 = @math_bits_Len64_J4.b := funext fun α => congrFun (Classical.choose_spec math_bits_Len64_J4.ex) α
noncomputable def math_bits_Len64_J7.b {α : Type} (N : Nat) (v613 : Int) (v614 : Int) (k0 : Int → Int → Option α) : Option α :=
  let x615 := (decide ((256 : Int) ≤ v613))
  bif x615 then
    let x616 := (shrI .u64 v613 (8 : Int))
    let x617 := (IntKind.i64.wrap (v614 + (8 : Int)))
    k0 x616 x617
  else
    k0 v613 v614
theorem math_bits_Len64_J7.ex : ∃ f : ((α : Type) → Nat → Int → Int → (Int → Int → Option α) → Option α), f = fun α => @math_bits_Len64_J7.b α := ⟨_, rfl⟩
noncomputable def math_bits_Len64_J7 {α : Type} : Nat → Int → Int → (Int → Int → Option α) → Option α := Classical.choose math_bits_Len64_J7.ex α
theorem math_bits_Len64_J7.eq : @math_bits_Len64_J7 = @math_bits_Len64_J7.b := funext fun α => congrFun (Classical.choose_spec math_bits_Len64_J7.ex) α
/-- math/bits.Len64 -/
noncomputable def math_bits_Len64.b {α : Type} (N : Nat) (a599 : Int) (k0 : Int → Option α) : Option α :=
  math_bits_Len64_J1 N a599 (0 : Int)
    (fun x604 x605 =>
      math_bits_Len64_J4 N x604 x605
        (fun x611 x612 =>
          math_bits_Len64_J7 N x611 x612
            (fun x618 x619 =>
              let x620 := IntKind.u8.wrap x618
              bif (decide (x620 < (0 : Int))) then
                none
              else
                match ((⟨#[0, 1, 2, 2, 3, 3, 3, 3, 4, 4, 4, 4, 4, 4, 4, 4, 5, 5, 5, 5, 5, 5, 5, 5, 5, 5, 5, 5, 5, 5, 5, 5, 6, 6, 6, 6, 6, 6, 6, 6, 6, 6, 6, 6, 6, 6, 6, 6, 6, 6, 6, 6, 6, 6, 6, 6, 6, 6, 6, 6, 6, 6, 6, 6, 7, 7, 7, 7, 7, 7, 7, 7, 7, 7, 7, 7, 7, 7, 7, 7, 7, 7, 7, 7, 7, 7, 7, 7, 7, 7, 7, 7, 7, 7, 7, 7, 7, 7, 7, 7, 7, 7, 7, 7, 7, 7, 7, 7, 7, 7, 7, 7, 7, 7, 7, 7, 7, 7, 7, 7, 7, 7, 7, 7, 7, 7, 7, 7, 8, 8, 8, 8, 8, 8, 8, 8, 8, 8, 8, 8, 8, 8, 8, 8, 8, 8, 8, 8, 8, 8, 8, 8, 8, 8, 8, 8, 8, 8, 8, 8, 8, 8, 8, 8, 8, 8, 8, 8, 8, 8, 8, 8, 8, 8, 8, 8, 8, 8, 8, 8, 8, 8, 8, 8, 8, 8, 8, 8, 8, 8, 8, 8, 8, 8, 8, 8, 8, 8, 8, 8, 8, 8, 8, 8, 8, 8, 8, 8, 8, 8, 8, 8, 8, 8, 8, 8, 8, 8, 8, 8, 8, 8, 8, 8, 8, 8, 8, 8, 8, 8, 8, 8, 8, 8, 8, 8, 8, 8, 8, 8, 8, 8, 8, 8, 8, 8, 8, 8, 8, 8, 8, 8, 8, 8, 8, 8]⟩ : ByteArray)[x620.toNat]? : Option UInt8) with
                | some x621 =>
                  let x622 := ((x621.toNat : Nat) : Int)
                  let x623 := IntKind.i64.wrap x622
                  let x624 := IntKind.i64.wrap (x619 + x623)
                  k0 x624
                | none => none)))
theorem math_bits_Len64.ex : ∃ f : ((α : Type) → Nat → Int → (Int → Option α) → Option α), f = fun α => @math_bits_Len64.b α := ⟨_, rfl⟩
noncomputable def math_bits_Len64 {α : Type} : Nat → Int → (Int → Option α) → Option α := Classical.choose math_bits_Len64.ex α
theorem math_bits_Len64.eq : @math_bits_Len64 = @math_bits_Len64.b := funext fun α => congrFun (Classical.choose_spec math_bits_Len64.ex) α

/-- math/bits.Len -/
noncomputable def math_bits_Len.b {α : Type} (N : Nat) (a598 : Int) (k0 : Int → Option α) : Option α :=
  math_bits_Len64 N a598
    (fun x625 =>
      k0 x625)
theorem math_bits_Len.ex : ∃ f : ((α : Type) → Nat → Int → (Int → Option α) → Option α), f = fun α => @math_bits_Len.b α := ⟨_, rfl⟩
noncomputable def math_bits_Len {α : Type} : Nat → Int → (Int → Option α) → Option α := Classical.choose math_bits_Len.ex α
theorem math_bits_Len.eq : @math_bits_Len = @math_bits_Len.b := funext fun α => congrFun (Classical.choose_spec math_bits_Len.ex) α

/-- slices.Clone[[]int,int] -/
noncomputable def slices_Clone_int_int {α : Type} (N : Nat) (a1 : List Int) (k0 : List Int → Option α) : Option α :=
  bif decide (([] : List Int).length + a1.length ≤ 8796093022208) then k0 a1 else none

noncomputable def impl_natShift_J10.b {α : Type} (N : Nat) (v704 : List Int) (v705 : Int) (v706 : Int) (v707 : Int) (v708 : Int) (v709 : Int) (v710 : List Int) (k0 : List Int → Int → Int → Int → Int → List Int → Option α) : Option α :=
  let x711 := IntKind.i64.wrap (v705 + v707)
  let x712 := (IntKind.i64.wrap (x711 + (1 : Int)))
  let x713 := ((v704.length : Nat) : Int)
  let x714 := decide (x712 < x713)
  bif x714 then
    bif (decide (v707 < (0 : Int))) then
      none
    else
      bif decide (v707.toNat < v710.length) then
        match v710[v707.toNat]? with
        | some x715 =>
          let x716 := IntKind.i64.wrap (v705 + v707)
          let x717 := (IntKind.i64.wrap (x716 + (1 : Int)))
          bif (decide (x717 < (0 : Int))) then
            none
          else
            match v704[x717.toNat]? with
            | some x718 =>
              let x719 := (IntKind.i64.wrap ((16 : Int) - v706))
              bif (decide (x719 < (0 : Int))) then
                none
              else
                let x720 := shlI .i64 x718 x719
                let x721 := (bitI .and .i64 x720 (65535 : Int))
                let x722 := bitI .or .i64 x715 x721
                bif (decide (v707 < (0 : Int))) then
                  none
                else
                  bif decide (v707.toNat < v710.length) then
                    match v710[v707.toNat]? with
                    | some x723 =>
                      let x724 := v710.set v707.toNat x722
                      k0 v704 v705 v706 v708 v709 x724
                    | none => none
                  else
                    none
            | none => none
        | none => none
      else
        none
  else
    k0 v704 v705 v706 v708 v709 v710
theorem impl_natShift_J10.ex : ∃ f : ((α : Type) → Nat → List Int → Int → Int → Int → Int → Int → List Int → (List Int → Int → Int → Int → Int → List Int → Option α) → Option α), f = fun α => @impl_natShift_J10.b α := ⟨_, rfl⟩
noncomputable def impl_natShift_J10 {α : Type} : Nat → List Int → Int → Int → Int → Int → Int → List Int → (List Int → Int → Int → Int → Int → List Int → Option α) → Option α := Classical.choose impl_natShift_J10.ex α
theorem impl_natShift_J10.eq : @impl_natShift_J10 = @impl_natShift_J10.b := funext fun α => congrFun (Classical.choose_spec impl_natShift_J10.ex) α
noncomputable def impl_natShift_L0r {α : Type} (N : Nat) (next : List Int → Int → Int → Int → Int → List Int → Option α) (k0 : List Int → Option α) (v693 : List Int) (v694 : Int) (v695 : Int) (v696 : Int) (v697 : Int) (v698 : List Int) : Option α :=
  let x699 := decide (v697 < v696)
  bif x699 then
    bif (decide (v697 < (0 : Int))) then
      none
    else
      bif decide (v697.toNat < v698.length) then
        match v698[v697.toNat]? with
        | some x700 =>
          bif (decide (v695 < (0 : Int))) then
            none
          else
            let x701 := shrI .i64 x700 v695
            bif (decide (v697 < (0 : Int))) then
              none
            else
              bif decide (v697.toNat < v698.length) then
                match v698[v697.toNat]? with
                | some x702 =>
                  let x703 := v698.set v697.toNat x701
                  impl_natShift_J10 N v693 v694 v695 v697 v696 v697 x703
                    (fun x725 x726 x727 x728 x729 x730 =>
                      let x731 := (IntKind.i64.wrap (x729 + (1 : Int)))
                      next x725 x726 x727 x728 x731 x730)
                | none => none
              else
                none
        | none => none
      else
        none
  else
    k0 v698
noncomputable def impl_natShift_L0.b {α : Type} (N n : Nat) (v693 : List Int) (v694 : Int) (v695 : Int) (v696 : Int) (v697 : Int) (v698 : List Int) (k0 : List Int → Option α) : Option α :=
  Nat.rec (motive := fun _ => List Int → Int → Int → Int → Int → List Int → Option α) (fun _ _ _ _ _ _ => none) (fun _ next => impl_natShift_L0r N next k0) n v693 v694 v695 v696 v697 v698
theorem impl_natShift_L0.ex : ∃ f : ((α : Type) → Nat → Nat → List Int → Int → Int → Int → Int → List Int → (List Int → Option α) → Option α), f = fun α => @impl_natShift_L0.b α := ⟨_, rfl⟩
noncomputable def impl_natShift_L0 {α : Type} : Nat → Nat → List Int → Int → Int → Int → Int → List Int → (List Int → Option α) → Option α := Classical.choose impl_natShift_L0.ex α
theorem impl_natShift_L0.eq : @impl_natShift_L0 = @impl_natShift_L0.b := funext fun α => congrFun (Classical.choose_spec impl_natShift_L0.ex) α
theorem impl_natShift_L0.zero {α : Type} (N : Nat) (v693 : List Int) (v694 : Int) (v695 : Int) (v696 : Int) (v697 : Int) (v698 : List Int) (k0 : List Int → Option α) : impl_natShift_L0 N 0 v693 v694 v695 v696 v697 v698 k0 = none := by rw [impl_natShift_L0.eq]; rfl
theorem impl_natShift_L0.succ {α : Type} (N n : Nat) (v693 : List Int) (v694 : Int) (v695 : Int) (v696 : Int) (v697 : Int) (v698 : List Int) (k0 : List Int → Option α) : impl_natShift_L0 N (n + 1) v693 v694 v695 v696 v697 v698 k0 = impl_natShift_L0r N (fun y0 y1 y2 y3 y4 y5 => impl_natShift_L0 N n y0 y1 y2 y3 y4 y5 k0) k0 v693 v694 v695 v696 v697 v698 := by rw [impl_natShift_L0.eq]; rfl
noncomputable def impl_natShift_L2r {α : Type} (N : Nat) (next : Int → List Int → Int → Int → List Int → Option α) (k0 : List Int → Option α) (v740 : Int) (v741 : List Int) (v742 : Int) (v743 : Int) (v744 : List Int) : Option α :=
  let x745 := decide (v743 < v742)
  bif x745 then
    bif (decide (v743 < (0 : Int))) then
      none
    else
      match v741[v743.toNat]? with
      | some x746 =>
        let x747 := (Int.tmod v740 (16 : Int))
        bif (decide (x747 < (0 : Int))) then
          none
        else
          let x748 := shlI .i64 x746 x747
          let x749 := (IntKind.i64.wrap (Int.tdiv v740 (16 : Int)))
          let x750 := IntKind.i64.wrap (x749 + v743)
          bif (decide (x750 < (0 : Int))) then
            none
          else
            bif decide (x750.toNat < v744.length) then
              match v744[x750.toNat]? with
              | some x751 =>
                let x752 := (bitI .and .i64 x748 (65535 : Int))
                let x753 := bitI .or .i64 x751 x752
                bif (decide (x750 < (0 : Int))) then
                  none
                else
                  bif decide (x750.toNat < v744.length) then
                    match v744[x750.toNat]? with
                    | some x754 =>
                      let x755 := v744.set x750.toNat x753
                      let x756 := (IntKind.i64.wrap (Int.tdiv v740 (16 : Int)))
                      let x757 := IntKind.i64.wrap (x756 + v743)
                      let x758 := (IntKind.i64.wrap (x757 + (1 : Int)))
                      let x759 := (shrI .i64 x748 (16 : Int))
                      bif (decide (x758 < (0 : Int))) then
                        none
                      else
                        bif decide (x758.toNat < x755.length) then
                          match x755[x758.toNat]? with
                          | some x760 =>
                            let x761 := x755.set x758.toNat x759
                            let x762 := (IntKind.i64.wrap (v743 + (1 : Int)))
                            next v740 v741 v742 x762 x761
                          | none => none
                        else
                          none
                    | none => none
                  else
                    none
              | none => none
            else
              none
      | none => none
  else
    k0 v744
noncomputable def impl_natShift_L2.b {α : Type} (N n : Nat) (v740 : Int) (v741 : List Int) (v742 : Int) (v743 : Int) (v744 : List Int) (k0 : List Int → Option α) : Option α :=
  Nat.rec (motive := fun _ => Int → List Int → Int → Int → List Int → Option α) (fun _ _ _ _ _ => none) (fun _ next => impl_natShift_L2r N next k0) n v740 v741 v742 v743 v744
theorem impl_natShift_L2.ex : ∃ f : ((α : Type) → Nat → Nat → Int → List Int → Int → Int → List Int → (List Int → Option α) → Option α), f = fun α => @impl_natShift_L2.b α := ⟨_, rfl⟩
noncomputable def impl_natShift_L2 {α : Type} : Nat → Nat → Int → List Int → Int → Int → List Int → (List Int → Option α) → Option α := Classical.choose impl_natShift_L2.ex α
theorem impl_natShift_L2.eq : @impl_natShift_L2 = @impl_natShift_L2.b := funext fun α => congrFun (Classical.choose_spec impl_natShift_L2.ex) α
theorem impl_natShift_L2.zero {α : Type} (N : Nat) (v740 : Int) (v741 : List Int) (v742 : Int) (v743 : Int) (v744 : List Int) (k0 : List Int → Option α) : impl_natShift_L2 N 0 v740 v741 v742 v743 v744 k0 = none := by rw [impl_natShift_L2.eq]; rfl
theorem impl_natShift_L2.succ {α : Type} (N n : Nat) (v740 : Int) (v741 : List Int) (v742 : Int) (v743 : Int) (v744 : List Int) (k0 : List Int → Option α) : impl_natShift_L2 N (n + 1) v740 v741 v742 v743 v744 k0 = impl_natShift_L2r N (fun y0 y1 y2 y3 y4 => impl_natShift_L2 N n y0 y1 y2 y3 y4 k0) k0 v740 v741 v742 v743 v744 := by rw [impl_natShift_L2.eq]; rfl
/-- loop.example/pinfold/impl.natShift -/
noncomputable def impl_natShift.b {α : Type} (N : Nat) (a681 : List Int) (a682 : Int) (k0 : List Int → Option α) : Option α :=
  let x683 := (decide (a682 < (0 : Int)))
  bif x683 then
    let x684 := IntKind.i64.wrap (0 - a682)
    let x685 := (IntKind.i64.wrap (Int.tdiv x684 (16 : Int)))
    let x686 := IntKind.i64.wrap (0 - a682)
    let x687 := (Int.tmod x686 (16 : Int))
    let x688 := ((a681.length : Nat) : Int)
    let x689 := decide (x688 ≤ x685)
    bif x689 then
      k0 []
    else
      bif (decide ((0 : Int) ≤ x685)) then
        bif (decide (x685 ≤ ((a681.length : Nat) : Int))) then
          let x690 := a681.drop x685.toNat
          slices_Clone_int_int N x690
            (fun x691 =>
              let x692 := ((x691.length : Nat) : Int)
              impl_natShift_L0 N N a681 x685 x687 x692 (0 : Int) x691
                (fun x732 =>
                  impl_trim N x732
                    (fun x733 =>
                      k0 x733)))
        else
          none
      else
        none
  else
    let x734 := (IntKind.i64.wrap (Int.tdiv a682 (16 : Int)))
    let x735 := ((a681.length : Nat) : Int)
    let x736 := IntKind.i64.wrap (x734 + x735)
    let x737 := (IntKind.i64.wrap (x736 + (1 : Int)))
    bif (decide ((0 : Int) ≤ x737)) then
      bif decide (x737 ≤ x737) then
        bif (decide (x737 ≤ ((8796093022208 : Nat) : Int))) then
          let x738 := (List.replicate x737.toNat (0 : Int))
          let x739 := ((a681.length : Nat) : Int)
          impl_natShift_L2 N N a682 a681 x739 (0 : Int) x738
            (fun x763 =>
              impl_trim N x763
                (fun x764 =>
                  k0 x764))
        else
          none
      else
        none
    else
      none
theorem impl_natShift.ex : ∃ f : ((α : Type) → Nat → List Int → Int → (List Int → Option α) → Option α), f = fun α => @impl_natShift.b α := ⟨_, rfl⟩
noncomputable def impl_natShift {α : Type} : Nat → List Int → Int → (List Int → Option α) → Option α := Classical.choose impl_natShift.ex α
theorem impl_natShift.eq : @impl_natShift = @impl_natShift.b := funext fun α => congrFun (Classical.choose_spec impl_natShift.ex) α

noncomputable def impl_natDiv_L0r {α : Type} (N : Nat) (next : List Int → List Int → Int → Int → List Int → Option α) (k0 : Int → List Int → Option α) (v561 : List Int) (v562 : List Int) (v563 : Int) (v564 : Int) (v565 : List Int) : Option α :=
  let x566 := (decide ((0 : Int) ≤ v564))
  bif x566 then
    let x567 := (shlI .i64 v563 (16 : Int))
    bif (decide (v564 < (0 : Int))) then
      none
    else
      match v561[v564.toNat]? with
      | some x568 =>
        let x569 := bitI .or .i64 x567 x568
        match v562[0]? with
        | some x570 =>
          bif (decide (x570 = (0 : Int))) then
            none
          else
            let x571 := IntKind.i64.wrap (Int.tdiv x569 x570)
            match v562[0]? with
            | some x572 =>
              bif (decide (x572 = (0 : Int))) then
                none
              else
                let x573 := Int.tmod x569 x572
                bif (decide (v564 < (0 : Int))) then
                  none
                else
                  bif decide (v564.toNat < v565.length) then
                    match v565[v564.toNat]? with
                    | some x574 =>
                      let x575 := v565.set v564.toNat x571
                      let x576 := (IntKind.i64.wrap (v564 - (1 : Int)))
                      next v561 v562 x573 x576 x575
                    | none => none
                  else
                    none
            | none => none
        | none => none
      | none => none
  else
    k0 v563 v565
noncomputable def impl_natDiv_L0.b {α : Type} (N n : Nat) (v561 : List Int) (v562 : List Int) (v563 : Int) (v564 : Int) (v565 : List Int) (k0 : Int → List Int → Option α) : Option α :=
  Nat.rec (motive := fun _ => List Int → List Int → Int → Int → List Int → Option α) (fun _ _ _ _ _ => none) (fun _ next => impl_natDiv_L0r N next k0) n v561 v562 v563 v564 v565
theorem impl_natDiv_L0.ex : ∃ f : ((α : Type) → Nat → Nat → List Int → List Int → Int → Int → List Int → (Int → List Int → Option α) → Option α), f = fun α => @impl_natDiv_L0.b α := ⟨_, rfl⟩
noncomputable def impl_natDiv_L0 {α : Type} : Nat → Nat → List Int → List Int → Int → Int → List Int → (Int → List Int → Option α) → Option α := Classical.choose impl_natDiv_L0.ex α
theorem impl_natDiv_L0.eq : @impl_natDiv_L0 = @impl_natDiv_L0.b := funext fun α => congrFun (Classical.choose_spec impl_natDiv_L0.ex) α
theorem impl_natDiv_L0.zero {α : Type} (N : Nat) (v561 : List Int) (v562 : List Int) (v563 : Int) (v564 : Int) (v565 : List Int) (k0 : Int → List Int → Option α) : impl_natDiv_L0 N 0 v561 v562 v563 v564 v565 k0 = none := by rw [impl_natDiv_L0.eq]; rfl
theorem impl_natDiv_L0.succ {α : Type} (N n : Nat) (v561 : List Int) (v562 : List Int) (v563 : Int) (v564 : Int) (v565 : List Int) (k0 : Int → List Int → Option α) : impl_natDiv_L0 N (n + 1) v561 v562 v563 v564 v565 k0 = impl_natDiv_L0r N (fun y0 y1 y2 y3 y4 => impl_natDiv_L0 N n y0 y1 y2 y3 y4 k0) k0 v561 v562 v563 v564 v565 := by rw [impl_natDiv_L0.eq]; rfl
noncomputable def impl_natDiv_L2r {α : Type} (N : Nat) (next : List Int → Int → List Int → Int → List Int → Option α) (k0 : Int → List Int → Int → List Int → Option α) (v771 : List Int) (v772 : Int) (v773 : List Int) (v774 : Int) (v775 : List Int) : Option α :=
  let x776 := ((v775.length : Nat) : Int)
  let x777 := ((v771.length : Nat) : Int)
  let x778 := (IntKind.i64.wrap (x777 + (1 : Int)))
  let x779 := decide (x776 < x778)
  bif x779 then
    let x780 := [(0 : Int)]
    bif decide (v775.length + x780.length ≤ 8796093022208) then
      let x781 := v775 ++ x780
      next v771 v772 v773 v774 x781
    else
      none
  else
    k0 v772 v773 v774 v775
noncomputable def impl_natDiv_L2.b {α : Type} (N n : Nat) (v771 : List Int) (v772 : Int) (v773 : List Int) (v774 : Int) (v775 : List Int) (k0 : Int → List Int → Int → List Int → Option α) : Option α :=
  Nat.rec (motive := fun _ => List Int → Int → List Int → Int → List Int → Option α) (fun _ _ _ _ _ => none) (fun _ next => impl_natDiv_L2r N next k0) n v771 v772 v773 v774 v775
theorem impl_natDiv_L2.ex : ∃ f : ((α : Type) → Nat → Nat → List Int → Int → List Int → Int → List Int → (Int → List Int → Int → List Int → Option α) → Option α), f = fun α => @impl_natDiv_L2.b α := ⟨_, rfl⟩
noncomputable def impl_natDiv_L2 {α : Type} : Nat → Nat → List Int → Int → List Int → Int → List Int → (Int → List Int → Int → List Int → Option α) → Option α := Classical.choose impl_natDiv_L2.ex α
theorem impl_natDiv_L2.eq : @impl_natDiv_L2 = @impl_natDiv_L2.b := funext fun α => congrFun (Classical.choose_spec impl_natDiv_L2.ex) α
theorem impl_natDiv_L2.zero {α : Type} (N : Nat) (v771 : List Int) (v772 : Int) (v773 : List Int) (v774 : Int) (v775 : List Int) (k0 : Int → List Int → Int → List Int → Option α) : impl_natDiv_L2 N 0 v771 v772 v773 v774 v775 k0 = none := by rw [impl_natDiv_L2.eq]; rfl
theorem impl_natDiv_L2.succ {α : Type} (N n : Nat) (v771 : List Int) (v772 : Int) (v773 : List Int) (v774 : Int) (v775 : List Int) (k0 : Int → List Int → Int → List Int → Option α) : impl_natDiv_L2 N (n + 1) v771 v772 v773 v774 v775 k0 = impl_natDiv_L2r N (fun y0 y1 y2 y3 y4 => impl_natDiv_L2 N n y0 y1 y2 y3 y4 k0) k0 v771 v772 v773 v774 v775 := by rw [impl_natDiv_L2.eq]; rfl
noncomputable def impl_natDiv_L6r {α : Type} (N : Nat) (next : Int → List Int → Int → Int → Int → Int → List Int → List Int → Option α) (k0 : Int → List Int → Int → Int → Int → List Int → List Int → Option α) (v812 : Int) (v813 : List Int) (v814 : Int) (v815 : Int) (v816 : Int) (v817 : Int) (v818 : List Int) (v819 : List Int) : Option α :=
  let x820 := (decide ((65536 : Int) ≤ v816))
  bif x820 then
    let x821 := (IntKind.i64.wrap (v816 - (1 : Int)))
    let x822 := (IntKind.i64.wrap (v814 - (1 : Int)))
    bif (decide (x822 < (0 : Int))) then
      none
    else
      match v813[x822.toNat]? with
      | some x823 =>
        let x824 := IntKind.i64.wrap (v817 + x823)
        let x825 := (decide ((65536 : Int) ≤ x824))
        bif x825 then
          k0 v812 v813 v814 v815 x821 v818 v819
        else
          next v812 v813 v814 v815 x821 x824 v818 v819
      | none => none
  else
    let x826 := (IntKind.i64.wrap (v814 - (2 : Int)))
    bif (decide (x826 < (0 : Int))) then
      none
    else
      match v813[x826.toNat]? with
      | some x827 =>
        let x828 := IntKind.i64.wrap (v816 * x827)
        let x829 := (shlI .i64 v817 (16 : Int))
        let x830 := IntKind.i64.wrap (v815 + v814)
        let x831 := (IntKind.i64.wrap (x830 - (2 : Int)))
        bif (decide (x831 < (0 : Int))) then
          none
        else
          bif decide (x831.toNat < v818.length) then
            match v818[x831.toNat]? with
            | some x832 =>
              let x833 := bitI .or .i64 x829 x832
              let x834 := decide (x833 < x828)
              bif x834 then
                let x835 := (IntKind.i64.wrap (v816 - (1 : Int)))
                let x836 := (IntKind.i64.wrap (v814 - (1 : Int)))
                bif (decide (x836 < (0 : Int))) then
                  none
                else
                  match v813[x836.toNat]? with
                  | some x837 =>
                    let x838 := IntKind.i64.wrap (v817 + x837)
                    let x839 := (decide ((65536 : Int) ≤ x838))
                    bif x839 then
                      k0 v812 v813 v814 v815 x835 v818 v819
                    else
                      next v812 v813 v814 v815 x835 x838 v818 v819
                  | none => none
              else
                k0 v812 v813 v814 v815 v816 v818 v819
            | none => none
          else
            none
      | none => none
noncomputable def impl_natDiv_L6.b {α : Type} (N n : Nat) (v812 : Int) (v813 : List Int) (v814 : Int) (v815 : Int) (v816 : Int) (v817 : Int) (v818 : List Int) (v819 : List Int) (k0 : Int → List Int → Int → Int → Int → List Int → List Int → Option α) : Option α :=
  Nat.rec (motive := fun _ => Int → List Int → Int → Int → Int → Int → List Int → List Int → Option α) (fun _ _ _ _ _ _ _ _ => none) (fun _ next => impl_natDiv_L6r N next k0) n v812 v813 v814 v815 v816 v817 v818 v819
theorem impl_natDiv_L6.ex : ∃ f : ((α : Type) → Nat → Nat → Int → List Int → Int → Int → Int → Int → List Int → List Int → (Int → List Int → Int → Int → Int → List Int → List Int → Option α) → Option α), f = fun α => @impl_natDiv_L6.b α := ⟨_, rfl⟩
noncomputable def impl_natDiv_L6 {α : Type} : Nat → Nat → Int → List Int → Int → Int → Int → Int → List Int → List Int → (Int → List Int → Int → Int → Int → List Int → List Int → Option α) → Option α := Classical.choose impl_natDiv_L6.ex α
theorem impl_natDiv_L6.eq : @impl_natDiv_L6 = @impl_natDiv_L6.b := funext fun α => congrFun (Classical.choose_spec impl_natDiv_L6.ex) α
theorem impl_natDiv_L6.zero {α : Type} (N : Nat) (v812 : Int) (v813 : List Int) (v814 : Int) (v815 : Int) (v816 : Int) (v817 : Int) (v818 : List Int) (v819 : List Int) (k0 : Int → List Int → Int → Int → Int → List Int → List Int → Option α) : impl_natDiv_L6 N 0 v812 v813 v814 v815 v816 v817 v818 v819 k0 = none := by rw [impl_natDiv_L6.eq]; rfl
theorem impl_natDiv_L6.succ {α : Type} (N n : Nat) (v812 : Int) (v813 : List Int) (v814 : Int) (v815 : Int) (v816 : Int) (v817 : Int) (v818 : List Int) (v819 : List Int) (k0 : Int → List Int → Int → Int → Int → List Int → List Int → Option α) : impl_natDiv_L6 N (n + 1) v812 v813 v814 v815 v816 v817 v818 v819 k0 = impl_natDiv_L6r N (fun y0 y1 y2 y3 y4 y5 y6 y7 => impl_natDiv_L6 N n y0 y1 y2 y3 y4 y5 y6 y7 k0) k0 v812 v813 v814 v815 v816 v817 v818 v819 := by rw [impl_natDiv_L6.eq]; rfl
noncomputable def impl_natDiv_J34.b {α : Type} (N : Nat) (v866 : Int) (v867 : List Int) (v868 : Int) (v869 : Int) (v870 : Int) (v871 : Int) (v872 : Int) (v873 : Int) (v874 : List Int) (v875 : Int) (v876 : Int) (v877 : List Int) (v878 : List Int) (k0 : Int → List Int → Int → Int → Int → Int → Int → Int → List Int → Int → Int → List Int → List Int → Option α) : Option α :=
  let x879 := (decide (v873 < (0 : Int)))
  bif x879 then
    let x880 := IntKind.i64.wrap (0 - v873)
    let x881 := (IntKind.i64.wrap (x880 + (65536 : Int)))
    let x882 := (IntKind.i64.wrap (x881 - (1 : Int)))
    let x883 := (IntKind.i64.wrap (Int.tdiv x882 (65536 : Int)))
    let x884 := (IntKind.i64.wrap (x883 * (65536 : Int)))
    let x885 := IntKind.i64.wrap (v873 + x884)
    k0 v866 v867 v868 v869 v870 x883 v872 x885 v874 v875 v876 v877 v878
  else
    k0 v866 v867 v868 v869 v870 v871 v872 v873 v874 v875 v876 v877 v878
theorem impl_natDiv_J34.ex : ∃ f : ((α : Type) → Nat → Int → List Int → Int → Int → Int → Int → Int → Int → List Int → Int → Int → List Int → List Int → (Int → List Int → Int → Int → Int → Int → Int → Int → List Int → Int → Int → List Int → List Int → Option α) → Option α), f = fun α => @impl_natDiv_J34.b α := ⟨_, rfl⟩
noncomputable def impl_natDiv_J34 {α : Type} : Nat → Int → List Int → Int → Int → Int → Int → Int → Int → List Int → Int → Int → List Int → List Int → (Int → List Int → Int → Int → Int → Int → Int → Int → List Int → Int → Int → List Int → List Int → Option α) → Option α := Classical.choose impl_natDiv_J34.ex α
theorem impl_natDiv_J34.eq : @impl_natDiv_J34 = @impl_natDiv_J34.b := funext fun α => congrFun (Classical.choose_spec impl_natDiv_J34.ex) α
noncomputable def impl_natDiv_L8r {α : Type} (N : Nat) (next : Int → List Int → Int → Int → Int → Int → List Int → Int → Int → List Int → List Int → Option α) (k0 : Int → List Int → Int → Int → Int → Int → List Int → List Int → Option α) (v848 : Int) (v849 : List Int) (v850 : Int) (v851 : Int) (v852 : Int) (v853 : Int) (v854 : List Int) (v855 : Int) (v856 : Int) (v857 : List Int) (v858 : List Int) : Option α :=
  let x859 := decide (v856 < v855)
  bif x859 then
    bif (decide (v856 < (0 : Int))) then
      none
    else
      match v854[v856.toNat]? with
      | some x860 =>
        let x861 := IntKind.i64.wrap (v851 + v856)
        bif (decide (x861 < (0 : Int))) then
          none
        else
          bif decide (x861.toNat < v857.length) then
            match v857[x861.toNat]? with
            | some x862 =>
              let x863 := IntKind.i64.wrap (x862 - v853)
              let x864 := IntKind.i64.wrap (v852 * x860)
              let x865 := IntKind.i64.wrap (x863 - x864)
              impl_natDiv_J34 N v848 v849 v850 v851 v852 (0 : Int) v856 x865 v854 v855 v856 v857 v858
                (fun x886 x887 x888 x889 x890 x891 x892 x893 x894 x895 x896 x897 x898 =>
                  let x899 := IntKind.i64.wrap (x889 + x892)
                  bif (decide (x899 < (0 : Int))) then
                    none
                  else
                    bif decide (x899.toNat < x897.length) then
                      match x897[x899.toNat]? with
                      | some x900 =>
                        let x901 := x897.set x899.toNat x893
                        let x902 := (IntKind.i64.wrap (x896 + (1 : Int)))
                        next x886 x887 x888 x889 x890 x891 x894 x895 x902 x901 x898
                      | none => none
                    else
                      none)
            | none => none
          else
            none
      | none => none
  else
    k0 v848 v849 v850 v851 v852 v853 v857 v858
noncomputable def impl_natDiv_L8.b {α : Type} (N n : Nat) (v848 : Int) (v849 : List Int) (v850 : Int) (v851 : Int) (v852 : Int) (v853 : Int) (v854 : List Int) (v855 : Int) (v856 : Int) (v857 : List Int) (v858 : List Int) (k0 : Int → List Int → Int → Int → Int → Int → List Int → List Int → Option α) : Option α :=
  Nat.rec (motive := fun _ => Int → List Int → Int → Int → Int → Int → List Int → Int → Int → List Int → List Int → Option α) (fun _ _ _ _ _ _ _ _ _ _ _ => none) (fun _ next => impl_natDiv_L8r N next k0) n v848 v849 v850 v851 v852 v853 v854 v855 v856 v857 v858
theorem impl_natDiv_L8.ex : ∃ f : ((α : Type) → Nat → Nat → Int → List Int → Int → Int → Int → Int → List Int → Int → Int → List Int → List Int → (Int → List Int → Int → Int → Int → Int → List Int → List Int → Option α) → Option α), f = fun α => @impl_natDiv_L8.b α := ⟨_, rfl⟩
noncomputable def impl_natDiv_L8 {α : Type} : Nat → Nat → Int → List Int → Int → Int → Int → Int → List Int → Int → Int → List Int → List Int → (Int → List Int → Int → Int → Int → Int → List Int → List Int → Option α) → Option α := Classical.choose impl_natDiv_L8.ex α
theorem impl_natDiv_L8.eq : @impl_natDiv_L8 = @impl_natDiv_L8.b := funext fun α => congrFun (Classical.choose_spec impl_natDiv_L8.ex) α
theorem impl_natDiv_L8.zero {α : Type} (N : Nat) (v848 : Int) (v849 : List Int) (v850 : Int) (v851 : Int) (v852 : Int) (v853 : Int) (v854 : List Int) (v855 : Int) (v856 : Int) (v857 : List Int) (v858 : List Int) (k0 : Int → List Int → Int → Int → Int → Int → List Int → List Int → Option α) : impl_natDiv_L8 N 0 v848 v849 v850 v851 v852 v853 v854 v855 v856 v857 v858 k0 = none := by rw [impl_natDiv_L8.eq]; rfl
theorem impl_natDiv_L8.succ {α : Type} (N n : Nat) (v848 : Int) (v849 : List Int) (v850 : Int) (v851 : Int) (v852 : Int) (v853 : Int) (v854 : List Int) (v855 : Int) (v856 : Int) (v857 : List Int) (v858 : List Int) (k0 : Int → List Int → Int → Int → Int → Int → List Int → List Int → Option α) : impl_natDiv_L8 N (n + 1) v848 v849 v850 v851 v852 v853 v854 v855 v856 v857 v858 k0 = impl_natDiv_L8r N (fun y0 y1 y2 y3 y4 y5 y6 y7 y8 y9 y10 => impl_natDiv_L8 N n y0 y1 y2 y3 y4 y5 y6 y7 y8 y9 y10 k0) k0 v848 v849 v850 v851 v852 v853 v854 v855 v856 v857 v858 := by rw [impl_natDiv_L8.eq]; rfl
noncomputable def impl_natDiv_L10r {α : Type} (N : Nat) (next : Int → List Int → Int → Int → Int → Int → List Int → Int → Int → List Int → List Int → Option α) (k0 : Int → List Int → Int → Int → Int → Int → List Int → List Int → Option α) (v928 : Int) (v929 : List Int) (v930 : Int) (v931 : Int) (v932 : Int) (v933 : Int) (v934 : List Int) (v935 : Int) (v936 : Int) (v937 : List Int) (v938 : List Int) : Option α :=
  let x939 := decide (v936 < v935)
  bif x939 then
    bif (decide (v936 < (0 : Int))) then
      none
    else
      match v934[v936.toNat]? with
      | some x940 =>
        let x941 := IntKind.i64.wrap (v931 + v936)
        bif (decide (x941 < (0 : Int))) then
          none
        else
          bif decide (x941.toNat < v937.length) then
            match v937[x941.toNat]? with
            | some x942 =>
              let x943 := IntKind.i64.wrap (x942 + x940)
              let x944 := IntKind.i64.wrap (x943 + v933)
              let x945 := IntKind.i64.wrap (v931 + v936)
              let x946 := (bitI .and .i64 x944 (65535 : Int))
              let x947 := (shrI .i64 x944 (16 : Int))
              bif (decide (x945 < (0 : Int))) then
                none
              else
                bif decide (x945.toNat < v937.length) then
                  match v937[x945.toNat]? with
                  | some x948 =>
                    let x949 := v937.set x945.toNat x946
                    let x950 := (IntKind.i64.wrap (v936 + (1 : Int)))
                    next v928 v929 v930 v931 v932 x947 v934 v935 x950 x949 v938
                  | none => none
                else
                  none
            | none => none
          else
            none
      | none => none
  else
    k0 v928 v929 v930 v931 v932 v933 v937 v938
noncomputable def impl_natDiv_L10.b {α : Type} (N n : Nat) (v928 : Int) (v929 : List Int) (v930 : Int) (v931 : Int) (v932 : Int) (v933 : Int) (v934 : List Int) (v935 : Int) (v936 : Int) (v937 : List Int) (v938 : List Int) (k0 : Int → List Int → Int → Int → Int → Int → List Int → List Int → Option α) : Option α :=
  Nat.rec (motive := fun _ => Int → List Int → Int → Int → Int → Int → List Int → Int → Int → List Int → List Int → Option α) (fun _ _ _ _ _ _ _ _ _ _ _ => none) (fun _ next => impl_natDiv_L10r N next k0) n v928 v929 v930 v931 v932 v933 v934 v935 v936 v937 v938
theorem impl_natDiv_L10.ex : ∃ f : ((α : Type) → Nat → Nat → Int → List Int → Int → Int → Int → Int → List Int → Int → Int → List Int → List Int → (Int → List Int → Int → Int → Int → Int → List Int → List Int → Option α) → Option α), f = fun α => @impl_natDiv_L10.b α := ⟨_, rfl⟩
noncomputable def impl_natDiv_L10 {α : Type} : Nat → Nat → Int → List Int → Int → Int → Int → Int → List Int → Int → Int → List Int → List Int → (Int → List Int → Int → Int → Int → Int → List Int → List Int → Option α) → Option α := Classical.choose impl_natDiv_L10.ex α
theorem impl_natDiv_L10.eq : @impl_natDiv_L10 = @impl_natDiv_L10.b := funext fun α => congrFun (Classical.choose_spec impl_natDiv_L10.ex) α
theorem impl_natDiv_L10.zero {α : Type} (N : Nat) (v928 : Int) (v929 : List Int) (v930 : Int) (v931 : Int) (v932 : Int) (v933 : Int) (v934 : List Int) (v935 : Int) (v936 : Int) (v937 : List Int) (v938 : List Int) (k0 : Int → List Int → Int → Int → Int → Int → List Int → List Int → Option α) : impl_natDiv_L10 N 0 v928 v929 v930 v931 v932 v933 v934 v935 v936 v937 v938 k0 = none := by rw [impl_natDiv_L10.eq]; rfl
theorem impl_natDiv_L10.succ {α : Type} (N n : Nat) (v928 : Int) (v929 : List Int) (v930 : Int) (v931 : Int) (v932 : Int) (v933 : Int) (v934 : List Int) (v935 : Int) (v936 : Int) (v937 : List Int) (v938 : List Int) (k0 : Int → List Int → Int → Int → Int → Int → List Int → List Int → Option α) : impl_natDiv_L10 N (n + 1) v928 v929 v930 v931 v932 v933 v934 v935 v936 v937 v938 k0 = impl_natDiv_L10r N (fun y0 y1 y2 y3 y4 y5 y6 y7 y8 y9 y10 => impl_natDiv_L10 N n y0 y1 y2 y3 y4 y5 y6 y7 y8 y9 y10 k0) k0 v928 v929 v930 v931 v932 v933 v934 v935 v936 v937 v938 := by rw [impl_natDiv_L10.eq]; rfl
noncomputable def impl_natDiv_J40.b {α : Type} (N : Nat) (v916 : Int) (v917 : List Int) (v918 : Int) (v919 : Int) (v920 : Int) (v921 : List Int) (v922 : List Int) (k0 : Int → List Int → Int → Int → Int → List Int → List Int → Option α) : Option α :=
  let x923 := IntKind.i64.wrap (v919 + v918)
  bif (decide (x923 < (0 : Int))) then
    none
  else
    bif decide (x923.toNat < v921.length) then
      match v921[x923.toNat]? with
      | some x924 =>
        let x925 := (decide (x924 < (0 : Int)))
        bif x925 then
          let x926 := (IntKind.i64.wrap (v920 - (1 : Int)))
          let x927 := ((v917.length : Nat) : Int)
          impl_natDiv_L10 N N v916 v917 v918 v919 x926 (0 : Int) v917 x927 (0 : Int) v921 v922
            (fun x951 x952 x953 x954 x955 x956 x957 x958 =>
              let x959 := IntKind.i64.wrap (x954 + x953)
              bif (decide (x959 < (0 : Int))) then
                none
              else
                bif decide (x959.toNat < x957.length) then
                  match x957[x959.toNat]? with
                  | some x960 =>
                    let x961 := IntKind.i64.wrap (x960 + x956)
                    bif (decide (x959 < (0 : Int))) then
                      none
                    else
                      bif decide (x959.toNat < x957.length) then
                        match x957[x959.toNat]? with
                        | some x962 =>
                          let x963 := x957.set x959.toNat x961
                          k0 x951 x952 x953 x954 x955 x963 x958
                        | none => none
                      else
                        none
                  | none => none
                else
                  none)
        else
          k0 v916 v917 v918 v919 v920 v921 v922
      | none => none
    else
      none
theorem impl_natDiv_J40.ex : ∃ f : ((α : Type) → Nat → Int → List Int → Int → Int → Int → List Int → List Int → (Int → List Int → Int → Int → Int → List Int → List Int → Option α) → Option α), f = fun α => @impl_natDiv_J40.b α := ⟨_, rfl⟩
noncomputable def impl_natDiv_J40 {α : Type} : Nat → Int → List Int → Int → Int → Int → List Int → List Int → (Int → List Int → Int → Int → Int → List Int → List Int → Option α) → Option α := Classical.choose impl_natDiv_J40.ex α
theorem impl_natDiv_J40.eq : @impl_natDiv_J40 = @impl_natDiv_J40.b := funext fun α => congrFun (Classical.choose_spec impl_natDiv_J40.ex) α
noncomputable def impl_natDiv_L4r {α : Type} (N : Nat) (next : Int → List Int → Int → Int → List Int → List Int → Option α) (k0 : Int → List Int → List Int → Option α) (v792 : Int) (v793 : List Int) (v794 : Int) (v795 : Int) (v796 : List Int) (v797 : List Int) : Option α :=
  let x798 := (decide ((0 : Int) ≤ v795))
  bif x798 then
    let x799 := IntKind.i64.wrap (v795 + v794)
    bif (decide (x799 < (0 : Int))) then
      none
    else
      bif decide (x799.toNat < v796.length) then
        match v796[x799.toNat]? with
        | some x800 =>
          let x801 := (shlI .i64 x800 (16 : Int))
          let x802 := IntKind.i64.wrap (v795 + v794)
          let x803 := (IntKind.i64.wrap (x802 - (1 : Int)))
          bif (decide (x803 < (0 : Int))) then
            none
          else
            bif decide (x803.toNat < v796.length) then
              match v796[x803.toNat]? with
              | some x804 =>
                let x805 := bitI .or .i64 x801 x804
                let x806 := (IntKind.i64.wrap (v794 - (1 : Int)))
                bif (decide (x806 < (0 : Int))) then
                  none
                else
                  match v793[x806.toNat]? with
                  | some x807 =>
                    bif (decide (x807 = (0 : Int))) then
                      none
                    else
                      let x808 := IntKind.i64.wrap (Int.tdiv x805 x807)
                      let x809 := (IntKind.i64.wrap (v794 - (1 : Int)))
                      bif (decide (x809 < (0 : Int))) then
                        none
                      else
                        match v793[x809.toNat]? with
                        | some x810 =>
                          bif (decide (x810 = (0 : Int))) then
                            none
                          else
                            let x811 := Int.tmod x805 x810
                            impl_natDiv_L6 N N v792 v793 v794 v795 x808 x811 v796 v797
                              (fun x840 x841 x842 x843 x844 x845 x846 =>
                                let x847 := ((x841.length : Nat) : Int)
                                impl_natDiv_L8 N N x840 x841 x842 x843 x844 (0 : Int) x841 x847 (0 : Int) x845 x846
                                  (fun x903 x904 x905 x906 x907 x908 x909 x910 =>
                                    let x911 := IntKind.i64.wrap (x906 + x905)
                                    bif (decide (x911 < (0 : Int))) then
                                      none
                                    else
                                      bif decide (x911.toNat < x909.length) then
                                        match x909[x911.toNat]? with
                                        | some x912 =>
                                          let x913 := IntKind.i64.wrap (x912 - x908)
                                          bif (decide (x911 < (0 : Int))) then
                                            none
                                          else
                                            bif decide (x911.toNat < x909.length) then
                                              match x909[x911.toNat]? with
                                              | some x914 =>
                                                let x915 := x909.set x911.toNat x913
                                                impl_natDiv_J40 N x903 x904 x905 x906 x907 x915 x910
                                                  (fun x964 x965 x966 x967 x968 x969 x970 =>
                                                    bif (decide (x967 < (0 : Int))) then
                                                      none
                                                    else
                                                      bif decide (x967.toNat < x970.length) then
                                                        match x970[x967.toNat]? with
                                                        | some x971 =>
                                                          let x972 := x970.set x967.toNat x968
                                                          let x973 := (IntKind.i64.wrap (x967 - (1 : Int)))
                                                          next x964 x965 x966 x973 x969 x972
                                                        | none => none
                                                      else
                                                        none)
                                              | none => none
                                            else
                                              none
                                        | none => none
                                      else
                                        none))
                        | none => none
                  | none => none
              | none => none
            else
              none
        | none => none
      else
        none
  else
    k0 v792 v796 v797
noncomputable def impl_natDiv_L4.b {α : Type} (N n : Nat) (v792 : Int) (v793 : List Int) (v794 : Int) (v795 : Int) (v796 : List Int) (v797 : List Int) (k0 : Int → List Int → List Int → Option α) : Option α :=
  Nat.rec (motive := fun _ => Int → List Int → Int → Int → List Int → List Int → Option α) (fun _ _ _ _ _ _ => none) (fun _ next => impl_natDiv_L4r N next k0) n v792 v793 v794 v795 v796 v797
theorem impl_natDiv_L4.ex : ∃ f : ((α : Type) → Nat → Nat → Int → List Int → Int → Int → List Int → List Int → (Int → List Int → List Int → Option α) → Option α), f = fun α => @impl_natDiv_L4.b α := ⟨_, rfl⟩
noncomputable def impl_natDiv_L4 {α : Type} : Nat → Nat → Int → List Int → Int → Int → List Int → List Int → (Int → List Int → List Int → Option α) → Option α := Classical.choose impl_natDiv_L4.ex α
theorem impl_natDiv_L4.eq : @impl_natDiv_L4 = @impl_natDiv_L4.b := funext fun α => congrFun (Classical.choose_spec impl_natDiv_L4.ex) α
theorem impl_natDiv_L4.zero {α : Type} (N : Nat) (v792 : Int) (v793 : List Int) (v794 : Int) (v795 : Int) (v796 : List Int) (v797 : List Int) (k0 : Int → List Int → List Int → Option α) : impl_natDiv_L4 N 0 v792 v793 v794 v795 v796 v797 k0 = none := by rw [impl_natDiv_L4.eq]; rfl
theorem impl_natDiv_L4.succ {α : Type} (N n : Nat) (v792 : Int) (v793 : List Int) (v794 : Int) (v795 : Int) (v796 : List Int) (v797 : List Int) (k0 : Int → List Int → List Int → Option α) : impl_natDiv_L4 N (n + 1) v792 v793 v794 v795 v796 v797 k0 = impl_natDiv_L4r N (fun y0 y1 y2 y3 y4 y5 => impl_natDiv_L4 N n y0 y1 y2 y3 y4 y5 k0) k0 v792 v793 v794 v795 v796 v797 := by rw [impl_natDiv_L4.eq]; rfl
/-- loop.example/pinfold/impl.natDiv -/
noncomputable def impl_natDiv.b {α : Type} (N : Nat) (a525 : List Int) (a526 : List Int) (k0 : List Int → List Int → Option α) : Option α :=
  impl_natCmp N a525 a526
    (fun x553 =>
      let x554 := (decide (x553 < (0 : Int)))
      bif x554 then
        k0 [] a525
      else
        let x555 := ((a526.length : Nat) : Int)
        let x556 := (decide (x555 = (1 : Int)))
        bif x556 then
          let x557 := ((a525.length : Nat) : Int)
          bif (decide ((0 : Int) ≤ x557)) then
            bif decide (x557 ≤ x557) then
              bif (decide (x557 ≤ ((8796093022208 : Nat) : Int))) then
                let x558 := (List.replicate x557.toNat (0 : Int))
                let x559 := ((a525.length : Nat) : Int)
                let x560 := (IntKind.i64.wrap (x559 - (1 : Int)))
                impl_natDiv_L0 N N a525 a526 (0 : Int) x560 x558
                  (fun x577 x578 =>
                    impl_trim N x578
                      (fun x591 =>
                        let x592 := [x577]
                        impl_trim N x592
                          (fun x593 =>
                            k0 x591 x593)))
              else
                none
            else
              none
          else
            none
        else
          let x594 := ((a526.length : Nat) : Int)
          let x595 := (IntKind.i64.wrap (x594 - (1 : Int)))
          bif (decide (x595 < (0 : Int))) then
            none
          else
            match a526[x595.toNat]? with
            | some x596 =>
              let x597 := IntKind.u64.wrap x596
              math_bits_Len N x597
                (fun x626 =>
                  let x627 := (IntKind.i64.wrap ((16 : Int) - x626))
                  impl_natShift N a526 x627
                    (fun x765 =>
                      impl_natShift N a525 x627
                        (fun x766 =>
                          slices_Clone_int_int N x766
                            (fun x767 =>
                              let x768 := [(0 : Int)]
                              bif decide (x767.length + x768.length ≤ 8796093022208) then
                                let x769 := x767 ++ x768
                                let x770 := ((x765.length : Nat) : Int)
                                impl_natDiv_L2 N N a525 x627 x765 x770 x769
                                  (fun x782 x783 x784 x785 =>
                                    let x786 := ((x785.length : Nat) : Int)
                                    let x787 := IntKind.i64.wrap (x786 - x784)
                                    bif (decide ((0 : Int) ≤ x787)) then
                                      bif decide (x787 ≤ x787) then
                                        bif (decide (x787 ≤ ((8796093022208 : Nat) : Int))) then
                                          let x788 := (List.replicate x787.toNat (0 : Int))
                                          let x789 := ((x785.length : Nat) : Int)
                                          let x790 := IntKind.i64.wrap (x789 - x784)
                                          let x791 := (IntKind.i64.wrap (x790 - (1 : Int)))
                                          impl_natDiv_L4 N N x782 x783 x784 x791 x785 x788
                                            (fun x974 x975 x976 =>
                                              impl_trim N x976
                                                (fun x977 =>
                                                  impl_trim N x975
                                                    (fun x978 =>
                                                      let x979 := IntKind.i64.wrap (0 - x974)
                                                      impl_natShift N x978 x979
                                                        (fun x980 =>
                                                          k0 x977 x980))))
                                        else
                                          none
                                      else
                                        none
                                    else
                                      none)
                              else
                                none))))
            | none => none)
theorem impl_natDiv.ex : ∃ f : ((α : Type) → Nat → List Int → List Int → (List Int → List Int → Option α) → Option α), f = fun α => @impl_natDiv.b α := ⟨_, rfl⟩
noncomputable def impl_natDiv {α : Type} : Nat → List Int → List Int → (List Int → List Int → Option α) → Option α := Classical.choose impl_natDiv.ex α
theorem impl_natDiv.eq : @impl_natDiv = @impl_natDiv.b := funext fun α => congrFun (Classical.choose_spec impl_natDiv.ex) α

noncomputable def impl_natGcd_L0r {α : Type} (N : Nat) (next : List Int → List Int → Option α) (k0 : List Int → Option α) (v452 : List Int) (v453 : List Int) : Option α :=
  let x454 := ((v453.length : Nat) : Int)
  let x455 := (decide ((0 : Int) < x454))
  bif x455 then
    impl_natDiv N v452 v453
      (fun _ x982 =>
        next v453 x982)
  else
    k0 v452
noncomputable def impl_natGcd_L0.b {α : Type} (N n : Nat) (v452 : List Int) (v453 : List Int) (k0 : List Int → Option α) : Option α :=
  Nat.rec (motive := fun _ => List Int → List Int → Option α) (fun _ _ => none) (fun _ next => impl_natGcd_L0r N next k0) n v452 v453
theorem impl_natGcd_L0.ex : ∃ f : ((α : Type) → Nat → Nat → List Int → List Int → (List Int → Option α) → Option α), f = fun α => @impl_natGcd_L0.b α := ⟨_, rfl⟩
noncomputable def impl_natGcd_L0 {α : Type} : Nat → Nat → List Int → List Int → (List Int → Option α) → Option α := Classical.choose impl_natGcd_L0.ex α
theorem impl_natGcd_L0.eq : @impl_natGcd_L0 = @impl_natGcd_L0.b := funext fun α => congrFun (Classical.choose_spec impl_natGcd_L0.ex) α
theorem impl_natGcd_L0.zero {α : Type} (N : Nat) (v452 : List Int) (v453 : List Int) (k0 : List Int → Option α) : impl_natGcd_L0 N 0 v452 v453 k0 = none := by rw [impl_natGcd_L0.eq]; rfl
theorem impl_natGcd_L0.succ {α : Type} (N n : Nat) (v452 : List Int) (v453 : List Int) (k0 : List Int → Option α) : impl_natGcd_L0 N (n + 1) v452 v453 k0 = impl_natGcd_L0r N (fun y0 y1 => impl_natGcd_L0 N n y0 y1 k0) k0 v452 v453 := by rw [impl_natGcd_L0.eq]; rfl
/-- loop.example/pinfold/impl.natGcd -/
noncomputable def impl_natGcd.b {α : Type} (N : Nat) (a450 : List Int) (a451 : List Int) (k0 : List Int → Option α) : Option α :=
  impl_natGcd_L0 N N a450 a451
    (fun x983 =>
      k0 x983)
theorem impl_natGcd.ex : ∃ f : ((α : Type) → Nat → List Int → List Int → (List Int → Option α) → Option α), f = fun α => @impl_natGcd.b α := ⟨_, rfl⟩
noncomputable def impl_natGcd {α : Type} : Nat → List Int → List Int → (List Int → Option α) → Option α := Classical.choose impl_natGcd.ex α
theorem impl_natGcd.eq : @impl_natGcd = @impl_natGcd.b := funext fun α => congrFun (Classical.choose_spec impl_natGcd.ex) α

/-- slices.Clip[[]int,int] -/
noncomputable def slices_Clip_int_int.b {α : Type} (N : Nat) (a987 : List Int) (k0 : List Int → Option α) : Option α :=
  let x988 := ((a987.length : Nat) : Int)
  let x989 := ((a987.length : Nat) : Int)
  bif (decide ((0 : Int) ≤ x989)) then
    bif (decide (x989 ≤ ((a987.length : Nat) : Int))) then
      bif (decide ((0 : Int) ≤ x988)) then
        bif (decide (x988 ≤ ((x989.toNat : Nat) : Int))) then
          let x990 := a987.take x988.toNat
          k0 x990
        else
          none
      else
        none
    else
      none
  else
    none
theorem slices_Clip_int_int.ex : ∃ f : ((α : Type) → Nat → List Int → (List Int → Option α) → Option α), f = fun α => @slices_Clip_int_int.b α := ⟨_, rfl⟩
noncomputable def slices_Clip_int_int {α : Type} : Nat → List Int → (List Int → Option α) → Option α := Classical.choose slices_Clip_int_int.ex α
theorem slices_Clip_int_int.eq : @slices_Clip_int_int = @slices_Clip_int_int.b := funext fun α => congrFun (Classical.choose_spec slices_Clip_int_int.ex) α

/-- loop.example/pinfold/impl.clone[int] -/
noncomputable def impl_clone_int.b {α : Type} (N : Nat) (a985 : List Int) (k0 : List Int → Option α) : Option α :=
  slices_Clone_int_int N a985
    (fun x986 =>
      slices_Clip_int_int N x986
        (fun x991 =>
          k0 x991))
theorem impl_clone_int.ex : ∃ f : ((α : Type) → Nat → List Int → (List Int → Option α) → Option α), f = fun α => @impl_clone_int.b α := ⟨_, rfl⟩
noncomputable def impl_clone_int {α : Type} : Nat → List Int → (List Int → Option α) → Option α := Classical.choose impl_clone_int.ex α
theorem impl_clone_int.eq : @impl_clone_int = @impl_clone_int.b := funext fun α => congrFun (Classical.choose_spec impl_clone_int.ex) α

/-- loop.example/pinfold/impl.NatGcd -/
noncomputable def impl_NatGcd.b {α : Type} (N : Nat) (a392 : List Int) (a393 : List Int) (k0 : Bool → List Int → Option α) : Option α :=
  let x394 := [a392, a393]
  impl_nats N x394
    (fun x448 =>
      let x449 := !x448
      bif x449 then
        k0 false []
      else
        impl_natGcd N a392 a393
          (fun x984 =>
            impl_clone_int N x984
              (fun x992 =>
                k0 true x992)))
theorem impl_NatGcd.ex : ∃ f : ((α : Type) → Nat → List Int → List Int → (Bool → List Int → Option α) → Option α), f = fun α => @impl_NatGcd.b α := ⟨_, rfl⟩
noncomputable def impl_NatGcd {α : Type} : Nat → List Int → List Int → (Bool → List Int → Option α) → Option α := Classical.choose impl_NatGcd.ex α
theorem impl_NatGcd.eq : @impl_NatGcd = @impl_NatGcd.b := funext fun α => congrFun (Classical.choose_spec impl_NatGcd.ex) α

noncomputable def laws_eqIntS_L0r {α : Type} (N : Nat) (next : List Int → List Int → Int → Option α) (k0 : Bool → Option α) (k1 : Option α) (v1000 : List Int) (v1001 : List Int) (v1002 : Int) : Option α :=
  let x1003 := ((v1000.length : Nat) : Int)
  let x1004 := decide (v1002 < x1003)
  bif x1004 then
    bif (decide (v1002 < (0 : Int))) then
      none
    else
      match v1000[v1002.toNat]? with
      | some x1005 =>
        bif (decide (v1002 < (0 : Int))) then
          none
        else
          match v1001[v1002.toNat]? with
          | some x1006 =>
            let x1007 := !(decide (x1005 = x1006))
            bif x1007 then
              k0 false
            else
              let x1008 := (IntKind.i64.wrap (v1002 + (1 : Int)))
              next v1000 v1001 x1008
          | none => none
      | none => none
  else
    k1
noncomputable def laws_eqIntS_L0.b {α : Type} (N n : Nat) (v1000 : List Int) (v1001 : List Int) (v1002 : Int) (k0 : Bool → Option α) (k1 : Option α) : Option α :=
  Nat.rec (motive := fun _ => List Int → List Int → Int → Option α) (fun _ _ _ => none) (fun _ next => laws_eqIntS_L0r N next k0 k1) n v1000 v1001 v1002
theorem laws_eqIntS_L0.ex : ∃ f : ((α : Type) → Nat → Nat → List Int → List Int → Int → (Bool → Option α) → (Option α) → Option α), f = fun α => @laws_eqIntS_L0.b α := ⟨_, rfl⟩
noncomputable def laws_eqIntS_L0 {α : Type} : Nat → Nat → List Int → List Int → Int → (Bool → Option α) → (Option α) → Option α := Classical.choose laws_eqIntS_L0.ex α
theorem laws_eqIntS_L0.eq : @laws_eqIntS_L0 = @laws_eqIntS_L0.b := funext fun α => congrFun (Classical.choose_spec laws_eqIntS_L0.ex) α
theorem laws_eqIntS_L0.zero {α : Type} (N : Nat) (v1000 : List Int) (v1001 : List Int) (v1002 : Int) (k0 : Bool → Option α) (k1 : Option α) : laws_eqIntS_L0 N 0 v1000 v1001 v1002 k0 k1 = none := by rw [laws_eqIntS_L0.eq]; rfl
theorem laws_eqIntS_L0.succ {α : Type} (N n : Nat) (v1000 : List Int) (v1001 : List Int) (v1002 : Int) (k0 : Bool → Option α) (k1 : Option α) : laws_eqIntS_L0 N (n + 1) v1000 v1001 v1002 k0 k1 = laws_eqIntS_L0r N (fun y0 y1 y2 => laws_eqIntS_L0 N n y0 y1 y2 k0 k1) k0 k1 v1000 v1001 v1002 := by rw [laws_eqIntS_L0.eq]; rfl
/-- loop.example/pinfold/laws.eqIntS -/
noncomputable def laws_eqIntS.b {α : Type} (N : Nat) (a995 : List Int) (a996 : List Int) (k0 : Bool → Option α) : Option α :=
  let x997 := ((a995.length : Nat) : Int)
  let x998 := ((a996.length : Nat) : Int)
  let x999 := !(decide (x997 = x998))
  bif x999 then
    k0 false
  else
    laws_eqIntS_L0 N N a995 a996 (0 : Int)
      (fun x1009 =>
        k0 x1009)
      (
        k0 true)
theorem laws_eqIntS.ex : ∃ f : ((α : Type) → Nat → List Int → List Int → (Bool → Option α) → Option α), f = fun α => @laws_eqIntS.b α := ⟨_, rfl⟩
noncomputable def laws_eqIntS {α : Type} : Nat → List Int → List Int → (Bool → Option α) → Option α := Classical.choose laws_eqIntS.ex α
theorem laws_eqIntS.eq : @laws_eqIntS = @laws_eqIntS.b := funext fun α => congrFun (Classical.choose_spec laws_eqIntS.ex) α

noncomputable def laws_markIntS_L0r {α : Type} (N : Nat) (next : Int → Int → List Int → Option α) (k0 : Int → List Int → Option α) (v1021 : Int) (v1022 : Int) (v1023 : List Int) : Option α :=
  let x1024 := ((v1023.length : Nat) : Int)
  let x1025 := decide (v1022 < x1024)
  bif x1025 then
    bif (decide (v1022 < (0 : Int))) then
      none
    else
      bif decide (v1022.toNat < v1023.length) then
        match v1023[v1022.toNat]? with
        | some x1026 =>
          let x1027 := v1023.set v1022.toNat v1021
          let x1028 := (IntKind.i64.wrap (v1021 + (1 : Int)))
          let x1029 := (IntKind.i64.wrap (v1022 + (1 : Int)))
          next x1028 x1029 x1027
        | none => none
      else
        none
  else
    k0 v1021 v1023
noncomputable def laws_markIntS_L0.b {α : Type} (N n : Nat) (v1021 : Int) (v1022 : Int) (v1023 : List Int) (k0 : Int → List Int → Option α) : Option α :=
  Nat.rec (motive := fun _ => Int → Int → List Int → Option α) (fun _ _ _ => none) (fun _ next => laws_markIntS_L0r N next k0) n v1021 v1022 v1023
theorem laws_markIntS_L0.ex : ∃ f : ((α : Type) → Nat → Nat → Int → Int → List Int → (Int → List Int → Option α) → Option α), f = fun α => @laws_markIntS_L0.b α := ⟨_, rfl⟩
noncomputable def laws_markIntS_L0 {α : Type} : Nat → Nat → Int → Int → List Int → (Int → List Int → Option α) → Option α := Classical.choose laws_markIntS_L0.ex α
theorem laws_markIntS_L0.eq : @laws_markIntS_L0 = @laws_markIntS_L0.b := funext fun α => congrFun (Classical.choose_spec laws_markIntS_L0.ex) α
theorem laws_markIntS_L0.zero {α : Type} (N : Nat) (v1021 : Int) (v1022 : Int) (v1023 : List Int) (k0 : Int → List Int → Option α) : laws_markIntS_L0 N 0 v1021 v1022 v1023 k0 = none := by rw [laws_markIntS_L0.eq]; rfl
theorem laws_markIntS_L0.succ {α : Type} (N n : Nat) (v1021 : Int) (v1022 : Int) (v1023 : List Int) (k0 : Int → List Int → Option α) : laws_markIntS_L0 N (n + 1) v1021 v1022 v1023 k0 = laws_markIntS_L0r N (fun y0 y1 y2 => laws_markIntS_L0 N n y0 y1 y2 k0) k0 v1021 v1022 v1023 := by rw [laws_markIntS_L0.eq]; rfl
/-- loop.example/pinfold/laws.markIntS -/
noncomputable def laws_markIntS.b {α : Type} (N : Nat) (a1019 : Int) (a1020 : List Int) (k0 : Int → List Int → Option α) : Option α :=
  laws_markIntS_L0 N N a1019 (0 : Int) a1020
    (fun x1030 x1031 =>
      k0 x1030 x1031)
theorem laws_markIntS.ex : ∃ f : ((α : Type) → Nat → Int → List Int → (Int → List Int → Option α) → Option α), f = fun α => @laws_markIntS.b α := ⟨_, rfl⟩
noncomputable def laws_markIntS {α : Type} : Nat → Int → List Int → (Int → List Int → Option α) → Option α := Classical.choose laws_markIntS.ex α
theorem laws_markIntS.eq : @laws_markIntS = @laws_markIntS.b := funext fun α => congrFun (Classical.choose_spec laws_markIntS.ex) α

noncomputable def laws_heldIntS_L0r {α : Type} (N : Nat) (next : List Int → Int → Int → Option α) (k0 : Int → Option α) (k1 : Int → Option α) (v1044 : List Int) (v1045 : Int) (v1046 : Int) : Option α :=
  let x1047 := ((v1044.length : Nat) : Int)
  let x1048 := decide (v1046 < x1047)
  bif x1048 then
    bif (decide (v1046 < (0 : Int))) then
      none
    else
      match v1044[v1046.toNat]? with
      | some x1049 =>
        let x1050 := !(decide (x1049 = v1045))
        bif x1050 then
          k0 (-1 : Int)
        else
          let x1051 := (IntKind.i64.wrap (v1045 + (1 : Int)))
          let x1052 := (IntKind.i64.wrap (v1046 + (1 : Int)))
          next v1044 x1051 x1052
      | none => none
  else
    k1 v1045
noncomputable def laws_heldIntS_L0.b {α : Type} (N n : Nat) (v1044 : List Int) (v1045 : Int) (v1046 : Int) (k0 : Int → Option α) (k1 : Int → Option α) : Option α :=
  Nat.rec (motive := fun _ => List Int → Int → Int → Option α) (fun _ _ _ => none) (fun _ next => laws_heldIntS_L0r N next k0 k1) n v1044 v1045 v1046
theorem laws_heldIntS_L0.ex : ∃ f : ((α : Type) → Nat → Nat → List Int → Int → Int → (Int → Option α) → (Int → Option α) → Option α), f = fun α => @laws_heldIntS_L0.b α := ⟨_, rfl⟩
noncomputable def laws_heldIntS_L0 {α : Type} : Nat → Nat → List Int → Int → Int → (Int → Option α) → (Int → Option α) → Option α := Classical.choose laws_heldIntS_L0.ex α
theorem laws_heldIntS_L0.eq : @laws_heldIntS_L0 = @laws_heldIntS_L0.b := funext fun α => congrFun (Classical.choose_spec laws_heldIntS_L0.ex) α
theorem laws_heldIntS_L0.zero {α : Type} (N : Nat) (v1044 : List Int) (v1045 : Int) (v1046 : Int) (k0 : Int → Option α) (k1 : Int → Option α) : laws_heldIntS_L0 N 0 v1044 v1045 v1046 k0 k1 = none := by rw [laws_heldIntS_L0.eq]; rfl
theorem laws_heldIntS_L0.succ {α : Type} (N n : Nat) (v1044 : List Int) (v1045 : Int) (v1046 : Int) (k0 : Int → Option α) (k1 : Int → Option α) : laws_heldIntS_L0 N (n + 1) v1044 v1045 v1046 k0 k1 = laws_heldIntS_L0r N (fun y0 y1 y2 => laws_heldIntS_L0 N n y0 y1 y2 k0 k1) k0 k1 v1044 v1045 v1046 := by rw [laws_heldIntS_L0.eq]; rfl
/-- loop.example/pinfold/laws.heldIntS -/
noncomputable def laws_heldIntS.b {α : Type} (N : Nat) (a1042 : List Int) (a1043 : Int) (k0 : Int → Option α) : Option α :=
  laws_heldIntS_L0 N N a1042 a1043 (0 : Int)
    (fun x1053 =>
      k0 x1053)
    (fun x1054 =>
      k0 x1054)
theorem laws_heldIntS.ex : ∃ f : ((α : Type) → Nat → List Int → Int → (Int → Option α) → Option α), f = fun α => @laws_heldIntS.b α := ⟨_, rfl⟩
noncomputable def laws_heldIntS {α : Type} : Nat → List Int → Int → (Int → Option α) → Option α := Classical.choose laws_heldIntS.ex α
theorem laws_heldIntS.eq : @laws_heldIntS = @laws_heldIntS.b := funext fun α => congrFun (Classical.choose_spec laws_heldIntS.ex) α

/-- loop.example/pinfold/laws.FnExactNatGcd -/
noncomputable def laws_FnExactNatGcd.b {α : Type} (N : Nat) (a1 : List Int) (a2 : List Int) (k0 : Bool → Option α) : Option α :=
  let x3 := ((a1.length : Nat) : Int)
  let x4 := (decide ((1048576 : Int) < x3))
  bif x4 then
    k0 true
  else
    let x5 := ((a2.length : Nat) : Int)
    let x6 := (decide ((1048576 : Int) < x5))
    bif x6 then
      k0 true
    else
      laws_toIntS N a1
        (fun x20 =>
          laws_toIntS N a2
            (fun x21 =>
              spec_NatGcd N x20 x21
                (fun x388 x389 =>
                  laws_toIntS N a1
                    (fun x390 =>
                      laws_toIntS N a2
                        (fun x391 =>
                          impl_NatGcd N x390 x391
                            (fun x993 x994 =>
                              laws_eqIntS N x994 x389
                                (fun x1010 =>
                                  let x1011 := !x1010
                                  bif x1011 then
                                    k0 false
                                  else
                                    let x1012 := !(x993 == x388)
                                    bif x1012 then
                                      k0 false
                                    else
                                      laws_toIntS N a1
                                        (fun x1013 =>
                                          laws_eqIntS N x390 x1013
                                            (fun x1014 =>
                                              let x1015 := !x1014
                                              bif x1015 then
                                                k0 false
                                              else
                                                laws_toIntS N a2
                                                  (fun x1016 =>
                                                    laws_eqIntS N x391 x1016
                                                      (fun x1017 =>
                                                        let x1018 := !x1017
                                                        bif x1018 then
                                                          k0 false
                                                        else
                                                          laws_markIntS N (1 : Int) x390
                                                            (fun x1032 _ =>
                                                              laws_markIntS N x1032 x391
                                                                (fun x1034 _ =>
                                                                  let x1036 := (decide (x1034 < (0 : Int)))
                                                                  bif x1036 then
                                                                    k0 false
                                                                  else
                                                                    laws_eqIntS N x994 x389
                                                                      (fun x1037 =>
                                                                        let x1038 := !x1037
                                                                        bif x1038 then
                                                                          k0 false
                                                                        else
                                                                          let x1039 := !(x993 == x388)
                                                                          bif x1039 then
                                                                            k0 false
                                                                          else
                                                                            laws_markIntS N (1 : Int) x994
                                                                              (fun x1040 x1041 =>
                                                                                laws_heldIntS N x1041 (1 : Int)
                                                                                  (fun x1055 =>
                                                                                    let x1056 := (decide (x1055 < (0 : Int)))
                                                                                    bif x1056 then
                                                                                      k0 false
                                                                                    else
                                                                                      let x1057 := !(decide (x1055 = x1040))
                                                                                      bif x1057 then
                                                                                        k0 false
                                                                                      else
                                                                                        laws_toIntS N a1
                                                                                          (fun x1058 =>
                                                                                            laws_toIntS N a2
                                                                                              (fun x1059 =>
                                                                                                impl_NatGcd N x1058 x1059
                                                                                                  (fun x1060 x1061 =>
                                                                                                    laws_eqIntS N x1061 x389
                                                                                                      (fun x1062 =>
                                                                                                        let x1063 := !x1062
                                                                                                        bif x1063 then
                                                                                                          k0 false
                                                                                                        else
                                                                                                          let x1064 := !(x1060 == x388)
                                                                                                          bif x1064 then
                                                                                                            k0 false
                                                                                                          else
                                                                                                            laws_heldIntS N x1041 (1 : Int)
                                                                                                              (fun x1065 =>
                                                                                                                let x1066 := (decide (x1065 < (0 : Int)))
                                                                                                                bif x1066 then
                                                                                                                  k0 false
                                                                                                                else
                                                                                                                  let x1067 := !(decide (x1065 = x1040))
                                                                                                                  bif x1067 then
                                                                                                                    k0 false
                                                                                                                  else
                                                                                                                    k0 true)))))))))))))))))))))
theorem laws_FnExactNatGcd.ex : ∃ f : ((α : Type) → Nat → List Int → List Int → (Bool → Option α) → Option α), f = fun α => @laws_FnExactNatGcd.b α := ⟨_, rfl⟩
noncomputable def laws_FnExactNatGcd {α : Type} : Nat → List Int → List Int → (Bool → Option α) → Option α := Classical.choose laws_FnExactNatGcd.ex α
theorem laws_FnExactNatGcd.eq : @laws_FnExactNatGcd = @laws_FnExactNatGcd.b := funext fun α => congrFun (Classical.choose_spec laws_FnExactNatGcd.ex) α

end
end Go.Proofs.YtgabephijgjogaaAm
