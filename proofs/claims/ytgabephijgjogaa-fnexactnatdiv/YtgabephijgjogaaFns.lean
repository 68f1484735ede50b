/-
  The functions that the program computes, as the abstract machine tells them. Printed by amp.py.
-/
import Derived.Test.YtgabephijgjogaaAmb
namespace Go.Proofs.YtgabephijgjogaaAm
open Go
noncomputable section
set_option linter.unusedVariables false
set_option linter.unusedSimpArgs false

noncomputable def laws_toIntS_L0r {α : Type} (N : Nat) (next : List Int → Int → List Int → Option α) (k0 : List Int → Option α) (v10 : List Int) (v11 : Int) (v12 : List Int) : Option α :=
  let x13 := ((v10.length : Nat) : Int)
  let x14 := decide (v11 < x13)
  bif x14 then
    bif (decide (v11 < (0 : Int))) then
      none
    else
      match v10[v11.toNat]? with
      | some x15 =>
        bif (decide (v11 < (0 : Int))) then
          none
        else
          bif decide (v11.toNat < v12.length) then
            match v12[v11.toNat]? with
            | some x16 =>
              let x17 := v12.set v11.toNat x15
              let x18 := (IntKind.i64.wrap (v11 + (1 : Int)))
              next v10 x18 x17
            | none => none
          else
            none
      | none => none
  else
    k0 v12
noncomputable def laws_toIntS_L0.b {α : Type} (N n : Nat) (v10 : List Int) (v11 : Int) (v12 : List Int) (k0 : List Int → Option α) : Option α :=
  Nat.rec (motive := fun _ => List Int → Int → List Int → Option α) (fun _ _ _ => none) (fun _ next => laws_toIntS_L0r N next k0) n v10 v11 v12
theorem laws_toIntS_L0.ex : ∃ f : ((α : Type) → Nat → Nat → List Int → Int → List Int → (List Int → Option α) → Option α), f = fun α => @laws_toIntS_L0.b α := ⟨_, rfl⟩
noncomputable def laws_toIntS_L0 {α : Type} : Nat → Nat → List Int → Int → List Int → (List Int → Option α) → Option α := Classical.choose laws_toIntS_L0.ex α
theorem laws_toIntS_L0.eq : @laws_toIntS_L0 = @laws_toIntS_L0.b := funext fun α => congrFun (Classical.choose_spec laws_toIntS_L0.ex) α
theorem laws_toIntS_L0.zero {α : Type} (N : Nat) (v10 : List Int) (v11 : Int) (v12 : List Int) (k0 : List Int → Option α) : laws_toIntS_L0 N 0 v10 v11 v12 k0 = none := by rw [laws_toIntS_L0.eq]; rfl
theorem laws_toIntS_L0.succ {α : Type} (N n : Nat) (v10 : List Int) (v11 : Int) (v12 : List Int) (k0 : List Int → Option α) : laws_toIntS_L0 N (n + 1) v10 v11 v12 k0 = laws_toIntS_L0r N (fun y0 y1 y2 => laws_toIntS_L0 N n y0 y1 y2 k0) k0 v10 v11 v12 := by rw [laws_toIntS_L0.eq]; rfl
/-- loop.example/pinfold/laws.toIntS -/
noncomputable def laws_toIntS.b {α : Type} (N : Nat) (a7 : List Int) (k0 : List Int → Option α) : Option α :=
  let x8 := ((a7.length : Nat) : Int)
  bif (decide ((0 : Int) ≤ x8)) then
    bif decide (x8 ≤ x8) then
      bif (decide (x8 ≤ ((8796093022208 : Nat) : Int))) then
        let x9 := (List.replicate x8.toNat (0 : Int))
        laws_toIntS_L0 N N a7 (0 : Int) x9
          (fun x19 =>
            k0 x19)
      else
        none
    else
      none
  else
    none
theorem laws_toIntS.ex : ∃ f : ((α : Type) → Nat → List Int → (List Int → Option α) → Option α), f = fun α => @laws_toIntS.b α := ⟨_, rfl⟩
noncomputable def laws_toIntS {α : Type} : Nat → List Int → (List Int → Option α) → Option α := Classical.choose laws_toIntS.ex α
theorem laws_toIntS.eq : @laws_toIntS = @laws_toIntS.b := funext fun α => congrFun (Classical.choose_spec laws_toIntS.ex) α

noncomputable def spec_NatOk_L0r {α : Type} (N : Nat) (next : List Int → Int → Option α) (k0 : Bool → Option α) (k1 : List Int → Option α) (v27 : List Int) (v28 : Int) : Option α :=
  let x29 := ((v27.length : Nat) : Int)
  let x30 := decide (v28 < x29)
  bif x30 then
    bif (decide (v28 < (0 : Int))) then
      none
    else
      match v27[v28.toNat]? with
      | some x31 =>
        let x32 := (decide (x31 < (0 : Int)))
        bif x32 then
          k0 false
        else
          bif (decide (v28 < (0 : Int))) then
            none
          else
            match v27[v28.toNat]? with
            | some x33 =>
              let x34 := (decide ((65536 : Int) ≤ x33))
              bif x34 then
                k0 false
              else
                let x35 := (IntKind.i64.wrap (v28 + (1 : Int)))
                next v27 x35
            | none => none
      | none => none
  else
    k1 v27
noncomputable def spec_NatOk_L0.b {α : Type} (N n : Nat) (v27 : List Int) (v28 : Int) (k0 : Bool → Option α) (k1 : List Int → Option α) : Option α :=
  Nat.rec (motive := fun _ => List Int → Int → Option α) (fun _ _ => none) (fun _ next => spec_NatOk_L0r N next k0 k1) n v27 v28
theorem spec_NatOk_L0.ex : ∃ f : ((α : Type) → Nat → Nat → List Int → Int → (Bool → Option α) → (List Int → Option α) → Option α), f = fun α => @spec_NatOk_L0.b α := ⟨_, rfl⟩
noncomputable def spec_NatOk_L0 {α : Type} : Nat → Nat → List Int → Int → (Bool → Option α) → (List Int → Option α) → Option α := Classical.choose spec_NatOk_L0.ex α
theorem spec_NatOk_L0.eq : @spec_NatOk_L0 = @spec_NatOk_L0.b := funext fun α => congrFun (Classical.choose_spec spec_NatOk_L0.ex) α
theorem spec_NatOk_L0.zero {α : Type} (N : Nat) (v27 : List Int) (v28 : Int) (k0 : Bool → Option α) (k1 : List Int → Option α) : spec_NatOk_L0 N 0 v27 v28 k0 k1 = none := by rw [spec_NatOk_L0.eq]; rfl
theorem spec_NatOk_L0.succ {α : Type} (N n : Nat) (v27 : List Int) (v28 : Int) (k0 : Bool → Option α) (k1 : List Int → Option α) : spec_NatOk_L0 N (n + 1) v27 v28 k0 k1 = spec_NatOk_L0r N (fun y0 y1 => spec_NatOk_L0 N n y0 y1 k0 k1) k0 k1 v27 v28 := by rw [spec_NatOk_L0.eq]; rfl
/-- loop.example/pinfold/spec.NatOk -/
noncomputable def spec_NatOk.b {α : Type} (N : Nat) (a24 : List Int) (k0 : Bool → Option α) : Option α :=
  let x25 := ((a24.length : Nat) : Int)
  let x26 := (decide ((256 : Int) < x25))
  bif x26 then
    k0 false
  else
    spec_NatOk_L0 N N a24 (0 : Int)
      (fun x36 =>
        k0 x36)
      (fun x37 =>
        let x38 := ((x37.length : Nat) : Int)
        let x39 := (decide (x38 = (0 : Int)))
        bif x39 then
          k0 true
        else
          let x40 := ((x37.length : Nat) : Int)
          let x41 := (IntKind.i64.wrap (x40 - (1 : Int)))
          bif (decide (x41 < (0 : Int))) then
            none
          else
            match x37[x41.toNat]? with
            | some x42 =>
              let x43 := (!(decide (x42 = (0 : Int))))
              k0 x43
            | none => none)
theorem spec_NatOk.ex : ∃ f : ((α : Type) → Nat → List Int → (Bool → Option α) → Option α), f = fun α => @spec_NatOk.b α := ⟨_, rfl⟩
noncomputable def spec_NatOk {α : Type} : Nat → List Int → (Bool → Option α) → Option α := Classical.choose spec_NatOk.ex α
theorem spec_NatOk.eq : @spec_NatOk = @spec_NatOk.b := funext fun α => congrFun (Classical.choose_spec spec_NatOk.ex) α

noncomputable def spec_l5Cmp_L0r {α : Type} (N : Nat) (next : List Int → List Int → Int → Option α) (k0 : Int → Option α) (k1 : Option α) (v62 : List Int) (v63 : List Int) (v64 : Int) : Option α :=
  let x65 := (decide ((0 : Int) ≤ v64))
  bif x65 then
    bif (decide (v64 < (0 : Int))) then
      none
    else
      match v62[v64.toNat]? with
      | some x66 =>
        bif (decide (v64 < (0 : Int))) then
          none
        else
          match v63[v64.toNat]? with
          | some x67 =>
            let x68 := decide (x66 < x67)
            bif x68 then
              k0 (-1 : Int)
            else
              bif (decide (v64 < (0 : Int))) then
                none
              else
                match v62[v64.toNat]? with
                | some x69 =>
                  bif (decide (v64 < (0 : Int))) then
                    none
                  else
                    match v63[v64.toNat]? with
                    | some x70 =>
                      let x71 := decide (x70 < x69)
                      bif x71 then
                        k0 (1 : Int)
                      else
                        let x72 := (IntKind.i64.wrap (v64 - (1 : Int)))
                        next v62 v63 x72
                    | none => none
                | none => none
          | none => none
      | none => none
  else
    k1
noncomputable def spec_l5Cmp_L0.b {α : Type} (N n : Nat) (v62 : List Int) (v63 : List Int) (v64 : Int) (k0 : Int → Option α) (k1 : Option α) : Option α :=
  Nat.rec (motive := fun _ => List Int → List Int → Int → Option α) (fun _ _ _ => none) (fun _ next => spec_l5Cmp_L0r N next k0 k1) n v62 v63 v64
theorem spec_l5Cmp_L0.ex : ∃ f : ((α : Type) → Nat → Nat → List Int → List Int → Int → (Int → Option α) → (Option α) → Option α), f = fun α => @spec_l5Cmp_L0.b α := ⟨_, rfl⟩
noncomputable def spec_l5Cmp_L0 {α : Type} : Nat → Nat → List Int → List Int → Int → (Int → Option α) → (Option α) → Option α := Classical.choose spec_l5Cmp_L0.ex α
theorem spec_l5Cmp_L0.eq : @spec_l5Cmp_L0 = @spec_l5Cmp_L0.b := funext fun α => congrFun (Classical.choose_spec spec_l5Cmp_L0.ex) α
theorem spec_l5Cmp_L0.zero {α : Type} (N : Nat) (v62 : List Int) (v63 : List Int) (v64 : Int) (k0 : Int → Option α) (k1 : Option α) : spec_l5Cmp_L0 N 0 v62 v63 v64 k0 k1 = none := by rw [spec_l5Cmp_L0.eq]; rfl
theorem spec_l5Cmp_L0.succ {α : Type} (N n : Nat) (v62 : List Int) (v63 : List Int) (v64 : Int) (k0 : Int → Option α) (k1 : Option α) : spec_l5Cmp_L0 N (n + 1) v62 v63 v64 k0 k1 = spec_l5Cmp_L0r N (fun y0 y1 y2 => spec_l5Cmp_L0 N n y0 y1 y2 k0 k1) k0 k1 v62 v63 v64 := by rw [spec_l5Cmp_L0.eq]; rfl
/-- loop.example/pinfold/spec.l5Cmp -/
noncomputable def spec_l5Cmp.b {α : Type} (N : Nat) (a52 : List Int) (a53 : List Int) (k0 : Int → Option α) : Option α :=
  let x54 := ((a52.length : Nat) : Int)
  let x55 := ((a53.length : Nat) : Int)
  let x56 := decide (x54 < x55)
  bif x56 then
    k0 (-1 : Int)
  else
    let x57 := ((a52.length : Nat) : Int)
    let x58 := ((a53.length : Nat) : Int)
    let x59 := decide (x58 < x57)
    bif x59 then
      k0 (1 : Int)
    else
      let x60 := ((a52.length : Nat) : Int)
      let x61 := (IntKind.i64.wrap (x60 - (1 : Int)))
      spec_l5Cmp_L0 N N a52 a53 x61
        (fun x73 =>
          k0 x73)
        (
          k0 (0 : Int))
theorem spec_l5Cmp.ex : ∃ f : ((α : Type) → Nat → List Int → List Int → (Int → Option α) → Option α), f = fun α => @spec_l5Cmp.b α := ⟨_, rfl⟩
noncomputable def spec_l5Cmp {α : Type} : Nat → List Int → List Int → (Int → Option α) → Option α := Classical.choose spec_l5Cmp.ex α
theorem spec_l5Cmp.eq : @spec_l5Cmp = @spec_l5Cmp.b := funext fun α => congrFun (Classical.choose_spec spec_l5Cmp.ex) α

noncomputable def spec_l5Trim_L0r {α : Type} (N : Nat) (next : List Int → Int → Option α) (k0 : List Int → Int → Option α) (v78 : List Int) (v79 : Int) : Option α :=
  let x80 := (decide ((0 : Int) < v79))
  bif x80 then
    let x81 := (IntKind.i64.wrap (v79 - (1 : Int)))
    bif (decide (x81 < (0 : Int))) then
      none
    else
      match v78[x81.toNat]? with
      | some x82 =>
        let x83 := (decide (x82 = (0 : Int)))
        bif x83 then
          let x84 := (IntKind.i64.wrap (v79 - (1 : Int)))
          next v78 x84
        else
          k0 v78 v79
      | none => none
  else
    k0 v78 v79
noncomputable def spec_l5Trim_L0.b {α : Type} (N n : Nat) (v78 : List Int) (v79 : Int) (k0 : List Int → Int → Option α) : Option α :=
  Nat.rec (motive := fun _ => List Int → Int → Option α) (fun _ _ => none) (fun _ next => spec_l5Trim_L0r N next k0) n v78 v79
theorem spec_l5Trim_L0.ex : ∃ f : ((α : Type) → Nat → Nat → List Int → Int → (List Int → Int → Option α) → Option α), f = fun α => @spec_l5Trim_L0.b α := ⟨_, rfl⟩
noncomputable def spec_l5Trim_L0 {α : Type} : Nat → Nat → List Int → Int → (List Int → Int → Option α) → Option α := Classical.choose spec_l5Trim_L0.ex α
theorem spec_l5Trim_L0.eq : @spec_l5Trim_L0 = @spec_l5Trim_L0.b := funext fun α => congrFun (Classical.choose_spec spec_l5Trim_L0.ex) α
theorem spec_l5Trim_L0.zero {α : Type} (N : Nat) (v78 : List Int) (v79 : Int) (k0 : List Int → Int → Option α) : spec_l5Trim_L0 N 0 v78 v79 k0 = none := by rw [spec_l5Trim_L0.eq]; rfl
theorem spec_l5Trim_L0.succ {α : Type} (N n : Nat) (v78 : List Int) (v79 : Int) (k0 : List Int → Int → Option α) : spec_l5Trim_L0 N (n + 1) v78 v79 k0 = spec_l5Trim_L0r N (fun y0 y1 => spec_l5Trim_L0 N n y0 y1 k0) k0 v78 v79 := by rw [spec_l5Trim_L0.eq]; rfl
noncomputable def spec_l5Trim_L2r {α : Type} (N : Nat) (next : List Int → Int → Int → List Int → Option α) (k0 : List Int → Option α) (v87 : List Int) (v88 : Int) (v89 : Int) (v90 : List Int) : Option α :=
  let x91 := decide (v89 < v88)
  bif x91 then
    bif (decide (v89 < (0 : Int))) then
      none
    else
      match v87[v89.toNat]? with
      | some x92 =>
        let x93 := [x92]
        bif decide (v90.length + x93.length ≤ 8796093022208) then
          let x94 := v90 ++ x93
          let x95 := (IntKind.i64.wrap (v89 + (1 : Int)))
          next v87 v88 x95 x94
        else
          none
      | none => none
  else
    k0 v90
noncomputable def spec_l5Trim_L2.b {α : Type} (N n : Nat) (v87 : List Int) (v88 : Int) (v89 : Int) (v90 : List Int) (k0 : List Int → Option α) : Option α :=
  Nat.rec (motive := fun _ => List Int → Int → Int → List Int → Option α) (fun _ _ _ _ => none) (fun _ next => spec_l5Trim_L2r N next k0) n v87 v88 v89 v90
theorem spec_l5Trim_L2.ex : ∃ f : ((α : Type) → Nat → Nat → List Int → Int → Int → List Int → (List Int → Option α) → Option α), f = fun α => @spec_l5Trim_L2.b α := ⟨_, rfl⟩
noncomputable def spec_l5Trim_L2 {α : Type} : Nat → Nat → List Int → Int → Int → List Int → (List Int → Option α) → Option α := Classical.choose spec_l5Trim_L2.ex α
theorem spec_l5Trim_L2.eq : @spec_l5Trim_L2 = @spec_l5Trim_L2.b := funext fun α => congrFun (Classical.choose_spec spec_l5Trim_L2.ex) α
theorem spec_l5Trim_L2.zero {α : Type} (N : Nat) (v87 : List Int) (v88 : Int) (v89 : Int) (v90 : List Int) (k0 : List Int → Option α) : spec_l5Trim_L2 N 0 v87 v88 v89 v90 k0 = none := by rw [spec_l5Trim_L2.eq]; rfl
theorem spec_l5Trim_L2.succ {α : Type} (N n : Nat) (v87 : List Int) (v88 : Int) (v89 : Int) (v90 : List Int) (k0 : List Int → Option α) : spec_l5Trim_L2 N (n + 1) v87 v88 v89 v90 k0 = spec_l5Trim_L2r N (fun y0 y1 y2 y3 => spec_l5Trim_L2 N n y0 y1 y2 y3 k0) k0 v87 v88 v89 v90 := by rw [spec_l5Trim_L2.eq]; rfl
/-- loop.example/pinfold/spec.l5Trim -/
noncomputable def spec_l5Trim.b {α : Type} (N : Nat) (a76 : List Int) (k0 : List Int → Option α) : Option α :=
  let x77 := ((a76.length : Nat) : Int)
  spec_l5Trim_L0 N N a76 x77
    (fun x85 x86 =>
      spec_l5Trim_L2 N N x85 x86 (0 : Int) []
        (fun x96 =>
          k0 x96))
theorem spec_l5Trim.ex : ∃ f : ((α : Type) → Nat → List Int → (List Int → Option α) → Option α), f = fun α => @spec_l5Trim.b α := ⟨_, rfl⟩
noncomputable def spec_l5Trim {α : Type} : Nat → List Int → (List Int → Option α) → Option α := Classical.choose spec_l5Trim.ex α
theorem spec_l5Trim.eq : @spec_l5Trim = @spec_l5Trim.b := funext fun α => congrFun (Classical.choose_spec spec_l5Trim.ex) α

noncomputable def spec_l5DivSmall_L0r {α : Type} (N : Nat) (next : List Int → Int → Int → Int → List Int → Option α) (k0 : Int → List Int → Option α) (v107 : List Int) (v108 : Int) (v109 : Int) (v110 : Int) (v111 : List Int) : Option α :=
  let x112 := (decide ((0 : Int) ≤ v110))
  bif x112 then
    let x113 := (IntKind.i64.wrap (v109 * (65536 : Int)))
    bif (decide (v110 < (0 : Int))) then
      none
    else
      match v107[v110.toNat]? with
      | some x114 =>
        let x115 := IntKind.i64.wrap (x113 + x114)
        bif (decide (v108 = (0 : Int))) then
          none
        else
          let x116 := IntKind.i64.wrap (Int.tdiv x115 v108)
          bif (decide (v110 < (0 : Int))) then
            none
          else
            bif decide (v110.toNat < v111.length) then
              match v111[v110.toNat]? with
              | some x117 =>
                let x118 := v111.set v110.toNat x116
                bif (decide (v108 = (0 : Int))) then
                  none
                else
                  let x119 := Int.tmod x115 v108
                  let x120 := (IntKind.i64.wrap (v110 - (1 : Int)))
                  next v107 v108 x119 x120 x118
              | none => none
            else
              none
      | none => none
  else
    k0 v109 v111
noncomputable def spec_l5DivSmall_L0.b {α : Type} (N n : Nat) (v107 : List Int) (v108 : Int) (v109 : Int) (v110 : Int) (v111 : List Int) (k0 : Int → List Int → Option α) : Option α :=
  Nat.rec (motive := fun _ => List Int → Int → Int → Int → List Int → Option α) (fun _ _ _ _ _ => none) (fun _ next => spec_l5DivSmall_L0r N next k0) n v107 v108 v109 v110 v111
theorem spec_l5DivSmall_L0.ex : ∃ f : ((α : Type) → Nat → Nat → List Int → Int → Int → Int → List Int → (Int → List Int → Option α) → Option α), f = fun α => @spec_l5DivSmall_L0.b α := ⟨_, rfl⟩
noncomputable def spec_l5DivSmall_L0 {α : Type} : Nat → Nat → List Int → Int → Int → Int → List Int → (Int → List Int → Option α) → Option α := Classical.choose spec_l5DivSmall_L0.ex α
theorem spec_l5DivSmall_L0.eq : @spec_l5DivSmall_L0 = @spec_l5DivSmall_L0.b := funext fun α => congrFun (Classical.choose_spec spec_l5DivSmall_L0.ex) α
theorem spec_l5DivSmall_L0.zero {α : Type} (N : Nat) (v107 : List Int) (v108 : Int) (v109 : Int) (v110 : Int) (v111 : List Int) (k0 : Int → List Int → Option α) : spec_l5DivSmall_L0 N 0 v107 v108 v109 v110 v111 k0 = none := by rw [spec_l5DivSmall_L0.eq]; rfl
theorem spec_l5DivSmall_L0.succ {α : Type} (N n : Nat) (v107 : List Int) (v108 : Int) (v109 : Int) (v110 : Int) (v111 : List Int) (k0 : Int → List Int → Option α) : spec_l5DivSmall_L0 N (n + 1) v107 v108 v109 v110 v111 k0 = spec_l5DivSmall_L0r N (fun y0 y1 y2 y3 y4 => spec_l5DivSmall_L0 N n y0 y1 y2 y3 y4 k0) k0 v107 v108 v109 v110 v111 := by rw [spec_l5DivSmall_L0.eq]; rfl
/-- loop.example/pinfold/spec.l5DivSmall -/
noncomputable def spec_l5DivSmall.b {α : Type} (N : Nat) (a101 : List Int) (a102 : Int) (k0 : Int → List Int → Option α) : Option α :=
  let x103 := ((a101.length : Nat) : Int)
  bif (decide ((0 : Int) ≤ x103)) then
    bif decide (x103 ≤ x103) then
      bif (decide (x103 ≤ ((8796093022208 : Nat) : Int))) then
        let x104 := (List.replicate x103.toNat (0 : Int))
        let x105 := ((a101.length : Nat) : Int)
        let x106 := (IntKind.i64.wrap (x105 - (1 : Int)))
        spec_l5DivSmall_L0 N N a101 a102 (0 : Int) x106 x104
          (fun x121 x122 =>
            spec_l5Trim N x122
              (fun x123 =>
                k0 x121 x123))
      else
        none
    else
      none
  else
    none
theorem spec_l5DivSmall.ex : ∃ f : ((α : Type) → Nat → List Int → Int → (Int → List Int → Option α) → Option α), f = fun α => @spec_l5DivSmall.b α := ⟨_, rfl⟩
noncomputable def spec_l5DivSmall {α : Type} : Nat → List Int → Int → (Int → List Int → Option α) → Option α := Classical.choose spec_l5DivSmall.ex α
theorem spec_l5DivSmall.eq : @spec_l5DivSmall = @spec_l5DivSmall.b := funext fun α => congrFun (Classical.choose_spec spec_l5DivSmall.ex) α

noncomputable def spec_NatOf_L0r {α : Type} (N : Nat) (next : Int → List Int → Option α) (k0 : List Int → Option α) (v128 : Int) (v129 : List Int) : Option α :=
  let x130 := (decide ((0 : Int) < v128))
  bif x130 then
    let x131 := (Int.tmod v128 (65536 : Int))
    let x132 := IntKind.i64.wrap x131
    let x133 := [x132]
    bif decide (v129.length + x133.length ≤ 8796093022208) then
      let x134 := v129 ++ x133
      let x135 := (IntKind.u64.wrap (Int.tdiv v128 (65536 : Int)))
      next x135 x134
    else
      none
  else
    k0 v129
noncomputable def spec_NatOf_L0.b {α : Type} (N n : Nat) (v128 : Int) (v129 : List Int) (k0 : List Int → Option α) : Option α :=
  Nat.rec (motive := fun _ => Int → List Int → Option α) (fun _ _ => none) (fun _ next => spec_NatOf_L0r N next k0) n v128 v129
theorem spec_NatOf_L0.ex : ∃ f : ((α : Type) → Nat → Nat → Int → List Int → (List Int → Option α) → Option α), f = fun α => @spec_NatOf_L0.b α := ⟨_, rfl⟩
noncomputable def spec_NatOf_L0 {α : Type} : Nat → Nat → Int → List Int → (List Int → Option α) → Option α := Classical.choose spec_NatOf_L0.ex α
theorem spec_NatOf_L0.eq : @spec_NatOf_L0 = @spec_NatOf_L0.b := funext fun α => congrFun (Classical.choose_spec spec_NatOf_L0.ex) α
theorem spec_NatOf_L0.zero {α : Type} (N : Nat) (v128 : Int) (v129 : List Int) (k0 : List Int → Option α) : spec_NatOf_L0 N 0 v128 v129 k0 = none := by rw [spec_NatOf_L0.eq]; rfl
theorem spec_NatOf_L0.succ {α : Type} (N n : Nat) (v128 : Int) (v129 : List Int) (k0 : List Int → Option α) : spec_NatOf_L0 N (n + 1) v128 v129 k0 = spec_NatOf_L0r N (fun y0 y1 => spec_NatOf_L0 N n y0 y1 k0) k0 v128 v129 := by rw [spec_NatOf_L0.eq]; rfl
/-- loop.example/pinfold/spec.NatOf -/
noncomputable def spec_NatOf.b {α : Type} (N : Nat) (a127 : Int) (k0 : List Int → Option α) : Option α :=
  spec_NatOf_L0 N N a127 []
    (fun x136 =>
      k0 x136)
theorem spec_NatOf.ex : ∃ f : ((α : Type) → Nat → Int → (List Int → Option α) → Option α), f = fun α => @spec_NatOf.b α := ⟨_, rfl⟩
noncomputable def spec_NatOf {α : Type} : Nat → Int → (List Int → Option α) → Option α := Classical.choose spec_NatOf.ex α
theorem spec_NatOf.eq : @spec_NatOf = @spec_NatOf.b := funext fun α => congrFun (Classical.choose_spec spec_NatOf.ex) α

noncomputable def spec_l5Mul_L2r {α : Type} (N : Nat) (next : List Int → List Int → Int → Int → Int → List Int → Option α) (k0 : List Int → List Int → Int → Int → List Int → Option α) (v159 : List Int) (v160 : List Int) (v161 : Int) (v162 : Int) (v163 : Int) (v164 : List Int) : Option α :=
  let x165 := ((v160.length : Nat) : Int)
  let x166 := decide (v163 < x165)
  bif x166 then
    let x167 := IntKind.i64.wrap (v161 + v163)
    bif (decide (x167 < (0 : Int))) then
      none
    else
      bif decide (x167.toNat < v164.length) then
        match v164[x167.toNat]? with
        | some x168 =>
          bif (decide (v161 < (0 : Int))) then
            none
          else
            match v159[v161.toNat]? with
            | some x169 =>
              bif (decide (v163 < (0 : Int))) then
                none
              else
                match v160[v163.toNat]? with
                | some x170 =>
                  let x171 := IntKind.i64.wrap (x169 * x170)
                  let x172 := IntKind.i64.wrap (x168 + x171)
                  let x173 := IntKind.i64.wrap (x172 + v162)
                  let x174 := IntKind.i64.wrap (v161 + v163)
                  let x175 := (Int.tmod x173 (65536 : Int))
                  bif (decide (x174 < (0 : Int))) then
                    none
                  else
                    bif decide (x174.toNat < v164.length) then
                      match v164[x174.toNat]? with
                      | some x176 =>
                        let x177 := v164.set x174.toNat x175
                        let x178 := (IntKind.i64.wrap (Int.tdiv x173 (65536 : Int)))
                        let x179 := (IntKind.i64.wrap (v163 + (1 : Int)))
                        next v159 v160 v161 x178 x179 x177
                      | none => none
                    else
                      none
                | none => none
            | none => none
        | none => none
      else
        none
  else
    k0 v159 v160 v161 v162 v164
noncomputable def spec_l5Mul_L2.b {α : Type} (N n : Nat) (v159 : List Int) (v160 : List Int) (v161 : Int) (v162 : Int) (v163 : Int) (v164 : List Int) (k0 : List Int → List Int → Int → Int → List Int → Option α) : Option α :=
  Nat.rec (motive := fun _ => List Int → List Int → Int → Int → Int → List Int → Option α) (fun _ _ _ _ _ _ => none) (fun _ next => spec_l5Mul_L2r N next k0) n v159 v160 v161 v162 v163 v164
theorem spec_l5Mul_L2.ex : ∃ f : ((α : Type) → Nat → Nat → List Int → List Int → Int → Int → Int → List Int → (List Int → List Int → Int → Int → List Int → Option α) → Option α), f = fun α => @spec_l5Mul_L2.b α := ⟨_, rfl⟩
noncomputable def spec_l5Mul_L2 {α : Type} : Nat → Nat → List Int → List Int → Int → Int → Int → List Int → (List Int → List Int → Int → Int → List Int → Option α) → Option α := Classical.choose spec_l5Mul_L2.ex α
theorem spec_l5Mul_L2.eq : @spec_l5Mul_L2 = @spec_l5Mul_L2.b := funext fun α => congrFun (Classical.choose_spec spec_l5Mul_L2.ex) α
theorem spec_l5Mul_L2.zero {α : Type} (N : Nat) (v159 : List Int) (v160 : List Int) (v161 : Int) (v162 : Int) (v163 : Int) (v164 : List Int) (k0 : List Int → List Int → Int → Int → List Int → Option α) : spec_l5Mul_L2 N 0 v159 v160 v161 v162 v163 v164 k0 = none := by rw [spec_l5Mul_L2.eq]; rfl
theorem spec_l5Mul_L2.succ {α : Type} (N n : Nat) (v159 : List Int) (v160 : List Int) (v161 : Int) (v162 : Int) (v163 : Int) (v164 : List Int) (k0 : List Int → List Int → Int → Int → List Int → Option α) : spec_l5Mul_L2 N (n + 1) v159 v160 v161 v162 v163 v164 k0 = spec_l5Mul_L2r N (fun y0 y1 y2 y3 y4 y5 => spec_l5Mul_L2 N n y0 y1 y2 y3 y4 y5 k0) k0 v159 v160 v161 v162 v163 v164 := by rw [spec_l5Mul_L2.eq]; rfl
noncomputable def spec_l5Mul_L0r {α : Type} (N : Nat) (next : List Int → List Int → Int → List Int → Option α) (k0 : List Int → Option α) (v153 : List Int) (v154 : List Int) (v155 : Int) (v156 : List Int) : Option α :=
  let x157 := ((v153.length : Nat) : Int)
  let x158 := decide (v155 < x157)
  bif x158 then
    spec_l5Mul_L2 N N v153 v154 v155 (0 : Int) (0 : Int) v156
      (fun x180 x181 x182 x183 x184 =>
        let x185 := ((x181.length : Nat) : Int)
        let x186 := IntKind.i64.wrap (x182 + x185)
        bif (decide (x186 < (0 : Int))) then
          none
        else
          bif decide (x186.toNat < x184.length) then
            match x184[x186.toNat]? with
            | some x187 =>
              let x188 := x184.set x186.toNat x183
              let x189 := (IntKind.i64.wrap (x182 + (1 : Int)))
              next x180 x181 x189 x188
            | none => none
          else
            none)
  else
    k0 v156
noncomputable def spec_l5Mul_L0.b {α : Type} (N n : Nat) (v153 : List Int) (v154 : List Int) (v155 : Int) (v156 : List Int) (k0 : List Int → Option α) : Option α :=
  Nat.rec (motive := fun _ => List Int → List Int → Int → List Int → Option α) (fun _ _ _ _ => none) (fun _ next => spec_l5Mul_L0r N next k0) n v153 v154 v155 v156
theorem spec_l5Mul_L0.ex : ∃ f : ((α : Type) → Nat → Nat → List Int → List Int → Int → List Int → (List Int → Option α) → Option α), f = fun α => @spec_l5Mul_L0.b α := ⟨_, rfl⟩
noncomputable def spec_l5Mul_L0 {α : Type} : Nat → Nat → List Int → List Int → Int → List Int → (List Int → Option α) → Option α := Classical.choose spec_l5Mul_L0.ex α
theorem spec_l5Mul_L0.eq : @spec_l5Mul_L0 = @spec_l5Mul_L0.b := funext fun α => congrFun (Classical.choose_spec spec_l5Mul_L0.ex) α
theorem spec_l5Mul_L0.zero {α : Type} (N : Nat) (v153 : List Int) (v154 : List Int) (v155 : Int) (v156 : List Int) (k0 : List Int → Option α) : spec_l5Mul_L0 N 0 v153 v154 v155 v156 k0 = none := by rw [spec_l5Mul_L0.eq]; rfl
theorem spec_l5Mul_L0.succ {α : Type} (N n : Nat) (v153 : List Int) (v154 : List Int) (v155 : Int) (v156 : List Int) (k0 : List Int → Option α) : spec_l5Mul_L0 N (n + 1) v153 v154 v155 v156 k0 = spec_l5Mul_L0r N (fun y0 y1 y2 y3 => spec_l5Mul_L0 N n y0 y1 y2 y3 k0) k0 v153 v154 v155 v156 := by rw [spec_l5Mul_L0.eq]; rfl
/-- loop.example/pinfold/spec.l5Mul -/
noncomputable def spec_l5Mul.b {α : Type} (N : Nat) (a147 : List Int) (a148 : List Int) (k0 : List Int → Option α) : Option α :=
  let x149 := ((a147.length : Nat) : Int)
  let x150 := ((a148.length : Nat) : Int)
  let x151 := IntKind.i64.wrap (x149 + x150)
  bif (decide ((0 : Int) ≤ x151)) then
    bif decide (x151 ≤ x151) then
      bif (decide (x151 ≤ ((8796093022208 : Nat) : Int))) then
        let x152 := (List.replicate x151.toNat (0 : Int))
        spec_l5Mul_L0 N N a147 a148 (0 : Int) x152
          (fun x190 =>
            spec_l5Trim N x190
              (fun x191 =>
                k0 x191))
      else
        none
    else
      none
  else
    none
theorem spec_l5Mul.ex : ∃ f : ((α : Type) → Nat → List Int → List Int → (List Int → Option α) → Option α), f = fun α => @spec_l5Mul.b α := ⟨_, rfl⟩
noncomputable def spec_l5Mul {α : Type} : Nat → List Int → List Int → (List Int → Option α) → Option α := Classical.choose spec_l5Mul.ex α
theorem spec_l5Mul.eq : @spec_l5Mul = @spec_l5Mul.b := funext fun α => congrFun (Classical.choose_spec spec_l5Mul.ex) α

/-- loop.example/pinfold/spec.l5Times -/
noncomputable def spec_l5Times.b {α : Type} (N : Nat) (a143 : List Int) (a144 : Int) (k0 : List Int → Option α) : Option α :=
  let x145 := (decide (a144 = (0 : Int)))
  bif x145 then
    k0 []
  else
    let x146 := [a144]
    spec_l5Mul N a143 x146
      (fun x192 =>
        k0 x192)
theorem spec_l5Times.ex : ∃ f : ((α : Type) → Nat → List Int → Int → (List Int → Option α) → Option α), f = fun α => @spec_l5Times.b α := ⟨_, rfl⟩
noncomputable def spec_l5Times {α : Type} : Nat → List Int → Int → (List Int → Option α) → Option α := Classical.choose spec_l5Times.ex α
theorem spec_l5Times.eq : @spec_l5Times = @spec_l5Times.b := funext fun α => congrFun (Classical.choose_spec spec_l5Times.ex) α

noncomputable def spec_l5Top_L0r {α : Type} (N : Nat) (next : List Int → Int → List Int → Option α) (k0 : List Int → Option α) (v205 : List Int) (v206 : Int) (v207 : List Int) : Option α :=
  let x208 := ((v205.length : Nat) : Int)
  let x209 := decide (v206 < x208)
  bif x209 then
    bif (decide (v206 < (0 : Int))) then
      none
    else
      match v205[v206.toNat]? with
      | some x210 =>
        let x211 := [x210]
        bif decide (v207.length + x211.length ≤ 8796093022208) then
          let x212 := v207 ++ x211
          let x213 := (IntKind.i64.wrap (v206 + (1 : Int)))
          next v205 x213 x212
        else
          none
      | none => none
  else
    k0 v207
noncomputable def spec_l5Top_L0.b {α : Type} (N n : Nat) (v205 : List Int) (v206 : Int) (v207 : List Int) (k0 : List Int → Option α) : Option α :=
  Nat.rec (motive := fun _ => List Int → Int → List Int → Option α) (fun _ _ _ => none) (fun _ next => spec_l5Top_L0r N next k0) n v205 v206 v207
theorem spec_l5Top_L0.ex : ∃ f : ((α : Type) → Nat → Nat → List Int → Int → List Int → (List Int → Option α) → Option α), f = fun α => @spec_l5Top_L0.b α := ⟨_, rfl⟩
noncomputable def spec_l5Top_L0 {α : Type} : Nat → Nat → List Int → Int → List Int → (List Int → Option α) → Option α := Classical.choose spec_l5Top_L0.ex α
theorem spec_l5Top_L0.eq : @spec_l5Top_L0 = @spec_l5Top_L0.b := funext fun α => congrFun (Classical.choose_spec spec_l5Top_L0.ex) α
theorem spec_l5Top_L0.zero {α : Type} (N : Nat) (v205 : List Int) (v206 : Int) (v207 : List Int) (k0 : List Int → Option α) : spec_l5Top_L0 N 0 v205 v206 v207 k0 = none := by rw [spec_l5Top_L0.eq]; rfl
theorem spec_l5Top_L0.succ {α : Type} (N n : Nat) (v205 : List Int) (v206 : Int) (v207 : List Int) (k0 : List Int → Option α) : spec_l5Top_L0 N (n + 1) v205 v206 v207 k0 = spec_l5Top_L0r N (fun y0 y1 y2 => spec_l5Top_L0 N n y0 y1 y2 k0) k0 v205 v206 v207 := by rw [spec_l5Top_L0.eq]; rfl
/-- loop.example/pinfold/spec.l5Top -/
noncomputable def spec_l5Top.b {α : Type} (N : Nat) (a203 : List Int) (a204 : Int) (k0 : List Int → Option α) : Option α :=
  spec_l5Top_L0 N N a203 a204 []
    (fun x214 =>
      k0 x214)
theorem spec_l5Top.ex : ∃ f : ((α : Type) → Nat → List Int → Int → (List Int → Option α) → Option α), f = fun α => @spec_l5Top.b α := ⟨_, rfl⟩
noncomputable def spec_l5Top {α : Type} : Nat → List Int → Int → (List Int → Option α) → Option α := Classical.choose spec_l5Top.ex α
theorem spec_l5Top.eq : @spec_l5Top = @spec_l5Top.b := funext fun α => congrFun (Classical.choose_spec spec_l5Top.ex) α

noncomputable def spec_l5Shl_L0r {α : Type} (N : Nat) (next : List Int → Int → List Int → Option α) (k0 : List Int → Option α) (v231 : List Int) (v232 : Int) (v233 : List Int) : Option α :=
  let x234 := ((v231.length : Nat) : Int)
  let x235 := decide (v232 < x234)
  bif x235 then
    bif (decide (v232 < (0 : Int))) then
      none
    else
      match v231[v232.toNat]? with
      | some x236 =>
        let x237 := [x236]
        bif decide (v233.length + x237.length ≤ 8796093022208) then
          let x238 := v233 ++ x237
          let x239 := (IntKind.i64.wrap (v232 + (1 : Int)))
          next v231 x239 x238
        else
          none
      | none => none
  else
    k0 v233
noncomputable def spec_l5Shl_L0.b {α : Type} (N n : Nat) (v231 : List Int) (v232 : Int) (v233 : List Int) (k0 : List Int → Option α) : Option α :=
  Nat.rec (motive := fun _ => List Int → Int → List Int → Option α) (fun _ _ _ => none) (fun _ next => spec_l5Shl_L0r N next k0) n v231 v232 v233
theorem spec_l5Shl_L0.ex : ∃ f : ((α : Type) → Nat → Nat → List Int → Int → List Int → (List Int → Option α) → Option α), f = fun α => @spec_l5Shl_L0.b α := ⟨_, rfl⟩
noncomputable def spec_l5Shl_L0 {α : Type} : Nat → Nat → List Int → Int → List Int → (List Int → Option α) → Option α := Classical.choose spec_l5Shl_L0.ex α
theorem spec_l5Shl_L0.eq : @spec_l5Shl_L0 = @spec_l5Shl_L0.b := funext fun α => congrFun (Classical.choose_spec spec_l5Shl_L0.ex) α
theorem spec_l5Shl_L0.zero {α : Type} (N : Nat) (v231 : List Int) (v232 : Int) (v233 : List Int) (k0 : List Int → Option α) : spec_l5Shl_L0 N 0 v231 v232 v233 k0 = none := by rw [spec_l5Shl_L0.eq]; rfl
theorem spec_l5Shl_L0.succ {α : Type} (N n : Nat) (v231 : List Int) (v232 : Int) (v233 : List Int) (k0 : List Int → Option α) : spec_l5Shl_L0 N (n + 1) v231 v232 v233 k0 = spec_l5Shl_L0r N (fun y0 y1 y2 => spec_l5Shl_L0 N n y0 y1 y2 k0) k0 v231 v232 v233 := by rw [spec_l5Shl_L0.eq]; rfl
/-- loop.example/pinfold/spec.l5Shl -/
noncomputable def spec_l5Shl.b {α : Type} (N : Nat) (a226 : List Int) (a227 : Int) (k0 : List Int → Option α) : Option α :=
  let x228 := ((a226.length : Nat) : Int)
  let x229 := (decide (x228 = (0 : Int)))
  bif x229 then
    k0 []
  else
    bif (decide ((0 : Int) ≤ a227)) then
      bif decide (a227 ≤ a227) then
        bif (decide (a227 ≤ ((8796093022208 : Nat) : Int))) then
          let x230 := (List.replicate a227.toNat (0 : Int))
          spec_l5Shl_L0 N N a226 (0 : Int) x230
            (fun x240 =>
              k0 x240)
        else
          none
      else
        none
    else
      none
theorem spec_l5Shl.ex : ∃ f : ((α : Type) → Nat → List Int → Int → (List Int → Option α) → Option α), f = fun α => @spec_l5Shl.b α := ⟨_, rfl⟩
noncomputable def spec_l5Shl {α : Type} : Nat → List Int → Int → (List Int → Option α) → Option α := Classical.choose spec_l5Shl.ex α
theorem spec_l5Shl.eq : @spec_l5Shl = @spec_l5Shl.b := funext fun α => congrFun (Classical.choose_spec spec_l5Shl.ex) α

/-- loop.example/pinfold/spec.l5At -/
noncomputable def spec_l5At.b {α : Type} (N : Nat) (a264 : List Int) (a265 : Int) (k0 : Int → Option α) : Option α :=
  let x266 := ((a264.length : Nat) : Int)
  let x267 := decide (a265 < x266)
  bif x267 then
    bif (decide (a265 < (0 : Int))) then
      none
    else
      match a264[a265.toNat]? with
      | some x268 =>
        k0 x268
      | none => none
  else
    k0 (0 : Int)
theorem spec_l5At.ex : ∃ f : ((α : Type) → Nat → List Int → Int → (Int → Option α) → Option α), f = fun α => @spec_l5At.b α := ⟨_, rfl⟩
noncomputable def spec_l5At {α : Type} : Nat → List Int → Int → (Int → Option α) → Option α := Classical.choose spec_l5At.ex α
theorem spec_l5At.eq : @spec_l5At = @spec_l5At.b := funext fun α => congrFun (Classical.choose_spec spec_l5At.ex) α

noncomputable def spec_l5Add_J2.b {α : Type} (N : Nat) (v248 : List Int) (v249 : List Int) (v250 : Int) (k0 : List Int → List Int → Int → Option α) : Option α :=
  let x251 := ((v249.length : Nat) : Int)
  let x252 := decide (v250 < x251)
  bif x252 then
    let x253 := ((v249.length : Nat) : Int)
    k0 v248 v249 x253
  else
    k0 v248 v249 v250
theorem spec_l5Add_J2.ex : ∃ f : ((α : Type) → Nat → List Int → List Int → Int → (List Int → List Int → Int → Option α) → Option α), f = fun α => @spec_l5Add_J2.b α := ⟨_, rfl⟩
noncomputable def spec_l5Add_J2 {α : Type} : Nat → List Int → List Int → Int → (List Int → List Int → Int → Option α) → Option α := Classical.choose spec_l5Add_J2.ex α
theorem spec_l5Add_J2.eq : @spec_l5Add_J2 = @spec_l5Add_J2.b := funext fun α => congrFun (Classical.choose_spec spec_l5Add_J2.ex) α
noncomputable def spec_l5Add_L0r {α : Type} (N : Nat) (next : List Int → List Int → Int → Int → Int → List Int → Option α) (k0 : Int → List Int → Option α) (v257 : List Int) (v258 : List Int) (v259 : Int) (v260 : Int) (v261 : Int) (v262 : List Int) : Option α :=
  let x263 := decide (v261 < v259)
  bif x263 then
    spec_l5At N v257 v261
      (fun x269 =>
        spec_l5At N v258 v261
          (fun x270 =>
            let x271 := IntKind.i64.wrap (x269 + x270)
            let x272 := IntKind.i64.wrap (x271 + v260)
            let x273 := (Int.tmod x272 (65536 : Int))
            let x274 := [x273]
            bif decide (v262.length + x274.length ≤ 8796093022208) then
              let x275 := v262 ++ x274
              let x276 := (IntKind.i64.wrap (Int.tdiv x272 (65536 : Int)))
              let x277 := (IntKind.i64.wrap (v261 + (1 : Int)))
              next v257 v258 v259 x276 x277 x275
            else
              none))
  else
    k0 v260 v262
noncomputable def spec_l5Add_L0.b {α : Type} (N n : Nat) (v257 : List Int) (v258 : List Int) (v259 : Int) (v260 : Int) (v261 : Int) (v262 : List Int) (k0 : Int → List Int → Option α) : Option α :=
  Nat.rec (motive := fun _ => List Int → List Int → Int → Int → Int → List Int → Option α) (fun _ _ _ _ _ _ => none) (fun _ next => spec_l5Add_L0r N next k0) n v257 v258 v259 v260 v261 v262
theorem spec_l5Add_L0.ex : ∃ f : ((α : Type) → Nat → Nat → List Int → List Int → Int → Int → Int → List Int → (Int → List Int → Option α) → Option α), f = fun α => @spec_l5Add_L0.b α := ⟨_, rfl⟩
noncomputable def spec_l5Add_L0 {α : Type} : Nat → Nat → List Int → List Int → Int → Int → Int → List Int → (Int → List Int → Option α) → Option α := Classical.choose spec_l5Add_L0.ex α
theorem spec_l5Add_L0.eq : @spec_l5Add_L0 = @spec_l5Add_L0.b := funext fun α => congrFun (Classical.choose_spec spec_l5Add_L0.ex) α
theorem spec_l5Add_L0.zero {α : Type} (N : Nat) (v257 : List Int) (v258 : List Int) (v259 : Int) (v260 : Int) (v261 : Int) (v262 : List Int) (k0 : Int → List Int → Option α) : spec_l5Add_L0 N 0 v257 v258 v259 v260 v261 v262 k0 = none := by rw [spec_l5Add_L0.eq]; rfl
theorem spec_l5Add_L0.succ {α : Type} (N n : Nat) (v257 : List Int) (v258 : List Int) (v259 : Int) (v260 : Int) (v261 : Int) (v262 : List Int) (k0 : Int → List Int → Option α) : spec_l5Add_L0 N (n + 1) v257 v258 v259 v260 v261 v262 k0 = spec_l5Add_L0r N (fun y0 y1 y2 y3 y4 y5 => spec_l5Add_L0 N n y0 y1 y2 y3 y4 y5 k0) k0 v257 v258 v259 v260 v261 v262 := by rw [spec_l5Add_L0.eq]; rfl
noncomputable def spec_l5Add_J12.b {α : Type} (N : Nat) (v280 : Int) (v281 : List Int) (k0 : List Int → Option α) : Option α :=
  let x282 := (decide ((0 : Int) < v280))
  bif x282 then
    let x283 := [v280]
    bif decide (v281.length + x283.length ≤ 8796093022208) then
      let x284 := v281 ++ x283
      k0 x284
    else
      none
  else
    k0 v281
theorem spec_l5Add_J12.ex : ∃ f : ((α : Type) → Nat → Int → List Int → (List Int → Option α) → Option α), f = fun α => @spec_l5Add_J12.b α := ⟨_, rfl⟩
noncomputable def spec_l5Add_J12 {α : Type} : Nat → Int → List Int → (List Int → Option α) → Option α := Classical.choose spec_l5Add_J12.ex α
theorem spec_l5Add_J12.eq : @spec_l5Add_J12 = @spec_l5Add_J12.b := funext fun α => congrFun (Classical.choose_spec spec_l5Add_J12.ex) α
/-- loop.example/pinfold/spec.l5Add -/
noncomputable def spec_l5Add.b {α : Type} (N : Nat) (a245 : List Int) (a246 : List Int) (k0 : List Int → Option α) : Option α :=
  let x247 := ((a245.length : Nat) : Int)
  spec_l5Add_J2 N a245 a246 x247
    (fun x254 x255 x256 =>
      spec_l5Add_L0 N N x254 x255 x256 (0 : Int) (0 : Int) []
        (fun x278 x279 =>
          spec_l5Add_J12 N x278 x279
            (fun x285 =>
              k0 x285)))
theorem spec_l5Add.ex : ∃ f : ((α : Type) → Nat → List Int → List Int → (List Int → Option α) → Option α), f = fun α => @spec_l5Add.b α := ⟨_, rfl⟩
noncomputable def spec_l5Add {α : Type} : Nat → List Int → List Int → (List Int → Option α) → Option α := Classical.choose spec_l5Add.ex α
theorem spec_l5Add.eq : @spec_l5Add = @spec_l5Add.b := funext fun α => congrFun (Classical.choose_spec spec_l5Add.ex) α

noncomputable def spec_l5Sub_J8.b {α : Type} (N : Nat) (v338 : List Int) (v339 : List Int) (v340 : Int) (v341 : Int) (v342 : Int) (v343 : List Int) (k0 : List Int → List Int → Int → Int → Int → List Int → Option α) : Option α :=
  let x344 := (decide (v342 < (0 : Int)))
  bif x344 then
    let x345 := (IntKind.i64.wrap (v342 + (65536 : Int)))
    k0 v338 v339 (1 : Int) v341 x345 v343
  else
    k0 v338 v339 v340 v341 v342 v343
theorem spec_l5Sub_J8.ex : ∃ f : ((α : Type) → Nat → List Int → List Int → Int → Int → Int → List Int → (List Int → List Int → Int → Int → Int → List Int → Option α) → Option α), f = fun α => @spec_l5Sub_J8.b α := ⟨_, rfl⟩
noncomputable def spec_l5Sub_J8 {α : Type} : Nat → List Int → List Int → Int → Int → Int → List Int → (List Int → List Int → Int → Int → Int → List Int → Option α) → Option α := Classical.choose spec_l5Sub_J8.ex α
theorem spec_l5Sub_J8.eq : @spec_l5Sub_J8 = @spec_l5Sub_J8.b := funext fun α => congrFun (Classical.choose_spec spec_l5Sub_J8.ex) α
noncomputable def spec_l5Sub_L0r {α : Type} (N : Nat) (next : List Int → List Int → Int → Int → List Int → Option α) (k0 : List Int → Option α) (v327 : List Int) (v328 : List Int) (v329 : Int) (v330 : Int) (v331 : List Int) : Option α :=
  let x332 := ((v327.length : Nat) : Int)
  let x333 := decide (v330 < x332)
  bif x333 then
    bif (decide (v330 < (0 : Int))) then
      none
    else
      match v327[v330.toNat]? with
      | some x334 =>
        spec_l5At N v328 v330
          (fun x335 =>
            let x336 := IntKind.i64.wrap (x334 - x335)
            let x337 := IntKind.i64.wrap (x336 - v329)
            spec_l5Sub_J8 N v327 v328 (0 : Int) v330 x337 v331
              (fun x346 x347 x348 x349 x350 x351 =>
                let x352 := [x350]
                bif decide (x351.length + x352.length ≤ 8796093022208) then
                  let x353 := x351 ++ x352
                  let x354 := (IntKind.i64.wrap (x349 + (1 : Int)))
                  next x346 x347 x348 x354 x353
                else
                  none))
      | none => none
  else
    k0 v331
noncomputable def spec_l5Sub_L0.b {α : Type} (N n : Nat) (v327 : List Int) (v328 : List Int) (v329 : Int) (v330 : Int) (v331 : List Int) (k0 : List Int → Option α) : Option α :=
  Nat.rec (motive := fun _ => List Int → List Int → Int → Int → List Int → Option α) (fun _ _ _ _ _ => none) (fun _ next => spec_l5Sub_L0r N next k0) n v327 v328 v329 v330 v331
theorem spec_l5Sub_L0.ex : ∃ f : ((α : Type) → Nat → Nat → List Int → List Int → Int → Int → List Int → (List Int → Option α) → Option α), f = fun α => @spec_l5Sub_L0.b α := ⟨_, rfl⟩
noncomputable def spec_l5Sub_L0 {α : Type} : Nat → Nat → List Int → List Int → Int → Int → List Int → (List Int → Option α) → Option α := Classical.choose spec_l5Sub_L0.ex α
theorem spec_l5Sub_L0.eq : @spec_l5Sub_L0 = @spec_l5Sub_L0.b := funext fun α => congrFun (Classical.choose_spec spec_l5Sub_L0.ex) α
theorem spec_l5Sub_L0.zero {α : Type} (N : Nat) (v327 : List Int) (v328 : List Int) (v329 : Int) (v330 : Int) (v331 : List Int) (k0 : List Int → Option α) : spec_l5Sub_L0 N 0 v327 v328 v329 v330 v331 k0 = none := by rw [spec_l5Sub_L0.eq]; rfl
theorem spec_l5Sub_L0.succ {α : Type} (N n : Nat) (v327 : List Int) (v328 : List Int) (v329 : Int) (v330 : Int) (v331 : List Int) (k0 : List Int → Option α) : spec_l5Sub_L0 N (n + 1) v327 v328 v329 v330 v331 k0 = spec_l5Sub_L0r N (fun y0 y1 y2 y3 y4 => spec_l5Sub_L0 N n y0 y1 y2 y3 y4 k0) k0 v327 v328 v329 v330 v331 := by rw [spec_l5Sub_L0.eq]; rfl
/-- loop.example/pinfold/spec.l5Sub -/
noncomputable def spec_l5Sub.b {α : Type} (N : Nat) (a325 : List Int) (a326 : List Int) (k0 : List Int → Option α) : Option α :=
  spec_l5Sub_L0 N N a325 a326 (0 : Int) (0 : Int) []
    (fun x355 =>
      spec_l5Trim N x355
        (fun x356 =>
          k0 x356))
theorem spec_l5Sub.ex : ∃ f : ((α : Type) → Nat → List Int → List Int → (List Int → Option α) → Option α), f = fun α => @spec_l5Sub.b α := ⟨_, rfl⟩
noncomputable def spec_l5Sub {α : Type} : Nat → List Int → List Int → (List Int → Option α) → Option α := Classical.choose spec_l5Sub.ex α
theorem spec_l5Sub.eq : @spec_l5Sub = @spec_l5Sub.b := funext fun α => congrFun (Classical.choose_spec spec_l5Sub.ex) α

noncomputable def spec_l5Div_J17.b {α : Type} (N : Nat) (v296 : Int) (v297 : Int) (v298 : Int) (v299 : Int) (v300 : List Int) (v301 : List Int) (v302 : List Int) (v303 : List Int) (k0 : Int → Int → Int → Int → List Int → List Int → List Int → List Int → Option α) : Option α :=
  let x304 := (decide ((65536 : Int) ≤ v299))
  bif x304 then
    k0 v296 v297 v298 (65535 : Int) v300 v301 v302 v303
  else
    k0 v296 v297 v298 v299 v300 v301 v302 v303
theorem spec_l5Div_J17.ex : ∃ f : ((α : Type) → Nat → Int → Int → Int → Int → List Int → List Int → List Int → List Int → (Int → Int → Int → Int → List Int → List Int → List Int → List Int → Option α) → Option α), f = fun α => @spec_l5Div_J17.b α := ⟨_, rfl⟩
noncomputable def spec_l5Div_J17 {α : Type} : Nat → Int → Int → Int → Int → List Int → List Int → List Int → List Int → (Int → Int → Int → Int → List Int → List Int → List Int → List Int → Option α) → Option α := Classical.choose spec_l5Div_J17.ex α
theorem spec_l5Div_J17.eq : @spec_l5Div_J17 = @spec_l5Div_J17.b := funext fun α => congrFun (Classical.choose_spec spec_l5Div_J17.ex) α
noncomputable def spec_l5Div_L2r {α : Type} (N : Nat) (next : Int → Int → Int → Int → List Int → List Int → List Int → List Int → List Int → Option α) (k0 : Int → Int → Int → Int → List Int → List Int → List Int → List Int → List Int → Option α) (v314 : Int) (v315 : Int) (v316 : Int) (v317 : Int) (v318 : List Int) (v319 : List Int) (v320 : List Int) (v321 : List Int) (v322 : List Int) : Option α :=
  spec_l5Cmp N v322 v321
    (fun x323 =>
      let x324 := (decide ((0 : Int) < x323))
      bif x324 then
        spec_l5Sub N v322 v319
          (fun x357 =>
            let x358 := (IntKind.i64.wrap (v317 - (1 : Int)))
            next v314 v315 v316 x358 v318 v319 v320 v321 x357)
      else
        k0 v314 v315 v316 v317 v318 v319 v320 v321 v322)
noncomputable def spec_l5Div_L2.b {α : Type} (N n : Nat) (v314 : Int) (v315 : Int) (v316 : Int) (v317 : Int) (v318 : List Int) (v319 : List Int) (v320 : List Int) (v321 : List Int) (v322 : List Int) (k0 : Int → Int → Int → Int → List Int → List Int → List Int → List Int → List Int → Option α) : Option α :=
  Nat.rec (motive := fun _ => Int → Int → Int → Int → List Int → List Int → List Int → List Int → List Int → Option α) (fun _ _ _ _ _ _ _ _ _ => none) (fun _ next => spec_l5Div_L2r N next k0) n v314 v315 v316 v317 v318 v319 v320 v321 v322
theorem spec_l5Div_L2.ex : ∃ f : ((α : Type) → Nat → Nat → Int → Int → Int → Int → List Int → List Int → List Int → List Int → List Int → (Int → Int → Int → Int → List Int → List Int → List Int → List Int → List Int → Option α) → Option α), f = fun α => @spec_l5Div_L2.b α := ⟨_, rfl⟩
noncomputable def spec_l5Div_L2 {α : Type} : Nat → Nat → Int → Int → Int → Int → List Int → List Int → List Int → List Int → List Int → (Int → Int → Int → Int → List Int → List Int → List Int → List Int → List Int → Option α) → Option α := Classical.choose spec_l5Div_L2.ex α
theorem spec_l5Div_L2.eq : @spec_l5Div_L2 = @spec_l5Div_L2.b := funext fun α => congrFun (Classical.choose_spec spec_l5Div_L2.ex) α
theorem spec_l5Div_L2.zero {α : Type} (N : Nat) (v314 : Int) (v315 : Int) (v316 : Int) (v317 : Int) (v318 : List Int) (v319 : List Int) (v320 : List Int) (v321 : List Int) (v322 : List Int) (k0 : Int → Int → Int → Int → List Int → List Int → List Int → List Int → List Int → Option α) : spec_l5Div_L2 N 0 v314 v315 v316 v317 v318 v319 v320 v321 v322 k0 = none := by rw [spec_l5Div_L2.eq]; rfl
theorem spec_l5Div_L2.succ {α : Type} (N n : Nat) (v314 : Int) (v315 : Int) (v316 : Int) (v317 : Int) (v318 : List Int) (v319 : List Int) (v320 : List Int) (v321 : List Int) (v322 : List Int) (k0 : Int → Int → Int → Int → List Int → List Int → List Int → List Int → List Int → Option α) : spec_l5Div_L2 N (n + 1) v314 v315 v316 v317 v318 v319 v320 v321 v322 k0 = spec_l5Div_L2r N (fun y0 y1 y2 y3 y4 y5 y6 y7 y8 => spec_l5Div_L2 N n y0 y1 y2 y3 y4 y5 y6 y7 y8 k0) k0 v314 v315 v316 v317 v318 v319 v320 v321 v322 := by rw [spec_l5Div_L2.eq]; rfl
noncomputable def spec_l5Div_L0r {α : Type} (N : Nat) (next : Int → Int → Int → List Int → List Int → List Int → List Int → Option α) (k0 : Int → List Int → List Int → Option α) (v218 : Int) (v219 : Int) (v220 : Int) (v221 : List Int) (v222 : List Int) (v223 : List Int) (v224 : List Int) : Option α :=
  let x225 := (decide ((0 : Int) ≤ v220))
  bif x225 then
    spec_l5Shl N v224 (1 : Int)
      (fun x241 =>
        bif (decide (v220 < (0 : Int))) then
          none
        else
          bif decide (v220.toNat < v221.length) then
            match v221[v220.toNat]? with
            | some x242 =>
              let x243 := IntKind.u64.wrap x242
              spec_NatOf N x243
                (fun x244 =>
                  spec_l5Add N x241 x244
                    (fun x286 =>
                      spec_l5Trim N x286
                        (fun x287 =>
                          spec_l5At N x287 v219
                            (fun x288 =>
                              let x289 := (IntKind.i64.wrap (x288 * (65536 : Int)))
                              let x290 := (IntKind.i64.wrap (v219 - (1 : Int)))
                              spec_l5At N x287 x290
                                (fun x291 =>
                                  let x292 := IntKind.i64.wrap (x289 + x291)
                                  let x293 := (IntKind.i64.wrap (v219 - (1 : Int)))
                                  bif (decide (x293 < (0 : Int))) then
                                    none
                                  else
                                    bif decide (x293.toNat < v222.length) then
                                      match v222[x293.toNat]? with
                                      | some x294 =>
                                        bif (decide (x294 = (0 : Int))) then
                                          none
                                        else
                                          let x295 := IntKind.i64.wrap (Int.tdiv x292 x294)
                                          spec_l5Div_J17 N v218 v219 v220 x295 v221 v222 v223 x287
                                            (fun x305 x306 x307 x308 x309 x310 x311 x312 =>
                                              spec_l5Times N x310 x308
                                                (fun x313 =>
                                                  spec_l5Div_L2 N N x305 x306 x307 x308 x309 x310 x311 x312 x313
                                                    (fun x359 x360 x361 x362 x363 x364 x365 x366 x367 =>
                                                      bif (decide (x361 < (0 : Int))) then
                                                        none
                                                      else
                                                        bif decide (x361.toNat < x365.length) then
                                                          match x365[x361.toNat]? with
                                                          | some x368 =>
                                                            let x369 := x365.set x361.toNat x362
                                                            spec_l5Sub N x366 x367
                                                              (fun x370 =>
                                                                let x371 := (IntKind.i64.wrap (x361 - (1 : Int)))
                                                                next x359 x360 x371 x363 x364 x369 x370)
                                                          | none => none
                                                        else
                                                          none)))
                                      | none => none
                                    else
                                      none)))))
            | none => none
          else
            none)
  else
    k0 v218 v223 v224
noncomputable def spec_l5Div_L0.b {α : Type} (N n : Nat) (v218 : Int) (v219 : Int) (v220 : Int) (v221 : List Int) (v222 : List Int) (v223 : List Int) (v224 : List Int) (k0 : Int → List Int → List Int → Option α) : Option α :=
  Nat.rec (motive := fun _ => Int → Int → Int → List Int → List Int → List Int → List Int → Option α) (fun _ _ _ _ _ _ _ => none) (fun _ next => spec_l5Div_L0r N next k0) n v218 v219 v220 v221 v222 v223 v224
theorem spec_l5Div_L0.ex : ∃ f : ((α : Type) → Nat → Nat → Int → Int → Int → List Int → List Int → List Int → List Int → (Int → List Int → List Int → Option α) → Option α), f = fun α => @spec_l5Div_L0.b α := ⟨_, rfl⟩
noncomputable def spec_l5Div_L0 {α : Type} : Nat → Nat → Int → Int → Int → List Int → List Int → List Int → List Int → (Int → List Int → List Int → Option α) → Option α := Classical.choose spec_l5Div_L0.ex α
theorem spec_l5Div_L0.eq : @spec_l5Div_L0 = @spec_l5Div_L0.b := funext fun α => congrFun (Classical.choose_spec spec_l5Div_L0.ex) α
theorem spec_l5Div_L0.zero {α : Type} (N : Nat) (v218 : Int) (v219 : Int) (v220 : Int) (v221 : List Int) (v222 : List Int) (v223 : List Int) (v224 : List Int) (k0 : Int → List Int → List Int → Option α) : spec_l5Div_L0 N 0 v218 v219 v220 v221 v222 v223 v224 k0 = none := by rw [spec_l5Div_L0.eq]; rfl
theorem spec_l5Div_L0.succ {α : Type} (N n : Nat) (v218 : Int) (v219 : Int) (v220 : Int) (v221 : List Int) (v222 : List Int) (v223 : List Int) (v224 : List Int) (k0 : Int → List Int → List Int → Option α) : spec_l5Div_L0 N (n + 1) v218 v219 v220 v221 v222 v223 v224 k0 = spec_l5Div_L0r N (fun y0 y1 y2 y3 y4 y5 y6 => spec_l5Div_L0 N n y0 y1 y2 y3 y4 y5 y6 k0) k0 v218 v219 v220 v221 v222 v223 v224 := by rw [spec_l5Div_L0.eq]; rfl
/-- loop.example/pinfold/spec.l5Div -/
noncomputable def spec_l5Div.b {α : Type} (N : Nat) (a50 : List Int) (a51 : List Int) (k0 : List Int → List Int → Option α) : Option α :=
  spec_l5Cmp N a50 a51
    (fun x74 =>
      let x75 := (decide (x74 < (0 : Int)))
      bif x75 then
        spec_l5Trim N a50
          (fun x97 =>
            k0 [] x97)
      else
        let x98 := ((a51.length : Nat) : Int)
        let x99 := (decide (x98 = (1 : Int)))
        bif x99 then
          match a51[0]? with
          | some x100 =>
            spec_l5DivSmall N a50 x100
              (fun x124 x125 =>
                let x126 := IntKind.u64.wrap x124
                spec_NatOf N x126
                  (fun x137 =>
                    k0 x125 x137))
          | none => none
        else
          let x138 := ((a51.length : Nat) : Int)
          let x139 := (IntKind.i64.wrap (x138 - (1 : Int)))
          bif (decide (x139 < (0 : Int))) then
            none
          else
            match a51[x139.toNat]? with
            | some x140 =>
              let x141 := (IntKind.i64.wrap (x140 + (1 : Int)))
              bif (decide (x141 = (0 : Int))) then
                none
              else
                let x142 := (IntKind.i64.wrap (Int.tdiv (65536 : Int) x141))
                spec_l5Times N a50 x142
                  (fun x193 =>
                    spec_l5Times N a51 x142
                      (fun x194 =>
                        let x195 := ((x194.length : Nat) : Int)
                        let x196 := ((x193.length : Nat) : Int)
                        let x197 := IntKind.i64.wrap (x196 - x195)
                        let x198 := (IntKind.i64.wrap (x197 + (1 : Int)))
                        bif (decide ((0 : Int) ≤ x198)) then
                          bif decide (x198 ≤ x198) then
                            bif (decide (x198 ≤ ((8796093022208 : Nat) : Int))) then
                              let x199 := (List.replicate x198.toNat (0 : Int))
                              let x200 := ((x193.length : Nat) : Int)
                              let x201 := IntKind.i64.wrap (x200 - x195)
                              let x202 := (IntKind.i64.wrap (x201 + (1 : Int)))
                              spec_l5Top N x193 x202
                                (fun x215 =>
                                  let x216 := ((x193.length : Nat) : Int)
                                  let x217 := IntKind.i64.wrap (x216 - x195)
                                  spec_l5Div_L0 N N x142 x195 x217 x193 x194 x199 x215
                                    (fun x372 x373 x374 =>
                                      spec_l5DivSmall N x374 x372
                                        (fun _ x376 =>
                                          spec_l5Trim N x373
                                            (fun x377 =>
                                              k0 x377 x376))))
                            else
                              none
                          else
                            none
                        else
                          none))
            | none => none)
theorem spec_l5Div.ex : ∃ f : ((α : Type) → Nat → List Int → List Int → (List Int → List Int → Option α) → Option α), f = fun α => @spec_l5Div.b α := ⟨_, rfl⟩
noncomputable def spec_l5Div {α : Type} : Nat → List Int → List Int → (List Int → List Int → Option α) → Option α := Classical.choose spec_l5Div.ex α
theorem spec_l5Div.eq : @spec_l5Div = @spec_l5Div.b := funext fun α => congrFun (Classical.choose_spec spec_l5Div.ex) α

/-- loop.example/pinfold/spec.NatDiv -/
noncomputable def spec_NatDiv.b {α : Type} (N : Nat) (a22 : List Int) (a23 : List Int) (k0 : Bool → List Int → List Int → Option α) : Option α :=
  spec_NatOk N a22
    (fun x44 =>
      let x45 := !x44
      bif x45 then
        k0 false [] []
      else
        spec_NatOk N a23
          (fun x46 =>
            let x47 := !x46
            bif x47 then
              k0 false [] []
            else
              let x48 := ((a23.length : Nat) : Int)
              let x49 := (decide (x48 = (0 : Int)))
              bif x49 then
                k0 false [] []
              else
                spec_l5Div N a22 a23
                  (fun x378 x379 =>
                    k0 true x378 x379)))
theorem spec_NatDiv.ex : ∃ f : ((α : Type) → Nat → List Int → List Int → (Bool → List Int → List Int → Option α) → Option α), f = fun α => @spec_NatDiv.b α := ⟨_, rfl⟩
noncomputable def spec_NatDiv {α : Type} : Nat → List Int → List Int → (Bool → List Int → List Int → Option α) → Option α := Classical.choose spec_NatDiv.ex α
theorem spec_NatDiv.eq : @spec_NatDiv = @spec_NatDiv.b := funext fun α => congrFun (Classical.choose_spec spec_NatDiv.ex) α

/-- loop.example/pinfold/impl.in -/
noncomputable def impl_in.b {α : Type} (N : Nat) (a412 : Int) (a413 : Int) (a414 : Int) (k0 : Bool → Option α) : Option α :=
  let x415 := decide (a413 ≤ a412)
  bif x415 then
    let x416 := decide (a412 ≤ a414)
    k0 x416
  else
    k0 false
theorem impl_in.ex : ∃ f : ((α : Type) → Nat → Int → Int → Int → (Bool → Option α) → Option α), f = fun α => @impl_in.b α := ⟨_, rfl⟩
noncomputable def impl_in {α : Type} : Nat → Int → Int → Int → (Bool → Option α) → Option α := Classical.choose impl_in.ex α
theorem impl_in.eq : @impl_in = @impl_in.b := funext fun α => congrFun (Classical.choose_spec impl_in.ex) α

/-- loop.example/pinfold/impl.NatOk$1 -/
noncomputable def impl_NatOk_1.b {α : Type} (N : Nat) (a411 : Int) (k0 : Bool → Option α) : Option α :=
  impl_in N a411 (0 : Int) (65535 : Int)
    (fun x417 =>
      let x418 := !x417
      k0 x418)
theorem impl_NatOk_1.ex : ∃ f : ((α : Type) → Nat → Int → (Bool → Option α) → Option α), f = fun α => @impl_NatOk_1.b α := ⟨_, rfl⟩
noncomputable def impl_NatOk_1 {α : Type} : Nat → Int → (Bool → Option α) → Option α := Classical.choose impl_NatOk_1.ex α
theorem impl_NatOk_1.eq : @impl_NatOk_1 = @impl_NatOk_1.b := funext fun α => congrFun (Classical.choose_spec impl_NatOk_1.ex) α

noncomputable def slices_IndexFunc_int_int__impl_NatOk_1_L0r {α : Type} (N : Nat) (next : List Int → Int → Int → Option α) (k0 : Int → Option α) (k1 : Option α) (v406 : List Int) (v407 : Int) (v408 : Int) : Option α :=
  let x409 := decide (v408 < v407)
  bif x409 then
    bif (decide (v408 < (0 : Int))) then
      none
    else
      match v406[v408.toNat]? with
      | some x410 =>
        impl_NatOk_1 N x410
          (fun x419 =>
            bif x419 then
              k0 v408
            else
              let x420 := (IntKind.i64.wrap (v408 + (1 : Int)))
              next v406 v407 x420)
      | none => none
  else
    k1
noncomputable def slices_IndexFunc_int_int__impl_NatOk_1_L0.b {α : Type} (N n : Nat) (v406 : List Int) (v407 : Int) (v408 : Int) (k0 : Int → Option α) (k1 : Option α) : Option α :=
  Nat.rec (motive := fun _ => List Int → Int → Int → Option α) (fun _ _ _ => none) (fun _ next => slices_IndexFunc_int_int__impl_NatOk_1_L0r N next k0 k1) n v406 v407 v408
theorem slices_IndexFunc_int_int__impl_NatOk_1_L0.ex : ∃ f : ((α : Type) → Nat → Nat → List Int → Int → Int → (Int → Option α) → (Option α) → Option α), f = fun α => @slices_IndexFunc_int_int__impl_NatOk_1_L0.b α := ⟨_, rfl⟩
noncomputable def slices_IndexFunc_int_int__impl_NatOk_1_L0 {α : Type} : Nat → Nat → List Int → Int → Int → (Int → Option α) → (Option α) → Option α := Classical.choose slices_IndexFunc_int_int__impl_NatOk_1_L0.ex α
theorem slices_IndexFunc_int_int__impl_NatOk_1_L0.eq : @slices_IndexFunc_int_int__impl_NatOk_1_L0 = @slices_IndexFunc_int_int__impl_NatOk_1_L0.b := funext fun α => congrFun (Classical.choose_spec slices_IndexFunc_int_int__impl_NatOk_1_L0.ex) α
theorem slices_IndexFunc_int_int__impl_NatOk_1_L0.zero {α : Type} (N : Nat) (v406 : List Int) (v407 : Int) (v408 : Int) (k0 : Int → Option α) (k1 : Option α) : slices_IndexFunc_int_int__impl_NatOk_1_L0 N 0 v406 v407 v408 k0 k1 = none := by rw [slices_IndexFunc_int_int__impl_NatOk_1_L0.eq]; rfl
theorem slices_IndexFunc_int_int__impl_NatOk_1_L0.succ {α : Type} (N n : Nat) (v406 : List Int) (v407 : Int) (v408 : Int) (k0 : Int → Option α) (k1 : Option α) : slices_IndexFunc_int_int__impl_NatOk_1_L0 N (n + 1) v406 v407 v408 k0 k1 = slices_IndexFunc_int_int__impl_NatOk_1_L0r N (fun y0 y1 y2 => slices_IndexFunc_int_int__impl_NatOk_1_L0 N n y0 y1 y2 k0 k1) k0 k1 v406 v407 v408 := by rw [slices_IndexFunc_int_int__impl_NatOk_1_L0.eq]; rfl
/-- slices.IndexFunc[[]int,int] -/
noncomputable def slices_IndexFunc_int_int__impl_NatOk_1.b {α : Type} (N : Nat) (a404 : List Int) (k0 : Int → Option α) : Option α :=
  let x405 := ((a404.length : Nat) : Int)
  slices_IndexFunc_int_int__impl_NatOk_1_L0 N N a404 x405 (0 : Int)
    (fun x421 =>
      k0 x421)
    (
      k0 (-1 : Int))
theorem slices_IndexFunc_int_int__impl_NatOk_1.ex : ∃ f : ((α : Type) → Nat → List Int → (Int → Option α) → Option α), f = fun α => @slices_IndexFunc_int_int__impl_NatOk_1.b α := ⟨_, rfl⟩
noncomputable def slices_IndexFunc_int_int__impl_NatOk_1 {α : Type} : Nat → List Int → (Int → Option α) → Option α := Classical.choose slices_IndexFunc_int_int__impl_NatOk_1.ex α
theorem slices_IndexFunc_int_int__impl_NatOk_1.eq : @slices_IndexFunc_int_int__impl_NatOk_1 = @slices_IndexFunc_int_int__impl_NatOk_1.b := funext fun α => congrFun (Classical.choose_spec slices_IndexFunc_int_int__impl_NatOk_1.ex) α

/-- slices.ContainsFunc[[]int,int] -/
noncomputable def slices_ContainsFunc_int_int__impl_NatOk_1.b {α : Type} (N : Nat) (a403 : List Int) (k0 : Bool → Option α) : Option α :=
  slices_IndexFunc_int_int__impl_NatOk_1 N a403
    (fun x422 =>
      let x423 := (decide ((0 : Int) ≤ x422))
      k0 x423)
theorem slices_ContainsFunc_int_int__impl_NatOk_1.ex : ∃ f : ((α : Type) → Nat → List Int → (Bool → Option α) → Option α), f = fun α => @slices_ContainsFunc_int_int__impl_NatOk_1.b α := ⟨_, rfl⟩
noncomputable def slices_ContainsFunc_int_int__impl_NatOk_1 {α : Type} : Nat → List Int → (Bool → Option α) → Option α := Classical.choose slices_ContainsFunc_int_int__impl_NatOk_1.ex α
theorem slices_ContainsFunc_int_int__impl_NatOk_1.eq : @slices_ContainsFunc_int_int__impl_NatOk_1 = @slices_ContainsFunc_int_int__impl_NatOk_1.b := funext fun α => congrFun (Classical.choose_spec slices_ContainsFunc_int_int__impl_NatOk_1.ex) α

/-- loop.example/pinfold/impl.NatOk -/
noncomputable def impl_NatOk.b {α : Type} (N : Nat) (a398 : List Int) (k0 : Bool → Option α) : Option α :=
  let x399 := ((a398.length : Nat) : Int)
  let x400 := (decide (x399 ≤ (256 : Int)))
  bif x400 then
    let x401 := ((a398.length : Nat) : Int)
    let x402 := (decide (x401 = (0 : Int)))
    bif x402 then
      slices_ContainsFunc_int_int__impl_NatOk_1 N a398
        (fun x424 =>
          let x425 := !x424
          k0 x425)
    else
      let x426 := ((a398.length : Nat) : Int)
      let x427 := (IntKind.i64.wrap (x426 - (1 : Int)))
      bif (decide (x427 < (0 : Int))) then
        none
      else
        match a398[x427.toNat]? with
        | some x428 =>
          let x429 := (!(decide (x428 = (0 : Int))))
          bif x429 then
            slices_ContainsFunc_int_int__impl_NatOk_1 N a398
              (fun x430 =>
                let x431 := !x430
                k0 x431)
          else
            k0 false
        | none => none
  else
    k0 false
theorem impl_NatOk.ex : ∃ f : ((α : Type) → Nat → List Int → (Bool → Option α) → Option α), f = fun α => @impl_NatOk.b α := ⟨_, rfl⟩
noncomputable def impl_NatOk {α : Type} : Nat → List Int → (Bool → Option α) → Option α := Classical.choose impl_NatOk.ex α
theorem impl_NatOk.eq : @impl_NatOk = @impl_NatOk.b := funext fun α => congrFun (Classical.choose_spec impl_NatOk.ex) α

/-- loop.example/pinfold/impl.nats$1 -/
noncomputable def impl_nats_1.b {α : Type} (N : Nat) (a397 : List Int) (k0 : Bool → Option α) : Option α :=
  impl_NatOk N a397
    (fun x432 =>
      let x433 := !x432
      k0 x433)
theorem impl_nats_1.ex : ∃ f : ((α : Type) → Nat → List Int → (Bool → Option α) → Option α), f = fun α => @impl_nats_1.b α := ⟨_, rfl⟩
noncomputable def impl_nats_1 {α : Type} : Nat → List Int → (Bool → Option α) → Option α := Classical.choose impl_nats_1.ex α
theorem impl_nats_1.eq : @impl_nats_1 = @impl_nats_1.b := funext fun α => congrFun (Classical.choose_spec impl_nats_1.ex) α

noncomputable def slices_IndexFunc_int_int__impl_nats_1_L0r {α : Type} (N : Nat) (next : List (List Int) → Int → Int → Option α) (k0 : Int → Option α) (k1 : Option α) (v392 : List (List Int)) (v393 : Int) (v394 : Int) : Option α :=
  let x395 := decide (v394 < v393)
  bif x395 then
    bif (decide (v394 < (0 : Int))) then
      none
    else
      match v392[v394.toNat]? with
      | some x396 =>
        impl_nats_1 N x396
          (fun x434 =>
            bif x434 then
              k0 v394
            else
              let x435 := (IntKind.i64.wrap (v394 + (1 : Int)))
              next v392 v393 x435)
      | none => none
  else
    k1
noncomputable def slices_IndexFunc_int_int__impl_nats_1_L0.b {α : Type} (N n : Nat) (v392 : List (List Int)) (v393 : Int) (v394 : Int) (k0 : Int → Option α) (k1 : Option α) : Option α :=
  Nat.rec (motive := fun _ => List (List Int) → Int → Int → Option α) (fun _ _ _ => none) (fun _ next => slices_IndexFunc_int_int__impl_nats_1_L0r N next k0 k1) n v392 v393 v394
theorem slices_IndexFunc_int_int__impl_nats_1_L0.ex : ∃ f : ((α : Type) → Nat → Nat → List (List Int) → Int → Int → (Int → Option α) → (Option α) → Option α), f = fun α => @slices_IndexFunc_int_int__impl_nats_1_L0.b α := ⟨_, rfl⟩
noncomputable def slices_IndexFunc_int_int__impl_nats_1_L0 {α : Type} : Nat → Nat → List (List Int) → Int → Int → (Int → Option α) → (Option α) → Option α := Classical.choose slices_IndexFunc_int_int__impl_nats_1_L0.ex α
theorem slices_IndexFunc_int_int__impl_nats_1_L0.eq : @slices_IndexFunc_int_int__impl_nats_1_L0 = @slices_IndexFunc_int_int__impl_nats_1_L0.b := funext fun α => congrFun (Classical.choose_spec slices_IndexFunc_int_int__impl_nats_1_L0.ex) α
theorem slices_IndexFunc_int_int__impl_nats_1_L0.zero {α : Type} (N : Nat) (v392 : List (List Int)) (v393 : Int) (v394 : Int) (k0 : Int → Option α) (k1 : Option α) : slices_IndexFunc_int_int__impl_nats_1_L0 N 0 v392 v393 v394 k0 k1 = none := by rw [slices_IndexFunc_int_int__impl_nats_1_L0.eq]; rfl
theorem slices_IndexFunc_int_int__impl_nats_1_L0.succ {α : Type} (N n : Nat) (v392 : List (List Int)) (v393 : Int) (v394 : Int) (k0 : Int → Option α) (k1 : Option α) : slices_IndexFunc_int_int__impl_nats_1_L0 N (n + 1) v392 v393 v394 k0 k1 = slices_IndexFunc_int_int__impl_nats_1_L0r N (fun y0 y1 y2 => slices_IndexFunc_int_int__impl_nats_1_L0 N n y0 y1 y2 k0 k1) k0 k1 v392 v393 v394 := by rw [slices_IndexFunc_int_int__impl_nats_1_L0.eq]; rfl
/-- slices.IndexFunc[[][]int,[]int] -/
noncomputable def slices_IndexFunc_int_int__impl_nats_1.b {α : Type} (N : Nat) (a390 : List (List Int)) (k0 : Int → Option α) : Option α :=
  let x391 := ((a390.length : Nat) : Int)
  slices_IndexFunc_int_int__impl_nats_1_L0 N N a390 x391 (0 : Int)
    (fun x436 =>
      k0 x436)
    (
      k0 (-1 : Int))
theorem slices_IndexFunc_int_int__impl_nats_1.ex : ∃ f : ((α : Type) → Nat → List (List Int) → (Int → Option α) → Option α), f = fun α => @slices_IndexFunc_int_int__impl_nats_1.b α := ⟨_, rfl⟩
noncomputable def slices_IndexFunc_int_int__impl_nats_1 {α : Type} : Nat → List (List Int) → (Int → Option α) → Option α := Classical.choose slices_IndexFunc_int_int__impl_nats_1.ex α
theorem slices_IndexFunc_int_int__impl_nats_1.eq : @slices_IndexFunc_int_int__impl_nats_1 = @slices_IndexFunc_int_int__impl_nats_1.b := funext fun α => congrFun (Classical.choose_spec slices_IndexFunc_int_int__impl_nats_1.ex) α

/-- slices.ContainsFunc[[][]int,[]int] -/
noncomputable def slices_ContainsFunc_int_int__impl_nats_1.b {α : Type} (N : Nat) (a389 : List (List Int)) (k0 : Bool → Option α) : Option α :=
  slices_IndexFunc_int_int__impl_nats_1 N a389
    (fun x437 =>
      let x438 := (decide ((0 : Int) ≤ x437))
      k0 x438)
theorem slices_ContainsFunc_int_int__impl_nats_1.ex : ∃ f : ((α : Type) → Nat → List (List Int) → (Bool → Option α) → Option α), f = fun α => @slices_ContainsFunc_int_int__impl_nats_1.b α := ⟨_, rfl⟩
noncomputable def slices_ContainsFunc_int_int__impl_nats_1 {α : Type} : Nat → List (List Int) → (Bool → Option α) → Option α := Classical.choose slices_ContainsFunc_int_int__impl_nats_1.ex α
theorem slices_ContainsFunc_int_int__impl_nats_1.eq : @slices_ContainsFunc_int_int__impl_nats_1 = @slices_ContainsFunc_int_int__impl_nats_1.b := funext fun α => congrFun (Classical.choose_spec slices_ContainsFunc_int_int__impl_nats_1.ex) α

/-- loop.example/pinfold/impl.nats -/
noncomputable def impl_nats.b {α : Type} (N : Nat) (a388 : List (List Int)) (k0 : Bool → Option α) : Option α :=
  slices_ContainsFunc_int_int__impl_nats_1 N a388
    (fun x439 =>
      let x440 := !x439
      k0 x440)
theorem impl_nats.ex : ∃ f : ((α : Type) → Nat → List (List Int) → (Bool → Option α) → Option α), f = fun α => @impl_nats.b α := ⟨_, rfl⟩
noncomputable def impl_nats {α : Type} : Nat → List (List Int) → (Bool → Option α) → Option α := Classical.choose impl_nats.ex α
theorem impl_nats.eq : @impl_nats = @impl_nats.b := funext fun α => congrFun (Classical.choose_spec impl_nats.ex) α

noncomputable def impl_natCmp_L0r {α : Type} (N : Nat) (next : List Int → List Int → Int → Option α) (k0 : Int → Option α) (k1 : Option α) (v528 : List Int) (v529 : List Int) (v530 : Int) : Option α :=
  let x531 := (decide ((0 : Int) ≤ v530))
  bif x531 then
    bif (decide (v530 < (0 : Int))) then
      none
    else
      match v528[v530.toNat]? with
      | some x532 =>
        bif (decide (v530 < (0 : Int))) then
          none
        else
          match v529[v530.toNat]? with
          | some x533 =>
            let x534 := !(decide (x532 = x533))
            bif x534 then
              bif (decide (v530 < (0 : Int))) then
                none
              else
                match v528[v530.toNat]? with
                | some x535 =>
                  bif (decide (v530 < (0 : Int))) then
                    none
                  else
                    match v529[v530.toNat]? with
                    | some x536 =>
                      let x537 := IntKind.i64.wrap (x535 - x536)
                      let x538 := (minI (1 : Int) x537)
                      let x539 := (maxI (-1 : Int) x538)
                      k0 x539
                    | none => none
                | none => none
            else
              let x540 := (IntKind.i64.wrap (v530 - (1 : Int)))
              next v528 v529 x540
          | none => none
      | none => none
  else
    k1
noncomputable def impl_natCmp_L0.b {α : Type} (N n : Nat) (v528 : List Int) (v529 : List Int) (v530 : Int) (k0 : Int → Option α) (k1 : Option α) : Option α :=
  Nat.rec (motive := fun _ => List Int → List Int → Int → Option α) (fun _ _ _ => none) (fun _ next => impl_natCmp_L0r N next k0 k1) n v528 v529 v530
theorem impl_natCmp_L0.ex : ∃ f : ((α : Type) → Nat → Nat → List Int → List Int → Int → (Int → Option α) → (Option α) → Option α), f = fun α => @impl_natCmp_L0.b α := ⟨_, rfl⟩
noncomputable def impl_natCmp_L0 {α : Type} : Nat → Nat → List Int → List Int → Int → (Int → Option α) → (Option α) → Option α := Classical.choose impl_natCmp_L0.ex α
theorem impl_natCmp_L0.eq : @impl_natCmp_L0 = @impl_natCmp_L0.b := funext fun α => congrFun (Classical.choose_spec impl_natCmp_L0.ex) α
theorem impl_natCmp_L0.zero {α : Type} (N : Nat) (v528 : List Int) (v529 : List Int) (v530 : Int) (k0 : Int → Option α) (k1 : Option α) : impl_natCmp_L0 N 0 v528 v529 v530 k0 k1 = none := by rw [impl_natCmp_L0.eq]; rfl
theorem impl_natCmp_L0.succ {α : Type} (N n : Nat) (v528 : List Int) (v529 : List Int) (v530 : Int) (k0 : Int → Option α) (k1 : Option α) : impl_natCmp_L0 N (n + 1) v528 v529 v530 k0 k1 = impl_natCmp_L0r N (fun y0 y1 y2 => impl_natCmp_L0 N n y0 y1 y2 k0 k1) k0 k1 v528 v529 v530 := by rw [impl_natCmp_L0.eq]; rfl
/-- loop.example/pinfold/impl.natCmp -/
noncomputable def impl_natCmp.b {α : Type} (N : Nat) (a516 : List Int) (a517 : List Int) (k0 : Int → Option α) : Option α :=
  let x518 := ((a516.length : Nat) : Int)
  let x519 := ((a517.length : Nat) : Int)
  let x520 := !(decide (x518 = x519))
  bif x520 then
    let x521 := ((a516.length : Nat) : Int)
    let x522 := ((a517.length : Nat) : Int)
    let x523 := IntKind.i64.wrap (x521 - x522)
    let x524 := (minI (1 : Int) x523)
    let x525 := (maxI (-1 : Int) x524)
    k0 x525
  else
    let x526 := ((a516.length : Nat) : Int)
    let x527 := (IntKind.i64.wrap (x526 - (1 : Int)))
    impl_natCmp_L0 N N a516 a517 x527
      (fun x541 =>
        k0 x541)
      (
        k0 (0 : Int))
theorem impl_natCmp.ex : ∃ f : ((α : Type) → Nat → List Int → List Int → (Int → Option α) → Option α), f = fun α => @impl_natCmp.b α := ⟨_, rfl⟩
noncomputable def impl_natCmp {α : Type} : Nat → List Int → List Int → (Int → Option α) → Option α := Classical.choose impl_natCmp.ex α
theorem impl_natCmp.eq : @impl_natCmp = @impl_natCmp.b := funext fun α => congrFun (Classical.choose_spec impl_natCmp.ex) α

noncomputable def impl_trim_L0r {α : Type} (N : Nat) (next : List Int → Option α) (k0 : List Int → Option α) (v569 : List Int) : Option α :=
  let x570 := ((v569.length : Nat) : Int)
  let x571 := (decide ((0 : Int) < x570))
  bif x571 then
    let x572 := ((v569.length : Nat) : Int)
    let x573 := (IntKind.i64.wrap (x572 - (1 : Int)))
    bif (decide (x573 < (0 : Int))) then
      none
    else
      match v569[x573.toNat]? with
      | some x574 =>
        let x575 := (decide (x574 = (0 : Int)))
        bif x575 then
          let x576 := ((v569.length : Nat) : Int)
          let x577 := (IntKind.i64.wrap (x576 - (1 : Int)))
          bif (decide ((0 : Int) ≤ x577)) then
            bif (decide (x577 ≤ ((v569.length : Nat) : Int))) then
              let x578 := v569.take x577.toNat
              next x578
            else
              none
          else
            none
        else
          k0 v569
      | none => none
  else
    k0 v569
noncomputable def impl_trim_L0.b {α : Type} (N n : Nat) (v569 : List Int) (k0 : List Int → Option α) : Option α :=
  Nat.rec (motive := fun _ => List Int → Option α) (fun _ => none) (fun _ next => impl_trim_L0r N next k0) n v569
theorem impl_trim_L0.ex : ∃ f : ((α : Type) → Nat → Nat → List Int → (List Int → Option α) → Option α), f = fun α => @impl_trim_L0.b α := ⟨_, rfl⟩
noncomputable def impl_trim_L0 {α : Type} : Nat → Nat → List Int → (List Int → Option α) → Option α := Classical.choose impl_trim_L0.ex α
theorem impl_trim_L0.eq : @impl_trim_L0 = @impl_trim_L0.b := funext fun α => congrFun (Classical.choose_spec impl_trim_L0.ex) α
theorem impl_trim_L0.zero {α : Type} (N : Nat) (v569 : List Int) (k0 : List Int → Option α) : impl_trim_L0 N 0 v569 k0 = none := by rw [impl_trim_L0.eq]; rfl
theorem impl_trim_L0.succ {α : Type} (N n : Nat) (v569 : List Int) (k0 : List Int → Option α) : impl_trim_L0 N (n + 1) v569 k0 = impl_trim_L0r N (fun y0 => impl_trim_L0 N n y0 k0) k0 v569 := by rw [impl_trim_L0.eq]; rfl
/-- loop.example/pinfold/impl.trim -/
noncomputable def impl_trim.b {α : Type} (N : Nat) (a568 : List Int) (k0 : List Int → Option α) : Option α :=
  impl_trim_L0 N N a568
    (fun x579 =>
      k0 x579)
theorem impl_trim.ex : ∃ f : ((α : Type) → Nat → List Int → (List Int → Option α) → Option α), f = fun α => @impl_trim.b α := ⟨_, rfl⟩
noncomputable def impl_trim {α : Type} : Nat → List Int → (List Int → Option α) → Option α := Classical.choose impl_trim.ex α
theorem impl_trim.eq : @impl_trim = @impl_trim.b := funext fun α => congrFun (Classical.choose_spec impl_trim.ex) α

noncomputable def math_bits_Len64_J1.b {α : Type} (N : Nat) (v589 : Int) (v590 : Int) (k0 : Int → Int → Option α) : Option α :=
  let x591 := (decide ((4294967296 : Int) ≤ v589))
  bif x591 then
    let x592 := (shrI .u64 v589 (32 : Int))
    k0 x592 (32 : Int)
  else
    k0 v589 v590
theorem math_bits_Len64_J1.ex : ∃ f : ((α : Type) → Nat → Int → Int → (Int → Int → Option α) → Option α), f = fun α => @math_bits_Len64_J1.b α := ⟨_, rfl⟩
noncomputable def math_bits_Len64_J1 {α : Type} : Nat → Int → Int → (Int → Int → Option α) → Option α := Classical.choose math_bits_Len64_J1.ex α
theorem math_bits_Len64_J1.eq : @math_bits_Len64_J1 = @math_bits_Len64_J1.b := funext fun α => congrFun (Classical.choose_spec math_bits_Len64_J1.ex) α
noncomputable def math_bits_Len64_J4.b {α : Type} (N : Nat) (v595 : Int) (v596 : Int) (k0 : Int → Int → Option α) : Option α :=
  let x597 := (decide ((65536 : Int) ≤ v595))
  bif x597 then
    let x598 := (shrI .u64 v595 (16 : Int))
    let x599 := (IntKind.i64.wrap (v596 + (16 : Int)))
    k0 x598 x599
  else
    k0 v595 v596
theorem math_bits_Len64_J4.ex : ∃ f : ((α : Type) → Nat → Int → Int → (Int → Int → Option α) → Option α), f = fun α => @math_bits_Len64_J4.b α := ⟨_, rfl⟩
noncomputable def math_bits_Len64_J4 {α : Type} : Nat → Int → Int → (Int → Int → Option α) → Option α := Classical.choose math_bits_Len64_J4.ex α
theorem math_bits_Len64_J4.eq : @math_bits_Len64_J4 = @math_bits_Len64_J4.b := funext fun α => congrFun (Classical.choose_spec math_bits_Len64_J4.ex) α
noncomputable def math_bits_Len64_J7.b {α : Type} (N : Nat) (v602 : Int) (v603 : Int) (k0 : Int → Int → Option α) : Option α :=
  let x604 := (decide ((256 : Int) ≤ v602))
  bif x604 then
    let x605 := (shrI .u64 v602 (8 : Int))
    let x606 := (IntKind.i64.wrap (v603 + (8 : Int)))
    k0 x605 x606
  else
    k0 v602 v603
theorem math_bits_Len64_J7.ex : ∃ f : ((α : Type) → Nat → Int → Int → (Int → Int → Option α) → Option α), f = fun α => @math_bits_Len64_J7.b α := ⟨_, rfl⟩
noncomputable def math_bits_Len64_J7 {α : Type} : Nat → Int → Int → (Int → Int → Option α) → Option α := Classical.choose math_bits_Len64_J7.ex α
theorem math_bits_Len64_J7.eq : @math_bits_Len64_J7 = @math_bits_Len64_J7.b := funext fun α => congrFun (Classical.choose_spec math_bits_Len64_J7.ex) α
/-- math/bits.Len64 -/
noncomputable def math_bits_Len64.b {α : Type} (N : Nat) (a588 : Int) (k0 : Int → Option α) : Option α :=
  math_bits_Len64_J1 N a588 (0 : Int)
    (fun x593 x594 =>
      math_bits_Len64_J4 N x593 x594
        (fun x600 x601 =>
          math_bits_Len64_J7 N x600 x601
            (fun x607 x608 =>
              let x609 := IntKind.u8.wrap x607
              bif (decide (x609 < (0 : Int))) then
                none
              else
                match ((⟨#[0, 1, 2, 2, 3, 3, 3, 3, 4, 4, 4, 4, 4, 4, 4, 4, 5, 5, 5, 5, 5, 5, 5, 5, 5, 5, 5, 5, 5, 5, 5, 5, 6, 6, 6, 6, 6, 6, 6, 6, 6, 6, 6, 6, 6, 6, 6, 6, 6, 6, 6, 6, 6, 6, 6, 6, 6, 6, 6, 6, 6, 6, 6, 6, 7, 7, 7, 7, 7, 7, 7, 7, 7, 7, 7, 7, 7, 7, 7, 7, 7, 7, 7, 7, 7, 7, 7, 7, 7, 7, 7, 7, 7, 7, 7, 7, 7, 7, 7, 7, 7, 7, 7, 7, 7, 7, 7, 7, 7, 7, 7, 7, 7, 7, 7, 7, 7, 7, 7, 7, 7, 7, 7, 7, 7, 7, 7, 7, 8, 8, 8, 8, 8, 8, 8, 8, 8, 8, 8, 8, 8, 8, 8, 8, 8, 8, 8, 8, 8, 8, 8, 8, 8, 8, 8, 8, 8, 8, 8, 8, 8, 8, 8, 8, 8, 8, 8, 8, 8, 8, 8, 8, 8, 8, 8, 8, 8, 8, 8, 8, 8, 8, 8, 8, 8, 8, 8, 8, 8, 8, 8, 8, 8, 8, 8, 8, 8, 8, 8, 8, 8, 8, 8, 8, 8, 8, 8, 8, 8, 8, 8, 8, 8, 8, 8, 8, 8, 8, 8, 8, 8, 8, 8, 8, 8, 8, 8, 8, 8, 8, 8, 8, 8, 8, 8, 8, 8, 8, 8, 8, 8, 8, 8, 8, 8, 8, 8, 8, 8, 8, 8, 8, 8, 8, 8, 8]⟩ : ByteArray)[x609.toNat]? : Option UInt8) with
                | some x610 =>
                  let x611 := ((x610.toNat : Nat) : Int)
                  let x612 := IntKind.i64.wrap x611
                  let x613 := IntKind.i64.wrap (x608 + x612)
                  k0 x613
                | none => none)))
theorem math_bits_Len64.ex : ∃ f : ((α : Type) → Nat → Int → (Int → Option α) → Option α), f = fun α => @math_bits_Len64.b α := ⟨_, rfl⟩
noncomputable def math_bits_Len64 {α : Type} : Nat → Int → (Int → Option α) → Option α := Classical.choose math_bits_Len64.ex α
theorem math_bits_Len64.eq : @math_bits_Len64 = @math_bits_Len64.b := funext fun α => congrFun (Classical.choose_spec math_bits_Len64.ex) α

/-- math/bits.Len -/
noncomputable def math_bits_Len.b {α : Type} (N : Nat) (a587 : Int) (k0 : Int → Option α) : Option α :=
  math_bits_Len64 N a587
    (fun x614 =>
      k0 x614)
theorem math_bits_Len.ex : ∃ f : ((α : Type) → Nat → Int → (Int → Option α) → Option α), f = fun α => @math_bits_Len.b α := ⟨_, rfl⟩
noncomputable def math_bits_Len {α : Type} : Nat → Int → (Int → Option α) → Option α := Classical.choose math_bits_Len.ex α
theorem math_bits_Len.eq : @math_bits_Len = @math_bits_Len.b := funext fun α => congrFun (Classical.choose_spec math_bits_Len.ex) α

/-- slices.Clone[[]int,int] -/
noncomputable def slices_Clone_int_int {α : Type} (N : Nat) (a1 : List Int) (k0 : List Int → Option α) : Option α :=
  bif decide (([] : List Int).length + a1.length ≤ 8796093022208) then k0 a1 else none

noncomputable def impl_natShift_J10.b {α : Type} (N : Nat) (v693 : List Int) (v694 : Int) (v695 : Int) (v696 : Int) (v697 : Int) (v698 : Int) (v699 : List Int) (k0 : List Int → Int → Int → Int → Int → List Int → Option α) : Option α :=
  let x700 := IntKind.i64.wrap (v694 + v696)
  let x701 := (IntKind.i64.wrap (x700 + (1 : Int)))
  let x702 := ((v693.length : Nat) : Int)
  let x703 := decide (x701 < x702)
  bif x703 then
    bif (decide (v696 < (0 : Int))) then
      none
    else
      bif decide (v696.toNat < v699.length) then
        match v699[v696.toNat]? with
        | some x704 =>
          let x705 := IntKind.i64.wrap (v694 + v696)
          let x706 := (IntKind.i64.wrap (x705 + (1 : Int)))
          bif (decide (x706 < (0 : Int))) then
            none
          else
            match v693[x706.toNat]? with
            | some x707 =>
              let x708 := (IntKind.i64.wrap ((16 : Int) - v695))
              bif (decide (x708 < (0 : Int))) then
                none
              else
                let x709 := shlI .i64 x707 x708
                let x710 := (bitI .and .i64 x709 (65535 : Int))
                let x711 := bitI .or .i64 x704 x710
                bif (decide (v696 < (0 : Int))) then
                  none
                else
                  bif decide (v696.toNat < v699.length) then
                    match v699[v696.toNat]? with
                    | some x712 =>
                      let x713 := v699.set v696.toNat x711
                      k0 v693 v694 v695 v697 v698 x713
                    | none => none
                  else
                    none
            | none => none
        | none => none
      else
        none
  else
    k0 v693 v694 v695 v697 v698 v699
theorem impl_natShift_J10.ex : ∃ f : ((α : Type) → Nat → List Int → Int → Int → Int → Int → Int → List Int → (List Int → Int → Int → Int → Int → List Int → Option α) → Option α), f = fun α => @impl_natShift_J10.b α := ⟨_, rfl⟩
noncomputable def impl_natShift_J10 {α : Type} : Nat → List Int → Int → Int → Int → Int → Int → List Int → (List Int → Int → Int → Int → Int → List Int → Option α) → Option α := Classical.choose impl_natShift_J10.ex α
theorem impl_natShift_J10.eq : @impl_natShift_J10 = @impl_natShift_J10.b := funext fun α => congrFun (Classical.choose_spec impl_natShift_J10.ex) α
noncomputable def impl_natShift_L0r {α : Type} (N : Nat) (next : List Int → Int → Int → Int → Int → List Int → Option α) (k0 : List Int → Option α) (v682 : List Int) (v683 : Int) (v684 : Int) (v685 : Int) (v686 : Int) (v687 : List Int) : Option α :=
  let x688 := decide (v686 < v685)
  bif x688 then
    bif (decide (v686 < (0 : Int))) then
      none
    else
      bif decide (v686.toNat < v687.length) then
        match v687[v686.toNat]? with
        | some x689 =>
          bif (decide (v684 < (0 : Int))) then
            none
          else
            let x690 := shrI .i64 x689 v684
            bif (decide (v686 < (0 : Int))) then
              none
            else
              bif decide (v686.toNat < v687.length) then
                match v687[v686.toNat]? with
                | some x691 =>
                  let x692 := v687.set v686.toNat x690
                  impl_natShift_J10 N v682 v683 v684 v686 v685 v686 x692
                    (fun x714 x715 x716 x717 x718 x719 =>
                      let x720 := (IntKind.i64.wrap (x718 + (1 : Int)))
                      next x714 x715 x716 x717 x720 x719)
                | none => none
              else
                none
        | none => none
      else
        none
  else
    k0 v687
noncomputable def impl_natShift_L0.b {α : Type} (N n : Nat) (v682 : List Int) (v683 : Int) (v684 : Int) (v685 : Int) (v686 : Int) (v687 : List Int) (k0 : List Int → Option α) : Option α :=
  Nat.rec (motive := fun _ => List Int → Int → Int → Int → Int → List Int → Option α) (fun _ _ _ _ _ _ => none) (fun _ next => impl_natShift_L0r N next k0) n v682 v683 v684 v685 v686 v687
theorem impl_natShift_L0.ex : ∃ f : ((α : Type) → Nat → Nat → List Int → Int → Int → Int → Int → List Int → (List Int → Option α) → Option α), f = fun α => @impl_natShift_L0.b α := ⟨_, rfl⟩
noncomputable def impl_natShift_L0 {α : Type} : Nat → Nat → List Int → Int → Int → Int → Int → List Int → (List Int → Option α) → Option α := Classical.choose impl_natShift_L0.ex α
theorem impl_natShift_L0.eq : @impl_natShift_L0 = @impl_natShift_L0.b := funext fun α => congrFun (Classical.choose_spec impl_natShift_L0.ex) α
theorem impl_natShift_L0.zero {α : Type} (N : Nat) (v682 : List Int) (v683 : Int) (v684 : Int) (v685 : Int) (v686 : Int) (v687 : List Int) (k0 : List Int → Option α) : impl_natShift_L0 N 0 v682 v683 v684 v685 v686 v687 k0 = none := by rw [impl_natShift_L0.eq]; rfl
theorem impl_natShift_L0.succ {α : Type} (N n : Nat) (v682 : List Int) (v683 : Int) (v684 : Int) (v685 : Int) (v686 : Int) (v687 : List Int) (k0 : List Int → Option α) : impl_natShift_L0 N (n + 1) v682 v683 v684 v685 v686 v687 k0 = impl_natShift_L0r N (fun y0 y1 y2 y3 y4 y5 => impl_natShift_L0 N n y0 y1 y2 y3 y4 y5 k0) k0 v682 v683 v684 v685 v686 v687 := by rw [impl_natShift_L0.eq]; rfl
noncomputable def impl_natShift_L2r {α : Type} (N : Nat) (next : Int → List Int → Int → Int → List Int → Option α) (k0 : List Int → Option α) (v729 : Int) (v730 : List Int) (v731 : Int) (v732 : Int) (v733 : List Int) : Option α :=
  let x734 := decide (v732 < v731)
  bif x734 then
    bif (decide (v732 < (0 : Int))) then
      none
    else
      match v730[v732.toNat]? with
      | some x735 =>
        let x736 := (Int.tmod v729 (16 : Int))
        bif (decide (x736 < (0 : Int))) then
          none
        else
          let x737 := shlI .i64 x735 x736
          let x738 := (IntKind.i64.wrap (Int.tdiv v729 (16 : Int)))
          let x739 := IntKind.i64.wrap (x738 + v732)
          bif (decide (x739 < (0 : Int))) then
            none
          else
            bif decide (x739.toNat < v733.length) then
              match v733[x739.toNat]? with
              | some x740 =>
                let x741 := (bitI .and .i64 x737 (65535 : Int))
                let x742 := bitI .or .i64 x740 x741
                bif (decide (x739 < (0 : Int))) then
                  none
                else
                  bif decide (x739.toNat < v733.length) then
                    match v733[x739.toNat]? with
                    | some x743 =>
                      let x744 := v733.set x739.toNat x742
                      let x745 := (IntKind.i64.wrap (Int.tdiv v729 (16 : Int)))
                      let x746 := IntKind.i64.wrap (x745 + v732)
                      let x747 := (IntKind.i64.wrap (x746 + (1 : Int)))
                      let x748 := (shrI .i64 x737 (16 : Int))
                      bif (decide (x747 < (0 : Int))) then
                        none
                      else
                        bif decide (x747.toNat < x744.length) then
                          match x744[x747.toNat]? with
                          | some x749 =>
                            let x750 := x744.set x747.toNat x748
                            let x751 := (IntKind.i64.wrap (v732 + (1 : Int)))
                            next v729 v730 v731 x751 x750
                          | none => none
                        else
                          none
                    | none => none
                  else
                    none
              | none => none
            else
              none
      | none => none
  else
    k0 v733
noncomputable def impl_natShift_L2.b {α : Type} (N n : Nat) (v729 : Int) (v730 : List Int) (v731 : Int) (v732 : Int) (v733 : List Int) (k0 : List Int → Option α) : Option α :=
  Nat.rec (motive := fun _ => Int → List Int → Int → Int → List Int → Option α) (fun _ _ _ _ _ => none) (fun _ next => impl_natShift_L2r N next k0) n v729 v730 v731 v732 v733
theorem impl_natShift_L2.ex : ∃ f : ((α : Type) → Nat → Nat → Int → List Int → Int → Int → List Int → (List Int → Option α) → Option α), f = fun α => @impl_natShift_L2.b α := ⟨_, rfl⟩
noncomputable def impl_natShift_L2 {α : Type} : Nat → Nat → Int → List Int → Int → Int → List Int → (List Int → Option α) → Option α := Classical.choose impl_natShift_L2.ex α
theorem impl_natShift_L2.eq : @impl_natShift_L2 = @impl_natShift_L2.b := funext fun α => congrFun (Classical.choose_spec impl_natShift_L2.ex) α
theorem impl_natShift_L2.zero {α : Type} (N : Nat) (v729 : Int) (v730 : List Int) (v731 : Int) (v732 : Int) (v733 : List Int) (k0 : List Int → Option α) : impl_natShift_L2 N 0 v729 v730 v731 v732 v733 k0 = none := by rw [impl_natShift_L2.eq]; rfl
theorem impl_natShift_L2.succ {α : Type} (N n : Nat) (v729 : Int) (v730 : List Int) (v731 : Int) (v732 : Int) (v733 : List Int) (k0 : List Int → Option α) : impl_natShift_L2 N (n + 1) v729 v730 v731 v732 v733 k0 = impl_natShift_L2r N (fun y0 y1 y2 y3 y4 => impl_natShift_L2 N n y0 y1 y2 y3 y4 k0) k0 v729 v730 v731 v732 v733 := by rw [impl_natShift_L2.eq]; rfl
/-- loop.example/pinfold/impl.natShift -/
noncomputable def impl_natShift.b {α : Type} (N : Nat) (a670 : List Int) (a671 : Int) (k0 : List Int → Option α) : Option α :=
  let x672 := (decide (a671 < (0 : Int)))
  bif x672 then
    let x673 := IntKind.i64.wrap (0 - a671)
    let x674 := (IntKind.i64.wrap (Int.tdiv x673 (16 : Int)))
    let x675 := IntKind.i64.wrap (0 - a671)
    let x676 := (Int.tmod x675 (16 : Int))
    let x677 := ((a670.length : Nat) : Int)
    let x678 := decide (x677 ≤ x674)
    bif x678 then
      k0 []
    else
      bif (decide ((0 : Int) ≤ x674)) then
        bif (decide (x674 ≤ ((a670.length : Nat) : Int))) then
          let x679 := a670.drop x674.toNat
          slices_Clone_int_int N x679
            (fun x680 =>
              let x681 := ((x680.length : Nat) : Int)
              impl_natShift_L0 N N a670 x674 x676 x681 (0 : Int) x680
                (fun x721 =>
                  impl_trim N x721
                    (fun x722 =>
                      k0 x722)))
        else
          none
      else
        none
  else
    let x723 := (IntKind.i64.wrap (Int.tdiv a671 (16 : Int)))
    let x724 := ((a670.length : Nat) : Int)
    let x725 := IntKind.i64.wrap (x723 + x724)
    let x726 := (IntKind.i64.wrap (x725 + (1 : Int)))
    bif (decide ((0 : Int) ≤ x726)) then
      bif decide (x726 ≤ x726) then
        bif (decide (x726 ≤ ((8796093022208 : Nat) : Int))) then
          let x727 := (List.replicate x726.toNat (0 : Int))
          let x728 := ((a670.length : Nat) : Int)
          impl_natShift_L2 N N a671 a670 x728 (0 : Int) x727
            (fun x752 =>
              impl_trim N x752
                (fun x753 =>
                  k0 x753))
        else
          none
      else
        none
    else
      none
theorem impl_natShift.ex : ∃ f : ((α : Type) → Nat → List Int → Int → (List Int → Option α) → Option α), f = fun α => @impl_natShift.b α := ⟨_, rfl⟩
noncomputable def impl_natShift {α : Type} : Nat → List Int → Int → (List Int → Option α) → Option α := Classical.choose impl_natShift.ex α
theorem impl_natShift.eq : @impl_natShift = @impl_natShift.b := funext fun α => congrFun (Classical.choose_spec impl_natShift.ex) α

noncomputable def impl_natDiv_L0r {α : Type} (N : Nat) (next : List Int → List Int → Int → Int → List Int → Option α) (k0 : Int → List Int → Option α) (v550 : List Int) (v551 : List Int) (v552 : Int) (v553 : Int) (v554 : List Int) : Option α :=
  let x555 := (decide ((0 : Int) ≤ v553))
  bif x555 then
    let x556 := (shlI .i64 v552 (16 : Int))
    bif (decide (v553 < (0 : Int))) then
      none
    else
      match v550[v553.toNat]? with
      | some x557 =>
        let x558 := bitI .or .i64 x556 x557
        match v551[0]? with
        | some x559 =>
          bif (decide (x559 = (0 : Int))) then
            none
          else
            let x560 := IntKind.i64.wrap (Int.tdiv x558 x559)
            match v551[0]? with
            | some x561 =>
              bif (decide (x561 = (0 : Int))) then
                none
              else
                let x562 := Int.tmod x558 x561
                bif (decide (v553 < (0 : Int))) then
                  none
                else
                  bif decide (v553.toNat < v554.length) then
                    match v554[v553.toNat]? with
                    | some x563 =>
                      let x564 := v554.set v553.toNat x560
                      let x565 := (IntKind.i64.wrap (v553 - (1 : Int)))
                      next v550 v551 x562 x565 x564
                    | none => none
                  else
                    none
            | none => none
        | none => none
      | none => none
  else
    k0 v552 v554
noncomputable def impl_natDiv_L0.b {α : Type} (N n : Nat) (v550 : List Int) (v551 : List Int) (v552 : Int) (v553 : Int) (v554 : List Int) (k0 : Int → List Int → Option α) : Option α :=
  Nat.rec (motive := fun _ => List Int → List Int → Int → Int → List Int → Option α) (fun _ _ _ _ _ => none) (fun _ next => impl_natDiv_L0r N next k0) n v550 v551 v552 v553 v554
theorem impl_natDiv_L0.ex : ∃ f : ((α : Type) → Nat → Nat → List Int → List Int → Int → Int → List Int → (Int → List Int → Option α) → Option α), f = fun α => @impl_natDiv_L0.b α := ⟨_, rfl⟩
noncomputable def impl_natDiv_L0 {α : Type} : Nat → Nat → List Int → List Int → Int → Int → List Int → (Int → List Int → Option α) → Option α := Classical.choose impl_natDiv_L0.ex α
theorem impl_natDiv_L0.eq : @impl_natDiv_L0 = @impl_natDiv_L0.b := funext fun α => congrFun (Classical.choose_spec impl_natDiv_L0.ex) α
theorem impl_natDiv_L0.zero {α : Type} (N : Nat) (v550 : List Int) (v551 : List Int) (v552 : Int) (v553 : Int) (v554 : List Int) (k0 : Int → List Int → Option α) : impl_natDiv_L0 N 0 v550 v551 v552 v553 v554 k0 = none := by rw [impl_natDiv_L0.eq]; rfl
theorem impl_natDiv_L0.succ {α : Type} (N n : Nat) (v550 : List Int) (v551 : List Int) (v552 : Int) (v553 : Int) (v554 : List Int) (k0 : Int → List Int → Option α) : impl_natDiv_L0 N (n + 1) v550 v551 v552 v553 v554 k0 = impl_natDiv_L0r N (fun y0 y1 y2 y3 y4 => impl_natDiv_L0 N n y0 y1 y2 y3 y4 k0) k0 v550 v551 v552 v553 v554 := by rw [impl_natDiv_L0.eq]; rfl
noncomputable def impl_natDiv_L2r {α : Type} (N : Nat) (next : List Int → Int → List Int → Int → List Int → Option α) (k0 : Int → List Int → Int → List Int → Option α) (v760 : List Int) (v761 : Int) (v762 : List Int) (v763 : Int) (v764 : List Int) : Option α :=
  let x765 := ((v764.length : Nat) : Int)
  let x766 := ((v760.length : Nat) : Int)
  let x767 := (IntKind.i64.wrap (x766 + (1 : Int)))
  let x768 := decide (x765 < x767)
  bif x768 then
    let x769 := [(0 : Int)]
    bif decide (v764.length + x769.length ≤ 8796093022208) then
      let x770 := v764 ++ x769
      next v760 v761 v762 v763 x770
    else
      none
  else
    k0 v761 v762 v763 v764
noncomputable def impl_natDiv_L2.b {α : Type} (N n : Nat) (v760 : List Int) (v761 : Int) (v762 : List Int) (v763 : Int) (v764 : List Int) (k0 : Int → List Int → Int → List Int → Option α) : Option α :=
  Nat.rec (motive := fun _ => List Int → Int → List Int → Int → List Int → Option α) (fun _ _ _ _ _ => none) (fun _ next => impl_natDiv_L2r N next k0) n v760 v761 v762 v763 v764
theorem impl_natDiv_L2.ex : ∃ f : ((α : Type) → Nat → Nat → List Int → Int → List Int → Int → List Int → (Int → List Int → Int → List Int → Option α) → Option α), f = fun α => @impl_natDiv_L2.b α := ⟨_, rfl⟩
noncomputable def impl_natDiv_L2 {α : Type} : Nat → Nat → List Int → Int → List Int → Int → List Int → (Int → List Int → Int → List Int → Option α) → Option α := Classical.choose impl_natDiv_L2.ex α
theorem impl_natDiv_L2.eq : @impl_natDiv_L2 = @impl_natDiv_L2.b := funext fun α => congrFun (Classical.choose_spec impl_natDiv_L2.ex) α
theorem impl_natDiv_L2.zero {α : Type} (N : Nat) (v760 : List Int) (v761 : Int) (v762 : List Int) (v763 : Int) (v764 : List Int) (k0 : Int → List Int → Int → List Int → Option α) : impl_natDiv_L2 N 0 v760 v761 v762 v763 v764 k0 = none := by rw [impl_natDiv_L2.eq]; rfl
theorem impl_natDiv_L2.succ {α : Type} (N n : Nat) (v760 : List Int) (v761 : Int) (v762 : List Int) (v763 : Int) (v764 : List Int) (k0 : Int → List Int → Int → List Int → Option α) : impl_natDiv_L2 N (n + 1) v760 v761 v762 v763 v764 k0 = impl_natDiv_L2r N (fun y0 y1 y2 y3 y4 => impl_natDiv_L2 N n y0 y1 y2 y3 y4 k0) k0 v760 v761 v762 v763 v764 := by rw [impl_natDiv_L2.eq]; rfl
noncomputable def impl_natDiv_L6r {α : Type} (N : Nat) (next : Int → List Int → Int → Int → Int → Int → List Int → List Int → Option α) (k0 : Int → List Int → Int → Int → Int → List Int → List Int → Option α) (v801 : Int) (v802 : List Int) (v803 : Int) (v804 : Int) (v805 : Int) (v806 : Int) (v807 : List Int) (v808 : List Int) : Option α :=
  let x809 := (decide ((65536 : Int) ≤ v805))
  bif x809 then
    let x810 := (IntKind.i64.wrap (v805 - (1 : Int)))
    let x811 := (IntKind.i64.wrap (v803 - (1 : Int)))
    bif (decide (x811 < (0 : Int))) then
      none
    else
      match v802[x811.toNat]? with
      | some x812 =>
        let x813 := IntKind.i64.wrap (v806 + x812)
        let x814 := (decide ((65536 : Int) ≤ x813))
        bif x814 then
          k0 v801 v802 v803 v804 x810 v807 v808
        else
          next v801 v802 v803 v804 x810 x813 v807 v808
      | none => none
  else
    let x815 := (IntKind.i64.wrap (v803 - (2 : Int)))
    bif (decide (x815 < (0 : Int))) then
      none
    else
      match v802[x815.toNat]? with
      | some x816 =>
        let x817 := IntKind.i64.wrap (v805 * x816)
        let x818 := (shlI .i64 v806 (16 : Int))
        let x819 := IntKind.i64.wrap (v804 + v803)
        let x820 := (IntKind.i64.wrap (x819 - (2 : Int)))
        bif (decide (x820 < (0 : Int))) then
          none
        else
          bif decide (x820.toNat < v807.length) then
            match v807[x820.toNat]? with
            | some x821 =>
              let x822 := bitI .or .i64 x818 x821
              let x823 := decide (x822 < x817)
              bif x823 then
                let x824 := (IntKind.i64.wrap (v805 - (1 : Int)))
                let x825 := (IntKind.i64.wrap (v803 - (1 : Int)))
                bif (decide (x825 < (0 : Int))) then
                  none
                else
                  match v802[x825.toNat]? with
                  | some x826 =>
                    let x827 := IntKind.i64.wrap (v806 + x826)
                    let x828 := (decide ((65536 : Int) ≤ x827))
                    bif x828 then
                      k0 v801 v802 v803 v804 x824 v807 v808
                    else
                      next v801 v802 v803 v804 x824 x827 v807 v808
                  | none => none
              else
                k0 v801 v802 v803 v804 v805 v807 v808
            | none => none
          else
            none
      | none => none
noncomputable def impl_natDiv_L6.b {α : Type} (N n : Nat) (v801 : Int) (v802 : List Int) (v803 : Int) (v804 : Int) (v805 : Int) (v806 : Int) (v807 : List Int) (v808 : List Int) (k0 : Int → List Int → Int → Int → Int → List Int → List Int → Option α) : Option α :=
  Nat.rec (motive := fun _ => Int → List Int → Int → Int → Int → Int → List Int → List Int → Option α) (fun _ _ _ _ _ _ _ _ => none) (fun _ next => impl_natDiv_L6r N next k0) n v801 v802 v803 v804 v805 v806 v807 v808
theorem impl_natDiv_L6.ex : ∃ f : ((α : Type) → Nat → Nat → Int → List Int → Int → Int → Int → Int → List Int → List Int → (Int → List Int → Int → Int → Int → List Int → List Int → Option α) → Option α), f = fun α => @impl_natDiv_L6.b α := ⟨_, rfl⟩
noncomputable def impl_natDiv_L6 {α : Type} : Nat → Nat → Int → List Int → Int → Int → Int → Int → List Int → List Int → (Int → List Int → Int → Int → Int → List Int → List Int → Option α) → Option α := Classical.choose impl_natDiv_L6.ex α
theorem impl_natDiv_L6.eq : @impl_natDiv_L6 = @impl_natDiv_L6.b := funext fun α => congrFun (Classical.choose_spec impl_natDiv_L6.ex) α
theorem impl_natDiv_L6.zero {α : Type} (N : Nat) (v801 : Int) (v802 : List Int) (v803 : Int) (v804 : Int) (v805 : Int) (v806 : Int) (v807 : List Int) (v808 : List Int) (k0 : Int → List Int → Int → Int → Int → List Int → List Int → Option α) : impl_natDiv_L6 N 0 v801 v802 v803 v804 v805 v806 v807 v808 k0 = none := by rw [impl_natDiv_L6.eq]; rfl
theorem impl_natDiv_L6.succ {α : Type} (N n : Nat) (v801 : Int) (v802 : List Int) (v803 : Int) (v804 : Int) (v805 : Int) (v806 : Int) (v807 : List Int) (v808 : List Int) (k0 : Int → List Int → Int → Int → Int → List Int → List Int → Option α) : impl_natDiv_L6 N (n + 1) v801 v802 v803 v804 v805 v806 v807 v808 k0 = impl_natDiv_L6r N (fun y0 y1 y2 y3 y4 y5 y6 y7 => impl_natDiv_L6 N n y0 y1 y2 y3 y4 y5 y6 y7 k0) k0 v801 v802 v803 v804 v805 v806 v807 v808 := by rw [impl_natDiv_L6.eq]; rfl
noncomputable def impl_natDiv_J34.b {α : Type} (N : Nat) (v855 : Int) (v856 : List Int) (v857 : Int) (v858 : Int) (v859 : Int) (v860 : Int) (v861 : Int) (v862 : Int) (v863 : List Int) (v864 : Int) (v865 : Int) (v866 : List Int) (v867 : List Int) (k0 : Int → List Int → Int → Int → Int → Int → Int → Int → List Int → Int → Int → List Int → List Int → Option α) : Option α :=
  let x868 := (decide (v862 < (0 : Int)))
  bif x868 then
    let x869 := IntKind.i64.wrap (0 - v862)
    let x870 := (IntKind.i64.wrap (x869 + (65536 : Int)))
    let x871 := (IntKind.i64.wrap (x870 - (1 : Int)))
    let x872 := (IntKind.i64.wrap (Int.tdiv x871 (65536 : Int)))
    let x873 := (IntKind.i64.wrap (x872 * (65536 : Int)))
    let x874 := IntKind.i64.wrap (v862 + x873)
    k0 v855 v856 v857 v858 v859 x872 v861 x874 v863 v864 v865 v866 v867
  else
    k0 v855 v856 v857 v858 v859 v860 v861 v862 v863 v864 v865 v866 v867
theorem impl_natDiv_J34.ex : ∃ f : ((α : Type) → Nat → Int → List Int → Int → Int → Int → Int → Int → Int → List Int → Int → Int → List Int → List Int → (Int → List Int → Int → Int → Int → Int → Int → Int → List Int → Int → Int → List Int → List Int → Option α) → Option α), f = fun α => @impl_natDiv_J34.b α := ⟨_, rfl⟩
noncomputable def impl_natDiv_J34 {α : Type} : Nat → Int → List Int → Int → Int → Int → Int → Int → Int → List Int → Int → Int → List Int → List Int → (Int → List Int → Int → Int → Int → Int → Int → Int → List Int → Int → Int → List Int → List Int → Option α) → Option α := Classical.choose impl_natDiv_J34.ex α
theorem impl_natDiv_J34.eq : @impl_natDiv_J34 = @impl_natDiv_J34.b := funext fun α => congrFun (Classical.choose_spec impl_natDiv_J34.ex) α
noncomputable def impl_natDiv_L8r {α : Type} (N : Nat) (next : Int → List Int → Int → Int → Int → Int → List Int → Int → Int → List Int → List Int → Option α) (k0 : Int → List Int → Int → Int → Int → Int → List Int → List Int → Option α) (v837 : Int) (v838 : List Int) (v839 : Int) (v840 : Int) (v841 : Int) (v842 : Int) (v843 : List Int) (v844 : Int) (v845 : Int) (v846 : List Int) (v847 : List Int) : Option α :=
  let x848 := decide (v845 < v844)
  bif x848 then
    bif (decide (v845 < (0 : Int))) then
      none
    else
      match v843[v845.toNat]? with
      | some x849 =>
        let x850 := IntKind.i64.wrap (v840 + v845)
        bif (decide (x850 < (0 : Int))) then
          none
        else
          bif decide (x850.toNat < v846.length) then
            match v846[x850.toNat]? with
            | some x851 =>
              let x852 := IntKind.i64.wrap (x851 - v842)
              let x853 := IntKind.i64.wrap (v841 * x849)
              let x854 := IntKind.i64.wrap (x852 - x853)
              impl_natDiv_J34 N v837 v838 v839 v840 v841 (0 : Int) v845 x854 v843 v844 v845 v846 v847
                (fun x875 x876 x877 x878 x879 x880 x881 x882 x883 x884 x885 x886 x887 =>
                  let x888 := IntKind.i64.wrap (x878 + x881)
                  bif (decide (x888 < (0 : Int))) then
                    none
                  else
                    bif decide (x888.toNat < x886.length) then
                      match x886[x888.toNat]? with
                      | some x889 =>
                        let x890 := x886.set x888.toNat x882
                        let x891 := (IntKind.i64.wrap (x885 + (1 : Int)))
                        next x875 x876 x877 x878 x879 x880 x883 x884 x891 x890 x887
                      | none => none
                    else
                      none)
            | none => none
          else
            none
      | none => none
  else
    k0 v837 v838 v839 v840 v841 v842 v846 v847
noncomputable def impl_natDiv_L8.b {α : Type} (N n : Nat) (v837 : Int) (v838 : List Int) (v839 : Int) (v840 : Int) (v841 : Int) (v842 : Int) (v843 : List Int) (v844 : Int) (v845 : Int) (v846 : List Int) (v847 : List Int) (k0 : Int → List Int → Int → Int → Int → Int → List Int → List Int → Option α) : Option α :=
  Nat.rec (motive := fun _ => Int → List Int → Int → Int → Int → Int → List Int → Int → Int → List Int → List Int → Option α) (fun _ _ _ _ _ _ _ _ _ _ _ => none) (fun _ next => impl_natDiv_L8r N next k0) n v837 v838 v839 v840 v841 v842 v843 v844 v845 v846 v847
theorem impl_natDiv_L8.ex : ∃ f : ((α : Type) → Nat → Nat → Int → List Int → Int → Int → Int → Int → List Int → Int → Int → List Int → List Int → (Int → List Int → Int → Int → Int → Int → List Int → List Int → Option α) → Option α), f = fun α => @impl_natDiv_L8.b α := ⟨_, rfl⟩
noncomputable def impl_natDiv_L8 {α : Type} : Nat → Nat → Int → List Int → Int → Int → Int → Int → List Int → Int → Int → List Int → List Int → (Int → List Int → Int → Int → Int → Int → List Int → List Int → Option α) → Option α := Classical.choose impl_natDiv_L8.ex α
theorem impl_natDiv_L8.eq : @impl_natDiv_L8 = @impl_natDiv_L8.b := funext fun α => congrFun (Classical.choose_spec impl_natDiv_L8.ex) α
theorem impl_natDiv_L8.zero {α : Type} (N : Nat) (v837 : Int) (v838 : List Int) (v839 : Int) (v840 : Int) (v841 : Int) (v842 : Int) (v843 : List Int) (v844 : Int) (v845 : Int) (v846 : List Int) (v847 : List Int) (k0 : Int → List Int → Int → Int → Int → Int → List Int → List Int → Option α) : impl_natDiv_L8 N 0 v837 v838 v839 v840 v841 v842 v843 v844 v845 v846 v847 k0 = none := by rw [impl_natDiv_L8.eq]; rfl
theorem impl_natDiv_L8.succ {α : Type} (N n : Nat) (v837 : Int) (v838 : List Int) (v839 : Int) (v840 : Int) (v841 : Int) (v842 : Int) (v843 : List Int) (v844 : Int) (v845 : Int) (v846 : List Int) (v847 : List Int) (k0 : Int → List Int → Int → Int → Int → Int → List Int → List Int → Option α) : impl_natDiv_L8 N (n + 1) v837 v838 v839 v840 v841 v842 v843 v844 v845 v846 v847 k0 = impl_natDiv_L8r N (fun y0 y1 y2 y3 y4 y5 y6 y7 y8 y9 y10 => impl_natDiv_L8 N n y0 y1 y2 y3 y4 y5 y6 y7 y8 y9 y10 k0) k0 v837 v838 v839 v840 v841 v842 v843 v844 v845 v846 v847 := by rw [impl_natDiv_L8.eq]; rfl
noncomputable def impl_natDiv_L10r {α : Type} (N : Nat) (next : Int → List Int → Int → Int → Int → Int → List Int → Int → Int → List Int → List Int → Option α) (k0 : Int → List Int → Int → Int → Int → Int → List Int → List Int → Option α) (v917 : Int) (v918 : List Int) (v919 : Int) (v920 : Int) (v921 : Int) (v922 : Int) (v923 : List Int) (v924 : Int) (v925 : Int) (v926 : List Int) (v927 : List Int) : Option α :=
  let x928 := decide (v925 < v924)
  bif x928 then
    bif (decide (v925 < (0 : Int))) then
      none
    else
      match v923[v925.toNat]? with
      | some x929 =>
        let x930 := IntKind.i64.wrap (v920 + v925)
        bif (decide (x930 < (0 : Int))) then
          none
        else
          bif decide (x930.toNat < v926.length) then
            match v926[x930.toNat]? with
            | some x931 =>
              let x932 := IntKind.i64.wrap (x931 + x929)
              let x933 := IntKind.i64.wrap (x932 + v922)
              let x934 := IntKind.i64.wrap (v920 + v925)
              let x935 := (bitI .and .i64 x933 (65535 : Int))
              let x936 := (shrI .i64 x933 (16 : Int))
              bif (decide (x934 < (0 : Int))) then
                none
              else
                bif decide (x934.toNat < v926.length) then
                  match v926[x934.toNat]? with
                  | some x937 =>
                    let x938 := v926.set x934.toNat x935
                    let x939 := (IntKind.i64.wrap (v925 + (1 : Int)))
                    next v917 v918 v919 v920 v921 x936 v923 v924 x939 x938 v927
                  | none => none
                else
                  none
            | none => none
          else
            none
      | none => none
  else
    k0 v917 v918 v919 v920 v921 v922 v926 v927
noncomputable def impl_natDiv_L10.b {α : Type} (N n : Nat) (v917 : Int) (v918 : List Int) (v919 : Int) (v920 : Int) (v921 : Int) (v922 : Int) (v923 : List Int) (v924 : Int) (v925 : Int) (v926 : List Int) (v927 : List Int) (k0 : Int → List Int → Int → Int → Int → Int → List Int → List Int → Option α) : Option α :=
  Nat.rec (motive := fun _ => Int → List Int → Int → Int → Int → Int → List Int → Int → Int → List Int → List Int → Option α) (fun _ _ _ _ _ _ _ _ _ _ _ => none) (fun _ next => impl_natDiv_L10r N next k0) n v917 v918 v919 v920 v921 v922 v923 v924 v925 v926 v927
theorem impl_natDiv_L10.ex : ∃ f : ((α : Type) → Nat → Nat → Int → List Int → Int → Int → Int → Int → List Int → Int → Int → List Int → List Int → (Int → List Int → Int → Int → Int → Int → List Int → List Int → Option α) → Option α), f = fun α => @impl_natDiv_L10.b α := ⟨_, rfl⟩
noncomputable def impl_natDiv_L10 {α : Type} : Nat → Nat → Int → List Int → Int → Int → Int → Int → List Int → Int → Int → List Int → List Int → (Int → List Int → Int → Int → Int → Int → List Int → List Int → Option α) → Option α := Classical.choose impl_natDiv_L10.ex α
theorem impl_natDiv_L10.eq : @impl_natDiv_L10 = @impl_natDiv_L10.b := funext fun α => congrFun (Classical.choose_spec impl_natDiv_L10.ex) α
theorem impl_natDiv_L10.zero {α : Type} (N : Nat) (v917 : Int) (v918 : List Int) (v919 : Int) (v920 : Int) (v921 : Int) (v922 : Int) (v923 : List Int) (v924 : Int) (v925 : Int) (v926 : List Int) (v927 : List Int) (k0 : Int → List Int → Int → Int → Int → Int → List Int → List Int → Option α) : impl_natDiv_L10 N 0 v917 v918 v919 v920 v921 v922 v923 v924 v925 v926 v927 k0 = none := by rw [impl_natDiv_L10.eq]; rfl
theorem impl_natDiv_L10.succ {α : Type} (N n : Nat) (v917 : Int) (v918 : List Int) (v919 : Int) (v920 : Int) (v921 : Int) (v922 : Int) (v923 : List Int) (v924 : Int) (v925 : Int) (v926 : List Int) (v927 : List Int) (k0 : Int → List Int → Int → Int → Int → Int → List Int → List Int → Option α) : impl_natDiv_L10 N (n + 1) v917 v918 v919 v920 v921 v922 v923 v924 v925 v926 v927 k0 = impl_natDiv_L10r N (fun y0 y1 y2 y3 y4 y5 y6 y7 y8 y9 y10 => impl_natDiv_L10 N n y0 y1 y2 y3 y4 y5 y6 y7 y8 y9 y10 k0) k0 v917 v918 v919 v920 v921 v922 v923 v924 v925 v926 v927 := by rw [impl_natDiv_L10.eq]; rfl
noncomputable def impl_natDiv_J40.b {α : Type} (N : Nat) (v905 : Int) (v906 : List Int) (v907 : Int) (v908 : Int) (v909 : Int) (v910 : List Int) (v911 : List Int) (k0 : Int → List Int → Int → Int → Int → List Int → List Int → Option α) : Option α :=
  let x912 := IntKind.i64.wrap (v908 + v907)
  bif (decide (x912 < (0 : Int))) then
    none
  else
    bif decide (x912.toNat < v910.length) then
      match v910[x912.toNat]? with
      | some x913 =>
        let x914 := (decide (x913 < (0 : Int)))
        bif x914 then
          let x915 := (IntKind.i64.wrap (v909 - (1 : Int)))
          let x916 := ((v906.length : Nat) : Int)
          impl_natDiv_L10 N N v905 v906 v907 v908 x915 (0 : Int) v906 x916 (0 : Int) v910 v911
            (fun x940 x941 x942 x943 x944 x945 x946 x947 =>
              let x948 := IntKind.i64.wrap (x943 + x942)
              bif (decide (x948 < (0 : Int))) then
                none
              else
                bif decide (x948.toNat < x946.length) then
                  match x946[x948.toNat]? with
                  | some x949 =>
                    let x950 := IntKind.i64.wrap (x949 + x945)
                    bif (decide (x948 < (0 : Int))) then
                      none
                    else
                      bif decide (x948.toNat < x946.length) then
                        match x946[x948.toNat]? with
                        | some x951 =>
                          let x952 := x946.set x948.toNat x950
                          k0 x940 x941 x942 x943 x944 x952 x947
                        | none => none
                      else
                        none
                  | none => none
                else
                  none)
        else
          k0 v905 v906 v907 v908 v909 v910 v911
      | none => none
    else
      none
theorem impl_natDiv_J40.ex : ∃ f : ((α : Type) → Nat → Int → List Int → Int → Int → Int → List Int → List Int → (Int → List Int → Int → Int → Int → List Int → List Int → Option α) → Option α), f = fun α => @impl_natDiv_J40.b α := ⟨_, rfl⟩
noncomputable def impl_natDiv_J40 {α : Type} : Nat → Int → List Int → Int → Int → Int → List Int → List Int → (Int → List Int → Int → Int → Int → List Int → List Int → Option α) → Option α := Classical.choose impl_natDiv_J40.ex α
theorem impl_natDiv_J40.eq : @impl_natDiv_J40 = @impl_natDiv_J40.b := funext fun α => congrFun (Classical.choose_spec impl_natDiv_J40.ex) α
noncomputable def impl_natDiv_L4r {α : Type} (N : Nat) (next : Int → List Int → Int → Int → List Int → List Int → Option α) (k0 : Int → List Int → List Int → Option α) (v781 : Int) (v782 : List Int) (v783 : Int) (v784 : Int) (v785 : List Int) (v786 : List Int) : Option α :=
  let x787 := (decide ((0 : Int) ≤ v784))
  bif x787 then
    let x788 := IntKind.i64.wrap (v784 + v783)
    bif (decide (x788 < (0 : Int))) then
      none
    else
      bif decide (x788.toNat < v785.length) then
        match v785[x788.toNat]? with
        | some x789 =>
          let x790 := (shlI .i64 x789 (16 : Int))
          let x791 := IntKind.i64.wrap (v784 + v783)
          let x792 := (IntKind.i64.wrap (x791 - (1 : Int)))
          bif (decide (x792 < (0 : Int))) then
            none
          else
            bif decide (x792.toNat < v785.length) then
              match v785[x792.toNat]? with
              | some x793 =>
                let x794 := bitI .or .i64 x790 x793
                let x795 := (IntKind.i64.wrap (v783 - (1 : Int)))
                bif (decide (x795 < (0 : Int))) then
                  none
                else
                  match v782[x795.toNat]? with
                  | some x796 =>
                    bif (decide (x796 = (0 : Int))) then
                      none
                    else
                      let x797 := IntKind.i64.wrap (Int.tdiv x794 x796)
                      let x798 := (IntKind.i64.wrap (v783 - (1 : Int)))
                      bif (decide (x798 < (0 : Int))) then
                        none
                      else
                        match v782[x798.toNat]? with
                        | some x799 =>
                          bif (decide (x799 = (0 : Int))) then
                            none
                          else
                            let x800 := Int.tmod x794 x799
                            impl_natDiv_L6 N N v781 v782 v783 v784 x797 x800 v785 v786
                              (fun x829 x830 x831 x832 x833 x834 x835 =>
                                let x836 := ((x830.length : Nat) : Int)
                                impl_natDiv_L8 N N x829 x830 x831 x832 x833 (0 : Int) x830 x836 (0 : Int) x834 x835
                                  (fun x892 x893 x894 x895 x896 x897 x898 x899 =>
                                    let x900 := IntKind.i64.wrap (x895 + x894)
                                    bif (decide (x900 < (0 : Int))) then
                                      none
                                    else
                                      bif decide (x900.toNat < x898.length) then
                                        match x898[x900.toNat]? with
                                        | some x901 =>
                                          let x902 := IntKind.i64.wrap (x901 - x897)
                                          bif (decide (x900 < (0 : Int))) then
                                            none
                                          else
                                            bif decide (x900.toNat < x898.length) then
                                              match x898[x900.toNat]? with
                                              | some x903 =>
                                                let x904 := x898.set x900.toNat x902
                                                impl_natDiv_J40 N x892 x893 x894 x895 x896 x904 x899
                                                  (fun x953 x954 x955 x956 x957 x958 x959 =>
                                                    bif (decide (x956 < (0 : Int))) then
                                                      none
                                                    else
                                                      bif decide (x956.toNat < x959.length) then
                                                        match x959[x956.toNat]? with
                                                        | some x960 =>
                                                          let x961 := x959.set x956.toNat x957
                                                          let x962 := (IntKind.i64.wrap (x956 - (1 : Int)))
                                                          next x953 x954 x955 x962 x958 x961
                                                        | none => none
                                                      else
                                                        none)
                                              | none => none
                                            else
                                              none
                                        | none => none
                                      else
                                        none))
                        | none => none
                  | none => none
              | none => none
            else
              none
        | none => none
      else
        none
  else
    k0 v781 v785 v786
noncomputable def impl_natDiv_L4.b {α : Type} (N n : Nat) (v781 : Int) (v782 : List Int) (v783 : Int) (v784 : Int) (v785 : List Int) (v786 : List Int) (k0 : Int → List Int → List Int → Option α) : Option α :=
  Nat.rec (motive := fun _ => Int → List Int → Int → Int → List Int → List Int → Option α) (fun _ _ _ _ _ _ => none) (fun _ next => impl_natDiv_L4r N next k0) n v781 v782 v783 v784 v785 v786
theorem impl_natDiv_L4.ex : ∃ f : ((α : Type) → Nat → Nat → Int → List Int → Int → Int → List Int → List Int → (Int → List Int → List Int → Option α) → Option α), f = fun α => @impl_natDiv_L4.b α := ⟨_, rfl⟩
noncomputable def impl_natDiv_L4 {α : Type} : Nat → Nat → Int → List Int → Int → Int → List Int → List Int → (Int → List Int → List Int → Option α) → Option α := Classical.choose impl_natDiv_L4.ex α
theorem impl_natDiv_L4.eq : @impl_natDiv_L4 = @impl_natDiv_L4.b := funext fun α => congrFun (Classical.choose_spec impl_natDiv_L4.ex) α
theorem impl_natDiv_L4.zero {α : Type} (N : Nat) (v781 : Int) (v782 : List Int) (v783 : Int) (v784 : Int) (v785 : List Int) (v786 : List Int) (k0 : Int → List Int → List Int → Option α) : impl_natDiv_L4 N 0 v781 v782 v783 v784 v785 v786 k0 = none := by rw [impl_natDiv_L4.eq]; rfl
theorem impl_natDiv_L4.succ {α : Type} (N n : Nat) (v781 : Int) (v782 : List Int) (v783 : Int) (v784 : Int) (v785 : List Int) (v786 : List Int) (k0 : Int → List Int → List Int → Option α) : impl_natDiv_L4 N (n + 1) v781 v782 v783 v784 v785 v786 k0 = impl_natDiv_L4r N (fun y0 y1 y2 y3 y4 y5 => impl_natDiv_L4 N n y0 y1 y2 y3 y4 y5 k0) k0 v781 v782 v783 v784 v785 v786 := by rw [impl_natDiv_L4.eq]; rfl
/-- loop.example/pinfold/impl.natDiv -/
noncomputable def impl_natDiv.b {α : Type} (N : Nat) (a514 : List Int) (a515 : List Int) (k0 : List Int → List Int → Option α) : Option α :=
  impl_natCmp N a514 a515
    (fun x542 =>
      let x543 := (decide (x542 < (0 : Int)))
      bif x543 then
        k0 [] a514
      else
        let x544 := ((a515.length : Nat) : Int)
        let x545 := (decide (x544 = (1 : Int)))
        bif x545 then
          let x546 := ((a514.length : Nat) : Int)
          bif (decide ((0 : Int) ≤ x546)) then
            bif decide (x546 ≤ x546) then
              bif (decide (x546 ≤ ((8796093022208 : Nat) : Int))) then
                let x547 := (List.replicate x546.toNat (0 : Int))
                let x548 := ((a514.length : Nat) : Int)
                let x549 := (IntKind.i64.wrap (x548 - (1 : Int)))
                impl_natDiv_L0 N N a514 a515 (0 : Int) x549 x547
                  (fun x566 x567 =>
                    impl_trim N x567
                      (fun x580 =>
                        let x581 := [x566]
                        impl_trim N x581
                          (fun x582 =>
                            k0 x580 x582)))
              else
                none
            else
              none
          else
            none
        else
          let x583 := ((a515.length : Nat) : Int)
          let x584 := (IntKind.i64.wrap (x583 - (1 : Int)))
          bif (decide (x584 < (0 : Int))) then
            none
          else
            match a515[x584.toNat]? with
            | some x585 =>
              let x586 := IntKind.u64.wrap x585
              math_bits_Len N x586
                (fun x615 =>
                  let x616 := (IntKind.i64.wrap ((16 : Int) - x615))
                  impl_natShift N a515 x616
                    (fun x754 =>
                      impl_natShift N a514 x616
                        (fun x755 =>
                          slices_Clone_int_int N x755
                            (fun x756 =>
                              let x757 := [(0 : Int)]
                              bif decide (x756.length + x757.length ≤ 8796093022208) then
                                let x758 := x756 ++ x757
                                let x759 := ((x754.length : Nat) : Int)
                                impl_natDiv_L2 N N a514 x616 x754 x759 x758
                                  (fun x771 x772 x773 x774 =>
                                    let x775 := ((x774.length : Nat) : Int)
                                    let x776 := IntKind.i64.wrap (x775 - x773)
                                    bif (decide ((0 : Int) ≤ x776)) then
                                      bif decide (x776 ≤ x776) then
                                        bif (decide (x776 ≤ ((8796093022208 : Nat) : Int))) then
                                          let x777 := (List.replicate x776.toNat (0 : Int))
                                          let x778 := ((x774.length : Nat) : Int)
                                          let x779 := IntKind.i64.wrap (x778 - x773)
                                          let x780 := (IntKind.i64.wrap (x779 - (1 : Int)))
                                          impl_natDiv_L4 N N x771 x772 x773 x780 x774 x777
                                            (fun x963 x964 x965 =>
                                              impl_trim N x965
                                                (fun x966 =>
                                                  impl_trim N x964
                                                    (fun x967 =>
                                                      let x968 := IntKind.i64.wrap (0 - x963)
                                                      impl_natShift N x967 x968
                                                        (fun x969 =>
                                                          k0 x966 x969))))
                                        else
                                          none
                                      else
                                        none
                                    else
                                      none)
                              else
                                none))))
            | none => none)
theorem impl_natDiv.ex : ∃ f : ((α : Type) → Nat → List Int → List Int → (List Int → List Int → Option α) → Option α), f = fun α => @impl_natDiv.b α := ⟨_, rfl⟩
noncomputable def impl_natDiv {α : Type} : Nat → List Int → List Int → (List Int → List Int → Option α) → Option α := Classical.choose impl_natDiv.ex α
theorem impl_natDiv.eq : @impl_natDiv = @impl_natDiv.b := funext fun α => congrFun (Classical.choose_spec impl_natDiv.ex) α

/-- slices.Clip[[]int,int] -/
noncomputable def slices_Clip_int_int.b {α : Type} (N : Nat) (a974 : List Int) (k0 : List Int → Option α) : Option α :=
  let x975 := ((a974.length : Nat) : Int)
  let x976 := ((a974.length : Nat) : Int)
  bif (decide ((0 : Int) ≤ x976)) then
    bif (decide (x976 ≤ ((a974.length : Nat) : Int))) then
      bif (decide ((0 : Int) ≤ x975)) then
        bif (decide (x975 ≤ ((x976.toNat : Nat) : Int))) then
          let x977 := a974.take x975.toNat
          k0 x977
        else
          none
      else
        none
    else
      none
  else
    none
theorem slices_Clip_int_int.ex : ∃ f : ((α : Type) → Nat → List Int → (List Int → Option α) → Option α), f = fun α => @slices_Clip_int_int.b α := ⟨_, rfl⟩
noncomputable def slices_Clip_int_int {α : Type} : Nat → List Int → (List Int → Option α) → Option α := Classical.choose slices_Clip_int_int.ex α
theorem slices_Clip_int_int.eq : @slices_Clip_int_int = @slices_Clip_int_int.b := funext fun α => congrFun (Classical.choose_spec slices_Clip_int_int.ex) α

/-- loop.example/pinfold/impl.clone[int] -/
noncomputable def impl_clone_int.b {α : Type} (N : Nat) (a972 : List Int) (k0 : List Int → Option α) : Option α :=
  slices_Clone_int_int N a972
    (fun x973 =>
      slices_Clip_int_int N x973
        (fun x978 =>
          k0 x978))
theorem impl_clone_int.ex : ∃ f : ((α : Type) → Nat → List Int → (List Int → Option α) → Option α), f = fun α => @impl_clone_int.b α := ⟨_, rfl⟩
noncomputable def impl_clone_int {α : Type} : Nat → List Int → (List Int → Option α) → Option α := Classical.choose impl_clone_int.ex α
theorem impl_clone_int.eq : @impl_clone_int = @impl_clone_int.b := funext fun α => congrFun (Classical.choose_spec impl_clone_int.ex) α

/-- loop.example/pinfold/impl.NatDiv -/
noncomputable def impl_NatDiv.b {α : Type} (N : Nat) (a385 : List Int) (a386 : List Int) (k0 : Bool → List Int → List Int → Option α) : Option α :=
  let x387 := [a385, a386]
  impl_nats N x387
    (fun x441 =>
      let x442 := !x441
      bif x442 then
        k0 false [] []
      else
        let x443 := ((a386.length : Nat) : Int)
        let x444 := (decide (x443 = (0 : Int)))
        bif x444 then
          k0 false [] []
        else
          impl_natDiv N a385 a386
            (fun x970 x971 =>
              impl_clone_int N x970
                (fun x979 =>
                  impl_clone_int N x971
                    (fun x980 =>
                      k0 true x979 x980))))
theorem impl_NatDiv.ex : ∃ f : ((α : Type) → Nat → List Int → List Int → (Bool → List Int → List Int → Option α) → Option α), f = fun α => @impl_NatDiv.b α := ⟨_, rfl⟩
noncomputable def impl_NatDiv {α : Type} : Nat → List Int → List Int → (Bool → List Int → List Int → Option α) → Option α := Classical.choose impl_NatDiv.ex α
theorem impl_NatDiv.eq : @impl_NatDiv = @impl_NatDiv.b := funext fun α => congrFun (Classical.choose_spec impl_NatDiv.ex) α

noncomputable def laws_eqIntS_L0r {α : Type} (N : Nat) (next : List Int → List Int → Int → Option α) (k0 : Bool → Option α) (k1 : Option α) (v989 : List Int) (v990 : List Int) (v991 : Int) : Option α :=
  let x992 := ((v989.length : Nat) : Int)
  let x993 := decide (v991 < x992)
  bif x993 then
    bif (decide (v991 < (0 : Int))) then
      none
    else
      match v989[v991.toNat]? with
      | some x994 =>
        bif (decide (v991 < (0 : Int))) then
          none
        else
          match v990[v991.toNat]? with
          | some x995 =>
            let x996 := !(decide (x994 = x995))
            bif x996 then
              k0 false
            else
              let x997 := (IntKind.i64.wrap (v991 + (1 : Int)))
              next v989 v990 x997
          | none => none
      | none => none
  else
    k1
noncomputable def laws_eqIntS_L0.b {α : Type} (N n : Nat) (v989 : List Int) (v990 : List Int) (v991 : Int) (k0 : Bool → Option α) (k1 : Option α) : Option α :=
  Nat.rec (motive := fun _ => List Int → List Int → Int → Option α) (fun _ _ _ => none) (fun _ next => laws_eqIntS_L0r N next k0 k1) n v989 v990 v991
theorem laws_eqIntS_L0.ex : ∃ f : ((α : Type) → Nat → Nat → List Int → List Int → Int → (Bool → Option α) → (Option α) → Option α), f = fun α => @laws_eqIntS_L0.b α := ⟨_, rfl⟩
noncomputable def laws_eqIntS_L0 {α : Type} : Nat → Nat → List Int → List Int → Int → (Bool → Option α) → (Option α) → Option α := Classical.choose laws_eqIntS_L0.ex α
theorem laws_eqIntS_L0.eq : @laws_eqIntS_L0 = @laws_eqIntS_L0.b := funext fun α => congrFun (Classical.choose_spec laws_eqIntS_L0.ex) α
theorem laws_eqIntS_L0.zero {α : Type} (N : Nat) (v989 : List Int) (v990 : List Int) (v991 : Int) (k0 : Bool → Option α) (k1 : Option α) : laws_eqIntS_L0 N 0 v989 v990 v991 k0 k1 = none := by rw [laws_eqIntS_L0.eq]; rfl
theorem laws_eqIntS_L0.succ {α : Type} (N n : Nat) (v989 : List Int) (v990 : List Int) (v991 : Int) (k0 : Bool → Option α) (k1 : Option α) : laws_eqIntS_L0 N (n + 1) v989 v990 v991 k0 k1 = laws_eqIntS_L0r N (fun y0 y1 y2 => laws_eqIntS_L0 N n y0 y1 y2 k0 k1) k0 k1 v989 v990 v991 := by rw [laws_eqIntS_L0.eq]; rfl
/-- loop.example/pinfold/laws.eqIntS -/
noncomputable def laws_eqIntS.b {α : Type} (N : Nat) (a984 : List Int) (a985 : List Int) (k0 : Bool → Option α) : Option α :=
  let x986 := ((a984.length : Nat) : Int)
  let x987 := ((a985.length : Nat) : Int)
  let x988 := !(decide (x986 = x987))
  bif x988 then
    k0 false
  else
    laws_eqIntS_L0 N N a984 a985 (0 : Int)
      (fun x998 =>
        k0 x998)
      (
        k0 true)
theorem laws_eqIntS.ex : ∃ f : ((α : Type) → Nat → List Int → List Int → (Bool → Option α) → Option α), f = fun α => @laws_eqIntS.b α := ⟨_, rfl⟩
noncomputable def laws_eqIntS {α : Type} : Nat → List Int → List Int → (Bool → Option α) → Option α := Classical.choose laws_eqIntS.ex α
theorem laws_eqIntS.eq : @laws_eqIntS = @laws_eqIntS.b := funext fun α => congrFun (Classical.choose_spec laws_eqIntS.ex) α

noncomputable def laws_markIntS_L0r {α : Type} (N : Nat) (next : Int → Int → List Int → Option α) (k0 : Int → List Int → Option α) (v1012 : Int) (v1013 : Int) (v1014 : List Int) : Option α :=
  let x1015 := ((v1014.length : Nat) : Int)
  let x1016 := decide (v1013 < x1015)
  bif x1016 then
    bif (decide (v1013 < (0 : Int))) then
      none
    else
      bif decide (v1013.toNat < v1014.length) then
        match v1014[v1013.toNat]? with
        | some x1017 =>
          let x1018 := v1014.set v1013.toNat v1012
          let x1019 := (IntKind.i64.wrap (v1012 + (1 : Int)))
          let x1020 := (IntKind.i64.wrap (v1013 + (1 : Int)))
          next x1019 x1020 x1018
        | none => none
      else
        none
  else
    k0 v1012 v1014
noncomputable def laws_markIntS_L0.b {α : Type} (N n : Nat) (v1012 : Int) (v1013 : Int) (v1014 : List Int) (k0 : Int → List Int → Option α) : Option α :=
  Nat.rec (motive := fun _ => Int → Int → List Int → Option α) (fun _ _ _ => none) (fun _ next => laws_markIntS_L0r N next k0) n v1012 v1013 v1014
theorem laws_markIntS_L0.ex : ∃ f : ((α : Type) → Nat → Nat → Int → Int → List Int → (Int → List Int → Option α) → Option α), f = fun α => @laws_markIntS_L0.b α := ⟨_, rfl⟩
noncomputable def laws_markIntS_L0 {α : Type} : Nat → Nat → Int → Int → List Int → (Int → List Int → Option α) → Option α := Classical.choose laws_markIntS_L0.ex α
theorem laws_markIntS_L0.eq : @laws_markIntS_L0 = @laws_markIntS_L0.b := funext fun α => congrFun (Classical.choose_spec laws_markIntS_L0.ex) α
theorem laws_markIntS_L0.zero {α : Type} (N : Nat) (v1012 : Int) (v1013 : Int) (v1014 : List Int) (k0 : Int → List Int → Option α) : laws_markIntS_L0 N 0 v1012 v1013 v1014 k0 = none := by rw [laws_markIntS_L0.eq]; rfl
theorem laws_markIntS_L0.succ {α : Type} (N n : Nat) (v1012 : Int) (v1013 : Int) (v1014 : List Int) (k0 : Int → List Int → Option α) : laws_markIntS_L0 N (n + 1) v1012 v1013 v1014 k0 = laws_markIntS_L0r N (fun y0 y1 y2 => laws_markIntS_L0 N n y0 y1 y2 k0) k0 v1012 v1013 v1014 := by rw [laws_markIntS_L0.eq]; rfl
/-- loop.example/pinfold/laws.markIntS -/
noncomputable def laws_markIntS.b {α : Type} (N : Nat) (a1010 : Int) (a1011 : List Int) (k0 : Int → List Int → Option α) : Option α :=
  laws_markIntS_L0 N N a1010 (0 : Int) a1011
    (fun x1021 x1022 =>
      k0 x1021 x1022)
theorem laws_markIntS.ex : ∃ f : ((α : Type) → Nat → Int → List Int → (Int → List Int → Option α) → Option α), f = fun α => @laws_markIntS.b α := ⟨_, rfl⟩
noncomputable def laws_markIntS {α : Type} : Nat → Int → List Int → (Int → List Int → Option α) → Option α := Classical.choose laws_markIntS.ex α
theorem laws_markIntS.eq : @laws_markIntS = @laws_markIntS.b := funext fun α => congrFun (Classical.choose_spec laws_markIntS.ex) α

noncomputable def laws_heldIntS_L0r {α : Type} (N : Nat) (next : List Int → Int → Int → Option α) (k0 : Int → Option α) (k1 : Int → Option α) (v1039 : List Int) (v1040 : Int) (v1041 : Int) : Option α :=
  let x1042 := ((v1039.length : Nat) : Int)
  let x1043 := decide (v1041 < x1042)
  bif x1043 then
    bif (decide (v1041 < (0 : Int))) then
      none
    else
      match v1039[v1041.toNat]? with
      | some x1044 =>
        let x1045 := !(decide (x1044 = v1040))
        bif x1045 then
          k0 (-1 : Int)
        else
          let x1046 := (IntKind.i64.wrap (v1040 + (1 : Int)))
          let x1047 := (IntKind.i64.wrap (v1041 + (1 : Int)))
          next v1039 x1046 x1047
      | none => none
  else
    k1 v1040
noncomputable def laws_heldIntS_L0.b {α : Type} (N n : Nat) (v1039 : List Int) (v1040 : Int) (v1041 : Int) (k0 : Int → Option α) (k1 : Int → Option α) : Option α :=
  Nat.rec (motive := fun _ => List Int → Int → Int → Option α) (fun _ _ _ => none) (fun _ next => laws_heldIntS_L0r N next k0 k1) n v1039 v1040 v1041
theorem laws_heldIntS_L0.ex : ∃ f : ((α : Type) → Nat → Nat → List Int → Int → Int → (Int → Option α) → (Int → Option α) → Option α), f = fun α => @laws_heldIntS_L0.b α := ⟨_, rfl⟩
noncomputable def laws_heldIntS_L0 {α : Type} : Nat → Nat → List Int → Int → Int → (Int → Option α) → (Int → Option α) → Option α := Classical.choose laws_heldIntS_L0.ex α
theorem laws_heldIntS_L0.eq : @laws_heldIntS_L0 = @laws_heldIntS_L0.b := funext fun α => congrFun (Classical.choose_spec laws_heldIntS_L0.ex) α
theorem laws_heldIntS_L0.zero {α : Type} (N : Nat) (v1039 : List Int) (v1040 : Int) (v1041 : Int) (k0 : Int → Option α) (k1 : Int → Option α) : laws_heldIntS_L0 N 0 v1039 v1040 v1041 k0 k1 = none := by rw [laws_heldIntS_L0.eq]; rfl
theorem laws_heldIntS_L0.succ {α : Type} (N n : Nat) (v1039 : List Int) (v1040 : Int) (v1041 : Int) (k0 : Int → Option α) (k1 : Int → Option α) : laws_heldIntS_L0 N (n + 1) v1039 v1040 v1041 k0 k1 = laws_heldIntS_L0r N (fun y0 y1 y2 => laws_heldIntS_L0 N n y0 y1 y2 k0 k1) k0 k1 v1039 v1040 v1041 := by rw [laws_heldIntS_L0.eq]; rfl
/-- loop.example/pinfold/laws.heldIntS -/
noncomputable def laws_heldIntS.b {α : Type} (N : Nat) (a1037 : List Int) (a1038 : Int) (k0 : Int → Option α) : Option α :=
  laws_heldIntS_L0 N N a1037 a1038 (0 : Int)
    (fun x1048 =>
      k0 x1048)
    (fun x1049 =>
      k0 x1049)
theorem laws_heldIntS.ex : ∃ f : ((α : Type) → Nat → List Int → Int → (Int → Option α) → Option α), f = fun α => @laws_heldIntS.b α := ⟨_, rfl⟩
noncomputable def laws_heldIntS {α : Type} : Nat → List Int → Int → (Int → Option α) → Option α := Classical.choose laws_heldIntS.ex α
theorem laws_heldIntS.eq : @laws_heldIntS = @laws_heldIntS.b := funext fun α => congrFun (Classical.choose_spec laws_heldIntS.ex) α

/-- loop.example/pinfold/laws.FnExactNatDiv -/
noncomputable def laws_FnExactNatDiv.b {α : Type} (N : Nat) (a1 : List Int) (a2 : List Int) (k0 : Bool → Option α) : Option α :=
  let x3 := ((a1.length : Nat) : Int)
  let x4 := (decide ((1048576 : Int) < x3))
  bif x4 then
    k0 true
  else
    let x5 := ((a2.length : Nat) : Int)
    let x6 := (decide ((1048576 : Int) < x5))
    bif x6 then
      k0 true
    else
      laws_toIntS N a1
        (fun x20 =>
          laws_toIntS N a2
            (fun x21 =>
              spec_NatDiv N x20 x21
                (fun x380 x381 x382 =>
                  laws_toIntS N a1
                    (fun x383 =>
                      laws_toIntS N a2
                        (fun x384 =>
                          impl_NatDiv N x383 x384
                            (fun x981 x982 x983 =>
                              laws_eqIntS N x982 x381
                                (fun x999 =>
                                  let x1000 := !x999
                                  bif x1000 then
                                    k0 false
                                  else
                                    laws_eqIntS N x983 x382
                                      (fun x1001 =>
                                        let x1002 := !x1001
                                        bif x1002 then
                                          k0 false
                                        else
                                          let x1003 := !(x981 == x380)
                                          bif x1003 then
                                            k0 false
                                          else
                                            laws_toIntS N a1
                                              (fun x1004 =>
                                                laws_eqIntS N x383 x1004
                                                  (fun x1005 =>
                                                    let x1006 := !x1005
                                                    bif x1006 then
                                                      k0 false
                                                    else
                                                      laws_toIntS N a2
                                                        (fun x1007 =>
                                                          laws_eqIntS N x384 x1007
                                                            (fun x1008 =>
                                                              let x1009 := !x1008
                                                              bif x1009 then
                                                                k0 false
                                                              else
                                                                laws_markIntS N (1 : Int) x383
                                                                  (fun x1023 _ =>
                                                                    laws_markIntS N x1023 x384
                                                                      (fun x1025 _ =>
                                                                        let x1027 := (decide (x1025 < (0 : Int)))
                                                                        bif x1027 then
                                                                          k0 false
                                                                        else
                                                                          laws_eqIntS N x982 x381
                                                                            (fun x1028 =>
                                                                              let x1029 := !x1028
                                                                              bif x1029 then
                                                                                k0 false
                                                                              else
                                                                                laws_eqIntS N x983 x382
                                                                                  (fun x1030 =>
                                                                                    let x1031 := !x1030
                                                                                    bif x1031 then
                                                                                      k0 false
                                                                                    else
                                                                                      let x1032 := !(x981 == x380)
                                                                                      bif x1032 then
                                                                                        k0 false
                                                                                      else
                                                                                        laws_markIntS N (1 : Int) x982
                                                                                          (fun x1033 x1034 =>
                                                                                            laws_markIntS N x1033 x983
                                                                                              (fun x1035 x1036 =>
                                                                                                laws_heldIntS N x1034 (1 : Int)
                                                                                                  (fun x1050 =>
                                                                                                    let x1051 := (decide (x1050 < (0 : Int)))
                                                                                                    bif x1051 then
                                                                                                      k0 false
                                                                                                    else
                                                                                                      laws_heldIntS N x1036 x1050
                                                                                                        (fun x1052 =>
                                                                                                          let x1053 := (decide (x1052 < (0 : Int)))
                                                                                                          bif x1053 then
                                                                                                            k0 false
                                                                                                          else
                                                                                                            let x1054 := !(decide (x1052 = x1035))
                                                                                                            bif x1054 then
                                                                                                              k0 false
                                                                                                            else
                                                                                                              laws_toIntS N a1
                                                                                                                (fun x1055 =>
                                                                                                                  laws_toIntS N a2
                                                                                                                    (fun x1056 =>
                                                                                                                      impl_NatDiv N x1055 x1056
                                                                                                                        (fun x1057 x1058 x1059 =>
                                                                                                                          laws_eqIntS N x1058 x381
                                                                                                                            (fun x1060 =>
                                                                                                                              let x1061 := !x1060
                                                                                                                              bif x1061 then
                                                                                                                                k0 false
                                                                                                                              else
                                                                                                                                laws_eqIntS N x1059 x382
                                                                                                                                  (fun x1062 =>
                                                                                                                                    let x1063 := !x1062
                                                                                                                                    bif x1063 then
                                                                                                                                      k0 false
                                                                                                                                    else
                                                                                                                                      let x1064 := !(x1057 == x380)
                                                                                                                                      bif x1064 then
                                                                                                                                        k0 false
                                                                                                                                      else
                                                                                                                                        laws_heldIntS N x1034 (1 : Int)
                                                                                                                                          (fun x1065 =>
                                                                                                                                            let x1066 := (decide (x1065 < (0 : Int)))
                                                                                                                                            bif x1066 then
                                                                                                                                              k0 false
                                                                                                                                            else
                                                                                                                                              laws_heldIntS N x1036 x1065
                                                                                                                                                (fun x1067 =>
                                                                                                                                                  let x1068 := (decide (x1067 < (0 : Int)))
                                                                                                                                                  bif x1068 then
                                                                                                                                                    k0 false
                                                                                                                                                  else
                                                                                                                                                    let x1069 := !(decide (x1067 = x1035))
                                                                                                                                                    bif x1069 then
                                                                                                                                                      k0 false
                                                                                                                                                    else
                                                                                                                                                      k0 true)))))))))))))))))))))))))))
theorem laws_FnExactNatDiv.ex : ∃ f : ((α : Type) → Nat → List Int → List Int → (Bool → Option α) → Option α), f = fun α => @laws_FnExactNatDiv.b α := ⟨_, rfl⟩
noncomputable def laws_FnExactNatDiv {α : Type} : Nat → List Int → List Int → (Bool → Option α) → Option α := Classical.choose laws_FnExactNatDiv.ex α
theorem laws_FnExactNatDiv.eq : @laws_FnExactNatDiv = @laws_FnExactNatDiv.b := funext fun α => congrFun (Classical.choose_spec laws_FnExactNatDiv.ex) α

end
end Go.Proofs.YtgabephijgjogaaAm
