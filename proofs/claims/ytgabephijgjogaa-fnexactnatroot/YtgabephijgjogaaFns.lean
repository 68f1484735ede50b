/-
  The functions that the program computes, as the abstract machine tells them. Printed by amp.py.
-/
import Derived.Test.YtgabephijgjogaaAmb
namespace Go.Proofs.YtgabephijgjogaaAm
open Go
noncomputable section
set_option linter.unusedVariables false
set_option linter.unusedSimpArgs false

noncomputable def laws_toIntS_L0r {α : Type} (N : Nat) (next : List Int → Int → List Int → Option α) (k0 : List Int → Option α) (v7 : List Int) (v8 : Int) (v9 : List Int) : Option α :=
  let x10 := ((v7.length : Nat) : Int)
  let x11 := decide (v8 < x10)
  bif x11 then
    bif (decide (v8 < (0 : Int))) then
      none
    else
      match v7[v8.toNat]? with
      | some x12 =>
        bif (decide (v8 < (0 : Int))) then
          none
        else
          bif decide (v8.toNat < v9.length) then
            match v9[v8.toNat]? with
            | some x13 =>
              let x14 := v9.set v8.toNat x12
              let x15 := (IntKind.i64.wrap (v8 + (1 : Int)))
              next v7 x15 x14
            | none => none
          else
            none
      | none => none
  else
    k0 v9
noncomputable def laws_toIntS_L0.b {α : Type} (N n : Nat) (v7 : List Int) (v8 : Int) (v9 : List Int) (k0 : List Int → Option α) : Option α :=
  Nat.rec (motive := fun _ => List Int → Int → List Int → Option α) (fun _ _ _ => none) (fun _ next => laws_toIntS_L0r N next k0) n v7 v8 v9
theorem laws_toIntS_L0.ex : ∃ f : ((α : Type) → Nat → Nat → List Int → Int → List Int → (List Int → Option α) → Option α), f = fun α => @laws_toIntS_L0.b α := ⟨_, rfl⟩
noncomputable def laws_toIntS_L0 {α : Type} : Nat → Nat → List Int → Int → List Int → (List Int → Option α) → Option α := Classical.choose laws_toIntS_L0.ex α
theorem laws_toIntS_L0.eq : @laws_toIntS_L0 = @laws_toIntS_L0.b := funext fun α => congrFun (Classical.choose_spec laws_toIntS_L0.ex) α
theorem laws_toIntS_L0.zero {α : Type} (N : Nat) (v7 : List Int) (v8 : Int) (v9 : List Int) (k0 : List Int → Option α) : laws_toIntS_L0 N 0 v7 v8 v9 k0 = none := by rw [laws_toIntS_L0.eq]; rfl
theorem laws_toIntS_L0.succ {α : Type} (N n : Nat) (v7 : List Int) (v8 : Int) (v9 : List Int) (k0 : List Int → Option α) : laws_toIntS_L0 N (n + 1) v7 v8 v9 k0 = laws_toIntS_L0r N (fun y0 y1 y2 => laws_toIntS_L0 N n y0 y1 y2 k0) k0 v7 v8 v9 := by rw [laws_toIntS_L0.eq]; rfl
/-- loop.example/pinfold/laws.toIntS -/
noncomputable def laws_toIntS.b {α : Type} (N : Nat) (a4 : List Int) (k0 : List Int → Option α) : Option α :=
  let x5 := ((a4.length : Nat) : Int)
  bif (decide ((0 : Int) ≤ x5)) then
    bif decide (x5 ≤ x5) then
      bif (decide (x5 ≤ ((8796093022208 : Nat) : Int))) then
        let x6 := (List.replicate x5.toNat (0 : Int))
        laws_toIntS_L0 N N a4 (0 : Int) x6
          (fun x16 =>
            k0 x16)
      else
        none
    else
      none
  else
    none
theorem laws_toIntS.ex : ∃ f : ((α : Type) → Nat → List Int → (List Int → Option α) → Option α), f = fun α => @laws_toIntS.b α := ⟨_, rfl⟩
noncomputable def laws_toIntS {α : Type} : Nat → List Int → (List Int → Option α) → Option α := Classical.choose laws_toIntS.ex α
theorem laws_toIntS.eq : @laws_toIntS = @laws_toIntS.b := funext fun α => congrFun (Classical.choose_spec laws_toIntS.ex) α

noncomputable def spec_NatOk_L0r {α : Type} (N : Nat) (next : List Int → Int → Option α) (k0 : Bool → Option α) (k1 : List Int → Option α) (v22 : List Int) (v23 : Int) : Option α :=
  let x24 := ((v22.length : Nat) : Int)
  let x25 := decide (v23 < x24)
  bif x25 then
    bif (decide (v23 < (0 : Int))) then
      none
    else
      match v22[v23.toNat]? with
      | some x26 =>
        let x27 := (decide (x26 < (0 : Int)))
        bif x27 then
          k0 false
        else
          bif (decide (v23 < (0 : Int))) then
            none
          else
            match v22[v23.toNat]? with
            | some x28 =>
              let x29 := (decide ((65536 : Int) ≤ x28))
              bif x29 then
                k0 false
              else
                let x30 := (IntKind.i64.wrap (v23 + (1 : Int)))
                next v22 x30
            | none => none
      | none => none
  else
    k1 v22
noncomputable def spec_NatOk_L0.b {α : Type} (N n : Nat) (v22 : List Int) (v23 : Int) (k0 : Bool → Option α) (k1 : List Int → Option α) : Option α :=
  Nat.rec (motive := fun _ => List Int → Int → Option α) (fun _ _ => none) (fun _ next => spec_NatOk_L0r N next k0 k1) n v22 v23
theorem spec_NatOk_L0.ex : ∃ f : ((α : Type) → Nat → Nat → List Int → Int → (Bool → Option α) → (List Int → Option α) → Option α), f = fun α => @spec_NatOk_L0.b α := ⟨_, rfl⟩
noncomputable def spec_NatOk_L0 {α : Type} : Nat → Nat → List Int → Int → (Bool → Option α) → (List Int → Option α) → Option α := Classical.choose spec_NatOk_L0.ex α
theorem spec_NatOk_L0.eq : @spec_NatOk_L0 = @spec_NatOk_L0.b := funext fun α => congrFun (Classical.choose_spec spec_NatOk_L0.ex) α
theorem spec_NatOk_L0.zero {α : Type} (N : Nat) (v22 : List Int) (v23 : Int) (k0 : Bool → Option α) (k1 : List Int → Option α) : spec_NatOk_L0 N 0 v22 v23 k0 k1 = none := by rw [spec_NatOk_L0.eq]; rfl
theorem spec_NatOk_L0.succ {α : Type} (N n : Nat) (v22 : List Int) (v23 : Int) (k0 : Bool → Option α) (k1 : List Int → Option α) : spec_NatOk_L0 N (n + 1) v22 v23 k0 k1 = spec_NatOk_L0r N (fun y0 y1 => spec_NatOk_L0 N n y0 y1 k0 k1) k0 k1 v22 v23 := by rw [spec_NatOk_L0.eq]; rfl
/-- loop.example/pinfold/spec.NatOk -/
noncomputable def spec_NatOk.b {α : Type} (N : Nat) (a19 : List Int) (k0 : Bool → Option α) : Option α :=
  let x20 := ((a19.length : Nat) : Int)
  let x21 := (decide ((256 : Int) < x20))
  bif x21 then
    k0 false
  else
    spec_NatOk_L0 N N a19 (0 : Int)
      (fun x31 =>
        k0 x31)
      (fun x32 =>
        let x33 := ((x32.length : Nat) : Int)
        let x34 := (decide (x33 = (0 : Int)))
        bif x34 then
          k0 true
        else
          let x35 := ((x32.length : Nat) : Int)
          let x36 := (IntKind.i64.wrap (x35 - (1 : Int)))
          bif (decide (x36 < (0 : Int))) then
            none
          else
            match x32[x36.toNat]? with
            | some x37 =>
              let x38 := (!(decide (x37 = (0 : Int))))
              k0 x38
            | none => none)
theorem spec_NatOk.ex : ∃ f : ((α : Type) → Nat → List Int → (Bool → Option α) → Option α), f = fun α => @spec_NatOk.b α := ⟨_, rfl⟩
noncomputable def spec_NatOk {α : Type} : Nat → List Int → (Bool → Option α) → Option α := Classical.choose spec_NatOk.ex α
theorem spec_NatOk.eq : @spec_NatOk = @spec_NatOk.b := funext fun α => congrFun (Classical.choose_spec spec_NatOk.ex) α

noncomputable def spec_l5Bits_L0r {α : Type} (N : Nat) (next : Int → Int → Option α) (k0 : Int → Option α) (v51 : Int) (v52 : Int) : Option α :=
  let x53 := (decide ((0 : Int) < v52))
  bif x53 then
    let x54 := (IntKind.i64.wrap (v51 + (1 : Int)))
    let x55 := (IntKind.i64.wrap (Int.tdiv v52 (2 : Int)))
    next x54 x55
  else
    k0 v51
noncomputable def spec_l5Bits_L0.b {α : Type} (N n : Nat) (v51 : Int) (v52 : Int) (k0 : Int → Option α) : Option α :=
  Nat.rec (motive := fun _ => Int → Int → Option α) (fun _ _ => none) (fun _ next => spec_l5Bits_L0r N next k0) n v51 v52
theorem spec_l5Bits_L0.ex : ∃ f : ((α : Type) → Nat → Nat → Int → Int → (Int → Option α) → Option α), f = fun α => @spec_l5Bits_L0.b α := ⟨_, rfl⟩
noncomputable def spec_l5Bits_L0 {α : Type} : Nat → Nat → Int → Int → (Int → Option α) → Option α := Classical.choose spec_l5Bits_L0.ex α
theorem spec_l5Bits_L0.eq : @spec_l5Bits_L0 = @spec_l5Bits_L0.b := funext fun α => congrFun (Classical.choose_spec spec_l5Bits_L0.ex) α
theorem spec_l5Bits_L0.zero {α : Type} (N : Nat) (v51 : Int) (v52 : Int) (k0 : Int → Option α) : spec_l5Bits_L0 N 0 v51 v52 k0 = none := by rw [spec_l5Bits_L0.eq]; rfl
theorem spec_l5Bits_L0.succ {α : Type} (N n : Nat) (v51 : Int) (v52 : Int) (k0 : Int → Option α) : spec_l5Bits_L0 N (n + 1) v51 v52 k0 = spec_l5Bits_L0r N (fun y0 y1 => spec_l5Bits_L0 N n y0 y1 k0) k0 v51 v52 := by rw [spec_l5Bits_L0.eq]; rfl
/-- loop.example/pinfold/spec.l5Bits -/
noncomputable def spec_l5Bits.b {α : Type} (N : Nat) (a42 : List Int) (k0 : Int → Option α) : Option α :=
  let x43 := ((a42.length : Nat) : Int)
  let x44 := (decide (x43 = (0 : Int)))
  bif x44 then
    k0 (0 : Int)
  else
    let x45 := ((a42.length : Nat) : Int)
    let x46 := (IntKind.i64.wrap (x45 - (1 : Int)))
    let x47 := (IntKind.i64.wrap ((16 : Int) * x46))
    let x48 := ((a42.length : Nat) : Int)
    let x49 := (IntKind.i64.wrap (x48 - (1 : Int)))
    bif (decide (x49 < (0 : Int))) then
      none
    else
      match a42[x49.toNat]? with
      | some x50 =>
        spec_l5Bits_L0 N N x47 x50
          (fun x56 =>
            k0 x56)
      | none => none
theorem spec_l5Bits.ex : ∃ f : ((α : Type) → Nat → List Int → (Int → Option α) → Option α), f = fun α => @spec_l5Bits.b α := ⟨_, rfl⟩
noncomputable def spec_l5Bits {α : Type} : Nat → List Int → (Int → Option α) → Option α := Classical.choose spec_l5Bits.ex α
theorem spec_l5Bits.eq : @spec_l5Bits = @spec_l5Bits.b := funext fun α => congrFun (Classical.choose_spec spec_l5Bits.ex) α

noncomputable def spec_l5Shl_L0r {α : Type} (N : Nat) (next : List Int → Int → List Int → Option α) (k0 : List Int → Option α) (v75 : List Int) (v76 : Int) (v77 : List Int) : Option α :=
  let x78 := ((v75.length : Nat) : Int)
  let x79 := decide (v76 < x78)
  bif x79 then
    bif (decide (v76 < (0 : Int))) then
      none
    else
      match v75[v76.toNat]? with
      | some x80 =>
        let x81 := [x80]
        bif decide (v77.length + x81.length ≤ 8796093022208) then
          let x82 := v77 ++ x81
          let x83 := (IntKind.i64.wrap (v76 + (1 : Int)))
          next v75 x83 x82
        else
          none
      | none => none
  else
    k0 v77
noncomputable def spec_l5Shl_L0.b {α : Type} (N n : Nat) (v75 : List Int) (v76 : Int) (v77 : List Int) (k0 : List Int → Option α) : Option α :=
  Nat.rec (motive := fun _ => List Int → Int → List Int → Option α) (fun _ _ _ => none) (fun _ next => spec_l5Shl_L0r N next k0) n v75 v76 v77
theorem spec_l5Shl_L0.ex : ∃ f : ((α : Type) → Nat → Nat → List Int → Int → List Int → (List Int → Option α) → Option α), f = fun α => @spec_l5Shl_L0.b α := ⟨_, rfl⟩
noncomputable def spec_l5Shl_L0 {α : Type} : Nat → Nat → List Int → Int → List Int → (List Int → Option α) → Option α := Classical.choose spec_l5Shl_L0.ex α
theorem spec_l5Shl_L0.eq : @spec_l5Shl_L0 = @spec_l5Shl_L0.b := funext fun α => congrFun (Classical.choose_spec spec_l5Shl_L0.ex) α
theorem spec_l5Shl_L0.zero {α : Type} (N : Nat) (v75 : List Int) (v76 : Int) (v77 : List Int) (k0 : List Int → Option α) : spec_l5Shl_L0 N 0 v75 v76 v77 k0 = none := by rw [spec_l5Shl_L0.eq]; rfl
theorem spec_l5Shl_L0.succ {α : Type} (N n : Nat) (v75 : List Int) (v76 : Int) (v77 : List Int) (k0 : List Int → Option α) : spec_l5Shl_L0 N (n + 1) v75 v76 v77 k0 = spec_l5Shl_L0r N (fun y0 y1 y2 => spec_l5Shl_L0 N n y0 y1 y2 k0) k0 v75 v76 v77 := by rw [spec_l5Shl_L0.eq]; rfl
/-- loop.example/pinfold/spec.l5Shl -/
noncomputable def spec_l5Shl.b {α : Type} (N : Nat) (a70 : List Int) (a71 : Int) (k0 : List Int → Option α) : Option α :=
  let x72 := ((a70.length : Nat) : Int)
  let x73 := (decide (x72 = (0 : Int)))
  bif x73 then
    k0 []
  else
    bif (decide ((0 : Int) ≤ a71)) then
      bif decide (a71 ≤ a71) then
        bif (decide (a71 ≤ ((8796093022208 : Nat) : Int))) then
          let x74 := (List.replicate a71.toNat (0 : Int))
          spec_l5Shl_L0 N N a70 (0 : Int) x74
            (fun x84 =>
              k0 x84)
        else
          none
      else
        none
    else
      none
theorem spec_l5Shl.ex : ∃ f : ((α : Type) → Nat → List Int → Int → (List Int → Option α) → Option α), f = fun α => @spec_l5Shl.b α := ⟨_, rfl⟩
noncomputable def spec_l5Shl {α : Type} : Nat → List Int → Int → (List Int → Option α) → Option α := Classical.choose spec_l5Shl.ex α
theorem spec_l5Shl.eq : @spec_l5Shl = @spec_l5Shl.b := funext fun α => congrFun (Classical.choose_spec spec_l5Shl.ex) α

/-- loop.example/pinfold/spec.l5Pow2 -/
noncomputable def spec_l5Pow2.b {α : Type} (N : Nat) (a64 : Int) (k0 : List Int → Option α) : Option α :=
  let x65 := (Int.tmod a64 (16 : Int))
  let x66 := IntKind.u64.wrap x65
  bif (decide (x66 < (0 : Int))) then
    none
  else
    let x67 := (shlI .i64 (1 : Int) x66)
    let x68 := [x67]
    let x69 := (IntKind.i64.wrap (Int.tdiv a64 (16 : Int)))
    spec_l5Shl N x68 x69
      (fun x85 =>
        k0 x85)
theorem spec_l5Pow2.ex : ∃ f : ((α : Type) → Nat → Int → (List Int → Option α) → Option α), f = fun α => @spec_l5Pow2.b α := ⟨_, rfl⟩
noncomputable def spec_l5Pow2 {α : Type} : Nat → Int → (List Int → Option α) → Option α := Classical.choose spec_l5Pow2.ex α
theorem spec_l5Pow2.eq : @spec_l5Pow2 = @spec_l5Pow2.b := funext fun α => congrFun (Classical.choose_spec spec_l5Pow2.ex) α

/-- loop.example/pinfold/spec.l5At -/
noncomputable def spec_l5At.b {α : Type} (N : Nat) (a106 : List Int) (a107 : Int) (k0 : Int → Option α) : Option α :=
  let x108 := ((a106.length : Nat) : Int)
  let x109 := decide (a107 < x108)
  bif x109 then
    bif (decide (a107 < (0 : Int))) then
      none
    else
      match a106[a107.toNat]? with
      | some x110 =>
        k0 x110
      | none => none
  else
    k0 (0 : Int)
theorem spec_l5At.ex : ∃ f : ((α : Type) → Nat → List Int → Int → (Int → Option α) → Option α), f = fun α => @spec_l5At.b α := ⟨_, rfl⟩
noncomputable def spec_l5At {α : Type} : Nat → List Int → Int → (Int → Option α) → Option α := Classical.choose spec_l5At.ex α
theorem spec_l5At.eq : @spec_l5At = @spec_l5At.b := funext fun α => congrFun (Classical.choose_spec spec_l5At.ex) α

noncomputable def spec_l5Add_J2.b {α : Type} (N : Nat) (v90 : List Int) (v91 : List Int) (v92 : Int) (k0 : List Int → List Int → Int → Option α) : Option α :=
  let x93 := ((v91.length : Nat) : Int)
  let x94 := decide (v92 < x93)
  bif x94 then
    let x95 := ((v91.length : Nat) : Int)
    k0 v90 v91 x95
  else
    k0 v90 v91 v92
theorem spec_l5Add_J2.ex : ∃ f : ((α : Type) → Nat → List Int → List Int → Int → (List Int → List Int → Int → Option α) → Option α), f = fun α => @spec_l5Add_J2.b α := ⟨_, rfl⟩
noncomputable def spec_l5Add_J2 {α : Type} : Nat → List Int → List Int → Int → (List Int → List Int → Int → Option α) → Option α := Classical.choose spec_l5Add_J2.ex α
theorem spec_l5Add_J2.eq : @spec_l5Add_J2 = @spec_l5Add_J2.b := funext fun α => congrFun (Classical.choose_spec spec_l5Add_J2.ex) α
noncomputable def spec_l5Add_L0r {α : Type} (N : Nat) (next : List Int → List Int → Int → Int → Int → List Int → Option α) (k0 : Int → List Int → Option α) (v99 : List Int) (v100 : List Int) (v101 : Int) (v102 : Int) (v103 : Int) (v104 : List Int) : Option α :=
  let x105 := decide (v103 < v101)
  bif x105 then
    spec_l5At N v99 v103
      (fun x111 =>
        spec_l5At N v100 v103
          (fun x112 =>
            let x113 := IntKind.i64.wrap (x111 + x112)
            let x114 := IntKind.i64.wrap (x113 + v102)
            let x115 := (Int.tmod x114 (65536 : Int))
            let x116 := [x115]
            bif decide (v104.length + x116.length ≤ 8796093022208) then
              let x117 := v104 ++ x116
              let x118 := (IntKind.i64.wrap (Int.tdiv x114 (65536 : Int)))
              let x119 := (IntKind.i64.wrap (v103 + (1 : Int)))
              next v99 v100 v101 x118 x119 x117
            else
              none))
  else
    k0 v102 v104
noncomputable def spec_l5Add_L0.b {α : Type} (N n : Nat) (v99 : List Int) (v100 : List Int) (v101 : Int) (v102 : Int) (v103 : Int) (v104 : List Int) (k0 : Int → List Int → Option α) : Option α :=
  Nat.rec (motive := fun _ => List Int → List Int → Int → Int → Int → List Int → Option α) (fun _ _ _ _ _ _ => none) (fun _ next => spec_l5Add_L0r N next k0) n v99 v100 v101 v102 v103 v104
theorem spec_l5Add_L0.ex : ∃ f : ((α : Type) → Nat → Nat → List Int → List Int → Int → Int → Int → List Int → (Int → List Int → Option α) → Option α), f = fun α => @spec_l5Add_L0.b α := ⟨_, rfl⟩
noncomputable def spec_l5Add_L0 {α : Type} : Nat → Nat → List Int → List Int → Int → Int → Int → List Int → (Int → List Int → Option α) → Option α := Classical.choose spec_l5Add_L0.ex α
theorem spec_l5Add_L0.eq : @spec_l5Add_L0 = @spec_l5Add_L0.b := funext fun α => congrFun (Classical.choose_spec spec_l5Add_L0.ex) α
theorem spec_l5Add_L0.zero {α : Type} (N : Nat) (v99 : List Int) (v100 : List Int) (v101 : Int) (v102 : Int) (v103 : Int) (v104 : List Int) (k0 : Int → List Int → Option α) : spec_l5Add_L0 N 0 v99 v100 v101 v102 v103 v104 k0 = none := by rw [spec_l5Add_L0.eq]; rfl
theorem spec_l5Add_L0.succ {α : Type} (N n : Nat) (v99 : List Int) (v100 : List Int) (v101 : Int) (v102 : Int) (v103 : Int) (v104 : List Int) (k0 : Int → List Int → Option α) : spec_l5Add_L0 N (n + 1) v99 v100 v101 v102 v103 v104 k0 = spec_l5Add_L0r N (fun y0 y1 y2 y3 y4 y5 => spec_l5Add_L0 N n y0 y1 y2 y3 y4 y5 k0) k0 v99 v100 v101 v102 v103 v104 := by rw [spec_l5Add_L0.eq]; rfl
noncomputable def spec_l5Add_J12.b {α : Type} (N : Nat) (v122 : Int) (v123 : List Int) (k0 : List Int → Option α) : Option α :=
  let x124 := (decide ((0 : Int) < v122))
  bif x124 then
    let x125 := [v122]
    bif decide (v123.length + x125.length ≤ 8796093022208) then
      let x126 := v123 ++ x125
      k0 x126
    else
      none
  else
    k0 v123
theorem spec_l5Add_J12.ex : ∃ f : ((α : Type) → Nat → Int → List Int → (List Int → Option α) → Option α), f = fun α => @spec_l5Add_J12.b α := ⟨_, rfl⟩
noncomputable def spec_l5Add_J12 {α : Type} : Nat → Int → List Int → (List Int → Option α) → Option α := Classical.choose spec_l5Add_J12.ex α
theorem spec_l5Add_J12.eq : @spec_l5Add_J12 = @spec_l5Add_J12.b := funext fun α => congrFun (Classical.choose_spec spec_l5Add_J12.ex) α
/-- loop.example/pinfold/spec.l5Add -/
noncomputable def spec_l5Add.b {α : Type} (N : Nat) (a87 : List Int) (a88 : List Int) (k0 : List Int → Option α) : Option α :=
  let x89 := ((a87.length : Nat) : Int)
  spec_l5Add_J2 N a87 a88 x89
    (fun x96 x97 x98 =>
      spec_l5Add_L0 N N x96 x97 x98 (0 : Int) (0 : Int) []
        (fun x120 x121 =>
          spec_l5Add_J12 N x120 x121
            (fun x127 =>
              k0 x127)))
theorem spec_l5Add.ex : ∃ f : ((α : Type) → Nat → List Int → List Int → (List Int → Option α) → Option α), f = fun α => @spec_l5Add.b α := ⟨_, rfl⟩
noncomputable def spec_l5Add {α : Type} : Nat → List Int → List Int → (List Int → Option α) → Option α := Classical.choose spec_l5Add.ex α
theorem spec_l5Add.eq : @spec_l5Add = @spec_l5Add.b := funext fun α => congrFun (Classical.choose_spec spec_l5Add.ex) α

noncomputable def spec_l5Trim_L0r {α : Type} (N : Nat) (next : List Int → Int → Option α) (k0 : List Int → Int → Option α) (v179 : List Int) (v180 : Int) : Option α :=
  let x181 := (decide ((0 : Int) < v180))
  bif x181 then
    let x182 := (IntKind.i64.wrap (v180 - (1 : Int)))
    bif (decide (x182 < (0 : Int))) then
      none
    else
      match v179[x182.toNat]? with
      | some x183 =>
        let x184 := (decide (x183 = (0 : Int)))
        bif x184 then
          let x185 := (IntKind.i64.wrap (v180 - (1 : Int)))
          next v179 x185
        else
          k0 v179 v180
      | none => none
  else
    k0 v179 v180
noncomputable def spec_l5Trim_L0.b {α : Type} (N n : Nat) (v179 : List Int) (v180 : Int) (k0 : List Int → Int → Option α) : Option α :=
  Nat.rec (motive := fun _ => List Int → Int → Option α) (fun _ _ => none) (fun _ next => spec_l5Trim_L0r N next k0) n v179 v180
theorem spec_l5Trim_L0.ex : ∃ f : ((α : Type) → Nat → Nat → List Int → Int → (List Int → Int → Option α) → Option α), f = fun α => @spec_l5Trim_L0.b α := ⟨_, rfl⟩
noncomputable def spec_l5Trim_L0 {α : Type} : Nat → Nat → List Int → Int → (List Int → Int → Option α) → Option α := Classical.choose spec_l5Trim_L0.ex α
theorem spec_l5Trim_L0.eq : @spec_l5Trim_L0 = @spec_l5Trim_L0.b := funext fun α => congrFun (Classical.choose_spec spec_l5Trim_L0.ex) α
theorem spec_l5Trim_L0.zero {α : Type} (N : Nat) (v179 : List Int) (v180 : Int) (k0 : List Int → Int → Option α) : spec_l5Trim_L0 N 0 v179 v180 k0 = none := by rw [spec_l5Trim_L0.eq]; rfl
theorem spec_l5Trim_L0.succ {α : Type} (N n : Nat) (v179 : List Int) (v180 : Int) (k0 : List Int → Int → Option α) : spec_l5Trim_L0 N (n + 1) v179 v180 k0 = spec_l5Trim_L0r N (fun y0 y1 => spec_l5Trim_L0 N n y0 y1 k0) k0 v179 v180 := by rw [spec_l5Trim_L0.eq]; rfl
noncomputable def spec_l5Trim_L2r {α : Type} (N : Nat) (next : List Int → Int → Int → List Int → Option α) (k0 : List Int → Option α) (v188 : List Int) (v189 : Int) (v190 : Int) (v191 : List Int) : Option α :=
  let x192 := decide (v190 < v189)
  bif x192 then
    bif (decide (v190 < (0 : Int))) then
      none
    else
      match v188[v190.toNat]? with
      | some x193 =>
        let x194 := [x193]
        bif decide (v191.length + x194.length ≤ 8796093022208) then
          let x195 := v191 ++ x194
          let x196 := (IntKind.i64.wrap (v190 + (1 : Int)))
          next v188 v189 x196 x195
        else
          none
      | none => none
  else
    k0 v191
noncomputable def spec_l5Trim_L2.b {α : Type} (N n : Nat) (v188 : List Int) (v189 : Int) (v190 : Int) (v191 : List Int) (k0 : List Int → Option α) : Option α :=
  Nat.rec (motive := fun _ => List Int → Int → Int → List Int → Option α) (fun _ _ _ _ => none) (fun _ next => spec_l5Trim_L2r N next k0) n v188 v189 v190 v191
theorem spec_l5Trim_L2.ex : ∃ f : ((α : Type) → Nat → Nat → List Int → Int → Int → List Int → (List Int → Option α) → Option α), f = fun α => @spec_l5Trim_L2.b α := ⟨_, rfl⟩
noncomputable def spec_l5Trim_L2 {α : Type} : Nat → Nat → List Int → Int → Int → List Int → (List Int → Option α) → Option α := Classical.choose spec_l5Trim_L2.ex α
theorem spec_l5Trim_L2.eq : @spec_l5Trim_L2 = @spec_l5Trim_L2.b := funext fun α => congrFun (Classical.choose_spec spec_l5Trim_L2.ex) α
theorem spec_l5Trim_L2.zero {α : Type} (N : Nat) (v188 : List Int) (v189 : Int) (v190 : Int) (v191 : List Int) (k0 : List Int → Option α) : spec_l5Trim_L2 N 0 v188 v189 v190 v191 k0 = none := by rw [spec_l5Trim_L2.eq]; rfl
theorem spec_l5Trim_L2.succ {α : Type} (N n : Nat) (v188 : List Int) (v189 : Int) (v190 : Int) (v191 : List Int) (k0 : List Int → Option α) : spec_l5Trim_L2 N (n + 1) v188 v189 v190 v191 k0 = spec_l5Trim_L2r N (fun y0 y1 y2 y3 => spec_l5Trim_L2 N n y0 y1 y2 y3 k0) k0 v188 v189 v190 v191 := by rw [spec_l5Trim_L2.eq]; rfl
/-- loop.example/pinfold/spec.l5Trim -/
noncomputable def spec_l5Trim.b {α : Type} (N : Nat) (a177 : List Int) (k0 : List Int → Option α) : Option α :=
  let x178 := ((a177.length : Nat) : Int)
  spec_l5Trim_L0 N N a177 x178
    (fun x186 x187 =>
      spec_l5Trim_L2 N N x186 x187 (0 : Int) []
        (fun x197 =>
          k0 x197))
theorem spec_l5Trim.ex : ∃ f : ((α : Type) → Nat → List Int → (List Int → Option α) → Option α), f = fun α => @spec_l5Trim.b α := ⟨_, rfl⟩
noncomputable def spec_l5Trim {α : Type} : Nat → List Int → (List Int → Option α) → Option α := Classical.choose spec_l5Trim.ex α
theorem spec_l5Trim.eq : @spec_l5Trim = @spec_l5Trim.b := funext fun α => congrFun (Classical.choose_spec spec_l5Trim.ex) α

noncomputable def spec_l5Mul_L2r {α : Type} (N : Nat) (next : List Int → List Int → Int → Int → Int → List Int → Option α) (k0 : List Int → List Int → Int → Int → List Int → Option α) (v145 : List Int) (v146 : List Int) (v147 : Int) (v148 : Int) (v149 : Int) (v150 : List Int) : Option α :=
  let x151 := ((v146.length : Nat) : Int)
  let x152 := decide (v149 < x151)
  bif x152 then
    let x153 := IntKind.i64.wrap (v147 + v149)
    bif (decide (x153 < (0 : Int))) then
      none
    else
      bif decide (x153.toNat < v150.length) then
        match v150[x153.toNat]? with
        | some x154 =>
          bif (decide (v147 < (0 : Int))) then
            none
          else
            match v145[v147.toNat]? with
            | some x155 =>
              bif (decide (v149 < (0 : Int))) then
                none
              else
                match v146[v149.toNat]? with
                | some x156 =>
                  let x157 := IntKind.i64.wrap (x155 * x156)
                  let x158 := IntKind.i64.wrap (x154 + x157)
                  let x159 := IntKind.i64.wrap (x158 + v148)
                  let x160 := IntKind.i64.wrap (v147 + v149)
                  let x161 := (Int.tmod x159 (65536 : Int))
                  bif (decide (x160 < (0 : Int))) then
                    none
                  else
                    bif decide (x160.toNat < v150.length) then
                      match v150[x160.toNat]? with
                      | some x162 =>
                        let x163 := v150.set x160.toNat x161
                        let x164 := (IntKind.i64.wrap (Int.tdiv x159 (65536 : Int)))
                        let x165 := (IntKind.i64.wrap (v149 + (1 : Int)))
                        next v145 v146 v147 x164 x165 x163
                      | none => none
                    else
                      none
                | none => none
            | none => none
        | none => none
      else
        none
  else
    k0 v145 v146 v147 v148 v150
noncomputable def spec_l5Mul_L2.b {α : Type} (N n : Nat) (v145 : List Int) (v146 : List Int) (v147 : Int) (v148 : Int) (v149 : Int) (v150 : List Int) (k0 : List Int → List Int → Int → Int → List Int → Option α) : Option α :=
  Nat.rec (motive := fun _ => List Int → List Int → Int → Int → Int → List Int → Option α) (fun _ _ _ _ _ _ => none) (fun _ next => spec_l5Mul_L2r N next k0) n v145 v146 v147 v148 v149 v150
theorem spec_l5Mul_L2.ex : ∃ f : ((α : Type) → Nat → Nat → List Int → List Int → Int → Int → Int → List Int → (List Int → List Int → Int → Int → List Int → Option α) → Option α), f = fun α => @spec_l5Mul_L2.b α := ⟨_, rfl⟩
noncomputable def spec_l5Mul_L2 {α : Type} : Nat → Nat → List Int → List Int → Int → Int → Int → List Int → (List Int → List Int → Int → Int → List Int → Option α) → Option α := Classical.choose spec_l5Mul_L2.ex α
theorem spec_l5Mul_L2.eq : @spec_l5Mul_L2 = @spec_l5Mul_L2.b := funext fun α => congrFun (Classical.choose_spec spec_l5Mul_L2.ex) α
theorem spec_l5Mul_L2.zero {α : Type} (N : Nat) (v145 : List Int) (v146 : List Int) (v147 : Int) (v148 : Int) (v149 : Int) (v150 : List Int) (k0 : List Int → List Int → Int → Int → List Int → Option α) : spec_l5Mul_L2 N 0 v145 v146 v147 v148 v149 v150 k0 = none := by rw [spec_l5Mul_L2.eq]; rfl
theorem spec_l5Mul_L2.succ {α : Type} (N n : Nat) (v145 : List Int) (v146 : List Int) (v147 : Int) (v148 : Int) (v149 : Int) (v150 : List Int) (k0 : List Int → List Int → Int → Int → List Int → Option α) : spec_l5Mul_L2 N (n + 1) v145 v146 v147 v148 v149 v150 k0 = spec_l5Mul_L2r N (fun y0 y1 y2 y3 y4 y5 => spec_l5Mul_L2 N n y0 y1 y2 y3 y4 y5 k0) k0 v145 v146 v147 v148 v149 v150 := by rw [spec_l5Mul_L2.eq]; rfl
noncomputable def spec_l5Mul_L0r {α : Type} (N : Nat) (next : List Int → List Int → Int → List Int → Option α) (k0 : List Int → Option α) (v139 : List Int) (v140 : List Int) (v141 : Int) (v142 : List Int) : Option α :=
  let x143 := ((v139.length : Nat) : Int)
  let x144 := decide (v141 < x143)
  bif x144 then
    spec_l5Mul_L2 N N v139 v140 v141 (0 : Int) (0 : Int) v142
      (fun x166 x167 x168 x169 x170 =>
        let x171 := ((x167.length : Nat) : Int)
        let x172 := IntKind.i64.wrap (x168 + x171)
        bif (decide (x172 < (0 : Int))) then
          none
        else
          bif decide (x172.toNat < x170.length) then
            match x170[x172.toNat]? with
            | some x173 =>
              let x174 := x170.set x172.toNat x169
              let x175 := (IntKind.i64.wrap (x168 + (1 : Int)))
              next x166 x167 x175 x174
            | none => none
          else
            none)
  else
    k0 v142
noncomputable def spec_l5Mul_L0.b {α : Type} (N n : Nat) (v139 : List Int) (v140 : List Int) (v141 : Int) (v142 : List Int) (k0 : List Int → Option α) : Option α :=
  Nat.rec (motive := fun _ => List Int → List Int → Int → List Int → Option α) (fun _ _ _ _ => none) (fun _ next => spec_l5Mul_L0r N next k0) n v139 v140 v141 v142
theorem spec_l5Mul_L0.ex : ∃ f : ((α : Type) → Nat → Nat → List Int → List Int → Int → List Int → (List Int → Option α) → Option α), f = fun α => @spec_l5Mul_L0.b α := ⟨_, rfl⟩
noncomputable def spec_l5Mul_L0 {α : Type} : Nat → Nat → List Int → List Int → Int → List Int → (List Int → Option α) → Option α := Classical.choose spec_l5Mul_L0.ex α
theorem spec_l5Mul_L0.eq : @spec_l5Mul_L0 = @spec_l5Mul_L0.b := funext fun α => congrFun (Classical.choose_spec spec_l5Mul_L0.ex) α
theorem spec_l5Mul_L0.zero {α : Type} (N : Nat) (v139 : List Int) (v140 : List Int) (v141 : Int) (v142 : List Int) (k0 : List Int → Option α) : spec_l5Mul_L0 N 0 v139 v140 v141 v142 k0 = none := by rw [spec_l5Mul_L0.eq]; rfl
theorem spec_l5Mul_L0.succ {α : Type} (N n : Nat) (v139 : List Int) (v140 : List Int) (v141 : Int) (v142 : List Int) (k0 : List Int → Option α) : spec_l5Mul_L0 N (n + 1) v139 v140 v141 v142 k0 = spec_l5Mul_L0r N (fun y0 y1 y2 y3 => spec_l5Mul_L0 N n y0 y1 y2 y3 k0) k0 v139 v140 v141 v142 := by rw [spec_l5Mul_L0.eq]; rfl
/-- loop.example/pinfold/spec.l5Mul -/
noncomputable def spec_l5Mul.b {α : Type} (N : Nat) (a133 : List Int) (a134 : List Int) (k0 : List Int → Option α) : Option α :=
  let x135 := ((a133.length : Nat) : Int)
  let x136 := ((a134.length : Nat) : Int)
  let x137 := IntKind.i64.wrap (x135 + x136)
  bif (decide ((0 : Int) ≤ x137)) then
    bif decide (x137 ≤ x137) then
      bif (decide (x137 ≤ ((8796093022208 : Nat) : Int))) then
        let x138 := (List.replicate x137.toNat (0 : Int))
        spec_l5Mul_L0 N N a133 a134 (0 : Int) x138
          (fun x176 =>
            spec_l5Trim N x176
              (fun x198 =>
                k0 x198))
      else
        none
    else
      none
  else
    none
theorem spec_l5Mul.ex : ∃ f : ((α : Type) → Nat → List Int → List Int → (List Int → Option α) → Option α), f = fun α => @spec_l5Mul.b α := ⟨_, rfl⟩
noncomputable def spec_l5Mul {α : Type} : Nat → List Int → List Int → (List Int → Option α) → Option α := Classical.choose spec_l5Mul.ex α
theorem spec_l5Mul.eq : @spec_l5Mul = @spec_l5Mul.b := funext fun α => congrFun (Classical.choose_spec spec_l5Mul.ex) α

noncomputable def spec_l5Cmp_L0r {α : Type} (N : Nat) (next : List Int → List Int → Int → Option α) (k0 : Int → Option α) (k1 : Option α) (v210 : List Int) (v211 : List Int) (v212 : Int) : Option α :=
  let x213 := (decide ((0 : Int) ≤ v212))
  bif x213 then
    bif (decide (v212 < (0 : Int))) then
      none
    else
      match v210[v212.toNat]? with
      | some x214 =>
        bif (decide (v212 < (0 : Int))) then
          none
        else
          match v211[v212.toNat]? with
          | some x215 =>
            let x216 := decide (x214 < x215)
            bif x216 then
              k0 (-1 : Int)
            else
              bif (decide (v212 < (0 : Int))) then
                none
              else
                match v210[v212.toNat]? with
                | some x217 =>
                  bif (decide (v212 < (0 : Int))) then
                    none
                  else
                    match v211[v212.toNat]? with
                    | some x218 =>
                      let x219 := decide (x218 < x217)
                      bif x219 then
                        k0 (1 : Int)
                      else
                        let x220 := (IntKind.i64.wrap (v212 - (1 : Int)))
                        next v210 v211 x220
                    | none => none
                | none => none
          | none => none
      | none => none
  else
    k1
noncomputable def spec_l5Cmp_L0.b {α : Type} (N n : Nat) (v210 : List Int) (v211 : List Int) (v212 : Int) (k0 : Int → Option α) (k1 : Option α) : Option α :=
  Nat.rec (motive := fun _ => List Int → List Int → Int → Option α) (fun _ _ _ => none) (fun _ next => spec_l5Cmp_L0r N next k0 k1) n v210 v211 v212
theorem spec_l5Cmp_L0.ex : ∃ f : ((α : Type) → Nat → Nat → List Int → List Int → Int → (Int → Option α) → (Option α) → Option α), f = fun α => @spec_l5Cmp_L0.b α := ⟨_, rfl⟩
noncomputable def spec_l5Cmp_L0 {α : Type} : Nat → Nat → List Int → List Int → Int → (Int → Option α) → (Option α) → Option α := Classical.choose spec_l5Cmp_L0.ex α
theorem spec_l5Cmp_L0.eq : @spec_l5Cmp_L0 = @spec_l5Cmp_L0.b := funext fun α => congrFun (Classical.choose_spec spec_l5Cmp_L0.ex) α
theorem spec_l5Cmp_L0.zero {α : Type} (N : Nat) (v210 : List Int) (v211 : List Int) (v212 : Int) (k0 : Int → Option α) (k1 : Option α) : spec_l5Cmp_L0 N 0 v210 v211 v212 k0 k1 = none := by rw [spec_l5Cmp_L0.eq]; rfl
theorem spec_l5Cmp_L0.succ {α : Type} (N n : Nat) (v210 : List Int) (v211 : List Int) (v212 : Int) (k0 : Int → Option α) (k1 : Option α) : spec_l5Cmp_L0 N (n + 1) v210 v211 v212 k0 k1 = spec_l5Cmp_L0r N (fun y0 y1 y2 => spec_l5Cmp_L0 N n y0 y1 y2 k0 k1) k0 k1 v210 v211 v212 := by rw [spec_l5Cmp_L0.eq]; rfl
/-- loop.example/pinfold/spec.l5Cmp -/
noncomputable def spec_l5Cmp.b {α : Type} (N : Nat) (a200 : List Int) (a201 : List Int) (k0 : Int → Option α) : Option α :=
  let x202 := ((a200.length : Nat) : Int)
  let x203 := ((a201.length : Nat) : Int)
  let x204 := decide (x202 < x203)
  bif x204 then
    k0 (-1 : Int)
  else
    let x205 := ((a200.length : Nat) : Int)
    let x206 := ((a201.length : Nat) : Int)
    let x207 := decide (x206 < x205)
    bif x207 then
      k0 (1 : Int)
    else
      let x208 := ((a200.length : Nat) : Int)
      let x209 := (IntKind.i64.wrap (x208 - (1 : Int)))
      spec_l5Cmp_L0 N N a200 a201 x209
        (fun x221 =>
          k0 x221)
        (
          k0 (0 : Int))
theorem spec_l5Cmp.ex : ∃ f : ((α : Type) → Nat → List Int → List Int → (Int → Option α) → Option α), f = fun α => @spec_l5Cmp.b α := ⟨_, rfl⟩
noncomputable def spec_l5Cmp {α : Type} : Nat → List Int → List Int → (Int → Option α) → Option α := Classical.choose spec_l5Cmp.ex α
theorem spec_l5Cmp.eq : @spec_l5Cmp = @spec_l5Cmp.b := funext fun α => congrFun (Classical.choose_spec spec_l5Cmp.ex) α

noncomputable def spec_l5Root_J6.b {α : Type} (N : Nat) (v129 : List Int) (v130 : Int) (v131 : List Int) (v132 : List Int) (k0 : List Int → Int → List Int → Option α) : Option α :=
  spec_l5Mul N v132 v132
    (fun x199 =>
      spec_l5Cmp N x199 v129
        (fun x222 =>
          let x223 := (decide (x222 ≤ (0 : Int)))
          bif x223 then
            k0 v129 v130 v132
          else
            k0 v129 v130 v131))
theorem spec_l5Root_J6.ex : ∃ f : ((α : Type) → Nat → List Int → Int → List Int → List Int → (List Int → Int → List Int → Option α) → Option α), f = fun α => @spec_l5Root_J6.b α := ⟨_, rfl⟩
noncomputable def spec_l5Root_J6 {α : Type} : Nat → List Int → Int → List Int → List Int → (List Int → Int → List Int → Option α) → Option α := Classical.choose spec_l5Root_J6.ex α
theorem spec_l5Root_J6.eq : @spec_l5Root_J6 = @spec_l5Root_J6.b := funext fun α => congrFun (Classical.choose_spec spec_l5Root_J6.ex) α
noncomputable def spec_l5Root_L0r {α : Type} (N : Nat) (next : List Int → Int → List Int → Option α) (k0 : List Int → Option α) (v60 : List Int) (v61 : Int) (v62 : List Int) : Option α :=
  let x63 := (decide ((0 : Int) ≤ v61))
  bif x63 then
    spec_l5Pow2 N v61
      (fun x86 =>
        spec_l5Add N v62 x86
          (fun x128 =>
            spec_l5Root_J6 N v60 v61 v62 x128
              (fun x224 x225 x226 =>
                let x227 := (IntKind.i64.wrap (x225 - (1 : Int)))
                next x224 x227 x226)))
  else
    k0 v62
noncomputable def spec_l5Root_L0.b {α : Type} (N n : Nat) (v60 : List Int) (v61 : Int) (v62 : List Int) (k0 : List Int → Option α) : Option α :=
  Nat.rec (motive := fun _ => List Int → Int → List Int → Option α) (fun _ _ _ => none) (fun _ next => spec_l5Root_L0r N next k0) n v60 v61 v62
theorem spec_l5Root_L0.ex : ∃ f : ((α : Type) → Nat → Nat → List Int → Int → List Int → (List Int → Option α) → Option α), f = fun α => @spec_l5Root_L0.b α := ⟨_, rfl⟩
noncomputable def spec_l5Root_L0 {α : Type} : Nat → Nat → List Int → Int → List Int → (List Int → Option α) → Option α := Classical.choose spec_l5Root_L0.ex α
theorem spec_l5Root_L0.eq : @spec_l5Root_L0 = @spec_l5Root_L0.b := funext fun α => congrFun (Classical.choose_spec spec_l5Root_L0.ex) α
theorem spec_l5Root_L0.zero {α : Type} (N : Nat) (v60 : List Int) (v61 : Int) (v62 : List Int) (k0 : List Int → Option α) : spec_l5Root_L0 N 0 v60 v61 v62 k0 = none := by rw [spec_l5Root_L0.eq]; rfl
theorem spec_l5Root_L0.succ {α : Type} (N n : Nat) (v60 : List Int) (v61 : Int) (v62 : List Int) (k0 : List Int → Option α) : spec_l5Root_L0 N (n + 1) v60 v61 v62 k0 = spec_l5Root_L0r N (fun y0 y1 y2 => spec_l5Root_L0 N n y0 y1 y2 k0) k0 v60 v61 v62 := by rw [spec_l5Root_L0.eq]; rfl
/-- loop.example/pinfold/spec.l5Root -/
noncomputable def spec_l5Root.b {α : Type} (N : Nat) (a41 : List Int) (k0 : List Int → Option α) : Option α :=
  spec_l5Bits N a41
    (fun x57 =>
      let x58 := (IntKind.i64.wrap (x57 + (1 : Int)))
      let x59 := (IntKind.i64.wrap (Int.tdiv x58 (2 : Int)))
      spec_l5Root_L0 N N a41 x59 []
        (fun x228 =>
          k0 x228))
theorem spec_l5Root.ex : ∃ f : ((α : Type) → Nat → List Int → (List Int → Option α) → Option α), f = fun α => @spec_l5Root.b α := ⟨_, rfl⟩
noncomputable def spec_l5Root {α : Type} : Nat → List Int → (List Int → Option α) → Option α := Classical.choose spec_l5Root.ex α
theorem spec_l5Root.eq : @spec_l5Root = @spec_l5Root.b := funext fun α => congrFun (Classical.choose_spec spec_l5Root.ex) α

/-- loop.example/pinfold/spec.NatRoot -/
noncomputable def spec_NatRoot.b {α : Type} (N : Nat) (a18 : List Int) (k0 : Bool → Bool → List Int → Option α) : Option α :=
  spec_NatOk N a18
    (fun x39 =>
      let x40 := !x39
      bif x40 then
        k0 false false []
      else
        spec_l5Root N a18
          (fun x229 =>
            spec_l5Mul N x229 x229
              (fun x230 =>
                spec_l5Cmp N x230 a18
                  (fun x231 =>
                    let x232 := (decide (x231 = (0 : Int)))
                    k0 x232 true x229))))
theorem spec_NatRoot.ex : ∃ f : ((α : Type) → Nat → List Int → (Bool → Bool → List Int → Option α) → Option α), f = fun α => @spec_NatRoot.b α := ⟨_, rfl⟩
noncomputable def spec_NatRoot {α : Type} : Nat → List Int → (Bool → Bool → List Int → Option α) → Option α := Classical.choose spec_NatRoot.ex α
theorem spec_NatRoot.eq : @spec_NatRoot = @spec_NatRoot.b := funext fun α => congrFun (Classical.choose_spec spec_NatRoot.ex) α

/-- loop.example/pinfold/impl.in -/
noncomputable def impl_in.b {α : Type} (N : Nat) (a252 : Int) (a253 : Int) (a254 : Int) (k0 : Bool → Option α) : Option α :=
  let x255 := decide (a253 ≤ a252)
  bif x255 then
    let x256 := decide (a252 ≤ a254)
    k0 x256
  else
    k0 false
theorem impl_in.ex : ∃ f : ((α : Type) → Nat → Int → Int → Int → (Bool → Option α) → Option α), f = fun α => @impl_in.b α := ⟨_, rfl⟩
noncomputable def impl_in {α : Type} : Nat → Int → Int → Int → (Bool → Option α) → Option α := Classical.choose impl_in.ex α
theorem impl_in.eq : @impl_in = @impl_in.b := funext fun α => congrFun (Classical.choose_spec impl_in.ex) α

/-- loop.example/pinfold/impl.NatOk$1 -/
noncomputable def impl_NatOk_1.b {α : Type} (N : Nat) (a251 : Int) (k0 : Bool → Option α) : Option α :=
  impl_in N a251 (0 : Int) (65535 : Int)
    (fun x257 =>
      let x258 := !x257
      k0 x258)
theorem impl_NatOk_1.ex : ∃ f : ((α : Type) → Nat → Int → (Bool → Option α) → Option α), f = fun α => @impl_NatOk_1.b α := ⟨_, rfl⟩
noncomputable def impl_NatOk_1 {α : Type} : Nat → Int → (Bool → Option α) → Option α := Classical.choose impl_NatOk_1.ex α
theorem impl_NatOk_1.eq : @impl_NatOk_1 = @impl_NatOk_1.b := funext fun α => congrFun (Classical.choose_spec impl_NatOk_1.ex) α

noncomputable def slices_IndexFunc_int_int__impl_NatOk_1_L0r {α : Type} (N : Nat) (next : List Int → Int → Int → Option α) (k0 : Int → Option α) (k1 : Option α) (v246 : List Int) (v247 : Int) (v248 : Int) : Option α :=
  let x249 := decide (v248 < v247)
  bif x249 then
    bif (decide (v248 < (0 : Int))) then
      none
    else
      match v246[v248.toNat]? with
      | some x250 =>
        impl_NatOk_1 N x250
          (fun x259 =>
            bif x259 then
              k0 v248
            else
              let x260 := (IntKind.i64.wrap (v248 + (1 : Int)))
              next v246 v247 x260)
      | none => none
  else
    k1
noncomputable def slices_IndexFunc_int_int__impl_NatOk_1_L0.b {α : Type} (N n : Nat) (v246 : List Int) (v247 : Int) (v248 : Int) (k0 : Int → Option α) (k1 : Option α) : Option α :=
  Nat.rec (motive := fun _ => List Int → Int → Int → Option α) (fun _ _ _ => none) (fun _ next => slices_IndexFunc_int_int__impl_NatOk_1_L0r N next k0 k1) n v246 v247 v248
theorem slices_IndexFunc_int_int__impl_NatOk_1_L0.ex : ∃ f : ((α : Type) → Nat → Nat → List Int → Int → Int → (Int → Option α) → (Option α) → Option α), f = fun α => @slices_IndexFunc_int_int__impl_NatOk_1_L0.b α := ⟨_, rfl⟩
noncomputable def slices_IndexFunc_int_int__impl_NatOk_1_L0 {α : Type} : Nat → Nat → List Int → Int → Int → (Int → Option α) → (Option α) → Option α := Classical.choose slices_IndexFunc_int_int__impl_NatOk_1_L0.ex α
theorem slices_IndexFunc_int_int__impl_NatOk_1_L0.eq : @slices_IndexFunc_int_int__impl_NatOk_1_L0 = @slices_IndexFunc_int_int__impl_NatOk_1_L0.b := funext fun α => congrFun (Classical.choose_spec slices_IndexFunc_int_int__impl_NatOk_1_L0.ex) α
theorem slices_IndexFunc_int_int__impl_NatOk_1_L0.zero {α : Type} (N : Nat) (v246 : List Int) (v247 : Int) (v248 : Int) (k0 : Int → Option α) (k1 : Option α) : slices_IndexFunc_int_int__impl_NatOk_1_L0 N 0 v246 v247 v248 k0 k1 = none := by rw [slices_IndexFunc_int_int__impl_NatOk_1_L0.eq]; rfl
theorem slices_IndexFunc_int_int__impl_NatOk_1_L0.succ {α : Type} (N n : Nat) (v246 : List Int) (v247 : Int) (v248 : Int) (k0 : Int → Option α) (k1 : Option α) : slices_IndexFunc_int_int__impl_NatOk_1_L0 N (n + 1) v246 v247 v248 k0 k1 = slices_IndexFunc_int_int__impl_NatOk_1_L0r N (fun y0 y1 y2 => slices_IndexFunc_int_int__impl_NatOk_1_L0 N n y0 y1 y2 k0 k1) k0 k1 v246 v247 v248 := by rw [slices_IndexFunc_int_int__impl_NatOk_1_L0.eq]; rfl
/-- slices.IndexFunc[[]int,int] -/
noncomputable def slices_IndexFunc_int_int__impl_NatOk_1.b {α : Type} (N : Nat) (a244 : List Int) (k0 : Int → Option α) : Option α :=
  let x245 := ((a244.length : Nat) : Int)
  slices_IndexFunc_int_int__impl_NatOk_1_L0 N N a244 x245 (0 : Int)
    (fun x261 =>
      k0 x261)
    (
      k0 (-1 : Int))
theorem slices_IndexFunc_int_int__impl_NatOk_1.ex : ∃ f : ((α : Type) → Nat → List Int → (Int → Option α) → Option α), f = fun α => @slices_IndexFunc_int_int__impl_NatOk_1.b α := ⟨_, rfl⟩
noncomputable def slices_IndexFunc_int_int__impl_NatOk_1 {α : Type} : Nat → List Int → (Int → Option α) → Option α := Classical.choose slices_IndexFunc_int_int__impl_NatOk_1.ex α
theorem slices_IndexFunc_int_int__impl_NatOk_1.eq : @slices_IndexFunc_int_int__impl_NatOk_1 = @slices_IndexFunc_int_int__impl_NatOk_1.b := funext fun α => congrFun (Classical.choose_spec slices_IndexFunc_int_int__impl_NatOk_1.ex) α

/-- slices.ContainsFunc[[]int,int] -/
noncomputable def slices_ContainsFunc_int_int__impl_NatOk_1.b {α : Type} (N : Nat) (a243 : List Int) (k0 : Bool → Option α) : Option α :=
  slices_IndexFunc_int_int__impl_NatOk_1 N a243
    (fun x262 =>
      let x263 := (decide ((0 : Int) ≤ x262))
      k0 x263)
theorem slices_ContainsFunc_int_int__impl_NatOk_1.ex : ∃ f : ((α : Type) → Nat → List Int → (Bool → Option α) → Option α), f = fun α => @slices_ContainsFunc_int_int__impl_NatOk_1.b α := ⟨_, rfl⟩
noncomputable def slices_ContainsFunc_int_int__impl_NatOk_1 {α : Type} : Nat → List Int → (Bool → Option α) → Option α := Classical.choose slices_ContainsFunc_int_int__impl_NatOk_1.ex α
theorem slices_ContainsFunc_int_int__impl_NatOk_1.eq : @slices_ContainsFunc_int_int__impl_NatOk_1 = @slices_ContainsFunc_int_int__impl_NatOk_1.b := funext fun α => congrFun (Classical.choose_spec slices_ContainsFunc_int_int__impl_NatOk_1.ex) α

/-- loop.example/pinfold/impl.NatOk -/
noncomputable def impl_NatOk.b {α : Type} (N : Nat) (a238 : List Int) (k0 : Bool → Option α) : Option α :=
  let x239 := ((a238.length : Nat) : Int)
  let x240 := (decide (x239 ≤ (256 : Int)))
  bif x240 then
    let x241 := ((a238.length : Nat) : Int)
    let x242 := (decide (x241 = (0 : Int)))
    bif x242 then
      slices_ContainsFunc_int_int__impl_NatOk_1 N a238
        (fun x264 =>
          let x265 := !x264
          k0 x265)
    else
      let x266 := ((a238.length : Nat) : Int)
      let x267 := (IntKind.i64.wrap (x266 - (1 : Int)))
      bif (decide (x267 < (0 : Int))) then
        none
      else
        match a238[x267.toNat]? with
        | some x268 =>
          let x269 := (!(decide (x268 = (0 : Int))))
          bif x269 then
            slices_ContainsFunc_int_int__impl_NatOk_1 N a238
              (fun x270 =>
                let x271 := !x270
                k0 x271)
          else
            k0 false
        | none => none
  else
    k0 false
theorem impl_NatOk.ex : ∃ f : ((α : Type) → Nat → List Int → (Bool → Option α) → Option α), f = fun α => @impl_NatOk.b α := ⟨_, rfl⟩
noncomputable def impl_NatOk {α : Type} : Nat → List Int → (Bool → Option α) → Option α := Classical.choose impl_NatOk.ex α
theorem impl_NatOk.eq : @impl_NatOk = @impl_NatOk.b := funext fun α => congrFun (Classical.choose_spec impl_NatOk.ex) α

noncomputable def math_bits_Len64_J1.b {α : Type} (N : Nat) (v946 : Int) (v947 : Int) (k0 : Int → Int → Option α) : Option α :=
  let x948 := (decide ((4294967296 : Int) ≤ v946))
  bif x948 then
    let x949 := (shrI .u64 v946 (32 : Int))
    k0 x949 (32 : Int)
  else
    k0 v946 v947
theorem math_bits_Len64_J1.ex : ∃ f : ((α : Type) → Nat → Int → Int → (Int → Int → Option α) → Option α), f = fun α => @math_bits_Len64_J1.b α := ⟨_, rfl⟩
noncomputable def math_bits_Len64_J1 {α : Type} : Nat → Int → Int → (Int → Int → Option α) → Option α := Classical.choose math_bits_Len64_J1.ex α
theorem math_bits_Len64_J1.eq : @math_bits_Len64_J1 = @math_bits_Len64_J1.b := funext fun α => congrFun (Classical.choose_spec math_bits_Len64_J1.ex) α
noncomputable def math_bits_Len64_J4.b {α : Type} (N : Nat) (v952 : Int) (v953 : Int) (k0 : Int → Int → Option α) : Option α :=
  let x954 := (decide ((65536 : Int) ≤ v952))
  bif x954 then
    let x955 := (shrI .u64 v952 (16 : Int))
    let x956 := (IntKind.i64.wrap (v953 + (16 : Int)))
    k0 x955 x956
  else
    k0 v952 v953
theorem math_bits_Len64_J4.ex : ∃ f : ((α : Type) → Nat → Int → Int → (Int → Int → Option α) → Option α), f = fun α => @math_bits_Len64_J4.b α := ⟨_, rfl⟩
noncomputable def math_bits_Len64_J4 {α : Type} : Nat → Int → Int → (Int → Int → Option α) → Option α := Classical.choose math_bits_Len64_J4.ex α
theorem math_bits_Len64_J4.eq : @math_bits_Len64_J4 = @math_bits_Len64_J4.b := funext fun α => congrFun (Classical.choose_spec math_bits_Len64_J4.ex) α
noncomputable def math_bits_Len64_J7.b {α : Type} (N : Nat) (v959 : Int) (v960 : Int) (k0 : Int → Int → Option α) : Option α :=
  let x961 := (decide ((256 : Int) ≤ v959))
  bif x961 then
    let x962 := (shrI .u64 v959 (8 : Int))
    let x963 := (IntKind.i64.wrap (v960 + (8 : Int)))
    k0 x962 x963
  else
    k0 v959 v960
theorem math_bits_Len64_J7.ex : ∃ f : ((α : Type) → Nat → Int → Int → (Int → Int → Option α) → Option α), f = fun α => @math_bits_Len64_J7.b α := ⟨_, rfl⟩
noncomputable def math_bits_Len64_J7 {α : Type} : Nat → Int → Int → (Int → Int → Option α) → Option α := Classical.choose math_bits_Len64_J7.ex α
theorem math_bits_Len64_J7.eq : @math_bits_Len64_J7 = @math_bits_Len64_J7.b := funext fun α => congrFun (Classical.choose_spec math_bits_Len64_J7.ex) α
/-- math/bits.Len64 -/
noncomputable def math_bits_Len64.b {α : Type} (N : Nat) (a945 : Int) (k0 : Int → Option α) : Option α :=
  math_bits_Len64_J1 N a945 (0 : Int)
    (fun x950 x951 =>
      math_bits_Len64_J4 N x950 x951
        (fun x957 x958 =>
          math_bits_Len64_J7 N x957 x958
            (fun x964 x965 =>
              let x966 := IntKind.u8.wrap x964
              bif (decide (x966 < (0 : Int))) then
                none
              else
                match ((⟨#[0, 1, 2, 2, 3, 3, 3, 3, 4, 4, 4, 4, 4, 4, 4, 4, 5, 5, 5, 5, 5, 5, 5, 5, 5, 5, 5, 5, 5, 5, 5, 5, 6, 6, 6, 6, 6, 6, 6, 6, 6, 6, 6, 6, 6, 6, 6, 6, 6, 6, 6, 6, 6, 6, 6, 6, 6, 6, 6, 6, 6, 6, 6, 6, 7, 7, 7, 7, 7, 7, 7, 7, 7, 7, 7, 7, 7, 7, 7, 7, 7, 7, 7, 7, 7, 7, 7, 7, 7, 7, 7, 7, 7, 7, 7, 7, 7, 7, 7, 7, 7, 7, 7, 7, 7, 7, 7, 7, 7, 7, 7, 7, 7, 7, 7, 7, 7, 7, 7, 7, 7, 7, 7, 7, 7, 7, 7, 7, 8, 8, 8, 8, 8, 8, 8, 8, 8, 8, 8, 8, 8, 8, 8, 8, 8, 8, 8, 8, 8, 8, 8, 8, 8, 8, 8, 8, 8, 8, 8, 8, 8, 8, 8, 8, 8, 8, 8, 8, 8, 8, 8, 8, 8, 8, 8, 8, 8, 8, 8, 8, 8, 8, 8, 8, 8, 8, 8, 8, 8, 8, 8, 8, 8, 8, 8, 8, 8, 8, 8, 8, 8, 8, 8, 8, 8, 8, 8, 8, 8, 8, 8, 8, 8, 8, 8, 8, 8, 8, 8, 8, 8, 8, 8, 8, 8, 8, 8, 8, 8, 8, 8, 8, 8, 8, 8, 8, 8, 8, 8, 8, 8, 8, 8, 8, 8, 8, 8, 8, 8, 8, 8, 8, 8, 8, 8, 8]⟩ : ByteArray)[x966.toNat]? : Option UInt8) with
                | some x967 =>
                  let x968 := ((x967.toNat : Nat) : Int)
                  let x969 := IntKind.i64.wrap x968
                  let x970 := IntKind.i64.wrap (x965 + x969)
                  k0 x970
                | none => none)))
theorem math_bits_Len64.ex : ∃ f : ((α : Type) → Nat → Int → (Int → Option α) → Option α), f = fun α => @math_bits_Len64.b α := ⟨_, rfl⟩
noncomputable def math_bits_Len64 {α : Type} : Nat → Int → (Int → Option α) → Option α := Classical.choose math_bits_Len64.ex α
theorem math_bits_Len64.eq : @math_bits_Len64 = @math_bits_Len64.b := funext fun α => congrFun (Classical.choose_spec math_bits_Len64.ex) α

/-- math/bits.Len -/
noncomputable def math_bits_Len.b {α : Type} (N : Nat) (a944 : Int) (k0 : Int → Option α) : Option α :=
  math_bits_Len64 N a944
    (fun x971 =>
      k0 x971)
theorem math_bits_Len.ex : ∃ f : ((α : Type) → Nat → Int → (Int → Option α) → Option α), f = fun α => @math_bits_Len.b α := ⟨_, rfl⟩
noncomputable def math_bits_Len {α : Type} : Nat → Int → (Int → Option α) → Option α := Classical.choose math_bits_Len.ex α
theorem math_bits_Len.eq : @math_bits_Len = @math_bits_Len.b := funext fun α => congrFun (Classical.choose_spec math_bits_Len.ex) α

/-- loop.example/pinfold/impl.natBits -/
noncomputable def impl_natBits.b {α : Type} (N : Nat) (a934 : List Int) (k0 : Int → Option α) : Option α :=
  let x935 := ((a934.length : Nat) : Int)
  let x936 := (decide (x935 = (0 : Int)))
  bif x936 then
    k0 (0 : Int)
  else
    let x937 := ((a934.length : Nat) : Int)
    let x938 := (IntKind.i64.wrap (x937 - (1 : Int)))
    let x939 := (IntKind.i64.wrap ((16 : Int) * x938))
    let x940 := ((a934.length : Nat) : Int)
    let x941 := (IntKind.i64.wrap (x940 - (1 : Int)))
    bif (decide (x941 < (0 : Int))) then
      none
    else
      match a934[x941.toNat]? with
      | some x942 =>
        let x943 := IntKind.u64.wrap x942
        math_bits_Len N x943
          (fun x972 =>
            let x973 := IntKind.i64.wrap (x939 + x972)
            k0 x973)
      | none => none
theorem impl_natBits.ex : ∃ f : ((α : Type) → Nat → List Int → (Int → Option α) → Option α), f = fun α => @impl_natBits.b α := ⟨_, rfl⟩
noncomputable def impl_natBits {α : Type} : Nat → List Int → (Int → Option α) → Option α := Classical.choose impl_natBits.ex α
theorem impl_natBits.eq : @impl_natBits = @impl_natBits.b := funext fun α => congrFun (Classical.choose_spec impl_natBits.ex) α

/-- slices.Clone[[]int,int] -/
noncomputable def slices_Clone_int_int {α : Type} (N : Nat) (a1 : List Int) (k0 : List Int → Option α) : Option α :=
  bif decide (([] : List Int).length + a1.length ≤ 8796093022208) then k0 a1 else none

noncomputable def impl_trim_L0r {α : Type} (N : Nat) (next : List Int → Option α) (k0 : List Int → Option α) (v1095 : List Int) : Option α :=
  let x1096 := ((v1095.length : Nat) : Int)
  let x1097 := (decide ((0 : Int) < x1096))
  bif x1097 then
    let x1098 := ((v1095.length : Nat) : Int)
    let x1099 := (IntKind.i64.wrap (x1098 - (1 : Int)))
    bif (decide (x1099 < (0 : Int))) then
      none
    else
      match v1095[x1099.toNat]? with
      | some x1100 =>
        let x1101 := (decide (x1100 = (0 : Int)))
        bif x1101 then
          let x1102 := ((v1095.length : Nat) : Int)
          let x1103 := (IntKind.i64.wrap (x1102 - (1 : Int)))
          bif (decide ((0 : Int) ≤ x1103)) then
            bif (decide (x1103 ≤ ((v1095.length : Nat) : Int))) then
              let x1104 := v1095.take x1103.toNat
              next x1104
            else
              none
          else
            none
        else
          k0 v1095
      | none => none
  else
    k0 v1095
noncomputable def impl_trim_L0.b {α : Type} (N n : Nat) (v1095 : List Int) (k0 : List Int → Option α) : Option α :=
  Nat.rec (motive := fun _ => List Int → Option α) (fun _ => none) (fun _ next => impl_trim_L0r N next k0) n v1095
theorem impl_trim_L0.ex : ∃ f : ((α : Type) → Nat → Nat → List Int → (List Int → Option α) → Option α), f = fun α => @impl_trim_L0.b α := ⟨_, rfl⟩
noncomputable def impl_trim_L0 {α : Type} : Nat → Nat → List Int → (List Int → Option α) → Option α := Classical.choose impl_trim_L0.ex α
theorem impl_trim_L0.eq : @impl_trim_L0 = @impl_trim_L0.b := funext fun α => congrFun (Classical.choose_spec impl_trim_L0.ex) α
theorem impl_trim_L0.zero {α : Type} (N : Nat) (v1095 : List Int) (k0 : List Int → Option α) : impl_trim_L0 N 0 v1095 k0 = none := by rw [impl_trim_L0.eq]; rfl
theorem impl_trim_L0.succ {α : Type} (N n : Nat) (v1095 : List Int) (k0 : List Int → Option α) : impl_trim_L0 N (n + 1) v1095 k0 = impl_trim_L0r N (fun y0 => impl_trim_L0 N n y0 k0) k0 v1095 := by rw [impl_trim_L0.eq]; rfl
/-- loop.example/pinfold/impl.trim -/
noncomputable def impl_trim.b {α : Type} (N : Nat) (a1094 : List Int) (k0 : List Int → Option α) : Option α :=
  impl_trim_L0 N N a1094
    (fun x1105 =>
      k0 x1105)
theorem impl_trim.ex : ∃ f : ((α : Type) → Nat → List Int → (List Int → Option α) → Option α), f = fun α => @impl_trim.b α := ⟨_, rfl⟩
noncomputable def impl_trim {α : Type} : Nat → List Int → (List Int → Option α) → Option α := Classical.choose impl_trim.ex α
theorem impl_trim.eq : @impl_trim = @impl_trim.b := funext fun α => congrFun (Classical.choose_spec impl_trim.ex) α

noncomputable def impl_natShift_J10.b {α : Type} (N : Nat) (v1065 : List Int) (v1066 : Int) (v1067 : Int) (v1068 : Int) (v1069 : Int) (v1070 : Int) (v1071 : List Int) (k0 : List Int → Int → Int → Int → Int → List Int → Option α) : Option α :=
  let x1072 := IntKind.i64.wrap (v1066 + v1068)
  let x1073 := (IntKind.i64.wrap (x1072 + (1 : Int)))
  let x1074 := ((v1065.length : Nat) : Int)
  let x1075 := decide (x1073 < x1074)
  bif x1075 then
    bif (decide (v1068 < (0 : Int))) then
      none
    else
      bif decide (v1068.toNat < v1071.length) then
        match v1071[v1068.toNat]? with
        | some x1076 =>
          let x1077 := IntKind.i64.wrap (v1066 + v1068)
          let x1078 := (IntKind.i64.wrap (x1077 + (1 : Int)))
          bif (decide (x1078 < (0 : Int))) then
            none
          else
            match v1065[x1078.toNat]? with
            | some x1079 =>
              let x1080 := (IntKind.i64.wrap ((16 : Int) - v1067))
              bif (decide (x1080 < (0 : Int))) then
                none
              else
                let x1081 := shlI .i64 x1079 x1080
                let x1082 := (bitI .and .i64 x1081 (65535 : Int))
                let x1083 := bitI .or .i64 x1076 x1082
                bif (decide (v1068 < (0 : Int))) then
                  none
                else
                  bif decide (v1068.toNat < v1071.length) then
                    match v1071[v1068.toNat]? with
                    | some x1084 =>
                      let x1085 := v1071.set v1068.toNat x1083
                      k0 v1065 v1066 v1067 v1069 v1070 x1085
                    | none => none
                  else
                    none
            | none => none
        | none => none
      else
        none
  else
    k0 v1065 v1066 v1067 v1069 v1070 v1071
theorem impl_natShift_J10.ex : ∃ f : ((α : Type) → Nat → List Int → Int → Int → Int → Int → Int → List Int → (List Int → Int → Int → Int → Int → List Int → Option α) → Option α), f = fun α => @impl_natShift_J10.b α := ⟨_, rfl⟩
noncomputable def impl_natShift_J10 {α : Type} : Nat → List Int → Int → Int → Int → Int → Int → List Int → (List Int → Int → Int → Int → Int → List Int → Option α) → Option α := Classical.choose impl_natShift_J10.ex α
theorem impl_natShift_J10.eq : @impl_natShift_J10 = @impl_natShift_J10.b := funext fun α => congrFun (Classical.choose_spec impl_natShift_J10.ex) α
noncomputable def impl_natShift_L0r {α : Type} (N : Nat) (next : List Int → Int → Int → Int → Int → List Int → Option α) (k0 : List Int → Option α) (v1054 : List Int) (v1055 : Int) (v1056 : Int) (v1057 : Int) (v1058 : Int) (v1059 : List Int) : Option α :=
  let x1060 := decide (v1058 < v1057)
  bif x1060 then
    bif (decide (v1058 < (0 : Int))) then
      none
    else
      bif decide (v1058.toNat < v1059.length) then
        match v1059[v1058.toNat]? with
        | some x1061 =>
          bif (decide (v1056 < (0 : Int))) then
            none
          else
            let x1062 := shrI .i64 x1061 v1056
            bif (decide (v1058 < (0 : Int))) then
              none
            else
              bif decide (v1058.toNat < v1059.length) then
                match v1059[v1058.toNat]? with
                | some x1063 =>
                  let x1064 := v1059.set v1058.toNat x1062
                  impl_natShift_J10 N v1054 v1055 v1056 v1058 v1057 v1058 x1064
                    (fun x1086 x1087 x1088 x1089 x1090 x1091 =>
                      let x1092 := (IntKind.i64.wrap (x1090 + (1 : Int)))
                      next x1086 x1087 x1088 x1089 x1092 x1091)
                | none => none
              else
                none
        | none => none
      else
        none
  else
    k0 v1059
noncomputable def impl_natShift_L0.b {α : Type} (N n : Nat) (v1054 : List Int) (v1055 : Int) (v1056 : Int) (v1057 : Int) (v1058 : Int) (v1059 : List Int) (k0 : List Int → Option α) : Option α :=
  Nat.rec (motive := fun _ => List Int → Int → Int → Int → Int → List Int → Option α) (fun _ _ _ _ _ _ => none) (fun _ next => impl_natShift_L0r N next k0) n v1054 v1055 v1056 v1057 v1058 v1059
theorem impl_natShift_L0.ex : ∃ f : ((α : Type) → Nat → Nat → List Int → Int → Int → Int → Int → List Int → (List Int → Option α) → Option α), f = fun α => @impl_natShift_L0.b α := ⟨_, rfl⟩
noncomputable def impl_natShift_L0 {α : Type} : Nat → Nat → List Int → Int → Int → Int → Int → List Int → (List Int → Option α) → Option α := Classical.choose impl_natShift_L0.ex α
theorem impl_natShift_L0.eq : @impl_natShift_L0 = @impl_natShift_L0.b := funext fun α => congrFun (Classical.choose_spec impl_natShift_L0.ex) α
theorem impl_natShift_L0.zero {α : Type} (N : Nat) (v1054 : List Int) (v1055 : Int) (v1056 : Int) (v1057 : Int) (v1058 : Int) (v1059 : List Int) (k0 : List Int → Option α) : impl_natShift_L0 N 0 v1054 v1055 v1056 v1057 v1058 v1059 k0 = none := by rw [impl_natShift_L0.eq]; rfl
theorem impl_natShift_L0.succ {α : Type} (N n : Nat) (v1054 : List Int) (v1055 : Int) (v1056 : Int) (v1057 : Int) (v1058 : Int) (v1059 : List Int) (k0 : List Int → Option α) : impl_natShift_L0 N (n + 1) v1054 v1055 v1056 v1057 v1058 v1059 k0 = impl_natShift_L0r N (fun y0 y1 y2 y3 y4 y5 => impl_natShift_L0 N n y0 y1 y2 y3 y4 y5 k0) k0 v1054 v1055 v1056 v1057 v1058 v1059 := by rw [impl_natShift_L0.eq]; rfl
noncomputable def impl_natShift_L2r {α : Type} (N : Nat) (next : Int → List Int → Int → Int → List Int → Option α) (k0 : List Int → Option α) (v1113 : Int) (v1114 : List Int) (v1115 : Int) (v1116 : Int) (v1117 : List Int) : Option α :=
  let x1118 := decide (v1116 < v1115)
  bif x1118 then
    bif (decide (v1116 < (0 : Int))) then
      none
    else
      match v1114[v1116.toNat]? with
      | some x1119 =>
        let x1120 := (Int.tmod v1113 (16 : Int))
        bif (decide (x1120 < (0 : Int))) then
          none
        else
          let x1121 := shlI .i64 x1119 x1120
          let x1122 := (IntKind.i64.wrap (Int.tdiv v1113 (16 : Int)))
          let x1123 := IntKind.i64.wrap (x1122 + v1116)
          bif (decide (x1123 < (0 : Int))) then
            none
          else
            bif decide (x1123.toNat < v1117.length) then
              match v1117[x1123.toNat]? with
              | some x1124 =>
                let x1125 := (bitI .and .i64 x1121 (65535 : Int))
                let x1126 := bitI .or .i64 x1124 x1125
                bif (decide (x1123 < (0 : Int))) then
                  none
                else
                  bif decide (x1123.toNat < v1117.length) then
                    match v1117[x1123.toNat]? with
                    | some x1127 =>
                      let x1128 := v1117.set x1123.toNat x1126
                      let x1129 := (IntKind.i64.wrap (Int.tdiv v1113 (16 : Int)))
                      let x1130 := IntKind.i64.wrap (x1129 + v1116)
                      let x1131 := (IntKind.i64.wrap (x1130 + (1 : Int)))
                      let x1132 := (shrI .i64 x1121 (16 : Int))
                      bif (decide (x1131 < (0 : Int))) then
                        none
                      else
                        bif decide (x1131.toNat < x1128.length) then
                          match x1128[x1131.toNat]? with
                          | some x1133 =>
                            let x1134 := x1128.set x1131.toNat x1132
                            let x1135 := (IntKind.i64.wrap (v1116 + (1 : Int)))
                            next v1113 v1114 v1115 x1135 x1134
                          | none => none
                        else
                          none
                    | none => none
                  else
                    none
              | none => none
            else
              none
      | none => none
  else
    k0 v1117
noncomputable def impl_natShift_L2.b {α : Type} (N n : Nat) (v1113 : Int) (v1114 : List Int) (v1115 : Int) (v1116 : Int) (v1117 : List Int) (k0 : List Int → Option α) : Option α :=
  Nat.rec (motive := fun _ => Int → List Int → Int → Int → List Int → Option α) (fun _ _ _ _ _ => none) (fun _ next => impl_natShift_L2r N next k0) n v1113 v1114 v1115 v1116 v1117
theorem impl_natShift_L2.ex : ∃ f : ((α : Type) → Nat → Nat → Int → List Int → Int → Int → List Int → (List Int → Option α) → Option α), f = fun α => @impl_natShift_L2.b α := ⟨_, rfl⟩
noncomputable def impl_natShift_L2 {α : Type} : Nat → Nat → Int → List Int → Int → Int → List Int → (List Int → Option α) → Option α := Classical.choose impl_natShift_L2.ex α
theorem impl_natShift_L2.eq : @impl_natShift_L2 = @impl_natShift_L2.b := funext fun α => congrFun (Classical.choose_spec impl_natShift_L2.ex) α
theorem impl_natShift_L2.zero {α : Type} (N : Nat) (v1113 : Int) (v1114 : List Int) (v1115 : Int) (v1116 : Int) (v1117 : List Int) (k0 : List Int → Option α) : impl_natShift_L2 N 0 v1113 v1114 v1115 v1116 v1117 k0 = none := by rw [impl_natShift_L2.eq]; rfl
theorem impl_natShift_L2.succ {α : Type} (N n : Nat) (v1113 : Int) (v1114 : List Int) (v1115 : Int) (v1116 : Int) (v1117 : List Int) (k0 : List Int → Option α) : impl_natShift_L2 N (n + 1) v1113 v1114 v1115 v1116 v1117 k0 = impl_natShift_L2r N (fun y0 y1 y2 y3 y4 => impl_natShift_L2 N n y0 y1 y2 y3 y4 k0) k0 v1113 v1114 v1115 v1116 v1117 := by rw [impl_natShift_L2.eq]; rfl
/-- loop.example/pinfold/impl.natShift -/
noncomputable def impl_natShift.b {α : Type} (N : Nat) (a1042 : List Int) (a1043 : Int) (k0 : List Int → Option α) : Option α :=
  let x1044 := (decide (a1043 < (0 : Int)))
  bif x1044 then
    let x1045 := IntKind.i64.wrap (0 - a1043)
    let x1046 := (IntKind.i64.wrap (Int.tdiv x1045 (16 : Int)))
    let x1047 := IntKind.i64.wrap (0 - a1043)
    let x1048 := (Int.tmod x1047 (16 : Int))
    let x1049 := ((a1042.length : Nat) : Int)
    let x1050 := decide (x1049 ≤ x1046)
    bif x1050 then
      k0 []
    else
      bif (decide ((0 : Int) ≤ x1046)) then
        bif (decide (x1046 ≤ ((a1042.length : Nat) : Int))) then
          let x1051 := a1042.drop x1046.toNat
          slices_Clone_int_int N x1051
            (fun x1052 =>
              let x1053 := ((x1052.length : Nat) : Int)
              impl_natShift_L0 N N a1042 x1046 x1048 x1053 (0 : Int) x1052
                (fun x1093 =>
                  impl_trim N x1093
                    (fun x1106 =>
                      k0 x1106)))
        else
          none
      else
        none
  else
    let x1107 := (IntKind.i64.wrap (Int.tdiv a1043 (16 : Int)))
    let x1108 := ((a1042.length : Nat) : Int)
    let x1109 := IntKind.i64.wrap (x1107 + x1108)
    let x1110 := (IntKind.i64.wrap (x1109 + (1 : Int)))
    bif (decide ((0 : Int) ≤ x1110)) then
      bif decide (x1110 ≤ x1110) then
        bif (decide (x1110 ≤ ((8796093022208 : Nat) : Int))) then
          let x1111 := (List.replicate x1110.toNat (0 : Int))
          let x1112 := ((a1042.length : Nat) : Int)
          impl_natShift_L2 N N a1043 a1042 x1112 (0 : Int) x1111
            (fun x1136 =>
              impl_trim N x1136
                (fun x1137 =>
                  k0 x1137))
        else
          none
      else
        none
    else
      none
theorem impl_natShift.ex : ∃ f : ((α : Type) → Nat → List Int → Int → (List Int → Option α) → Option α), f = fun α => @impl_natShift.b α := ⟨_, rfl⟩
noncomputable def impl_natShift {α : Type} : Nat → List Int → Int → (List Int → Option α) → Option α := Classical.choose impl_natShift.ex α
theorem impl_natShift.eq : @impl_natShift = @impl_natShift.b := funext fun α => congrFun (Classical.choose_spec impl_natShift.ex) α

noncomputable def impl_natCmp_L0r {α : Type} (N : Nat) (next : List Int → List Int → Int → Option α) (k0 : Int → Option α) (k1 : Option α) (v1212 : List Int) (v1213 : List Int) (v1214 : Int) : Option α :=
  let x1215 := (decide ((0 : Int) ≤ v1214))
  bif x1215 then
    bif (decide (v1214 < (0 : Int))) then
      none
    else
      match v1212[v1214.toNat]? with
      | some x1216 =>
        bif (decide (v1214 < (0 : Int))) then
          none
        else
          match v1213[v1214.toNat]? with
          | some x1217 =>
            let x1218 := !(decide (x1216 = x1217))
            bif x1218 then
              bif (decide (v1214 < (0 : Int))) then
                none
              else
                match v1212[v1214.toNat]? with
                | some x1219 =>
                  bif (decide (v1214 < (0 : Int))) then
                    none
                  else
                    match v1213[v1214.toNat]? with
                    | some x1220 =>
                      let x1221 := IntKind.i64.wrap (x1219 - x1220)
                      let x1222 := (minI (1 : Int) x1221)
                      let x1223 := (maxI (-1 : Int) x1222)
                      k0 x1223
                    | none => none
                | none => none
            else
              let x1224 := (IntKind.i64.wrap (v1214 - (1 : Int)))
              next v1212 v1213 x1224
          | none => none
      | none => none
  else
    k1
noncomputable def impl_natCmp_L0.b {α : Type} (N n : Nat) (v1212 : List Int) (v1213 : List Int) (v1214 : Int) (k0 : Int → Option α) (k1 : Option α) : Option α :=
  Nat.rec (motive := fun _ => List Int → List Int → Int → Option α) (fun _ _ _ => none) (fun _ next => impl_natCmp_L0r N next k0 k1) n v1212 v1213 v1214
theorem impl_natCmp_L0.ex : ∃ f : ((α : Type) → Nat → Nat → List Int → List Int → Int → (Int → Option α) → (Option α) → Option α), f = fun α => @impl_natCmp_L0.b α := ⟨_, rfl⟩
noncomputable def impl_natCmp_L0 {α : Type} : Nat → Nat → List Int → List Int → Int → (Int → Option α) → (Option α) → Option α := Classical.choose impl_natCmp_L0.ex α
theorem impl_natCmp_L0.eq : @impl_natCmp_L0 = @impl_natCmp_L0.b := funext fun α => congrFun (Classical.choose_spec impl_natCmp_L0.ex) α
theorem impl_natCmp_L0.zero {α : Type} (N : Nat) (v1212 : List Int) (v1213 : List Int) (v1214 : Int) (k0 : Int → Option α) (k1 : Option α) : impl_natCmp_L0 N 0 v1212 v1213 v1214 k0 k1 = none := by rw [impl_natCmp_L0.eq]; rfl
theorem impl_natCmp_L0.succ {α : Type} (N n : Nat) (v1212 : List Int) (v1213 : List Int) (v1214 : Int) (k0 : Int → Option α) (k1 : Option α) : impl_natCmp_L0 N (n + 1) v1212 v1213 v1214 k0 k1 = impl_natCmp_L0r N (fun y0 y1 y2 => impl_natCmp_L0 N n y0 y1 y2 k0 k1) k0 k1 v1212 v1213 v1214 := by rw [impl_natCmp_L0.eq]; rfl
/-- loop.example/pinfold/impl.natCmp -/
noncomputable def impl_natCmp.b {α : Type} (N : Nat) (a1200 : List Int) (a1201 : List Int) (k0 : Int → Option α) : Option α :=
  let x1202 := ((a1200.length : Nat) : Int)
  let x1203 := ((a1201.length : Nat) : Int)
  let x1204 := !(decide (x1202 = x1203))
  bif x1204 then
    let x1205 := ((a1200.length : Nat) : Int)
    let x1206 := ((a1201.length : Nat) : Int)
    let x1207 := IntKind.i64.wrap (x1205 - x1206)
    let x1208 := (minI (1 : Int) x1207)
    let x1209 := (maxI (-1 : Int) x1208)
    k0 x1209
  else
    let x1210 := ((a1200.length : Nat) : Int)
    let x1211 := (IntKind.i64.wrap (x1210 - (1 : Int)))
    impl_natCmp_L0 N N a1200 a1201 x1211
      (fun x1225 =>
        k0 x1225)
      (
        k0 (0 : Int))
theorem impl_natCmp.ex : ∃ f : ((α : Type) → Nat → List Int → List Int → (Int → Option α) → Option α), f = fun α => @impl_natCmp.b α := ⟨_, rfl⟩
noncomputable def impl_natCmp {α : Type} : Nat → List Int → List Int → (Int → Option α) → Option α := Classical.choose impl_natCmp.ex α
theorem impl_natCmp.eq : @impl_natCmp = @impl_natCmp.b := funext fun α => congrFun (Classical.choose_spec impl_natCmp.ex) α

noncomputable def impl_natDiv_L0r {α : Type} (N : Nat) (next : List Int → List Int → Int → Int → List Int → Option α) (k0 : Int → List Int → Option α) (v1234 : List Int) (v1235 : List Int) (v1236 : Int) (v1237 : Int) (v1238 : List Int) : Option α :=
  let x1239 := (decide ((0 : Int) ≤ v1237))
  bif x1239 then
    let x1240 := (shlI .i64 v1236 (16 : Int))
    bif (decide (v1237 < (0 : Int))) then
      none
    else
      match v1234[v1237.toNat]? with
      | some x1241 =>
        let x1242 := bitI .or .i64 x1240 x1241
        match v1235[0]? with
        | some x1243 =>
          bif (decide (x1243 = (0 : Int))) then
            none
          else
            let x1244 := IntKind.i64.wrap (Int.tdiv x1242 x1243)
            match v1235[0]? with
            | some x1245 =>
              bif (decide (x1245 = (0 : Int))) then
                none
              else
                let x1246 := Int.tmod x1242 x1245
                bif (decide (v1237 < (0 : Int))) then
                  none
                else
                  bif decide (v1237.toNat < v1238.length) then
                    match v1238[v1237.toNat]? with
                    | some x1247 =>
                      let x1248 := v1238.set v1237.toNat x1244
                      let x1249 := (IntKind.i64.wrap (v1237 - (1 : Int)))
                      next v1234 v1235 x1246 x1249 x1248
                    | none => none
                  else
                    none
            | none => none
        | none => none
      | none => none
  else
    k0 v1236 v1238
noncomputable def impl_natDiv_L0.b {α : Type} (N n : Nat) (v1234 : List Int) (v1235 : List Int) (v1236 : Int) (v1237 : Int) (v1238 : List Int) (k0 : Int → List Int → Option α) : Option α :=
  Nat.rec (motive := fun _ => List Int → List Int → Int → Int → List Int → Option α) (fun _ _ _ _ _ => none) (fun _ next => impl_natDiv_L0r N next k0) n v1234 v1235 v1236 v1237 v1238
theorem impl_natDiv_L0.ex : ∃ f : ((α : Type) → Nat → Nat → List Int → List Int → Int → Int → List Int → (Int → List Int → Option α) → Option α), f = fun α => @impl_natDiv_L0.b α := ⟨_, rfl⟩
noncomputable def impl_natDiv_L0 {α : Type} : Nat → Nat → List Int → List Int → Int → Int → List Int → (Int → List Int → Option α) → Option α := Classical.choose impl_natDiv_L0.ex α
theorem impl_natDiv_L0.eq : @impl_natDiv_L0 = @impl_natDiv_L0.b := funext fun α => congrFun (Classical.choose_spec impl_natDiv_L0.ex) α
theorem impl_natDiv_L0.zero {α : Type} (N : Nat) (v1234 : List Int) (v1235 : List Int) (v1236 : Int) (v1237 : Int) (v1238 : List Int) (k0 : Int → List Int → Option α) : impl_natDiv_L0 N 0 v1234 v1235 v1236 v1237 v1238 k0 = none := by rw [impl_natDiv_L0.eq]; rfl
theorem impl_natDiv_L0.succ {α : Type} (N n : Nat) (v1234 : List Int) (v1235 : List Int) (v1236 : Int) (v1237 : Int) (v1238 : List Int) (k0 : Int → List Int → Option α) : impl_natDiv_L0 N (n + 1) v1234 v1235 v1236 v1237 v1238 k0 = impl_natDiv_L0r N (fun y0 y1 y2 y3 y4 => impl_natDiv_L0 N n y0 y1 y2 y3 y4 k0) k0 v1234 v1235 v1236 v1237 v1238 := by rw [impl_natDiv_L0.eq]; rfl
noncomputable def impl_natDiv_L2r {α : Type} (N : Nat) (next : List Int → Int → List Int → Int → List Int → Option α) (k0 : Int → List Int → Int → List Int → Option α) (v1267 : List Int) (v1268 : Int) (v1269 : List Int) (v1270 : Int) (v1271 : List Int) : Option α :=
  let x1272 := ((v1271.length : Nat) : Int)
  let x1273 := ((v1267.length : Nat) : Int)
  let x1274 := (IntKind.i64.wrap (x1273 + (1 : Int)))
  let x1275 := decide (x1272 < x1274)
  bif x1275 then
    let x1276 := [(0 : Int)]
    bif decide (v1271.length + x1276.length ≤ 8796093022208) then
      let x1277 := v1271 ++ x1276
      next v1267 v1268 v1269 v1270 x1277
    else
      none
  else
    k0 v1268 v1269 v1270 v1271
noncomputable def impl_natDiv_L2.b {α : Type} (N n : Nat) (v1267 : List Int) (v1268 : Int) (v1269 : List Int) (v1270 : Int) (v1271 : List Int) (k0 : Int → List Int → Int → List Int → Option α) : Option α :=
  Nat.rec (motive := fun _ => List Int → Int → List Int → Int → List Int → Option α) (fun _ _ _ _ _ => none) (fun _ next => impl_natDiv_L2r N next k0) n v1267 v1268 v1269 v1270 v1271
theorem impl_natDiv_L2.ex : ∃ f : ((α : Type) → Nat → Nat → List Int → Int → List Int → Int → List Int → (Int → List Int → Int → List Int → Option α) → Option α), f = fun α => @impl_natDiv_L2.b α := ⟨_, rfl⟩
noncomputable def impl_natDiv_L2 {α : Type} : Nat → Nat → List Int → Int → List Int → Int → List Int → (Int → List Int → Int → List Int → Option α) → Option α := Classical.choose impl_natDiv_L2.ex α
theorem impl_natDiv_L2.eq : @impl_natDiv_L2 = @impl_natDiv_L2.b := funext fun α => congrFun (Classical.choose_spec impl_natDiv_L2.ex) α
theorem impl_natDiv_L2.zero {α : Type} (N : Nat) (v1267 : List Int) (v1268 : Int) (v1269 : List Int) (v1270 : Int) (v1271 : List Int) (k0 : Int → List Int → Int → List Int → Option α) : impl_natDiv_L2 N 0 v1267 v1268 v1269 v1270 v1271 k0 = none := by rw [impl_natDiv_L2.eq]; rfl
theorem impl_natDiv_L2.succ {α : Type} (N n : Nat) (v1267 : List Int) (v1268 : Int) (v1269 : List Int) (v1270 : Int) (v1271 : List Int) (k0 : Int → List Int → Int → List Int → Option α) : impl_natDiv_L2 N (n + 1) v1267 v1268 v1269 v1270 v1271 k0 = impl_natDiv_L2r N (fun y0 y1 y2 y3 y4 => impl_natDiv_L2 N n y0 y1 y2 y3 y4 k0) k0 v1267 v1268 v1269 v1270 v1271 := by rw [impl_natDiv_L2.eq]; rfl
noncomputable def impl_natDiv_L6r {α : Type} (N : Nat) (next : Int → List Int → Int → Int → Int → Int → List Int → List Int → Option α) (k0 : Int → List Int → Int → Int → Int → List Int → List Int → Option α) (v1308 : Int) (v1309 : List Int) (v1310 : Int) (v1311 : Int) (v1312 : Int) (v1313 : Int) (v1314 : List Int) (v1315 : List Int) : Option α :=
  let x1316 := (decide ((65536 : Int) ≤ v1312))
  bif x1316 then
    let x1317 := (IntKind.i64.wrap (v1312 - (1 : Int)))
    let x1318 := (IntKind.i64.wrap (v1310 - (1 : Int)))
    bif (decide (x1318 < (0 : Int))) then
      none
    else
      match v1309[x1318.toNat]? with
      | some x1319 =>
        let x1320 := IntKind.i64.wrap (v1313 + x1319)
        let x1321 := (decide ((65536 : Int) ≤ x1320))
        bif x1321 then
          k0 v1308 v1309 v1310 v1311 x1317 v1314 v1315
        else
          next v1308 v1309 v1310 v1311 x1317 x1320 v1314 v1315
      | none => none
  else
    let x1322 := (IntKind.i64.wrap (v1310 - (2 : Int)))
    bif (decide (x1322 < (0 : Int))) then
      none
    else
      match v1309[x1322.toNat]? with
      | some x1323 =>
        let x1324 := IntKind.i64.wrap (v1312 * x1323)
        let x1325 := (shlI .i64 v1313 (16 : Int))
        let x1326 := IntKind.i64.wrap (v1311 + v1310)
        let x1327 := (IntKind.i64.wrap (x1326 - (2 : Int)))
        bif (decide (x1327 < (0 : Int))) then
          none
        else
          bif decide (x1327.toNat < v1314.length) then
            match v1314[x1327.toNat]? with
            | some x1328 =>
              let x1329 := bitI .or .i64 x1325 x1328
              let x1330 := decide (x1329 < x1324)
              bif x1330 then
                let x1331 := (IntKind.i64.wrap (v1312 - (1 : Int)))
                let x1332 := (IntKind.i64.wrap (v1310 - (1 : Int)))
                bif (decide (x1332 < (0 : Int))) then
                  none
                else
                  match v1309[x1332.toNat]? with
                  | some x1333 =>
                    let x1334 := IntKind.i64.wrap (v1313 + x1333)
                    let x1335 := (decide ((65536 : Int) ≤ x1334))
                    bif x1335 then
                      k0 v1308 v1309 v1310 v1311 x1331 v1314 v1315
                    else
                      next v1308 v1309 v1310 v1311 x1331 x1334 v1314 v1315
                  | none => none
              else
                k0 v1308 v1309 v1310 v1311 v1312 v1314 v1315
            | none => none
          else
            none
      | none => none
noncomputable def impl_natDiv_L6.b {α : Type} (N n : Nat) (v1308 : Int) (v1309 : List Int) (v1310 : Int) (v1311 : Int) (v1312 : Int) (v1313 : Int) (v1314 : List Int) (v1315 : List Int) (k0 : Int → List Int → Int → Int → Int → List Int → List Int → Option α) : Option α :=
  Nat.rec (motive := fun _ => Int → List Int → Int → Int → Int → Int → List Int → List Int → Option α) (fun _ _ _ _ _ _ _ _ => none) (fun _ next => impl_natDiv_L6r N next k0) n v1308 v1309 v1310 v1311 v1312 v1313 v1314 v1315
theorem impl_natDiv_L6.ex : ∃ f : ((α : Type) → Nat → Nat → Int → List Int → Int → Int → Int → Int → List Int → List Int → (Int → List Int → Int → Int → Int → List Int → List Int → Option α) → Option α), f = fun α => @impl_natDiv_L6.b α := ⟨_, rfl⟩
noncomputable def impl_natDiv_L6 {α : Type} : Nat → Nat → Int → List Int → Int → Int → Int → Int → List Int → List Int → (Int → List Int → Int → Int → Int → List Int → List Int → Option α) → Option α := Classical.choose impl_natDiv_L6.ex α
theorem impl_natDiv_L6.eq : @impl_natDiv_L6 = @impl_natDiv_L6.b := funext fun α => congrFun (Classical.choose_spec impl_natDiv_L6.ex) α
theorem impl_natDiv_L6.zero {α : Type} (N : Nat) (v1308 : Int) (v1309 : List Int) (v1310 : Int) (v1311 : Int) (v1312 : Int) (v1313 : Int) (v1314 : List Int) (v1315 : List Int) (k0 : Int → List Int → Int → Int → Int → List Int → List Int → Option α) : impl_natDiv_L6 N 0 v1308 v1309 v1310 v1311 v1312 v1313 v1314 v1315 k0 = none := by rw [impl_natDiv_L6.eq]; rfl
theorem impl_natDiv_L6.succ {α : Type} (N n : Nat) (v1308 : Int) (v1309 : List Int) (v1310 : Int) (v1311 : Int) (v1312 : Int) (v1313 : Int) (v1314 : List Int) (v1315 : List Int) (k0 : Int → List Int → Int → Int → Int → List Int → List Int → Option α) : impl_natDiv_L6 N (n + 1) v1308 v1309 v1310 v1311 v1312 v1313 v1314 v1315 k0 = impl_natDiv_L6r N (fun y0 y1 y2 y3 y4 y5 y6 y7 => impl_natDiv_L6 N n y0 y1 y2 y3 y4 y5 y6 y7 k0) k0 v1308 v1309 v1310 v1311 v1312 v1313 v1314 v1315 := by rw [impl_natDiv_L6.eq]; rfl
noncomputable def impl_natDiv_J34.b {α : Type} (N : Nat) (v1362 : Int) (v1363 : List Int) (v1364 : Int) (v1365 : Int) (v1366 : Int) (v1367 : Int) (v1368 : Int) (v1369 : Int) (v1370 : List Int) (v1371 : Int) (v1372 : Int) (v1373 : List Int) (v1374 : List Int) (k0 : Int → List Int → Int → Int → Int → Int → Int → Int → List Int → Int → Int → List Int → List Int → Option α) : Option α :=
  let x1375 := (decide (v1369 < (0 : Int)))
  bif x1375 then
    let x1376 := IntKind.i64.wrap (0 - v1369)
    let x1377 := (IntKind.i64.wrap (x1376 + (65536 : Int)))
    let x1378 := (IntKind.i64.wrap (x1377 - (1 : Int)))
    let x1379 := (IntKind.i64.wrap (Int.tdiv x1378 (65536 : Int)))
    let x1380 := (IntKind.i64.wrap (x1379 * (65536 : Int)))
    let x1381 := IntKind.i64.wrap (v1369 + x1380)
    k0 v1362 v1363 v1364 v1365 v1366 x1379 v1368 x1381 v1370 v1371 v1372 v1373 v1374
  else
    k0 v1362 v1363 v1364 v1365 v1366 v1367 v1368 v1369 v1370 v1371 v1372 v1373 v1374
theorem impl_natDiv_J34.ex : ∃ f : ((α : Type) → Nat → Int → List Int → Int → Int → Int → Int → Int → Int → List Int → Int → Int → List Int → List Int → (Int → List Int → Int → Int → Int → Int → Int → Int → List Int → Int → Int → List Int → List Int → Option α) → Option α), f = fun α => @impl_natDiv_J34.b α := ⟨_, rfl⟩
noncomputable def impl_natDiv_J34 {α : Type} : Nat → Int → List Int → Int → Int → Int → Int → Int → Int → List Int → Int → Int → List Int → List Int → (Int → List Int → Int → Int → Int → Int → Int → Int → List Int → Int → Int → List Int → List Int → Option α) → Option α := Classical.choose impl_natDiv_J34.ex α
theorem impl_natDiv_J34.eq : @impl_natDiv_J34 = @impl_natDiv_J34.b := funext fun α => congrFun (Classical.choose_spec impl_natDiv_J34.ex) α
noncomputable def impl_natDiv_L8r {α : Type} (N : Nat) (next : Int → List Int → Int → Int → Int → Int → List Int → Int → Int → List Int → List Int → Option α) (k0 : Int → List Int → Int → Int → Int → Int → List Int → List Int → Option α) (v1344 : Int) (v1345 : List Int) (v1346 : Int) (v1347 : Int) (v1348 : Int) (v1349 : Int) (v1350 : List Int) (v1351 : Int) (v1352 : Int) (v1353 : List Int) (v1354 : List Int) : Option α :=
  let x1355 := decide (v1352 < v1351)
  bif x1355 then
    bif (decide (v1352 < (0 : Int))) then
      none
    else
      match v1350[v1352.toNat]? with
      | some x1356 =>
        let x1357 := IntKind.i64.wrap (v1347 + v1352)
        bif (decide (x1357 < (0 : Int))) then
          none
        else
          bif decide (x1357.toNat < v1353.length) then
            match v1353[x1357.toNat]? with
            | some x1358 =>
              let x1359 := IntKind.i64.wrap (x1358 - v1349)
              let x1360 := IntKind.i64.wrap (v1348 * x1356)
              let x1361 := IntKind.i64.wrap (x1359 - x1360)
              impl_natDiv_J34 N v1344 v1345 v1346 v1347 v1348 (0 : Int) v1352 x1361 v1350 v1351 v1352 v1353 v1354
                (fun x1382 x1383 x1384 x1385 x1386 x1387 x1388 x1389 x1390 x1391 x1392 x1393 x1394 =>
                  let x1395 := IntKind.i64.wrap (x1385 + x1388)
                  bif (decide (x1395 < (0 : Int))) then
                    none
                  else
                    bif decide (x1395.toNat < x1393.length) then
                      match x1393[x1395.toNat]? with
                      | some x1396 =>
                        let x1397 := x1393.set x1395.toNat x1389
                        let x1398 := (IntKind.i64.wrap (x1392 + (1 : Int)))
                        next x1382 x1383 x1384 x1385 x1386 x1387 x1390 x1391 x1398 x1397 x1394
                      | none => none
                    else
                      none)
            | none => none
          else
            none
      | none => none
  else
    k0 v1344 v1345 v1346 v1347 v1348 v1349 v1353 v1354
noncomputable def impl_natDiv_L8.b {α : Type} (N n : Nat) (v1344 : Int) (v1345 : List Int) (v1346 : Int) (v1347 : Int) (v1348 : Int) (v1349 : Int) (v1350 : List Int) (v1351 : Int) (v1352 : Int) (v1353 : List Int) (v1354 : List Int) (k0 : Int → List Int → Int → Int → Int → Int → List Int → List Int → Option α) : Option α :=
  Nat.rec (motive := fun _ => Int → List Int → Int → Int → Int → Int → List Int → Int → Int → List Int → List Int → Option α) (fun _ _ _ _ _ _ _ _ _ _ _ => none) (fun _ next => impl_natDiv_L8r N next k0) n v1344 v1345 v1346 v1347 v1348 v1349 v1350 v1351 v1352 v1353 v1354
theorem impl_natDiv_L8.ex : ∃ f : ((α : Type) → Nat → Nat → Int → List Int → Int → Int → Int → Int → List Int → Int → Int → List Int → List Int → (Int → List Int → Int → Int → Int → Int → List Int → List Int → Option α) → Option α), f = fun α => @impl_natDiv_L8.b α := ⟨_, rfl⟩
noncomputable def impl_natDiv_L8 {α : Type} : Nat → Nat → Int → List Int → Int → Int → Int → Int → List Int → Int → Int → List Int → List Int → (Int → List Int → Int → Int → Int → Int → List Int → List Int → Option α) → Option α := Classical.choose impl_natDiv_L8.ex α
theorem impl_natDiv_L8.eq : @impl_natDiv_L8 = @impl_natDiv_L8.b := funext fun α => congrFun (Classical.choose_spec impl_natDiv_L8.ex) α
theorem impl_natDiv_L8.zero {α : Type} (N : Nat) (v1344 : Int) (v1345 : List Int) (v1346 : Int) (v1347 : Int) (v1348 : Int) (v1349 : Int) (v1350 : List Int) (v1351 : Int) (v1352 : Int) (v1353 : List Int) (v1354 : List Int) (k0 : Int → List Int → Int → Int → Int → Int → List Int → List Int → Option α) : impl_natDiv_L8 N 0 v1344 v1345 v1346 v1347 v1348 v1349 v1350 v1351 v1352 v1353 v1354 k0 = none := by rw [impl_natDiv_L8.eq]; rfl
theorem impl_natDiv_L8.succ {α : Type} (N n : Nat) (v1344 : Int) (v1345 : List Int) (v1346 : Int) (v1347 : Int) (v1348 : Int) (v1349 : Int) (v1350 : List Int) (v1351 : Int) (v1352 : Int) (v1353 : List Int) (v1354 : List Int) (k0 : Int → List Int → Int → Int → Int → Int → List Int → List Int → Option α) : impl_natDiv_L8 N (n + 1) v1344 v1345 v1346 v1347 v1348 v1349 v1350 v1351 v1352 v1353 v1354 k0 = impl_natDiv_L8r N (fun y0 y1 y2 y3 y4 y5 y6 y7 y8 y9 y10 => impl_natDiv_L8 N n y0 y1 y2 y3 y4 y5 y6 y7 y8 y9 y10 k0) k0 v1344 v1345 v1346 v1347 v1348 v1349 v1350 v1351 v1352 v1353 v1354 := by rw [impl_natDiv_L8.eq]; rfl
noncomputable def impl_natDiv_L10r {α : Type} (N : Nat) (next : Int → List Int → Int → Int → Int → Int → List Int → Int → Int → List Int → List Int → Option α) (k0 : Int → List Int → Int → Int → Int → Int → List Int → List Int → Option α) (v1424 : Int) (v1425 : List Int) (v1426 : Int) (v1427 : Int) (v1428 : Int) (v1429 : Int) (v1430 : List Int) (v1431 : Int) (v1432 : Int) (v1433 : List Int) (v1434 : List Int) : Option α :=
  let x1435 := decide (v1432 < v1431)
  bif x1435 then
    bif (decide (v1432 < (0 : Int))) then
      none
    else
      match v1430[v1432.toNat]? with
      | some x1436 =>
        let x1437 := IntKind.i64.wrap (v1427 + v1432)
        bif (decide (x1437 < (0 : Int))) then
          none
        else
          bif decide (x1437.toNat < v1433.length) then
            match v1433[x1437.toNat]? with
            | some x1438 =>
              let x1439 := IntKind.i64.wrap (x1438 + x1436)
              let x1440 := IntKind.i64.wrap (x1439 + v1429)
              let x1441 := IntKind.i64.wrap (v1427 + v1432)
              let x1442 := (bitI .and .i64 x1440 (65535 : Int))
              let x1443 := (shrI .i64 x1440 (16 : Int))
              bif (decide (x1441 < (0 : Int))) then
                none
              else
                bif decide (x1441.toNat < v1433.length) then
                  match v1433[x1441.toNat]? with
                  | some x1444 =>
                    let x1445 := v1433.set x1441.toNat x1442
                    let x1446 := (IntKind.i64.wrap (v1432 + (1 : Int)))
                    next v1424 v1425 v1426 v1427 v1428 x1443 v1430 v1431 x1446 x1445 v1434
                  | none => none
                else
                  none
            | none => none
          else
            none
      | none => none
  else
    k0 v1424 v1425 v1426 v1427 v1428 v1429 v1433 v1434
noncomputable def impl_natDiv_L10.b {α : Type} (N n : Nat) (v1424 : Int) (v1425 : List Int) (v1426 : Int) (v1427 : Int) (v1428 : Int) (v1429 : Int) (v1430 : List Int) (v1431 : Int) (v1432 : Int) (v1433 : List Int) (v1434 : List Int) (k0 : Int → List Int → Int → Int → Int → Int → List Int → List Int → Option α) : Option α :=
  Nat.rec (motive := fun _ => Int → List Int → Int → Int → Int → Int → List Int → Int → Int → List Int → List Int → Option α) (fun _ _ _ _ _ _ _ _ _ _ _ => none) (fun _ next => impl_natDiv_L10r N next k0) n v1424 v1425 v1426 v1427 v1428 v1429 v1430 v1431 v1432 v1433 v1434
theorem impl_natDiv_L10.ex : ∃ f : ((α : Type) → Nat → Nat → Int → List Int → Int → Int → Int → Int → List Int → Int → Int → List Int → List Int → (Int → List Int → Int → Int → Int → Int → List Int → List Int → Option α) → Option α), f = fun α => @impl_natDiv_L10.b α := ⟨_, rfl⟩
noncomputable def impl_natDiv_L10 {α : Type} : Nat → Nat → Int → List Int → Int → Int → Int → Int → List Int → Int → Int → List Int → List Int → (Int → List Int → Int → Int → Int → Int → List Int → List Int → Option α) → Option α := Classical.choose impl_natDiv_L10.ex α
theorem impl_natDiv_L10.eq : @impl_natDiv_L10 = @impl_natDiv_L10.b := funext fun α => congrFun (Classical.choose_spec impl_natDiv_L10.ex) α
theorem impl_natDiv_L10.zero {α : Type} (N : Nat) (v1424 : Int) (v1425 : List Int) (v1426 : Int) (v1427 : Int) (v1428 : Int) (v1429 : Int) (v1430 : List Int) (v1431 : Int) (v1432 : Int) (v1433 : List Int) (v1434 : List Int) (k0 : Int → List Int → Int → Int → Int → Int → List Int → List Int → Option α) : impl_natDiv_L10 N 0 v1424 v1425 v1426 v1427 v1428 v1429 v1430 v1431 v1432 v1433 v1434 k0 = none := by rw [impl_natDiv_L10.eq]; rfl
theorem impl_natDiv_L10.succ {α : Type} (N n : Nat) (v1424 : Int) (v1425 : List Int) (v1426 : Int) (v1427 : Int) (v1428 : Int) (v1429 : Int) (v1430 : List Int) (v1431 : Int) (v1432 : Int) (v1433 : List Int) (v1434 : List Int) (k0 : Int → List Int → Int → Int → Int → Int → List Int → List Int → Option α) : impl_natDiv_L10 N (n + 1) v1424 v1425 v1426 v1427 v1428 v1429 v1430 v1431 v1432 v1433 v1434 k0 = impl_natDiv_L10r N (fun y0 y1 y2 y3 y4 y5 y6 y7 y8 y9 y10 => impl_natDiv_L10 N n y0 y1 y2 y3 y4 y5 y6 y7 y8 y9 y10 k0) k0 v1424 v1425 v1426 v1427 v1428 v1429 v1430 v1431 v1432 v1433 v1434 := by rw [impl_natDiv_L10.eq]; rfl
noncomputable def impl_natDiv_J40.b {α : Type} (N : Nat) (v1412 : Int) (v1413 : List Int) (v1414 : Int) (v1415 : Int) (v1416 : Int) (v1417 : List Int) (v1418 : List Int) (k0 : Int → List Int → Int → Int → Int → List Int → List Int → Option α) : Option α :=
  let x1419 := IntKind.i64.wrap (v1415 + v1414)
  bif (decide (x1419 < (0 : Int))) then
    none
  else
    bif decide (x1419.toNat < v1417.length) then
      match v1417[x1419.toNat]? with
      | some x1420 =>
        let x1421 := (decide (x1420 < (0 : Int)))
        bif x1421 then
          let x1422 := (IntKind.i64.wrap (v1416 - (1 : Int)))
          let x1423 := ((v1413.length : Nat) : Int)
          impl_natDiv_L10 N N v1412 v1413 v1414 v1415 x1422 (0 : Int) v1413 x1423 (0 : Int) v1417 v1418
            (fun x1447 x1448 x1449 x1450 x1451 x1452 x1453 x1454 =>
              let x1455 := IntKind.i64.wrap (x1450 + x1449)
              bif (decide (x1455 < (0 : Int))) then
                none
              else
                bif decide (x1455.toNat < x1453.length) then
                  match x1453[x1455.toNat]? with
                  | some x1456 =>
                    let x1457 := IntKind.i64.wrap (x1456 + x1452)
                    bif (decide (x1455 < (0 : Int))) then
                      none
                    else
                      bif decide (x1455.toNat < x1453.length) then
                        match x1453[x1455.toNat]? with
                        | some x1458 =>
                          let x1459 := x1453.set x1455.toNat x1457
                          k0 x1447 x1448 x1449 x1450 x1451 x1459 x1454
                        | none => none
                      else
                        none
                  | none => none
                else
                  none)
        else
          k0 v1412 v1413 v1414 v1415 v1416 v1417 v1418
      | none => none
    else
      none
theorem impl_natDiv_J40.ex : ∃ f : ((α : Type) → Nat → Int → List Int → Int → Int → Int → List Int → List Int → (Int → List Int → Int → Int → Int → List Int → List Int → Option α) → Option α), f = fun α => @impl_natDiv_J40.b α := ⟨_, rfl⟩
noncomputable def impl_natDiv_J40 {α : Type} : Nat → Int → List Int → Int → Int → Int → List Int → List Int → (Int → List Int → Int → Int → Int → List Int → List Int → Option α) → Option α := Classical.choose impl_natDiv_J40.ex α
theorem impl_natDiv_J40.eq : @impl_natDiv_J40 = @impl_natDiv_J40.b := funext fun α => congrFun (Classical.choose_spec impl_natDiv_J40.ex) α
noncomputable def impl_natDiv_L4r {α : Type} (N : Nat) (next : Int → List Int → Int → Int → List Int → List Int → Option α) (k0 : Int → List Int → List Int → Option α) (v1288 : Int) (v1289 : List Int) (v1290 : Int) (v1291 : Int) (v1292 : List Int) (v1293 : List Int) : Option α :=
  let x1294 := (decide ((0 : Int) ≤ v1291))
  bif x1294 then
    let x1295 := IntKind.i64.wrap (v1291 + v1290)
    bif (decide (x1295 < (0 : Int))) then
      none
    else
      bif decide (x1295.toNat < v1292.length) then
        match v1292[x1295.toNat]? with
        | some x1296 =>
          let x1297 := (shlI .i64 x1296 (16 : Int))
          let x1298 := IntKind.i64.wrap (v1291 + v1290)
          let x1299 := (IntKind.i64.wrap (x1298 - (1 : Int)))
          bif (decide (x1299 < (0 : Int))) then
            none
          else
            bif decide (x1299.toNat < v1292.length) then
              match v1292[x1299.toNat]? with
              | some x1300 =>
                let x1301 := bitI .or .i64 x1297 x1300
                let x1302 := (IntKind.i64.wrap (v1290 - (1 : Int)))
                bif (decide (x1302 < (0 : Int))) then
                  none
                else
                  match v1289[x1302.toNat]? with
                  | some x1303 =>
                    bif (decide (x1303 = (0 : Int))) then
                      none
                    else
                      let x1304 := IntKind.i64.wrap (Int.tdiv x1301 x1303)
                      let x1305 := (IntKind.i64.wrap (v1290 - (1 : Int)))
                      bif (decide (x1305 < (0 : Int))) then
                        none
                      else
                        match v1289[x1305.toNat]? with
                        | some x1306 =>
                          bif (decide (x1306 = (0 : Int))) then
                            none
                          else
                            let x1307 := Int.tmod x1301 x1306
                            impl_natDiv_L6 N N v1288 v1289 v1290 v1291 x1304 x1307 v1292 v1293
                              (fun x1336 x1337 x1338 x1339 x1340 x1341 x1342 =>
                                let x1343 := ((x1337.length : Nat) : Int)
                                impl_natDiv_L8 N N x1336 x1337 x1338 x1339 x1340 (0 : Int) x1337 x1343 (0 : Int) x1341 x1342
                                  (fun x1399 x1400 x1401 x1402 x1403 x1404 x1405 x1406 =>
                                    let x1407 := IntKind.i64.wrap (x1402 + x1401)
                                    bif (decide (x1407 < (0 : Int))) then
                                      none
                                    else
                                      bif decide (x1407.toNat < x1405.length) then
                                        match x1405[x1407.toNat]? with
                                        | some x1408 =>
                                          let x1409 := IntKind.i64.wrap (x1408 - x1404)
                                          bif (decide (x1407 < (0 : Int))) then
                                            none
                                          else
                                            bif decide (x1407.toNat < x1405.length) then
                                              match x1405[x1407.toNat]? with
                                              | some x1410 =>
                                                let x1411 := x1405.set x1407.toNat x1409
                                                impl_natDiv_J40 N x1399 x1400 x1401 x1402 x1403 x1411 x1406
                                                  (fun x1460 x1461 x1462 x1463 x1464 x1465 x1466 =>
                                                    bif (decide (x1463 < (0 : Int))) then
                                                      none
                                                    else
                                                      bif decide (x1463.toNat < x1466.length) then
                                                        match x1466[x1463.toNat]? with
                                                        | some x1467 =>
                                                          let x1468 := x1466.set x1463.toNat x1464
                                                          let x1469 := (IntKind.i64.wrap (x1463 - (1 : Int)))
                                                          next x1460 x1461 x1462 x1469 x1465 x1468
                                                        | none => none
                                                      else
                                                        none)
                                              | none => none
                                            else
                                              none
                                        | none => none
                                      else
                                        none))
                        | none => none
                  | none => none
              | none => none
            else
              none
        | none => none
      else
        none
  else
    k0 v1288 v1292 v1293
noncomputable def impl_natDiv_L4.b {α : Type} (N n : Nat) (v1288 : Int) (v1289 : List Int) (v1290 : Int) (v1291 : Int) (v1292 : List Int) (v1293 : List Int) (k0 : Int → List Int → List Int → Option α) : Option α :=
  Nat.rec (motive := fun _ => Int → List Int → Int → Int → List Int → List Int → Option α) (fun _ _ _ _ _ _ => none) (fun _ next => impl_natDiv_L4r N next k0) n v1288 v1289 v1290 v1291 v1292 v1293
theorem impl_natDiv_L4.ex : ∃ f : ((α : Type) → Nat → Nat → Int → List Int → Int → Int → List Int → List Int → (Int → List Int → List Int → Option α) → Option α), f = fun α => @impl_natDiv_L4.b α := ⟨_, rfl⟩
noncomputable def impl_natDiv_L4 {α : Type} : Nat → Nat → Int → List Int → Int → Int → List Int → List Int → (Int → List Int → List Int → Option α) → Option α := Classical.choose impl_natDiv_L4.ex α
theorem impl_natDiv_L4.eq : @impl_natDiv_L4 = @impl_natDiv_L4.b := funext fun α => congrFun (Classical.choose_spec impl_natDiv_L4.ex) α
theorem impl_natDiv_L4.zero {α : Type} (N : Nat) (v1288 : Int) (v1289 : List Int) (v1290 : Int) (v1291 : Int) (v1292 : List Int) (v1293 : List Int) (k0 : Int → List Int → List Int → Option α) : impl_natDiv_L4 N 0 v1288 v1289 v1290 v1291 v1292 v1293 k0 = none := by rw [impl_natDiv_L4.eq]; rfl
theorem impl_natDiv_L4.succ {α : Type} (N n : Nat) (v1288 : Int) (v1289 : List Int) (v1290 : Int) (v1291 : Int) (v1292 : List Int) (v1293 : List Int) (k0 : Int → List Int → List Int → Option α) : impl_natDiv_L4 N (n + 1) v1288 v1289 v1290 v1291 v1292 v1293 k0 = impl_natDiv_L4r N (fun y0 y1 y2 y3 y4 y5 => impl_natDiv_L4 N n y0 y1 y2 y3 y4 y5 k0) k0 v1288 v1289 v1290 v1291 v1292 v1293 := by rw [impl_natDiv_L4.eq]; rfl
/-- loop.example/pinfold/impl.natDiv -/
noncomputable def impl_natDiv.b {α : Type} (N : Nat) (a1198 : List Int) (a1199 : List Int) (k0 : List Int → List Int → Option α) : Option α :=
  impl_natCmp N a1198 a1199
    (fun x1226 =>
      let x1227 := (decide (x1226 < (0 : Int)))
      bif x1227 then
        k0 [] a1198
      else
        let x1228 := ((a1199.length : Nat) : Int)
        let x1229 := (decide (x1228 = (1 : Int)))
        bif x1229 then
          let x1230 := ((a1198.length : Nat) : Int)
          bif (decide ((0 : Int) ≤ x1230)) then
            bif decide (x1230 ≤ x1230) then
              bif (decide (x1230 ≤ ((8796093022208 : Nat) : Int))) then
                let x1231 := (List.replicate x1230.toNat (0 : Int))
                let x1232 := ((a1198.length : Nat) : Int)
                let x1233 := (IntKind.i64.wrap (x1232 - (1 : Int)))
                impl_natDiv_L0 N N a1198 a1199 (0 : Int) x1233 x1231
                  (fun x1250 x1251 =>
                    impl_trim N x1251
                      (fun x1252 =>
                        let x1253 := [x1250]
                        impl_trim N x1253
                          (fun x1254 =>
                            k0 x1252 x1254)))
              else
                none
            else
              none
          else
            none
        else
          let x1255 := ((a1199.length : Nat) : Int)
          let x1256 := (IntKind.i64.wrap (x1255 - (1 : Int)))
          bif (decide (x1256 < (0 : Int))) then
            none
          else
            match a1199[x1256.toNat]? with
            | some x1257 =>
              let x1258 := IntKind.u64.wrap x1257
              math_bits_Len N x1258
                (fun x1259 =>
                  let x1260 := (IntKind.i64.wrap ((16 : Int) - x1259))
                  impl_natShift N a1199 x1260
                    (fun x1261 =>
                      impl_natShift N a1198 x1260
                        (fun x1262 =>
                          slices_Clone_int_int N x1262
                            (fun x1263 =>
                              let x1264 := [(0 : Int)]
                              bif decide (x1263.length + x1264.length ≤ 8796093022208) then
                                let x1265 := x1263 ++ x1264
                                let x1266 := ((x1261.length : Nat) : Int)
                                impl_natDiv_L2 N N a1198 x1260 x1261 x1266 x1265
                                  (fun x1278 x1279 x1280 x1281 =>
                                    let x1282 := ((x1281.length : Nat) : Int)
                                    let x1283 := IntKind.i64.wrap (x1282 - x1280)
                                    bif (decide ((0 : Int) ≤ x1283)) then
                                      bif decide (x1283 ≤ x1283) then
                                        bif (decide (x1283 ≤ ((8796093022208 : Nat) : Int))) then
                                          let x1284 := (List.replicate x1283.toNat (0 : Int))
                                          let x1285 := ((x1281.length : Nat) : Int)
                                          let x1286 := IntKind.i64.wrap (x1285 - x1280)
                                          let x1287 := (IntKind.i64.wrap (x1286 - (1 : Int)))
                                          impl_natDiv_L4 N N x1278 x1279 x1280 x1287 x1281 x1284
                                            (fun x1470 x1471 x1472 =>
                                              impl_trim N x1472
                                                (fun x1473 =>
                                                  impl_trim N x1471
                                                    (fun x1474 =>
                                                      let x1475 := IntKind.i64.wrap (0 - x1470)
                                                      impl_natShift N x1474 x1475
                                                        (fun x1476 =>
                                                          k0 x1473 x1476))))
                                        else
                                          none
                                      else
                                        none
                                    else
                                      none)
                              else
                                none))))
            | none => none)
theorem impl_natDiv.ex : ∃ f : ((α : Type) → Nat → List Int → List Int → (List Int → List Int → Option α) → Option α), f = fun α => @impl_natDiv.b α := ⟨_, rfl⟩
noncomputable def impl_natDiv {α : Type} : Nat → List Int → List Int → (List Int → List Int → Option α) → Option α := Classical.choose impl_natDiv.ex α
theorem impl_natDiv.eq : @impl_natDiv = @impl_natDiv.b := funext fun α => congrFun (Classical.choose_spec impl_natDiv.ex) α

noncomputable def impl_natAdd_L0r {α : Type} (N : Nat) (next : List Int → Int → Int → List Int → Option α) (k0 : List Int → Option α) (v1489 : List Int) (v1490 : Int) (v1491 : Int) (v1492 : List Int) : Option α :=
  let x1493 := decide (v1491 < v1490)
  bif x1493 then
    bif (decide (v1491 < (0 : Int))) then
      none
    else
      match v1489[v1491.toNat]? with
      | some x1494 =>
        bif (decide (v1491 < (0 : Int))) then
          none
        else
          bif decide (v1491.toNat < v1492.length) then
            match v1492[v1491.toNat]? with
            | some x1495 =>
              let x1496 := IntKind.i64.wrap (x1495 + x1494)
              bif (decide (v1491 < (0 : Int))) then
                none
              else
                bif decide (v1491.toNat < v1492.length) then
                  match v1492[v1491.toNat]? with
                  | some x1497 =>
                    let x1498 := v1492.set v1491.toNat x1496
                    let x1499 := (IntKind.i64.wrap (v1491 + (1 : Int)))
                    next v1489 v1490 x1499 x1498
                  | none => none
                else
                  none
            | none => none
          else
            none
      | none => none
  else
    k0 v1492
noncomputable def impl_natAdd_L0.b {α : Type} (N n : Nat) (v1489 : List Int) (v1490 : Int) (v1491 : Int) (v1492 : List Int) (k0 : List Int → Option α) : Option α :=
  Nat.rec (motive := fun _ => List Int → Int → Int → List Int → Option α) (fun _ _ _ _ => none) (fun _ next => impl_natAdd_L0r N next k0) n v1489 v1490 v1491 v1492
theorem impl_natAdd_L0.ex : ∃ f : ((α : Type) → Nat → Nat → List Int → Int → Int → List Int → (List Int → Option α) → Option α), f = fun α => @impl_natAdd_L0.b α := ⟨_, rfl⟩
noncomputable def impl_natAdd_L0 {α : Type} : Nat → Nat → List Int → Int → Int → List Int → (List Int → Option α) → Option α := Classical.choose impl_natAdd_L0.ex α
theorem impl_natAdd_L0.eq : @impl_natAdd_L0 = @impl_natAdd_L0.b := funext fun α => congrFun (Classical.choose_spec impl_natAdd_L0.ex) α
theorem impl_natAdd_L0.zero {α : Type} (N : Nat) (v1489 : List Int) (v1490 : Int) (v1491 : Int) (v1492 : List Int) (k0 : List Int → Option α) : impl_natAdd_L0 N 0 v1489 v1490 v1491 v1492 k0 = none := by rw [impl_natAdd_L0.eq]; rfl
theorem impl_natAdd_L0.succ {α : Type} (N n : Nat) (v1489 : List Int) (v1490 : Int) (v1491 : Int) (v1492 : List Int) (k0 : List Int → Option α) : impl_natAdd_L0 N (n + 1) v1489 v1490 v1491 v1492 k0 = impl_natAdd_L0r N (fun y0 y1 y2 y3 => impl_natAdd_L0 N n y0 y1 y2 y3 k0) k0 v1489 v1490 v1491 v1492 := by rw [impl_natAdd_L0.eq]; rfl
noncomputable def impl_natAdd_L2r {α : Type} (N : Nat) (next : Int → Int → List Int → Option α) (k0 : List Int → Option α) (v1503 : Int) (v1504 : Int) (v1505 : List Int) : Option α :=
  let x1506 := decide (v1504 < v1503)
  bif x1506 then
    let x1507 := (IntKind.i64.wrap (v1504 + (1 : Int)))
    bif (decide (x1507 < (0 : Int))) then
      none
    else
      bif decide (x1507.toNat < v1505.length) then
        match v1505[x1507.toNat]? with
        | some x1508 =>
          bif (decide (v1504 < (0 : Int))) then
            none
          else
            bif decide (v1504.toNat < v1505.length) then
              match v1505[v1504.toNat]? with
              | some x1509 =>
                let x1510 := (shrI .i64 x1509 (16 : Int))
                let x1511 := IntKind.i64.wrap (x1508 + x1510)
                bif (decide (x1507 < (0 : Int))) then
                  none
                else
                  bif decide (x1507.toNat < v1505.length) then
                    match v1505[x1507.toNat]? with
                    | some x1512 =>
                      let x1513 := v1505.set x1507.toNat x1511
                      bif (decide (v1504 < (0 : Int))) then
                        none
                      else
                        bif decide (v1504.toNat < x1513.length) then
                          match x1513[v1504.toNat]? with
                          | some x1514 =>
                            let x1515 := (bitI .and .i64 x1514 (65535 : Int))
                            bif (decide (v1504 < (0 : Int))) then
                              none
                            else
                              bif decide (v1504.toNat < x1513.length) then
                                match x1513[v1504.toNat]? with
                                | some x1516 =>
                                  let x1517 := x1513.set v1504.toNat x1515
                                  let x1518 := (IntKind.i64.wrap (v1504 + (1 : Int)))
                                  next v1503 x1518 x1517
                                | none => none
                              else
                                none
                          | none => none
                        else
                          none
                    | none => none
                  else
                    none
              | none => none
            else
              none
        | none => none
      else
        none
  else
    k0 v1505
noncomputable def impl_natAdd_L2.b {α : Type} (N n : Nat) (v1503 : Int) (v1504 : Int) (v1505 : List Int) (k0 : List Int → Option α) : Option α :=
  Nat.rec (motive := fun _ => Int → Int → List Int → Option α) (fun _ _ _ => none) (fun _ next => impl_natAdd_L2r N next k0) n v1503 v1504 v1505
theorem impl_natAdd_L2.ex : ∃ f : ((α : Type) → Nat → Nat → Int → Int → List Int → (List Int → Option α) → Option α), f = fun α => @impl_natAdd_L2.b α := ⟨_, rfl⟩
noncomputable def impl_natAdd_L2 {α : Type} : Nat → Nat → Int → Int → List Int → (List Int → Option α) → Option α := Classical.choose impl_natAdd_L2.ex α
theorem impl_natAdd_L2.eq : @impl_natAdd_L2 = @impl_natAdd_L2.b := funext fun α => congrFun (Classical.choose_spec impl_natAdd_L2.ex) α
theorem impl_natAdd_L2.zero {α : Type} (N : Nat) (v1503 : Int) (v1504 : Int) (v1505 : List Int) (k0 : List Int → Option α) : impl_natAdd_L2 N 0 v1503 v1504 v1505 k0 = none := by rw [impl_natAdd_L2.eq]; rfl
theorem impl_natAdd_L2.succ {α : Type} (N n : Nat) (v1503 : Int) (v1504 : Int) (v1505 : List Int) (k0 : List Int → Option α) : impl_natAdd_L2 N (n + 1) v1503 v1504 v1505 k0 = impl_natAdd_L2r N (fun y0 y1 y2 => impl_natAdd_L2 N n y0 y1 y2 k0) k0 v1503 v1504 v1505 := by rw [impl_natAdd_L2.eq]; rfl
/-- loop.example/pinfold/impl.natAdd -/
noncomputable def impl_natAdd.b {α : Type} (N : Nat) (a1479 : List Int) (a1480 : List Int) (k0 : List Int → Option α) : Option α :=
  let x1481 := ((a1479.length : Nat) : Int)
  let x1482 := ((a1480.length : Nat) : Int)
  let x1483 := maxI x1481 x1482
  let x1484 := (IntKind.i64.wrap (x1483 + (1 : Int)))
  bif (decide ((0 : Int) ≤ x1484)) then
    bif decide (x1484 ≤ x1484) then
      bif (decide (x1484 ≤ ((8796093022208 : Nat) : Int))) then
        let x1485 := (List.replicate x1484.toNat (0 : Int))
        let x1486 := List.take (min a1479.length x1485.length) a1479 ++ List.drop (min a1479.length x1485.length) x1485
        let x1488 := ((a1480.length : Nat) : Int)
        impl_natAdd_L0 N N a1480 x1488 (0 : Int) x1486
          (fun x1500 =>
            let x1501 := ((x1500.length : Nat) : Int)
            let x1502 := (IntKind.i64.wrap (x1501 - (1 : Int)))
            impl_natAdd_L2 N N x1502 (0 : Int) x1500
              (fun x1519 =>
                impl_trim N x1519
                  (fun x1520 =>
                    k0 x1520)))
      else
        none
    else
      none
  else
    none
theorem impl_natAdd.ex : ∃ f : ((α : Type) → Nat → List Int → List Int → (List Int → Option α) → Option α), f = fun α => @impl_natAdd.b α := ⟨_, rfl⟩
noncomputable def impl_natAdd {α : Type} : Nat → List Int → List Int → (List Int → Option α) → Option α := Classical.choose impl_natAdd.ex α
theorem impl_natAdd.eq : @impl_natAdd = @impl_natAdd.b := funext fun α => congrFun (Classical.choose_spec impl_natAdd.ex) α

noncomputable def impl_natMul_L2r {α : Type} (N : Nat) (next : List Int → Int → Int → Int → List Int → Int → Int → List Int → Int → Int → List Int → Option α) (k0 : List Int → Int → Int → List Int → Int → Int → List Int → Option α) (v1541 : List Int) (v1542 : Int) (v1543 : Int) (v1544 : Int) (v1545 : List Int) (v1546 : Int) (v1547 : Int) (v1548 : List Int) (v1549 : Int) (v1550 : Int) (v1551 : List Int) : Option α :=
  let x1552 := decide (v1550 < v1549)
  bif x1552 then
    bif (decide (v1550 < (0 : Int))) then
      none
    else
      match v1548[v1550.toNat]? with
      | some x1553 =>
        let x1554 := IntKind.i64.wrap (v1542 + v1550)
        bif (decide (x1554 < (0 : Int))) then
          none
        else
          bif decide (x1554.toNat < v1551.length) then
            match v1551[x1554.toNat]? with
            | some x1555 =>
              let x1556 := IntKind.i64.wrap (v1543 * x1553)
              let x1557 := IntKind.i64.wrap (x1555 + x1556)
              let x1558 := IntKind.i64.wrap (x1557 + v1544)
              let x1559 := IntKind.i64.wrap (v1542 + v1550)
              let x1560 := (bitI .and .i64 x1558 (65535 : Int))
              bif (decide (x1559 < (0 : Int))) then
                none
              else
                bif decide (x1559.toNat < v1551.length) then
                  match v1551[x1559.toNat]? with
                  | some x1561 =>
                    let x1562 := v1551.set x1559.toNat x1560
                    let x1563 := (shrI .i64 x1558 (16 : Int))
                    let x1564 := (IntKind.i64.wrap (v1550 + (1 : Int)))
                    next v1541 v1542 v1543 x1563 v1545 v1546 v1547 v1548 v1549 x1564 x1562
                  | none => none
                else
                  none
            | none => none
          else
            none
      | none => none
  else
    k0 v1541 v1542 v1544 v1545 v1546 v1547 v1551
noncomputable def impl_natMul_L2.b {α : Type} (N n : Nat) (v1541 : List Int) (v1542 : Int) (v1543 : Int) (v1544 : Int) (v1545 : List Int) (v1546 : Int) (v1547 : Int) (v1548 : List Int) (v1549 : Int) (v1550 : Int) (v1551 : List Int) (k0 : List Int → Int → Int → List Int → Int → Int → List Int → Option α) : Option α :=
  Nat.rec (motive := fun _ => List Int → Int → Int → Int → List Int → Int → Int → List Int → Int → Int → List Int → Option α) (fun _ _ _ _ _ _ _ _ _ _ _ => none) (fun _ next => impl_natMul_L2r N next k0) n v1541 v1542 v1543 v1544 v1545 v1546 v1547 v1548 v1549 v1550 v1551
theorem impl_natMul_L2.ex : ∃ f : ((α : Type) → Nat → Nat → List Int → Int → Int → Int → List Int → Int → Int → List Int → Int → Int → List Int → (List Int → Int → Int → List Int → Int → Int → List Int → Option α) → Option α), f = fun α => @impl_natMul_L2.b α := ⟨_, rfl⟩
noncomputable def impl_natMul_L2 {α : Type} : Nat → Nat → List Int → Int → Int → Int → List Int → Int → Int → List Int → Int → Int → List Int → (List Int → Int → Int → List Int → Int → Int → List Int → Option α) → Option α := Classical.choose impl_natMul_L2.ex α
theorem impl_natMul_L2.eq : @impl_natMul_L2 = @impl_natMul_L2.b := funext fun α => congrFun (Classical.choose_spec impl_natMul_L2.ex) α
theorem impl_natMul_L2.zero {α : Type} (N : Nat) (v1541 : List Int) (v1542 : Int) (v1543 : Int) (v1544 : Int) (v1545 : List Int) (v1546 : Int) (v1547 : Int) (v1548 : List Int) (v1549 : Int) (v1550 : Int) (v1551 : List Int) (k0 : List Int → Int → Int → List Int → Int → Int → List Int → Option α) : impl_natMul_L2 N 0 v1541 v1542 v1543 v1544 v1545 v1546 v1547 v1548 v1549 v1550 v1551 k0 = none := by rw [impl_natMul_L2.eq]; rfl
theorem impl_natMul_L2.succ {α : Type} (N n : Nat) (v1541 : List Int) (v1542 : Int) (v1543 : Int) (v1544 : Int) (v1545 : List Int) (v1546 : Int) (v1547 : Int) (v1548 : List Int) (v1549 : Int) (v1550 : Int) (v1551 : List Int) (k0 : List Int → Int → Int → List Int → Int → Int → List Int → Option α) : impl_natMul_L2 N (n + 1) v1541 v1542 v1543 v1544 v1545 v1546 v1547 v1548 v1549 v1550 v1551 k0 = impl_natMul_L2r N (fun y0 y1 y2 y3 y4 y5 y6 y7 y8 y9 y10 => impl_natMul_L2 N n y0 y1 y2 y3 y4 y5 y6 y7 y8 y9 y10 k0) k0 v1541 v1542 v1543 v1544 v1545 v1546 v1547 v1548 v1549 v1550 v1551 := by rw [impl_natMul_L2.eq]; rfl
noncomputable def impl_natMul_L0r {α : Type} (N : Nat) (next : List Int → List Int → Int → Int → List Int → Option α) (k0 : List Int → Option α) (v1533 : List Int) (v1534 : List Int) (v1535 : Int) (v1536 : Int) (v1537 : List Int) : Option α :=
  let x1538 := decide (v1536 < v1535)
  bif x1538 then
    bif (decide (v1536 < (0 : Int))) then
      none
    else
      match v1534[v1536.toNat]? with
      | some x1539 =>
        let x1540 := ((v1533.length : Nat) : Int)
        impl_natMul_L2 N N v1533 v1536 x1539 (0 : Int) v1534 v1535 v1536 v1533 x1540 (0 : Int) v1537
          (fun x1565 x1566 x1567 x1568 x1569 x1570 x1571 =>
            let x1572 := ((x1565.length : Nat) : Int)
            let x1573 := IntKind.i64.wrap (x1566 + x1572)
            bif (decide (x1573 < (0 : Int))) then
              none
            else
              bif decide (x1573.toNat < x1571.length) then
                match x1571[x1573.toNat]? with
                | some x1574 =>
                  let x1575 := IntKind.i64.wrap (x1574 + x1567)
                  bif (decide (x1573 < (0 : Int))) then
                    none
                  else
                    bif decide (x1573.toNat < x1571.length) then
                      match x1571[x1573.toNat]? with
                      | some x1576 =>
                        let x1577 := x1571.set x1573.toNat x1575
                        let x1578 := (IntKind.i64.wrap (x1570 + (1 : Int)))
                        next x1565 x1568 x1569 x1578 x1577
                      | none => none
                    else
                      none
                | none => none
              else
                none)
      | none => none
  else
    k0 v1537
noncomputable def impl_natMul_L0.b {α : Type} (N n : Nat) (v1533 : List Int) (v1534 : List Int) (v1535 : Int) (v1536 : Int) (v1537 : List Int) (k0 : List Int → Option α) : Option α :=
  Nat.rec (motive := fun _ => List Int → List Int → Int → Int → List Int → Option α) (fun _ _ _ _ _ => none) (fun _ next => impl_natMul_L0r N next k0) n v1533 v1534 v1535 v1536 v1537
theorem impl_natMul_L0.ex : ∃ f : ((α : Type) → Nat → Nat → List Int → List Int → Int → Int → List Int → (List Int → Option α) → Option α), f = fun α => @impl_natMul_L0.b α := ⟨_, rfl⟩
noncomputable def impl_natMul_L0 {α : Type} : Nat → Nat → List Int → List Int → Int → Int → List Int → (List Int → Option α) → Option α := Classical.choose impl_natMul_L0.ex α
theorem impl_natMul_L0.eq : @impl_natMul_L0 = @impl_natMul_L0.b := funext fun α => congrFun (Classical.choose_spec impl_natMul_L0.ex) α
theorem impl_natMul_L0.zero {α : Type} (N : Nat) (v1533 : List Int) (v1534 : List Int) (v1535 : Int) (v1536 : Int) (v1537 : List Int) (k0 : List Int → Option α) : impl_natMul_L0 N 0 v1533 v1534 v1535 v1536 v1537 k0 = none := by rw [impl_natMul_L0.eq]; rfl
theorem impl_natMul_L0.succ {α : Type} (N n : Nat) (v1533 : List Int) (v1534 : List Int) (v1535 : Int) (v1536 : Int) (v1537 : List Int) (k0 : List Int → Option α) : impl_natMul_L0 N (n + 1) v1533 v1534 v1535 v1536 v1537 k0 = impl_natMul_L0r N (fun y0 y1 y2 y3 y4 => impl_natMul_L0 N n y0 y1 y2 y3 y4 k0) k0 v1533 v1534 v1535 v1536 v1537 := by rw [impl_natMul_L0.eq]; rfl
/-- loop.example/pinfold/impl.natMul -/
noncomputable def impl_natMul.b {α : Type} (N : Nat) (a1525 : List Int) (a1526 : List Int) (k0 : List Int → Option α) : Option α :=
  let x1527 := ((a1525.length : Nat) : Int)
  let x1528 := ((a1526.length : Nat) : Int)
  let x1529 := IntKind.i64.wrap (x1527 + x1528)
  let x1530 := (IntKind.i64.wrap (x1529 + (1 : Int)))
  bif (decide ((0 : Int) ≤ x1530)) then
    bif decide (x1530 ≤ x1530) then
      bif (decide (x1530 ≤ ((8796093022208 : Nat) : Int))) then
        let x1531 := (List.replicate x1530.toNat (0 : Int))
        let x1532 := ((a1525.length : Nat) : Int)
        impl_natMul_L0 N N a1526 a1525 x1532 (0 : Int) x1531
          (fun x1579 =>
            impl_trim N x1579
              (fun x1580 =>
                k0 x1580))
      else
        none
    else
      none
  else
    none
theorem impl_natMul.ex : ∃ f : ((α : Type) → Nat → List Int → List Int → (List Int → Option α) → Option α), f = fun α => @impl_natMul.b α := ⟨_, rfl⟩
noncomputable def impl_natMul {α : Type} : Nat → List Int → List Int → (List Int → Option α) → Option α := Classical.choose impl_natMul.ex α
theorem impl_natMul.eq : @impl_natMul = @impl_natMul.b := funext fun α => congrFun (Classical.choose_spec impl_natMul.ex) α

noncomputable def impl_natRoot_L0r {α : Type} (N : Nat) (next : List Int → List Int → Option α) (k0 : List Int → Bool → Option α) (v1139 : List Int) (v1140 : List Int) : Option α :=
  impl_natDiv N v1139 v1140
    (fun x1477 _ =>
      impl_natAdd N v1140 x1477
        (fun x1521 =>
          impl_natShift N x1521 (-1 : Int)
            (fun x1522 =>
              impl_natCmp N x1522 v1140
                (fun x1523 =>
                  let x1524 := (decide ((0 : Int) ≤ x1523))
                  bif x1524 then
                    impl_natMul N v1140 v1140
                      (fun x1581 =>
                        impl_natCmp N x1581 v1139
                          (fun x1582 =>
                            let x1583 := (decide (x1582 = (0 : Int)))
                            k0 v1140 x1583))
                  else
                    next v1139 x1522))))
noncomputable def impl_natRoot_L0.b {α : Type} (N n : Nat) (v1139 : List Int) (v1140 : List Int) (k0 : List Int → Bool → Option α) : Option α :=
  Nat.rec (motive := fun _ => List Int → List Int → Option α) (fun _ _ => none) (fun _ next => impl_natRoot_L0r N next k0) n v1139 v1140
theorem impl_natRoot_L0.ex : ∃ f : ((α : Type) → Nat → Nat → List Int → List Int → (List Int → Bool → Option α) → Option α), f = fun α => @impl_natRoot_L0.b α := ⟨_, rfl⟩
noncomputable def impl_natRoot_L0 {α : Type} : Nat → Nat → List Int → List Int → (List Int → Bool → Option α) → Option α := Classical.choose impl_natRoot_L0.ex α
theorem impl_natRoot_L0.eq : @impl_natRoot_L0 = @impl_natRoot_L0.b := funext fun α => congrFun (Classical.choose_spec impl_natRoot_L0.ex) α
theorem impl_natRoot_L0.zero {α : Type} (N : Nat) (v1139 : List Int) (v1140 : List Int) (k0 : List Int → Bool → Option α) : impl_natRoot_L0 N 0 v1139 v1140 k0 = none := by rw [impl_natRoot_L0.eq]; rfl
theorem impl_natRoot_L0.succ {α : Type} (N n : Nat) (v1139 : List Int) (v1140 : List Int) (k0 : List Int → Bool → Option α) : impl_natRoot_L0 N (n + 1) v1139 v1140 k0 = impl_natRoot_L0r N (fun y0 y1 => impl_natRoot_L0 N n y0 y1 k0) k0 v1139 v1140 := by rw [impl_natRoot_L0.eq]; rfl
/-- loop.example/pinfold/impl.natRoot -/
noncomputable def impl_natRoot.b {α : Type} (N : Nat) (a930 : List Int) (k0 : List Int → Bool → Option α) : Option α :=
  let x931 := ((a930.length : Nat) : Int)
  let x932 := (decide (x931 = (0 : Int)))
  bif x932 then
    k0 [] true
  else
    let x933 := [(1 : Int)]
    impl_natBits N a930
      (fun x974 =>
        let x975 := (IntKind.i64.wrap (x974 + (1 : Int)))
        let x976 := (IntKind.i64.wrap (Int.tdiv x975 (2 : Int)))
        impl_natShift N x933 x976
          (fun x1138 =>
            impl_natRoot_L0 N N a930 x1138
              (fun x1584 x1585 =>
                k0 x1584 x1585)))
theorem impl_natRoot.ex : ∃ f : ((α : Type) → Nat → List Int → (List Int → Bool → Option α) → Option α), f = fun α => @impl_natRoot.b α := ⟨_, rfl⟩
noncomputable def impl_natRoot {α : Type} : Nat → List Int → (List Int → Bool → Option α) → Option α := Classical.choose impl_natRoot.ex α
theorem impl_natRoot.eq : @impl_natRoot = @impl_natRoot.b := funext fun α => congrFun (Classical.choose_spec impl_natRoot.ex) α

/-- slices.Clip[[]int,int] -/
noncomputable def slices_Clip_int_int.b {α : Type} (N : Nat) (a1590 : List Int) (k0 : List Int → Option α) : Option α :=
  let x1591 := ((a1590.length : Nat) : Int)
  let x1592 := ((a1590.length : Nat) : Int)
  bif (decide ((0 : Int) ≤ x1592)) then
    bif (decide (x1592 ≤ ((a1590.length : Nat) : Int))) then
      bif (decide ((0 : Int) ≤ x1591)) then
        bif (decide (x1591 ≤ ((x1592.toNat : Nat) : Int))) then
          let x1593 := a1590.take x1591.toNat
          k0 x1593
        else
          none
      else
        none
    else
      none
  else
    none
theorem slices_Clip_int_int.ex : ∃ f : ((α : Type) → Nat → List Int → (List Int → Option α) → Option α), f = fun α => @slices_Clip_int_int.b α := ⟨_, rfl⟩
noncomputable def slices_Clip_int_int {α : Type} : Nat → List Int → (List Int → Option α) → Option α := Classical.choose slices_Clip_int_int.ex α
theorem slices_Clip_int_int.eq : @slices_Clip_int_int = @slices_Clip_int_int.b := funext fun α => congrFun (Classical.choose_spec slices_Clip_int_int.ex) α

/-- loop.example/pinfold/impl.clone[int] -/
noncomputable def impl_clone_int.b {α : Type} (N : Nat) (a1588 : List Int) (k0 : List Int → Option α) : Option α :=
  slices_Clone_int_int N a1588
    (fun x1589 =>
      slices_Clip_int_int N x1589
        (fun x1594 =>
          k0 x1594))
theorem impl_clone_int.ex : ∃ f : ((α : Type) → Nat → List Int → (List Int → Option α) → Option α), f = fun α => @impl_clone_int.b α := ⟨_, rfl⟩
noncomputable def impl_clone_int {α : Type} : Nat → List Int → (List Int → Option α) → Option α := Classical.choose impl_clone_int.ex α
theorem impl_clone_int.eq : @impl_clone_int = @impl_clone_int.b := funext fun α => congrFun (Classical.choose_spec impl_clone_int.ex) α

/-- loop.example/pinfold/impl.NatRoot -/
noncomputable def impl_NatRoot.b {α : Type} (N : Nat) (a237 : List Int) (k0 : Bool → Bool → List Int → Option α) : Option α :=
  impl_NatOk N a237
    (fun x272 =>
      let x273 := !x272
      bif x273 then
        k0 false false []
      else
        impl_natRoot N a237
          (fun x1586 x1587 =>
            impl_clone_int N x1586
              (fun x1595 =>
                k0 x1587 true x1595)))
theorem impl_NatRoot.ex : ∃ f : ((α : Type) → Nat → List Int → (Bool → Bool → List Int → Option α) → Option α), f = fun α => @impl_NatRoot.b α := ⟨_, rfl⟩
noncomputable def impl_NatRoot {α : Type} : Nat → List Int → (Bool → Bool → List Int → Option α) → Option α := Classical.choose impl_NatRoot.ex α
theorem impl_NatRoot.eq : @impl_NatRoot = @impl_NatRoot.b := funext fun α => congrFun (Classical.choose_spec impl_NatRoot.ex) α

noncomputable def laws_eqIntS_L0r {α : Type} (N : Nat) (next : List Int → List Int → Int → Option α) (k0 : Bool → Option α) (k1 : Option α) (v1604 : List Int) (v1605 : List Int) (v1606 : Int) : Option α :=
  let x1607 := ((v1604.length : Nat) : Int)
  let x1608 := decide (v1606 < x1607)
  bif x1608 then
    bif (decide (v1606 < (0 : Int))) then
      none
    else
      match v1604[v1606.toNat]? with
      | some x1609 =>
        bif (decide (v1606 < (0 : Int))) then
          none
        else
          match v1605[v1606.toNat]? with
          | some x1610 =>
            let x1611 := !(decide (x1609 = x1610))
            bif x1611 then
              k0 false
            else
              let x1612 := (IntKind.i64.wrap (v1606 + (1 : Int)))
              next v1604 v1605 x1612
          | none => none
      | none => none
  else
    k1
noncomputable def laws_eqIntS_L0.b {α : Type} (N n : Nat) (v1604 : List Int) (v1605 : List Int) (v1606 : Int) (k0 : Bool → Option α) (k1 : Option α) : Option α :=
  Nat.rec (motive := fun _ => List Int → List Int → Int → Option α) (fun _ _ _ => none) (fun _ next => laws_eqIntS_L0r N next k0 k1) n v1604 v1605 v1606
theorem laws_eqIntS_L0.ex : ∃ f : ((α : Type) → Nat → Nat → List Int → List Int → Int → (Bool → Option α) → (Option α) → Option α), f = fun α => @laws_eqIntS_L0.b α := ⟨_, rfl⟩
noncomputable def laws_eqIntS_L0 {α : Type} : Nat → Nat → List Int → List Int → Int → (Bool → Option α) → (Option α) → Option α := Classical.choose laws_eqIntS_L0.ex α
theorem laws_eqIntS_L0.eq : @laws_eqIntS_L0 = @laws_eqIntS_L0.b := funext fun α => congrFun (Classical.choose_spec laws_eqIntS_L0.ex) α
theorem laws_eqIntS_L0.zero {α : Type} (N : Nat) (v1604 : List Int) (v1605 : List Int) (v1606 : Int) (k0 : Bool → Option α) (k1 : Option α) : laws_eqIntS_L0 N 0 v1604 v1605 v1606 k0 k1 = none := by rw [laws_eqIntS_L0.eq]; rfl
theorem laws_eqIntS_L0.succ {α : Type} (N n : Nat) (v1604 : List Int) (v1605 : List Int) (v1606 : Int) (k0 : Bool → Option α) (k1 : Option α) : laws_eqIntS_L0 N (n + 1) v1604 v1605 v1606 k0 k1 = laws_eqIntS_L0r N (fun y0 y1 y2 => laws_eqIntS_L0 N n y0 y1 y2 k0 k1) k0 k1 v1604 v1605 v1606 := by rw [laws_eqIntS_L0.eq]; rfl
/-- loop.example/pinfold/laws.eqIntS -/
noncomputable def laws_eqIntS.b {α : Type} (N : Nat) (a1599 : List Int) (a1600 : List Int) (k0 : Bool → Option α) : Option α :=
  let x1601 := ((a1599.length : Nat) : Int)
  let x1602 := ((a1600.length : Nat) : Int)
  let x1603 := !(decide (x1601 = x1602))
  bif x1603 then
    k0 false
  else
    laws_eqIntS_L0 N N a1599 a1600 (0 : Int)
      (fun x1613 =>
        k0 x1613)
      (
        k0 true)
theorem laws_eqIntS.ex : ∃ f : ((α : Type) → Nat → List Int → List Int → (Bool → Option α) → Option α), f = fun α => @laws_eqIntS.b α := ⟨_, rfl⟩
noncomputable def laws_eqIntS {α : Type} : Nat → List Int → List Int → (Bool → Option α) → Option α := Classical.choose laws_eqIntS.ex α
theorem laws_eqIntS.eq : @laws_eqIntS = @laws_eqIntS.b := funext fun α => congrFun (Classical.choose_spec laws_eqIntS.ex) α

noncomputable def laws_markIntS_L0r {α : Type} (N : Nat) (next : Int → Int → List Int → Option α) (k0 : Int → List Int → Option α) (v1623 : Int) (v1624 : Int) (v1625 : List Int) : Option α :=
  let x1626 := ((v1625.length : Nat) : Int)
  let x1627 := decide (v1624 < x1626)
  bif x1627 then
    bif (decide (v1624 < (0 : Int))) then
      none
    else
      bif decide (v1624.toNat < v1625.length) then
        match v1625[v1624.toNat]? with
        | some x1628 =>
          let x1629 := v1625.set v1624.toNat v1623
          let x1630 := (IntKind.i64.wrap (v1623 + (1 : Int)))
          let x1631 := (IntKind.i64.wrap (v1624 + (1 : Int)))
          next x1630 x1631 x1629
        | none => none
      else
        none
  else
    k0 v1623 v1625
noncomputable def laws_markIntS_L0.b {α : Type} (N n : Nat) (v1623 : Int) (v1624 : Int) (v1625 : List Int) (k0 : Int → List Int → Option α) : Option α :=
  Nat.rec (motive := fun _ => Int → Int → List Int → Option α) (fun _ _ _ => none) (fun _ next => laws_markIntS_L0r N next k0) n v1623 v1624 v1625
theorem laws_markIntS_L0.ex : ∃ f : ((α : Type) → Nat → Nat → Int → Int → List Int → (Int → List Int → Option α) → Option α), f = fun α => @laws_markIntS_L0.b α := ⟨_, rfl⟩
noncomputable def laws_markIntS_L0 {α : Type} : Nat → Nat → Int → Int → List Int → (Int → List Int → Option α) → Option α := Classical.choose laws_markIntS_L0.ex α
theorem laws_markIntS_L0.eq : @laws_markIntS_L0 = @laws_markIntS_L0.b := funext fun α => congrFun (Classical.choose_spec laws_markIntS_L0.ex) α
theorem laws_markIntS_L0.zero {α : Type} (N : Nat) (v1623 : Int) (v1624 : Int) (v1625 : List Int) (k0 : Int → List Int → Option α) : laws_markIntS_L0 N 0 v1623 v1624 v1625 k0 = none := by rw [laws_markIntS_L0.eq]; rfl
theorem laws_markIntS_L0.succ {α : Type} (N n : Nat) (v1623 : Int) (v1624 : Int) (v1625 : List Int) (k0 : Int → List Int → Option α) : laws_markIntS_L0 N (n + 1) v1623 v1624 v1625 k0 = laws_markIntS_L0r N (fun y0 y1 y2 => laws_markIntS_L0 N n y0 y1 y2 k0) k0 v1623 v1624 v1625 := by rw [laws_markIntS_L0.eq]; rfl
/-- loop.example/pinfold/laws.markIntS -/
noncomputable def laws_markIntS.b {α : Type} (N : Nat) (a1621 : Int) (a1622 : List Int) (k0 : Int → List Int → Option α) : Option α :=
  laws_markIntS_L0 N N a1621 (0 : Int) a1622
    (fun x1632 x1633 =>
      k0 x1632 x1633)
theorem laws_markIntS.ex : ∃ f : ((α : Type) → Nat → Int → List Int → (Int → List Int → Option α) → Option α), f = fun α => @laws_markIntS.b α := ⟨_, rfl⟩
noncomputable def laws_markIntS {α : Type} : Nat → Int → List Int → (Int → List Int → Option α) → Option α := Classical.choose laws_markIntS.ex α
theorem laws_markIntS.eq : @laws_markIntS = @laws_markIntS.b := funext fun α => congrFun (Classical.choose_spec laws_markIntS.ex) α

noncomputable def laws_heldIntS_L0r {α : Type} (N : Nat) (next : List Int → Int → Int → Option α) (k0 : Int → Option α) (k1 : Int → Option α) (v1645 : List Int) (v1646 : Int) (v1647 : Int) : Option α :=
  let x1648 := ((v1645.length : Nat) : Int)
  let x1649 := decide (v1647 < x1648)
  bif x1649 then
    bif (decide (v1647 < (0 : Int))) then
      none
    else
      match v1645[v1647.toNat]? with
      | some x1650 =>
        let x1651 := !(decide (x1650 = v1646))
        bif x1651 then
          k0 (-1 : Int)
        else
          let x1652 := (IntKind.i64.wrap (v1646 + (1 : Int)))
          let x1653 := (IntKind.i64.wrap (v1647 + (1 : Int)))
          next v1645 x1652 x1653
      | none => none
  else
    k1 v1646
noncomputable def laws_heldIntS_L0.b {α : Type} (N n : Nat) (v1645 : List Int) (v1646 : Int) (v1647 : Int) (k0 : Int → Option α) (k1 : Int → Option α) : Option α :=
  Nat.rec (motive := fun _ => List Int → Int → Int → Option α) (fun _ _ _ => none) (fun _ next => laws_heldIntS_L0r N next k0 k1) n v1645 v1646 v1647
theorem laws_heldIntS_L0.ex : ∃ f : ((α : Type) → Nat → Nat → List Int → Int → Int → (Int → Option α) → (Int → Option α) → Option α), f = fun α => @laws_heldIntS_L0.b α := ⟨_, rfl⟩
noncomputable def laws_heldIntS_L0 {α : Type} : Nat → Nat → List Int → Int → Int → (Int → Option α) → (Int → Option α) → Option α := Classical.choose laws_heldIntS_L0.ex α
theorem laws_heldIntS_L0.eq : @laws_heldIntS_L0 = @laws_heldIntS_L0.b := funext fun α => congrFun (Classical.choose_spec laws_heldIntS_L0.ex) α
theorem laws_heldIntS_L0.zero {α : Type} (N : Nat) (v1645 : List Int) (v1646 : Int) (v1647 : Int) (k0 : Int → Option α) (k1 : Int → Option α) : laws_heldIntS_L0 N 0 v1645 v1646 v1647 k0 k1 = none := by rw [laws_heldIntS_L0.eq]; rfl
theorem laws_heldIntS_L0.succ {α : Type} (N n : Nat) (v1645 : List Int) (v1646 : Int) (v1647 : Int) (k0 : Int → Option α) (k1 : Int → Option α) : laws_heldIntS_L0 N (n + 1) v1645 v1646 v1647 k0 k1 = laws_heldIntS_L0r N (fun y0 y1 y2 => laws_heldIntS_L0 N n y0 y1 y2 k0 k1) k0 k1 v1645 v1646 v1647 := by rw [laws_heldIntS_L0.eq]; rfl
/-- loop.example/pinfold/laws.heldIntS -/
noncomputable def laws_heldIntS.b {α : Type} (N : Nat) (a1643 : List Int) (a1644 : Int) (k0 : Int → Option α) : Option α :=
  laws_heldIntS_L0 N N a1643 a1644 (0 : Int)
    (fun x1654 =>
      k0 x1654)
    (fun x1655 =>
      k0 x1655)
theorem laws_heldIntS.ex : ∃ f : ((α : Type) → Nat → List Int → Int → (Int → Option α) → Option α), f = fun α => @laws_heldIntS.b α := ⟨_, rfl⟩
noncomputable def laws_heldIntS {α : Type} : Nat → List Int → Int → (Int → Option α) → Option α := Classical.choose laws_heldIntS.ex α
theorem laws_heldIntS.eq : @laws_heldIntS = @laws_heldIntS.b := funext fun α => congrFun (Classical.choose_spec laws_heldIntS.ex) α

/-- loop.example/pinfold/laws.FnExactNatRoot -/
noncomputable def laws_FnExactNatRoot.b {α : Type} (N : Nat) (a1 : List Int) (k0 : Bool → Option α) : Option α :=
  let x2 := ((a1.length : Nat) : Int)
  let x3 := (decide ((1048576 : Int) < x2))
  bif x3 then
    k0 true
  else
    laws_toIntS N a1
      (fun x17 =>
        spec_NatRoot N x17
          (fun x233 x234 x235 =>
            laws_toIntS N a1
              (fun x236 =>
                impl_NatRoot N x236
                  (fun x1596 x1597 x1598 =>
                    laws_eqIntS N x1598 x235
                      (fun x1614 =>
                        let x1615 := !x1614
                        bif x1615 then
                          k0 false
                        else
                          let x1616 := !(x1596 == x233)
                          bif x1616 then
                            k0 false
                          else
                            let x1617 := !(x1597 == x234)
                            bif x1617 then
                              k0 false
                            else
                              laws_toIntS N a1
                                (fun x1618 =>
                                  laws_eqIntS N x236 x1618
                                    (fun x1619 =>
                                      let x1620 := !x1619
                                      bif x1620 then
                                        k0 false
                                      else
                                        laws_markIntS N (1 : Int) x236
                                          (fun x1634 _ =>
                                            let x1636 := (decide (x1634 < (0 : Int)))
                                            bif x1636 then
                                              k0 false
                                            else
                                              laws_eqIntS N x1598 x235
                                                (fun x1637 =>
                                                  let x1638 := !x1637
                                                  bif x1638 then
                                                    k0 false
                                                  else
                                                    let x1639 := !(x1596 == x233)
                                                    bif x1639 then
                                                      k0 false
                                                    else
                                                      let x1640 := !(x1597 == x234)
                                                      bif x1640 then
                                                        k0 false
                                                      else
                                                        laws_markIntS N (1 : Int) x1598
                                                          (fun x1641 x1642 =>
                                                            laws_heldIntS N x1642 (1 : Int)
                                                              (fun x1656 =>
                                                                let x1657 := (decide (x1656 < (0 : Int)))
                                                                bif x1657 then
                                                                  k0 false
                                                                else
                                                                  let x1658 := !(decide (x1656 = x1641))
                                                                  bif x1658 then
                                                                    k0 false
                                                                  else
                                                                    laws_toIntS N a1
                                                                      (fun x1659 =>
                                                                        impl_NatRoot N x1659
                                                                          (fun x1660 x1661 x1662 =>
                                                                            laws_eqIntS N x1662 x235
                                                                              (fun x1663 =>
                                                                                let x1664 := !x1663
                                                                                bif x1664 then
                                                                                  k0 false
                                                                                else
                                                                                  let x1665 := !(x1660 == x233)
                                                                                  bif x1665 then
                                                                                    k0 false
                                                                                  else
                                                                                    let x1666 := !(x1661 == x234)
                                                                                    bif x1666 then
                                                                                      k0 false
                                                                                    else
                                                                                      laws_heldIntS N x1642 (1 : Int)
                                                                                        (fun x1667 =>
                                                                                          let x1668 := (decide (x1667 < (0 : Int)))
                                                                                          bif x1668 then
                                                                                            k0 false
                                                                                          else
                                                                                            let x1669 := !(decide (x1667 = x1641))
                                                                                            bif x1669 then
                                                                                              k0 false
                                                                                            else
                                                                                              k0 true)))))))))))))))
theorem laws_FnExactNatRoot.ex : ∃ f : ((α : Type) → Nat → List Int → (Bool → Option α) → Option α), f = fun α => @laws_FnExactNatRoot.b α := ⟨_, rfl⟩
noncomputable def laws_FnExactNatRoot {α : Type} : Nat → List Int → (Bool → Option α) → Option α := Classical.choose laws_FnExactNatRoot.ex α
theorem laws_FnExactNatRoot.eq : @laws_FnExactNatRoot = @laws_FnExactNatRoot.b := funext fun α => congrFun (Classical.choose_spec laws_FnExactNatRoot.ex) α

end
end Go.Proofs.YtgabephijgjogaaAm
