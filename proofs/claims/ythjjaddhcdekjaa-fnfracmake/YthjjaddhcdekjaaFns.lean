/-
  The functions that the program computes, as the abstract machine tells them. Printed by amp.py.
-/
import Derived.Test.YthjjaddhcdekjaaAmb
namespace Go.Proofs.YthjjaddhcdekjaaAm
open Go
noncomputable section
set_option linter.unusedVariables false
set_option linter.unusedSimpArgs false

noncomputable def spec_l32Open_J1.b {α : Type} (N : Nat) (v9 : List Int) (k0 : List Int → Option α) : Option α :=
  let x10 := ((v9.length : Nat) : Int)
  let x11 := (decide ((2000 : Int) < x10))
  bif x11 then
    bif (decide ((2000 : Int) ≤ ((v9.length : Nat) : Int))) then
      let x12 := v9.take 2000
      k0 x12
    else
      none
  else
    k0 v9
theorem spec_l32Open_J1.ex : ∃ f : ((α : Type) → Nat → List Int → (List Int → Option α) → Option α), f = fun α => @spec_l32Open_J1.b α := ⟨_, rfl⟩
noncomputable def spec_l32Open_J1 {α : Type} : Nat → List Int → (List Int → Option α) → Option α := Classical.choose spec_l32Open_J1.ex α
theorem spec_l32Open_J1.eq : @spec_l32Open_J1 = @spec_l32Open_J1.b := funext fun α => congrFun (Classical.choose_spec spec_l32Open_J1.ex) α
/-- loop.example/pinfold/spec.l32Open -/
noncomputable def spec_l32Open.b {α : Type} (N : Nat) (a8 : List Int) (k0 : ((List Int) × Int × Unit) → Option α) : Option α :=
  spec_l32Open_J1 N a8
    (fun x13 =>
      k0 (x13, ((0 : Int), ())))
theorem spec_l32Open.ex : ∃ f : ((α : Type) → Nat → List Int → (((List Int) × Int × Unit) → Option α) → Option α), f = fun α => @spec_l32Open.b α := ⟨_, rfl⟩
noncomputable def spec_l32Open {α : Type} : Nat → List Int → (((List Int) × Int × Unit) → Option α) → Option α := Classical.choose spec_l32Open.ex α
theorem spec_l32Open.eq : @spec_l32Open = @spec_l32Open.b := funext fun α => congrFun (Classical.choose_spec spec_l32Open.ex) α

/-- (*loop.example/pinfold/spec.l32Rd).pick -/
noncomputable def spec_l32Rd_pick.b {α : Type} (N : Nat) (a17 : Int) (a18 : (List Int) × Int × Unit) (k0 : Int → ((List Int) × Int × Unit) → Option α) : Option α :=
  let x19 := (IntKind.i64.wrap (a18.2.1 + (1 : Int)))
  let x20 := (decide (a17 < (1 : Int)))
  bif x20 then
    k0 (0 : Int) (a18.1, (x19, ()))
  else
    let x21 := ((a18.1.length : Nat) : Int)
    let x22 := (decide (x21 = (0 : Int)))
    bif x22 then
      k0 (0 : Int) (a18.1, (x19, ()))
    else
      let x23 := (IntKind.i64.wrap (x19 - (1 : Int)))
      let x24 := ((a18.1.length : Nat) : Int)
      let x25 := decide (x23 < x24)
      bif x25 then
        bif (decide (x23 < (0 : Int))) then
          none
        else
          match a18.1[x23.toNat]? with
          | some x26 =>
            let x27 := IntKind.i64.wrap x26
            bif (decide (a17 = (0 : Int))) then
              none
            else
              let x28 := Int.tmod x27 a17
              k0 x28 (a18.1, (x19, ()))
          | none => none
      else
        let x29 := ((a18.1.length : Nat) : Int)
        bif (decide (x29 = (0 : Int))) then
          none
        else
          let x30 := Int.tmod x23 x29
          bif (decide (x30 < (0 : Int))) then
            none
          else
            match a18.1[x30.toNat]? with
            | some x31 =>
              let x32 := IntKind.i64.wrap x31
              let x33 := (IntKind.i64.wrap (x32 * (131 : Int)))
              let x34 := (IntKind.i64.wrap (x23 * (7 : Int)))
              let x35 := (IntKind.i64.wrap (x34 + (3 : Int)))
              let x36 := ((a18.1.length : Nat) : Int)
              bif (decide (x36 = (0 : Int))) then
                none
              else
                let x37 := Int.tmod x35 x36
                bif (decide (x37 < (0 : Int))) then
                  none
                else
                  match a18.1[x37.toNat]? with
                  | some x38 =>
                    let x39 := IntKind.i64.wrap x38
                    let x40 := (IntKind.i64.wrap (x39 * (1117 : Int)))
                    let x41 := IntKind.i64.wrap (x33 + x40)
                    let x42 := (IntKind.i64.wrap (x23 * (29 : Int)))
                    let x43 := IntKind.i64.wrap (x41 + x42)
                    let x44 := ((a18.1.length : Nat) : Int)
                    bif (decide (x44 = (0 : Int))) then
                      none
                    else
                      let x45 := IntKind.i64.wrap (Int.tdiv x23 x44)
                      let x46 := (IntKind.i64.wrap (x45 * (53 : Int)))
                      let x47 := IntKind.i64.wrap (x43 + x46)
                      let x48 := (IntKind.i64.wrap (Int.tdiv x47 (64 : Int)))
                      let x49 := bitI .xor .i64 x47 x48
                      bif (decide (a17 = (0 : Int))) then
                        none
                      else
                        let x50 := Int.tmod x49 a17
                        k0 x50 (a18.1, (x19, ()))
                  | none => none
            | none => none
theorem spec_l32Rd_pick.ex : ∃ f : ((α : Type) → Nat → Int → ((List Int) × Int × Unit) → (Int → ((List Int) × Int × Unit) → Option α) → Option α), f = fun α => @spec_l32Rd_pick.b α := ⟨_, rfl⟩
noncomputable def spec_l32Rd_pick {α : Type} : Nat → Int → ((List Int) × Int × Unit) → (Int → ((List Int) × Int × Unit) → Option α) → Option α := Classical.choose spec_l32Rd_pick.ex α
theorem spec_l32Rd_pick.eq : @spec_l32Rd_pick = @spec_l32Rd_pick.b := funext fun α => congrFun (Classical.choose_spec spec_l32Rd_pick.ex) α

noncomputable def spec_NatOf_L0r {α : Type} (N : Nat) (next : Int → List Int → Option α) (k0 : List Int → Option α) (v80 : Int) (v81 : List Int) : Option α :=
  let x82 := (decide ((0 : Int) < v80))
  bif x82 then
    let x83 := (Int.tmod v80 (65536 : Int))
    let x84 := IntKind.i64.wrap x83
    let x85 := [x84]
    bif decide (v81.length + x85.length ≤ 8796093022208) then
      let x86 := v81 ++ x85
      let x87 := (IntKind.u64.wrap (Int.tdiv v80 (65536 : Int)))
      next x87 x86
    else
      none
  else
    k0 v81
noncomputable def spec_NatOf_L0.b {α : Type} (N n : Nat) (v80 : Int) (v81 : List Int) (k0 : List Int → Option α) : Option α :=
  Nat.rec (motive := fun _ => Int → List Int → Option α) (fun _ _ => none) (fun _ next => spec_NatOf_L0r N next k0) n v80 v81
theorem spec_NatOf_L0.ex : ∃ f : ((α : Type) → Nat → Nat → Int → List Int → (List Int → Option α) → Option α), f = fun α => @spec_NatOf_L0.b α := ⟨_, rfl⟩
noncomputable def spec_NatOf_L0 {α : Type} : Nat → Nat → Int → List Int → (List Int → Option α) → Option α := Classical.choose spec_NatOf_L0.ex α
theorem spec_NatOf_L0.eq : @spec_NatOf_L0 = @spec_NatOf_L0.b := funext fun α => congrFun (Classical.choose_spec spec_NatOf_L0.ex) α
theorem spec_NatOf_L0.zero {α : Type} (N : Nat) (v80 : Int) (v81 : List Int) (k0 : List Int → Option α) : spec_NatOf_L0 N 0 v80 v81 k0 = none := by rw [spec_NatOf_L0.eq]; rfl
theorem spec_NatOf_L0.succ {α : Type} (N n : Nat) (v80 : Int) (v81 : List Int) (k0 : List Int → Option α) : spec_NatOf_L0 N (n + 1) v80 v81 k0 = spec_NatOf_L0r N (fun y0 y1 => spec_NatOf_L0 N n y0 y1 k0) k0 v80 v81 := by rw [spec_NatOf_L0.eq]; rfl
/-- loop.example/pinfold/spec.NatOf -/
noncomputable def spec_NatOf.b {α : Type} (N : Nat) (a79 : Int) (k0 : List Int → Option α) : Option α :=
  spec_NatOf_L0 N N a79 []
    (fun x88 =>
      k0 x88)
theorem spec_NatOf.ex : ∃ f : ((α : Type) → Nat → Int → (List Int → Option α) → Option α), f = fun α => @spec_NatOf.b α := ⟨_, rfl⟩
noncomputable def spec_NatOf {α : Type} : Nat → Int → (List Int → Option α) → Option α := Classical.choose spec_NatOf.ex α
theorem spec_NatOf.eq : @spec_NatOf = @spec_NatOf.b := funext fun α => congrFun (Classical.choose_spec spec_NatOf.ex) α

noncomputable def spec_l32Rd_nat_J6.b {α : Type} (N : Nat) (v65 : Int) (v66 : (List Int) × Int × Unit) (k0 : Int → ((List Int) × Int × Unit) → Option α) : Option α :=
  spec_l32Rd_pick N (6 : Int) v66
    (fun x67 x68 =>
      let x69 := (decide (x67 = (0 : Int)))
      bif x69 then
        spec_l32Rd_pick N (3 : Int) x68
          (fun x70 x71 =>
            let x72 := (IntKind.i64.wrap ((256 : Int) - x70))
            k0 x72 x71)
      else
        k0 v65 x68)
theorem spec_l32Rd_nat_J6.ex : ∃ f : ((α : Type) → Nat → Int → ((List Int) × Int × Unit) → (Int → ((List Int) × Int × Unit) → Option α) → Option α), f = fun α => @spec_l32Rd_nat_J6.b α := ⟨_, rfl⟩
noncomputable def spec_l32Rd_nat_J6 {α : Type} : Nat → Int → ((List Int) × Int × Unit) → (Int → ((List Int) × Int × Unit) → Option α) → Option α := Classical.choose spec_l32Rd_nat_J6.ex α
theorem spec_l32Rd_nat_J6.eq : @spec_l32Rd_nat_J6 = @spec_l32Rd_nat_J6.b := funext fun α => congrFun (Classical.choose_spec spec_l32Rd_nat_J6.ex) α
noncomputable def spec_l32Rd_nat_J5.b {α : Type} (N : Nat) (v61 : Int) (v62 : Int) (v63 : (List Int) × Int × Unit) (k0 : Int → ((List Int) × Int × Unit) → Option α) (k1 : ((List Int) × Int × Unit) → List Int → Option α) : Option α :=
  let x64 := (decide (v62 = (1 : Int)))
  bif x64 then
    spec_l32Rd_nat_J6 N v61 v63
      (fun x73 x74 =>
        k0 x73 x74)
  else
    let x75 := (decide (v62 = (2 : Int)))
    bif x75 then
      spec_l32Rd_pick N (12 : Int) v63
        (fun x76 x77 =>
          let x78 := IntKind.u64.wrap x76
          spec_NatOf N x78
            (fun x89 =>
              k1 x77 x89))
    else
      k0 v61 v63
theorem spec_l32Rd_nat_J5.ex : ∃ f : ((α : Type) → Nat → Int → Int → ((List Int) × Int × Unit) → (Int → ((List Int) × Int × Unit) → Option α) → (((List Int) × Int × Unit) → List Int → Option α) → Option α), f = fun α => @spec_l32Rd_nat_J5.b α := ⟨_, rfl⟩
noncomputable def spec_l32Rd_nat_J5 {α : Type} : Nat → Int → Int → ((List Int) × Int × Unit) → (Int → ((List Int) × Int × Unit) → Option α) → (((List Int) × Int × Unit) → List Int → Option α) → Option α := Classical.choose spec_l32Rd_nat_J5.ex α
theorem spec_l32Rd_nat_J5.eq : @spec_l32Rd_nat_J5 = @spec_l32Rd_nat_J5.b := funext fun α => congrFun (Classical.choose_spec spec_l32Rd_nat_J5.ex) α
noncomputable def spec_l32Rd_nat_J3.b {α : Type} (N : Nat) (v55 : Int) (v56 : Int) (v57 : (List Int) × Int × Unit) (k0 : Int → ((List Int) × Int × Unit) → Option α) (k1 : ((List Int) × Int × Unit) → List Int → Option α) : Option α :=
  let x58 := (decide (v56 = (0 : Int)))
  bif x58 then
    spec_l32Rd_pick N (24 : Int) v57
      (fun x59 x60 =>
        k0 x59 x60)
  else
    spec_l32Rd_nat_J5 N v55 v56 v57
      (fun x90 x91 =>
        k0 x90 x91)
      (fun x92 x93 =>
        k1 x92 x93)
theorem spec_l32Rd_nat_J3.ex : ∃ f : ((α : Type) → Nat → Int → Int → ((List Int) × Int × Unit) → (Int → ((List Int) × Int × Unit) → Option α) → (((List Int) × Int × Unit) → List Int → Option α) → Option α), f = fun α => @spec_l32Rd_nat_J3.b α := ⟨_, rfl⟩
noncomputable def spec_l32Rd_nat_J3 {α : Type} : Nat → Int → Int → ((List Int) × Int × Unit) → (Int → ((List Int) × Int × Unit) → Option α) → (((List Int) × Int × Unit) → List Int → Option α) → Option α := Classical.choose spec_l32Rd_nat_J3.ex α
theorem spec_l32Rd_nat_J3.eq : @spec_l32Rd_nat_J3 = @spec_l32Rd_nat_J3.b := funext fun α => congrFun (Classical.choose_spec spec_l32Rd_nat_J3.ex) α
noncomputable def spec_l32Rd_nat_J16.b {α : Type} (N : Nat) (v110 : Int) (v111 : Int) (v112 : Int) (v113 : Int) (v114 : (List Int) × Int × Unit) (v115 : List Int) (k0 : Int → Int → Int → Int → ((List Int) × Int × Unit) → List Int → Option α) : Option α :=
  let x116 := (decide (v111 = (0 : Int)))
  bif x116 then
    k0 v110 v111 v112 (65535 : Int) v114 v115
  else
    k0 v110 v111 v112 v113 v114 v115
theorem spec_l32Rd_nat_J16.ex : ∃ f : ((α : Type) → Nat → Int → Int → Int → Int → ((List Int) × Int × Unit) → List Int → (Int → Int → Int → Int → ((List Int) × Int × Unit) → List Int → Option α) → Option α), f = fun α => @spec_l32Rd_nat_J16.b α := ⟨_, rfl⟩
noncomputable def spec_l32Rd_nat_J16 {α : Type} : Nat → Int → Int → Int → Int → ((List Int) × Int × Unit) → List Int → (Int → Int → Int → Int → ((List Int) × Int × Unit) → List Int → Option α) → Option α := Classical.choose spec_l32Rd_nat_J16.ex α
theorem spec_l32Rd_nat_J16.eq : @spec_l32Rd_nat_J16 = @spec_l32Rd_nat_J16.b := funext fun α => congrFun (Classical.choose_spec spec_l32Rd_nat_J16.ex) α
noncomputable def spec_l32Rd_nat_J18.b {α : Type} (N : Nat) (v123 : Int) (v124 : Int) (v125 : Int) (v126 : Int) (v127 : (List Int) × Int × Unit) (v128 : List Int) (k0 : Int → Int → Int → Int → ((List Int) × Int × Unit) → List Int → Option α) : Option α :=
  let x129 := (decide (v124 = (1 : Int)))
  bif x129 then
    k0 v123 v124 v125 (0 : Int) v127 v128
  else
    k0 v123 v124 v125 v126 v127 v128
theorem spec_l32Rd_nat_J18.ex : ∃ f : ((α : Type) → Nat → Int → Int → Int → Int → ((List Int) × Int × Unit) → List Int → (Int → Int → Int → Int → ((List Int) × Int × Unit) → List Int → Option α) → Option α), f = fun α => @spec_l32Rd_nat_J18.b α := ⟨_, rfl⟩
noncomputable def spec_l32Rd_nat_J18 {α : Type} : Nat → Int → Int → Int → Int → ((List Int) × Int × Unit) → List Int → (Int → Int → Int → Int → ((List Int) × Int × Unit) → List Int → Option α) → Option α := Classical.choose spec_l32Rd_nat_J18.ex α
theorem spec_l32Rd_nat_J18.eq : @spec_l32Rd_nat_J18 = @spec_l32Rd_nat_J18.b := funext fun α => congrFun (Classical.choose_spec spec_l32Rd_nat_J18.ex) α
noncomputable def spec_l32Rd_nat_L1r {α : Type} (N : Nat) (next : Int → Int → Int → ((List Int) × Int × Unit) → List Int → Option α) (k0 : Int → ((List Int) × Int × Unit) → List Int → Option α) (v98 : Int) (v99 : Int) (v100 : Int) (v101 : (List Int) × Int × Unit) (v102 : List Int) : Option α :=
  let x103 := decide (v100 < v98)
  bif x103 then
    spec_l32Rd_pick N (256 : Int) v101
      (fun x104 x105 =>
        let x106 := (IntKind.i64.wrap (x104 * (256 : Int)))
        spec_l32Rd_pick N (256 : Int) x105
          (fun x107 x108 =>
            let x109 := IntKind.i64.wrap (x106 + x107)
            spec_l32Rd_nat_J16 N v98 v99 v100 x109 x108 v102
              (fun x117 x118 x119 x120 x121 x122 =>
                spec_l32Rd_nat_J18 N x117 x118 x119 x120 x121 x122
                  (fun x130 x131 x132 x133 x134 x135 =>
                    let x136 := [x133]
                    bif decide (x135.length + x136.length ≤ 8796093022208) then
                      let x137 := x135 ++ x136
                      let x138 := (IntKind.i64.wrap (x132 + (1 : Int)))
                      next x130 x131 x138 x134 x137
                    else
                      none))))
  else
    k0 v98 v101 v102
noncomputable def spec_l32Rd_nat_L1.b {α : Type} (N n : Nat) (v98 : Int) (v99 : Int) (v100 : Int) (v101 : (List Int) × Int × Unit) (v102 : List Int) (k0 : Int → ((List Int) × Int × Unit) → List Int → Option α) : Option α :=
  Nat.rec (motive := fun _ => Int → Int → Int → ((List Int) × Int × Unit) → List Int → Option α) (fun _ _ _ _ _ => none) (fun _ next => spec_l32Rd_nat_L1r N next k0) n v98 v99 v100 v101 v102
theorem spec_l32Rd_nat_L1.ex : ∃ f : ((α : Type) → Nat → Nat → Int → Int → Int → ((List Int) × Int × Unit) → List Int → (Int → ((List Int) × Int × Unit) → List Int → Option α) → Option α), f = fun α => @spec_l32Rd_nat_L1.b α := ⟨_, rfl⟩
noncomputable def spec_l32Rd_nat_L1 {α : Type} : Nat → Nat → Int → Int → Int → ((List Int) × Int × Unit) → List Int → (Int → ((List Int) × Int × Unit) → List Int → Option α) → Option α := Classical.choose spec_l32Rd_nat_L1.ex α
theorem spec_l32Rd_nat_L1.eq : @spec_l32Rd_nat_L1 = @spec_l32Rd_nat_L1.b := funext fun α => congrFun (Classical.choose_spec spec_l32Rd_nat_L1.ex) α
theorem spec_l32Rd_nat_L1.zero {α : Type} (N : Nat) (v98 : Int) (v99 : Int) (v100 : Int) (v101 : (List Int) × Int × Unit) (v102 : List Int) (k0 : Int → ((List Int) × Int × Unit) → List Int → Option α) : spec_l32Rd_nat_L1 N 0 v98 v99 v100 v101 v102 k0 = none := by rw [spec_l32Rd_nat_L1.eq]; rfl
theorem spec_l32Rd_nat_L1.succ {α : Type} (N n : Nat) (v98 : Int) (v99 : Int) (v100 : Int) (v101 : (List Int) × Int × Unit) (v102 : List Int) (k0 : Int → ((List Int) × Int × Unit) → List Int → Option α) : spec_l32Rd_nat_L1 N (n + 1) v98 v99 v100 v101 v102 k0 = spec_l32Rd_nat_L1r N (fun y0 y1 y2 y3 y4 => spec_l32Rd_nat_L1 N n y0 y1 y2 y3 y4 k0) k0 v98 v99 v100 v101 v102 := by rw [spec_l32Rd_nat_L1.eq]; rfl
noncomputable def spec_l32Rd_nat_J21.b {α : Type} (N : Nat) (v142 : Int) (v143 : (List Int) × Int × Unit) (v144 : List Int) (k0 : ((List Int) × Int × Unit) → List Int → Option α) : Option α :=
  let x145 := (decide ((0 : Int) < v142))
  bif x145 then
    let x146 := (IntKind.i64.wrap (v142 - (1 : Int)))
    bif (decide (x146 < (0 : Int))) then
      none
    else
      bif decide (x146.toNat < v144.length) then
        match v144[x146.toNat]? with
        | some x147 =>
          let x148 := (decide (x147 = (0 : Int)))
          bif x148 then
            let x149 := (IntKind.i64.wrap (v142 - (1 : Int)))
            spec_l32Rd_pick N (16 : Int) v143
              (fun x150 x151 =>
                let x152 := IntKind.u64.wrap x150
                bif (decide (x152 < (0 : Int))) then
                  none
                else
                  let x153 := (shlI .i64 (1 : Int) x152)
                  bif (decide (x149 < (0 : Int))) then
                    none
                  else
                    bif decide (x149.toNat < v144.length) then
                      match v144[x149.toNat]? with
                      | some x154 =>
                        let x155 := v144.set x149.toNat x153
                        k0 x151 x155
                      | none => none
                    else
                      none)
          else
            k0 v143 v144
        | none => none
      else
        none
  else
    k0 v143 v144
theorem spec_l32Rd_nat_J21.ex : ∃ f : ((α : Type) → Nat → Int → ((List Int) × Int × Unit) → List Int → (((List Int) × Int × Unit) → List Int → Option α) → Option α), f = fun α => @spec_l32Rd_nat_J21.b α := ⟨_, rfl⟩
noncomputable def spec_l32Rd_nat_J21 {α : Type} : Nat → Int → ((List Int) × Int × Unit) → List Int → (((List Int) × Int × Unit) → List Int → Option α) → Option α := Classical.choose spec_l32Rd_nat_J21.ex α
theorem spec_l32Rd_nat_J21.eq : @spec_l32Rd_nat_J21 = @spec_l32Rd_nat_J21.b := funext fun α => congrFun (Classical.choose_spec spec_l32Rd_nat_J21.ex) α
/-- (*loop.example/pinfold/spec.l32Rd).nat -/
noncomputable def spec_l32Rd_nat.b {α : Type} (N : Nat) (a16 : (List Int) × Int × Unit) (k0 : ((List Int) × Int × Unit) → List Int → Option α) : Option α :=
  spec_l32Rd_pick N (4 : Int) a16
    (fun x51 x52 =>
      spec_l32Rd_pick N (16 : Int) x52
        (fun x53 x54 =>
          spec_l32Rd_nat_J3 N x51 x53 x54
            (fun x94 x95 =>
              spec_l32Rd_pick N (5 : Int) x95
                (fun x96 x97 =>
                  spec_l32Rd_nat_L1 N N x94 x96 (0 : Int) x97 []
                    (fun x139 x140 x141 =>
                      spec_l32Rd_nat_J21 N x139 x140 x141
                        (fun x156 x157 =>
                          k0 x156 x157))))
            (fun x158 x159 =>
              k0 x158 x159)))
theorem spec_l32Rd_nat.ex : ∃ f : ((α : Type) → Nat → ((List Int) × Int × Unit) → (((List Int) × Int × Unit) → List Int → Option α) → Option α), f = fun α => @spec_l32Rd_nat.b α := ⟨_, rfl⟩
noncomputable def spec_l32Rd_nat {α : Type} : Nat → ((List Int) × Int × Unit) → (((List Int) × Int × Unit) → List Int → Option α) → Option α := Classical.choose spec_l32Rd_nat.ex α
theorem spec_l32Rd_nat.eq : @spec_l32Rd_nat = @spec_l32Rd_nat.b := funext fun α => congrFun (Classical.choose_spec spec_l32Rd_nat.ex) α

noncomputable def spec_NatOk_L0r {α : Type} (N : Nat) (next : List Int → Int → Option α) (k0 : Bool → Option α) (k1 : List Int → Option α) (v196 : List Int) (v197 : Int) : Option α :=
  let x198 := ((v196.length : Nat) : Int)
  let x199 := decide (v197 < x198)
  bif x199 then
    bif (decide (v197 < (0 : Int))) then
      none
    else
      match v196[v197.toNat]? with
      | some x200 =>
        let x201 := (decide (x200 < (0 : Int)))
        bif x201 then
          k0 false
        else
          bif (decide (v197 < (0 : Int))) then
            none
          else
            match v196[v197.toNat]? with
            | some x202 =>
              let x203 := (decide ((65536 : Int) ≤ x202))
              bif x203 then
                k0 false
              else
                let x204 := (IntKind.i64.wrap (v197 + (1 : Int)))
                next v196 x204
            | none => none
      | none => none
  else
    k1 v196
noncomputable def spec_NatOk_L0.b {α : Type} (N n : Nat) (v196 : List Int) (v197 : Int) (k0 : Bool → Option α) (k1 : List Int → Option α) : Option α :=
  Nat.rec (motive := fun _ => List Int → Int → Option α) (fun _ _ => none) (fun _ next => spec_NatOk_L0r N next k0 k1) n v196 v197
theorem spec_NatOk_L0.ex : ∃ f : ((α : Type) → Nat → Nat → List Int → Int → (Bool → Option α) → (List Int → Option α) → Option α), f = fun α => @spec_NatOk_L0.b α := ⟨_, rfl⟩
noncomputable def spec_NatOk_L0 {α : Type} : Nat → Nat → List Int → Int → (Bool → Option α) → (List Int → Option α) → Option α := Classical.choose spec_NatOk_L0.ex α
theorem spec_NatOk_L0.eq : @spec_NatOk_L0 = @spec_NatOk_L0.b := funext fun α => congrFun (Classical.choose_spec spec_NatOk_L0.ex) α
theorem spec_NatOk_L0.zero {α : Type} (N : Nat) (v196 : List Int) (v197 : Int) (k0 : Bool → Option α) (k1 : List Int → Option α) : spec_NatOk_L0 N 0 v196 v197 k0 k1 = none := by rw [spec_NatOk_L0.eq]; rfl
theorem spec_NatOk_L0.succ {α : Type} (N n : Nat) (v196 : List Int) (v197 : Int) (k0 : Bool → Option α) (k1 : List Int → Option α) : spec_NatOk_L0 N (n + 1) v196 v197 k0 k1 = spec_NatOk_L0r N (fun y0 y1 => spec_NatOk_L0 N n y0 y1 k0 k1) k0 k1 v196 v197 := by rw [spec_NatOk_L0.eq]; rfl
/-- loop.example/pinfold/spec.NatOk -/
noncomputable def spec_NatOk.b {α : Type} (N : Nat) (a193 : List Int) (k0 : Bool → Option α) : Option α :=
  let x194 := ((a193.length : Nat) : Int)
  let x195 := (decide ((256 : Int) < x194))
  bif x195 then
    k0 false
  else
    spec_NatOk_L0 N N a193 (0 : Int)
      (fun x205 =>
        k0 x205)
      (fun x206 =>
        let x207 := ((x206.length : Nat) : Int)
        let x208 := (decide (x207 = (0 : Int)))
        bif x208 then
          k0 true
        else
          let x209 := ((x206.length : Nat) : Int)
          let x210 := (IntKind.i64.wrap (x209 - (1 : Int)))
          bif (decide (x210 < (0 : Int))) then
            none
          else
            match x206[x210.toNat]? with
            | some x211 =>
              let x212 := (!(decide (x211 = (0 : Int))))
              k0 x212
            | none => none)
theorem spec_NatOk.ex : ∃ f : ((α : Type) → Nat → List Int → (Bool → Option α) → Option α), f = fun α => @spec_NatOk.b α := ⟨_, rfl⟩
noncomputable def spec_NatOk {α : Type} : Nat → List Int → (Bool → Option α) → Option α := Classical.choose spec_NatOk.ex α
theorem spec_NatOk.eq : @spec_NatOk = @spec_NatOk.b := funext fun α => congrFun (Classical.choose_spec spec_NatOk.ex) α

noncomputable def spec_l5Trim_L0r {α : Type} (N : Nat) (next : List Int → Int → Option α) (k0 : List Int → Int → Option α) (v229 : List Int) (v230 : Int) : Option α :=
  let x231 := (decide ((0 : Int) < v230))
  bif x231 then
    let x232 := (IntKind.i64.wrap (v230 - (1 : Int)))
    bif (decide (x232 < (0 : Int))) then
      none
    else
      match v229[x232.toNat]? with
      | some x233 =>
        let x234 := (decide (x233 = (0 : Int)))
        bif x234 then
          let x235 := (IntKind.i64.wrap (v230 - (1 : Int)))
          next v229 x235
        else
          k0 v229 v230
      | none => none
  else
    k0 v229 v230
noncomputable def spec_l5Trim_L0.b {α : Type} (N n : Nat) (v229 : List Int) (v230 : Int) (k0 : List Int → Int → Option α) : Option α :=
  Nat.rec (motive := fun _ => List Int → Int → Option α) (fun _ _ => none) (fun _ next => spec_l5Trim_L0r N next k0) n v229 v230
theorem spec_l5Trim_L0.ex : ∃ f : ((α : Type) → Nat → Nat → List Int → Int → (List Int → Int → Option α) → Option α), f = fun α => @spec_l5Trim_L0.b α := ⟨_, rfl⟩
noncomputable def spec_l5Trim_L0 {α : Type} : Nat → Nat → List Int → Int → (List Int → Int → Option α) → Option α := Classical.choose spec_l5Trim_L0.ex α
theorem spec_l5Trim_L0.eq : @spec_l5Trim_L0 = @spec_l5Trim_L0.b := funext fun α => congrFun (Classical.choose_spec spec_l5Trim_L0.ex) α
theorem spec_l5Trim_L0.zero {α : Type} (N : Nat) (v229 : List Int) (v230 : Int) (k0 : List Int → Int → Option α) : spec_l5Trim_L0 N 0 v229 v230 k0 = none := by rw [spec_l5Trim_L0.eq]; rfl
theorem spec_l5Trim_L0.succ {α : Type} (N n : Nat) (v229 : List Int) (v230 : Int) (k0 : List Int → Int → Option α) : spec_l5Trim_L0 N (n + 1) v229 v230 k0 = spec_l5Trim_L0r N (fun y0 y1 => spec_l5Trim_L0 N n y0 y1 k0) k0 v229 v230 := by rw [spec_l5Trim_L0.eq]; rfl
noncomputable def spec_l5Trim_L2r {α : Type} (N : Nat) (next : List Int → Int → Int → List Int → Option α) (k0 : List Int → Option α) (v238 : List Int) (v239 : Int) (v240 : Int) (v241 : List Int) : Option α :=
  let x242 := decide (v240 < v239)
  bif x242 then
    bif (decide (v240 < (0 : Int))) then
      none
    else
      match v238[v240.toNat]? with
      | some x243 =>
        let x244 := [x243]
        bif decide (v241.length + x244.length ≤ 8796093022208) then
          let x245 := v241 ++ x244
          let x246 := (IntKind.i64.wrap (v240 + (1 : Int)))
          next v238 v239 x246 x245
        else
          none
      | none => none
  else
    k0 v241
noncomputable def spec_l5Trim_L2.b {α : Type} (N n : Nat) (v238 : List Int) (v239 : Int) (v240 : Int) (v241 : List Int) (k0 : List Int → Option α) : Option α :=
  Nat.rec (motive := fun _ => List Int → Int → Int → List Int → Option α) (fun _ _ _ _ => none) (fun _ next => spec_l5Trim_L2r N next k0) n v238 v239 v240 v241
theorem spec_l5Trim_L2.ex : ∃ f : ((α : Type) → Nat → Nat → List Int → Int → Int → List Int → (List Int → Option α) → Option α), f = fun α => @spec_l5Trim_L2.b α := ⟨_, rfl⟩
noncomputable def spec_l5Trim_L2 {α : Type} : Nat → Nat → List Int → Int → Int → List Int → (List Int → Option α) → Option α := Classical.choose spec_l5Trim_L2.ex α
theorem spec_l5Trim_L2.eq : @spec_l5Trim_L2 = @spec_l5Trim_L2.b := funext fun α => congrFun (Classical.choose_spec spec_l5Trim_L2.ex) α
theorem spec_l5Trim_L2.zero {α : Type} (N : Nat) (v238 : List Int) (v239 : Int) (v240 : Int) (v241 : List Int) (k0 : List Int → Option α) : spec_l5Trim_L2 N 0 v238 v239 v240 v241 k0 = none := by rw [spec_l5Trim_L2.eq]; rfl
theorem spec_l5Trim_L2.succ {α : Type} (N n : Nat) (v238 : List Int) (v239 : Int) (v240 : Int) (v241 : List Int) (k0 : List Int → Option α) : spec_l5Trim_L2 N (n + 1) v238 v239 v240 v241 k0 = spec_l5Trim_L2r N (fun y0 y1 y2 y3 => spec_l5Trim_L2 N n y0 y1 y2 y3 k0) k0 v238 v239 v240 v241 := by rw [spec_l5Trim_L2.eq]; rfl
/-- loop.example/pinfold/spec.l5Trim -/
noncomputable def spec_l5Trim.b {α : Type} (N : Nat) (a227 : List Int) (k0 : List Int → Option α) : Option α :=
  let x228 := ((a227.length : Nat) : Int)
  spec_l5Trim_L0 N N a227 x228
    (fun x236 x237 =>
      spec_l5Trim_L2 N N x236 x237 (0 : Int) []
        (fun x247 =>
          k0 x247))
theorem spec_l5Trim.ex : ∃ f : ((α : Type) → Nat → List Int → (List Int → Option α) → Option α), f = fun α => @spec_l5Trim.b α := ⟨_, rfl⟩
noncomputable def spec_l5Trim {α : Type} : Nat → List Int → (List Int → Option α) → Option α := Classical.choose spec_l5Trim.ex α
theorem spec_l5Trim.eq : @spec_l5Trim = @spec_l5Trim.b := funext fun α => congrFun (Classical.choose_spec spec_l5Trim.ex) α

noncomputable def spec_l5Cmp_L0r {α : Type} (N : Nat) (next : List Int → List Int → Int → Option α) (k0 : Int → Option α) (k1 : Option α) (v266 : List Int) (v267 : List Int) (v268 : Int) : Option α :=
  let x269 := (decide ((0 : Int) ≤ v268))
  bif x269 then
    bif (decide (v268 < (0 : Int))) then
      none
    else
      match v266[v268.toNat]? with
      | some x270 =>
        bif (decide (v268 < (0 : Int))) then
          none
        else
          match v267[v268.toNat]? with
          | some x271 =>
            let x272 := decide (x270 < x271)
            bif x272 then
              k0 (-1 : Int)
            else
              bif (decide (v268 < (0 : Int))) then
                none
              else
                match v266[v268.toNat]? with
                | some x273 =>
                  bif (decide (v268 < (0 : Int))) then
                    none
                  else
                    match v267[v268.toNat]? with
                    | some x274 =>
                      let x275 := decide (x274 < x273)
                      bif x275 then
                        k0 (1 : Int)
                      else
                        let x276 := (IntKind.i64.wrap (v268 - (1 : Int)))
                        next v266 v267 x276
                    | none => none
                | none => none
          | none => none
      | none => none
  else
    k1
noncomputable def spec_l5Cmp_L0.b {α : Type} (N n : Nat) (v266 : List Int) (v267 : List Int) (v268 : Int) (k0 : Int → Option α) (k1 : Option α) : Option α :=
  Nat.rec (motive := fun _ => List Int → List Int → Int → Option α) (fun _ _ _ => none) (fun _ next => spec_l5Cmp_L0r N next k0 k1) n v266 v267 v268
theorem spec_l5Cmp_L0.ex : ∃ f : ((α : Type) → Nat → Nat → List Int → List Int → Int → (Int → Option α) → (Option α) → Option α), f = fun α => @spec_l5Cmp_L0.b α := ⟨_, rfl⟩
noncomputable def spec_l5Cmp_L0 {α : Type} : Nat → Nat → List Int → List Int → Int → (Int → Option α) → (Option α) → Option α := Classical.choose spec_l5Cmp_L0.ex α
theorem spec_l5Cmp_L0.eq : @spec_l5Cmp_L0 = @spec_l5Cmp_L0.b := funext fun α => congrFun (Classical.choose_spec spec_l5Cmp_L0.ex) α
theorem spec_l5Cmp_L0.zero {α : Type} (N : Nat) (v266 : List Int) (v267 : List Int) (v268 : Int) (k0 : Int → Option α) (k1 : Option α) : spec_l5Cmp_L0 N 0 v266 v267 v268 k0 k1 = none := by rw [spec_l5Cmp_L0.eq]; rfl
theorem spec_l5Cmp_L0.succ {α : Type} (N n : Nat) (v266 : List Int) (v267 : List Int) (v268 : Int) (k0 : Int → Option α) (k1 : Option α) : spec_l5Cmp_L0 N (n + 1) v266 v267 v268 k0 k1 = spec_l5Cmp_L0r N (fun y0 y1 y2 => spec_l5Cmp_L0 N n y0 y1 y2 k0 k1) k0 k1 v266 v267 v268 := by rw [spec_l5Cmp_L0.eq]; rfl
/-- loop.example/pinfold/spec.l5Cmp -/
noncomputable def spec_l5Cmp.b {α : Type} (N : Nat) (a256 : List Int) (a257 : List Int) (k0 : Int → Option α) : Option α :=
  let x258 := ((a256.length : Nat) : Int)
  let x259 := ((a257.length : Nat) : Int)
  let x260 := decide (x258 < x259)
  bif x260 then
    k0 (-1 : Int)
  else
    let x261 := ((a256.length : Nat) : Int)
    let x262 := ((a257.length : Nat) : Int)
    let x263 := decide (x262 < x261)
    bif x263 then
      k0 (1 : Int)
    else
      let x264 := ((a256.length : Nat) : Int)
      let x265 := (IntKind.i64.wrap (x264 - (1 : Int)))
      spec_l5Cmp_L0 N N a256 a257 x265
        (fun x277 =>
          k0 x277)
        (
          k0 (0 : Int))
theorem spec_l5Cmp.ex : ∃ f : ((α : Type) → Nat → List Int → List Int → (Int → Option α) → Option α), f = fun α => @spec_l5Cmp.b α := ⟨_, rfl⟩
noncomputable def spec_l5Cmp {α : Type} : Nat → List Int → List Int → (Int → Option α) → Option α := Classical.choose spec_l5Cmp.ex α
theorem spec_l5Cmp.eq : @spec_l5Cmp = @spec_l5Cmp.b := funext fun α => congrFun (Classical.choose_spec spec_l5Cmp.ex) α

noncomputable def spec_l5DivSmall_L0r {α : Type} (N : Nat) (next : List Int → Int → Int → Int → List Int → Option α) (k0 : Int → List Int → Option α) (v290 : List Int) (v291 : Int) (v292 : Int) (v293 : Int) (v294 : List Int) : Option α :=
  let x295 := (decide ((0 : Int) ≤ v293))
  bif x295 then
    let x296 := (IntKind.i64.wrap (v292 * (65536 : Int)))
    bif (decide (v293 < (0 : Int))) then
      none
    else
      match v290[v293.toNat]? with
      | some x297 =>
        let x298 := IntKind.i64.wrap (x296 + x297)
        bif (decide (v291 = (0 : Int))) then
          none
        else
          let x299 := IntKind.i64.wrap (Int.tdiv x298 v291)
          bif (decide (v293 < (0 : Int))) then
            none
          else
            bif decide (v293.toNat < v294.length) then
              match v294[v293.toNat]? with
              | some x300 =>
                let x301 := v294.set v293.toNat x299
                bif (decide (v291 = (0 : Int))) then
                  none
                else
                  let x302 := Int.tmod x298 v291
                  let x303 := (IntKind.i64.wrap (v293 - (1 : Int)))
                  next v290 v291 x302 x303 x301
              | none => none
            else
              none
      | none => none
  else
    k0 v292 v294
noncomputable def spec_l5DivSmall_L0.b {α : Type} (N n : Nat) (v290 : List Int) (v291 : Int) (v292 : Int) (v293 : Int) (v294 : List Int) (k0 : Int → List Int → Option α) : Option α :=
  Nat.rec (motive := fun _ => List Int → Int → Int → Int → List Int → Option α) (fun _ _ _ _ _ => none) (fun _ next => spec_l5DivSmall_L0r N next k0) n v290 v291 v292 v293 v294
theorem spec_l5DivSmall_L0.ex : ∃ f : ((α : Type) → Nat → Nat → List Int → Int → Int → Int → List Int → (Int → List Int → Option α) → Option α), f = fun α => @spec_l5DivSmall_L0.b α := ⟨_, rfl⟩
noncomputable def spec_l5DivSmall_L0 {α : Type} : Nat → Nat → List Int → Int → Int → Int → List Int → (Int → List Int → Option α) → Option α := Classical.choose spec_l5DivSmall_L0.ex α
theorem spec_l5DivSmall_L0.eq : @spec_l5DivSmall_L0 = @spec_l5DivSmall_L0.b := funext fun α => congrFun (Classical.choose_spec spec_l5DivSmall_L0.ex) α
theorem spec_l5DivSmall_L0.zero {α : Type} (N : Nat) (v290 : List Int) (v291 : Int) (v292 : Int) (v293 : Int) (v294 : List Int) (k0 : Int → List Int → Option α) : spec_l5DivSmall_L0 N 0 v290 v291 v292 v293 v294 k0 = none := by rw [spec_l5DivSmall_L0.eq]; rfl
theorem spec_l5DivSmall_L0.succ {α : Type} (N n : Nat) (v290 : List Int) (v291 : Int) (v292 : Int) (v293 : Int) (v294 : List Int) (k0 : Int → List Int → Option α) : spec_l5DivSmall_L0 N (n + 1) v290 v291 v292 v293 v294 k0 = spec_l5DivSmall_L0r N (fun y0 y1 y2 y3 y4 => spec_l5DivSmall_L0 N n y0 y1 y2 y3 y4 k0) k0 v290 v291 v292 v293 v294 := by rw [spec_l5DivSmall_L0.eq]; rfl
/-- loop.example/pinfold/spec.l5DivSmall -/
noncomputable def spec_l5DivSmall.b {α : Type} (N : Nat) (a284 : List Int) (a285 : Int) (k0 : Int → List Int → Option α) : Option α :=
  let x286 := ((a284.length : Nat) : Int)
  bif (decide ((0 : Int) ≤ x286)) then
    bif decide (x286 ≤ x286) then
      bif (decide (x286 ≤ ((8796093022208 : Nat) : Int))) then
        let x287 := (List.replicate x286.toNat (0 : Int))
        let x288 := ((a284.length : Nat) : Int)
        let x289 := (IntKind.i64.wrap (x288 - (1 : Int)))
        spec_l5DivSmall_L0 N N a284 a285 (0 : Int) x289 x287
          (fun x304 x305 =>
            spec_l5Trim N x305
              (fun x306 =>
                k0 x304 x306))
      else
        none
    else
      none
  else
    none
theorem spec_l5DivSmall.ex : ∃ f : ((α : Type) → Nat → List Int → Int → (Int → List Int → Option α) → Option α), f = fun α => @spec_l5DivSmall.b α := ⟨_, rfl⟩
noncomputable def spec_l5DivSmall {α : Type} : Nat → List Int → Int → (Int → List Int → Option α) → Option α := Classical.choose spec_l5DivSmall.ex α
theorem spec_l5DivSmall.eq : @spec_l5DivSmall = @spec_l5DivSmall.b := funext fun α => congrFun (Classical.choose_spec spec_l5DivSmall.ex) α

noncomputable def spec_l5Mul_L2r {α : Type} (N : Nat) (next : List Int → List Int → Int → Int → Int → List Int → Option α) (k0 : List Int → List Int → Int → Int → List Int → Option α) (v332 : List Int) (v333 : List Int) (v334 : Int) (v335 : Int) (v336 : Int) (v337 : List Int) : Option α :=
  let x338 := ((v333.length : Nat) : Int)
  let x339 := decide (v336 < x338)
  bif x339 then
    let x340 := IntKind.i64.wrap (v334 + v336)
    bif (decide (x340 < (0 : Int))) then
      none
    else
      bif decide (x340.toNat < v337.length) then
        match v337[x340.toNat]? with
        | some x341 =>
          bif (decide (v334 < (0 : Int))) then
            none
          else
            match v332[v334.toNat]? with
            | some x342 =>
              bif (decide (v336 < (0 : Int))) then
                none
              else
                match v333[v336.toNat]? with
                | some x343 =>
                  let x344 := IntKind.i64.wrap (x342 * x343)
                  let x345 := IntKind.i64.wrap (x341 + x344)
                  let x346 := IntKind.i64.wrap (x345 + v335)
                  let x347 := IntKind.i64.wrap (v334 + v336)
                  let x348 := (Int.tmod x346 (65536 : Int))
                  bif (decide (x347 < (0 : Int))) then
                    none
                  else
                    bif decide (x347.toNat < v337.length) then
                      match v337[x347.toNat]? with
                      | some x349 =>
                        let x350 := v337.set x347.toNat x348
                        let x351 := (IntKind.i64.wrap (Int.tdiv x346 (65536 : Int)))
                        let x352 := (IntKind.i64.wrap (v336 + (1 : Int)))
                        next v332 v333 v334 x351 x352 x350
                      | none => none
                    else
                      none
                | none => none
            | none => none
        | none => none
      else
        none
  else
    k0 v332 v333 v334 v335 v337
noncomputable def spec_l5Mul_L2.b {α : Type} (N n : Nat) (v332 : List Int) (v333 : List Int) (v334 : Int) (v335 : Int) (v336 : Int) (v337 : List Int) (k0 : List Int → List Int → Int → Int → List Int → Option α) : Option α :=
  Nat.rec (motive := fun _ => List Int → List Int → Int → Int → Int → List Int → Option α) (fun _ _ _ _ _ _ => none) (fun _ next => spec_l5Mul_L2r N next k0) n v332 v333 v334 v335 v336 v337
theorem spec_l5Mul_L2.ex : ∃ f : ((α : Type) → Nat → Nat → List Int → List Int → Int → Int → Int → List Int → (List Int → List Int → Int → Int → List Int → Option α) → Option α), f = fun α => @spec_l5Mul_L2.b α := ⟨_, rfl⟩
noncomputable def spec_l5Mul_L2 {α : Type} : Nat → Nat → List Int → List Int → Int → Int → Int → List Int → (List Int → List Int → Int → Int → List Int → Option α) → Option α := Classical.choose spec_l5Mul_L2.ex α
theorem spec_l5Mul_L2.eq : @spec_l5Mul_L2 = @spec_l5Mul_L2.b := funext fun α => congrFun (Classical.choose_spec spec_l5Mul_L2.ex) α
theorem spec_l5Mul_L2.zero {α : Type} (N : Nat) (v332 : List Int) (v333 : List Int) (v334 : Int) (v335 : Int) (v336 : Int) (v337 : List Int) (k0 : List Int → List Int → Int → Int → List Int → Option α) : spec_l5Mul_L2 N 0 v332 v333 v334 v335 v336 v337 k0 = none := by rw [spec_l5Mul_L2.eq]; rfl
theorem spec_l5Mul_L2.succ {α : Type} (N n : Nat) (v332 : List Int) (v333 : List Int) (v334 : Int) (v335 : Int) (v336 : Int) (v337 : List Int) (k0 : List Int → List Int → Int → Int → List Int → Option α) : spec_l5Mul_L2 N (n + 1) v332 v333 v334 v335 v336 v337 k0 = spec_l5Mul_L2r N (fun y0 y1 y2 y3 y4 y5 => spec_l5Mul_L2 N n y0 y1 y2 y3 y4 y5 k0) k0 v332 v333 v334 v335 v336 v337 := by rw [spec_l5Mul_L2.eq]; rfl
noncomputable def spec_l5Mul_L0r {α : Type} (N : Nat) (next : List Int → List Int → Int → List Int → Option α) (k0 : List Int → Option α) (v326 : List Int) (v327 : List Int) (v328 : Int) (v329 : List Int) : Option α :=
  let x330 := ((v326.length : Nat) : Int)
  let x331 := decide (v328 < x330)
  bif x331 then
    spec_l5Mul_L2 N N v326 v327 v328 (0 : Int) (0 : Int) v329
      (fun x353 x354 x355 x356 x357 =>
        let x358 := ((x354.length : Nat) : Int)
        let x359 := IntKind.i64.wrap (x355 + x358)
        bif (decide (x359 < (0 : Int))) then
          none
        else
          bif decide (x359.toNat < x357.length) then
            match x357[x359.toNat]? with
            | some x360 =>
              let x361 := x357.set x359.toNat x356
              let x362 := (IntKind.i64.wrap (x355 + (1 : Int)))
              next x353 x354 x362 x361
            | none => none
          else
            none)
  else
    k0 v329
noncomputable def spec_l5Mul_L0.b {α : Type} (N n : Nat) (v326 : List Int) (v327 : List Int) (v328 : Int) (v329 : List Int) (k0 : List Int → Option α) : Option α :=
  Nat.rec (motive := fun _ => List Int → List Int → Int → List Int → Option α) (fun _ _ _ _ => none) (fun _ next => spec_l5Mul_L0r N next k0) n v326 v327 v328 v329
theorem spec_l5Mul_L0.ex : ∃ f : ((α : Type) → Nat → Nat → List Int → List Int → Int → List Int → (List Int → Option α) → Option α), f = fun α => @spec_l5Mul_L0.b α := ⟨_, rfl⟩
noncomputable def spec_l5Mul_L0 {α : Type} : Nat → Nat → List Int → List Int → Int → List Int → (List Int → Option α) → Option α := Classical.choose spec_l5Mul_L0.ex α
theorem spec_l5Mul_L0.eq : @spec_l5Mul_L0 = @spec_l5Mul_L0.b := funext fun α => congrFun (Classical.choose_spec spec_l5Mul_L0.ex) α
theorem spec_l5Mul_L0.zero {α : Type} (N : Nat) (v326 : List Int) (v327 : List Int) (v328 : Int) (v329 : List Int) (k0 : List Int → Option α) : spec_l5Mul_L0 N 0 v326 v327 v328 v329 k0 = none := by rw [spec_l5Mul_L0.eq]; rfl
theorem spec_l5Mul_L0.succ {α : Type} (N n : Nat) (v326 : List Int) (v327 : List Int) (v328 : Int) (v329 : List Int) (k0 : List Int → Option α) : spec_l5Mul_L0 N (n + 1) v326 v327 v328 v329 k0 = spec_l5Mul_L0r N (fun y0 y1 y2 y3 => spec_l5Mul_L0 N n y0 y1 y2 y3 k0) k0 v326 v327 v328 v329 := by rw [spec_l5Mul_L0.eq]; rfl
/-- loop.example/pinfold/spec.l5Mul -/
noncomputable def spec_l5Mul.b {α : Type} (N : Nat) (a320 : List Int) (a321 : List Int) (k0 : List Int → Option α) : Option α :=
  let x322 := ((a320.length : Nat) : Int)
  let x323 := ((a321.length : Nat) : Int)
  let x324 := IntKind.i64.wrap (x322 + x323)
  bif (decide ((0 : Int) ≤ x324)) then
    bif decide (x324 ≤ x324) then
      bif (decide (x324 ≤ ((8796093022208 : Nat) : Int))) then
        let x325 := (List.replicate x324.toNat (0 : Int))
        spec_l5Mul_L0 N N a320 a321 (0 : Int) x325
          (fun x363 =>
            spec_l5Trim N x363
              (fun x364 =>
                k0 x364))
      else
        none
    else
      none
  else
    none
theorem spec_l5Mul.ex : ∃ f : ((α : Type) → Nat → List Int → List Int → (List Int → Option α) → Option α), f = fun α => @spec_l5Mul.b α := ⟨_, rfl⟩
noncomputable def spec_l5Mul {α : Type} : Nat → List Int → List Int → (List Int → Option α) → Option α := Classical.choose spec_l5Mul.ex α
theorem spec_l5Mul.eq : @spec_l5Mul = @spec_l5Mul.b := funext fun α => congrFun (Classical.choose_spec spec_l5Mul.ex) α

/-- loop.example/pinfold/spec.l5Times -/
noncomputable def spec_l5Times.b {α : Type} (N : Nat) (a316 : List Int) (a317 : Int) (k0 : List Int → Option α) : Option α :=
  let x318 := (decide (a317 = (0 : Int)))
  bif x318 then
    k0 []
  else
    let x319 := [a317]
    spec_l5Mul N a316 x319
      (fun x365 =>
        k0 x365)
theorem spec_l5Times.ex : ∃ f : ((α : Type) → Nat → List Int → Int → (List Int → Option α) → Option α), f = fun α => @spec_l5Times.b α := ⟨_, rfl⟩
noncomputable def spec_l5Times {α : Type} : Nat → List Int → Int → (List Int → Option α) → Option α := Classical.choose spec_l5Times.ex α
theorem spec_l5Times.eq : @spec_l5Times = @spec_l5Times.b := funext fun α => congrFun (Classical.choose_spec spec_l5Times.ex) α

noncomputable def spec_l5Top_L0r {α : Type} (N : Nat) (next : List Int → Int → List Int → Option α) (k0 : List Int → Option α) (v378 : List Int) (v379 : Int) (v380 : List Int) : Option α :=
  let x381 := ((v378.length : Nat) : Int)
  let x382 := decide (v379 < x381)
  bif x382 then
    bif (decide (v379 < (0 : Int))) then
      none
    else
      match v378[v379.toNat]? with
      | some x383 =>
        let x384 := [x383]
        bif decide (v380.length + x384.length ≤ 8796093022208) then
          let x385 := v380 ++ x384
          let x386 := (IntKind.i64.wrap (v379 + (1 : Int)))
          next v378 x386 x385
        else
          none
      | none => none
  else
    k0 v380
noncomputable def spec_l5Top_L0.b {α : Type} (N n : Nat) (v378 : List Int) (v379 : Int) (v380 : List Int) (k0 : List Int → Option α) : Option α :=
  Nat.rec (motive := fun _ => List Int → Int → List Int → Option α) (fun _ _ _ => none) (fun _ next => spec_l5Top_L0r N next k0) n v378 v379 v380
theorem spec_l5Top_L0.ex : ∃ f : ((α : Type) → Nat → Nat → List Int → Int → List Int → (List Int → Option α) → Option α), f = fun α => @spec_l5Top_L0.b α := ⟨_, rfl⟩
noncomputable def spec_l5Top_L0 {α : Type} : Nat → Nat → List Int → Int → List Int → (List Int → Option α) → Option α := Classical.choose spec_l5Top_L0.ex α
theorem spec_l5Top_L0.eq : @spec_l5Top_L0 = @spec_l5Top_L0.b := funext fun α => congrFun (Classical.choose_spec spec_l5Top_L0.ex) α
theorem spec_l5Top_L0.zero {α : Type} (N : Nat) (v378 : List Int) (v379 : Int) (v380 : List Int) (k0 : List Int → Option α) : spec_l5Top_L0 N 0 v378 v379 v380 k0 = none := by rw [spec_l5Top_L0.eq]; rfl
theorem spec_l5Top_L0.succ {α : Type} (N n : Nat) (v378 : List Int) (v379 : Int) (v380 : List Int) (k0 : List Int → Option α) : spec_l5Top_L0 N (n + 1) v378 v379 v380 k0 = spec_l5Top_L0r N (fun y0 y1 y2 => spec_l5Top_L0 N n y0 y1 y2 k0) k0 v378 v379 v380 := by rw [spec_l5Top_L0.eq]; rfl
/-- loop.example/pinfold/spec.l5Top -/
noncomputable def spec_l5Top.b {α : Type} (N : Nat) (a376 : List Int) (a377 : Int) (k0 : List Int → Option α) : Option α :=
  spec_l5Top_L0 N N a376 a377 []
    (fun x387 =>
      k0 x387)
theorem spec_l5Top.ex : ∃ f : ((α : Type) → Nat → List Int → Int → (List Int → Option α) → Option α), f = fun α => @spec_l5Top.b α := ⟨_, rfl⟩
noncomputable def spec_l5Top {α : Type} : Nat → List Int → Int → (List Int → Option α) → Option α := Classical.choose spec_l5Top.ex α
theorem spec_l5Top.eq : @spec_l5Top = @spec_l5Top.b := funext fun α => congrFun (Classical.choose_spec spec_l5Top.ex) α

noncomputable def spec_l5Shl_L0r {α : Type} (N : Nat) (next : List Int → Int → List Int → Option α) (k0 : List Int → Option α) (v404 : List Int) (v405 : Int) (v406 : List Int) : Option α :=
  let x407 := ((v404.length : Nat) : Int)
  let x408 := decide (v405 < x407)
  bif x408 then
    bif (decide (v405 < (0 : Int))) then
      none
    else
      match v404[v405.toNat]? with
      | some x409 =>
        let x410 := [x409]
        bif decide (v406.length + x410.length ≤ 8796093022208) then
          let x411 := v406 ++ x410
          let x412 := (IntKind.i64.wrap (v405 + (1 : Int)))
          next v404 x412 x411
        else
          none
      | none => none
  else
    k0 v406
noncomputable def spec_l5Shl_L0.b {α : Type} (N n : Nat) (v404 : List Int) (v405 : Int) (v406 : List Int) (k0 : List Int → Option α) : Option α :=
  Nat.rec (motive := fun _ => List Int → Int → List Int → Option α) (fun _ _ _ => none) (fun _ next => spec_l5Shl_L0r N next k0) n v404 v405 v406
theorem spec_l5Shl_L0.ex : ∃ f : ((α : Type) → Nat → Nat → List Int → Int → List Int → (List Int → Option α) → Option α), f = fun α => @spec_l5Shl_L0.b α := ⟨_, rfl⟩
noncomputable def spec_l5Shl_L0 {α : Type} : Nat → Nat → List Int → Int → List Int → (List Int → Option α) → Option α := Classical.choose spec_l5Shl_L0.ex α
theorem spec_l5Shl_L0.eq : @spec_l5Shl_L0 = @spec_l5Shl_L0.b := funext fun α => congrFun (Classical.choose_spec spec_l5Shl_L0.ex) α
theorem spec_l5Shl_L0.zero {α : Type} (N : Nat) (v404 : List Int) (v405 : Int) (v406 : List Int) (k0 : List Int → Option α) : spec_l5Shl_L0 N 0 v404 v405 v406 k0 = none := by rw [spec_l5Shl_L0.eq]; rfl
theorem spec_l5Shl_L0.succ {α : Type} (N n : Nat) (v404 : List Int) (v405 : Int) (v406 : List Int) (k0 : List Int → Option α) : spec_l5Shl_L0 N (n + 1) v404 v405 v406 k0 = spec_l5Shl_L0r N (fun y0 y1 y2 => spec_l5Shl_L0 N n y0 y1 y2 k0) k0 v404 v405 v406 := by rw [spec_l5Shl_L0.eq]; rfl
/-- loop.example/pinfold/spec.l5Shl -/
noncomputable def spec_l5Shl.b {α : Type} (N : Nat) (a399 : List Int) (a400 : Int) (k0 : List Int → Option α) : Option α :=
  let x401 := ((a399.length : Nat) : Int)
  let x402 := (decide (x401 = (0 : Int)))
  bif x402 then
    k0 []
  else
    bif (decide ((0 : Int) ≤ a400)) then
      bif decide (a400 ≤ a400) then
        bif (decide (a400 ≤ ((8796093022208 : Nat) : Int))) then
          let x403 := (List.replicate a400.toNat (0 : Int))
          spec_l5Shl_L0 N N a399 (0 : Int) x403
            (fun x413 =>
              k0 x413)
        else
          none
      else
        none
    else
      none
theorem spec_l5Shl.ex : ∃ f : ((α : Type) → Nat → List Int → Int → (List Int → Option α) → Option α), f = fun α => @spec_l5Shl.b α := ⟨_, rfl⟩
noncomputable def spec_l5Shl {α : Type} : Nat → List Int → Int → (List Int → Option α) → Option α := Classical.choose spec_l5Shl.ex α
theorem spec_l5Shl.eq : @spec_l5Shl = @spec_l5Shl.b := funext fun α => congrFun (Classical.choose_spec spec_l5Shl.ex) α

/-- loop.example/pinfold/spec.l5At -/
noncomputable def spec_l5At.b {α : Type} (N : Nat) (a437 : List Int) (a438 : Int) (k0 : Int → Option α) : Option α :=
  let x439 := ((a437.length : Nat) : Int)
  let x440 := decide (a438 < x439)
  bif x440 then
    bif (decide (a438 < (0 : Int))) then
      none
    else
      match a437[a438.toNat]? with
      | some x441 =>
        k0 x441
      | none => none
  else
    k0 (0 : Int)
theorem spec_l5At.ex : ∃ f : ((α : Type) → Nat → List Int → Int → (Int → Option α) → Option α), f = fun α => @spec_l5At.b α := ⟨_, rfl⟩
noncomputable def spec_l5At {α : Type} : Nat → List Int → Int → (Int → Option α) → Option α := Classical.choose spec_l5At.ex α
theorem spec_l5At.eq : @spec_l5At = @spec_l5At.b := funext fun α => congrFun (Classical.choose_spec spec_l5At.ex) α

noncomputable def spec_l5Add_J2.b {α : Type} (N : Nat) (v421 : List Int) (v422 : List Int) (v423 : Int) (k0 : List Int → List Int → Int → Option α) : Option α :=
  let x424 := ((v422.length : Nat) : Int)
  let x425 := decide (v423 < x424)
  bif x425 then
    let x426 := ((v422.length : Nat) : Int)
    k0 v421 v422 x426
  else
    k0 v421 v422 v423
theorem spec_l5Add_J2.ex : ∃ f : ((α : Type) → Nat → List Int → List Int → Int → (List Int → List Int → Int → Option α) → Option α), f = fun α => @spec_l5Add_J2.b α := ⟨_, rfl⟩
noncomputable def spec_l5Add_J2 {α : Type} : Nat → List Int → List Int → Int → (List Int → List Int → Int → Option α) → Option α := Classical.choose spec_l5Add_J2.ex α
theorem spec_l5Add_J2.eq : @spec_l5Add_J2 = @spec_l5Add_J2.b := funext fun α => congrFun (Classical.choose_spec spec_l5Add_J2.ex) α
noncomputable def spec_l5Add_L0r {α : Type} (N : Nat) (next : List Int → List Int → Int → Int → Int → List Int → Option α) (k0 : Int → List Int → Option α) (v430 : List Int) (v431 : List Int) (v432 : Int) (v433 : Int) (v434 : Int) (v435 : List Int) : Option α :=
  let x436 := decide (v434 < v432)
  bif x436 then
    spec_l5At N v430 v434
      (fun x442 =>
        spec_l5At N v431 v434
          (fun x443 =>
            let x444 := IntKind.i64.wrap (x442 + x443)
            let x445 := IntKind.i64.wrap (x444 + v433)
            let x446 := (Int.tmod x445 (65536 : Int))
            let x447 := [x446]
            bif decide (v435.length + x447.length ≤ 8796093022208) then
              let x448 := v435 ++ x447
              let x449 := (IntKind.i64.wrap (Int.tdiv x445 (65536 : Int)))
              let x450 := (IntKind.i64.wrap (v434 + (1 : Int)))
              next v430 v431 v432 x449 x450 x448
            else
              none))
  else
    k0 v433 v435
noncomputable def spec_l5Add_L0.b {α : Type} (N n : Nat) (v430 : List Int) (v431 : List Int) (v432 : Int) (v433 : Int) (v434 : Int) (v435 : List Int) (k0 : Int → List Int → Option α) : Option α :=
  Nat.rec (motive := fun _ => List Int → List Int → Int → Int → Int → List Int → Option α) (fun _ _ _ _ _ _ => none) (fun _ next => spec_l5Add_L0r N next k0) n v430 v431 v432 v433 v434 v435
theorem spec_l5Add_L0.ex : ∃ f : ((α : Type) → Nat → Nat → List Int → List Int → Int → Int → Int → List Int → (Int → List Int → Option α) → Option α), f = fun α => @spec_l5Add_L0.b α := ⟨_, rfl⟩
noncomputable def spec_l5Add_L0 {α : Type} : Nat → Nat → List Int → List Int → Int → Int → Int → List Int → (Int → List Int → Option α) → Option α := Classical.choose spec_l5Add_L0.ex α
theorem spec_l5Add_L0.eq : @spec_l5Add_L0 = @spec_l5Add_L0.b := funext fun α => congrFun (Classical.choose_spec spec_l5Add_L0.ex) α
theorem spec_l5Add_L0.zero {α : Type} (N : Nat) (v430 : List Int) (v431 : List Int) (v432 : Int) (v433 : Int) (v434 : Int) (v435 : List Int) (k0 : Int → List Int → Option α) : spec_l5Add_L0 N 0 v430 v431 v432 v433 v434 v435 k0 = none := by rw [spec_l5Add_L0.eq]; rfl
theorem spec_l5Add_L0.succ {α : Type} (N n : Nat) (v430 : List Int) (v431 : List Int) (v432 : Int) (v433 : Int) (v434 : Int) (v435 : List Int) (k0 : Int → List Int → Option α) : spec_l5Add_L0 N (n + 1) v430 v431 v432 v433 v434 v435 k0 = spec_l5Add_L0r N (fun y0 y1 y2 y3 y4 y5 => spec_l5Add_L0 N n y0 y1 y2 y3 y4 y5 k0) k0 v430 v431 v432 v433 v434 v435 := by rw [spec_l5Add_L0.eq]; rfl
noncomputable def spec_l5Add_J12.b {α : Type} (N : Nat) (v453 : Int) (v454 : List Int) (k0 : List Int → Option α) : Option α :=
  let x455 := (decide ((0 : Int) < v453))
  bif x455 then
    let x456 := [v453]
    bif decide (v454.length + x456.length ≤ 8796093022208) then
      let x457 := v454 ++ x456
      k0 x457
    else
      none
  else
    k0 v454
theorem spec_l5Add_J12.ex : ∃ f : ((α : Type) → Nat → Int → List Int → (List Int → Option α) → Option α), f = fun α => @spec_l5Add_J12.b α := ⟨_, rfl⟩
noncomputable def spec_l5Add_J12 {α : Type} : Nat → Int → List Int → (List Int → Option α) → Option α := Classical.choose spec_l5Add_J12.ex α
theorem spec_l5Add_J12.eq : @spec_l5Add_J12 = @spec_l5Add_J12.b := funext fun α => congrFun (Classical.choose_spec spec_l5Add_J12.ex) α
/-- loop.example/pinfold/spec.l5Add -/
noncomputable def spec_l5Add.b {α : Type} (N : Nat) (a418 : List Int) (a419 : List Int) (k0 : List Int → Option α) : Option α :=
  let x420 := ((a418.length : Nat) : Int)
  spec_l5Add_J2 N a418 a419 x420
    (fun x427 x428 x429 =>
      spec_l5Add_L0 N N x427 x428 x429 (0 : Int) (0 : Int) []
        (fun x451 x452 =>
          spec_l5Add_J12 N x451 x452
            (fun x458 =>
              k0 x458)))
theorem spec_l5Add.ex : ∃ f : ((α : Type) → Nat → List Int → List Int → (List Int → Option α) → Option α), f = fun α => @spec_l5Add.b α := ⟨_, rfl⟩
noncomputable def spec_l5Add {α : Type} : Nat → List Int → List Int → (List Int → Option α) → Option α := Classical.choose spec_l5Add.ex α
theorem spec_l5Add.eq : @spec_l5Add = @spec_l5Add.b := funext fun α => congrFun (Classical.choose_spec spec_l5Add.ex) α

noncomputable def spec_l5Sub_J8.b {α : Type} (N : Nat) (v511 : List Int) (v512 : List Int) (v513 : Int) (v514 : Int) (v515 : Int) (v516 : List Int) (k0 : List Int → List Int → Int → Int → Int → List Int → Option α) : Option α :=
  let x517 := (decide (v515 < (0 : Int)))
  bif x517 then
    let x518 := (IntKind.i64.wrap (v515 + (65536 : Int)))
    k0 v511 v512 (1 : Int) v514 x518 v516
  else
    k0 v511 v512 v513 v514 v515 v516
theorem spec_l5Sub_J8.ex : ∃ f : ((α : Type) → Nat → List Int → List Int → Int → Int → Int → List Int → (List Int → List Int → Int → Int → Int → List Int → Option α) → Option α), f = fun α => @spec_l5Sub_J8.b α := ⟨_, rfl⟩
noncomputable def spec_l5Sub_J8 {α : Type} : Nat → List Int → List Int → Int → Int → Int → List Int → (List Int → List Int → Int → Int → Int → List Int → Option α) → Option α := Classical.choose spec_l5Sub_J8.ex α
theorem spec_l5Sub_J8.eq : @spec_l5Sub_J8 = @spec_l5Sub_J8.b := funext fun α => congrFun (Classical.choose_spec spec_l5Sub_J8.ex) α
noncomputable def spec_l5Sub_L0r {α : Type} (N : Nat) (next : List Int → List Int → Int → Int → List Int → Option α) (k0 : List Int → Option α) (v500 : List Int) (v501 : List Int) (v502 : Int) (v503 : Int) (v504 : List Int) : Option α :=
  let x505 := ((v500.length : Nat) : Int)
  let x506 := decide (v503 < x505)
  bif x506 then
    bif (decide (v503 < (0 : Int))) then
      none
    else
      match v500[v503.toNat]? with
      | some x507 =>
        spec_l5At N v501 v503
          (fun x508 =>
            let x509 := IntKind.i64.wrap (x507 - x508)
            let x510 := IntKind.i64.wrap (x509 - v502)
            spec_l5Sub_J8 N v500 v501 (0 : Int) v503 x510 v504
              (fun x519 x520 x521 x522 x523 x524 =>
                let x525 := [x523]
                bif decide (x524.length + x525.length ≤ 8796093022208) then
                  let x526 := x524 ++ x525
                  let x527 := (IntKind.i64.wrap (x522 + (1 : Int)))
                  next x519 x520 x521 x527 x526
                else
                  none))
      | none => none
  else
    k0 v504
noncomputable def spec_l5Sub_L0.b {α : Type} (N n : Nat) (v500 : List Int) (v501 : List Int) (v502 : Int) (v503 : Int) (v504 : List Int) (k0 : List Int → Option α) : Option α :=
  Nat.rec (motive := fun _ => List Int → List Int → Int → Int → List Int → Option α) (fun _ _ _ _ _ => none) (fun _ next => spec_l5Sub_L0r N next k0) n v500 v501 v502 v503 v504
theorem spec_l5Sub_L0.ex : ∃ f : ((α : Type) → Nat → Nat → List Int → List Int → Int → Int → List Int → (List Int → Option α) → Option α), f = fun α => @spec_l5Sub_L0.b α := ⟨_, rfl⟩
noncomputable def spec_l5Sub_L0 {α : Type} : Nat → Nat → List Int → List Int → Int → Int → List Int → (List Int → Option α) → Option α := Classical.choose spec_l5Sub_L0.ex α
theorem spec_l5Sub_L0.eq : @spec_l5Sub_L0 = @spec_l5Sub_L0.b := funext fun α => congrFun (Classical.choose_spec spec_l5Sub_L0.ex) α
theorem spec_l5Sub_L0.zero {α : Type} (N : Nat) (v500 : List Int) (v501 : List Int) (v502 : Int) (v503 : Int) (v504 : List Int) (k0 : List Int → Option α) : spec_l5Sub_L0 N 0 v500 v501 v502 v503 v504 k0 = none := by rw [spec_l5Sub_L0.eq]; rfl
theorem spec_l5Sub_L0.succ {α : Type} (N n : Nat) (v500 : List Int) (v501 : List Int) (v502 : Int) (v503 : Int) (v504 : List Int) (k0 : List Int → Option α) : spec_l5Sub_L0 N (n + 1) v500 v501 v502 v503 v504 k0 = spec_l5Sub_L0r N (fun y0 y1 y2 y3 y4 => spec_l5Sub_L0 N n y0 y1 y2 y3 y4 k0) k0 v500 v501 v502 v503 v504 := by rw [spec_l5Sub_L0.eq]; rfl
/-- loop.example/pinfold/spec.l5Sub -/
noncomputable def spec_l5Sub.b {α : Type} (N : Nat) (a498 : List Int) (a499 : List Int) (k0 : List Int → Option α) : Option α :=
  spec_l5Sub_L0 N N a498 a499 (0 : Int) (0 : Int) []
    (fun x528 =>
      spec_l5Trim N x528
        (fun x529 =>
          k0 x529))
theorem spec_l5Sub.ex : ∃ f : ((α : Type) → Nat → List Int → List Int → (List Int → Option α) → Option α), f = fun α => @spec_l5Sub.b α := ⟨_, rfl⟩
noncomputable def spec_l5Sub {α : Type} : Nat → List Int → List Int → (List Int → Option α) → Option α := Classical.choose spec_l5Sub.ex α
theorem spec_l5Sub.eq : @spec_l5Sub = @spec_l5Sub.b := funext fun α => congrFun (Classical.choose_spec spec_l5Sub.ex) α

noncomputable def spec_l5Div_J17.b {α : Type} (N : Nat) (v469 : Int) (v470 : Int) (v471 : Int) (v472 : Int) (v473 : List Int) (v474 : List Int) (v475 : List Int) (v476 : List Int) (k0 : Int → Int → Int → Int → List Int → List Int → List Int → List Int → Option α) : Option α :=
  let x477 := (decide ((65536 : Int) ≤ v472))
  bif x477 then
    k0 v469 v470 v471 (65535 : Int) v473 v474 v475 v476
  else
    k0 v469 v470 v471 v472 v473 v474 v475 v476
theorem spec_l5Div_J17.ex : ∃ f : ((α : Type) → Nat → Int → Int → Int → Int → List Int → List Int → List Int → List Int → (Int → Int → Int → Int → List Int → List Int → List Int → List Int → Option α) → Option α), f = fun α => @spec_l5Div_J17.b α := ⟨_, rfl⟩
noncomputable def spec_l5Div_J17 {α : Type} : Nat → Int → Int → Int → Int → List Int → List Int → List Int → List Int → (Int → Int → Int → Int → List Int → List Int → List Int → List Int → Option α) → Option α := Classical.choose spec_l5Div_J17.ex α
theorem spec_l5Div_J17.eq : @spec_l5Div_J17 = @spec_l5Div_J17.b := funext fun α => congrFun (Classical.choose_spec spec_l5Div_J17.ex) α
noncomputable def spec_l5Div_L2r {α : Type} (N : Nat) (next : Int → Int → Int → Int → List Int → List Int → List Int → List Int → List Int → Option α) (k0 : Int → Int → Int → Int → List Int → List Int → List Int → List Int → List Int → Option α) (v487 : Int) (v488 : Int) (v489 : Int) (v490 : Int) (v491 : List Int) (v492 : List Int) (v493 : List Int) (v494 : List Int) (v495 : List Int) : Option α :=
  spec_l5Cmp N v495 v494
    (fun x496 =>
      let x497 := (decide ((0 : Int) < x496))
      bif x497 then
        spec_l5Sub N v495 v492
          (fun x530 =>
            let x531 := (IntKind.i64.wrap (v490 - (1 : Int)))
            next v487 v488 v489 x531 v491 v492 v493 v494 x530)
      else
        k0 v487 v488 v489 v490 v491 v492 v493 v494 v495)
noncomputable def spec_l5Div_L2.b {α : Type} (N n : Nat) (v487 : Int) (v488 : Int) (v489 : Int) (v490 : Int) (v491 : List Int) (v492 : List Int) (v493 : List Int) (v494 : List Int) (v495 : List Int) (k0 : Int → Int → Int → Int → List Int → List Int → List Int → List Int → List Int → Option α) : Option α :=
  Nat.rec (motive := fun _ => Int → Int → Int → Int → List Int → List Int → List Int → List Int → List Int → Option α) (fun _ _ _ _ _ _ _ _ _ => none) (fun _ next => spec_l5Div_L2r N next k0) n v487 v488 v489 v490 v491 v492 v493 v494 v495
theorem spec_l5Div_L2.ex : ∃ f : ((α : Type) → Nat → Nat → Int → Int → Int → Int → List Int → List Int → List Int → List Int → List Int → (Int → Int → Int → Int → List Int → List Int → List Int → List Int → List Int → Option α) → Option α), f = fun α => @spec_l5Div_L2.b α := ⟨_, rfl⟩
noncomputable def spec_l5Div_L2 {α : Type} : Nat → Nat → Int → Int → Int → Int → List Int → List Int → List Int → List Int → List Int → (Int → Int → Int → Int → List Int → List Int → List Int → List Int → List Int → Option α) → Option α := Classical.choose spec_l5Div_L2.ex α
theorem spec_l5Div_L2.eq : @spec_l5Div_L2 = @spec_l5Div_L2.b := funext fun α => congrFun (Classical.choose_spec spec_l5Div_L2.ex) α
theorem spec_l5Div_L2.zero {α : Type} (N : Nat) (v487 : Int) (v488 : Int) (v489 : Int) (v490 : Int) (v491 : List Int) (v492 : List Int) (v493 : List Int) (v494 : List Int) (v495 : List Int) (k0 : Int → Int → Int → Int → List Int → List Int → List Int → List Int → List Int → Option α) : spec_l5Div_L2 N 0 v487 v488 v489 v490 v491 v492 v493 v494 v495 k0 = none := by rw [spec_l5Div_L2.eq]; rfl
theorem spec_l5Div_L2.succ {α : Type} (N n : Nat) (v487 : Int) (v488 : Int) (v489 : Int) (v490 : Int) (v491 : List Int) (v492 : List Int) (v493 : List Int) (v494 : List Int) (v495 : List Int) (k0 : Int → Int → Int → Int → List Int → List Int → List Int → List Int → List Int → Option α) : spec_l5Div_L2 N (n + 1) v487 v488 v489 v490 v491 v492 v493 v494 v495 k0 = spec_l5Div_L2r N (fun y0 y1 y2 y3 y4 y5 y6 y7 y8 => spec_l5Div_L2 N n y0 y1 y2 y3 y4 y5 y6 y7 y8 k0) k0 v487 v488 v489 v490 v491 v492 v493 v494 v495 := by rw [spec_l5Div_L2.eq]; rfl
noncomputable def spec_l5Div_L0r {α : Type} (N : Nat) (next : Int → Int → Int → List Int → List Int → List Int → List Int → Option α) (k0 : Int → List Int → List Int → Option α) (v391 : Int) (v392 : Int) (v393 : Int) (v394 : List Int) (v395 : List Int) (v396 : List Int) (v397 : List Int) : Option α :=
  let x398 := (decide ((0 : Int) ≤ v393))
  bif x398 then
    spec_l5Shl N v397 (1 : Int)
      (fun x414 =>
        bif (decide (v393 < (0 : Int))) then
          none
        else
          bif decide (v393.toNat < v394.length) then
            match v394[v393.toNat]? with
            | some x415 =>
              let x416 := IntKind.u64.wrap x415
              spec_NatOf N x416
                (fun x417 =>
                  spec_l5Add N x414 x417
                    (fun x459 =>
                      spec_l5Trim N x459
                        (fun x460 =>
                          spec_l5At N x460 v392
                            (fun x461 =>
                              let x462 := (IntKind.i64.wrap (x461 * (65536 : Int)))
                              let x463 := (IntKind.i64.wrap (v392 - (1 : Int)))
                              spec_l5At N x460 x463
                                (fun x464 =>
                                  let x465 := IntKind.i64.wrap (x462 + x464)
                                  let x466 := (IntKind.i64.wrap (v392 - (1 : Int)))
                                  bif (decide (x466 < (0 : Int))) then
                                    none
                                  else
                                    bif decide (x466.toNat < v395.length) then
                                      match v395[x466.toNat]? with
                                      | some x467 =>
                                        bif (decide (x467 = (0 : Int))) then
                                          none
                                        else
                                          let x468 := IntKind.i64.wrap (Int.tdiv x465 x467)
                                          spec_l5Div_J17 N v391 v392 v393 x468 v394 v395 v396 x460
                                            (fun x478 x479 x480 x481 x482 x483 x484 x485 =>
                                              spec_l5Times N x483 x481
                                                (fun x486 =>
                                                  spec_l5Div_L2 N N x478 x479 x480 x481 x482 x483 x484 x485 x486
                                                    (fun x532 x533 x534 x535 x536 x537 x538 x539 x540 =>
                                                      bif (decide (x534 < (0 : Int))) then
                                                        none
                                                      else
                                                        bif decide (x534.toNat < x538.length) then
                                                          match x538[x534.toNat]? with
                                                          | some x541 =>
                                                            let x542 := x538.set x534.toNat x535
                                                            spec_l5Sub N x539 x540
                                                              (fun x543 =>
                                                                let x544 := (IntKind.i64.wrap (x534 - (1 : Int)))
                                                                next x532 x533 x544 x536 x537 x542 x543)
                                                          | none => none
                                                        else
                                                          none)))
                                      | none => none
                                    else
                                      none)))))
            | none => none
          else
            none)
  else
    k0 v391 v396 v397
noncomputable def spec_l5Div_L0.b {α : Type} (N n : Nat) (v391 : Int) (v392 : Int) (v393 : Int) (v394 : List Int) (v395 : List Int) (v396 : List Int) (v397 : List Int) (k0 : Int → List Int → List Int → Option α) : Option α :=
  Nat.rec (motive := fun _ => Int → Int → Int → List Int → List Int → List Int → List Int → Option α) (fun _ _ _ _ _ _ _ => none) (fun _ next => spec_l5Div_L0r N next k0) n v391 v392 v393 v394 v395 v396 v397
theorem spec_l5Div_L0.ex : ∃ f : ((α : Type) → Nat → Nat → Int → Int → Int → List Int → List Int → List Int → List Int → (Int → List Int → List Int → Option α) → Option α), f = fun α => @spec_l5Div_L0.b α := ⟨_, rfl⟩
noncomputable def spec_l5Div_L0 {α : Type} : Nat → Nat → Int → Int → Int → List Int → List Int → List Int → List Int → (Int → List Int → List Int → Option α) → Option α := Classical.choose spec_l5Div_L0.ex α
theorem spec_l5Div_L0.eq : @spec_l5Div_L0 = @spec_l5Div_L0.b := funext fun α => congrFun (Classical.choose_spec spec_l5Div_L0.ex) α
theorem spec_l5Div_L0.zero {α : Type} (N : Nat) (v391 : Int) (v392 : Int) (v393 : Int) (v394 : List Int) (v395 : List Int) (v396 : List Int) (v397 : List Int) (k0 : Int → List Int → List Int → Option α) : spec_l5Div_L0 N 0 v391 v392 v393 v394 v395 v396 v397 k0 = none := by rw [spec_l5Div_L0.eq]; rfl
theorem spec_l5Div_L0.succ {α : Type} (N n : Nat) (v391 : Int) (v392 : Int) (v393 : Int) (v394 : List Int) (v395 : List Int) (v396 : List Int) (v397 : List Int) (k0 : Int → List Int → List Int → Option α) : spec_l5Div_L0 N (n + 1) v391 v392 v393 v394 v395 v396 v397 k0 = spec_l5Div_L0r N (fun y0 y1 y2 y3 y4 y5 y6 => spec_l5Div_L0 N n y0 y1 y2 y3 y4 y5 y6 k0) k0 v391 v392 v393 v394 v395 v396 v397 := by rw [spec_l5Div_L0.eq]; rfl
/-- loop.example/pinfold/spec.l5Div -/
noncomputable def spec_l5Div.b {α : Type} (N : Nat) (a254 : List Int) (a255 : List Int) (k0 : List Int → List Int → Option α) : Option α :=
  spec_l5Cmp N a254 a255
    (fun x278 =>
      let x279 := (decide (x278 < (0 : Int)))
      bif x279 then
        spec_l5Trim N a254
          (fun x280 =>
            k0 [] x280)
      else
        let x281 := ((a255.length : Nat) : Int)
        let x282 := (decide (x281 = (1 : Int)))
        bif x282 then
          match a255[0]? with
          | some x283 =>
            spec_l5DivSmall N a254 x283
              (fun x307 x308 =>
                let x309 := IntKind.u64.wrap x307
                spec_NatOf N x309
                  (fun x310 =>
                    k0 x308 x310))
          | none => none
        else
          let x311 := ((a255.length : Nat) : Int)
          let x312 := (IntKind.i64.wrap (x311 - (1 : Int)))
          bif (decide (x312 < (0 : Int))) then
            none
          else
            match a255[x312.toNat]? with
            | some x313 =>
              let x314 := (IntKind.i64.wrap (x313 + (1 : Int)))
              bif (decide (x314 = (0 : Int))) then
                none
              else
                let x315 := (IntKind.i64.wrap (Int.tdiv (65536 : Int) x314))
                spec_l5Times N a254 x315
                  (fun x366 =>
                    spec_l5Times N a255 x315
                      (fun x367 =>
                        let x368 := ((x367.length : Nat) : Int)
                        let x369 := ((x366.length : Nat) : Int)
                        let x370 := IntKind.i64.wrap (x369 - x368)
                        let x371 := (IntKind.i64.wrap (x370 + (1 : Int)))
                        bif (decide ((0 : Int) ≤ x371)) then
                          bif decide (x371 ≤ x371) then
                            bif (decide (x371 ≤ ((8796093022208 : Nat) : Int))) then
                              let x372 := (List.replicate x371.toNat (0 : Int))
                              let x373 := ((x366.length : Nat) : Int)
                              let x374 := IntKind.i64.wrap (x373 - x368)
                              let x375 := (IntKind.i64.wrap (x374 + (1 : Int)))
                              spec_l5Top N x366 x375
                                (fun x388 =>
                                  let x389 := ((x366.length : Nat) : Int)
                                  let x390 := IntKind.i64.wrap (x389 - x368)
                                  spec_l5Div_L0 N N x315 x368 x390 x366 x367 x372 x388
                                    (fun x545 x546 x547 =>
                                      spec_l5DivSmall N x547 x545
                                        (fun _ x549 =>
                                          spec_l5Trim N x546
                                            (fun x550 =>
                                              k0 x550 x549))))
                            else
                              none
                          else
                            none
                        else
                          none))
            | none => none)
theorem spec_l5Div.ex : ∃ f : ((α : Type) → Nat → List Int → List Int → (List Int → List Int → Option α) → Option α), f = fun α => @spec_l5Div.b α := ⟨_, rfl⟩
noncomputable def spec_l5Div {α : Type} : Nat → List Int → List Int → (List Int → List Int → Option α) → Option α := Classical.choose spec_l5Div.ex α
theorem spec_l5Div.eq : @spec_l5Div = @spec_l5Div.b := funext fun α => congrFun (Classical.choose_spec spec_l5Div.ex) α

noncomputable def spec_l5Gcd_L0r {α : Type} (N : Nat) (next : List Int → List Int → Option α) (k0 : List Int → Option α) (v250 : List Int) (v251 : List Int) : Option α :=
  let x252 := ((v251.length : Nat) : Int)
  let x253 := (decide ((0 : Int) < x252))
  bif x253 then
    spec_l5Div N v250 v251
      (fun _ x552 =>
        next v251 x552)
  else
    k0 v250
noncomputable def spec_l5Gcd_L0.b {α : Type} (N n : Nat) (v250 : List Int) (v251 : List Int) (k0 : List Int → Option α) : Option α :=
  Nat.rec (motive := fun _ => List Int → List Int → Option α) (fun _ _ => none) (fun _ next => spec_l5Gcd_L0r N next k0) n v250 v251
theorem spec_l5Gcd_L0.ex : ∃ f : ((α : Type) → Nat → Nat → List Int → List Int → (List Int → Option α) → Option α), f = fun α => @spec_l5Gcd_L0.b α := ⟨_, rfl⟩
noncomputable def spec_l5Gcd_L0 {α : Type} : Nat → Nat → List Int → List Int → (List Int → Option α) → Option α := Classical.choose spec_l5Gcd_L0.ex α
theorem spec_l5Gcd_L0.eq : @spec_l5Gcd_L0 = @spec_l5Gcd_L0.b := funext fun α => congrFun (Classical.choose_spec spec_l5Gcd_L0.ex) α
theorem spec_l5Gcd_L0.zero {α : Type} (N : Nat) (v250 : List Int) (v251 : List Int) (k0 : List Int → Option α) : spec_l5Gcd_L0 N 0 v250 v251 k0 = none := by rw [spec_l5Gcd_L0.eq]; rfl
theorem spec_l5Gcd_L0.succ {α : Type} (N n : Nat) (v250 : List Int) (v251 : List Int) (k0 : List Int → Option α) : spec_l5Gcd_L0 N (n + 1) v250 v251 k0 = spec_l5Gcd_L0r N (fun y0 y1 => spec_l5Gcd_L0 N n y0 y1 k0) k0 v250 v251 := by rw [spec_l5Gcd_L0.eq]; rfl
/-- loop.example/pinfold/spec.l5Gcd -/
noncomputable def spec_l5Gcd.b {α : Type} (N : Nat) (a225 : List Int) (a226 : List Int) (k0 : List Int → Option α) : Option α :=
  spec_l5Trim N a225
    (fun x248 =>
      spec_l5Trim N a226
        (fun x249 =>
          spec_l5Gcd_L0 N N x248 x249
            (fun x553 =>
              k0 x553)))
theorem spec_l5Gcd.ex : ∃ f : ((α : Type) → Nat → List Int → List Int → (List Int → Option α) → Option α), f = fun α => @spec_l5Gcd.b α := ⟨_, rfl⟩
noncomputable def spec_l5Gcd {α : Type} : Nat → List Int → List Int → (List Int → Option α) → Option α := Classical.choose spec_l5Gcd.ex α
theorem spec_l5Gcd.eq : @spec_l5Gcd = @spec_l5Gcd.b := funext fun α => congrFun (Classical.choose_spec spec_l5Gcd.ex) α

/-- loop.example/pinfold/spec.l6Make -/
noncomputable def spec_l6Make.b {α : Type} (N : Nat) (a219 : Bool) (a220 : List Int) (a221 : List Int) (k0 : Bool → Bool → List Int → List Int → Option α) : Option α :=
  let x222 := ((a220.length : Nat) : Int)
  let x223 := (decide (x222 = (0 : Int)))
  bif x223 then
    let x224 := [(1 : Int)]
    k0 false true [] x224
  else
    spec_l5Gcd N a220 a221
      (fun x554 =>
        spec_l5Div N a220 x554
          (fun x555 _ =>
            spec_l5Div N a221 x554
              (fun x557 _ =>
                let x559 := ((x555.length : Nat) : Int)
                let x560 := (decide ((256 : Int) < x559))
                bif x560 then
                  k0 false false [] []
                else
                  let x561 := ((x557.length : Nat) : Int)
                  let x562 := (decide ((256 : Int) < x561))
                  bif x562 then
                    k0 false false [] []
                  else
                    k0 a219 true x555 x557)))
theorem spec_l6Make.ex : ∃ f : ((α : Type) → Nat → Bool → List Int → List Int → (Bool → Bool → List Int → List Int → Option α) → Option α), f = fun α => @spec_l6Make.b α := ⟨_, rfl⟩
noncomputable def spec_l6Make {α : Type} : Nat → Bool → List Int → List Int → (Bool → Bool → List Int → List Int → Option α) → Option α := Classical.choose spec_l6Make.ex α
theorem spec_l6Make.eq : @spec_l6Make = @spec_l6Make.b := funext fun α => congrFun (Classical.choose_spec spec_l6Make.ex) α

/-- loop.example/pinfold/spec.FracOf -/
noncomputable def spec_FracOf.b {α : Type} (N : Nat) (a190 : Bool) (a191 : List Int) (a192 : List Int) (k0 : Bool → Bool → List Int → List Int → Option α) : Option α :=
  spec_NatOk N a191
    (fun x213 =>
      let x214 := !x213
      bif x214 then
        k0 false false [] []
      else
        spec_NatOk N a192
          (fun x215 =>
            let x216 := !x215
            bif x216 then
              k0 false false [] []
            else
              let x217 := ((a192.length : Nat) : Int)
              let x218 := (decide (x217 = (0 : Int)))
              bif x218 then
                k0 false false [] []
              else
                spec_l6Make N a190 a191 a192
                  (fun x563 x564 x565 x566 =>
                    k0 x563 x564 x565 x566)))
theorem spec_FracOf.ex : ∃ f : ((α : Type) → Nat → Bool → List Int → List Int → (Bool → Bool → List Int → List Int → Option α) → Option α), f = fun α => @spec_FracOf.b α := ⟨_, rfl⟩
noncomputable def spec_FracOf {α : Type} : Nat → Bool → List Int → List Int → (Bool → Bool → List Int → List Int → Option α) → Option α := Classical.choose spec_FracOf.ex α
theorem spec_FracOf.eq : @spec_FracOf = @spec_FracOf.b := funext fun α => congrFun (Classical.choose_spec spec_FracOf.ex) α

noncomputable def spec_FracInt_J2.b {α : Type} (N : Nat) (v578 : Int) (v579 : Bool) (v580 : Bool) (v581 : List Int) (v582 : List Int) (v583 : List Int) (v584 : List Int) (k0 : Bool → Bool → List Int → List Int → List Int → List Int → Option α) : Option α :=
  let x585 := (decide (v578 < (0 : Int)))
  bif x585 then
    let x586 := IntKind.u64.wrap v578
    let x587 := IntKind.u64.wrap (0 - x586)
    spec_NatOf N x587
      (fun x588 =>
        k0 v579 v580 v581 v582 x588 v584)
  else
    let x589 := IntKind.u64.wrap v578
    spec_NatOf N x589
      (fun x590 =>
        k0 v579 v580 v581 v582 x590 v584)
theorem spec_FracInt_J2.ex : ∃ f : ((α : Type) → Nat → Int → Bool → Bool → List Int → List Int → List Int → List Int → (Bool → Bool → List Int → List Int → List Int → List Int → Option α) → Option α), f = fun α => @spec_FracInt_J2.b α := ⟨_, rfl⟩
noncomputable def spec_FracInt_J2 {α : Type} : Nat → Int → Bool → Bool → List Int → List Int → List Int → List Int → (Bool → Bool → List Int → List Int → List Int → List Int → Option α) → Option α := Classical.choose spec_FracInt_J2.ex α
theorem spec_FracInt_J2.eq : @spec_FracInt_J2 = @spec_FracInt_J2.b := funext fun α => congrFun (Classical.choose_spec spec_FracInt_J2.ex) α
/-- loop.example/pinfold/spec.FracInt -/
noncomputable def spec_FracInt.b {α : Type} (N : Nat) (a575 : Int) (k0 : Bool → List Int → List Int → Option α) : Option α :=
  let x576 := (decide (a575 < (0 : Int)))
  let x577 := [(1 : Int)]
  spec_FracInt_J2 N a575 false x576 [] [] [] x577
    (fun _ x592 _ _ x595 x596 =>
      k0 x592 x595 x596)
theorem spec_FracInt.ex : ∃ f : ((α : Type) → Nat → Int → (Bool → List Int → List Int → Option α) → Option α), f = fun α => @spec_FracInt.b α := ⟨_, rfl⟩
noncomputable def spec_FracInt {α : Type} : Nat → Int → (Bool → List Int → List Int → Option α) → Option α := Classical.choose spec_FracInt.ex α
theorem spec_FracInt.eq : @spec_FracInt = @spec_FracInt.b := funext fun α => congrFun (Classical.choose_spec spec_FracInt.ex) α

noncomputable def spec_l32Rd_good_J2.b {α : Type} (N : Nat) (v162 : (List Int) × Int × Unit) (v163 : Bool) (v164 : List Int) (v165 : List Int) (v166 : List Int) (k0 : ((List Int) × Int × Unit) → Bool → List Int → List Int → List Int → Option α) : Option α :=
  let x167 := ((v164.length : Nat) : Int)
  let x168 := (decide (x167 = (0 : Int)))
  bif x168 then
    spec_l32Rd_pick N (9 : Int) v162
      (fun x169 x170 =>
        let x171 := (IntKind.i64.wrap ((1 : Int) + x169))
        let x172 := [x171]
        k0 x170 v163 x172 v165 v166)
  else
    spec_l32Rd_pick N (3 : Int) v162
      (fun x173 x174 =>
        let x175 := (decide (x173 = (0 : Int)))
        bif x175 then
          spec_l32Rd_pick N (9 : Int) x174
            (fun x176 x177 =>
              let x178 := (IntKind.i64.wrap ((1 : Int) + x176))
              let x179 := [x178]
              k0 x177 v163 x179 v165 v166)
        else
          k0 x174 v163 v164 v165 v166)
theorem spec_l32Rd_good_J2.ex : ∃ f : ((α : Type) → Nat → ((List Int) × Int × Unit) → Bool → List Int → List Int → List Int → (((List Int) × Int × Unit) → Bool → List Int → List Int → List Int → Option α) → Option α), f = fun α => @spec_l32Rd_good_J2.b α := ⟨_, rfl⟩
noncomputable def spec_l32Rd_good_J2 {α : Type} : Nat → ((List Int) × Int × Unit) → Bool → List Int → List Int → List Int → (((List Int) × Int × Unit) → Bool → List Int → List Int → List Int → Option α) → Option α := Classical.choose spec_l32Rd_good_J2.ex α
theorem spec_l32Rd_good_J2.eq : @spec_l32Rd_good_J2 = @spec_l32Rd_good_J2.b := funext fun α => congrFun (Classical.choose_spec spec_l32Rd_good_J2.ex) α
/-- (*loop.example/pinfold/spec.l32Rd).good -/
noncomputable def spec_l32Rd_good.b {α : Type} (N : Nat) (a15 : (List Int) × Int × Unit) (k0 : Bool → ((List Int) × Int × Unit) → List Int → List Int → Option α) : Option α :=
  spec_l32Rd_nat N a15
    (fun x160 x161 =>
      spec_l32Rd_good_J2 N x160 false x161 [] []
        (fun x180 _ x182 _ _ =>
          spec_l32Rd_pick N (2 : Int) x180
            (fun x185 x186 =>
              let x187 := (decide (x185 = (0 : Int)))
              spec_l32Rd_nat N x186
                (fun x188 x189 =>
                  spec_FracOf N x187 x189 x182
                    (fun x567 x568 x569 x570 =>
                      let x571 := !x568
                      bif x571 then
                        spec_l32Rd_pick N (9 : Int) x188
                          (fun x572 x573 =>
                            let x574 := (IntKind.i64.wrap (x572 - (4 : Int)))
                            spec_FracInt N x574
                              (fun x597 x598 x599 =>
                                k0 x597 x573 x598 x599))
                      else
                        k0 x567 x188 x569 x570)))))
theorem spec_l32Rd_good.ex : ∃ f : ((α : Type) → Nat → ((List Int) × Int × Unit) → (Bool → ((List Int) × Int × Unit) → List Int → List Int → Option α) → Option α), f = fun α => @spec_l32Rd_good.b α := ⟨_, rfl⟩
noncomputable def spec_l32Rd_good {α : Type} : Nat → ((List Int) × Int × Unit) → (Bool → ((List Int) × Int × Unit) → List Int → List Int → Option α) → Option α := Classical.choose spec_l32Rd_good.ex α
theorem spec_l32Rd_good.eq : @spec_l32Rd_good = @spec_l32Rd_good.b := funext fun α => congrFun (Classical.choose_spec spec_l32Rd_good.ex) α

/-- loop.example/pinfold/spec.GoodFrac -/
noncomputable def spec_GoodFrac.b {α : Type} (N : Nat) (a7 : List Int) (k0 : Bool → List Int → List Int → Option α) : Option α :=
  spec_l32Open N a7
    (fun x14 =>
      spec_l32Rd_good N x14
        (fun x600 _ x602 x603 =>
          k0 x600 x602 x603))
theorem spec_GoodFrac.ex : ∃ f : ((α : Type) → Nat → List Int → (Bool → List Int → List Int → Option α) → Option α), f = fun α => @spec_GoodFrac.b α := ⟨_, rfl⟩
noncomputable def spec_GoodFrac {α : Type} : Nat → List Int → (Bool → List Int → List Int → Option α) → Option α := Classical.choose spec_GoodFrac.ex α
theorem spec_GoodFrac.eq : @spec_GoodFrac = @spec_GoodFrac.b := funext fun α => congrFun (Classical.choose_spec spec_GoodFrac.ex) α

/-- loop.example/pinfold/spec.GoodNat -/
noncomputable def spec_GoodNat.b {α : Type} (N : Nat) (a607 : List Int) (k0 : List Int → Option α) : Option α :=
  spec_l32Open N a607
    (fun x608 =>
      spec_l32Rd_nat N x608
        (fun _ x610 =>
          k0 x610))
theorem spec_GoodNat.ex : ∃ f : ((α : Type) → Nat → List Int → (List Int → Option α) → Option α), f = fun α => @spec_GoodNat.b α := ⟨_, rfl⟩
noncomputable def spec_GoodNat {α : Type} : Nat → List Int → (List Int → Option α) → Option α := Classical.choose spec_GoodNat.ex α
theorem spec_GoodNat.eq : @spec_GoodNat = @spec_GoodNat.b := funext fun α => congrFun (Classical.choose_spec spec_GoodNat.ex) α

/-- loop.example/pinfold/spec.l5Fits -/
noncomputable def spec_l5Fits.b {α : Type} (N : Nat) (a637 : List Int) (k0 : List Int → Bool → Option α) : Option α :=
  let x638 := ((a637.length : Nat) : Int)
  let x639 := (decide ((256 : Int) < x638))
  bif x639 then
    k0 [] false
  else
    k0 a637 true
theorem spec_l5Fits.ex : ∃ f : ((α : Type) → Nat → List Int → (List Int → Bool → Option α) → Option α), f = fun α => @spec_l5Fits.b α := ⟨_, rfl⟩
noncomputable def spec_l5Fits {α : Type} : Nat → List Int → (List Int → Bool → Option α) → Option α := Classical.choose spec_l5Fits.ex α
theorem spec_l5Fits.eq : @spec_l5Fits = @spec_l5Fits.b := funext fun α => congrFun (Classical.choose_spec spec_l5Fits.ex) α

/-- loop.example/pinfold/spec.NatMul -/
noncomputable def spec_NatMul.b {α : Type} (N : Nat) (a627 : List Int) (a628 : List Int) (k0 : List Int → Bool → Option α) : Option α :=
  spec_NatOk N a627
    (fun x629 =>
      let x630 := !x629
      bif x630 then
        k0 [] false
      else
        spec_NatOk N a628
          (fun x631 =>
            let x632 := !x631
            bif x632 then
              k0 [] false
            else
              spec_l5Mul N a627 a628
                (fun x633 =>
                  spec_l5Fits N x633
                    (fun x640 x641 =>
                      k0 x640 x641))))
theorem spec_NatMul.ex : ∃ f : ((α : Type) → Nat → List Int → List Int → (List Int → Bool → Option α) → Option α), f = fun α => @spec_NatMul.b α := ⟨_, rfl⟩
noncomputable def spec_NatMul {α : Type} : Nat → List Int → List Int → (List Int → Bool → Option α) → Option α := Classical.choose spec_NatMul.ex α
theorem spec_NatMul.eq : @spec_NatMul = @spec_NatMul.b := funext fun α => congrFun (Classical.choose_spec spec_NatMul.ex) α

/-- loop.example/pinfold/impl.in -/
noncomputable def impl_in.b {α : Type} (N : Nat) (a676 : Int) (a677 : Int) (a678 : Int) (k0 : Bool → Option α) : Option α :=
  let x679 := decide (a677 ≤ a676)
  bif x679 then
    let x680 := decide (a676 ≤ a678)
    k0 x680
  else
    k0 false
theorem impl_in.ex : ∃ f : ((α : Type) → Nat → Int → Int → Int → (Bool → Option α) → Option α), f = fun α => @impl_in.b α := ⟨_, rfl⟩
noncomputable def impl_in {α : Type} : Nat → Int → Int → Int → (Bool → Option α) → Option α := Classical.choose impl_in.ex α
theorem impl_in.eq : @impl_in = @impl_in.b := funext fun α => congrFun (Classical.choose_spec impl_in.ex) α

/-- loop.example/pinfold/impl.NatOk$1 -/
noncomputable def impl_NatOk_1.b {α : Type} (N : Nat) (a675 : Int) (k0 : Bool → Option α) : Option α :=
  impl_in N a675 (0 : Int) (65535 : Int)
    (fun x681 =>
      let x682 := !x681
      k0 x682)
theorem impl_NatOk_1.ex : ∃ f : ((α : Type) → Nat → Int → (Bool → Option α) → Option α), f = fun α => @impl_NatOk_1.b α := ⟨_, rfl⟩
noncomputable def impl_NatOk_1 {α : Type} : Nat → Int → (Bool → Option α) → Option α := Classical.choose impl_NatOk_1.ex α
theorem impl_NatOk_1.eq : @impl_NatOk_1 = @impl_NatOk_1.b := funext fun α => congrFun (Classical.choose_spec impl_NatOk_1.ex) α

noncomputable def slices_IndexFunc_int_int__impl_NatOk_1_L0r {α : Type} (N : Nat) (next : List Int → Int → Int → Option α) (k0 : Int → Option α) (k1 : Option α) (v670 : List Int) (v671 : Int) (v672 : Int) : Option α :=
  let x673 := decide (v672 < v671)
  bif x673 then
    bif (decide (v672 < (0 : Int))) then
      none
    else
      match v670[v672.toNat]? with
      | some x674 =>
        impl_NatOk_1 N x674
          (fun x683 =>
            bif x683 then
              k0 v672
            else
              let x684 := (IntKind.i64.wrap (v672 + (1 : Int)))
              next v670 v671 x684)
      | none => none
  else
    k1
noncomputable def slices_IndexFunc_int_int__impl_NatOk_1_L0.b {α : Type} (N n : Nat) (v670 : List Int) (v671 : Int) (v672 : Int) (k0 : Int → Option α) (k1 : Option α) : Option α :=
  Nat.rec (motive := fun _ => List Int → Int → Int → Option α) (fun _ _ _ => none) (fun _ next => slices_IndexFunc_int_int__impl_NatOk_1_L0r N next k0 k1) n v670 v671 v672
theorem slices_IndexFunc_int_int__impl_NatOk_1_L0.ex : ∃ f : ((α : Type) → Nat → Nat → List Int → Int → Int → (Int → Option α) → (Option α) → Option α), f = fun α => @slices_IndexFunc_int_int__impl_NatOk_1_L0.b α := ⟨_, rfl⟩
noncomputable def slices_IndexFunc_int_int__impl_NatOk_1_L0 {α : Type} : Nat → Nat → List Int → Int → Int → (Int → Option α) → (Option α) → Option α := Classical.choose slices_IndexFunc_int_int__impl_NatOk_1_L0.ex α
theorem slices_IndexFunc_int_int__impl_NatOk_1_L0.eq : @slices_IndexFunc_int_int__impl_NatOk_1_L0 = @slices_IndexFunc_int_int__impl_NatOk_1_L0.b := funext fun α => congrFun (Classical.choose_spec slices_IndexFunc_int_int__impl_NatOk_1_L0.ex) α
theorem slices_IndexFunc_int_int__impl_NatOk_1_L0.zero {α : Type} (N : Nat) (v670 : List Int) (v671 : Int) (v672 : Int) (k0 : Int → Option α) (k1 : Option α) : slices_IndexFunc_int_int__impl_NatOk_1_L0 N 0 v670 v671 v672 k0 k1 = none := by rw [slices_IndexFunc_int_int__impl_NatOk_1_L0.eq]; rfl
theorem slices_IndexFunc_int_int__impl_NatOk_1_L0.succ {α : Type} (N n : Nat) (v670 : List Int) (v671 : Int) (v672 : Int) (k0 : Int → Option α) (k1 : Option α) : slices_IndexFunc_int_int__impl_NatOk_1_L0 N (n + 1) v670 v671 v672 k0 k1 = slices_IndexFunc_int_int__impl_NatOk_1_L0r N (fun y0 y1 y2 => slices_IndexFunc_int_int__impl_NatOk_1_L0 N n y0 y1 y2 k0 k1) k0 k1 v670 v671 v672 := by rw [slices_IndexFunc_int_int__impl_NatOk_1_L0.eq]; rfl
/-- slices.IndexFunc[[]int,int] -/
noncomputable def slices_IndexFunc_int_int__impl_NatOk_1.b {α : Type} (N : Nat) (a668 : List Int) (k0 : Int → Option α) : Option α :=
  let x669 := ((a668.length : Nat) : Int)
  slices_IndexFunc_int_int__impl_NatOk_1_L0 N N a668 x669 (0 : Int)
    (fun x685 =>
      k0 x685)
    (
      k0 (-1 : Int))
theorem slices_IndexFunc_int_int__impl_NatOk_1.ex : ∃ f : ((α : Type) → Nat → List Int → (Int → Option α) → Option α), f = fun α => @slices_IndexFunc_int_int__impl_NatOk_1.b α := ⟨_, rfl⟩
noncomputable def slices_IndexFunc_int_int__impl_NatOk_1 {α : Type} : Nat → List Int → (Int → Option α) → Option α := Classical.choose slices_IndexFunc_int_int__impl_NatOk_1.ex α
theorem slices_IndexFunc_int_int__impl_NatOk_1.eq : @slices_IndexFunc_int_int__impl_NatOk_1 = @slices_IndexFunc_int_int__impl_NatOk_1.b := funext fun α => congrFun (Classical.choose_spec slices_IndexFunc_int_int__impl_NatOk_1.ex) α

/-- slices.ContainsFunc[[]int,int] -/
noncomputable def slices_ContainsFunc_int_int__impl_NatOk_1.b {α : Type} (N : Nat) (a667 : List Int) (k0 : Bool → Option α) : Option α :=
  slices_IndexFunc_int_int__impl_NatOk_1 N a667
    (fun x686 =>
      let x687 := (decide ((0 : Int) ≤ x686))
      k0 x687)
theorem slices_ContainsFunc_int_int__impl_NatOk_1.ex : ∃ f : ((α : Type) → Nat → List Int → (Bool → Option α) → Option α), f = fun α => @slices_ContainsFunc_int_int__impl_NatOk_1.b α := ⟨_, rfl⟩
noncomputable def slices_ContainsFunc_int_int__impl_NatOk_1 {α : Type} : Nat → List Int → (Bool → Option α) → Option α := Classical.choose slices_ContainsFunc_int_int__impl_NatOk_1.ex α
theorem slices_ContainsFunc_int_int__impl_NatOk_1.eq : @slices_ContainsFunc_int_int__impl_NatOk_1 = @slices_ContainsFunc_int_int__impl_NatOk_1.b := funext fun α => congrFun (Classical.choose_spec slices_ContainsFunc_int_int__impl_NatOk_1.ex) α

/-- loop.example/pinfold/impl.NatOk -/
noncomputable def impl_NatOk.b {α : Type} (N : Nat) (a662 : List Int) (k0 : Bool → Option α) : Option α :=
  let x663 := ((a662.length : Nat) : Int)
  let x664 := (decide (x663 ≤ (256 : Int)))
  bif x664 then
    let x665 := ((a662.length : Nat) : Int)
    let x666 := (decide (x665 = (0 : Int)))
    bif x666 then
      slices_ContainsFunc_int_int__impl_NatOk_1 N a662
        (fun x688 =>
          let x689 := !x688
          k0 x689)
    else
      let x690 := ((a662.length : Nat) : Int)
      let x691 := (IntKind.i64.wrap (x690 - (1 : Int)))
      bif (decide (x691 < (0 : Int))) then
        none
      else
        match a662[x691.toNat]? with
        | some x692 =>
          let x693 := (!(decide (x692 = (0 : Int))))
          bif x693 then
            slices_ContainsFunc_int_int__impl_NatOk_1 N a662
              (fun x694 =>
                let x695 := !x694
                k0 x695)
          else
            k0 false
        | none => none
  else
    k0 false
theorem impl_NatOk.ex : ∃ f : ((α : Type) → Nat → List Int → (Bool → Option α) → Option α), f = fun α => @impl_NatOk.b α := ⟨_, rfl⟩
noncomputable def impl_NatOk {α : Type} : Nat → List Int → (Bool → Option α) → Option α := Classical.choose impl_NatOk.ex α
theorem impl_NatOk.eq : @impl_NatOk = @impl_NatOk.b := funext fun α => congrFun (Classical.choose_spec impl_NatOk.ex) α

/-- loop.example/pinfold/impl.nats$1 -/
noncomputable def impl_nats_1.b {α : Type} (N : Nat) (a661 : List Int) (k0 : Bool → Option α) : Option α :=
  impl_NatOk N a661
    (fun x696 =>
      let x697 := !x696
      k0 x697)
theorem impl_nats_1.ex : ∃ f : ((α : Type) → Nat → List Int → (Bool → Option α) → Option α), f = fun α => @impl_nats_1.b α := ⟨_, rfl⟩
noncomputable def impl_nats_1 {α : Type} : Nat → List Int → (Bool → Option α) → Option α := Classical.choose impl_nats_1.ex α
theorem impl_nats_1.eq : @impl_nats_1 = @impl_nats_1.b := funext fun α => congrFun (Classical.choose_spec impl_nats_1.ex) α

noncomputable def slices_IndexFunc_int_int__impl_nats_1_L0r {α : Type} (N : Nat) (next : List (List Int) → Int → Int → Option α) (k0 : Int → Option α) (k1 : Option α) (v656 : List (List Int)) (v657 : Int) (v658 : Int) : Option α :=
  let x659 := decide (v658 < v657)
  bif x659 then
    bif (decide (v658 < (0 : Int))) then
      none
    else
      match v656[v658.toNat]? with
      | some x660 =>
        impl_nats_1 N x660
          (fun x698 =>
            bif x698 then
              k0 v658
            else
              let x699 := (IntKind.i64.wrap (v658 + (1 : Int)))
              next v656 v657 x699)
      | none => none
  else
    k1
noncomputable def slices_IndexFunc_int_int__impl_nats_1_L0.b {α : Type} (N n : Nat) (v656 : List (List Int)) (v657 : Int) (v658 : Int) (k0 : Int → Option α) (k1 : Option α) : Option α :=
  Nat.rec (motive := fun _ => List (List Int) → Int → Int → Option α) (fun _ _ _ => none) (fun _ next => slices_IndexFunc_int_int__impl_nats_1_L0r N next k0 k1) n v656 v657 v658
theorem slices_IndexFunc_int_int__impl_nats_1_L0.ex : ∃ f : ((α : Type) → Nat → Nat → List (List Int) → Int → Int → (Int → Option α) → (Option α) → Option α), f = fun α => @slices_IndexFunc_int_int__impl_nats_1_L0.b α := ⟨_, rfl⟩
noncomputable def slices_IndexFunc_int_int__impl_nats_1_L0 {α : Type} : Nat → Nat → List (List Int) → Int → Int → (Int → Option α) → (Option α) → Option α := Classical.choose slices_IndexFunc_int_int__impl_nats_1_L0.ex α
theorem slices_IndexFunc_int_int__impl_nats_1_L0.eq : @slices_IndexFunc_int_int__impl_nats_1_L0 = @slices_IndexFunc_int_int__impl_nats_1_L0.b := funext fun α => congrFun (Classical.choose_spec slices_IndexFunc_int_int__impl_nats_1_L0.ex) α
theorem slices_IndexFunc_int_int__impl_nats_1_L0.zero {α : Type} (N : Nat) (v656 : List (List Int)) (v657 : Int) (v658 : Int) (k0 : Int → Option α) (k1 : Option α) : slices_IndexFunc_int_int__impl_nats_1_L0 N 0 v656 v657 v658 k0 k1 = none := by rw [slices_IndexFunc_int_int__impl_nats_1_L0.eq]; rfl
theorem slices_IndexFunc_int_int__impl_nats_1_L0.succ {α : Type} (N n : Nat) (v656 : List (List Int)) (v657 : Int) (v658 : Int) (k0 : Int → Option α) (k1 : Option α) : slices_IndexFunc_int_int__impl_nats_1_L0 N (n + 1) v656 v657 v658 k0 k1 = slices_IndexFunc_int_int__impl_nats_1_L0r N (fun y0 y1 y2 => slices_IndexFunc_int_int__impl_nats_1_L0 N n y0 y1 y2 k0 k1) k0 k1 v656 v657 v658 := by rw [slices_IndexFunc_int_int__impl_nats_1_L0.eq]; rfl
/-- slices.IndexFunc[[][]int,[]int] -/
noncomputable def slices_IndexFunc_int_int__impl_nats_1.b {α : Type} (N : Nat) (a654 : List (List Int)) (k0 : Int → Option α) : Option α :=
  let x655 := ((a654.length : Nat) : Int)
  slices_IndexFunc_int_int__impl_nats_1_L0 N N a654 x655 (0 : Int)
    (fun x700 =>
      k0 x700)
    (
      k0 (-1 : Int))
theorem slices_IndexFunc_int_int__impl_nats_1.ex : ∃ f : ((α : Type) → Nat → List (List Int) → (Int → Option α) → Option α), f = fun α => @slices_IndexFunc_int_int__impl_nats_1.b α := ⟨_, rfl⟩
noncomputable def slices_IndexFunc_int_int__impl_nats_1 {α : Type} : Nat → List (List Int) → (Int → Option α) → Option α := Classical.choose slices_IndexFunc_int_int__impl_nats_1.ex α
theorem slices_IndexFunc_int_int__impl_nats_1.eq : @slices_IndexFunc_int_int__impl_nats_1 = @slices_IndexFunc_int_int__impl_nats_1.b := funext fun α => congrFun (Classical.choose_spec slices_IndexFunc_int_int__impl_nats_1.ex) α

/-- slices.ContainsFunc[[][]int,[]int] -/
noncomputable def slices_ContainsFunc_int_int__impl_nats_1.b {α : Type} (N : Nat) (a653 : List (List Int)) (k0 : Bool → Option α) : Option α :=
  slices_IndexFunc_int_int__impl_nats_1 N a653
    (fun x701 =>
      let x702 := (decide ((0 : Int) ≤ x701))
      k0 x702)
theorem slices_ContainsFunc_int_int__impl_nats_1.ex : ∃ f : ((α : Type) → Nat → List (List Int) → (Bool → Option α) → Option α), f = fun α => @slices_ContainsFunc_int_int__impl_nats_1.b α := ⟨_, rfl⟩
noncomputable def slices_ContainsFunc_int_int__impl_nats_1 {α : Type} : Nat → List (List Int) → (Bool → Option α) → Option α := Classical.choose slices_ContainsFunc_int_int__impl_nats_1.ex α
theorem slices_ContainsFunc_int_int__impl_nats_1.eq : @slices_ContainsFunc_int_int__impl_nats_1 = @slices_ContainsFunc_int_int__impl_nats_1.b := funext fun α => congrFun (Classical.choose_spec slices_ContainsFunc_int_int__impl_nats_1.ex) α

/-- loop.example/pinfold/impl.nats -/
noncomputable def impl_nats.b {α : Type} (N : Nat) (a652 : List (List Int)) (k0 : Bool → Option α) : Option α :=
  slices_ContainsFunc_int_int__impl_nats_1 N a652
    (fun x703 =>
      let x704 := !x703
      k0 x704)
theorem impl_nats.ex : ∃ f : ((α : Type) → Nat → List (List Int) → (Bool → Option α) → Option α), f = fun α => @impl_nats.b α := ⟨_, rfl⟩
noncomputable def impl_nats {α : Type} : Nat → List (List Int) → (Bool → Option α) → Option α := Classical.choose impl_nats.ex α
theorem impl_nats.eq : @impl_nats = @impl_nats.b := funext fun α => congrFun (Classical.choose_spec impl_nats.ex) α

noncomputable def impl_natCmp_L0r {α : Type} (N : Nat) (next : List Int → List Int → Int → Option α) (k0 : Int → Option α) (k1 : Option α) (v801 : List Int) (v802 : List Int) (v803 : Int) : Option α :=
  let x804 := (decide ((0 : Int) ≤ v803))
  bif x804 then
    bif (decide (v803 < (0 : Int))) then
      none
    else
      match v801[v803.toNat]? with
      | some x805 =>
        bif (decide (v803 < (0 : Int))) then
          none
        else
          match v802[v803.toNat]? with
          | some x806 =>
            let x807 := !(decide (x805 = x806))
            bif x807 then
              bif (decide (v803 < (0 : Int))) then
                none
              else
                match v801[v803.toNat]? with
                | some x808 =>
                  bif (decide (v803 < (0 : Int))) then
                    none
                  else
                    match v802[v803.toNat]? with
                    | some x809 =>
                      let x810 := IntKind.i64.wrap (x808 - x809)
                      let x811 := (minI (1 : Int) x810)
                      let x812 := (maxI (-1 : Int) x811)
                      k0 x812
                    | none => none
                | none => none
            else
              let x813 := (IntKind.i64.wrap (v803 - (1 : Int)))
              next v801 v802 x813
          | none => none
      | none => none
  else
    k1
noncomputable def impl_natCmp_L0.b {α : Type} (N n : Nat) (v801 : List Int) (v802 : List Int) (v803 : Int) (k0 : Int → Option α) (k1 : Option α) : Option α :=
  Nat.rec (motive := fun _ => List Int → List Int → Int → Option α) (fun _ _ _ => none) (fun _ next => impl_natCmp_L0r N next k0 k1) n v801 v802 v803
theorem impl_natCmp_L0.ex : ∃ f : ((α : Type) → Nat → Nat → List Int → List Int → Int → (Int → Option α) → (Option α) → Option α), f = fun α => @impl_natCmp_L0.b α := ⟨_, rfl⟩
noncomputable def impl_natCmp_L0 {α : Type} : Nat → Nat → List Int → List Int → Int → (Int → Option α) → (Option α) → Option α := Classical.choose impl_natCmp_L0.ex α
theorem impl_natCmp_L0.eq : @impl_natCmp_L0 = @impl_natCmp_L0.b := funext fun α => congrFun (Classical.choose_spec impl_natCmp_L0.ex) α
theorem impl_natCmp_L0.zero {α : Type} (N : Nat) (v801 : List Int) (v802 : List Int) (v803 : Int) (k0 : Int → Option α) (k1 : Option α) : impl_natCmp_L0 N 0 v801 v802 v803 k0 k1 = none := by rw [impl_natCmp_L0.eq]; rfl
theorem impl_natCmp_L0.succ {α : Type} (N n : Nat) (v801 : List Int) (v802 : List Int) (v803 : Int) (k0 : Int → Option α) (k1 : Option α) : impl_natCmp_L0 N (n + 1) v801 v802 v803 k0 k1 = impl_natCmp_L0r N (fun y0 y1 y2 => impl_natCmp_L0 N n y0 y1 y2 k0 k1) k0 k1 v801 v802 v803 := by rw [impl_natCmp_L0.eq]; rfl
/-- loop.example/pinfold/impl.natCmp -/
noncomputable def impl_natCmp.b {α : Type} (N : Nat) (a789 : List Int) (a790 : List Int) (k0 : Int → Option α) : Option α :=
  let x791 := ((a789.length : Nat) : Int)
  let x792 := ((a790.length : Nat) : Int)
  let x793 := !(decide (x791 = x792))
  bif x793 then
    let x794 := ((a789.length : Nat) : Int)
    let x795 := ((a790.length : Nat) : Int)
    let x796 := IntKind.i64.wrap (x794 - x795)
    let x797 := (minI (1 : Int) x796)
    let x798 := (maxI (-1 : Int) x797)
    k0 x798
  else
    let x799 := ((a789.length : Nat) : Int)
    let x800 := (IntKind.i64.wrap (x799 - (1 : Int)))
    impl_natCmp_L0 N N a789 a790 x800
      (fun x814 =>
        k0 x814)
      (
        k0 (0 : Int))
theorem impl_natCmp.ex : ∃ f : ((α : Type) → Nat → List Int → List Int → (Int → Option α) → Option α), f = fun α => @impl_natCmp.b α := ⟨_, rfl⟩
noncomputable def impl_natCmp {α : Type} : Nat → List Int → List Int → (Int → Option α) → Option α := Classical.choose impl_natCmp.ex α
theorem impl_natCmp.eq : @impl_natCmp = @impl_natCmp.b := funext fun α => congrFun (Classical.choose_spec impl_natCmp.ex) α

noncomputable def impl_trim_L0r {α : Type} (N : Nat) (next : List Int → Option α) (k0 : List Int → Option α) (v842 : List Int) : Option α :=
  let x843 := ((v842.length : Nat) : Int)
  let x844 := (decide ((0 : Int) < x843))
  bif x844 then
    let x845 := ((v842.length : Nat) : Int)
    let x846 := (IntKind.i64.wrap (x845 - (1 : Int)))
    bif (decide (x846 < (0 : Int))) then
      none
    else
      match v842[x846.toNat]? with
      | some x847 =>
        let x848 := (decide (x847 = (0 : Int)))
        bif x848 then
          let x849 := ((v842.length : Nat) : Int)
          let x850 := (IntKind.i64.wrap (x849 - (1 : Int)))
          bif (decide ((0 : Int) ≤ x850)) then
            bif (decide (x850 ≤ ((v842.length : Nat) : Int))) then
              let x851 := v842.take x850.toNat
              next x851
            else
              none
          else
            none
        else
          k0 v842
      | none => none
  else
    k0 v842
noncomputable def impl_trim_L0.b {α : Type} (N n : Nat) (v842 : List Int) (k0 : List Int → Option α) : Option α :=
  Nat.rec (motive := fun _ => List Int → Option α) (fun _ => none) (fun _ next => impl_trim_L0r N next k0) n v842
theorem impl_trim_L0.ex : ∃ f : ((α : Type) → Nat → Nat → List Int → (List Int → Option α) → Option α), f = fun α => @impl_trim_L0.b α := ⟨_, rfl⟩
noncomputable def impl_trim_L0 {α : Type} : Nat → Nat → List Int → (List Int → Option α) → Option α := Classical.choose impl_trim_L0.ex α
theorem impl_trim_L0.eq : @impl_trim_L0 = @impl_trim_L0.b := funext fun α => congrFun (Classical.choose_spec impl_trim_L0.ex) α
theorem impl_trim_L0.zero {α : Type} (N : Nat) (v842 : List Int) (k0 : List Int → Option α) : impl_trim_L0 N 0 v842 k0 = none := by rw [impl_trim_L0.eq]; rfl
theorem impl_trim_L0.succ {α : Type} (N n : Nat) (v842 : List Int) (k0 : List Int → Option α) : impl_trim_L0 N (n + 1) v842 k0 = impl_trim_L0r N (fun y0 => impl_trim_L0 N n y0 k0) k0 v842 := by rw [impl_trim_L0.eq]; rfl
/-- loop.example/pinfold/impl.trim -/
noncomputable def impl_trim.b {α : Type} (N : Nat) (a841 : List Int) (k0 : List Int → Option α) : Option α :=
  impl_trim_L0 N N a841
    (fun x852 =>
      k0 x852)
theorem impl_trim.ex : ∃ f : ((α : Type) → Nat → List Int → (List Int → Option α) → Option α), f = fun α => @impl_trim.b α := ⟨_, rfl⟩
noncomputable def impl_trim {α : Type} : Nat → List Int → (List Int → Option α) → Option α := Classical.choose impl_trim.ex α
theorem impl_trim.eq : @impl_trim = @impl_trim.b := funext fun α => congrFun (Classical.choose_spec impl_trim.ex) α

noncomputable def math_bits_Len64_J1.b {α : Type} (N : Nat) (v862 : Int) (v863 : Int) (k0 : Int → Int → Option α) : Option α :=
  let x864 := (decide ((4294967296 : Int) ≤ v862))
  bif x864 then
    let x865 := (shrI .u64 v862 (32 : Int))
    k0 x865 (32 : Int)
  else
    k0 v862 v863
theorem math_bits_Len64_J1.ex : ∃ f : ((α : Type) → Nat → Int → Int → (Int → Int → Option α) → Option α), f = fun α => @math_bits_Len64_J1.b α := ⟨_, rfl⟩
noncomputable def math_bits_Len64_J1 {α : Type} : Nat → Int → Int → (Int → Int → Option α) → Option α := Classical.choose math_bits_Len64_J1.ex α
theorem math_bits_Len64_J1.eq : @math_bits_Len64_J1 = @math_bits_Len64_J1.b := funext fun α => congrFun (Classical.choose_spec math_bits_Len64_J1.ex) α
noncomputable def math_bits_Len64_J4.b {α : Type} (N : Nat) (v868 : Int) (v869 : Int) (k0 : Int → Int → Option α) : Option α :=
  let x870 := (decide ((65536 : Int) ≤ v868))
  bif x870 then
    let x871 := (shrI .u64 v868 (16 : Int))
    let x872 := (IntKind.i64.wrap (v869 + (16 : Int)))
    k0 x871 x872
  else
    k0 v868 v869
theorem math_bits_Len64_J4.ex : ∃ f : ((α : Type) → Nat → Int → Int → (Int → Int → Option α) → Option α), f = fun α => @math_bits_Len64_J4.b α := ⟨_, rfl⟩
noncomputable def math_bits_Len64_J4 {α : Type} : Nat → Int → Int → (Int → Int → Option α) → Option α := Classical.choose math_bits_Len64_J4.ex α
theorem math_bits_Len64_J4.eq : @math_bits_Len64_J4 = @math_bits_Len64_J4.b := funext fun α => congrFun (Classical.choose_spec math_bits_Len64_J4.ex) α
noncomputable def math_bits_Len64_J7.b {α : Type} (N : Nat) (v875 : Int) (v876 : Int) (k0 : Int → Int → Option α) : Option α :=
  let x877 := (decide ((256 : Int) ≤ v875))
  bif x877 then
    let x878 := (shrI .u64 v875 (8 : Int))
    let x879 := (IntKind.i64.wrap (v876 + (8 : Int)))
    k0 x878 x879
  else
    k0 v875 v876
theorem math_bits_Len64_J7.ex : ∃ f : ((α : Type) → Nat → Int → Int → (Int → Int → Option α) → Option α), f = fun α => @math_bits_Len64_J7.b α := ⟨_, rfl⟩
noncomputable def math_bits_Len64_J7 {α : Type} : Nat → Int → Int → (Int → Int → Option α) → Option α := Classical.choose math_bits_Len64_J7.ex α
theorem math_bits_Len64_J7.eq : @math_bits_Len64_J7 = @math_bits_Len64_J7.b := funext fun α => congrFun (Classical.choose_spec math_bits_Len64_J7.ex) α
/-- math/bits.Len64 -/
noncomputable def math_bits_Len64.b {α : Type} (N : Nat) (a861 : Int) (k0 : Int → Option α) : Option α :=
  math_bits_Len64_J1 N a861 (0 : Int)
    (fun x866 x867 =>
      math_bits_Len64_J4 N x866 x867
        (fun x873 x874 =>
          math_bits_Len64_J7 N x873 x874
            (fun x880 x881 =>
              let x882 := IntKind.u8.wrap x880
              bif (decide (x882 < (0 : Int))) then
                none
              else
                match ((⟨#[0, 1, 2, 2, 3, 3, 3, 3, 4, 4, 4, 4, 4, 4, 4, 4, 5, 5, 5, 5, 5, 5, 5, 5, 5, 5, 5, 5, 5, 5, 5, 5, 6, 6, 6, 6, 6, 6, 6, 6, 6, 6, 6, 6, 6, 6, 6, 6, 6, 6, 6, 6, 6, 6, 6, 6, 6, 6, 6, 6, 6, 6, 6, 6, 7, 7, 7, 7, 7, 7, 7, 7, 7, 7, 7, 7, 7, 7, 7, 7, 7, 7, 7, 7, 7, 7, 7, 7, 7, 7, 7, 7, 7, 7, 7, 7, 7, 7, 7, 7, 7, 7, 7, 7, 7, 7, 7, 7, 7, 7, 7, 7, 7, 7, 7, 7, 7, 7, 7, 7, 7, 7, 7, 7, 7, 7, 7, 7, 8, 8, 8, 8, 8, 8, 8, 8, 8, 8, 8, 8, 8, 8, 8, 8, 8, 8, 8, 8, 8, 8, 8, 8, 8, 8, 8, 8, 8, 8, 8, 8, 8, 8, 8, 8, 8, 8, 8, 8, 8, 8, 8, 8, 8, 8, 8, 8, 8, 8, 8, 8, 8, 8, 8, 8, 8, 8, 8, 8, 8, 8, 8, 8, 8, 8, 8, 8, 8, 8, 8, 8, 8, 8, 8, 8, 8, 8, 8, 8, 8, 8, 8, 8, 8, 8, 8, 8, 8, 8, 8, 8, 8, 8, 8, 8, 8, 8, 8, 8, 8, 8, 8, 8, 8, 8, 8, 8, 8, 8, 8, 8, 8, 8, 8, 8, 8, 8, 8, 8, 8, 8, 8, 8, 8, 8, 8, 8]⟩ : ByteArray)[x882.toNat]? : Option UInt8) with
                | some x883 =>
                  let x884 := ((x883.toNat : Nat) : Int)
                  let x885 := IntKind.i64.wrap x884
                  let x886 := IntKind.i64.wrap (x881 + x885)
                  k0 x886
                | none => none)))
theorem math_bits_Len64.ex : ∃ f : ((α : Type) → Nat → Int → (Int → Option α) → Option α), f = fun α => @math_bits_Len64.b α := ⟨_, rfl⟩
noncomputable def math_bits_Len64 {α : Type} : Nat → Int → (Int → Option α) → Option α := Classical.choose math_bits_Len64.ex α
theorem math_bits_Len64.eq : @math_bits_Len64 = @math_bits_Len64.b := funext fun α => congrFun (Classical.choose_spec math_bits_Len64.ex) α

/-- math/bits.Len -/
noncomputable def math_bits_Len.b {α : Type} (N : Nat) (a860 : Int) (k0 : Int → Option α) : Option α :=
  math_bits_Len64 N a860
    (fun x887 =>
      k0 x887)
theorem math_bits_Len.ex : ∃ f : ((α : Type) → Nat → Int → (Int → Option α) → Option α), f = fun α => @math_bits_Len.b α := ⟨_, rfl⟩
noncomputable def math_bits_Len {α : Type} : Nat → Int → (Int → Option α) → Option α := Classical.choose math_bits_Len.ex α
theorem math_bits_Len.eq : @math_bits_Len = @math_bits_Len.b := funext fun α => congrFun (Classical.choose_spec math_bits_Len.ex) α

/-- slices.Clone[[]int,int] -/
noncomputable def slices_Clone_int_int {α : Type} (N : Nat) (a1 : List Int) (k0 : List Int → Option α) : Option α :=
  bif decide (([] : List Int).length + a1.length ≤ 8796093022208) then k0 a1 else none

noncomputable def impl_natShift_J10.b {α : Type} (N : Nat) (v966 : List Int) (v967 : Int) (v968 : Int) (v969 : Int) (v970 : Int) (v971 : Int) (v972 : List Int) (k0 : List Int → Int → Int → Int → Int → List Int → Option α) : Option α :=
  let x973 := IntKind.i64.wrap (v967 + v969)
  let x974 := (IntKind.i64.wrap (x973 + (1 : Int)))
  let x975 := ((v966.length : Nat) : Int)
  let x976 := decide (x974 < x975)
  bif x976 then
    bif (decide (v969 < (0 : Int))) then
      none
    else
      bif decide (v969.toNat < v972.length) then
        match v972[v969.toNat]? with
        | some x977 =>
          let x978 := IntKind.i64.wrap (v967 + v969)
          let x979 := (IntKind.i64.wrap (x978 + (1 : Int)))
          bif (decide (x979 < (0 : Int))) then
            none
          else
            match v966[x979.toNat]? with
            | some x980 =>
              let x981 := (IntKind.i64.wrap ((16 : Int) - v968))
              bif (decide (x981 < (0 : Int))) then
                none
              else
                let x982 := shlI .i64 x980 x981
                let x983 := (bitI .and .i64 x982 (65535 : Int))
                let x984 := bitI .or .i64 x977 x983
                bif (decide (v969 < (0 : Int))) then
                  none
                else
                  bif decide (v969.toNat < v972.length) then
                    match v972[v969.toNat]? with
                    | some x985 =>
                      let x986 := v972.set v969.toNat x984
                      k0 v966 v967 v968 v970 v971 x986
                    | none => none
                  else
                    none
            | none => none
        | none => none
      else
        none
  else
    k0 v966 v967 v968 v970 v971 v972
theorem impl_natShift_J10.ex : ∃ f : ((α : Type) → Nat → List Int → Int → Int → Int → Int → Int → List Int → (List Int → Int → Int → Int → Int → List Int → Option α) → Option α), f = fun α => @impl_natShift_J10.b α := ⟨_, rfl⟩
noncomputable def impl_natShift_J10 {α : Type} : Nat → List Int → Int → Int → Int → Int → Int → List Int → (List Int → Int → Int → Int → Int → List Int → Option α) → Option α := Classical.choose impl_natShift_J10.ex α
theorem impl_natShift_J10.eq : @impl_natShift_J10 = @impl_natShift_J10.b := funext fun α => congrFun (Classical.choose_spec impl_natShift_J10.ex) α
noncomputable def impl_natShift_L0r {α : Type} (N : Nat) (next : List Int → Int → Int → Int → Int → List Int → Option α) (k0 : List Int → Option α) (v955 : List Int) (v956 : Int) (v957 : Int) (v958 : Int) (v959 : Int) (v960 : List Int) : Option α :=
  let x961 := decide (v959 < v958)
  bif x961 then
    bif (decide (v959 < (0 : Int))) then
      none
    else
      bif decide (v959.toNat < v960.length) then
        match v960[v959.toNat]? with
        | some x962 =>
          bif (decide (v957 < (0 : Int))) then
            none
          else
            let x963 := shrI .i64 x962 v957
            bif (decide (v959 < (0 : Int))) then
              none
            else
              bif decide (v959.toNat < v960.length) then
                match v960[v959.toNat]? with
                | some x964 =>
                  let x965 := v960.set v959.toNat x963
                  impl_natShift_J10 N v955 v956 v957 v959 v958 v959 x965
                    (fun x987 x988 x989 x990 x991 x992 =>
                      let x993 := (IntKind.i64.wrap (x991 + (1 : Int)))
                      next x987 x988 x989 x990 x993 x992)
                | none => none
              else
                none
        | none => none
      else
        none
  else
    k0 v960
noncomputable def impl_natShift_L0.b {α : Type} (N n : Nat) (v955 : List Int) (v956 : Int) (v957 : Int) (v958 : Int) (v959 : Int) (v960 : List Int) (k0 : List Int → Option α) : Option α :=
  Nat.rec (motive := fun _ => List Int → Int → Int → Int → Int → List Int → Option α) (fun _ _ _ _ _ _ => none) (fun _ next => impl_natShift_L0r N next k0) n v955 v956 v957 v958 v959 v960
theorem impl_natShift_L0.ex : ∃ f : ((α : Type) → Nat → Nat → List Int → Int → Int → Int → Int → List Int → (List Int → Option α) → Option α), f = fun α => @impl_natShift_L0.b α := ⟨_, rfl⟩
noncomputable def impl_natShift_L0 {α : Type} : Nat → Nat → List Int → Int → Int → Int → Int → List Int → (List Int → Option α) → Option α := Classical.choose impl_natShift_L0.ex α
theorem impl_natShift_L0.eq : @impl_natShift_L0 = @impl_natShift_L0.b := funext fun α => congrFun (Classical.choose_spec impl_natShift_L0.ex) α
theorem impl_natShift_L0.zero {α : Type} (N : Nat) (v955 : List Int) (v956 : Int) (v957 : Int) (v958 : Int) (v959 : Int) (v960 : List Int) (k0 : List Int → Option α) : impl_natShift_L0 N 0 v955 v956 v957 v958 v959 v960 k0 = none := by rw [impl_natShift_L0.eq]; rfl
theorem impl_natShift_L0.succ {α : Type} (N n : Nat) (v955 : List Int) (v956 : Int) (v957 : Int) (v958 : Int) (v959 : Int) (v960 : List Int) (k0 : List Int → Option α) : impl_natShift_L0 N (n + 1) v955 v956 v957 v958 v959 v960 k0 = impl_natShift_L0r N (fun y0 y1 y2 y3 y4 y5 => impl_natShift_L0 N n y0 y1 y2 y3 y4 y5 k0) k0 v955 v956 v957 v958 v959 v960 := by rw [impl_natShift_L0.eq]; rfl
noncomputable def impl_natShift_L2r {α : Type} (N : Nat) (next : Int → List Int → Int → Int → List Int → Option α) (k0 : List Int → Option α) (v1002 : Int) (v1003 : List Int) (v1004 : Int) (v1005 : Int) (v1006 : List Int) : Option α :=
  let x1007 := decide (v1005 < v1004)
  bif x1007 then
    bif (decide (v1005 < (0 : Int))) then
      none
    else
      match v1003[v1005.toNat]? with
      | some x1008 =>
        let x1009 := (Int.tmod v1002 (16 : Int))
        bif (decide (x1009 < (0 : Int))) then
          none
        else
          let x1010 := shlI .i64 x1008 x1009
          let x1011 := (IntKind.i64.wrap (Int.tdiv v1002 (16 : Int)))
          let x1012 := IntKind.i64.wrap (x1011 + v1005)
          bif (decide (x1012 < (0 : Int))) then
            none
          else
            bif decide (x1012.toNat < v1006.length) then
              match v1006[x1012.toNat]? with
              | some x1013 =>
                let x1014 := (bitI .and .i64 x1010 (65535 : Int))
                let x1015 := bitI .or .i64 x1013 x1014
                bif (decide (x1012 < (0 : Int))) then
                  none
                else
                  bif decide (x1012.toNat < v1006.length) then
                    match v1006[x1012.toNat]? with
                    | some x1016 =>
                      let x1017 := v1006.set x1012.toNat x1015
                      let x1018 := (IntKind.i64.wrap (Int.tdiv v1002 (16 : Int)))
                      let x1019 := IntKind.i64.wrap (x1018 + v1005)
                      let x1020 := (IntKind.i64.wrap (x1019 + (1 : Int)))
                      let x1021 := (shrI .i64 x1010 (16 : Int))
                      bif (decide (x1020 < (0 : Int))) then
                        none
                      else
                        bif decide (x1020.toNat < x1017.length) then
                          match x1017[x1020.toNat]? with
                          | some x1022 =>
                            let x1023 := x1017.set x1020.toNat x1021
                            let x1024 := (IntKind.i64.wrap (v1005 + (1 : Int)))
                            next v1002 v1003 v1004 x1024 x1023
                          | none => none
                        else
                          none
                    | none => none
                  else
                    none
              | none => none
            else
              none
      | none => none
  else
    k0 v1006
noncomputable def impl_natShift_L2.b {α : Type} (N n : Nat) (v1002 : Int) (v1003 : List Int) (v1004 : Int) (v1005 : Int) (v1006 : List Int) (k0 : List Int → Option α) : Option α :=
  Nat.rec (motive := fun _ => Int → List Int → Int → Int → List Int → Option α) (fun _ _ _ _ _ => none) (fun _ next => impl_natShift_L2r N next k0) n v1002 v1003 v1004 v1005 v1006
theorem impl_natShift_L2.ex : ∃ f : ((α : Type) → Nat → Nat → Int → List Int → Int → Int → List Int → (List Int → Option α) → Option α), f = fun α => @impl_natShift_L2.b α := ⟨_, rfl⟩
noncomputable def impl_natShift_L2 {α : Type} : Nat → Nat → Int → List Int → Int → Int → List Int → (List Int → Option α) → Option α := Classical.choose impl_natShift_L2.ex α
theorem impl_natShift_L2.eq : @impl_natShift_L2 = @impl_natShift_L2.b := funext fun α => congrFun (Classical.choose_spec impl_natShift_L2.ex) α
theorem impl_natShift_L2.zero {α : Type} (N : Nat) (v1002 : Int) (v1003 : List Int) (v1004 : Int) (v1005 : Int) (v1006 : List Int) (k0 : List Int → Option α) : impl_natShift_L2 N 0 v1002 v1003 v1004 v1005 v1006 k0 = none := by rw [impl_natShift_L2.eq]; rfl
theorem impl_natShift_L2.succ {α : Type} (N n : Nat) (v1002 : Int) (v1003 : List Int) (v1004 : Int) (v1005 : Int) (v1006 : List Int) (k0 : List Int → Option α) : impl_natShift_L2 N (n + 1) v1002 v1003 v1004 v1005 v1006 k0 = impl_natShift_L2r N (fun y0 y1 y2 y3 y4 => impl_natShift_L2 N n y0 y1 y2 y3 y4 k0) k0 v1002 v1003 v1004 v1005 v1006 := by rw [impl_natShift_L2.eq]; rfl
/-- loop.example/pinfold/impl.natShift -/
noncomputable def impl_natShift.b {α : Type} (N : Nat) (a943 : List Int) (a944 : Int) (k0 : List Int → Option α) : Option α :=
  let x945 := (decide (a944 < (0 : Int)))
  bif x945 then
    let x946 := IntKind.i64.wrap (0 - a944)
    let x947 := (IntKind.i64.wrap (Int.tdiv x946 (16 : Int)))
    let x948 := IntKind.i64.wrap (0 - a944)
    let x949 := (Int.tmod x948 (16 : Int))
    let x950 := ((a943.length : Nat) : Int)
    let x951 := decide (x950 ≤ x947)
    bif x951 then
      k0 []
    else
      bif (decide ((0 : Int) ≤ x947)) then
        bif (decide (x947 ≤ ((a943.length : Nat) : Int))) then
          let x952 := a943.drop x947.toNat
          slices_Clone_int_int N x952
            (fun x953 =>
              let x954 := ((x953.length : Nat) : Int)
              impl_natShift_L0 N N a943 x947 x949 x954 (0 : Int) x953
                (fun x994 =>
                  impl_trim N x994
                    (fun x995 =>
                      k0 x995)))
        else
          none
      else
        none
  else
    let x996 := (IntKind.i64.wrap (Int.tdiv a944 (16 : Int)))
    let x997 := ((a943.length : Nat) : Int)
    let x998 := IntKind.i64.wrap (x996 + x997)
    let x999 := (IntKind.i64.wrap (x998 + (1 : Int)))
    bif (decide ((0 : Int) ≤ x999)) then
      bif decide (x999 ≤ x999) then
        bif (decide (x999 ≤ ((8796093022208 : Nat) : Int))) then
          let x1000 := (List.replicate x999.toNat (0 : Int))
          let x1001 := ((a943.length : Nat) : Int)
          impl_natShift_L2 N N a944 a943 x1001 (0 : Int) x1000
            (fun x1025 =>
              impl_trim N x1025
                (fun x1026 =>
                  k0 x1026))
        else
          none
      else
        none
    else
      none
theorem impl_natShift.ex : ∃ f : ((α : Type) → Nat → List Int → Int → (List Int → Option α) → Option α), f = fun α => @impl_natShift.b α := ⟨_, rfl⟩
noncomputable def impl_natShift {α : Type} : Nat → List Int → Int → (List Int → Option α) → Option α := Classical.choose impl_natShift.ex α
theorem impl_natShift.eq : @impl_natShift = @impl_natShift.b := funext fun α => congrFun (Classical.choose_spec impl_natShift.ex) α

noncomputable def impl_natDiv_L0r {α : Type} (N : Nat) (next : List Int → List Int → Int → Int → List Int → Option α) (k0 : Int → List Int → Option α) (v823 : List Int) (v824 : List Int) (v825 : Int) (v826 : Int) (v827 : List Int) : Option α :=
  let x828 := (decide ((0 : Int) ≤ v826))
  bif x828 then
    let x829 := (shlI .i64 v825 (16 : Int))
    bif (decide (v826 < (0 : Int))) then
      none
    else
      match v823[v826.toNat]? with
      | some x830 =>
        let x831 := bitI .or .i64 x829 x830
        match v824[0]? with
        | some x832 =>
          bif (decide (x832 = (0 : Int))) then
            none
          else
            let x833 := IntKind.i64.wrap (Int.tdiv x831 x832)
            match v824[0]? with
            | some x834 =>
              bif (decide (x834 = (0 : Int))) then
                none
              else
                let x835 := Int.tmod x831 x834
                bif (decide (v826 < (0 : Int))) then
                  none
                else
                  bif decide (v826.toNat < v827.length) then
                    match v827[v826.toNat]? with
                    | some x836 =>
                      let x837 := v827.set v826.toNat x833
                      let x838 := (IntKind.i64.wrap (v826 - (1 : Int)))
                      next v823 v824 x835 x838 x837
                    | none => none
                  else
                    none
            | none => none
        | none => none
      | none => none
  else
    k0 v825 v827
noncomputable def impl_natDiv_L0.b {α : Type} (N n : Nat) (v823 : List Int) (v824 : List Int) (v825 : Int) (v826 : Int) (v827 : List Int) (k0 : Int → List Int → Option α) : Option α :=
  Nat.rec (motive := fun _ => List Int → List Int → Int → Int → List Int → Option α) (fun _ _ _ _ _ => none) (fun _ next => impl_natDiv_L0r N next k0) n v823 v824 v825 v826 v827
theorem impl_natDiv_L0.ex : ∃ f : ((α : Type) → Nat → Nat → List Int → List Int → Int → Int → List Int → (Int → List Int → Option α) → Option α), f = fun α => @impl_natDiv_L0.b α := ⟨_, rfl⟩
noncomputable def impl_natDiv_L0 {α : Type} : Nat → Nat → List Int → List Int → Int → Int → List Int → (Int → List Int → Option α) → Option α := Classical.choose impl_natDiv_L0.ex α
theorem impl_natDiv_L0.eq : @impl_natDiv_L0 = @impl_natDiv_L0.b := funext fun α => congrFun (Classical.choose_spec impl_natDiv_L0.ex) α
theorem impl_natDiv_L0.zero {α : Type} (N : Nat) (v823 : List Int) (v824 : List Int) (v825 : Int) (v826 : Int) (v827 : List Int) (k0 : Int → List Int → Option α) : impl_natDiv_L0 N 0 v823 v824 v825 v826 v827 k0 = none := by rw [impl_natDiv_L0.eq]; rfl
theorem impl_natDiv_L0.succ {α : Type} (N n : Nat) (v823 : List Int) (v824 : List Int) (v825 : Int) (v826 : Int) (v827 : List Int) (k0 : Int → List Int → Option α) : impl_natDiv_L0 N (n + 1) v823 v824 v825 v826 v827 k0 = impl_natDiv_L0r N (fun y0 y1 y2 y3 y4 => impl_natDiv_L0 N n y0 y1 y2 y3 y4 k0) k0 v823 v824 v825 v826 v827 := by rw [impl_natDiv_L0.eq]; rfl
noncomputable def impl_natDiv_L2r {α : Type} (N : Nat) (next : List Int → Int → List Int → Int → List Int → Option α) (k0 : Int → List Int → Int → List Int → Option α) (v1033 : List Int) (v1034 : Int) (v1035 : List Int) (v1036 : Int) (v1037 : List Int) : Option α :=
  let x1038 := ((v1037.length : Nat) : Int)
  let x1039 := ((v1033.length : Nat) : Int)
  let x1040 := (IntKind.i64.wrap (x1039 + (1 : Int)))
  let x1041 := decide (x1038 < x1040)
  bif x1041 then
    let x1042 := [(0 : Int)]
    bif decide (v1037.length + x1042.length ≤ 8796093022208) then
      let x1043 := v1037 ++ x1042
      next v1033 v1034 v1035 v1036 x1043
    else
      none
  else
    k0 v1034 v1035 v1036 v1037
noncomputable def impl_natDiv_L2.b {α : Type} (N n : Nat) (v1033 : List Int) (v1034 : Int) (v1035 : List Int) (v1036 : Int) (v1037 : List Int) (k0 : Int → List Int → Int → List Int → Option α) : Option α :=
  Nat.rec (motive := fun _ => List Int → Int → List Int → Int → List Int → Option α) (fun _ _ _ _ _ => none) (fun _ next => impl_natDiv_L2r N next k0) n v1033 v1034 v1035 v1036 v1037
theorem impl_natDiv_L2.ex : ∃ f : ((α : Type) → Nat → Nat → List Int → Int → List Int → Int → List Int → (Int → List Int → Int → List Int → Option α) → Option α), f = fun α => @impl_natDiv_L2.b α := ⟨_, rfl⟩
noncomputable def impl_natDiv_L2 {α : Type} : Nat → Nat → List Int → Int → List Int → Int → List Int → (Int → List Int → Int → List Int → Option α) → Option α := Classical.choose impl_natDiv_L2.ex α
theorem impl_natDiv_L2.eq : @impl_natDiv_L2 = @impl_natDiv_L2.b := funext fun α => congrFun (Classical.choose_spec impl_natDiv_L2.ex) α
theorem impl_natDiv_L2.zero {α : Type} (N : Nat) (v1033 : List Int) (v1034 : Int) (v1035 : List Int) (v1036 : Int) (v1037 : List Int) (k0 : Int → List Int → Int → List Int → Option α) : impl_natDiv_L2 N 0 v1033 v1034 v1035 v1036 v1037 k0 = none := by rw [impl_natDiv_L2.eq]; rfl
theorem impl_natDiv_L2.succ {α : Type} (N n : Nat) (v1033 : List Int) (v1034 : Int) (v1035 : List Int) (v1036 : Int) (v1037 : List Int) (k0 : Int → List Int → Int → List Int → Option α) : impl_natDiv_L2 N (n + 1) v1033 v1034 v1035 v1036 v1037 k0 = impl_natDiv_L2r N (fun y0 y1 y2 y3 y4 => impl_natDiv_L2 N n y0 y1 y2 y3 y4 k0) k0 v1033 v1034 v1035 v1036 v1037 := by rw [impl_natDiv_L2.eq]; rfl
noncomputable def impl_natDiv_L6r {α : Type} (N : Nat) (next : Int → List Int → Int → Int → Int → Int → List Int → List Int → Option α) (k0 : Int → List Int → Int → Int → Int → List Int → List Int → Option α) (v1074 : Int) (v1075 : List Int) (v1076 : Int) (v1077 : Int) (v1078 : Int) (v1079 : Int) (v1080 : List Int) (v1081 : List Int) : Option α :=
  let x1082 := (decide ((65536 : Int) ≤ v1078))
  bif x1082 then
    let x1083 := (IntKind.i64.wrap (v1078 - (1 : Int)))
    let x1084 := (IntKind.i64.wrap (v1076 - (1 : Int)))
    bif (decide (x1084 < (0 : Int))) then
      none
    else
      match v1075[x1084.toNat]? with
      | some x1085 =>
        let x1086 := IntKind.i64.wrap (v1079 + x1085)
        let x1087 := (decide ((65536 : Int) ≤ x1086))
        bif x1087 then
          k0 v1074 v1075 v1076 v1077 x1083 v1080 v1081
        else
          next v1074 v1075 v1076 v1077 x1083 x1086 v1080 v1081
      | none => none
  else
    let x1088 := (IntKind.i64.wrap (v1076 - (2 : Int)))
    bif (decide (x1088 < (0 : Int))) then
      none
    else
      match v1075[x1088.toNat]? with
      | some x1089 =>
        let x1090 := IntKind.i64.wrap (v1078 * x1089)
        let x1091 := (shlI .i64 v1079 (16 : Int))
        let x1092 := IntKind.i64.wrap (v1077 + v1076)
        let x1093 := (IntKind.i64.wrap (x1092 - (2 : Int)))
        bif (decide (x1093 < (0 : Int))) then
          none
        else
          bif decide (x1093.toNat < v1080.length) then
            match v1080[x1093.toNat]? with
            | some x1094 =>
              let x1095 := bitI .or .i64 x1091 x1094
              let x1096 := decide (x1095 < x1090)
              bif x1096 then
                let x1097 := (IntKind.i64.wrap (v1078 - (1 : Int)))
                let x1098 := (IntKind.i64.wrap (v1076 - (1 : Int)))
                bif (decide (x1098 < (0 : Int))) then
                  none
                else
                  match v1075[x1098.toNat]? with
                  | some x1099 =>
                    let x1100 := IntKind.i64.wrap (v1079 + x1099)
                    let x1101 := (decide ((65536 : Int) ≤ x1100))
                    bif x1101 then
                      k0 v1074 v1075 v1076 v1077 x1097 v1080 v1081
                    else
                      next v1074 v1075 v1076 v1077 x1097 x1100 v1080 v1081
                  | none => none
              else
                k0 v1074 v1075 v1076 v1077 v1078 v1080 v1081
            | none => none
          else
            none
      | none => none
noncomputable def impl_natDiv_L6.b {α : Type} (N n : Nat) (v1074 : Int) (v1075 : List Int) (v1076 : Int) (v1077 : Int) (v1078 : Int) (v1079 : Int) (v1080 : List Int) (v1081 : List Int) (k0 : Int → List Int → Int → Int → Int → List Int → List Int → Option α) : Option α :=
  Nat.rec (motive := fun _ => Int → List Int → Int → Int → Int → Int → List Int → List Int → Option α) (fun _ _ _ _ _ _ _ _ => none) (fun _ next => impl_natDiv_L6r N next k0) n v1074 v1075 v1076 v1077 v1078 v1079 v1080 v1081
theorem impl_natDiv_L6.ex : ∃ f : ((α : Type) → Nat → Nat → Int → List Int → Int → Int → Int → Int → List Int → List Int → (Int → List Int → Int → Int → Int → List Int → List Int → Option α) → Option α), f = fun α => @impl_natDiv_L6.b α := ⟨_, rfl⟩
noncomputable def impl_natDiv_L6 {α : Type} : Nat → Nat → Int → List Int → Int → Int → Int → Int → List Int → List Int → (Int → List Int → Int → Int → Int → List Int → List Int → Option α) → Option α := Classical.choose impl_natDiv_L6.ex α
theorem impl_natDiv_L6.eq : @impl_natDiv_L6 = @impl_natDiv_L6.b := funext fun α => congrFun (Classical.choose_spec impl_natDiv_L6.ex) α
theorem impl_natDiv_L6.zero {α : Type} (N : Nat) (v1074 : Int) (v1075 : List Int) (v1076 : Int) (v1077 : Int) (v1078 : Int) (v1079 : Int) (v1080 : List Int) (v1081 : List Int) (k0 : Int → List Int → Int → Int → Int → List Int → List Int → Option α) : impl_natDiv_L6 N 0 v1074 v1075 v1076 v1077 v1078 v1079 v1080 v1081 k0 = none := by rw [impl_natDiv_L6.eq]; rfl
theorem impl_natDiv_L6.succ {α : Type} (N n : Nat) (v1074 : Int) (v1075 : List Int) (v1076 : Int) (v1077 : Int) (v1078 : Int) (v1079 : Int) (v1080 : List Int) (v1081 : List Int) (k0 : Int → List Int → Int → Int → Int → List Int → List Int → Option α) : impl_natDiv_L6 N (n + 1) v1074 v1075 v1076 v1077 v1078 v1079 v1080 v1081 k0 = impl_natDiv_L6r N (fun y0 y1 y2 y3 y4 y5 y6 y7 => impl_natDiv_L6 N n y0 y1 y2 y3 y4 y5 y6 y7 k0) k0 v1074 v1075 v1076 v1077 v1078 v1079 v1080 v1081 := by rw [impl_natDiv_L6.eq]; rfl
noncomputable def impl_natDiv_J34.b {α : Type} (N : Nat) (v1128 : Int) (v1129 : List Int) (v1130 : Int) (v1131 : Int) (v1132 : Int) (v1133 : Int) (v1134 : Int) (v1135 : Int) (v1136 : List Int) (v1137 : Int) (v1138 : Int) (v1139 : List Int) (v1140 : List Int) (k0 : Int → List Int → Int → Int → Int → Int → Int → Int → List Int → Int → Int → List Int → List Int → Option α) : Option α :=
  let x1141 := (decide (v1135 < (0 : Int)))
  bif x1141 then
    let x1142 := IntKind.i64.wrap (0 - v1135)
    let x1143 := (IntKind.i64.wrap (x1142 + (65536 : Int)))
    let x1144 := (IntKind.i64.wrap (x1143 - (1 : Int)))
    let x1145 := (IntKind.i64.wrap (Int.tdiv x1144 (65536 : Int)))
    let x1146 := (IntKind.i64.wrap (x1145 * (65536 : Int)))
    let x1147 := IntKind.i64.wrap (v1135 + x1146)
    k0 v1128 v1129 v1130 v1131 v1132 x1145 v1134 x1147 v1136 v1137 v1138 v1139 v1140
  else
    k0 v1128 v1129 v1130 v1131 v1132 v1133 v1134 v1135 v1136 v1137 v1138 v1139 v1140
theorem impl_natDiv_J34.ex : ∃ f : ((α : Type) → Nat → Int → List Int → Int → Int → Int → Int → Int → Int → List Int → Int → Int → List Int → List Int → (Int → List Int → Int → Int → Int → Int → Int → Int → List Int → Int → Int → List Int → List Int → Option α) → Option α), f = fun α => @impl_natDiv_J34.b α := ⟨_, rfl⟩
noncomputable def impl_natDiv_J34 {α : Type} : Nat → Int → List Int → Int → Int → Int → Int → Int → Int → List Int → Int → Int → List Int → List Int → (Int → List Int → Int → Int → Int → Int → Int → Int → List Int → Int → Int → List Int → List Int → Option α) → Option α := Classical.choose impl_natDiv_J34.ex α
theorem impl_natDiv_J34.eq : @impl_natDiv_J34 = @impl_natDiv_J34.b := funext fun α => congrFun (Classical.choose_spec impl_natDiv_J34.ex) α
noncomputable def impl_natDiv_L8r {α : Type} (N : Nat) (next : Int → List Int → Int → Int → Int → Int → List Int → Int → Int → List Int → List Int → Option α) (k0 : Int → List Int → Int → Int → Int → Int → List Int → List Int → Option α) (v1110 : Int) (v1111 : List Int) (v1112 : Int) (v1113 : Int) (v1114 : Int) (v1115 : Int) (v1116 : List Int) (v1117 : Int) (v1118 : Int) (v1119 : List Int) (v1120 : List Int) : Option α :=
  let x1121 := decide (v1118 < v1117)
  bif x1121 then
    bif (decide (v1118 < (0 : Int))) then
      none
    else
      match v1116[v1118.toNat]? with
      | some x1122 =>
        let x1123 := IntKind.i64.wrap (v1113 + v1118)
        bif (decide (x1123 < (0 : Int))) then
          none
        else
          bif decide (x1123.toNat < v1119.length) then
            match v1119[x1123.toNat]? with
            | some x1124 =>
              let x1125 := IntKind.i64.wrap (x1124 - v1115)
              let x1126 := IntKind.i64.wrap (v1114 * x1122)
              let x1127 := IntKind.i64.wrap (x1125 - x1126)
              impl_natDiv_J34 N v1110 v1111 v1112 v1113 v1114 (0 : Int) v1118 x1127 v1116 v1117 v1118 v1119 v1120
                (fun x1148 x1149 x1150 x1151 x1152 x1153 x1154 x1155 x1156 x1157 x1158 x1159 x1160 =>
                  let x1161 := IntKind.i64.wrap (x1151 + x1154)
                  bif (decide (x1161 < (0 : Int))) then
                    none
                  else
                    bif decide (x1161.toNat < x1159.length) then
                      match x1159[x1161.toNat]? with
                      | some x1162 =>
                        let x1163 := x1159.set x1161.toNat x1155
                        let x1164 := (IntKind.i64.wrap (x1158 + (1 : Int)))
                        next x1148 x1149 x1150 x1151 x1152 x1153 x1156 x1157 x1164 x1163 x1160
                      | none => none
                    else
                      none)
            | none => none
          else
            none
      | none => none
  else
    k0 v1110 v1111 v1112 v1113 v1114 v1115 v1119 v1120
noncomputable def impl_natDiv_L8.b {α : Type} (N n : Nat) (v1110 : Int) (v1111 : List Int) (v1112 : Int) (v1113 : Int) (v1114 : Int) (v1115 : Int) (v1116 : List Int) (v1117 : Int) (v1118 : Int) (v1119 : List Int) (v1120 : List Int) (k0 : Int → List Int → Int → Int → Int → Int → List Int → List Int → Option α) : Option α :=
  Nat.rec (motive := fun _ => Int → List Int → Int → Int → Int → Int → List Int → Int → Int → List Int → List Int → Option α) (fun _ _ _ _ _ _ _ _ _ _ _ => none) (fun _ next => impl_natDiv_L8r N next k0) n v1110 v1111 v1112 v1113 v1114 v1115 v1116 v1117 v1118 v1119 v1120
theorem impl_natDiv_L8.ex : ∃ f : ((α : Type) → Nat → Nat → Int → List Int → Int → Int → Int → Int → List Int → Int → Int → List Int → List Int → (Int → List Int → Int → Int → Int → Int → List Int → List Int → Option α) → Option α), f = fun α => @impl_natDiv_L8.b α := ⟨_, rfl⟩
noncomputable def impl_natDiv_L8 {α : Type} : Nat → Nat → Int → List Int → Int → Int → Int → Int → List Int → Int → Int → List Int → List Int → (Int → List Int → Int → Int → Int → Int → List Int → List Int → Option α) → Option α := Classical.choose impl_natDiv_L8.ex α
theorem impl_natDiv_L8.eq : @impl_natDiv_L8 = @impl_natDiv_L8.b := funext fun α => congrFun (Classical.choose_spec impl_natDiv_L8.ex) α
theorem impl_natDiv_L8.zero {α : Type} (N : Nat) (v1110 : Int) (v1111 : List Int) (v1112 : Int) (v1113 : Int) (v1114 : Int) (v1115 : Int) (v1116 : List Int) (v1117 : Int) (v1118 : Int) (v1119 : List Int) (v1120 : List Int) (k0 : Int → List Int → Int → Int → Int → Int → List Int → List Int → Option α) : impl_natDiv_L8 N 0 v1110 v1111 v1112 v1113 v1114 v1115 v1116 v1117 v1118 v1119 v1120 k0 = none := by rw [impl_natDiv_L8.eq]; rfl
theorem impl_natDiv_L8.succ {α : Type} (N n : Nat) (v1110 : Int) (v1111 : List Int) (v1112 : Int) (v1113 : Int) (v1114 : Int) (v1115 : Int) (v1116 : List Int) (v1117 : Int) (v1118 : Int) (v1119 : List Int) (v1120 : List Int) (k0 : Int → List Int → Int → Int → Int → Int → List Int → List Int → Option α) : impl_natDiv_L8 N (n + 1) v1110 v1111 v1112 v1113 v1114 v1115 v1116 v1117 v1118 v1119 v1120 k0 = impl_natDiv_L8r N (fun y0 y1 y2 y3 y4 y5 y6 y7 y8 y9 y10 => impl_natDiv_L8 N n y0 y1 y2 y3 y4 y5 y6 y7 y8 y9 y10 k0) k0 v1110 v1111 v1112 v1113 v1114 v1115 v1116 v1117 v1118 v1119 v1120 := by rw [impl_natDiv_L8.eq]; rfl
noncomputable def impl_natDiv_L10r {α : Type} (N : Nat) (next : Int → List Int → Int → Int → Int → Int → List Int → Int → Int → List Int → List Int → Option α) (k0 : Int → List Int → Int → Int → Int → Int → List Int → List Int → Option α) (v1190 : Int) (v1191 : List Int) (v1192 : Int) (v1193 : Int) (v1194 : Int) (v1195 : Int) (v1196 : List Int) (v1197 : Int) (v1198 : Int) (v1199 : List Int) (v1200 : List Int) : Option α :=
  let x1201 := decide (v1198 < v1197)
  bif x1201 then
    bif (decide (v1198 < (0 : Int))) then
      none
    else
      match v1196[v1198.toNat]? with
      | some x1202 =>
        let x1203 := IntKind.i64.wrap (v1193 + v1198)
        bif (decide (x1203 < (0 : Int))) then
          none
        else
          bif decide (x1203.toNat < v1199.length) then
            match v1199[x1203.toNat]? with
            | some x1204 =>
              let x1205 := IntKind.i64.wrap (x1204 + x1202)
              let x1206 := IntKind.i64.wrap (x1205 + v1195)
              let x1207 := IntKind.i64.wrap (v1193 + v1198)
              let x1208 := (bitI .and .i64 x1206 (65535 : Int))
              let x1209 := (shrI .i64 x1206 (16 : Int))
              bif (decide (x1207 < (0 : Int))) then
                none
              else
                bif decide (x1207.toNat < v1199.length) then
                  match v1199[x1207.toNat]? with
                  | some x1210 =>
                    let x1211 := v1199.set x1207.toNat x1208
                    let x1212 := (IntKind.i64.wrap (v1198 + (1 : Int)))
                    next v1190 v1191 v1192 v1193 v1194 x1209 v1196 v1197 x1212 x1211 v1200
                  | none => none
                else
                  none
            | none => none
          else
            none
      | none => none
  else
    k0 v1190 v1191 v1192 v1193 v1194 v1195 v1199 v1200
noncomputable def impl_natDiv_L10.b {α : Type} (N n : Nat) (v1190 : Int) (v1191 : List Int) (v1192 : Int) (v1193 : Int) (v1194 : Int) (v1195 : Int) (v1196 : List Int) (v1197 : Int) (v1198 : Int) (v1199 : List Int) (v1200 : List Int) (k0 : Int → List Int → Int → Int → Int → Int → List Int → List Int → Option α) : Option α :=
  Nat.rec (motive := fun _ => Int → List Int → Int → Int → Int → Int → List Int → Int → Int → List Int → List Int → Option α) (fun _ _ _ _ _ _ _ _ _ _ _ => none) (fun _ next => impl_natDiv_L10r N next k0) n v1190 v1191 v1192 v1193 v1194 v1195 v1196 v1197 v1198 v1199 v1200
theorem impl_natDiv_L10.ex : ∃ f : ((α : Type) → Nat → Nat → Int → List Int → Int → Int → Int → Int → List Int → Int → Int → List Int → List Int → (Int → List Int → Int → Int → Int → Int → List Int → List Int → Option α) → Option α), f = fun α => @impl_natDiv_L10.b α := ⟨_, rfl⟩
noncomputable def impl_natDiv_L10 {α : Type} : Nat → Nat → Int → List Int → Int → Int → Int → Int → List Int → Int → Int → List Int → List Int → (Int → List Int → Int → Int → Int → Int → List Int → List Int → Option α) → Option α := Classical.choose impl_natDiv_L10.ex α
theorem impl_natDiv_L10.eq : @impl_natDiv_L10 = @impl_natDiv_L10.b := funext fun α => congrFun (Classical.choose_spec impl_natDiv_L10.ex) α
theorem impl_natDiv_L10.zero {α : Type} (N : Nat) (v1190 : Int) (v1191 : List Int) (v1192 : Int) (v1193 : Int) (v1194 : Int) (v1195 : Int) (v1196 : List Int) (v1197 : Int) (v1198 : Int) (v1199 : List Int) (v1200 : List Int) (k0 : Int → List Int → Int → Int → Int → Int → List Int → List Int → Option α) : impl_natDiv_L10 N 0 v1190 v1191 v1192 v1193 v1194 v1195 v1196 v1197 v1198 v1199 v1200 k0 = none := by rw [impl_natDiv_L10.eq]; rfl
theorem impl_natDiv_L10.succ {α : Type} (N n : Nat) (v1190 : Int) (v1191 : List Int) (v1192 : Int) (v1193 : Int) (v1194 : Int) (v1195 : Int) (v1196 : List Int) (v1197 : Int) (v1198 : Int) (v1199 : List Int) (v1200 : List Int) (k0 : Int → List Int → Int → Int → Int → Int → List Int → List Int → Option α) : impl_natDiv_L10 N (n + 1) v1190 v1191 v1192 v1193 v1194 v1195 v1196 v1197 v1198 v1199 v1200 k0 = impl_natDiv_L10r N (fun y0 y1 y2 y3 y4 y5 y6 y7 y8 y9 y10 => impl_natDiv_L10 N n y0 y1 y2 y3 y4 y5 y6 y7 y8 y9 y10 k0) k0 v1190 v1191 v1192 v1193 v1194 v1195 v1196 v1197 v1198 v1199 v1200 := by rw [impl_natDiv_L10.eq]; rfl
noncomputable def impl_natDiv_J40.b {α : Type} (N : Nat) (v1178 : Int) (v1179 : List Int) (v1180 : Int) (v1181 : Int) (v1182 : Int) (v1183 : List Int) (v1184 : List Int) (k0 : Int → List Int → Int → Int → Int → List Int → List Int → Option α) : Option α :=
  let x1185 := IntKind.i64.wrap (v1181 + v1180)
  bif (decide (x1185 < (0 : Int))) then
    none
  else
    bif decide (x1185.toNat < v1183.length) then
      match v1183[x1185.toNat]? with
      | some x1186 =>
        let x1187 := (decide (x1186 < (0 : Int)))
        bif x1187 then
          let x1188 := (IntKind.i64.wrap (v1182 - (1 : Int)))
          let x1189 := ((v1179.length : Nat) : Int)
          impl_natDiv_L10 N N v1178 v1179 v1180 v1181 x1188 (0 : Int) v1179 x1189 (0 : Int) v1183 v1184
            (fun x1213 x1214 x1215 x1216 x1217 x1218 x1219 x1220 =>
              let x1221 := IntKind.i64.wrap (x1216 + x1215)
              bif (decide (x1221 < (0 : Int))) then
                none
              else
                bif decide (x1221.toNat < x1219.length) then
                  match x1219[x1221.toNat]? with
                  | some x1222 =>
                    let x1223 := IntKind.i64.wrap (x1222 + x1218)
                    bif (decide (x1221 < (0 : Int))) then
                      none
                    else
                      bif decide (x1221.toNat < x1219.length) then
                        match x1219[x1221.toNat]? with
                        | some x1224 =>
                          let x1225 := x1219.set x1221.toNat x1223
                          k0 x1213 x1214 x1215 x1216 x1217 x1225 x1220
                        | none => none
                      else
                        none
                  | none => none
                else
                  none)
        else
          k0 v1178 v1179 v1180 v1181 v1182 v1183 v1184
      | none => none
    else
      none
theorem impl_natDiv_J40.ex : ∃ f : ((α : Type) → Nat → Int → List Int → Int → Int → Int → List Int → List Int → (Int → List Int → Int → Int → Int → List Int → List Int → Option α) → Option α), f = fun α => @impl_natDiv_J40.b α := ⟨_, rfl⟩
noncomputable def impl_natDiv_J40 {α : Type} : Nat → Int → List Int → Int → Int → Int → List Int → List Int → (Int → List Int → Int → Int → Int → List Int → List Int → Option α) → Option α := Classical.choose impl_natDiv_J40.ex α
theorem impl_natDiv_J40.eq : @impl_natDiv_J40 = @impl_natDiv_J40.b := funext fun α => congrFun (Classical.choose_spec impl_natDiv_J40.ex) α
noncomputable def impl_natDiv_L4r {α : Type} (N : Nat) (next : Int → List Int → Int → Int → List Int → List Int → Option α) (k0 : Int → List Int → List Int → Option α) (v1054 : Int) (v1055 : List Int) (v1056 : Int) (v1057 : Int) (v1058 : List Int) (v1059 : List Int) : Option α :=
  let x1060 := (decide ((0 : Int) ≤ v1057))
  bif x1060 then
    let x1061 := IntKind.i64.wrap (v1057 + v1056)
    bif (decide (x1061 < (0 : Int))) then
      none
    else
      bif decide (x1061.toNat < v1058.length) then
        match v1058[x1061.toNat]? with
        | some x1062 =>
          let x1063 := (shlI .i64 x1062 (16 : Int))
          let x1064 := IntKind.i64.wrap (v1057 + v1056)
          let x1065 := (IntKind.i64.wrap (x1064 - (1 : Int)))
          bif (decide (x1065 < (0 : Int))) then
            none
          else
            bif decide (x1065.toNat < v1058.length) then
              match v1058[x1065.toNat]? with
              | some x1066 =>
                let x1067 := bitI .or .i64 x1063 x1066
                let x1068 := (IntKind.i64.wrap (v1056 - (1 : Int)))
                bif (decide (x1068 < (0 : Int))) then
                  none
                else
                  match v1055[x1068.toNat]? with
                  | some x1069 =>
                    bif (decide (x1069 = (0 : Int))) then
                      none
                    else
                      let x1070 := IntKind.i64.wrap (Int.tdiv x1067 x1069)
                      let x1071 := (IntKind.i64.wrap (v1056 - (1 : Int)))
                      bif (decide (x1071 < (0 : Int))) then
                        none
                      else
                        match v1055[x1071.toNat]? with
                        | some x1072 =>
                          bif (decide (x1072 = (0 : Int))) then
                            none
                          else
                            let x1073 := Int.tmod x1067 x1072
                            impl_natDiv_L6 N N v1054 v1055 v1056 v1057 x1070 x1073 v1058 v1059
                              (fun x1102 x1103 x1104 x1105 x1106 x1107 x1108 =>
                                let x1109 := ((x1103.length : Nat) : Int)
                                impl_natDiv_L8 N N x1102 x1103 x1104 x1105 x1106 (0 : Int) x1103 x1109 (0 : Int) x1107 x1108
                                  (fun x1165 x1166 x1167 x1168 x1169 x1170 x1171 x1172 =>
                                    let x1173 := IntKind.i64.wrap (x1168 + x1167)
                                    bif (decide (x1173 < (0 : Int))) then
                                      none
                                    else
                                      bif decide (x1173.toNat < x1171.length) then
                                        match x1171[x1173.toNat]? with
                                        | some x1174 =>
                                          let x1175 := IntKind.i64.wrap (x1174 - x1170)
                                          bif (decide (x1173 < (0 : Int))) then
                                            none
                                          else
                                            bif decide (x1173.toNat < x1171.length) then
                                              match x1171[x1173.toNat]? with
                                              | some x1176 =>
                                                let x1177 := x1171.set x1173.toNat x1175
                                                impl_natDiv_J40 N x1165 x1166 x1167 x1168 x1169 x1177 x1172
                                                  (fun x1226 x1227 x1228 x1229 x1230 x1231 x1232 =>
                                                    bif (decide (x1229 < (0 : Int))) then
                                                      none
                                                    else
                                                      bif decide (x1229.toNat < x1232.length) then
                                                        match x1232[x1229.toNat]? with
                                                        | some x1233 =>
                                                          let x1234 := x1232.set x1229.toNat x1230
                                                          let x1235 := (IntKind.i64.wrap (x1229 - (1 : Int)))
                                                          next x1226 x1227 x1228 x1235 x1231 x1234
                                                        | none => none
                                                      else
                                                        none)
                                              | none => none
                                            else
                                              none
                                        | none => none
                                      else
                                        none))
                        | none => none
                  | none => none
              | none => none
            else
              none
        | none => none
      else
        none
  else
    k0 v1054 v1058 v1059
noncomputable def impl_natDiv_L4.b {α : Type} (N n : Nat) (v1054 : Int) (v1055 : List Int) (v1056 : Int) (v1057 : Int) (v1058 : List Int) (v1059 : List Int) (k0 : Int → List Int → List Int → Option α) : Option α :=
  Nat.rec (motive := fun _ => Int → List Int → Int → Int → List Int → List Int → Option α) (fun _ _ _ _ _ _ => none) (fun _ next => impl_natDiv_L4r N next k0) n v1054 v1055 v1056 v1057 v1058 v1059
theorem impl_natDiv_L4.ex : ∃ f : ((α : Type) → Nat → Nat → Int → List Int → Int → Int → List Int → List Int → (Int → List Int → List Int → Option α) → Option α), f = fun α => @impl_natDiv_L4.b α := ⟨_, rfl⟩
noncomputable def impl_natDiv_L4 {α : Type} : Nat → Nat → Int → List Int → Int → Int → List Int → List Int → (Int → List Int → List Int → Option α) → Option α := Classical.choose impl_natDiv_L4.ex α
theorem impl_natDiv_L4.eq : @impl_natDiv_L4 = @impl_natDiv_L4.b := funext fun α => congrFun (Classical.choose_spec impl_natDiv_L4.ex) α
theorem impl_natDiv_L4.zero {α : Type} (N : Nat) (v1054 : Int) (v1055 : List Int) (v1056 : Int) (v1057 : Int) (v1058 : List Int) (v1059 : List Int) (k0 : Int → List Int → List Int → Option α) : impl_natDiv_L4 N 0 v1054 v1055 v1056 v1057 v1058 v1059 k0 = none := by rw [impl_natDiv_L4.eq]; rfl
theorem impl_natDiv_L4.succ {α : Type} (N n : Nat) (v1054 : Int) (v1055 : List Int) (v1056 : Int) (v1057 : Int) (v1058 : List Int) (v1059 : List Int) (k0 : Int → List Int → List Int → Option α) : impl_natDiv_L4 N (n + 1) v1054 v1055 v1056 v1057 v1058 v1059 k0 = impl_natDiv_L4r N (fun y0 y1 y2 y3 y4 y5 => impl_natDiv_L4 N n y0 y1 y2 y3 y4 y5 k0) k0 v1054 v1055 v1056 v1057 v1058 v1059 := by rw [impl_natDiv_L4.eq]; rfl
/-- loop.example/pinfold/impl.natDiv -/
noncomputable def impl_natDiv.b {α : Type} (N : Nat) (a787 : List Int) (a788 : List Int) (k0 : List Int → List Int → Option α) : Option α :=
  impl_natCmp N a787 a788
    (fun x815 =>
      let x816 := (decide (x815 < (0 : Int)))
      bif x816 then
        k0 [] a787
      else
        let x817 := ((a788.length : Nat) : Int)
        let x818 := (decide (x817 = (1 : Int)))
        bif x818 then
          let x819 := ((a787.length : Nat) : Int)
          bif (decide ((0 : Int) ≤ x819)) then
            bif decide (x819 ≤ x819) then
              bif (decide (x819 ≤ ((8796093022208 : Nat) : Int))) then
                let x820 := (List.replicate x819.toNat (0 : Int))
                let x821 := ((a787.length : Nat) : Int)
                let x822 := (IntKind.i64.wrap (x821 - (1 : Int)))
                impl_natDiv_L0 N N a787 a788 (0 : Int) x822 x820
                  (fun x839 x840 =>
                    impl_trim N x840
                      (fun x853 =>
                        let x854 := [x839]
                        impl_trim N x854
                          (fun x855 =>
                            k0 x853 x855)))
              else
                none
            else
              none
          else
            none
        else
          let x856 := ((a788.length : Nat) : Int)
          let x857 := (IntKind.i64.wrap (x856 - (1 : Int)))
          bif (decide (x857 < (0 : Int))) then
            none
          else
            match a788[x857.toNat]? with
            | some x858 =>
              let x859 := IntKind.u64.wrap x858
              math_bits_Len N x859
                (fun x888 =>
                  let x889 := (IntKind.i64.wrap ((16 : Int) - x888))
                  impl_natShift N a788 x889
                    (fun x1027 =>
                      impl_natShift N a787 x889
                        (fun x1028 =>
                          slices_Clone_int_int N x1028
                            (fun x1029 =>
                              let x1030 := [(0 : Int)]
                              bif decide (x1029.length + x1030.length ≤ 8796093022208) then
                                let x1031 := x1029 ++ x1030
                                let x1032 := ((x1027.length : Nat) : Int)
                                impl_natDiv_L2 N N a787 x889 x1027 x1032 x1031
                                  (fun x1044 x1045 x1046 x1047 =>
                                    let x1048 := ((x1047.length : Nat) : Int)
                                    let x1049 := IntKind.i64.wrap (x1048 - x1046)
                                    bif (decide ((0 : Int) ≤ x1049)) then
                                      bif decide (x1049 ≤ x1049) then
                                        bif (decide (x1049 ≤ ((8796093022208 : Nat) : Int))) then
                                          let x1050 := (List.replicate x1049.toNat (0 : Int))
                                          let x1051 := ((x1047.length : Nat) : Int)
                                          let x1052 := IntKind.i64.wrap (x1051 - x1046)
                                          let x1053 := (IntKind.i64.wrap (x1052 - (1 : Int)))
                                          impl_natDiv_L4 N N x1044 x1045 x1046 x1053 x1047 x1050
                                            (fun x1236 x1237 x1238 =>
                                              impl_trim N x1238
                                                (fun x1239 =>
                                                  impl_trim N x1237
                                                    (fun x1240 =>
                                                      let x1241 := IntKind.i64.wrap (0 - x1236)
                                                      impl_natShift N x1240 x1241
                                                        (fun x1242 =>
                                                          k0 x1239 x1242))))
                                        else
                                          none
                                      else
                                        none
                                    else
                                      none)
                              else
                                none))))
            | none => none)
theorem impl_natDiv.ex : ∃ f : ((α : Type) → Nat → List Int → List Int → (List Int → List Int → Option α) → Option α), f = fun α => @impl_natDiv.b α := ⟨_, rfl⟩
noncomputable def impl_natDiv {α : Type} : Nat → List Int → List Int → (List Int → List Int → Option α) → Option α := Classical.choose impl_natDiv.ex α
theorem impl_natDiv.eq : @impl_natDiv = @impl_natDiv.b := funext fun α => congrFun (Classical.choose_spec impl_natDiv.ex) α

noncomputable def impl_natGcd_L0r {α : Type} (N : Nat) (next : List Int → List Int → Option α) (k0 : List Int → Option α) (v714 : List Int) (v715 : List Int) : Option α :=
  let x716 := ((v715.length : Nat) : Int)
  let x717 := (decide ((0 : Int) < x716))
  bif x717 then
    impl_natDiv N v714 v715
      (fun _ x1244 =>
        next v715 x1244)
  else
    k0 v714
noncomputable def impl_natGcd_L0.b {α : Type} (N n : Nat) (v714 : List Int) (v715 : List Int) (k0 : List Int → Option α) : Option α :=
  Nat.rec (motive := fun _ => List Int → List Int → Option α) (fun _ _ => none) (fun _ next => impl_natGcd_L0r N next k0) n v714 v715
theorem impl_natGcd_L0.ex : ∃ f : ((α : Type) → Nat → Nat → List Int → List Int → (List Int → Option α) → Option α), f = fun α => @impl_natGcd_L0.b α := ⟨_, rfl⟩
noncomputable def impl_natGcd_L0 {α : Type} : Nat → Nat → List Int → List Int → (List Int → Option α) → Option α := Classical.choose impl_natGcd_L0.ex α
theorem impl_natGcd_L0.eq : @impl_natGcd_L0 = @impl_natGcd_L0.b := funext fun α => congrFun (Classical.choose_spec impl_natGcd_L0.ex) α
theorem impl_natGcd_L0.zero {α : Type} (N : Nat) (v714 : List Int) (v715 : List Int) (k0 : List Int → Option α) : impl_natGcd_L0 N 0 v714 v715 k0 = none := by rw [impl_natGcd_L0.eq]; rfl
theorem impl_natGcd_L0.succ {α : Type} (N n : Nat) (v714 : List Int) (v715 : List Int) (k0 : List Int → Option α) : impl_natGcd_L0 N (n + 1) v714 v715 k0 = impl_natGcd_L0r N (fun y0 y1 => impl_natGcd_L0 N n y0 y1 k0) k0 v714 v715 := by rw [impl_natGcd_L0.eq]; rfl
/-- loop.example/pinfold/impl.natGcd -/
noncomputable def impl_natGcd.b {α : Type} (N : Nat) (a712 : List Int) (a713 : List Int) (k0 : List Int → Option α) : Option α :=
  impl_natGcd_L0 N N a712 a713
    (fun x1245 =>
      k0 x1245)
theorem impl_natGcd.ex : ∃ f : ((α : Type) → Nat → List Int → List Int → (List Int → Option α) → Option α), f = fun α => @impl_natGcd.b α := ⟨_, rfl⟩
noncomputable def impl_natGcd {α : Type} : Nat → List Int → List Int → (List Int → Option α) → Option α := Classical.choose impl_natGcd.ex α
theorem impl_natGcd.eq : @impl_natGcd = @impl_natGcd.b := funext fun α => congrFun (Classical.choose_spec impl_natGcd.ex) α

noncomputable def impl_lowest_J2.b {α : Type} (N : Nat) (v1247 : Bool) (v1248 : List Int) (v1249 : List Int) (v1250 : List Int) (v1251 : Bool) (v1252 : List Int) (v1253 : List Int) (k0 : Bool → List Int → List Int → Bool → List Int → List Int → Option α) : Option α :=
  let x1254 := [(1 : Int)]
  impl_natCmp N v1250 x1254
    (fun x1255 =>
      let x1256 := (!(decide (x1255 = (0 : Int))))
      bif x1256 then
        impl_natDiv N v1248 v1250
          (fun x1257 _ =>
            impl_natDiv N v1249 v1250
              (fun x1259 _ =>
                k0 v1247 x1257 x1259 v1251 v1252 v1253))
      else
        k0 v1247 v1248 v1249 v1251 v1252 v1253)
theorem impl_lowest_J2.ex : ∃ f : ((α : Type) → Nat → Bool → List Int → List Int → List Int → Bool → List Int → List Int → (Bool → List Int → List Int → Bool → List Int → List Int → Option α) → Option α), f = fun α => @impl_lowest_J2.b α := ⟨_, rfl⟩
noncomputable def impl_lowest_J2 {α : Type} : Nat → Bool → List Int → List Int → List Int → Bool → List Int → List Int → (Bool → List Int → List Int → Bool → List Int → List Int → Option α) → Option α := Classical.choose impl_lowest_J2.ex α
theorem impl_lowest_J2.eq : @impl_lowest_J2 = @impl_lowest_J2.b := funext fun α => congrFun (Classical.choose_spec impl_lowest_J2.ex) α
/-- loop.example/pinfold/impl.lowest -/
noncomputable def impl_lowest.b {α : Type} (N : Nat) (a709 : Bool) (a710 : List Int) (a711 : List Int) (k0 : (Bool × (List Int) × (List Int) × Unit) → Option α) : Option α :=
  impl_natGcd N a710 a711
    (fun x1246 =>
      impl_lowest_J2 N a709 a710 a711 x1246 false [] []
        (fun x1261 x1262 x1263 _ _ _ =>
          bif x1261 then
            let x1267 := ((x1262.length : Nat) : Int)
            let x1268 := (decide ((0 : Int) < x1267))
            k0 (x1268, (x1262, (x1263, ())))
          else
            k0 (false, (x1262, (x1263, ())))))
theorem impl_lowest.ex : ∃ f : ((α : Type) → Nat → Bool → List Int → List Int → ((Bool × (List Int) × (List Int) × Unit) → Option α) → Option α), f = fun α => @impl_lowest.b α := ⟨_, rfl⟩
noncomputable def impl_lowest {α : Type} : Nat → Bool → List Int → List Int → ((Bool × (List Int) × (List Int) × Unit) → Option α) → Option α := Classical.choose impl_lowest.ex α
theorem impl_lowest.eq : @impl_lowest = @impl_lowest.b := funext fun α => congrFun (Classical.choose_spec impl_lowest.ex) α

/-- slices.Clip[[]int,int] -/
noncomputable def slices_Clip_int_int.b {α : Type} (N : Nat) (a1277 : List Int) (k0 : List Int → Option α) : Option α :=
  let x1278 := ((a1277.length : Nat) : Int)
  let x1279 := ((a1277.length : Nat) : Int)
  bif (decide ((0 : Int) ≤ x1279)) then
    bif (decide (x1279 ≤ ((a1277.length : Nat) : Int))) then
      bif (decide ((0 : Int) ≤ x1278)) then
        bif (decide (x1278 ≤ ((x1279.toNat : Nat) : Int))) then
          let x1280 := a1277.take x1278.toNat
          k0 x1280
        else
          none
      else
        none
    else
      none
  else
    none
theorem slices_Clip_int_int.ex : ∃ f : ((α : Type) → Nat → List Int → (List Int → Option α) → Option α), f = fun α => @slices_Clip_int_int.b α := ⟨_, rfl⟩
noncomputable def slices_Clip_int_int {α : Type} : Nat → List Int → (List Int → Option α) → Option α := Classical.choose slices_Clip_int_int.ex α
theorem slices_Clip_int_int.eq : @slices_Clip_int_int = @slices_Clip_int_int.b := funext fun α => congrFun (Classical.choose_spec slices_Clip_int_int.ex) α

/-- loop.example/pinfold/impl.clone[int] -/
noncomputable def impl_clone_int.b {α : Type} (N : Nat) (a1275 : List Int) (k0 : List Int → Option α) : Option α :=
  slices_Clone_int_int N a1275
    (fun x1276 =>
      slices_Clip_int_int N x1276
        (fun x1281 =>
          k0 x1281))
theorem impl_clone_int.ex : ∃ f : ((α : Type) → Nat → List Int → (List Int → Option α) → Option α), f = fun α => @impl_clone_int.b α := ⟨_, rfl⟩
noncomputable def impl_clone_int {α : Type} : Nat → List Int → (List Int → Option α) → Option α := Classical.choose impl_clone_int.ex α
theorem impl_clone_int.eq : @impl_clone_int = @impl_clone_int.b := funext fun α => congrFun (Classical.choose_spec impl_clone_int.ex) α

/-- loop.example/pinfold/impl.given -/
noncomputable def impl_given.b {α : Type} (N : Nat) (a1270 : Bool × (List Int) × (List Int) × Unit) (k0 : Bool → Bool → List Int → List Int → Option α) : Option α :=
  let x1271 := ((a1270.2.1.length : Nat) : Int)
  let x1272 := (decide ((256 : Int) < x1271))
  bif x1272 then
    k0 false false [] []
  else
    let x1273 := ((a1270.2.2.1.length : Nat) : Int)
    let x1274 := (decide ((256 : Int) < x1273))
    bif x1274 then
      k0 false false [] []
    else
      impl_clone_int N a1270.2.1
        (fun x1282 =>
          impl_clone_int N a1270.2.2.1
            (fun x1283 =>
              k0 a1270.1 true x1282 x1283))
theorem impl_given.ex : ∃ f : ((α : Type) → Nat → (Bool × (List Int) × (List Int) × Unit) → (Bool → Bool → List Int → List Int → Option α) → Option α), f = fun α => @impl_given.b α := ⟨_, rfl⟩
noncomputable def impl_given {α : Type} : Nat → (Bool × (List Int) × (List Int) × Unit) → (Bool → Bool → List Int → List Int → Option α) → Option α := Classical.choose impl_given.ex α
theorem impl_given.eq : @impl_given = @impl_given.b := funext fun α => congrFun (Classical.choose_spec impl_given.ex) α

/-- loop.example/pinfold/impl.FracOf -/
noncomputable def impl_FracOf.b {α : Type} (N : Nat) (a648 : Bool) (a649 : List Int) (a650 : List Int) (k0 : Bool → Bool → List Int → List Int → Option α) : Option α :=
  let x651 := [a649, a650]
  impl_nats N x651
    (fun x705 =>
      let x706 := !x705
      bif x706 then
        k0 false false [] []
      else
        let x707 := ((a650.length : Nat) : Int)
        let x708 := (decide (x707 = (0 : Int)))
        bif x708 then
          k0 false false [] []
        else
          impl_lowest N a648 a649 a650
            (fun x1269 =>
              impl_given N x1269
                (fun x1284 x1285 x1286 x1287 =>
                  k0 x1284 x1285 x1286 x1287)))
theorem impl_FracOf.ex : ∃ f : ((α : Type) → Nat → Bool → List Int → List Int → (Bool → Bool → List Int → List Int → Option α) → Option α), f = fun α => @impl_FracOf.b α := ⟨_, rfl⟩
noncomputable def impl_FracOf {α : Type} : Nat → Bool → List Int → List Int → (Bool → Bool → List Int → List Int → Option α) → Option α := Classical.choose impl_FracOf.ex α
theorem impl_FracOf.eq : @impl_FracOf = @impl_FracOf.b := funext fun α => congrFun (Classical.choose_spec impl_FracOf.ex) α

/-- loop.example/pinfold/impl.FracOk -/
noncomputable def impl_FracOk.b {α : Type} (N : Nat) (a1295 : Bool × (List Int) × (List Int) × Unit) (k0 : Bool → Option α) : Option α :=
  let x1296 := [a1295.2.1, a1295.2.2.1]
  impl_nats N x1296
    (fun x1297 =>
      bif x1297 then
        let x1298 := ((a1295.2.2.1.length : Nat) : Int)
        let x1299 := (decide ((0 : Int) < x1298))
        bif x1299 then
          let x1300 := ((a1295.2.1.length : Nat) : Int)
          let x1301 := (decide ((0 : Int) < x1300))
          bif x1301 then
            impl_natGcd N a1295.2.1 a1295.2.2.1
              (fun x1302 =>
                let x1303 := [(1 : Int)]
                impl_natCmp N x1302 x1303
                  (fun x1304 =>
                    let x1305 := (decide (x1304 = (0 : Int)))
                    k0 x1305))
          else
            let x1306 := !a1295.1
            bif x1306 then
              impl_natGcd N a1295.2.1 a1295.2.2.1
                (fun x1307 =>
                  let x1308 := [(1 : Int)]
                  impl_natCmp N x1307 x1308
                    (fun x1309 =>
                      let x1310 := (decide (x1309 = (0 : Int)))
                      k0 x1310))
            else
              k0 false
        else
          k0 false
      else
        k0 false)
theorem impl_FracOk.ex : ∃ f : ((α : Type) → Nat → (Bool × (List Int) × (List Int) × Unit) → (Bool → Option α) → Option α), f = fun α => @impl_FracOk.b α := ⟨_, rfl⟩
noncomputable def impl_FracOk {α : Type} : Nat → (Bool × (List Int) × (List Int) × Unit) → (Bool → Option α) → Option α := Classical.choose impl_FracOk.ex α
theorem impl_FracOk.eq : @impl_FracOk = @impl_FracOk.b := funext fun α => congrFun (Classical.choose_spec impl_FracOk.ex) α

noncomputable def laws_pwSame_L0r {α : Type} (N : Nat) (next : List Int → List Int → Int → Option α) (k0 : Bool → Option α) (k1 : Option α) (v1320 : List Int) (v1321 : List Int) (v1322 : Int) : Option α :=
  let x1323 := ((v1320.length : Nat) : Int)
  let x1324 := decide (v1322 < x1323)
  bif x1324 then
    bif (decide (v1322 < (0 : Int))) then
      none
    else
      match v1320[v1322.toNat]? with
      | some x1325 =>
        bif (decide (v1322 < (0 : Int))) then
          none
        else
          match v1321[v1322.toNat]? with
          | some x1326 =>
            let x1327 := !(decide (x1325 = x1326))
            bif x1327 then
              k0 false
            else
              let x1328 := (IntKind.i64.wrap (v1322 + (1 : Int)))
              next v1320 v1321 x1328
          | none => none
      | none => none
  else
    k1
noncomputable def laws_pwSame_L0.b {α : Type} (N n : Nat) (v1320 : List Int) (v1321 : List Int) (v1322 : Int) (k0 : Bool → Option α) (k1 : Option α) : Option α :=
  Nat.rec (motive := fun _ => List Int → List Int → Int → Option α) (fun _ _ _ => none) (fun _ next => laws_pwSame_L0r N next k0 k1) n v1320 v1321 v1322
theorem laws_pwSame_L0.ex : ∃ f : ((α : Type) → Nat → Nat → List Int → List Int → Int → (Bool → Option α) → (Option α) → Option α), f = fun α => @laws_pwSame_L0.b α := ⟨_, rfl⟩
noncomputable def laws_pwSame_L0 {α : Type} : Nat → Nat → List Int → List Int → Int → (Bool → Option α) → (Option α) → Option α := Classical.choose laws_pwSame_L0.ex α
theorem laws_pwSame_L0.eq : @laws_pwSame_L0 = @laws_pwSame_L0.b := funext fun α => congrFun (Classical.choose_spec laws_pwSame_L0.ex) α
theorem laws_pwSame_L0.zero {α : Type} (N : Nat) (v1320 : List Int) (v1321 : List Int) (v1322 : Int) (k0 : Bool → Option α) (k1 : Option α) : laws_pwSame_L0 N 0 v1320 v1321 v1322 k0 k1 = none := by rw [laws_pwSame_L0.eq]; rfl
theorem laws_pwSame_L0.succ {α : Type} (N n : Nat) (v1320 : List Int) (v1321 : List Int) (v1322 : Int) (k0 : Bool → Option α) (k1 : Option α) : laws_pwSame_L0 N (n + 1) v1320 v1321 v1322 k0 k1 = laws_pwSame_L0r N (fun y0 y1 y2 => laws_pwSame_L0 N n y0 y1 y2 k0 k1) k0 k1 v1320 v1321 v1322 := by rw [laws_pwSame_L0.eq]; rfl
/-- loop.example/pinfold/laws.pwSame -/
noncomputable def laws_pwSame.b {α : Type} (N : Nat) (a1315 : List Int) (a1316 : List Int) (k0 : Bool → Option α) : Option α :=
  let x1317 := ((a1315.length : Nat) : Int)
  let x1318 := ((a1316.length : Nat) : Int)
  let x1319 := !(decide (x1317 = x1318))
  bif x1319 then
    k0 false
  else
    laws_pwSame_L0 N N a1315 a1316 (0 : Int)
      (fun x1329 =>
        k0 x1329)
      (
        k0 true)
theorem laws_pwSame.ex : ∃ f : ((α : Type) → Nat → List Int → List Int → (Bool → Option α) → Option α), f = fun α => @laws_pwSame.b α := ⟨_, rfl⟩
noncomputable def laws_pwSame {α : Type} : Nat → List Int → List Int → (Bool → Option α) → Option α := Classical.choose laws_pwSame.ex α
theorem laws_pwSame.eq : @laws_pwSame = @laws_pwSame.b := funext fun α => congrFun (Classical.choose_spec laws_pwSame.ex) α

/-- loop.example/pinfold/laws.pwFrac -/
noncomputable def laws_pwFrac.b {α : Type} (N : Nat) (a1312 : Bool × (List Int) × (List Int) × Unit) (a1313 : Bool × (List Int) × (List Int) × Unit) (k0 : Bool → Option α) : Option α :=
  let x1314 := a1312.1 == a1313.1
  bif x1314 then
    laws_pwSame N a1312.2.1 a1313.2.1
      (fun x1330 =>
        bif x1330 then
          laws_pwSame N a1312.2.2.1 a1313.2.2.1
            (fun x1331 =>
              k0 x1331)
        else
          k0 false)
  else
    k0 false
theorem laws_pwFrac.ex : ∃ f : ((α : Type) → Nat → (Bool × (List Int) × (List Int) × Unit) → (Bool × (List Int) × (List Int) × Unit) → (Bool → Option α) → Option α), f = fun α => @laws_pwFrac.b α := ⟨_, rfl⟩
noncomputable def laws_pwFrac {α : Type} : Nat → (Bool × (List Int) × (List Int) × Unit) → (Bool × (List Int) × (List Int) × Unit) → (Bool → Option α) → Option α := Classical.choose laws_pwFrac.ex α
theorem laws_pwFrac.eq : @laws_pwFrac = @laws_pwFrac.b := funext fun α => congrFun (Classical.choose_spec laws_pwFrac.ex) α

/-- loop.example/pinfold/laws.FnFracMake -/
noncomputable def laws_FnFracMake.b {α : Type} (N : Nat) (a1 : List Int) (a2 : List Int) (k0 : Bool → Option α) : Option α :=
  let x3 := ((a1.length : Nat) : Int)
  let x4 := (decide ((1048576 : Int) < x3))
  bif x4 then
    k0 true
  else
    let x5 := ((a2.length : Nat) : Int)
    let x6 := (decide ((1048576 : Int) < x5))
    bif x6 then
      k0 true
    else
      spec_GoodFrac N a1
        (fun x604 x605 x606 =>
          spec_GoodNat N a2
            (fun x611 =>
              spec_NatMul N x605 x611
                (fun x642 x643 =>
                  spec_NatMul N x606 x611
                    (fun x644 x645 =>
                      let x646 := !x643
                      bif x646 then
                        k0 true
                      else
                        let x647 := !x645
                        bif x647 then
                          k0 true
                        else
                          impl_FracOf N x604 x642 x644
                            (fun x1288 x1289 x1290 x1291 =>
                              let x1292 := ((x611.length : Nat) : Int)
                              let x1293 := (decide (x1292 = (0 : Int)))
                              bif x1293 then
                                let x1294 := !x1289
                                k0 x1294
                              else
                                bif x1289 then
                                  impl_FracOk N (x604, (x605, (x606, ())))
                                    (fun x1311 =>
                                      bif x1311 then
                                        laws_pwFrac N (x604, (x605, (x606, ()))) (x1288, (x1290, (x1291, ())))
                                          (fun x1332 =>
                                            k0 x1332)
                                      else
                                        k0 false)
                                else
                                  k0 false)))))
theorem laws_FnFracMake.ex : ∃ f : ((α : Type) → Nat → List Int → List Int → (Bool → Option α) → Option α), f = fun α => @laws_FnFracMake.b α := ⟨_, rfl⟩
noncomputable def laws_FnFracMake {α : Type} : Nat → List Int → List Int → (Bool → Option α) → Option α := Classical.choose laws_FnFracMake.ex α
theorem laws_FnFracMake.eq : @laws_FnFracMake = @laws_FnFracMake.b := funext fun α => congrFun (Classical.choose_spec laws_FnFracMake.ex) α

end
end Go.Proofs.YthjjaddhcdekjaaAm
