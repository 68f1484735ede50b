/-
  The functions that the program computes, as the abstract machine tells them. Printed by amp.py.
-/
import Derived.Test.YtgabephijgjogaaAmb
namespace Go.Proofs.YtgabephijgjogaaAm
open Go
noncomputable section
set_option linter.unusedVariables false
set_option linter.unusedSimpArgs false

noncomputable def spec_l32Open_J1.b {α : Type} (N : Nat) (v6 : List Int) (k0 : List Int → Option α) : Option α :=
  let x7 := ((v6.length : Nat) : Int)
  let x8 := (decide ((2000 : Int) < x7))
  bif x8 then
    bif (decide ((2000 : Int) ≤ ((v6.length : Nat) : Int))) then
      let x9 := v6.take 2000
      k0 x9
    else
      none
  else
    k0 v6
theorem spec_l32Open_J1.ex : ∃ f : ((α : Type) → Nat → List Int → (List Int → Option α) → Option α), f = fun α => @spec_l32Open_J1.b α := ⟨_, rfl⟩
noncomputable def spec_l32Open_J1 {α : Type} : Nat → List Int → (List Int → Option α) → Option α := Classical.choose spec_l32Open_J1.ex α
theorem spec_l32Open_J1.eq : @spec_l32Open_J1 = @spec_l32Open_J1.b := funext fun α => congrFun (Classical.choose_spec spec_l32Open_J1.ex) α
/-- loop.example/pinfold/spec.l32Open -/
noncomputable def spec_l32Open.b {α : Type} (N : Nat) (a5 : List Int) (k0 : ((List Int) × Int × Unit) → Option α) : Option α :=
  spec_l32Open_J1 N a5
    (fun x10 =>
      k0 (x10, ((0 : Int), ())))
theorem spec_l32Open.ex : ∃ f : ((α : Type) → Nat → List Int → (((List Int) × Int × Unit) → Option α) → Option α), f = fun α => @spec_l32Open.b α := ⟨_, rfl⟩
noncomputable def spec_l32Open {α : Type} : Nat → List Int → (((List Int) × Int × Unit) → Option α) → Option α := Classical.choose spec_l32Open.ex α
theorem spec_l32Open.eq : @spec_l32Open = @spec_l32Open.b := funext fun α => congrFun (Classical.choose_spec spec_l32Open.ex) α

/-- (*loop.example/pinfold/spec.l32Rd).pick -/
noncomputable def spec_l32Rd_pick.b {α : Type} (N : Nat) (a14 : Int) (a15 : (List Int) × Int × Unit) (k0 : Int → ((List Int) × Int × Unit) → Option α) : Option α :=
  let x16 := (IntKind.i64.wrap (a15.2.1 + (1 : Int)))
  let x17 := (decide (a14 < (1 : Int)))
  bif x17 then
    k0 (0 : Int) (a15.1, (x16, ()))
  else
    let x18 := ((a15.1.length : Nat) : Int)
    let x19 := (decide (x18 = (0 : Int)))
    bif x19 then
      k0 (0 : Int) (a15.1, (x16, ()))
    else
      let x20 := (IntKind.i64.wrap (x16 - (1 : Int)))
      let x21 := ((a15.1.length : Nat) : Int)
      let x22 := decide (x20 < x21)
      bif x22 then
        bif (decide (x20 < (0 : Int))) then
          none
        else
          match a15.1[x20.toNat]? with
          | some x23 =>
            let x24 := IntKind.i64.wrap x23
            bif (decide (a14 = (0 : Int))) then
              none
            else
              let x25 := Int.tmod x24 a14
              k0 x25 (a15.1, (x16, ()))
          | none => none
      else
        let x26 := ((a15.1.length : Nat) : Int)
        bif (decide (x26 = (0 : Int))) then
          none
        else
          let x27 := Int.tmod x20 x26
          bif (decide (x27 < (0 : Int))) then
            none
          else
            match a15.1[x27.toNat]? with
            | some x28 =>
              let x29 := IntKind.i64.wrap x28
              let x30 := (IntKind.i64.wrap (x29 * (131 : Int)))
              let x31 := (IntKind.i64.wrap (x20 * (7 : Int)))
              let x32 := (IntKind.i64.wrap (x31 + (3 : Int)))
              let x33 := ((a15.1.length : Nat) : Int)
              bif (decide (x33 = (0 : Int))) then
                none
              else
                let x34 := Int.tmod x32 x33
                bif (decide (x34 < (0 : Int))) then
                  none
                else
                  match a15.1[x34.toNat]? with
                  | some x35 =>
                    let x36 := IntKind.i64.wrap x35
                    let x37 := (IntKind.i64.wrap (x36 * (1117 : Int)))
                    let x38 := IntKind.i64.wrap (x30 + x37)
                    let x39 := (IntKind.i64.wrap (x20 * (29 : Int)))
                    let x40 := IntKind.i64.wrap (x38 + x39)
                    let x41 := ((a15.1.length : Nat) : Int)
                    bif (decide (x41 = (0 : Int))) then
                      none
                    else
                      let x42 := IntKind.i64.wrap (Int.tdiv x20 x41)
                      let x43 := (IntKind.i64.wrap (x42 * (53 : Int)))
                      let x44 := IntKind.i64.wrap (x40 + x43)
                      let x45 := (IntKind.i64.wrap (Int.tdiv x44 (64 : Int)))
                      let x46 := bitI .xor .i64 x44 x45
                      bif (decide (a14 = (0 : Int))) then
                        none
                      else
                        let x47 := Int.tmod x46 a14
                        k0 x47 (a15.1, (x16, ()))
                  | none => none
            | none => none
theorem spec_l32Rd_pick.ex : ∃ f : ((α : Type) → Nat → Int → ((List Int) × Int × Unit) → (Int → ((List Int) × Int × Unit) → Option α) → Option α), f = fun α => @spec_l32Rd_pick.b α := ⟨_, rfl⟩
noncomputable def spec_l32Rd_pick {α : Type} : Nat → Int → ((List Int) × Int × Unit) → (Int → ((List Int) × Int × Unit) → Option α) → Option α := Classical.choose spec_l32Rd_pick.ex α
theorem spec_l32Rd_pick.eq : @spec_l32Rd_pick = @spec_l32Rd_pick.b := funext fun α => congrFun (Classical.choose_spec spec_l32Rd_pick.ex) α

noncomputable def spec_NatOf_L0r {α : Type} (N : Nat) (next : Int → List Int → Option α) (k0 : List Int → Option α) (v77 : Int) (v78 : List Int) : Option α :=
  let x79 := (decide ((0 : Int) < v77))
  bif x79 then
    let x80 := (Int.tmod v77 (65536 : Int))
    let x81 := IntKind.i64.wrap x80
    let x82 := [x81]
    bif decide (v78.length + x82.length ≤ 8796093022208) then
      let x83 := v78 ++ x82
      let x84 := (IntKind.u64.wrap (Int.tdiv v77 (65536 : Int)))
      next x84 x83
    else
      none
  else
    k0 v78
noncomputable def spec_NatOf_L0.b {α : Type} (N n : Nat) (v77 : Int) (v78 : List Int) (k0 : List Int → Option α) : Option α :=
  Nat.rec (motive := fun _ => Int → List Int → Option α) (fun _ _ => none) (fun _ next => spec_NatOf_L0r N next k0) n v77 v78
theorem spec_NatOf_L0.ex : ∃ f : ((α : Type) → Nat → Nat → Int → List Int → (List Int → Option α) → Option α), f = fun α => @spec_NatOf_L0.b α := ⟨_, rfl⟩
noncomputable def spec_NatOf_L0 {α : Type} : Nat → Nat → Int → List Int → (List Int → Option α) → Option α := Classical.choose spec_NatOf_L0.ex α
theorem spec_NatOf_L0.eq : @spec_NatOf_L0 = @spec_NatOf_L0.b := funext fun α => congrFun (Classical.choose_spec spec_NatOf_L0.ex) α
theorem spec_NatOf_L0.zero {α : Type} (N : Nat) (v77 : Int) (v78 : List Int) (k0 : List Int → Option α) : spec_NatOf_L0 N 0 v77 v78 k0 = none := by rw [spec_NatOf_L0.eq]; rfl
theorem spec_NatOf_L0.succ {α : Type} (N n : Nat) (v77 : Int) (v78 : List Int) (k0 : List Int → Option α) : spec_NatOf_L0 N (n + 1) v77 v78 k0 = spec_NatOf_L0r N (fun y0 y1 => spec_NatOf_L0 N n y0 y1 k0) k0 v77 v78 := by rw [spec_NatOf_L0.eq]; rfl
/-- loop.example/pinfold/spec.NatOf -/
noncomputable def spec_NatOf.b {α : Type} (N : Nat) (a76 : Int) (k0 : List Int → Option α) : Option α :=
  spec_NatOf_L0 N N a76 []
    (fun x85 =>
      k0 x85)
theorem spec_NatOf.ex : ∃ f : ((α : Type) → Nat → Int → (List Int → Option α) → Option α), f = fun α => @spec_NatOf.b α := ⟨_, rfl⟩
noncomputable def spec_NatOf {α : Type} : Nat → Int → (List Int → Option α) → Option α := Classical.choose spec_NatOf.ex α
theorem spec_NatOf.eq : @spec_NatOf = @spec_NatOf.b := funext fun α => congrFun (Classical.choose_spec spec_NatOf.ex) α

noncomputable def spec_l32Rd_nat_J6.b {α : Type} (N : Nat) (v62 : Int) (v63 : (List Int) × Int × Unit) (k0 : Int → ((List Int) × Int × Unit) → Option α) : Option α :=
  spec_l32Rd_pick N (6 : Int) v63
    (fun x64 x65 =>
      let x66 := (decide (x64 = (0 : Int)))
      bif x66 then
        spec_l32Rd_pick N (3 : Int) x65
          (fun x67 x68 =>
            let x69 := (IntKind.i64.wrap ((256 : Int) - x67))
            k0 x69 x68)
      else
        k0 v62 x65)
theorem spec_l32Rd_nat_J6.ex : ∃ f : ((α : Type) → Nat → Int → ((List Int) × Int × Unit) → (Int → ((List Int) × Int × Unit) → Option α) → Option α), f = fun α => @spec_l32Rd_nat_J6.b α := ⟨_, rfl⟩
noncomputable def spec_l32Rd_nat_J6 {α : Type} : Nat → Int → ((List Int) × Int × Unit) → (Int → ((List Int) × Int × Unit) → Option α) → Option α := Classical.choose spec_l32Rd_nat_J6.ex α
theorem spec_l32Rd_nat_J6.eq : @spec_l32Rd_nat_J6 = @spec_l32Rd_nat_J6.b := funext fun α => congrFun (Classical.choose_spec spec_l32Rd_nat_J6.ex) α
noncomputable def spec_l32Rd_nat_J5.b {α : Type} (N : Nat) (v58 : Int) (v59 : Int) (v60 : (List Int) × Int × Unit) (k0 : Int → ((List Int) × Int × Unit) → Option α) (k1 : ((List Int) × Int × Unit) → List Int → Option α) : Option α :=
  let x61 := (decide (v59 = (1 : Int)))
  bif x61 then
    spec_l32Rd_nat_J6 N v58 v60
      (fun x70 x71 =>
        k0 x70 x71)
  else
    let x72 := (decide (v59 = (2 : Int)))
    bif x72 then
      spec_l32Rd_pick N (12 : Int) v60
        (fun x73 x74 =>
          let x75 := IntKind.u64.wrap x73
          spec_NatOf N x75
            (fun x86 =>
              k1 x74 x86))
    else
      k0 v58 v60
theorem spec_l32Rd_nat_J5.ex : ∃ f : ((α : Type) → Nat → Int → Int → ((List Int) × Int × Unit) → (Int → ((List Int) × Int × Unit) → Option α) → (((List Int) × Int × Unit) → List Int → Option α) → Option α), f = fun α => @spec_l32Rd_nat_J5.b α := ⟨_, rfl⟩
noncomputable def spec_l32Rd_nat_J5 {α : Type} : Nat → Int → Int → ((List Int) × Int × Unit) → (Int → ((List Int) × Int × Unit) → Option α) → (((List Int) × Int × Unit) → List Int → Option α) → Option α := Classical.choose spec_l32Rd_nat_J5.ex α
theorem spec_l32Rd_nat_J5.eq : @spec_l32Rd_nat_J5 = @spec_l32Rd_nat_J5.b := funext fun α => congrFun (Classical.choose_spec spec_l32Rd_nat_J5.ex) α
noncomputable def spec_l32Rd_nat_J3.b {α : Type} (N : Nat) (v52 : Int) (v53 : Int) (v54 : (List Int) × Int × Unit) (k0 : Int → ((List Int) × Int × Unit) → Option α) (k1 : ((List Int) × Int × Unit) → List Int → Option α) : Option α :=
  let x55 := (decide (v53 = (0 : Int)))
  bif x55 then
    spec_l32Rd_pick N (24 : Int) v54
      (fun x56 x57 =>
        k0 x56 x57)
  else
    spec_l32Rd_nat_J5 N v52 v53 v54
      (fun x87 x88 =>
        k0 x87 x88)
      (fun x89 x90 =>
        k1 x89 x90)
theorem spec_l32Rd_nat_J3.ex : ∃ f : ((α : Type) → Nat → Int → Int → ((List Int) × Int × Unit) → (Int → ((List Int) × Int × Unit) → Option α) → (((List Int) × Int × Unit) → List Int → Option α) → Option α), f = fun α => @spec_l32Rd_nat_J3.b α := ⟨_, rfl⟩
noncomputable def spec_l32Rd_nat_J3 {α : Type} : Nat → Int → Int → ((List Int) × Int × Unit) → (Int → ((List Int) × Int × Unit) → Option α) → (((List Int) × Int × Unit) → List Int → Option α) → Option α := Classical.choose spec_l32Rd_nat_J3.ex α
theorem spec_l32Rd_nat_J3.eq : @spec_l32Rd_nat_J3 = @spec_l32Rd_nat_J3.b := funext fun α => congrFun (Classical.choose_spec spec_l32Rd_nat_J3.ex) α
noncomputable def spec_l32Rd_nat_J16.b {α : Type} (N : Nat) (v107 : Int) (v108 : Int) (v109 : Int) (v110 : Int) (v111 : (List Int) × Int × Unit) (v112 : List Int) (k0 : Int → Int → Int → Int → ((List Int) × Int × Unit) → List Int → Option α) : Option α :=
  let x113 := (decide (v108 = (0 : Int)))
  bif x113 then
    k0 v107 v108 v109 (65535 : Int) v111 v112
  else
    k0 v107 v108 v109 v110 v111 v112
theorem spec_l32Rd_nat_J16.ex : ∃ f : ((α : Type) → Nat → Int → Int → Int → Int → ((List Int) × Int × Unit) → List Int → (Int → Int → Int → Int → ((List Int) × Int × Unit) → List Int → Option α) → Option α), f = fun α => @spec_l32Rd_nat_J16.b α := ⟨_, rfl⟩
noncomputable def spec_l32Rd_nat_J16 {α : Type} : Nat → Int → Int → Int → Int → ((List Int) × Int × Unit) → List Int → (Int → Int → Int → Int → ((List Int) × Int × Unit) → List Int → Option α) → Option α := Classical.choose spec_l32Rd_nat_J16.ex α
theorem spec_l32Rd_nat_J16.eq : @spec_l32Rd_nat_J16 = @spec_l32Rd_nat_J16.b := funext fun α => congrFun (Classical.choose_spec spec_l32Rd_nat_J16.ex) α
noncomputable def spec_l32Rd_nat_J18.b {α : Type} (N : Nat) (v120 : Int) (v121 : Int) (v122 : Int) (v123 : Int) (v124 : (List Int) × Int × Unit) (v125 : List Int) (k0 : Int → Int → Int → Int → ((List Int) × Int × Unit) → List Int → Option α) : Option α :=
  let x126 := (decide (v121 = (1 : Int)))
  bif x126 then
    k0 v120 v121 v122 (0 : Int) v124 v125
  else
    k0 v120 v121 v122 v123 v124 v125
theorem spec_l32Rd_nat_J18.ex : ∃ f : ((α : Type) → Nat → Int → Int → Int → Int → ((List Int) × Int × Unit) → List Int → (Int → Int → Int → Int → ((List Int) × Int × Unit) → List Int → Option α) → Option α), f = fun α => @spec_l32Rd_nat_J18.b α := ⟨_, rfl⟩
noncomputable def spec_l32Rd_nat_J18 {α : Type} : Nat → Int → Int → Int → Int → ((List Int) × Int × Unit) → List Int → (Int → Int → Int → Int → ((List Int) × Int × Unit) → List Int → Option α) → Option α := Classical.choose spec_l32Rd_nat_J18.ex α
theorem spec_l32Rd_nat_J18.eq : @spec_l32Rd_nat_J18 = @spec_l32Rd_nat_J18.b := funext fun α => congrFun (Classical.choose_spec spec_l32Rd_nat_J18.ex) α
noncomputable def spec_l32Rd_nat_L1r {α : Type} (N : Nat) (next : Int → Int → Int → ((List Int) × Int × Unit) → List Int → Option α) (k0 : Int → ((List Int) × Int × Unit) → List Int → Option α) (v95 : Int) (v96 : Int) (v97 : Int) (v98 : (List Int) × Int × Unit) (v99 : List Int) : Option α :=
  let x100 := decide (v97 < v95)
  bif x100 then
    spec_l32Rd_pick N (256 : Int) v98
      (fun x101 x102 =>
        let x103 := (IntKind.i64.wrap (x101 * (256 : Int)))
        spec_l32Rd_pick N (256 : Int) x102
          (fun x104 x105 =>
            let x106 := IntKind.i64.wrap (x103 + x104)
            spec_l32Rd_nat_J16 N v95 v96 v97 x106 x105 v99
              (fun x114 x115 x116 x117 x118 x119 =>
                spec_l32Rd_nat_J18 N x114 x115 x116 x117 x118 x119
                  (fun x127 x128 x129 x130 x131 x132 =>
                    let x133 := [x130]
                    bif decide (x132.length + x133.length ≤ 8796093022208) then
                      let x134 := x132 ++ x133
                      let x135 := (IntKind.i64.wrap (x129 + (1 : Int)))
                      next x127 x128 x135 x131 x134
                    else
                      none))))
  else
    k0 v95 v98 v99
noncomputable def spec_l32Rd_nat_L1.b {α : Type} (N n : Nat) (v95 : Int) (v96 : Int) (v97 : Int) (v98 : (List Int) × Int × Unit) (v99 : List Int) (k0 : Int → ((List Int) × Int × Unit) → List Int → Option α) : Option α :=
  Nat.rec (motive := fun _ => Int → Int → Int → ((List Int) × Int × Unit) → List Int → Option α) (fun _ _ _ _ _ => none) (fun _ next => spec_l32Rd_nat_L1r N next k0) n v95 v96 v97 v98 v99
theorem spec_l32Rd_nat_L1.ex : ∃ f : ((α : Type) → Nat → Nat → Int → Int → Int → ((List Int) × Int × Unit) → List Int → (Int → ((List Int) × Int × Unit) → List Int → Option α) → Option α), f = fun α => @spec_l32Rd_nat_L1.b α := ⟨_, rfl⟩
noncomputable def spec_l32Rd_nat_L1 {α : Type} : Nat → Nat → Int → Int → Int → ((List Int) × Int × Unit) → List Int → (Int → ((List Int) × Int × Unit) → List Int → Option α) → Option α := Classical.choose spec_l32Rd_nat_L1.ex α
theorem spec_l32Rd_nat_L1.eq : @spec_l32Rd_nat_L1 = @spec_l32Rd_nat_L1.b := funext fun α => congrFun (Classical.choose_spec spec_l32Rd_nat_L1.ex) α
theorem spec_l32Rd_nat_L1.zero {α : Type} (N : Nat) (v95 : Int) (v96 : Int) (v97 : Int) (v98 : (List Int) × Int × Unit) (v99 : List Int) (k0 : Int → ((List Int) × Int × Unit) → List Int → Option α) : spec_l32Rd_nat_L1 N 0 v95 v96 v97 v98 v99 k0 = none := by rw [spec_l32Rd_nat_L1.eq]; rfl
theorem spec_l32Rd_nat_L1.succ {α : Type} (N n : Nat) (v95 : Int) (v96 : Int) (v97 : Int) (v98 : (List Int) × Int × Unit) (v99 : List Int) (k0 : Int → ((List Int) × Int × Unit) → List Int → Option α) : spec_l32Rd_nat_L1 N (n + 1) v95 v96 v97 v98 v99 k0 = spec_l32Rd_nat_L1r N (fun y0 y1 y2 y3 y4 => spec_l32Rd_nat_L1 N n y0 y1 y2 y3 y4 k0) k0 v95 v96 v97 v98 v99 := by rw [spec_l32Rd_nat_L1.eq]; rfl
noncomputable def spec_l32Rd_nat_J21.b {α : Type} (N : Nat) (v139 : Int) (v140 : (List Int) × Int × Unit) (v141 : List Int) (k0 : ((List Int) × Int × Unit) → List Int → Option α) : Option α :=
  let x142 := (decide ((0 : Int) < v139))
  bif x142 then
    let x143 := (IntKind.i64.wrap (v139 - (1 : Int)))
    bif (decide (x143 < (0 : Int))) then
      none
    else
      bif decide (x143.toNat < v141.length) then
        match v141[x143.toNat]? with
        | some x144 =>
          let x145 := (decide (x144 = (0 : Int)))
          bif x145 then
            let x146 := (IntKind.i64.wrap (v139 - (1 : Int)))
            spec_l32Rd_pick N (16 : Int) v140
              (fun x147 x148 =>
                let x149 := IntKind.u64.wrap x147
                bif (decide (x149 < (0 : Int))) then
                  none
                else
                  let x150 := (shlI .i64 (1 : Int) x149)
                  bif (decide (x146 < (0 : Int))) then
                    none
                  else
                    bif decide (x146.toNat < v141.length) then
                      match v141[x146.toNat]? with
                      | some x151 =>
                        let x152 := v141.set x146.toNat x150
                        k0 x148 x152
                      | none => none
                    else
                      none)
          else
            k0 v140 v141
        | none => none
      else
        none
  else
    k0 v140 v141
theorem spec_l32Rd_nat_J21.ex : ∃ f : ((α : Type) → Nat → Int → ((List Int) × Int × Unit) → List Int → (((List Int) × Int × Unit) → List Int → Option α) → Option α), f = fun α => @spec_l32Rd_nat_J21.b α := ⟨_, rfl⟩
noncomputable def spec_l32Rd_nat_J21 {α : Type} : Nat → Int → ((List Int) × Int × Unit) → List Int → (((List Int) × Int × Unit) → List Int → Option α) → Option α := Classical.choose spec_l32Rd_nat_J21.ex α
theorem spec_l32Rd_nat_J21.eq : @spec_l32Rd_nat_J21 = @spec_l32Rd_nat_J21.b := funext fun α => congrFun (Classical.choose_spec spec_l32Rd_nat_J21.ex) α
/-- (*loop.example/pinfold/spec.l32Rd).nat -/
noncomputable def spec_l32Rd_nat.b {α : Type} (N : Nat) (a13 : (List Int) × Int × Unit) (k0 : ((List Int) × Int × Unit) → List Int → Option α) : Option α :=
  spec_l32Rd_pick N (4 : Int) a13
    (fun x48 x49 =>
      spec_l32Rd_pick N (16 : Int) x49
        (fun x50 x51 =>
          spec_l32Rd_nat_J3 N x48 x50 x51
            (fun x91 x92 =>
              spec_l32Rd_pick N (5 : Int) x92
                (fun x93 x94 =>
                  spec_l32Rd_nat_L1 N N x91 x93 (0 : Int) x94 []
                    (fun x136 x137 x138 =>
                      spec_l32Rd_nat_J21 N x136 x137 x138
                        (fun x153 x154 =>
                          k0 x153 x154))))
            (fun x155 x156 =>
              k0 x155 x156)))
theorem spec_l32Rd_nat.ex : ∃ f : ((α : Type) → Nat → ((List Int) × Int × Unit) → (((List Int) × Int × Unit) → List Int → Option α) → Option α), f = fun α => @spec_l32Rd_nat.b α := ⟨_, rfl⟩
noncomputable def spec_l32Rd_nat {α : Type} : Nat → ((List Int) × Int × Unit) → (((List Int) × Int × Unit) → List Int → Option α) → Option α := Classical.choose spec_l32Rd_nat.ex α
theorem spec_l32Rd_nat.eq : @spec_l32Rd_nat = @spec_l32Rd_nat.b := funext fun α => congrFun (Classical.choose_spec spec_l32Rd_nat.ex) α

noncomputable def spec_l32Rd_raw_L1r {α : Type} (N : Nat) (next : ((List Int) × Int × Unit) → List Int → Option α) (k0 : ((List Int) × Int × Unit) → List Int → Option α) (v183 : (List Int) × Int × Unit) (v184 : List Int) : Option α :=
  let x185 := ((v184.length : Nat) : Int)
  let x186 := (decide (x185 ≤ (256 : Int)))
  bif x186 then
    let x187 := [(1 : Int)]
    bif decide (v184.length + x187.length ≤ 8796093022208) then
      let x188 := v184 ++ x187
      next v183 x188
    else
      none
  else
    k0 v183 v184
noncomputable def spec_l32Rd_raw_L1.b {α : Type} (N n : Nat) (v183 : (List Int) × Int × Unit) (v184 : List Int) (k0 : ((List Int) × Int × Unit) → List Int → Option α) : Option α :=
  Nat.rec (motive := fun _ => ((List Int) × Int × Unit) → List Int → Option α) (fun _ _ => none) (fun _ next => spec_l32Rd_raw_L1r N next k0) n v183 v184
theorem spec_l32Rd_raw_L1.ex : ∃ f : ((α : Type) → Nat → Nat → ((List Int) × Int × Unit) → List Int → (((List Int) × Int × Unit) → List Int → Option α) → Option α), f = fun α => @spec_l32Rd_raw_L1.b α := ⟨_, rfl⟩
noncomputable def spec_l32Rd_raw_L1 {α : Type} : Nat → Nat → ((List Int) × Int × Unit) → List Int → (((List Int) × Int × Unit) → List Int → Option α) → Option α := Classical.choose spec_l32Rd_raw_L1.ex α
theorem spec_l32Rd_raw_L1.eq : @spec_l32Rd_raw_L1 = @spec_l32Rd_raw_L1.b := funext fun α => congrFun (Classical.choose_spec spec_l32Rd_raw_L1.ex) α
theorem spec_l32Rd_raw_L1.zero {α : Type} (N : Nat) (v183 : (List Int) × Int × Unit) (v184 : List Int) (k0 : ((List Int) × Int × Unit) → List Int → Option α) : spec_l32Rd_raw_L1 N 0 v183 v184 k0 = none := by rw [spec_l32Rd_raw_L1.eq]; rfl
theorem spec_l32Rd_raw_L1.succ {α : Type} (N n : Nat) (v183 : (List Int) × Int × Unit) (v184 : List Int) (k0 : ((List Int) × Int × Unit) → List Int → Option α) : spec_l32Rd_raw_L1 N (n + 1) v183 v184 k0 = spec_l32Rd_raw_L1r N (fun y0 y1 => spec_l32Rd_raw_L1 N n y0 y1 k0) k0 v183 v184 := by rw [spec_l32Rd_raw_L1.eq]; rfl
noncomputable def spec_l32Rd_raw_J9.b {α : Type} (N : Nat) (v179 : Int) (v180 : (List Int) × Int × Unit) (v181 : List Int) (k0 : ((List Int) × Int × Unit) → List Int → Option α) : Option α :=
  let x182 := (decide (v179 = (3 : Int)))
  bif x182 then
    spec_l32Rd_raw_L1 N N v180 v181
      (fun x189 x190 =>
        k0 x189 x190)
  else
    k0 v180 v181
theorem spec_l32Rd_raw_J9.ex : ∃ f : ((α : Type) → Nat → Int → ((List Int) × Int × Unit) → List Int → (((List Int) × Int × Unit) → List Int → Option α) → Option α), f = fun α => @spec_l32Rd_raw_J9.b α := ⟨_, rfl⟩
noncomputable def spec_l32Rd_raw_J9 {α : Type} : Nat → Int → ((List Int) × Int × Unit) → List Int → (((List Int) × Int × Unit) → List Int → Option α) → Option α := Classical.choose spec_l32Rd_raw_J9.ex α
theorem spec_l32Rd_raw_J9.eq : @spec_l32Rd_raw_J9 = @spec_l32Rd_raw_J9.b := funext fun α => congrFun (Classical.choose_spec spec_l32Rd_raw_J9.ex) α
noncomputable def spec_l32Rd_raw_J7.b {α : Type} (N : Nat) (v173 : Int) (v174 : (List Int) × Int × Unit) (v175 : List Int) (k0 : ((List Int) × Int × Unit) → List Int → Option α) : Option α :=
  let x176 := (decide (v173 = (2 : Int)))
  bif x176 then
    let x177 := [(-1 : Int)]
    bif decide (v175.length + x177.length ≤ 8796093022208) then
      let x178 := v175 ++ x177
      k0 v174 x178
    else
      none
  else
    spec_l32Rd_raw_J9 N v173 v174 v175
      (fun x191 x192 =>
        k0 x191 x192)
theorem spec_l32Rd_raw_J7.ex : ∃ f : ((α : Type) → Nat → Int → ((List Int) × Int × Unit) → List Int → (((List Int) × Int × Unit) → List Int → Option α) → Option α), f = fun α => @spec_l32Rd_raw_J7.b α := ⟨_, rfl⟩
noncomputable def spec_l32Rd_raw_J7 {α : Type} : Nat → Int → ((List Int) × Int × Unit) → List Int → (((List Int) × Int × Unit) → List Int → Option α) → Option α := Classical.choose spec_l32Rd_raw_J7.ex α
theorem spec_l32Rd_raw_J7.eq : @spec_l32Rd_raw_J7 = @spec_l32Rd_raw_J7.b := funext fun α => congrFun (Classical.choose_spec spec_l32Rd_raw_J7.ex) α
noncomputable def spec_l32Rd_raw_J5.b {α : Type} (N : Nat) (v167 : Int) (v168 : (List Int) × Int × Unit) (v169 : List Int) (k0 : ((List Int) × Int × Unit) → List Int → Option α) : Option α :=
  let x170 := (decide (v167 = (1 : Int)))
  bif x170 then
    let x171 := [(65536 : Int)]
    bif decide (v169.length + x171.length ≤ 8796093022208) then
      let x172 := v169 ++ x171
      k0 v168 x172
    else
      none
  else
    spec_l32Rd_raw_J7 N v167 v168 v169
      (fun x193 x194 =>
        k0 x193 x194)
theorem spec_l32Rd_raw_J5.ex : ∃ f : ((α : Type) → Nat → Int → ((List Int) × Int × Unit) → List Int → (((List Int) × Int × Unit) → List Int → Option α) → Option α), f = fun α => @spec_l32Rd_raw_J5.b α := ⟨_, rfl⟩
noncomputable def spec_l32Rd_raw_J5 {α : Type} : Nat → Int → ((List Int) × Int × Unit) → List Int → (((List Int) × Int × Unit) → List Int → Option α) → Option α := Classical.choose spec_l32Rd_raw_J5.ex α
theorem spec_l32Rd_raw_J5.eq : @spec_l32Rd_raw_J5 = @spec_l32Rd_raw_J5.b := funext fun α => congrFun (Classical.choose_spec spec_l32Rd_raw_J5.ex) α
noncomputable def spec_l32Rd_raw_J3.b {α : Type} (N : Nat) (v161 : Int) (v162 : (List Int) × Int × Unit) (v163 : List Int) (k0 : ((List Int) × Int × Unit) → List Int → Option α) : Option α :=
  let x164 := (decide (v161 = (0 : Int)))
  bif x164 then
    let x165 := [(0 : Int)]
    bif decide (v163.length + x165.length ≤ 8796093022208) then
      let x166 := v163 ++ x165
      k0 v162 x166
    else
      none
  else
    spec_l32Rd_raw_J5 N v161 v162 v163
      (fun x195 x196 =>
        k0 x195 x196)
theorem spec_l32Rd_raw_J3.ex : ∃ f : ((α : Type) → Nat → Int → ((List Int) × Int × Unit) → List Int → (((List Int) × Int × Unit) → List Int → Option α) → Option α), f = fun α => @spec_l32Rd_raw_J3.b α := ⟨_, rfl⟩
noncomputable def spec_l32Rd_raw_J3 {α : Type} : Nat → Int → ((List Int) × Int × Unit) → List Int → (((List Int) × Int × Unit) → List Int → Option α) → Option α := Classical.choose spec_l32Rd_raw_J3.ex α
theorem spec_l32Rd_raw_J3.eq : @spec_l32Rd_raw_J3 = @spec_l32Rd_raw_J3.b := funext fun α => congrFun (Classical.choose_spec spec_l32Rd_raw_J3.ex) α
/-- (*loop.example/pinfold/spec.l32Rd).raw -/
noncomputable def spec_l32Rd_raw.b {α : Type} (N : Nat) (a12 : (List Int) × Int × Unit) (k0 : ((List Int) × Int × Unit) → List Int → Option α) : Option α :=
  spec_l32Rd_nat N a12
    (fun x157 x158 =>
      spec_l32Rd_pick N (80 : Int) x157
        (fun x159 x160 =>
          spec_l32Rd_raw_J3 N x159 x160 x158
            (fun x197 x198 =>
              k0 x197 x198)))
theorem spec_l32Rd_raw.ex : ∃ f : ((α : Type) → Nat → ((List Int) × Int × Unit) → (((List Int) × Int × Unit) → List Int → Option α) → Option α), f = fun α => @spec_l32Rd_raw.b α := ⟨_, rfl⟩
noncomputable def spec_l32Rd_raw {α : Type} : Nat → ((List Int) × Int × Unit) → (((List Int) × Int × Unit) → List Int → Option α) → Option α := Classical.choose spec_l32Rd_raw.ex α
theorem spec_l32Rd_raw.eq : @spec_l32Rd_raw = @spec_l32Rd_raw.b := funext fun α => congrFun (Classical.choose_spec spec_l32Rd_raw.ex) α

noncomputable def spec_NatOk_L0r {α : Type} (N : Nat) (next : List Int → Int → Option α) (k0 : Bool → Option α) (k1 : List Int → Option α) (v208 : List Int) (v209 : Int) : Option α :=
  let x210 := ((v208.length : Nat) : Int)
  let x211 := decide (v209 < x210)
  bif x211 then
    bif (decide (v209 < (0 : Int))) then
      none
    else
      match v208[v209.toNat]? with
      | some x212 =>
        let x213 := (decide (x212 < (0 : Int)))
        bif x213 then
          k0 false
        else
          bif (decide (v209 < (0 : Int))) then
            none
          else
            match v208[v209.toNat]? with
            | some x214 =>
              let x215 := (decide ((65536 : Int) ≤ x214))
              bif x215 then
                k0 false
              else
                let x216 := (IntKind.i64.wrap (v209 + (1 : Int)))
                next v208 x216
            | none => none
      | none => none
  else
    k1 v208
noncomputable def spec_NatOk_L0.b {α : Type} (N n : Nat) (v208 : List Int) (v209 : Int) (k0 : Bool → Option α) (k1 : List Int → Option α) : Option α :=
  Nat.rec (motive := fun _ => List Int → Int → Option α) (fun _ _ => none) (fun _ next => spec_NatOk_L0r N next k0 k1) n v208 v209
theorem spec_NatOk_L0.ex : ∃ f : ((α : Type) → Nat → Nat → List Int → Int → (Bool → Option α) → (List Int → Option α) → Option α), f = fun α => @spec_NatOk_L0.b α := ⟨_, rfl⟩
noncomputable def spec_NatOk_L0 {α : Type} : Nat → Nat → List Int → Int → (Bool → Option α) → (List Int → Option α) → Option α := Classical.choose spec_NatOk_L0.ex α
theorem spec_NatOk_L0.eq : @spec_NatOk_L0 = @spec_NatOk_L0.b := funext fun α => congrFun (Classical.choose_spec spec_NatOk_L0.ex) α
theorem spec_NatOk_L0.zero {α : Type} (N : Nat) (v208 : List Int) (v209 : Int) (k0 : Bool → Option α) (k1 : List Int → Option α) : spec_NatOk_L0 N 0 v208 v209 k0 k1 = none := by rw [spec_NatOk_L0.eq]; rfl
theorem spec_NatOk_L0.succ {α : Type} (N n : Nat) (v208 : List Int) (v209 : Int) (k0 : Bool → Option α) (k1 : List Int → Option α) : spec_NatOk_L0 N (n + 1) v208 v209 k0 k1 = spec_NatOk_L0r N (fun y0 y1 => spec_NatOk_L0 N n y0 y1 k0 k1) k0 k1 v208 v209 := by rw [spec_NatOk_L0.eq]; rfl
/-- loop.example/pinfold/spec.NatOk -/
noncomputable def spec_NatOk.b {α : Type} (N : Nat) (a205 : List Int) (k0 : Bool → Option α) : Option α :=
  let x206 := ((a205.length : Nat) : Int)
  let x207 := (decide ((256 : Int) < x206))
  bif x207 then
    k0 false
  else
    spec_NatOk_L0 N N a205 (0 : Int)
      (fun x217 =>
        k0 x217)
      (fun x218 =>
        let x219 := ((x218.length : Nat) : Int)
        let x220 := (decide (x219 = (0 : Int)))
        bif x220 then
          k0 true
        else
          let x221 := ((x218.length : Nat) : Int)
          let x222 := (IntKind.i64.wrap (x221 - (1 : Int)))
          bif (decide (x222 < (0 : Int))) then
            none
          else
            match x218[x222.toNat]? with
            | some x223 =>
              let x224 := (!(decide (x223 = (0 : Int))))
              k0 x224
            | none => none)
theorem spec_NatOk.ex : ∃ f : ((α : Type) → Nat → List Int → (Bool → Option α) → Option α), f = fun α => @spec_NatOk.b α := ⟨_, rfl⟩
noncomputable def spec_NatOk {α : Type} : Nat → List Int → (Bool → Option α) → Option α := Classical.choose spec_NatOk.ex α
theorem spec_NatOk.eq : @spec_NatOk = @spec_NatOk.b := funext fun α => congrFun (Classical.choose_spec spec_NatOk.ex) α

noncomputable def spec_l5Trim_L0r {α : Type} (N : Nat) (next : List Int → Int → Option α) (k0 : List Int → Int → Option α) (v284 : List Int) (v285 : Int) : Option α :=
  let x286 := (decide ((0 : Int) < v285))
  bif x286 then
    let x287 := (IntKind.i64.wrap (v285 - (1 : Int)))
    bif (decide (x287 < (0 : Int))) then
      none
    else
      match v284[x287.toNat]? with
      | some x288 =>
        let x289 := (decide (x288 = (0 : Int)))
        bif x289 then
          let x290 := (IntKind.i64.wrap (v285 - (1 : Int)))
          next v284 x290
        else
          k0 v284 v285
      | none => none
  else
    k0 v284 v285
noncomputable def spec_l5Trim_L0.b {α : Type} (N n : Nat) (v284 : List Int) (v285 : Int) (k0 : List Int → Int → Option α) : Option α :=
  Nat.rec (motive := fun _ => List Int → Int → Option α) (fun _ _ => none) (fun _ next => spec_l5Trim_L0r N next k0) n v284 v285
theorem spec_l5Trim_L0.ex : ∃ f : ((α : Type) → Nat → Nat → List Int → Int → (List Int → Int → Option α) → Option α), f = fun α => @spec_l5Trim_L0.b α := ⟨_, rfl⟩
noncomputable def spec_l5Trim_L0 {α : Type} : Nat → Nat → List Int → Int → (List Int → Int → Option α) → Option α := Classical.choose spec_l5Trim_L0.ex α
theorem spec_l5Trim_L0.eq : @spec_l5Trim_L0 = @spec_l5Trim_L0.b := funext fun α => congrFun (Classical.choose_spec spec_l5Trim_L0.ex) α
theorem spec_l5Trim_L0.zero {α : Type} (N : Nat) (v284 : List Int) (v285 : Int) (k0 : List Int → Int → Option α) : spec_l5Trim_L0 N 0 v284 v285 k0 = none := by rw [spec_l5Trim_L0.eq]; rfl
theorem spec_l5Trim_L0.succ {α : Type} (N n : Nat) (v284 : List Int) (v285 : Int) (k0 : List Int → Int → Option α) : spec_l5Trim_L0 N (n + 1) v284 v285 k0 = spec_l5Trim_L0r N (fun y0 y1 => spec_l5Trim_L0 N n y0 y1 k0) k0 v284 v285 := by rw [spec_l5Trim_L0.eq]; rfl
noncomputable def spec_l5Trim_L2r {α : Type} (N : Nat) (next : List Int → Int → Int → List Int → Option α) (k0 : List Int → Option α) (v293 : List Int) (v294 : Int) (v295 : Int) (v296 : List Int) : Option α :=
  let x297 := decide (v295 < v294)
  bif x297 then
    bif (decide (v295 < (0 : Int))) then
      none
    else
      match v293[v295.toNat]? with
      | some x298 =>
        let x299 := [x298]
        bif decide (v296.length + x299.length ≤ 8796093022208) then
          let x300 := v296 ++ x299
          let x301 := (IntKind.i64.wrap (v295 + (1 : Int)))
          next v293 v294 x301 x300
        else
          none
      | none => none
  else
    k0 v296
noncomputable def spec_l5Trim_L2.b {α : Type} (N n : Nat) (v293 : List Int) (v294 : Int) (v295 : Int) (v296 : List Int) (k0 : List Int → Option α) : Option α :=
  Nat.rec (motive := fun _ => List Int → Int → Int → List Int → Option α) (fun _ _ _ _ => none) (fun _ next => spec_l5Trim_L2r N next k0) n v293 v294 v295 v296
theorem spec_l5Trim_L2.ex : ∃ f : ((α : Type) → Nat → Nat → List Int → Int → Int → List Int → (List Int → Option α) → Option α), f = fun α => @spec_l5Trim_L2.b α := ⟨_, rfl⟩
noncomputable def spec_l5Trim_L2 {α : Type} : Nat → Nat → List Int → Int → Int → List Int → (List Int → Option α) → Option α := Classical.choose spec_l5Trim_L2.ex α
theorem spec_l5Trim_L2.eq : @spec_l5Trim_L2 = @spec_l5Trim_L2.b := funext fun α => congrFun (Classical.choose_spec spec_l5Trim_L2.ex) α
theorem spec_l5Trim_L2.zero {α : Type} (N : Nat) (v293 : List Int) (v294 : Int) (v295 : Int) (v296 : List Int) (k0 : List Int → Option α) : spec_l5Trim_L2 N 0 v293 v294 v295 v296 k0 = none := by rw [spec_l5Trim_L2.eq]; rfl
theorem spec_l5Trim_L2.succ {α : Type} (N n : Nat) (v293 : List Int) (v294 : Int) (v295 : Int) (v296 : List Int) (k0 : List Int → Option α) : spec_l5Trim_L2 N (n + 1) v293 v294 v295 v296 k0 = spec_l5Trim_L2r N (fun y0 y1 y2 y3 => spec_l5Trim_L2 N n y0 y1 y2 y3 k0) k0 v293 v294 v295 v296 := by rw [spec_l5Trim_L2.eq]; rfl
/-- loop.example/pinfold/spec.l5Trim -/
noncomputable def spec_l5Trim.b {α : Type} (N : Nat) (a282 : List Int) (k0 : List Int → Option α) : Option α :=
  let x283 := ((a282.length : Nat) : Int)
  spec_l5Trim_L0 N N a282 x283
    (fun x291 x292 =>
      spec_l5Trim_L2 N N x291 x292 (0 : Int) []
        (fun x302 =>
          k0 x302))
theorem spec_l5Trim.ex : ∃ f : ((α : Type) → Nat → List Int → (List Int → Option α) → Option α), f = fun α => @spec_l5Trim.b α := ⟨_, rfl⟩
noncomputable def spec_l5Trim {α : Type} : Nat → List Int → (List Int → Option α) → Option α := Classical.choose spec_l5Trim.ex α
theorem spec_l5Trim.eq : @spec_l5Trim = @spec_l5Trim.b := funext fun α => congrFun (Classical.choose_spec spec_l5Trim.ex) α

noncomputable def spec_l5Mul_L2r {α : Type} (N : Nat) (next : List Int → List Int → Int → Int → Int → List Int → Option α) (k0 : List Int → List Int → Int → Int → List Int → Option α) (v250 : List Int) (v251 : List Int) (v252 : Int) (v253 : Int) (v254 : Int) (v255 : List Int) : Option α :=
  let x256 := ((v251.length : Nat) : Int)
  let x257 := decide (v254 < x256)
  bif x257 then
    let x258 := IntKind.i64.wrap (v252 + v254)
    bif (decide (x258 < (0 : Int))) then
      none
    else
      bif decide (x258.toNat < v255.length) then
        match v255[x258.toNat]? with
        | some x259 =>
          bif (decide (v252 < (0 : Int))) then
            none
          else
            match v250[v252.toNat]? with
            | some x260 =>
              bif (decide (v254 < (0 : Int))) then
                none
              else
                match v251[v254.toNat]? with
                | some x261 =>
                  let x262 := IntKind.i64.wrap (x260 * x261)
                  let x263 := IntKind.i64.wrap (x259 + x262)
                  let x264 := IntKind.i64.wrap (x263 + v253)
                  let x265 := IntKind.i64.wrap (v252 + v254)
                  let x266 := (Int.tmod x264 (65536 : Int))
                  bif (decide (x265 < (0 : Int))) then
                    none
                  else
                    bif decide (x265.toNat < v255.length) then
                      match v255[x265.toNat]? with
                      | some x267 =>
                        let x268 := v255.set x265.toNat x266
                        let x269 := (IntKind.i64.wrap (Int.tdiv x264 (65536 : Int)))
                        let x270 := (IntKind.i64.wrap (v254 + (1 : Int)))
                        next v250 v251 v252 x269 x270 x268
                      | none => none
                    else
                      none
                | none => none
            | none => none
        | none => none
      else
        none
  else
    k0 v250 v251 v252 v253 v255
noncomputable def spec_l5Mul_L2.b {α : Type} (N n : Nat) (v250 : List Int) (v251 : List Int) (v252 : Int) (v253 : Int) (v254 : Int) (v255 : List Int) (k0 : List Int → List Int → Int → Int → List Int → Option α) : Option α :=
  Nat.rec (motive := fun _ => List Int → List Int → Int → Int → Int → List Int → Option α) (fun _ _ _ _ _ _ => none) (fun _ next => spec_l5Mul_L2r N next k0) n v250 v251 v252 v253 v254 v255
theorem spec_l5Mul_L2.ex : ∃ f : ((α : Type) → Nat → Nat → List Int → List Int → Int → Int → Int → List Int → (List Int → List Int → Int → Int → List Int → Option α) → Option α), f = fun α => @spec_l5Mul_L2.b α := ⟨_, rfl⟩
noncomputable def spec_l5Mul_L2 {α : Type} : Nat → Nat → List Int → List Int → Int → Int → Int → List Int → (List Int → List Int → Int → Int → List Int → Option α) → Option α := Classical.choose spec_l5Mul_L2.ex α
theorem spec_l5Mul_L2.eq : @spec_l5Mul_L2 = @spec_l5Mul_L2.b := funext fun α => congrFun (Classical.choose_spec spec_l5Mul_L2.ex) α
theorem spec_l5Mul_L2.zero {α : Type} (N : Nat) (v250 : List Int) (v251 : List Int) (v252 : Int) (v253 : Int) (v254 : Int) (v255 : List Int) (k0 : List Int → List Int → Int → Int → List Int → Option α) : spec_l5Mul_L2 N 0 v250 v251 v252 v253 v254 v255 k0 = none := by rw [spec_l5Mul_L2.eq]; rfl
theorem spec_l5Mul_L2.succ {α : Type} (N n : Nat) (v250 : List Int) (v251 : List Int) (v252 : Int) (v253 : Int) (v254 : Int) (v255 : List Int) (k0 : List Int → List Int → Int → Int → List Int → Option α) : spec_l5Mul_L2 N (n + 1) v250 v251 v252 v253 v254 v255 k0 = spec_l5Mul_L2r N (fun y0 y1 y2 y3 y4 y5 => spec_l5Mul_L2 N n y0 y1 y2 y3 y4 y5 k0) k0 v250 v251 v252 v253 v254 v255 := by rw [spec_l5Mul_L2.eq]; rfl
noncomputable def spec_l5Mul_L0r {α : Type} (N : Nat) (next : List Int → List Int → Int → List Int → Option α) (k0 : List Int → Option α) (v244 : List Int) (v245 : List Int) (v246 : Int) (v247 : List Int) : Option α :=
  let x248 := ((v244.length : Nat) : Int)
  let x249 := decide (v246 < x248)
  bif x249 then
    spec_l5Mul_L2 N N v244 v245 v246 (0 : Int) (0 : Int) v247
      (fun x271 x272 x273 x274 x275 =>
        let x276 := ((x272.length : Nat) : Int)
        let x277 := IntKind.i64.wrap (x273 + x276)
        bif (decide (x277 < (0 : Int))) then
          none
        else
          bif decide (x277.toNat < x275.length) then
            match x275[x277.toNat]? with
            | some x278 =>
              let x279 := x275.set x277.toNat x274
              let x280 := (IntKind.i64.wrap (x273 + (1 : Int)))
              next x271 x272 x280 x279
            | none => none
          else
            none)
  else
    k0 v247
noncomputable def spec_l5Mul_L0.b {α : Type} (N n : Nat) (v244 : List Int) (v245 : List Int) (v246 : Int) (v247 : List Int) (k0 : List Int → Option α) : Option α :=
  Nat.rec (motive := fun _ => List Int → List Int → Int → List Int → Option α) (fun _ _ _ _ => none) (fun _ next => spec_l5Mul_L0r N next k0) n v244 v245 v246 v247
theorem spec_l5Mul_L0.ex : ∃ f : ((α : Type) → Nat → Nat → List Int → List Int → Int → List Int → (List Int → Option α) → Option α), f = fun α => @spec_l5Mul_L0.b α := ⟨_, rfl⟩
noncomputable def spec_l5Mul_L0 {α : Type} : Nat → Nat → List Int → List Int → Int → List Int → (List Int → Option α) → Option α := Classical.choose spec_l5Mul_L0.ex α
theorem spec_l5Mul_L0.eq : @spec_l5Mul_L0 = @spec_l5Mul_L0.b := funext fun α => congrFun (Classical.choose_spec spec_l5Mul_L0.ex) α
theorem spec_l5Mul_L0.zero {α : Type} (N : Nat) (v244 : List Int) (v245 : List Int) (v246 : Int) (v247 : List Int) (k0 : List Int → Option α) : spec_l5Mul_L0 N 0 v244 v245 v246 v247 k0 = none := by rw [spec_l5Mul_L0.eq]; rfl
theorem spec_l5Mul_L0.succ {α : Type} (N n : Nat) (v244 : List Int) (v245 : List Int) (v246 : Int) (v247 : List Int) (k0 : List Int → Option α) : spec_l5Mul_L0 N (n + 1) v244 v245 v246 v247 k0 = spec_l5Mul_L0r N (fun y0 y1 y2 y3 => spec_l5Mul_L0 N n y0 y1 y2 y3 k0) k0 v244 v245 v246 v247 := by rw [spec_l5Mul_L0.eq]; rfl
/-- loop.example/pinfold/spec.l5Mul -/
noncomputable def spec_l5Mul.b {α : Type} (N : Nat) (a238 : List Int) (a239 : List Int) (k0 : List Int → Option α) : Option α :=
  let x240 := ((a238.length : Nat) : Int)
  let x241 := ((a239.length : Nat) : Int)
  let x242 := IntKind.i64.wrap (x240 + x241)
  bif (decide ((0 : Int) ≤ x242)) then
    bif decide (x242 ≤ x242) then
      bif (decide (x242 ≤ ((8796093022208 : Nat) : Int))) then
        let x243 := (List.replicate x242.toNat (0 : Int))
        spec_l5Mul_L0 N N a238 a239 (0 : Int) x243
          (fun x281 =>
            spec_l5Trim N x281
              (fun x303 =>
                k0 x303))
      else
        none
    else
      none
  else
    none
theorem spec_l5Mul.ex : ∃ f : ((α : Type) → Nat → List Int → List Int → (List Int → Option α) → Option α), f = fun α => @spec_l5Mul.b α := ⟨_, rfl⟩
noncomputable def spec_l5Mul {α : Type} : Nat → List Int → List Int → (List Int → Option α) → Option α := Classical.choose spec_l5Mul.ex α
theorem spec_l5Mul.eq : @spec_l5Mul = @spec_l5Mul.b := funext fun α => congrFun (Classical.choose_spec spec_l5Mul.ex) α

/-- loop.example/pinfold/spec.DrawNatGcd -/
noncomputable def spec_DrawNatGcd.b {α : Type} (N : Nat) (a4 : List Int) (k0 : List Int → List Int → Option α) : Option α :=
  spec_l32Open N a4
    (fun x11 =>
      spec_l32Rd_raw N x11
        (fun x199 x200 =>
          spec_l32Rd_raw N x199
            (fun x201 x202 =>
              spec_l32Rd_nat N x201
                (fun x203 x204 =>
                  spec_NatOk N x200
                    (fun x225 =>
                      bif x225 then
                        spec_NatOk N x202
                          (fun x226 =>
                            bif x226 then
                              let x227 := ((x200.length : Nat) : Int)
                              let x228 := ((x204.length : Nat) : Int)
                              let x229 := IntKind.i64.wrap (x227 + x228)
                              let x230 := (decide (x229 < (200 : Int)))
                              bif x230 then
                                let x231 := ((x202.length : Nat) : Int)
                                let x232 := ((x204.length : Nat) : Int)
                                let x233 := IntKind.i64.wrap (x231 + x232)
                                let x234 := (decide (x233 < (200 : Int)))
                                bif x234 then
                                  spec_l32Rd_pick N (3 : Int) x203
                                    (fun x235 _ =>
                                      let x237 := (decide ((0 : Int) < x235))
                                      bif x237 then
                                        spec_l5Mul N x200 x204
                                          (fun x304 =>
                                            spec_l5Mul N x202 x204
                                              (fun x305 =>
                                                k0 x304 x305))
                                      else
                                        k0 x200 x202)
                                else
                                  k0 x200 x202
                              else
                                k0 x200 x202
                            else
                              k0 x200 x202)
                      else
                        k0 x200 x202)))))
theorem spec_DrawNatGcd.ex : ∃ f : ((α : Type) → Nat → List Int → (List Int → List Int → Option α) → Option α), f = fun α => @spec_DrawNatGcd.b α := ⟨_, rfl⟩
noncomputable def spec_DrawNatGcd {α : Type} : Nat → List Int → (List Int → List Int → Option α) → Option α := Classical.choose spec_DrawNatGcd.ex α
theorem spec_DrawNatGcd.eq : @spec_DrawNatGcd = @spec_DrawNatGcd.b := funext fun α => congrFun (Classical.choose_spec spec_DrawNatGcd.ex) α

/-- loop.example/pinfold/impl.in -/
noncomputable def impl_in.b {α : Type} (N : Nat) (a335 : Int) (a336 : Int) (a337 : Int) (k0 : Bool → Option α) : Option α :=
  let x338 := decide (a336 ≤ a335)
  bif x338 then
    let x339 := decide (a335 ≤ a337)
    k0 x339
  else
    k0 false
theorem impl_in.ex : ∃ f : ((α : Type) → Nat → Int → Int → Int → (Bool → Option α) → Option α), f = fun α => @impl_in.b α := ⟨_, rfl⟩
noncomputable def impl_in {α : Type} : Nat → Int → Int → Int → (Bool → Option α) → Option α := Classical.choose impl_in.ex α
theorem impl_in.eq : @impl_in = @impl_in.b := funext fun α => congrFun (Classical.choose_spec impl_in.ex) α

/-- loop.example/pinfold/impl.NatOk$1 -/
noncomputable def impl_NatOk_1.b {α : Type} (N : Nat) (a334 : Int) (k0 : Bool → Option α) : Option α :=
  impl_in N a334 (0 : Int) (65535 : Int)
    (fun x340 =>
      let x341 := !x340
      k0 x341)
theorem impl_NatOk_1.ex : ∃ f : ((α : Type) → Nat → Int → (Bool → Option α) → Option α), f = fun α => @impl_NatOk_1.b α := ⟨_, rfl⟩
noncomputable def impl_NatOk_1 {α : Type} : Nat → Int → (Bool → Option α) → Option α := Classical.choose impl_NatOk_1.ex α
theorem impl_NatOk_1.eq : @impl_NatOk_1 = @impl_NatOk_1.b := funext fun α => congrFun (Classical.choose_spec impl_NatOk_1.ex) α

noncomputable def slices_IndexFunc_int_int__impl_NatOk_1_L0r {α : Type} (N : Nat) (next : List Int → Int → Int → Option α) (k0 : Int → Option α) (k1 : Option α) (v329 : List Int) (v330 : Int) (v331 : Int) : Option α :=
  let x332 := decide (v331 < v330)
  bif x332 then
    bif (decide (v331 < (0 : Int))) then
      none
    else
      match v329[v331.toNat]? with
      | some x333 =>
        impl_NatOk_1 N x333
          (fun x342 =>
            bif x342 then
              k0 v331
            else
              let x343 := (IntKind.i64.wrap (v331 + (1 : Int)))
              next v329 v330 x343)
      | none => none
  else
    k1
noncomputable def slices_IndexFunc_int_int__impl_NatOk_1_L0.b {α : Type} (N n : Nat) (v329 : List Int) (v330 : Int) (v331 : Int) (k0 : Int → Option α) (k1 : Option α) : Option α :=
  Nat.rec (motive := fun _ => List Int → Int → Int → Option α) (fun _ _ _ => none) (fun _ next => slices_IndexFunc_int_int__impl_NatOk_1_L0r N next k0 k1) n v329 v330 v331
theorem slices_IndexFunc_int_int__impl_NatOk_1_L0.ex : ∃ f : ((α : Type) → Nat → Nat → List Int → Int → Int → (Int → Option α) → (Option α) → Option α), f = fun α => @slices_IndexFunc_int_int__impl_NatOk_1_L0.b α := ⟨_, rfl⟩
noncomputable def slices_IndexFunc_int_int__impl_NatOk_1_L0 {α : Type} : Nat → Nat → List Int → Int → Int → (Int → Option α) → (Option α) → Option α := Classical.choose slices_IndexFunc_int_int__impl_NatOk_1_L0.ex α
theorem slices_IndexFunc_int_int__impl_NatOk_1_L0.eq : @slices_IndexFunc_int_int__impl_NatOk_1_L0 = @slices_IndexFunc_int_int__impl_NatOk_1_L0.b := funext fun α => congrFun (Classical.choose_spec slices_IndexFunc_int_int__impl_NatOk_1_L0.ex) α
theorem slices_IndexFunc_int_int__impl_NatOk_1_L0.zero {α : Type} (N : Nat) (v329 : List Int) (v330 : Int) (v331 : Int) (k0 : Int → Option α) (k1 : Option α) : slices_IndexFunc_int_int__impl_NatOk_1_L0 N 0 v329 v330 v331 k0 k1 = none := by rw [slices_IndexFunc_int_int__impl_NatOk_1_L0.eq]; rfl
theorem slices_IndexFunc_int_int__impl_NatOk_1_L0.succ {α : Type} (N n : Nat) (v329 : List Int) (v330 : Int) (v331 : Int) (k0 : Int → Option α) (k1 : Option α) : slices_IndexFunc_int_int__impl_NatOk_1_L0 N (n + 1) v329 v330 v331 k0 k1 = slices_IndexFunc_int_int__impl_NatOk_1_L0r N (fun y0 y1 y2 => slices_IndexFunc_int_int__impl_NatOk_1_L0 N n y0 y1 y2 k0 k1) k0 k1 v329 v330 v331 := by rw [slices_IndexFunc_int_int__impl_NatOk_1_L0.eq]; rfl
/-- slices.IndexFunc[[]int,int] -/
noncomputable def slices_IndexFunc_int_int__impl_NatOk_1.b {α : Type} (N : Nat) (a327 : List Int) (k0 : Int → Option α) : Option α :=
  let x328 := ((a327.length : Nat) : Int)
  slices_IndexFunc_int_int__impl_NatOk_1_L0 N N a327 x328 (0 : Int)
    (fun x344 =>
      k0 x344)
    (
      k0 (-1 : Int))
theorem slices_IndexFunc_int_int__impl_NatOk_1.ex : ∃ f : ((α : Type) → Nat → List Int → (Int → Option α) → Option α), f = fun α => @slices_IndexFunc_int_int__impl_NatOk_1.b α := ⟨_, rfl⟩
noncomputable def slices_IndexFunc_int_int__impl_NatOk_1 {α : Type} : Nat → List Int → (Int → Option α) → Option α := Classical.choose slices_IndexFunc_int_int__impl_NatOk_1.ex α
theorem slices_IndexFunc_int_int__impl_NatOk_1.eq : @slices_IndexFunc_int_int__impl_NatOk_1 = @slices_IndexFunc_int_int__impl_NatOk_1.b := funext fun α => congrFun (Classical.choose_spec slices_IndexFunc_int_int__impl_NatOk_1.ex) α

/-- slices.ContainsFunc[[]int,int] -/
noncomputable def slices_ContainsFunc_int_int__impl_NatOk_1.b {α : Type} (N : Nat) (a326 : List Int) (k0 : Bool → Option α) : Option α :=
  slices_IndexFunc_int_int__impl_NatOk_1 N a326
    (fun x345 =>
      let x346 := (decide ((0 : Int) ≤ x345))
      k0 x346)
theorem slices_ContainsFunc_int_int__impl_NatOk_1.ex : ∃ f : ((α : Type) → Nat → List Int → (Bool → Option α) → Option α), f = fun α => @slices_ContainsFunc_int_int__impl_NatOk_1.b α := ⟨_, rfl⟩
noncomputable def slices_ContainsFunc_int_int__impl_NatOk_1 {α : Type} : Nat → List Int → (Bool → Option α) → Option α := Classical.choose slices_ContainsFunc_int_int__impl_NatOk_1.ex α
theorem slices_ContainsFunc_int_int__impl_NatOk_1.eq : @slices_ContainsFunc_int_int__impl_NatOk_1 = @slices_ContainsFunc_int_int__impl_NatOk_1.b := funext fun α => congrFun (Classical.choose_spec slices_ContainsFunc_int_int__impl_NatOk_1.ex) α

/-- loop.example/pinfold/impl.NatOk -/
noncomputable def impl_NatOk.b {α : Type} (N : Nat) (a321 : List Int) (k0 : Bool → Option α) : Option α :=
  let x322 := ((a321.length : Nat) : Int)
  let x323 := (decide (x322 ≤ (256 : Int)))
  bif x323 then
    let x324 := ((a321.length : Nat) : Int)
    let x325 := (decide (x324 = (0 : Int)))
    bif x325 then
      slices_ContainsFunc_int_int__impl_NatOk_1 N a321
        (fun x347 =>
          let x348 := !x347
          k0 x348)
    else
      let x349 := ((a321.length : Nat) : Int)
      let x350 := (IntKind.i64.wrap (x349 - (1 : Int)))
      bif (decide (x350 < (0 : Int))) then
        none
      else
        match a321[x350.toNat]? with
        | some x351 =>
          let x352 := (!(decide (x351 = (0 : Int))))
          bif x352 then
            slices_ContainsFunc_int_int__impl_NatOk_1 N a321
              (fun x353 =>
                let x354 := !x353
                k0 x354)
          else
            k0 false
        | none => none
  else
    k0 false
theorem impl_NatOk.ex : ∃ f : ((α : Type) → Nat → List Int → (Bool → Option α) → Option α), f = fun α => @impl_NatOk.b α := ⟨_, rfl⟩
noncomputable def impl_NatOk {α : Type} : Nat → List Int → (Bool → Option α) → Option α := Classical.choose impl_NatOk.ex α
theorem impl_NatOk.eq : @impl_NatOk = @impl_NatOk.b := funext fun α => congrFun (Classical.choose_spec impl_NatOk.ex) α

/-- loop.example/pinfold/impl.nats$1 -/
noncomputable def impl_nats_1.b {α : Type} (N : Nat) (a320 : List Int) (k0 : Bool → Option α) : Option α :=
  impl_NatOk N a320
    (fun x355 =>
      let x356 := !x355
      k0 x356)
theorem impl_nats_1.ex : ∃ f : ((α : Type) → Nat → List Int → (Bool → Option α) → Option α), f = fun α => @impl_nats_1.b α := ⟨_, rfl⟩
noncomputable def impl_nats_1 {α : Type} : Nat → List Int → (Bool → Option α) → Option α := Classical.choose impl_nats_1.ex α
theorem impl_nats_1.eq : @impl_nats_1 = @impl_nats_1.b := funext fun α => congrFun (Classical.choose_spec impl_nats_1.ex) α

noncomputable def slices_IndexFunc_int_int__impl_nats_1_L0r {α : Type} (N : Nat) (next : List (List Int) → Int → Int → Option α) (k0 : Int → Option α) (k1 : Option α) (v315 : List (List Int)) (v316 : Int) (v317 : Int) : Option α :=
  let x318 := decide (v317 < v316)
  bif x318 then
    bif (decide (v317 < (0 : Int))) then
      none
    else
      match v315[v317.toNat]? with
      | some x319 =>
        impl_nats_1 N x319
          (fun x357 =>
            bif x357 then
              k0 v317
            else
              let x358 := (IntKind.i64.wrap (v317 + (1 : Int)))
              next v315 v316 x358)
      | none => none
  else
    k1
noncomputable def slices_IndexFunc_int_int__impl_nats_1_L0.b {α : Type} (N n : Nat) (v315 : List (List Int)) (v316 : Int) (v317 : Int) (k0 : Int → Option α) (k1 : Option α) : Option α :=
  Nat.rec (motive := fun _ => List (List Int) → Int → Int → Option α) (fun _ _ _ => none) (fun _ next => slices_IndexFunc_int_int__impl_nats_1_L0r N next k0 k1) n v315 v316 v317
theorem slices_IndexFunc_int_int__impl_nats_1_L0.ex : ∃ f : ((α : Type) → Nat → Nat → List (List Int) → Int → Int → (Int → Option α) → (Option α) → Option α), f = fun α => @slices_IndexFunc_int_int__impl_nats_1_L0.b α := ⟨_, rfl⟩
noncomputable def slices_IndexFunc_int_int__impl_nats_1_L0 {α : Type} : Nat → Nat → List (List Int) → Int → Int → (Int → Option α) → (Option α) → Option α := Classical.choose slices_IndexFunc_int_int__impl_nats_1_L0.ex α
theorem slices_IndexFunc_int_int__impl_nats_1_L0.eq : @slices_IndexFunc_int_int__impl_nats_1_L0 = @slices_IndexFunc_int_int__impl_nats_1_L0.b := funext fun α => congrFun (Classical.choose_spec slices_IndexFunc_int_int__impl_nats_1_L0.ex) α
theorem slices_IndexFunc_int_int__impl_nats_1_L0.zero {α : Type} (N : Nat) (v315 : List (List Int)) (v316 : Int) (v317 : Int) (k0 : Int → Option α) (k1 : Option α) : slices_IndexFunc_int_int__impl_nats_1_L0 N 0 v315 v316 v317 k0 k1 = none := by rw [slices_IndexFunc_int_int__impl_nats_1_L0.eq]; rfl
theorem slices_IndexFunc_int_int__impl_nats_1_L0.succ {α : Type} (N n : Nat) (v315 : List (List Int)) (v316 : Int) (v317 : Int) (k0 : Int → Option α) (k1 : Option α) : slices_IndexFunc_int_int__impl_nats_1_L0 N (n + 1) v315 v316 v317 k0 k1 = slices_IndexFunc_int_int__impl_nats_1_L0r N (fun y0 y1 y2 => slices_IndexFunc_int_int__impl_nats_1_L0 N n y0 y1 y2 k0 k1) k0 k1 v315 v316 v317 := by rw [slices_IndexFunc_int_int__impl_nats_1_L0.eq]; rfl
/-- slices.IndexFunc[[][]int,[]int] -/
noncomputable def slices_IndexFunc_int_int__impl_nats_1.b {α : Type} (N : Nat) (a313 : List (List Int)) (k0 : Int → Option α) : Option α :=
  let x314 := ((a313.length : Nat) : Int)
  slices_IndexFunc_int_int__impl_nats_1_L0 N N a313 x314 (0 : Int)
    (fun x359 =>
      k0 x359)
    (
      k0 (-1 : Int))
theorem slices_IndexFunc_int_int__impl_nats_1.ex : ∃ f : ((α : Type) → Nat → List (List Int) → (Int → Option α) → Option α), f = fun α => @slices_IndexFunc_int_int__impl_nats_1.b α := ⟨_, rfl⟩
noncomputable def slices_IndexFunc_int_int__impl_nats_1 {α : Type} : Nat → List (List Int) → (Int → Option α) → Option α := Classical.choose slices_IndexFunc_int_int__impl_nats_1.ex α
theorem slices_IndexFunc_int_int__impl_nats_1.eq : @slices_IndexFunc_int_int__impl_nats_1 = @slices_IndexFunc_int_int__impl_nats_1.b := funext fun α => congrFun (Classical.choose_spec slices_IndexFunc_int_int__impl_nats_1.ex) α

/-- slices.ContainsFunc[[][]int,[]int] -/
noncomputable def slices_ContainsFunc_int_int__impl_nats_1.b {α : Type} (N : Nat) (a312 : List (List Int)) (k0 : Bool → Option α) : Option α :=
  slices_IndexFunc_int_int__impl_nats_1 N a312
    (fun x360 =>
      let x361 := (decide ((0 : Int) ≤ x360))
      k0 x361)
theorem slices_ContainsFunc_int_int__impl_nats_1.ex : ∃ f : ((α : Type) → Nat → List (List Int) → (Bool → Option α) → Option α), f = fun α => @slices_ContainsFunc_int_int__impl_nats_1.b α := ⟨_, rfl⟩
noncomputable def slices_ContainsFunc_int_int__impl_nats_1 {α : Type} : Nat → List (List Int) → (Bool → Option α) → Option α := Classical.choose slices_ContainsFunc_int_int__impl_nats_1.ex α
theorem slices_ContainsFunc_int_int__impl_nats_1.eq : @slices_ContainsFunc_int_int__impl_nats_1 = @slices_ContainsFunc_int_int__impl_nats_1.b := funext fun α => congrFun (Classical.choose_spec slices_ContainsFunc_int_int__impl_nats_1.ex) α

/-- loop.example/pinfold/impl.nats -/
noncomputable def impl_nats.b {α : Type} (N : Nat) (a311 : List (List Int)) (k0 : Bool → Option α) : Option α :=
  slices_ContainsFunc_int_int__impl_nats_1 N a311
    (fun x362 =>
      let x363 := !x362
      k0 x363)
theorem impl_nats.ex : ∃ f : ((α : Type) → Nat → List (List Int) → (Bool → Option α) → Option α), f = fun α => @impl_nats.b α := ⟨_, rfl⟩
noncomputable def impl_nats {α : Type} : Nat → List (List Int) → (Bool → Option α) → Option α := Classical.choose impl_nats.ex α
theorem impl_nats.eq : @impl_nats = @impl_nats.b := funext fun α => congrFun (Classical.choose_spec impl_nats.ex) α

noncomputable def impl_natCmp_L0r {α : Type} (N : Nat) (next : List Int → List Int → Int → Option α) (k0 : Int → Option α) (k1 : Option α) (v455 : List Int) (v456 : List Int) (v457 : Int) : Option α :=
  let x458 := (decide ((0 : Int) ≤ v457))
  bif x458 then
    bif (decide (v457 < (0 : Int))) then
      none
    else
      match v455[v457.toNat]? with
      | some x459 =>
        bif (decide (v457 < (0 : Int))) then
          none
        else
          match v456[v457.toNat]? with
          | some x460 =>
            let x461 := !(decide (x459 = x460))
            bif x461 then
              bif (decide (v457 < (0 : Int))) then
                none
              else
                match v455[v457.toNat]? with
                | some x462 =>
                  bif (decide (v457 < (0 : Int))) then
                    none
                  else
                    match v456[v457.toNat]? with
                    | some x463 =>
                      let x464 := IntKind.i64.wrap (x462 - x463)
                      let x465 := (minI (1 : Int) x464)
                      let x466 := (maxI (-1 : Int) x465)
                      k0 x466
                    | none => none
                | none => none
            else
              let x467 := (IntKind.i64.wrap (v457 - (1 : Int)))
              next v455 v456 x467
          | none => none
      | none => none
  else
    k1
noncomputable def impl_natCmp_L0.b {α : Type} (N n : Nat) (v455 : List Int) (v456 : List Int) (v457 : Int) (k0 : Int → Option α) (k1 : Option α) : Option α :=
  Nat.rec (motive := fun _ => List Int → List Int → Int → Option α) (fun _ _ _ => none) (fun _ next => impl_natCmp_L0r N next k0 k1) n v455 v456 v457
theorem impl_natCmp_L0.ex : ∃ f : ((α : Type) → Nat → Nat → List Int → List Int → Int → (Int → Option α) → (Option α) → Option α), f = fun α => @impl_natCmp_L0.b α := ⟨_, rfl⟩
noncomputable def impl_natCmp_L0 {α : Type} : Nat → Nat → List Int → List Int → Int → (Int → Option α) → (Option α) → Option α := Classical.choose impl_natCmp_L0.ex α
theorem impl_natCmp_L0.eq : @impl_natCmp_L0 = @impl_natCmp_L0.b := funext fun α => congrFun (Classical.choose_spec impl_natCmp_L0.ex) α
theorem impl_natCmp_L0.zero {α : Type} (N : Nat) (v455 : List Int) (v456 : List Int) (v457 : Int) (k0 : Int → Option α) (k1 : Option α) : impl_natCmp_L0 N 0 v455 v456 v457 k0 k1 = none := by rw [impl_natCmp_L0.eq]; rfl
theorem impl_natCmp_L0.succ {α : Type} (N n : Nat) (v455 : List Int) (v456 : List Int) (v457 : Int) (k0 : Int → Option α) (k1 : Option α) : impl_natCmp_L0 N (n + 1) v455 v456 v457 k0 k1 = impl_natCmp_L0r N (fun y0 y1 y2 => impl_natCmp_L0 N n y0 y1 y2 k0 k1) k0 k1 v455 v456 v457 := by rw [impl_natCmp_L0.eq]; rfl
/-- loop.example/pinfold/impl.natCmp -/
noncomputable def impl_natCmp.b {α : Type} (N : Nat) (a443 : List Int) (a444 : List Int) (k0 : Int → Option α) : Option α :=
  let x445 := ((a443.length : Nat) : Int)
  let x446 := ((a444.length : Nat) : Int)
  let x447 := !(decide (x445 = x446))
  bif x447 then
    let x448 := ((a443.length : Nat) : Int)
    let x449 := ((a444.length : Nat) : Int)
    let x450 := IntKind.i64.wrap (x448 - x449)
    let x451 := (minI (1 : Int) x450)
    let x452 := (maxI (-1 : Int) x451)
    k0 x452
  else
    let x453 := ((a443.length : Nat) : Int)
    let x454 := (IntKind.i64.wrap (x453 - (1 : Int)))
    impl_natCmp_L0 N N a443 a444 x454
      (fun x468 =>
        k0 x468)
      (
        k0 (0 : Int))
theorem impl_natCmp.ex : ∃ f : ((α : Type) → Nat → List Int → List Int → (Int → Option α) → Option α), f = fun α => @impl_natCmp.b α := ⟨_, rfl⟩
noncomputable def impl_natCmp {α : Type} : Nat → List Int → List Int → (Int → Option α) → Option α := Classical.choose impl_natCmp.ex α
theorem impl_natCmp.eq : @impl_natCmp = @impl_natCmp.b := funext fun α => congrFun (Classical.choose_spec impl_natCmp.ex) α

noncomputable def impl_trim_L0r {α : Type} (N : Nat) (next : List Int → Option α) (k0 : List Int → Option α) (v496 : List Int) : Option α :=
  let x497 := ((v496.length : Nat) : Int)
  let x498 := (decide ((0 : Int) < x497))
  bif x498 then
    let x499 := ((v496.length : Nat) : Int)
    let x500 := (IntKind.i64.wrap (x499 - (1 : Int)))
    bif (decide (x500 < (0 : Int))) then
      none
    else
      match v496[x500.toNat]? with
      | some x501 =>
        let x502 := (decide (x501 = (0 : Int)))
        bif x502 then
          let x503 := ((v496.length : Nat) : Int)
          let x504 := (IntKind.i64.wrap (x503 - (1 : Int)))
          bif (decide ((0 : Int) ≤ x504)) then
            bif (decide (x504 ≤ ((v496.length : Nat) : Int))) then
              let x505 := v496.take x504.toNat
              next x505
            else
              none
          else
            none
        else
          k0 v496
      | none => none
  else
    k0 v496
noncomputable def impl_trim_L0.b {α : Type} (N n : Nat) (v496 : List Int) (k0 : List Int → Option α) : Option α :=
  Nat.rec (motive := fun _ => List Int → Option α) (fun _ => none) (fun _ next => impl_trim_L0r N next k0) n v496
theorem impl_trim_L0.ex : ∃ f : ((α : Type) → Nat → Nat → List Int → (List Int → Option α) → Option α), f = fun α => @impl_trim_L0.b α := ⟨_, rfl⟩
noncomputable def impl_trim_L0 {α : Type} : Nat → Nat → List Int → (List Int → Option α) → Option α := Classical.choose impl_trim_L0.ex α
theorem impl_trim_L0.eq : @impl_trim_L0 = @impl_trim_L0.b := funext fun α => congrFun (Classical.choose_spec impl_trim_L0.ex) α
theorem impl_trim_L0.zero {α : Type} (N : Nat) (v496 : List Int) (k0 : List Int → Option α) : impl_trim_L0 N 0 v496 k0 = none := by rw [impl_trim_L0.eq]; rfl
theorem impl_trim_L0.succ {α : Type} (N n : Nat) (v496 : List Int) (k0 : List Int → Option α) : impl_trim_L0 N (n + 1) v496 k0 = impl_trim_L0r N (fun y0 => impl_trim_L0 N n y0 k0) k0 v496 := by rw [impl_trim_L0.eq]; rfl
/-- loop.example/pinfold/impl.trim -/
noncomputable def impl_trim.b {α : Type} (N : Nat) (a495 : List Int) (k0 : List Int → Option α) : Option α :=
  impl_trim_L0 N N a495
    (fun x506 =>
      k0 x506)
theorem impl_trim.ex : ∃ f : ((α : Type) → Nat → List Int → (List Int → Option α) → Option α), f = fun α => @impl_trim.b α := ⟨_, rfl⟩
noncomputable def impl_trim {α : Type} : Nat → List Int → (List Int → Option α) → Option α := Classical.choose impl_trim.ex α
theorem impl_trim.eq : @impl_trim = @impl_trim.b := funext fun α => congrFun (Classical.choose_spec impl_trim.ex) α

noncomputable def math_bits_Len64_J1.b {α : Type} (N : Nat) (v516 : Int) (v517 : Int) (k0 : Int → Int → Option α) : Option α :=
  let x518 := (decide ((4294967296 : Int) ≤ v516))
  bif x518 then
    let x519 := (shrI .u64 v516 (32 : Int))
    k0 x519 (32 : Int)
  else
    k0 v516 v517
theorem math_bits_Len64_J1.ex : ∃ f : ((α : Type) → Nat → Int → Int → (Int → Int → Option α) → Option α), f = fun α => @math_bits_Len64_J1.b α := ⟨_, rfl⟩
noncomputable def math_bits_Len64_J1 {α : Type} : Nat → Int → Int → (Int → Int → Option α) → Option α := Classical.choose math_bits_Len64_J1.ex α
theorem math_bits_Len64_J1.eq : @math_bits_Len64_J1 = @math_bits_Len64_J1.b := funext fun α => congrFun (Classical.choose_spec math_bits_Len64_J1.ex) α
noncomputable def math_bits_Len64_J4.b {α : Type} (N : Nat) (v522 : Int) (v523 : Int) (k0 : Int → Int → Option α) : Option α :=
  let x524 := (decide ((65536 : Int) ≤ v522))
  bif x524 then
    let x525 := (shrI .u64 v522 (16 : Int))
    let x526 := (IntKind.i64.wrap (v523 + (16 : Int)))
    k0 x525 x526
  else
    k0 v522 v523
theorem math_bits_Len64_J4.ex : ∃ f : ((α : Type) → Nat → Int → Int → (Int → Int → Option α) → Option α), f = fun α => @math_bits_Len64_J4.b α := ⟨_, rfl⟩
noncomputable def math_bits_Len64_J4 {α : Type} : Nat → Int → Int → (Int → Int → Option α) → Option α := Classical.choose math_bits_Len64_J4.ex α
theorem math_bits_Len64_J4.eq : @math_bits_Len64_J4 = @math_bits_Len64_J4.b := funext fun α => congrFun (Classical.choose_spec math_bits_Len64_J4.ex) α
noncomputable def math_bits_Len64_J7.b {α : Type} (N : Nat) (v529 : Int) (v530 : Int) (k0 : Int → Int → Option α) : Option α :=
  let x531 := (decide ((256 : Int) ≤ v529))
  bif x531 then
    let x532 := (shrI .u64 v529 (8 : Int))
    let x533 := (IntKind.i64.wrap (v530 + (8 : Int)))
    k0 x532 x533
  else
    k0 v529 v530
theorem math_bits_Len64_J7.ex : ∃ f : ((α : Type) → Nat → Int → Int → (Int → Int → Option α) → Option α), f = fun α => @math_bits_Len64_J7.b α := ⟨_, rfl⟩
noncomputable def math_bits_Len64_J7 {α : Type} : Nat → Int → Int → (Int → Int → Option α) → Option α := Classical.choose math_bits_Len64_J7.ex α
theorem math_bits_Len64_J7.eq : @math_bits_Len64_J7 = @math_bits_Len64_J7.b := funext fun α => congrFun (Classical.choose_spec math_bits_Len64_J7.ex) α
/-- math/bits.Len64 -/
noncomputable def math_bits_Len64.b {α : Type} (N : Nat) (a515 : Int) (k0 : Int → Option α) : Option α :=
  math_bits_Len64_J1 N a515 (0 : Int)
    (fun x520 x521 =>
      math_bits_Len64_J4 N x520 x521
        (fun x527 x528 =>
          math_bits_Len64_J7 N x527 x528
            (fun x534 x535 =>
              let x536 := IntKind.u8.wrap x534
              bif (decide (x536 < (0 : Int))) then
                none
              else
                match ((⟨#[0, 1, 2, 2, 3, 3, 3, 3, 4, 4, 4, 4, 4, 4, 4, 4, 5, 5, 5, 5, 5, 5, 5, 5, 5, 5, 5, 5, 5, 5, 5, 5, 6, 6, 6, 6, 6, 6, 6, 6, 6, 6, 6, 6, 6, 6, 6, 6, 6, 6, 6, 6, 6, 6, 6, 6, 6, 6, 6, 6, 6, 6, 6, 6, 7, 7, 7, 7, 7, 7, 7, 7, 7, 7, 7, 7, 7, 7, 7, 7, 7, 7, 7, 7, 7, 7, 7, 7, 7, 7, 7, 7, 7, 7, 7, 7, 7, 7, 7, 7, 7, 7, 7, 7, 7, 7, 7, 7, 7, 7, 7, 7, 7, 7, 7, 7, 7, 7, 7, 7, 7, 7, 7, 7, 7, 7, 7, 7, 8, 8, 8, 8, 8, 8, 8, 8, 8, 8, 8, 8, 8, 8, 8, 8, 8, 8, 8, 8, 8, 8, 8, 8, 8, 8, 8, 8, 8, 8, 8, 8, 8, 8, 8, 8, 8, 8, 8, 8, 8, 8, 8, 8, 8, 8, 8, 8, 8, 8, 8, 8, 8, 8, 8, 8, 8, 8, 8, 8, 8, 8, 8, 8, 8, 8, 8, 8, 8, 8, 8, 8, 8, 8, 8, 8, 8, 8, 8, 8, 8, 8, 8, 8, 8, 8, 8, 8, 8, 8, 8, 8, 8, 8, 8, 8, 8, 8, 8, 8, 8, 8, 8, 8, 8, 8, 8, 8, 8, 8, 8, 8, 8, 8, 8, 8, 8, 8, 8, 8, 8, 8, 8, 8, 8, 8, 8, 8]⟩ : ByteArray)[x536.toNat]? : Option UInt8) with
                | some x537 =>
                  let x538 := ((x537.toNat : Nat) : Int)
                  let x539 := IntKind.i64.wrap x538
                  let x540 := IntKind.i64.wrap (x535 + x539)
                  k0 x540
                | none => none)))
theorem math_bits_Len64.ex : ∃ f : ((α : Type) → Nat → Int → (Int → Option α) → Option α), f = fun α => @math_bits_Len64.b α := ⟨_, rfl⟩
noncomputable def math_bits_Len64 {α : Type} : Nat → Int → (Int → Option α) → Option α := Classical.choose math_bits_Len64.ex α
theorem math_bits_Len64.eq : @math_bits_Len64 = @math_bits_Len64.b := funext fun α => congrFun (Classical.choose_spec math_bits_Len64.ex) α

/-- math/bits.Len -/
noncomputable def math_bits_Len.b {α : Type} (N : Nat) (a514 : Int) (k0 : Int → Option α) : Option α :=
  math_bits_Len64 N a514
    (fun x541 =>
      k0 x541)
theorem math_bits_Len.ex : ∃ f : ((α : Type) → Nat → Int → (Int → Option α) → Option α), f = fun α => @math_bits_Len.b α := ⟨_, rfl⟩
noncomputable def math_bits_Len {α : Type} : Nat → Int → (Int → Option α) → Option α := Classical.choose math_bits_Len.ex α
theorem math_bits_Len.eq : @math_bits_Len = @math_bits_Len.b := funext fun α => congrFun (Classical.choose_spec math_bits_Len.ex) α

/-- slices.Clone[[]int,int] -/
noncomputable def slices_Clone_int_int {α : Type} (N : Nat) (a1 : List Int) (k0 : List Int → Option α) : Option α :=
  bif decide (([] : List Int).length + a1.length ≤ 8796093022208) then k0 a1 else none

noncomputable def impl_natShift_J10.b {α : Type} (N : Nat) (v620 : List Int) (v621 : Int) (v622 : Int) (v623 : Int) (v624 : Int) (v625 : Int) (v626 : List Int) (k0 : List Int → Int → Int → Int → Int → List Int → Option α) : Option α :=
  let x627 := IntKind.i64.wrap (v621 + v623)
  let x628 := (IntKind.i64.wrap (x627 + (1 : Int)))
  let x629 := ((v620.length : Nat) : Int)
  let x630 := decide (x628 < x629)
  bif x630 then
    bif (decide (v623 < (0 : Int))) then
      none
    else
      bif decide (v623.toNat < v626.length) then
        match v626[v623.toNat]? with
        | some x631 =>
          let x632 := IntKind.i64.wrap (v621 + v623)
          let x633 := (IntKind.i64.wrap (x632 + (1 : Int)))
          bif (decide (x633 < (0 : Int))) then
            none
          else
            match v620[x633.toNat]? with
            | some x634 =>
              let x635 := (IntKind.i64.wrap ((16 : Int) - v622))
              bif (decide (x635 < (0 : Int))) then
                none
              else
                let x636 := shlI .i64 x634 x635
                let x637 := (bitI .and .i64 x636 (65535 : Int))
                let x638 := bitI .or .i64 x631 x637
                bif (decide (v623 < (0 : Int))) then
                  none
                else
                  bif decide (v623.toNat < v626.length) then
                    match v626[v623.toNat]? with
                    | some x639 =>
                      let x640 := v626.set v623.toNat x638
                      k0 v620 v621 v622 v624 v625 x640
                    | none => none
                  else
                    none
            | none => none
        | none => none
      else
        none
  else
    k0 v620 v621 v622 v624 v625 v626
theorem impl_natShift_J10.ex : ∃ f : ((α : Type) → Nat → List Int → Int → Int → Int → Int → Int → List Int → (List Int → Int → Int → Int → Int → List Int → Option α) → Option α), f = fun α => @impl_natShift_J10.b α := ⟨_, rfl⟩
noncomputable def impl_natShift_J10 {α : Type} : Nat → List Int → Int → Int → Int → Int → Int → List Int → (List Int → Int → Int → Int → Int → List Int → Option α) → Option α := Classical.choose impl_natShift_J10.ex α
theorem impl_natShift_J10.eq : @impl_natShift_J10 = @impl_natShift_J10.b := funext fun α => congrFun (Classical.choose_spec impl_natShift_J10.ex) α
noncomputable def impl_natShift_L0r {α : Type} (N : Nat) (next : List Int → Int → Int → Int → Int → List Int → Option α) (k0 : List Int → Option α) (v609 : List Int) (v610 : Int) (v611 : Int) (v612 : Int) (v613 : Int) (v614 : List Int) : Option α :=
  let x615 := decide (v613 < v612)
  bif x615 then
    bif (decide (v613 < (0 : Int))) then
      none
    else
      bif decide (v613.toNat < v614.length) then
        match v614[v613.toNat]? with
        | some x616 =>
          bif (decide (v611 < (0 : Int))) then
            none
          else
            let x617 := shrI .i64 x616 v611
            bif (decide (v613 < (0 : Int))) then
              none
            else
              bif decide (v613.toNat < v614.length) then
                match v614[v613.toNat]? with
                | some x618 =>
                  let x619 := v614.set v613.toNat x617
                  impl_natShift_J10 N v609 v610 v611 v613 v612 v613 x619
                    (fun x641 x642 x643 x644 x645 x646 =>
                      let x647 := (IntKind.i64.wrap (x645 + (1 : Int)))
                      next x641 x642 x643 x644 x647 x646)
                | none => none
              else
                none
        | none => none
      else
        none
  else
    k0 v614
noncomputable def impl_natShift_L0.b {α : Type} (N n : Nat) (v609 : List Int) (v610 : Int) (v611 : Int) (v612 : Int) (v613 : Int) (v614 : List Int) (k0 : List Int → Option α) : Option α :=
  Nat.rec (motive := fun _ => List Int → Int → Int → Int → Int → List Int → Option α) (fun _ _ _ _ _ _ => none) (fun _ next => impl_natShift_L0r N next k0) n v609 v610 v611 v612 v613 v614
theorem impl_natShift_L0.ex : ∃ f : ((α : Type) → Nat → Nat → List Int → Int → Int → Int → Int → List Int → (List Int → Option α) → Option α), f = fun α => @impl_natShift_L0.b α := ⟨_, rfl⟩
noncomputable def impl_natShift_L0 {α : Type} : Nat → Nat → List Int → Int → Int → Int → Int → List Int → (List Int → Option α) → Option α := Classical.choose impl_natShift_L0.ex α
theorem impl_natShift_L0.eq : @impl_natShift_L0 = @impl_natShift_L0.b := funext fun α => congrFun (Classical.choose_spec impl_natShift_L0.ex) α
theorem impl_natShift_L0.zero {α : Type} (N : Nat) (v609 : List Int) (v610 : Int) (v611 : Int) (v612 : Int) (v613 : Int) (v614 : List Int) (k0 : List Int → Option α) : impl_natShift_L0 N 0 v609 v610 v611 v612 v613 v614 k0 = none := by rw [impl_natShift_L0.eq]; rfl
theorem impl_natShift_L0.succ {α : Type} (N n : Nat) (v609 : List Int) (v610 : Int) (v611 : Int) (v612 : Int) (v613 : Int) (v614 : List Int) (k0 : List Int → Option α) : impl_natShift_L0 N (n + 1) v609 v610 v611 v612 v613 v614 k0 = impl_natShift_L0r N (fun y0 y1 y2 y3 y4 y5 => impl_natShift_L0 N n y0 y1 y2 y3 y4 y5 k0) k0 v609 v610 v611 v612 v613 v614 := by rw [impl_natShift_L0.eq]; rfl
noncomputable def impl_natShift_L2r {α : Type} (N : Nat) (next : Int → List Int → Int → Int → List Int → Option α) (k0 : List Int → Option α) (v656 : Int) (v657 : List Int) (v658 : Int) (v659 : Int) (v660 : List Int) : Option α :=
  let x661 := decide (v659 < v658)
  bif x661 then
    bif (decide (v659 < (0 : Int))) then
      none
    else
      match v657[v659.toNat]? with
      | some x662 =>
        let x663 := (Int.tmod v656 (16 : Int))
        bif (decide (x663 < (0 : Int))) then
          none
        else
          let x664 := shlI .i64 x662 x663
          let x665 := (IntKind.i64.wrap (Int.tdiv v656 (16 : Int)))
          let x666 := IntKind.i64.wrap (x665 + v659)
          bif (decide (x666 < (0 : Int))) then
            none
          else
            bif decide (x666.toNat < v660.length) then
              match v660[x666.toNat]? with
              | some x667 =>
                let x668 := (bitI .and .i64 x664 (65535 : Int))
                let x669 := bitI .or .i64 x667 x668
                bif (decide (x666 < (0 : Int))) then
                  none
                else
                  bif decide (x666.toNat < v660.length) then
                    match v660[x666.toNat]? with
                    | some x670 =>
                      let x671 := v660.set x666.toNat x669
                      let x672 := (IntKind.i64.wrap (Int.tdiv v656 (16 : Int)))
                      let x673 := IntKind.i64.wrap (x672 + v659)
                      let x674 := (IntKind.i64.wrap (x673 + (1 : Int)))
                      let x675 := (shrI .i64 x664 (16 : Int))
                      bif (decide (x674 < (0 : Int))) then
                        none
                      else
                        bif decide (x674.toNat < x671.length) then
                          match x671[x674.toNat]? with
                          | some x676 =>
                            let x677 := x671.set x674.toNat x675
                            let x678 := (IntKind.i64.wrap (v659 + (1 : Int)))
                            next v656 v657 v658 x678 x677
                          | none => none
                        else
                          none
                    | none => none
                  else
                    none
              | none => none
            else
              none
      | none => none
  else
    k0 v660
noncomputable def impl_natShift_L2.b {α : Type} (N n : Nat) (v656 : Int) (v657 : List Int) (v658 : Int) (v659 : Int) (v660 : List Int) (k0 : List Int → Option α) : Option α :=
  Nat.rec (motive := fun _ => Int → List Int → Int → Int → List Int → Option α) (fun _ _ _ _ _ => none) (fun _ next => impl_natShift_L2r N next k0) n v656 v657 v658 v659 v660
theorem impl_natShift_L2.ex : ∃ f : ((α : Type) → Nat → Nat → Int → List Int → Int → Int → List Int → (List Int → Option α) → Option α), f = fun α => @impl_natShift_L2.b α := ⟨_, rfl⟩
noncomputable def impl_natShift_L2 {α : Type} : Nat → Nat → Int → List Int → Int → Int → List Int → (List Int → Option α) → Option α := Classical.choose impl_natShift_L2.ex α
theorem impl_natShift_L2.eq : @impl_natShift_L2 = @impl_natShift_L2.b := funext fun α => congrFun (Classical.choose_spec impl_natShift_L2.ex) α
theorem impl_natShift_L2.zero {α : Type} (N : Nat) (v656 : Int) (v657 : List Int) (v658 : Int) (v659 : Int) (v660 : List Int) (k0 : List Int → Option α) : impl_natShift_L2 N 0 v656 v657 v658 v659 v660 k0 = none := by rw [impl_natShift_L2.eq]; rfl
theorem impl_natShift_L2.succ {α : Type} (N n : Nat) (v656 : Int) (v657 : List Int) (v658 : Int) (v659 : Int) (v660 : List Int) (k0 : List Int → Option α) : impl_natShift_L2 N (n + 1) v656 v657 v658 v659 v660 k0 = impl_natShift_L2r N (fun y0 y1 y2 y3 y4 => impl_natShift_L2 N n y0 y1 y2 y3 y4 k0) k0 v656 v657 v658 v659 v660 := by rw [impl_natShift_L2.eq]; rfl
/-- loop.example/pinfold/impl.natShift -/
noncomputable def impl_natShift.b {α : Type} (N : Nat) (a597 : List Int) (a598 : Int) (k0 : List Int → Option α) : Option α :=
  let x599 := (decide (a598 < (0 : Int)))
  bif x599 then
    let x600 := IntKind.i64.wrap (0 - a598)
    let x601 := (IntKind.i64.wrap (Int.tdiv x600 (16 : Int)))
    let x602 := IntKind.i64.wrap (0 - a598)
    let x603 := (Int.tmod x602 (16 : Int))
    let x604 := ((a597.length : Nat) : Int)
    let x605 := decide (x604 ≤ x601)
    bif x605 then
      k0 []
    else
      bif (decide ((0 : Int) ≤ x601)) then
        bif (decide (x601 ≤ ((a597.length : Nat) : Int))) then
          let x606 := a597.drop x601.toNat
          slices_Clone_int_int N x606
            (fun x607 =>
              let x608 := ((x607.length : Nat) : Int)
              impl_natShift_L0 N N a597 x601 x603 x608 (0 : Int) x607
                (fun x648 =>
                  impl_trim N x648
                    (fun x649 =>
                      k0 x649)))
        else
          none
      else
        none
  else
    let x650 := (IntKind.i64.wrap (Int.tdiv a598 (16 : Int)))
    let x651 := ((a597.length : Nat) : Int)
    let x652 := IntKind.i64.wrap (x650 + x651)
    let x653 := (IntKind.i64.wrap (x652 + (1 : Int)))
    bif (decide ((0 : Int) ≤ x653)) then
      bif decide (x653 ≤ x653) then
        bif (decide (x653 ≤ ((8796093022208 : Nat) : Int))) then
          let x654 := (List.replicate x653.toNat (0 : Int))
          let x655 := ((a597.length : Nat) : Int)
          impl_natShift_L2 N N a598 a597 x655 (0 : Int) x654
            (fun x679 =>
              impl_trim N x679
                (fun x680 =>
                  k0 x680))
        else
          none
      else
        none
    else
      none
theorem impl_natShift.ex : ∃ f : ((α : Type) → Nat → List Int → Int → (List Int → Option α) → Option α), f = fun α => @impl_natShift.b α := ⟨_, rfl⟩
noncomputable def impl_natShift {α : Type} : Nat → List Int → Int → (List Int → Option α) → Option α := Classical.choose impl_natShift.ex α
theorem impl_natShift.eq : @impl_natShift = @impl_natShift.b := funext fun α => congrFun (Classical.choose_spec impl_natShift.ex) α

noncomputable def impl_natDiv_L0r {α : Type} (N : Nat) (next : List Int → List Int → Int → Int → List Int → Option α) (k0 : Int → List Int → Option α) (v477 : List Int) (v478 : List Int) (v479 : Int) (v480 : Int) (v481 : List Int) : Option α :=
  let x482 := (decide ((0 : Int) ≤ v480))
  bif x482 then
    let x483 := (shlI .i64 v479 (16 : Int))
    bif (decide (v480 < (0 : Int))) then
      none
    else
      match v477[v480.toNat]? with
      | some x484 =>
        let x485 := bitI .or .i64 x483 x484
        match v478[0]? with
        | some x486 =>
          bif (decide (x486 = (0 : Int))) then
            none
          else
            let x487 := IntKind.i64.wrap (Int.tdiv x485 x486)
            match v478[0]? with
            | some x488 =>
              bif (decide (x488 = (0 : Int))) then
                none
              else
                let x489 := Int.tmod x485 x488
                bif (decide (v480 < (0 : Int))) then
                  none
                else
                  bif decide (v480.toNat < v481.length) then
                    match v481[v480.toNat]? with
                    | some x490 =>
                      let x491 := v481.set v480.toNat x487
                      let x492 := (IntKind.i64.wrap (v480 - (1 : Int)))
                      next v477 v478 x489 x492 x491
                    | none => none
                  else
                    none
            | none => none
        | none => none
      | none => none
  else
    k0 v479 v481
noncomputable def impl_natDiv_L0.b {α : Type} (N n : Nat) (v477 : List Int) (v478 : List Int) (v479 : Int) (v480 : Int) (v481 : List Int) (k0 : Int → List Int → Option α) : Option α :=
  Nat.rec (motive := fun _ => List Int → List Int → Int → Int → List Int → Option α) (fun _ _ _ _ _ => none) (fun _ next => impl_natDiv_L0r N next k0) n v477 v478 v479 v480 v481
theorem impl_natDiv_L0.ex : ∃ f : ((α : Type) → Nat → Nat → List Int → List Int → Int → Int → List Int → (Int → List Int → Option α) → Option α), f = fun α => @impl_natDiv_L0.b α := ⟨_, rfl⟩
noncomputable def impl_natDiv_L0 {α : Type} : Nat → Nat → List Int → List Int → Int → Int → List Int → (Int → List Int → Option α) → Option α := Classical.choose impl_natDiv_L0.ex α
theorem impl_natDiv_L0.eq : @impl_natDiv_L0 = @impl_natDiv_L0.b := funext fun α => congrFun (Classical.choose_spec impl_natDiv_L0.ex) α
theorem impl_natDiv_L0.zero {α : Type} (N : Nat) (v477 : List Int) (v478 : List Int) (v479 : Int) (v480 : Int) (v481 : List Int) (k0 : Int → List Int → Option α) : impl_natDiv_L0 N 0 v477 v478 v479 v480 v481 k0 = none := by rw [impl_natDiv_L0.eq]; rfl
theorem impl_natDiv_L0.succ {α : Type} (N n : Nat) (v477 : List Int) (v478 : List Int) (v479 : Int) (v480 : Int) (v481 : List Int) (k0 : Int → List Int → Option α) : impl_natDiv_L0 N (n + 1) v477 v478 v479 v480 v481 k0 = impl_natDiv_L0r N (fun y0 y1 y2 y3 y4 => impl_natDiv_L0 N n y0 y1 y2 y3 y4 k0) k0 v477 v478 v479 v480 v481 := by rw [impl_natDiv_L0.eq]; rfl
noncomputable def impl_natDiv_L2r {α : Type} (N : Nat) (next : List Int → Int → List Int → Int → List Int → Option α) (k0 : Int → List Int → Int → List Int → Option α) (v687 : List Int) (v688 : Int) (v689 : List Int) (v690 : Int) (v691 : List Int) : Option α :=
  let x692 := ((v691.length : Nat) : Int)
  let x693 := ((v687.length : Nat) : Int)
  let x694 := (IntKind.i64.wrap (x693 + (1 : Int)))
  let x695 := decide (x692 < x694)
  bif x695 then
    let x696 := [(0 : Int)]
    bif decide (v691.length + x696.length ≤ 8796093022208) then
      let x697 := v691 ++ x696
      next v687 v688 v689 v690 x697
    else
      none
  else
    k0 v688 v689 v690 v691
noncomputable def impl_natDiv_L2.b {α : Type} (N n : Nat) (v687 : List Int) (v688 : Int) (v689 : List Int) (v690 : Int) (v691 : List Int) (k0 : Int → List Int → Int → List Int → Option α) : Option α :=
  Nat.rec (motive := fun _ => List Int → Int → List Int → Int → List Int → Option α) (fun _ _ _ _ _ => none) (fun _ next => impl_natDiv_L2r N next k0) n v687 v688 v689 v690 v691
theorem impl_natDiv_L2.ex : ∃ f : ((α : Type) → Nat → Nat → List Int → Int → List Int → Int → List Int → (Int → List Int → Int → List Int → Option α) → Option α), f = fun α => @impl_natDiv_L2.b α := ⟨_, rfl⟩
noncomputable def impl_natDiv_L2 {α : Type} : Nat → Nat → List Int → Int → List Int → Int → List Int → (Int → List Int → Int → List Int → Option α) → Option α := Classical.choose impl_natDiv_L2.ex α
theorem impl_natDiv_L2.eq : @impl_natDiv_L2 = @impl_natDiv_L2.b := funext fun α => congrFun (Classical.choose_spec impl_natDiv_L2.ex) α
theorem impl_natDiv_L2.zero {α : Type} (N : Nat) (v687 : List Int) (v688 : Int) (v689 : List Int) (v690 : Int) (v691 : List Int) (k0 : Int → List Int → Int → List Int → Option α) : impl_natDiv_L2 N 0 v687 v688 v689 v690 v691 k0 = none := by rw [impl_natDiv_L2.eq]; rfl
theorem impl_natDiv_L2.succ {α : Type} (N n : Nat) (v687 : List Int) (v688 : Int) (v689 : List Int) (v690 : Int) (v691 : List Int) (k0 : Int → List Int → Int → List Int → Option α) : impl_natDiv_L2 N (n + 1) v687 v688 v689 v690 v691 k0 = impl_natDiv_L2r N (fun y0 y1 y2 y3 y4 => impl_natDiv_L2 N n y0 y1 y2 y3 y4 k0) k0 v687 v688 v689 v690 v691 := by rw [impl_natDiv_L2.eq]; rfl
noncomputable def impl_natDiv_L6r {α : Type} (N : Nat) (next : Int → List Int → Int → Int → Int → Int → List Int → List Int → Option α) (k0 : Int → List Int → Int → Int → Int → List Int → List Int → Option α) (v728 : Int) (v729 : List Int) (v730 : Int) (v731 : Int) (v732 : Int) (v733 : Int) (v734 : List Int) (v735 : List Int) : Option α :=
  let x736 := (decide ((65536 : Int) ≤ v732))
  bif x736 then
    let x737 := (IntKind.i64.wrap (v732 - (1 : Int)))
    let x738 := (IntKind.i64.wrap (v730 - (1 : Int)))
    bif (decide (x738 < (0 : Int))) then
      none
    else
      match v729[x738.toNat]? with
      | some x739 =>
        let x740 := IntKind.i64.wrap (v733 + x739)
        let x741 := (decide ((65536 : Int) ≤ x740))
        bif x741 then
          k0 v728 v729 v730 v731 x737 v734 v735
        else
          next v728 v729 v730 v731 x737 x740 v734 v735
      | none => none
  else
    let x742 := (IntKind.i64.wrap (v730 - (2 : Int)))
    bif (decide (x742 < (0 : Int))) then
      none
    else
      match v729[x742.toNat]? with
      | some x743 =>
        let x744 := IntKind.i64.wrap (v732 * x743)
        let x745 := (shlI .i64 v733 (16 : Int))
        let x746 := IntKind.i64.wrap (v731 + v730)
        let x747 := (IntKind.i64.wrap (x746 - (2 : Int)))
        bif (decide (x747 < (0 : Int))) then
          none
        else
          bif decide (x747.toNat < v734.length) then
            match v734[x747.toNat]? with
            | some x748 =>
              let x749 := bitI .or .i64 x745 x748
              let x750 := decide (x749 < x744)
              bif x750 then
                let x751 := (IntKind.i64.wrap (v732 - (1 : Int)))
                let x752 := (IntKind.i64.wrap (v730 - (1 : Int)))
                bif (decide (x752 < (0 : Int))) then
                  none
                else
                  match v729[x752.toNat]? with
                  | some x753 =>
                    let x754 := IntKind.i64.wrap (v733 + x753)
                    let x755 := (decide ((65536 : Int) ≤ x754))
                    bif x755 then
                      k0 v728 v729 v730 v731 x751 v734 v735
                    else
                      next v728 v729 v730 v731 x751 x754 v734 v735
                  | none => none
              else
                k0 v728 v729 v730 v731 v732 v734 v735
            | none => none
          else
            none
      | none => none
noncomputable def impl_natDiv_L6.b {α : Type} (N n : Nat) (v728 : Int) (v729 : List Int) (v730 : Int) (v731 : Int) (v732 : Int) (v733 : Int) (v734 : List Int) (v735 : List Int) (k0 : Int → List Int → Int → Int → Int → List Int → List Int → Option α) : Option α :=
  Nat.rec (motive := fun _ => Int → List Int → Int → Int → Int → Int → List Int → List Int → Option α) (fun _ _ _ _ _ _ _ _ => none) (fun _ next => impl_natDiv_L6r N next k0) n v728 v729 v730 v731 v732 v733 v734 v735
theorem impl_natDiv_L6.ex : ∃ f : ((α : Type) → Nat → Nat → Int → List Int → Int → Int → Int → Int → List Int → List Int → (Int → List Int → Int → Int → Int → List Int → List Int → Option α) → Option α), f = fun α => @impl_natDiv_L6.b α := ⟨_, rfl⟩
noncomputable def impl_natDiv_L6 {α : Type} : Nat → Nat → Int → List Int → Int → Int → Int → Int → List Int → List Int → (Int → List Int → Int → Int → Int → List Int → List Int → Option α) → Option α := Classical.choose impl_natDiv_L6.ex α
theorem impl_natDiv_L6.eq : @impl_natDiv_L6 = @impl_natDiv_L6.b := funext fun α => congrFun (Classical.choose_spec impl_natDiv_L6.ex) α
theorem impl_natDiv_L6.zero {α : Type} (N : Nat) (v728 : Int) (v729 : List Int) (v730 : Int) (v731 : Int) (v732 : Int) (v733 : Int) (v734 : List Int) (v735 : List Int) (k0 : Int → List Int → Int → Int → Int → List Int → List Int → Option α) : impl_natDiv_L6 N 0 v728 v729 v730 v731 v732 v733 v734 v735 k0 = none := by rw [impl_natDiv_L6.eq]; rfl
theorem impl_natDiv_L6.succ {α : Type} (N n : Nat) (v728 : Int) (v729 : List Int) (v730 : Int) (v731 : Int) (v732 : Int) (v733 : Int) (v734 : List Int) (v735 : List Int) (k0 : Int → List Int → Int → Int → Int → List Int → List Int → Option α) : impl_natDiv_L6 N (n + 1) v728 v729 v730 v731 v732 v733 v734 v735 k0 = impl_natDiv_L6r N (fun y0 y1 y2 y3 y4 y5 y6 y7 => impl_natDiv_L6 N n y0 y1 y2 y3 y4 y5 y6 y7 k0) k0 v728 v729 v730 v731 v732 v733 v734 v735 := by rw [impl_natDiv_L6.eq]; rfl
noncomputable def impl_natDiv_J34.b {α : Type} (N : Nat) (v782 : Int) (v783 : List Int) (v784 : Int) (v785 : Int) (v786 : Int) (v787 : Int) (v788 : Int) (v789 : Int) (v790 : List Int) (v791 : Int) (v792 : Int) (v793 : List Int) (v794 : List Int) (k0 : Int → List Int → Int → Int → Int → Int → Int → Int → List Int → Int → Int → List Int → List Int → Option α) : Option α :=
  let x795 := (decide (v789 < (0 : Int)))
  bif x795 then
    let x796 := IntKind.i64.wrap (0 - v789)
    let x797 := (IntKind.i64.wrap (x796 + (65536 : Int)))
    let x798 := (IntKind.i64.wrap (x797 - (1 : Int)))
    let x799 := (IntKind.i64.wrap (Int.tdiv x798 (65536 : Int)))
    let x800 := (IntKind.i64.wrap (x799 * (65536 : Int)))
    let x801 := IntKind.i64.wrap (v789 + x800)
    k0 v782 v783 v784 v785 v786 x799 v788 x801 v790 v791 v792 v793 v794
  else
    k0 v782 v783 v784 v785 v786 v787 v788 v789 v790 v791 v792 v793 v794
theorem impl_natDiv_J34.ex : ∃ f : ((α : Type) → Nat → Int → List Int → Int → Int → Int → Int → Int → Int → List Int → Int → Int → List Int → List Int → (Int → List Int → Int → Int → Int → Int → Int → Int → List Int → Int → Int → List Int → List Int → Option α) → Option α), f = fun α => @impl_natDiv_J34.b α := ⟨_, rfl⟩
noncomputable def impl_natDiv_J34 {α : Type} : Nat → Int → List Int → Int → Int → Int → Int → Int → Int → List Int → Int → Int → List Int → List Int → (Int → List Int → Int → Int → Int → Int → Int → Int → List Int → Int → Int → List Int → List Int → Option α) → Option α := Classical.choose impl_natDiv_J34.ex α
theorem impl_natDiv_J34.eq : @impl_natDiv_J34 = @impl_natDiv_J34.b := funext fun α => congrFun (Classical.choose_spec impl_natDiv_J34.ex) α
noncomputable def impl_natDiv_L8r {α : Type} (N : Nat) (next : Int → List Int → Int → Int → Int → Int → List Int → Int → Int → List Int → List Int → Option α) (k0 : Int → List Int → Int → Int → Int → Int → List Int → List Int → Option α) (v764 : Int) (v765 : List Int) (v766 : Int) (v767 : Int) (v768 : Int) (v769 : Int) (v770 : List Int) (v771 : Int) (v772 : Int) (v773 : List Int) (v774 : List Int) : Option α :=
  let x775 := decide (v772 < v771)
  bif x775 then
    bif (decide (v772 < (0 : Int))) then
      none
    else
      match v770[v772.toNat]? with
      | some x776 =>
        let x777 := IntKind.i64.wrap (v767 + v772)
        bif (decide (x777 < (0 : Int))) then
          none
        else
          bif decide (x777.toNat < v773.length) then
            match v773[x777.toNat]? with
            | some x778 =>
              let x779 := IntKind.i64.wrap (x778 - v769)
              let x780 := IntKind.i64.wrap (v768 * x776)
              let x781 := IntKind.i64.wrap (x779 - x780)
              impl_natDiv_J34 N v764 v765 v766 v767 v768 (0 : Int) v772 x781 v770 v771 v772 v773 v774
                (fun x802 x803 x804 x805 x806 x807 x808 x809 x810 x811 x812 x813 x814 =>
                  let x815 := IntKind.i64.wrap (x805 + x808)
                  bif (decide (x815 < (0 : Int))) then
                    none
                  else
                    bif decide (x815.toNat < x813.length) then
                      match x813[x815.toNat]? with
                      | some x816 =>
                        let x817 := x813.set x815.toNat x809
                        let x818 := (IntKind.i64.wrap (x812 + (1 : Int)))
                        next x802 x803 x804 x805 x806 x807 x810 x811 x818 x817 x814
                      | none => none
                    else
                      none)
            | none => none
          else
            none
      | none => none
  else
    k0 v764 v765 v766 v767 v768 v769 v773 v774
noncomputable def impl_natDiv_L8.b {α : Type} (N n : Nat) (v764 : Int) (v765 : List Int) (v766 : Int) (v767 : Int) (v768 : Int) (v769 : Int) (v770 : List Int) (v771 : Int) (v772 : Int) (v773 : List Int) (v774 : List Int) (k0 : Int → List Int → Int → Int → Int → Int → List Int → List Int → Option α) : Option α :=
  Nat.rec (motive := fun _ => Int → List Int → Int → Int → Int → Int → List Int → Int → Int → List Int → List Int → Option α) (fun _ _ _ _ _ _ _ _ _ _ _ => none) (fun _ next => impl_natDiv_L8r N next k0) n v764 v765 v766 v767 v768 v769 v770 v771 v772 v773 v774
theorem impl_natDiv_L8.ex : ∃ f : ((α : Type) → Nat → Nat → Int → List Int → Int → Int → Int → Int → List Int → Int → Int → List Int → List Int → (Int → List Int → Int → Int → Int → Int → List Int → List Int → Option α) → Option α), f = fun α => @impl_natDiv_L8.b α := ⟨_, rfl⟩
noncomputable def impl_natDiv_L8 {α : Type} : Nat → Nat → Int → List Int → Int → Int → Int → Int → List Int → Int → Int → List Int → List Int → (Int → List Int → Int → Int → Int → Int → List Int → List Int → Option α) → Option α := Classical.choose impl_natDiv_L8.ex α
theorem impl_natDiv_L8.eq : @impl_natDiv_L8 = @impl_natDiv_L8.b := funext fun α => congrFun (Classical.choose_spec impl_natDiv_L8.ex) α
theorem impl_natDiv_L8.zero {α : Type} (N : Nat) (v764 : Int) (v765 : List Int) (v766 : Int) (v767 : Int) (v768 : Int) (v769 : Int) (v770 : List Int) (v771 : Int) (v772 : Int) (v773 : List Int) (v774 : List Int) (k0 : Int → List Int → Int → Int → Int → Int → List Int → List Int → Option α) : impl_natDiv_L8 N 0 v764 v765 v766 v767 v768 v769 v770 v771 v772 v773 v774 k0 = none := by rw [impl_natDiv_L8.eq]; rfl
theorem impl_natDiv_L8.succ {α : Type} (N n : Nat) (v764 : Int) (v765 : List Int) (v766 : Int) (v767 : Int) (v768 : Int) (v769 : Int) (v770 : List Int) (v771 : Int) (v772 : Int) (v773 : List Int) (v774 : List Int) (k0 : Int → List Int → Int → Int → Int → Int → List Int → List Int → Option α) : impl_natDiv_L8 N (n + 1) v764 v765 v766 v767 v768 v769 v770 v771 v772 v773 v774 k0 = impl_natDiv_L8r N (fun y0 y1 y2 y3 y4 y5 y6 y7 y8 y9 y10 => impl_natDiv_L8 N n y0 y1 y2 y3 y4 y5 y6 y7 y8 y9 y10 k0) k0 v764 v765 v766 v767 v768 v769 v770 v771 v772 v773 v774 := by rw [impl_natDiv_L8.eq]; rfl
noncomputable def impl_natDiv_L10r {α : Type} (N : Nat) (next : Int → List Int → Int → Int → Int → Int → List Int → Int → Int → List Int → List Int → Option α) (k0 : Int → List Int → Int → Int → Int → Int → List Int → List Int → Option α) (v844 : Int) (v845 : List Int) (v846 : Int) (v847 : Int) (v848 : Int) (v849 : Int) (v850 : List Int) (v851 : Int) (v852 : Int) (v853 : List Int) (v854 : List Int) : Option α :=
  let x855 := decide (v852 < v851)
  bif x855 then
    bif (decide (v852 < (0 : Int))) then
      none
    else
      match v850[v852.toNat]? with
      | some x856 =>
        let x857 := IntKind.i64.wrap (v847 + v852)
        bif (decide (x857 < (0 : Int))) then
          none
        else
          bif decide (x857.toNat < v853.length) then
            match v853[x857.toNat]? with
            | some x858 =>
              let x859 := IntKind.i64.wrap (x858 + x856)
              let x860 := IntKind.i64.wrap (x859 + v849)
              let x861 := IntKind.i64.wrap (v847 + v852)
              let x862 := (bitI .and .i64 x860 (65535 : Int))
              let x863 := (shrI .i64 x860 (16 : Int))
              bif (decide (x861 < (0 : Int))) then
                none
              else
                bif decide (x861.toNat < v853.length) then
                  match v853[x861.toNat]? with
                  | some x864 =>
                    let x865 := v853.set x861.toNat x862
                    let x866 := (IntKind.i64.wrap (v852 + (1 : Int)))
                    next v844 v845 v846 v847 v848 x863 v850 v851 x866 x865 v854
                  | none => none
                else
                  none
            | none => none
          else
            none
      | none => none
  else
    k0 v844 v845 v846 v847 v848 v849 v853 v854
noncomputable def impl_natDiv_L10.b {α : Type} (N n : Nat) (v844 : Int) (v845 : List Int) (v846 : Int) (v847 : Int) (v848 : Int) (v849 : Int) (v850 : List Int) (v851 : Int) (v852 : Int) (v853 : List Int) (v854 : List Int) (k0 : Int → List Int → Int → Int → Int → Int → List Int → List Int → Option α) : Option α :=
  Nat.rec (motive := fun _ => Int → List Int → Int → Int → Int → Int → List Int → Int → Int → List Int → List Int → Option α) (fun _ _ _ _ _ _ _ _ _ _ _ => none) (fun _ next => impl_natDiv_L10r N next k0) n v844 v845 v846 v847 v848 v849 v850 v851 v852 v853 v854
theorem impl_natDiv_L10.ex : ∃ f : ((α : Type) → Nat → Nat → Int → List Int → Int → Int → Int → Int → List Int → Int → Int → List Int → List Int → (Int → List Int → Int → Int → Int → Int → List Int → List Int → Option α) → Option α), f = fun α => @impl_natDiv_L10.b α := ⟨_, rfl⟩
noncomputable def impl_natDiv_L10 {α : Type} : Nat → Nat → Int → List Int → Int → Int → Int → Int → List Int → Int → Int → List Int → List Int → (Int → List Int → Int → Int → Int → Int → List Int → List Int → Option α) → Option α := Classical.choose impl_natDiv_L10.ex α
theorem impl_natDiv_L10.eq : @impl_natDiv_L10 = @impl_natDiv_L10.b := funext fun α => congrFun (Classical.choose_spec impl_natDiv_L10.ex) α
theorem impl_natDiv_L10.zero {α : Type} (N : Nat) (v844 : Int) (v845 : List Int) (v846 : Int) (v847 : Int) (v848 : Int) (v849 : Int) (v850 : List Int) (v851 : Int) (v852 : Int) (v853 : List Int) (v854 : List Int) (k0 : Int → List Int → Int → Int → Int → Int → List Int → List Int → Option α) : impl_natDiv_L10 N 0 v844 v845 v846 v847 v848 v849 v850 v851 v852 v853 v854 k0 = none := by rw [impl_natDiv_L10.eq]; rfl
theorem impl_natDiv_L10.succ {α : Type} (N n : Nat) (v844 : Int) (v845 : List Int) (v846 : Int) (v847 : Int) (v848 : Int) (v849 : Int) (v850 : List Int) (v851 : Int) (v852 : Int) (v853 : List Int) (v854 : List Int) (k0 : Int → List Int → Int → Int → Int → Int → List Int → List Int → Option α) : impl_natDiv_L10 N (n + 1) v844 v845 v846 v847 v848 v849 v850 v851 v852 v853 v854 k0 = impl_natDiv_L10r N (fun y0 y1 y2 y3 y4 y5 y6 y7 y8 y9 y10 => impl_natDiv_L10 N n y0 y1 y2 y3 y4 y5 y6 y7 y8 y9 y10 k0) k0 v844 v845 v846 v847 v848 v849 v850 v851 v852 v853 v854 := by rw [impl_natDiv_L10.eq]; rfl
noncomputable def impl_natDiv_J40.b {α : Type} (N : Nat) (v832 : Int) (v833 : List Int) (v834 : Int) (v835 : Int) (v836 : Int) (v837 : List Int) (v838 : List Int) (k0 : Int → List Int → Int → Int → Int → List Int → List Int → Option α) : Option α :=
  let x839 := IntKind.i64.wrap (v835 + v834)
  bif (decide (x839 < (0 : Int))) then
    none
  else
    bif decide (x839.toNat < v837.length) then
      match v837[x839.toNat]? with
      | some x840 =>
        let x841 := (decide (x840 < (0 : Int)))
        bif x841 then
          let x842 := (IntKind.i64.wrap (v836 - (1 : Int)))
          let x843 := ((v833.length : Nat) : Int)
          impl_natDiv_L10 N N v832 v833 v834 v835 x842 (0 : Int) v833 x843 (0 : Int) v837 v838
            (fun x867 x868 x869 x870 x871 x872 x873 x874 =>
              let x875 := IntKind.i64.wrap (x870 + x869)
              bif (decide (x875 < (0 : Int))) then
                none
              else
                bif decide (x875.toNat < x873.length) then
                  match x873[x875.toNat]? with
                  | some x876 =>
                    let x877 := IntKind.i64.wrap (x876 + x872)
                    bif (decide (x875 < (0 : Int))) then
                      none
                    else
                      bif decide (x875.toNat < x873.length) then
                        match x873[x875.toNat]? with
                        | some x878 =>
                          let x879 := x873.set x875.toNat x877
                          k0 x867 x868 x869 x870 x871 x879 x874
                        | none => none
                      else
                        none
                  | none => none
                else
                  none)
        else
          k0 v832 v833 v834 v835 v836 v837 v838
      | none => none
    else
      none
theorem impl_natDiv_J40.ex : ∃ f : ((α : Type) → Nat → Int → List Int → Int → Int → Int → List Int → List Int → (Int → List Int → Int → Int → Int → List Int → List Int → Option α) → Option α), f = fun α => @impl_natDiv_J40.b α := ⟨_, rfl⟩
noncomputable def impl_natDiv_J40 {α : Type} : Nat → Int → List Int → Int → Int → Int → List Int → List Int → (Int → List Int → Int → Int → Int → List Int → List Int → Option α) → Option α := Classical.choose impl_natDiv_J40.ex α
theorem impl_natDiv_J40.eq : @impl_natDiv_J40 = @impl_natDiv_J40.b := funext fun α => congrFun (Classical.choose_spec impl_natDiv_J40.ex) α
noncomputable def impl_natDiv_L4r {α : Type} (N : Nat) (next : Int → List Int → Int → Int → List Int → List Int → Option α) (k0 : Int → List Int → List Int → Option α) (v708 : Int) (v709 : List Int) (v710 : Int) (v711 : Int) (v712 : List Int) (v713 : List Int) : Option α :=
  let x714 := (decide ((0 : Int) ≤ v711))
  bif x714 then
    let x715 := IntKind.i64.wrap (v711 + v710)
    bif (decide (x715 < (0 : Int))) then
      none
    else
      bif decide (x715.toNat < v712.length) then
        match v712[x715.toNat]? with
        | some x716 =>
          let x717 := (shlI .i64 x716 (16 : Int))
          let x718 := IntKind.i64.wrap (v711 + v710)
          let x719 := (IntKind.i64.wrap (x718 - (1 : Int)))
          bif (decide (x719 < (0 : Int))) then
            none
          else
            bif decide (x719.toNat < v712.length) then
              match v712[x719.toNat]? with
              | some x720 =>
                let x721 := bitI .or .i64 x717 x720
                let x722 := (IntKind.i64.wrap (v710 - (1 : Int)))
                bif (decide (x722 < (0 : Int))) then
                  none
                else
                  match v709[x722.toNat]? with
                  | some x723 =>
                    bif (decide (x723 = (0 : Int))) then
                      none
                    else
                      let x724 := IntKind.i64.wrap (Int.tdiv x721 x723)
                      let x725 := (IntKind.i64.wrap (v710 - (1 : Int)))
                      bif (decide (x725 < (0 : Int))) then
                        none
                      else
                        match v709[x725.toNat]? with
                        | some x726 =>
                          bif (decide (x726 = (0 : Int))) then
                            none
                          else
                            let x727 := Int.tmod x721 x726
                            impl_natDiv_L6 N N v708 v709 v710 v711 x724 x727 v712 v713
                              (fun x756 x757 x758 x759 x760 x761 x762 =>
                                let x763 := ((x757.length : Nat) : Int)
                                impl_natDiv_L8 N N x756 x757 x758 x759 x760 (0 : Int) x757 x763 (0 : Int) x761 x762
                                  (fun x819 x820 x821 x822 x823 x824 x825 x826 =>
                                    let x827 := IntKind.i64.wrap (x822 + x821)
                                    bif (decide (x827 < (0 : Int))) then
                                      none
                                    else
                                      bif decide (x827.toNat < x825.length) then
                                        match x825[x827.toNat]? with
                                        | some x828 =>
                                          let x829 := IntKind.i64.wrap (x828 - x824)
                                          bif (decide (x827 < (0 : Int))) then
                                            none
                                          else
                                            bif decide (x827.toNat < x825.length) then
                                              match x825[x827.toNat]? with
                                              | some x830 =>
                                                let x831 := x825.set x827.toNat x829
                                                impl_natDiv_J40 N x819 x820 x821 x822 x823 x831 x826
                                                  (fun x880 x881 x882 x883 x884 x885 x886 =>
                                                    bif (decide (x883 < (0 : Int))) then
                                                      none
                                                    else
                                                      bif decide (x883.toNat < x886.length) then
                                                        match x886[x883.toNat]? with
                                                        | some x887 =>
                                                          let x888 := x886.set x883.toNat x884
                                                          let x889 := (IntKind.i64.wrap (x883 - (1 : Int)))
                                                          next x880 x881 x882 x889 x885 x888
                                                        | none => none
                                                      else
                                                        none)
                                              | none => none
                                            else
                                              none
                                        | none => none
                                      else
                                        none))
                        | none => none
                  | none => none
              | none => none
            else
              none
        | none => none
      else
        none
  else
    k0 v708 v712 v713
noncomputable def impl_natDiv_L4.b {α : Type} (N n : Nat) (v708 : Int) (v709 : List Int) (v710 : Int) (v711 : Int) (v712 : List Int) (v713 : List Int) (k0 : Int → List Int → List Int → Option α) : Option α :=
  Nat.rec (motive := fun _ => Int → List Int → Int → Int → List Int → List Int → Option α) (fun _ _ _ _ _ _ => none) (fun _ next => impl_natDiv_L4r N next k0) n v708 v709 v710 v711 v712 v713
theorem impl_natDiv_L4.ex : ∃ f : ((α : Type) → Nat → Nat → Int → List Int → Int → Int → List Int → List Int → (Int → List Int → List Int → Option α) → Option α), f = fun α => @impl_natDiv_L4.b α := ⟨_, rfl⟩
noncomputable def impl_natDiv_L4 {α : Type} : Nat → Nat → Int → List Int → Int → Int → List Int → List Int → (Int → List Int → List Int → Option α) → Option α := Classical.choose impl_natDiv_L4.ex α
theorem impl_natDiv_L4.eq : @impl_natDiv_L4 = @impl_natDiv_L4.b := funext fun α => congrFun (Classical.choose_spec impl_natDiv_L4.ex) α
theorem impl_natDiv_L4.zero {α : Type} (N : Nat) (v708 : Int) (v709 : List Int) (v710 : Int) (v711 : Int) (v712 : List Int) (v713 : List Int) (k0 : Int → List Int → List Int → Option α) : impl_natDiv_L4 N 0 v708 v709 v710 v711 v712 v713 k0 = none := by rw [impl_natDiv_L4.eq]; rfl
theorem impl_natDiv_L4.succ {α : Type} (N n : Nat) (v708 : Int) (v709 : List Int) (v710 : Int) (v711 : Int) (v712 : List Int) (v713 : List Int) (k0 : Int → List Int → List Int → Option α) : impl_natDiv_L4 N (n + 1) v708 v709 v710 v711 v712 v713 k0 = impl_natDiv_L4r N (fun y0 y1 y2 y3 y4 y5 => impl_natDiv_L4 N n y0 y1 y2 y3 y4 y5 k0) k0 v708 v709 v710 v711 v712 v713 := by rw [impl_natDiv_L4.eq]; rfl
/-- loop.example/pinfold/impl.natDiv -/
noncomputable def impl_natDiv.b {α : Type} (N : Nat) (a441 : List Int) (a442 : List Int) (k0 : List Int → List Int → Option α) : Option α :=
  impl_natCmp N a441 a442
    (fun x469 =>
      let x470 := (decide (x469 < (0 : Int)))
      bif x470 then
        k0 [] a441
      else
        let x471 := ((a442.length : Nat) : Int)
        let x472 := (decide (x471 = (1 : Int)))
        bif x472 then
          let x473 := ((a441.length : Nat) : Int)
          bif (decide ((0 : Int) ≤ x473)) then
            bif decide (x473 ≤ x473) then
              bif (decide (x473 ≤ ((8796093022208 : Nat) : Int))) then
                let x474 := (List.replicate x473.toNat (0 : Int))
                let x475 := ((a441.length : Nat) : Int)
                let x476 := (IntKind.i64.wrap (x475 - (1 : Int)))
                impl_natDiv_L0 N N a441 a442 (0 : Int) x476 x474
                  (fun x493 x494 =>
                    impl_trim N x494
                      (fun x507 =>
                        let x508 := [x493]
                        impl_trim N x508
                          (fun x509 =>
                            k0 x507 x509)))
              else
                none
            else
              none
          else
            none
        else
          let x510 := ((a442.length : Nat) : Int)
          let x511 := (IntKind.i64.wrap (x510 - (1 : Int)))
          bif (decide (x511 < (0 : Int))) then
            none
          else
            match a442[x511.toNat]? with
            | some x512 =>
              let x513 := IntKind.u64.wrap x512
              math_bits_Len N x513
                (fun x542 =>
                  let x543 := (IntKind.i64.wrap ((16 : Int) - x542))
                  impl_natShift N a442 x543
                    (fun x681 =>
                      impl_natShift N a441 x543
                        (fun x682 =>
                          slices_Clone_int_int N x682
                            (fun x683 =>
                              let x684 := [(0 : Int)]
                              bif decide (x683.length + x684.length ≤ 8796093022208) then
                                let x685 := x683 ++ x684
                                let x686 := ((x681.length : Nat) : Int)
                                impl_natDiv_L2 N N a441 x543 x681 x686 x685
                                  (fun x698 x699 x700 x701 =>
                                    let x702 := ((x701.length : Nat) : Int)
                                    let x703 := IntKind.i64.wrap (x702 - x700)
                                    bif (decide ((0 : Int) ≤ x703)) then
                                      bif decide (x703 ≤ x703) then
                                        bif (decide (x703 ≤ ((8796093022208 : Nat) : Int))) then
                                          let x704 := (List.replicate x703.toNat (0 : Int))
                                          let x705 := ((x701.length : Nat) : Int)
                                          let x706 := IntKind.i64.wrap (x705 - x700)
                                          let x707 := (IntKind.i64.wrap (x706 - (1 : Int)))
                                          impl_natDiv_L4 N N x698 x699 x700 x707 x701 x704
                                            (fun x890 x891 x892 =>
                                              impl_trim N x892
                                                (fun x893 =>
                                                  impl_trim N x891
                                                    (fun x894 =>
                                                      let x895 := IntKind.i64.wrap (0 - x890)
                                                      impl_natShift N x894 x895
                                                        (fun x896 =>
                                                          k0 x893 x896))))
                                        else
                                          none
                                      else
                                        none
                                    else
                                      none)
                              else
                                none))))
            | none => none)
theorem impl_natDiv.ex : ∃ f : ((α : Type) → Nat → List Int → List Int → (List Int → List Int → Option α) → Option α), f = fun α => @impl_natDiv.b α := ⟨_, rfl⟩
noncomputable def impl_natDiv {α : Type} : Nat → List Int → List Int → (List Int → List Int → Option α) → Option α := Classical.choose impl_natDiv.ex α
theorem impl_natDiv.eq : @impl_natDiv = @impl_natDiv.b := funext fun α => congrFun (Classical.choose_spec impl_natDiv.ex) α

noncomputable def impl_natGcd_L0r {α : Type} (N : Nat) (next : List Int → List Int → Option α) (k0 : List Int → Option α) (v368 : List Int) (v369 : List Int) : Option α :=
  let x370 := ((v369.length : Nat) : Int)
  let x371 := (decide ((0 : Int) < x370))
  bif x371 then
    impl_natDiv N v368 v369
      (fun _ x898 =>
        next v369 x898)
  else
    k0 v368
noncomputable def impl_natGcd_L0.b {α : Type} (N n : Nat) (v368 : List Int) (v369 : List Int) (k0 : List Int → Option α) : Option α :=
  Nat.rec (motive := fun _ => List Int → List Int → Option α) (fun _ _ => none) (fun _ next => impl_natGcd_L0r N next k0) n v368 v369
theorem impl_natGcd_L0.ex : ∃ f : ((α : Type) → Nat → Nat → List Int → List Int → (List Int → Option α) → Option α), f = fun α => @impl_natGcd_L0.b α := ⟨_, rfl⟩
noncomputable def impl_natGcd_L0 {α : Type} : Nat → Nat → List Int → List Int → (List Int → Option α) → Option α := Classical.choose impl_natGcd_L0.ex α
theorem impl_natGcd_L0.eq : @impl_natGcd_L0 = @impl_natGcd_L0.b := funext fun α => congrFun (Classical.choose_spec impl_natGcd_L0.ex) α
theorem impl_natGcd_L0.zero {α : Type} (N : Nat) (v368 : List Int) (v369 : List Int) (k0 : List Int → Option α) : impl_natGcd_L0 N 0 v368 v369 k0 = none := by rw [impl_natGcd_L0.eq]; rfl
theorem impl_natGcd_L0.succ {α : Type} (N n : Nat) (v368 : List Int) (v369 : List Int) (k0 : List Int → Option α) : impl_natGcd_L0 N (n + 1) v368 v369 k0 = impl_natGcd_L0r N (fun y0 y1 => impl_natGcd_L0 N n y0 y1 k0) k0 v368 v369 := by rw [impl_natGcd_L0.eq]; rfl
/-- loop.example/pinfold/impl.natGcd -/
noncomputable def impl_natGcd.b {α : Type} (N : Nat) (a366 : List Int) (a367 : List Int) (k0 : List Int → Option α) : Option α :=
  impl_natGcd_L0 N N a366 a367
    (fun x899 =>
      k0 x899)
theorem impl_natGcd.ex : ∃ f : ((α : Type) → Nat → List Int → List Int → (List Int → Option α) → Option α), f = fun α => @impl_natGcd.b α := ⟨_, rfl⟩
noncomputable def impl_natGcd {α : Type} : Nat → List Int → List Int → (List Int → Option α) → Option α := Classical.choose impl_natGcd.ex α
theorem impl_natGcd.eq : @impl_natGcd = @impl_natGcd.b := funext fun α => congrFun (Classical.choose_spec impl_natGcd.ex) α

/-- slices.Clip[[]int,int] -/
noncomputable def slices_Clip_int_int.b {α : Type} (N : Nat) (a903 : List Int) (k0 : List Int → Option α) : Option α :=
  let x904 := ((a903.length : Nat) : Int)
  let x905 := ((a903.length : Nat) : Int)
  bif (decide ((0 : Int) ≤ x905)) then
    bif (decide (x905 ≤ ((a903.length : Nat) : Int))) then
      bif (decide ((0 : Int) ≤ x904)) then
        bif (decide (x904 ≤ ((x905.toNat : Nat) : Int))) then
          let x906 := a903.take x904.toNat
          k0 x906
        else
          none
      else
        none
    else
      none
  else
    none
theorem slices_Clip_int_int.ex : ∃ f : ((α : Type) → Nat → List Int → (List Int → Option α) → Option α), f = fun α => @slices_Clip_int_int.b α := ⟨_, rfl⟩
noncomputable def slices_Clip_int_int {α : Type} : Nat → List Int → (List Int → Option α) → Option α := Classical.choose slices_Clip_int_int.ex α
theorem slices_Clip_int_int.eq : @slices_Clip_int_int = @slices_Clip_int_int.b := funext fun α => congrFun (Classical.choose_spec slices_Clip_int_int.ex) α

/-- loop.example/pinfold/impl.clone[int] -/
noncomputable def impl_clone_int.b {α : Type} (N : Nat) (a901 : List Int) (k0 : List Int → Option α) : Option α :=
  slices_Clone_int_int N a901
    (fun x902 =>
      slices_Clip_int_int N x902
        (fun x907 =>
          k0 x907))
theorem impl_clone_int.ex : ∃ f : ((α : Type) → Nat → List Int → (List Int → Option α) → Option α), f = fun α => @impl_clone_int.b α := ⟨_, rfl⟩
noncomputable def impl_clone_int {α : Type} : Nat → List Int → (List Int → Option α) → Option α := Classical.choose impl_clone_int.ex α
theorem impl_clone_int.eq : @impl_clone_int = @impl_clone_int.b := funext fun α => congrFun (Classical.choose_spec impl_clone_int.ex) α

/-- loop.example/pinfold/impl.NatGcd -/
noncomputable def impl_NatGcd.b {α : Type} (N : Nat) (a308 : List Int) (a309 : List Int) (k0 : Bool → List Int → Option α) : Option α :=
  let x310 := [a308, a309]
  impl_nats N x310
    (fun x364 =>
      let x365 := !x364
      bif x365 then
        k0 false []
      else
        impl_natGcd N a308 a309
          (fun x900 =>
            impl_clone_int N x900
              (fun x908 =>
                k0 true x908)))
theorem impl_NatGcd.ex : ∃ f : ((α : Type) → Nat → List Int → List Int → (Bool → List Int → Option α) → Option α), f = fun α => @impl_NatGcd.b α := ⟨_, rfl⟩
noncomputable def impl_NatGcd {α : Type} : Nat → List Int → List Int → (Bool → List Int → Option α) → Option α := Classical.choose impl_NatGcd.ex α
theorem impl_NatGcd.eq : @impl_NatGcd = @impl_NatGcd.b := funext fun α => congrFun (Classical.choose_spec impl_NatGcd.ex) α

noncomputable def spec_l5Cmp_L0r {α : Type} (N : Nat) (next : List Int → List Int → Int → Option α) (k0 : Int → Option α) (k1 : Option α) (v939 : List Int) (v940 : List Int) (v941 : Int) : Option α :=
  let x942 := (decide ((0 : Int) ≤ v941))
  bif x942 then
    bif (decide (v941 < (0 : Int))) then
      none
    else
      match v939[v941.toNat]? with
      | some x943 =>
        bif (decide (v941 < (0 : Int))) then
          none
        else
          match v940[v941.toNat]? with
          | some x944 =>
            let x945 := decide (x943 < x944)
            bif x945 then
              k0 (-1 : Int)
            else
              bif (decide (v941 < (0 : Int))) then
                none
              else
                match v939[v941.toNat]? with
                | some x946 =>
                  bif (decide (v941 < (0 : Int))) then
                    none
                  else
                    match v940[v941.toNat]? with
                    | some x947 =>
                      let x948 := decide (x947 < x946)
                      bif x948 then
                        k0 (1 : Int)
                      else
                        let x949 := (IntKind.i64.wrap (v941 - (1 : Int)))
                        next v939 v940 x949
                    | none => none
                | none => none
          | none => none
      | none => none
  else
    k1
noncomputable def spec_l5Cmp_L0.b {α : Type} (N n : Nat) (v939 : List Int) (v940 : List Int) (v941 : Int) (k0 : Int → Option α) (k1 : Option α) : Option α :=
  Nat.rec (motive := fun _ => List Int → List Int → Int → Option α) (fun _ _ _ => none) (fun _ next => spec_l5Cmp_L0r N next k0 k1) n v939 v940 v941
theorem spec_l5Cmp_L0.ex : ∃ f : ((α : Type) → Nat → Nat → List Int → List Int → Int → (Int → Option α) → (Option α) → Option α), f = fun α => @spec_l5Cmp_L0.b α := ⟨_, rfl⟩
noncomputable def spec_l5Cmp_L0 {α : Type} : Nat → Nat → List Int → List Int → Int → (Int → Option α) → (Option α) → Option α := Classical.choose spec_l5Cmp_L0.ex α
theorem spec_l5Cmp_L0.eq : @spec_l5Cmp_L0 = @spec_l5Cmp_L0.b := funext fun α => congrFun (Classical.choose_spec spec_l5Cmp_L0.ex) α
theorem spec_l5Cmp_L0.zero {α : Type} (N : Nat) (v939 : List Int) (v940 : List Int) (v941 : Int) (k0 : Int → Option α) (k1 : Option α) : spec_l5Cmp_L0 N 0 v939 v940 v941 k0 k1 = none := by rw [spec_l5Cmp_L0.eq]; rfl
theorem spec_l5Cmp_L0.succ {α : Type} (N n : Nat) (v939 : List Int) (v940 : List Int) (v941 : Int) (k0 : Int → Option α) (k1 : Option α) : spec_l5Cmp_L0 N (n + 1) v939 v940 v941 k0 k1 = spec_l5Cmp_L0r N (fun y0 y1 y2 => spec_l5Cmp_L0 N n y0 y1 y2 k0 k1) k0 k1 v939 v940 v941 := by rw [spec_l5Cmp_L0.eq]; rfl
/-- loop.example/pinfold/spec.l5Cmp -/
noncomputable def spec_l5Cmp.b {α : Type} (N : Nat) (a929 : List Int) (a930 : List Int) (k0 : Int → Option α) : Option α :=
  let x931 := ((a929.length : Nat) : Int)
  let x932 := ((a930.length : Nat) : Int)
  let x933 := decide (x931 < x932)
  bif x933 then
    k0 (-1 : Int)
  else
    let x934 := ((a929.length : Nat) : Int)
    let x935 := ((a930.length : Nat) : Int)
    let x936 := decide (x935 < x934)
    bif x936 then
      k0 (1 : Int)
    else
      let x937 := ((a929.length : Nat) : Int)
      let x938 := (IntKind.i64.wrap (x937 - (1 : Int)))
      spec_l5Cmp_L0 N N a929 a930 x938
        (fun x950 =>
          k0 x950)
        (
          k0 (0 : Int))
theorem spec_l5Cmp.ex : ∃ f : ((α : Type) → Nat → List Int → List Int → (Int → Option α) → Option α), f = fun α => @spec_l5Cmp.b α := ⟨_, rfl⟩
noncomputable def spec_l5Cmp {α : Type} : Nat → List Int → List Int → (Int → Option α) → Option α := Classical.choose spec_l5Cmp.ex α
theorem spec_l5Cmp.eq : @spec_l5Cmp = @spec_l5Cmp.b := funext fun α => congrFun (Classical.choose_spec spec_l5Cmp.ex) α

noncomputable def spec_l5DivSmall_L0r {α : Type} (N : Nat) (next : List Int → Int → Int → Int → List Int → Option α) (k0 : Int → List Int → Option α) (v963 : List Int) (v964 : Int) (v965 : Int) (v966 : Int) (v967 : List Int) : Option α :=
  let x968 := (decide ((0 : Int) ≤ v966))
  bif x968 then
    let x969 := (IntKind.i64.wrap (v965 * (65536 : Int)))
    bif (decide (v966 < (0 : Int))) then
      none
    else
      match v963[v966.toNat]? with
      | some x970 =>
        let x971 := IntKind.i64.wrap (x969 + x970)
        bif (decide (v964 = (0 : Int))) then
          none
        else
          let x972 := IntKind.i64.wrap (Int.tdiv x971 v964)
          bif (decide (v966 < (0 : Int))) then
            none
          else
            bif decide (v966.toNat < v967.length) then
              match v967[v966.toNat]? with
              | some x973 =>
                let x974 := v967.set v966.toNat x972
                bif (decide (v964 = (0 : Int))) then
                  none
                else
                  let x975 := Int.tmod x971 v964
                  let x976 := (IntKind.i64.wrap (v966 - (1 : Int)))
                  next v963 v964 x975 x976 x974
              | none => none
            else
              none
      | none => none
  else
    k0 v965 v967
noncomputable def spec_l5DivSmall_L0.b {α : Type} (N n : Nat) (v963 : List Int) (v964 : Int) (v965 : Int) (v966 : Int) (v967 : List Int) (k0 : Int → List Int → Option α) : Option α :=
  Nat.rec (motive := fun _ => List Int → Int → Int → Int → List Int → Option α) (fun _ _ _ _ _ => none) (fun _ next => spec_l5DivSmall_L0r N next k0) n v963 v964 v965 v966 v967
theorem spec_l5DivSmall_L0.ex : ∃ f : ((α : Type) → Nat → Nat → List Int → Int → Int → Int → List Int → (Int → List Int → Option α) → Option α), f = fun α => @spec_l5DivSmall_L0.b α := ⟨_, rfl⟩
noncomputable def spec_l5DivSmall_L0 {α : Type} : Nat → Nat → List Int → Int → Int → Int → List Int → (Int → List Int → Option α) → Option α := Classical.choose spec_l5DivSmall_L0.ex α
theorem spec_l5DivSmall_L0.eq : @spec_l5DivSmall_L0 = @spec_l5DivSmall_L0.b := funext fun α => congrFun (Classical.choose_spec spec_l5DivSmall_L0.ex) α
theorem spec_l5DivSmall_L0.zero {α : Type} (N : Nat) (v963 : List Int) (v964 : Int) (v965 : Int) (v966 : Int) (v967 : List Int) (k0 : Int → List Int → Option α) : spec_l5DivSmall_L0 N 0 v963 v964 v965 v966 v967 k0 = none := by rw [spec_l5DivSmall_L0.eq]; rfl
theorem spec_l5DivSmall_L0.succ {α : Type} (N n : Nat) (v963 : List Int) (v964 : Int) (v965 : Int) (v966 : Int) (v967 : List Int) (k0 : Int → List Int → Option α) : spec_l5DivSmall_L0 N (n + 1) v963 v964 v965 v966 v967 k0 = spec_l5DivSmall_L0r N (fun y0 y1 y2 y3 y4 => spec_l5DivSmall_L0 N n y0 y1 y2 y3 y4 k0) k0 v963 v964 v965 v966 v967 := by rw [spec_l5DivSmall_L0.eq]; rfl
/-- loop.example/pinfold/spec.l5DivSmall -/
noncomputable def spec_l5DivSmall.b {α : Type} (N : Nat) (a957 : List Int) (a958 : Int) (k0 : Int → List Int → Option α) : Option α :=
  let x959 := ((a957.length : Nat) : Int)
  bif (decide ((0 : Int) ≤ x959)) then
    bif decide (x959 ≤ x959) then
      bif (decide (x959 ≤ ((8796093022208 : Nat) : Int))) then
        let x960 := (List.replicate x959.toNat (0 : Int))
        let x961 := ((a957.length : Nat) : Int)
        let x962 := (IntKind.i64.wrap (x961 - (1 : Int)))
        spec_l5DivSmall_L0 N N a957 a958 (0 : Int) x962 x960
          (fun x977 x978 =>
            spec_l5Trim N x978
              (fun x979 =>
                k0 x977 x979))
      else
        none
    else
      none
  else
    none
theorem spec_l5DivSmall.ex : ∃ f : ((α : Type) → Nat → List Int → Int → (Int → List Int → Option α) → Option α), f = fun α => @spec_l5DivSmall.b α := ⟨_, rfl⟩
noncomputable def spec_l5DivSmall {α : Type} : Nat → List Int → Int → (Int → List Int → Option α) → Option α := Classical.choose spec_l5DivSmall.ex α
theorem spec_l5DivSmall.eq : @spec_l5DivSmall = @spec_l5DivSmall.b := funext fun α => congrFun (Classical.choose_spec spec_l5DivSmall.ex) α

/-- loop.example/pinfold/spec.l5Times -/
noncomputable def spec_l5Times.b {α : Type} (N : Nat) (a989 : List Int) (a990 : Int) (k0 : List Int → Option α) : Option α :=
  let x991 := (decide (a990 = (0 : Int)))
  bif x991 then
    k0 []
  else
    let x992 := [a990]
    spec_l5Mul N a989 x992
      (fun x993 =>
        k0 x993)
theorem spec_l5Times.ex : ∃ f : ((α : Type) → Nat → List Int → Int → (List Int → Option α) → Option α), f = fun α => @spec_l5Times.b α := ⟨_, rfl⟩
noncomputable def spec_l5Times {α : Type} : Nat → List Int → Int → (List Int → Option α) → Option α := Classical.choose spec_l5Times.ex α
theorem spec_l5Times.eq : @spec_l5Times = @spec_l5Times.b := funext fun α => congrFun (Classical.choose_spec spec_l5Times.ex) α

noncomputable def spec_l5Top_L0r {α : Type} (N : Nat) (next : List Int → Int → List Int → Option α) (k0 : List Int → Option α) (v1006 : List Int) (v1007 : Int) (v1008 : List Int) : Option α :=
  let x1009 := ((v1006.length : Nat) : Int)
  let x1010 := decide (v1007 < x1009)
  bif x1010 then
    bif (decide (v1007 < (0 : Int))) then
      none
    else
      match v1006[v1007.toNat]? with
      | some x1011 =>
        let x1012 := [x1011]
        bif decide (v1008.length + x1012.length ≤ 8796093022208) then
          let x1013 := v1008 ++ x1012
          let x1014 := (IntKind.i64.wrap (v1007 + (1 : Int)))
          next v1006 x1014 x1013
        else
          none
      | none => none
  else
    k0 v1008
noncomputable def spec_l5Top_L0.b {α : Type} (N n : Nat) (v1006 : List Int) (v1007 : Int) (v1008 : List Int) (k0 : List Int → Option α) : Option α :=
  Nat.rec (motive := fun _ => List Int → Int → List Int → Option α) (fun _ _ _ => none) (fun _ next => spec_l5Top_L0r N next k0) n v1006 v1007 v1008
theorem spec_l5Top_L0.ex : ∃ f : ((α : Type) → Nat → Nat → List Int → Int → List Int → (List Int → Option α) → Option α), f = fun α => @spec_l5Top_L0.b α := ⟨_, rfl⟩
noncomputable def spec_l5Top_L0 {α : Type} : Nat → Nat → List Int → Int → List Int → (List Int → Option α) → Option α := Classical.choose spec_l5Top_L0.ex α
theorem spec_l5Top_L0.eq : @spec_l5Top_L0 = @spec_l5Top_L0.b := funext fun α => congrFun (Classical.choose_spec spec_l5Top_L0.ex) α
theorem spec_l5Top_L0.zero {α : Type} (N : Nat) (v1006 : List Int) (v1007 : Int) (v1008 : List Int) (k0 : List Int → Option α) : spec_l5Top_L0 N 0 v1006 v1007 v1008 k0 = none := by rw [spec_l5Top_L0.eq]; rfl
theorem spec_l5Top_L0.succ {α : Type} (N n : Nat) (v1006 : List Int) (v1007 : Int) (v1008 : List Int) (k0 : List Int → Option α) : spec_l5Top_L0 N (n + 1) v1006 v1007 v1008 k0 = spec_l5Top_L0r N (fun y0 y1 y2 => spec_l5Top_L0 N n y0 y1 y2 k0) k0 v1006 v1007 v1008 := by rw [spec_l5Top_L0.eq]; rfl
/-- loop.example/pinfold/spec.l5Top -/
noncomputable def spec_l5Top.b {α : Type} (N : Nat) (a1004 : List Int) (a1005 : Int) (k0 : List Int → Option α) : Option α :=
  spec_l5Top_L0 N N a1004 a1005 []
    (fun x1015 =>
      k0 x1015)
theorem spec_l5Top.ex : ∃ f : ((α : Type) → Nat → List Int → Int → (List Int → Option α) → Option α), f = fun α => @spec_l5Top.b α := ⟨_, rfl⟩
noncomputable def spec_l5Top {α : Type} : Nat → List Int → Int → (List Int → Option α) → Option α := Classical.choose spec_l5Top.ex α
theorem spec_l5Top.eq : @spec_l5Top = @spec_l5Top.b := funext fun α => congrFun (Classical.choose_spec spec_l5Top.ex) α

noncomputable def spec_l5Shl_L0r {α : Type} (N : Nat) (next : List Int → Int → List Int → Option α) (k0 : List Int → Option α) (v1032 : List Int) (v1033 : Int) (v1034 : List Int) : Option α :=
  let x1035 := ((v1032.length : Nat) : Int)
  let x1036 := decide (v1033 < x1035)
  bif x1036 then
    bif (decide (v1033 < (0 : Int))) then
      none
    else
      match v1032[v1033.toNat]? with
      | some x1037 =>
        let x1038 := [x1037]
        bif decide (v1034.length + x1038.length ≤ 8796093022208) then
          let x1039 := v1034 ++ x1038
          let x1040 := (IntKind.i64.wrap (v1033 + (1 : Int)))
          next v1032 x1040 x1039
        else
          none
      | none => none
  else
    k0 v1034
noncomputable def spec_l5Shl_L0.b {α : Type} (N n : Nat) (v1032 : List Int) (v1033 : Int) (v1034 : List Int) (k0 : List Int → Option α) : Option α :=
  Nat.rec (motive := fun _ => List Int → Int → List Int → Option α) (fun _ _ _ => none) (fun _ next => spec_l5Shl_L0r N next k0) n v1032 v1033 v1034
theorem spec_l5Shl_L0.ex : ∃ f : ((α : Type) → Nat → Nat → List Int → Int → List Int → (List Int → Option α) → Option α), f = fun α => @spec_l5Shl_L0.b α := ⟨_, rfl⟩
noncomputable def spec_l5Shl_L0 {α : Type} : Nat → Nat → List Int → Int → List Int → (List Int → Option α) → Option α := Classical.choose spec_l5Shl_L0.ex α
theorem spec_l5Shl_L0.eq : @spec_l5Shl_L0 = @spec_l5Shl_L0.b := funext fun α => congrFun (Classical.choose_spec spec_l5Shl_L0.ex) α
theorem spec_l5Shl_L0.zero {α : Type} (N : Nat) (v1032 : List Int) (v1033 : Int) (v1034 : List Int) (k0 : List Int → Option α) : spec_l5Shl_L0 N 0 v1032 v1033 v1034 k0 = none := by rw [spec_l5Shl_L0.eq]; rfl
theorem spec_l5Shl_L0.succ {α : Type} (N n : Nat) (v1032 : List Int) (v1033 : Int) (v1034 : List Int) (k0 : List Int → Option α) : spec_l5Shl_L0 N (n + 1) v1032 v1033 v1034 k0 = spec_l5Shl_L0r N (fun y0 y1 y2 => spec_l5Shl_L0 N n y0 y1 y2 k0) k0 v1032 v1033 v1034 := by rw [spec_l5Shl_L0.eq]; rfl
/-- loop.example/pinfold/spec.l5Shl -/
noncomputable def spec_l5Shl.b {α : Type} (N : Nat) (a1027 : List Int) (a1028 : Int) (k0 : List Int → Option α) : Option α :=
  let x1029 := ((a1027.length : Nat) : Int)
  let x1030 := (decide (x1029 = (0 : Int)))
  bif x1030 then
    k0 []
  else
    bif (decide ((0 : Int) ≤ a1028)) then
      bif decide (a1028 ≤ a1028) then
        bif (decide (a1028 ≤ ((8796093022208 : Nat) : Int))) then
          let x1031 := (List.replicate a1028.toNat (0 : Int))
          spec_l5Shl_L0 N N a1027 (0 : Int) x1031
            (fun x1041 =>
              k0 x1041)
        else
          none
      else
        none
    else
      none
theorem spec_l5Shl.ex : ∃ f : ((α : Type) → Nat → List Int → Int → (List Int → Option α) → Option α), f = fun α => @spec_l5Shl.b α := ⟨_, rfl⟩
noncomputable def spec_l5Shl {α : Type} : Nat → List Int → Int → (List Int → Option α) → Option α := Classical.choose spec_l5Shl.ex α
theorem spec_l5Shl.eq : @spec_l5Shl = @spec_l5Shl.b := funext fun α => congrFun (Classical.choose_spec spec_l5Shl.ex) α

/-- loop.example/pinfold/spec.l5At -/
noncomputable def spec_l5At.b {α : Type} (N : Nat) (a1065 : List Int) (a1066 : Int) (k0 : Int → Option α) : Option α :=
  let x1067 := ((a1065.length : Nat) : Int)
  let x1068 := decide (a1066 < x1067)
  bif x1068 then
    bif (decide (a1066 < (0 : Int))) then
      none
    else
      match a1065[a1066.toNat]? with
      | some x1069 =>
        k0 x1069
      | none => none
  else
    k0 (0 : Int)
theorem spec_l5At.ex : ∃ f : ((α : Type) → Nat → List Int → Int → (Int → Option α) → Option α), f = fun α => @spec_l5At.b α := ⟨_, rfl⟩
noncomputable def spec_l5At {α : Type} : Nat → List Int → Int → (Int → Option α) → Option α := Classical.choose spec_l5At.ex α
theorem spec_l5At.eq : @spec_l5At = @spec_l5At.b := funext fun α => congrFun (Classical.choose_spec spec_l5At.ex) α

noncomputable def spec_l5Add_J2.b {α : Type} (N : Nat) (v1049 : List Int) (v1050 : List Int) (v1051 : Int) (k0 : List Int → List Int → Int → Option α) : Option α :=
  let x1052 := ((v1050.length : Nat) : Int)
  let x1053 := decide (v1051 < x1052)
  bif x1053 then
    let x1054 := ((v1050.length : Nat) : Int)
    k0 v1049 v1050 x1054
  else
    k0 v1049 v1050 v1051
theorem spec_l5Add_J2.ex : ∃ f : ((α : Type) → Nat → List Int → List Int → Int → (List Int → List Int → Int → Option α) → Option α), f = fun α => @spec_l5Add_J2.b α := ⟨_, rfl⟩
noncomputable def spec_l5Add_J2 {α : Type} : Nat → List Int → List Int → Int → (List Int → List Int → Int → Option α) → Option α := Classical.choose spec_l5Add_J2.ex α
theorem spec_l5Add_J2.eq : @spec_l5Add_J2 = @spec_l5Add_J2.b := funext fun α => congrFun (Classical.choose_spec spec_l5Add_J2.ex) α
noncomputable def spec_l5Add_L0r {α : Type} (N : Nat) (next : List Int → List Int → Int → Int → Int → List Int → Option α) (k0 : Int → List Int → Option α) (v1058 : List Int) (v1059 : List Int) (v1060 : Int) (v1061 : Int) (v1062 : Int) (v1063 : List Int) : Option α :=
  let x1064 := decide (v1062 < v1060)
  bif x1064 then
    spec_l5At N v1058 v1062
      (fun x1070 =>
        spec_l5At N v1059 v1062
          (fun x1071 =>
            let x1072 := IntKind.i64.wrap (x1070 + x1071)
            let x1073 := IntKind.i64.wrap (x1072 + v1061)
            let x1074 := (Int.tmod x1073 (65536 : Int))
            let x1075 := [x1074]
            bif decide (v1063.length + x1075.length ≤ 8796093022208) then
              let x1076 := v1063 ++ x1075
              let x1077 := (IntKind.i64.wrap (Int.tdiv x1073 (65536 : Int)))
              let x1078 := (IntKind.i64.wrap (v1062 + (1 : Int)))
              next v1058 v1059 v1060 x1077 x1078 x1076
            else
              none))
  else
    k0 v1061 v1063
noncomputable def spec_l5Add_L0.b {α : Type} (N n : Nat) (v1058 : List Int) (v1059 : List Int) (v1060 : Int) (v1061 : Int) (v1062 : Int) (v1063 : List Int) (k0 : Int → List Int → Option α) : Option α :=
  Nat.rec (motive := fun _ => List Int → List Int → Int → Int → Int → List Int → Option α) (fun _ _ _ _ _ _ => none) (fun _ next => spec_l5Add_L0r N next k0) n v1058 v1059 v1060 v1061 v1062 v1063
theorem spec_l5Add_L0.ex : ∃ f : ((α : Type) → Nat → Nat → List Int → List Int → Int → Int → Int → List Int → (Int → List Int → Option α) → Option α), f = fun α => @spec_l5Add_L0.b α := ⟨_, rfl⟩
noncomputable def spec_l5Add_L0 {α : Type} : Nat → Nat → List Int → List Int → Int → Int → Int → List Int → (Int → List Int → Option α) → Option α := Classical.choose spec_l5Add_L0.ex α
theorem spec_l5Add_L0.eq : @spec_l5Add_L0 = @spec_l5Add_L0.b := funext fun α => congrFun (Classical.choose_spec spec_l5Add_L0.ex) α
theorem spec_l5Add_L0.zero {α : Type} (N : Nat) (v1058 : List Int) (v1059 : List Int) (v1060 : Int) (v1061 : Int) (v1062 : Int) (v1063 : List Int) (k0 : Int → List Int → Option α) : spec_l5Add_L0 N 0 v1058 v1059 v1060 v1061 v1062 v1063 k0 = none := by rw [spec_l5Add_L0.eq]; rfl
theorem spec_l5Add_L0.succ {α : Type} (N n : Nat) (v1058 : List Int) (v1059 : List Int) (v1060 : Int) (v1061 : Int) (v1062 : Int) (v1063 : List Int) (k0 : Int → List Int → Option α) : spec_l5Add_L0 N (n + 1) v1058 v1059 v1060 v1061 v1062 v1063 k0 = spec_l5Add_L0r N (fun y0 y1 y2 y3 y4 y5 => spec_l5Add_L0 N n y0 y1 y2 y3 y4 y5 k0) k0 v1058 v1059 v1060 v1061 v1062 v1063 := by rw [spec_l5Add_L0.eq]; rfl
noncomputable def spec_l5Add_J12.b {α : Type} (N : Nat) (v1081 : Int) (v1082 : List Int) (k0 : List Int → Option α) : Option α :=
  let x1083 := (decide ((0 : Int) < v1081))
  bif x1083 then
    let x1084 := [v1081]
    bif decide (v1082.length + x1084.length ≤ 8796093022208) then
      let x1085 := v1082 ++ x1084
      k0 x1085
    else
      none
  else
    k0 v1082
theorem spec_l5Add_J12.ex : ∃ f : ((α : Type) → Nat → Int → List Int → (List Int → Option α) → Option α), f = fun α => @spec_l5Add_J12.b α := ⟨_, rfl⟩
noncomputable def spec_l5Add_J12 {α : Type} : Nat → Int → List Int → (List Int → Option α) → Option α := Classical.choose spec_l5Add_J12.ex α
theorem spec_l5Add_J12.eq : @spec_l5Add_J12 = @spec_l5Add_J12.b := funext fun α => congrFun (Classical.choose_spec spec_l5Add_J12.ex) α
/-- loop.example/pinfold/spec.l5Add -/
noncomputable def spec_l5Add.b {α : Type} (N : Nat) (a1046 : List Int) (a1047 : List Int) (k0 : List Int → Option α) : Option α :=
  let x1048 := ((a1046.length : Nat) : Int)
  spec_l5Add_J2 N a1046 a1047 x1048
    (fun x1055 x1056 x1057 =>
      spec_l5Add_L0 N N x1055 x1056 x1057 (0 : Int) (0 : Int) []
        (fun x1079 x1080 =>
          spec_l5Add_J12 N x1079 x1080
            (fun x1086 =>
              k0 x1086)))
theorem spec_l5Add.ex : ∃ f : ((α : Type) → Nat → List Int → List Int → (List Int → Option α) → Option α), f = fun α => @spec_l5Add.b α := ⟨_, rfl⟩
noncomputable def spec_l5Add {α : Type} : Nat → List Int → List Int → (List Int → Option α) → Option α := Classical.choose spec_l5Add.ex α
theorem spec_l5Add.eq : @spec_l5Add = @spec_l5Add.b := funext fun α => congrFun (Classical.choose_spec spec_l5Add.ex) α

noncomputable def spec_l5Sub_J8.b {α : Type} (N : Nat) (v1139 : List Int) (v1140 : List Int) (v1141 : Int) (v1142 : Int) (v1143 : Int) (v1144 : List Int) (k0 : List Int → List Int → Int → Int → Int → List Int → Option α) : Option α :=
  let x1145 := (decide (v1143 < (0 : Int)))
  bif x1145 then
    let x1146 := (IntKind.i64.wrap (v1143 + (65536 : Int)))
    k0 v1139 v1140 (1 : Int) v1142 x1146 v1144
  else
    k0 v1139 v1140 v1141 v1142 v1143 v1144
theorem spec_l5Sub_J8.ex : ∃ f : ((α : Type) → Nat → List Int → List Int → Int → Int → Int → List Int → (List Int → List Int → Int → Int → Int → List Int → Option α) → Option α), f = fun α => @spec_l5Sub_J8.b α := ⟨_, rfl⟩
noncomputable def spec_l5Sub_J8 {α : Type} : Nat → List Int → List Int → Int → Int → Int → List Int → (List Int → List Int → Int → Int → Int → List Int → Option α) → Option α := Classical.choose spec_l5Sub_J8.ex α
theorem spec_l5Sub_J8.eq : @spec_l5Sub_J8 = @spec_l5Sub_J8.b := funext fun α => congrFun (Classical.choose_spec spec_l5Sub_J8.ex) α
noncomputable def spec_l5Sub_L0r {α : Type} (N : Nat) (next : List Int → List Int → Int → Int → List Int → Option α) (k0 : List Int → Option α) (v1128 : List Int) (v1129 : List Int) (v1130 : Int) (v1131 : Int) (v1132 : List Int) : Option α :=
  let x1133 := ((v1128.length : Nat) : Int)
  let x1134 := decide (v1131 < x1133)
  bif x1134 then
    bif (decide (v1131 < (0 : Int))) then
      none
    else
      match v1128[v1131.toNat]? with
      | some x1135 =>
        spec_l5At N v1129 v1131
          (fun x1136 =>
            let x1137 := IntKind.i64.wrap (x1135 - x1136)
            let x1138 := IntKind.i64.wrap (x1137 - v1130)
            spec_l5Sub_J8 N v1128 v1129 (0 : Int) v1131 x1138 v1132
              (fun x1147 x1148 x1149 x1150 x1151 x1152 =>
                let x1153 := [x1151]
                bif decide (x1152.length + x1153.length ≤ 8796093022208) then
                  let x1154 := x1152 ++ x1153
                  let x1155 := (IntKind.i64.wrap (x1150 + (1 : Int)))
                  next x1147 x1148 x1149 x1155 x1154
                else
                  none))
      | none => none
  else
    k0 v1132
noncomputable def spec_l5Sub_L0.b {α : Type} (N n : Nat) (v1128 : List Int) (v1129 : List Int) (v1130 : Int) (v1131 : Int) (v1132 : List Int) (k0 : List Int → Option α) : Option α :=
  Nat.rec (motive := fun _ => List Int → List Int → Int → Int → List Int → Option α) (fun _ _ _ _ _ => none) (fun _ next => spec_l5Sub_L0r N next k0) n v1128 v1129 v1130 v1131 v1132
theorem spec_l5Sub_L0.ex : ∃ f : ((α : Type) → Nat → Nat → List Int → List Int → Int → Int → List Int → (List Int → Option α) → Option α), f = fun α => @spec_l5Sub_L0.b α := ⟨_, rfl⟩
noncomputable def spec_l5Sub_L0 {α : Type} : Nat → Nat → List Int → List Int → Int → Int → List Int → (List Int → Option α) → Option α := Classical.choose spec_l5Sub_L0.ex α
theorem spec_l5Sub_L0.eq : @spec_l5Sub_L0 = @spec_l5Sub_L0.b := funext fun α => congrFun (Classical.choose_spec spec_l5Sub_L0.ex) α
theorem spec_l5Sub_L0.zero {α : Type} (N : Nat) (v1128 : List Int) (v1129 : List Int) (v1130 : Int) (v1131 : Int) (v1132 : List Int) (k0 : List Int → Option α) : spec_l5Sub_L0 N 0 v1128 v1129 v1130 v1131 v1132 k0 = none := by rw [spec_l5Sub_L0.eq]; rfl
theorem spec_l5Sub_L0.succ {α : Type} (N n : Nat) (v1128 : List Int) (v1129 : List Int) (v1130 : Int) (v1131 : Int) (v1132 : List Int) (k0 : List Int → Option α) : spec_l5Sub_L0 N (n + 1) v1128 v1129 v1130 v1131 v1132 k0 = spec_l5Sub_L0r N (fun y0 y1 y2 y3 y4 => spec_l5Sub_L0 N n y0 y1 y2 y3 y4 k0) k0 v1128 v1129 v1130 v1131 v1132 := by rw [spec_l5Sub_L0.eq]; rfl
/-- loop.example/pinfold/spec.l5Sub -/
noncomputable def spec_l5Sub.b {α : Type} (N : Nat) (a1126 : List Int) (a1127 : List Int) (k0 : List Int → Option α) : Option α :=
  spec_l5Sub_L0 N N a1126 a1127 (0 : Int) (0 : Int) []
    (fun x1156 =>
      spec_l5Trim N x1156
        (fun x1157 =>
          k0 x1157))
theorem spec_l5Sub.ex : ∃ f : ((α : Type) → Nat → List Int → List Int → (List Int → Option α) → Option α), f = fun α => @spec_l5Sub.b α := ⟨_, rfl⟩
noncomputable def spec_l5Sub {α : Type} : Nat → List Int → List Int → (List Int → Option α) → Option α := Classical.choose spec_l5Sub.ex α
theorem spec_l5Sub.eq : @spec_l5Sub = @spec_l5Sub.b := funext fun α => congrFun (Classical.choose_spec spec_l5Sub.ex) α

noncomputable def spec_l5Div_J17.b {α : Type} (N : Nat) (v1097 : Int) (v1098 : Int) (v1099 : Int) (v1100 : Int) (v1101 : List Int) (v1102 : List Int) (v1103 : List Int) (v1104 : List Int) (k0 : Int → Int → Int → Int → List Int → List Int → List Int → List Int → Option α) : Option α :=
  let x1105 := (decide ((65536 : Int) ≤ v1100))
  bif x1105 then
    k0 v1097 v1098 v1099 (65535 : Int) v1101 v1102 v1103 v1104
  else
    k0 v1097 v1098 v1099 v1100 v1101 v1102 v1103 v1104
theorem spec_l5Div_J17.ex : ∃ f : ((α : Type) → Nat → Int → Int → Int → Int → List Int → List Int → List Int → List Int → (Int → Int → Int → Int → List Int → List Int → List Int → List Int → Option α) → Option α), f = fun α => @spec_l5Div_J17.b α := ⟨_, rfl⟩
noncomputable def spec_l5Div_J17 {α : Type} : Nat → Int → Int → Int → Int → List Int → List Int → List Int → List Int → (Int → Int → Int → Int → List Int → List Int → List Int → List Int → Option α) → Option α := Classical.choose spec_l5Div_J17.ex α
theorem spec_l5Div_J17.eq : @spec_l5Div_J17 = @spec_l5Div_J17.b := funext fun α => congrFun (Classical.choose_spec spec_l5Div_J17.ex) α
noncomputable def spec_l5Div_L2r {α : Type} (N : Nat) (next : Int → Int → Int → Int → List Int → List Int → List Int → List Int → List Int → Option α) (k0 : Int → Int → Int → Int → List Int → List Int → List Int → List Int → List Int → Option α) (v1115 : Int) (v1116 : Int) (v1117 : Int) (v1118 : Int) (v1119 : List Int) (v1120 : List Int) (v1121 : List Int) (v1122 : List Int) (v1123 : List Int) : Option α :=
  spec_l5Cmp N v1123 v1122
    (fun x1124 =>
      let x1125 := (decide ((0 : Int) < x1124))
      bif x1125 then
        spec_l5Sub N v1123 v1120
          (fun x1158 =>
            let x1159 := (IntKind.i64.wrap (v1118 - (1 : Int)))
            next v1115 v1116 v1117 x1159 v1119 v1120 v1121 v1122 x1158)
      else
        k0 v1115 v1116 v1117 v1118 v1119 v1120 v1121 v1122 v1123)
noncomputable def spec_l5Div_L2.b {α : Type} (N n : Nat) (v1115 : Int) (v1116 : Int) (v1117 : Int) (v1118 : Int) (v1119 : List Int) (v1120 : List Int) (v1121 : List Int) (v1122 : List Int) (v1123 : List Int) (k0 : Int → Int → Int → Int → List Int → List Int → List Int → List Int → List Int → Option α) : Option α :=
  Nat.rec (motive := fun _ => Int → Int → Int → Int → List Int → List Int → List Int → List Int → List Int → Option α) (fun _ _ _ _ _ _ _ _ _ => none) (fun _ next => spec_l5Div_L2r N next k0) n v1115 v1116 v1117 v1118 v1119 v1120 v1121 v1122 v1123
theorem spec_l5Div_L2.ex : ∃ f : ((α : Type) → Nat → Nat → Int → Int → Int → Int → List Int → List Int → List Int → List Int → List Int → (Int → Int → Int → Int → List Int → List Int → List Int → List Int → List Int → Option α) → Option α), f = fun α => @spec_l5Div_L2.b α := ⟨_, rfl⟩
noncomputable def spec_l5Div_L2 {α : Type} : Nat → Nat → Int → Int → Int → Int → List Int → List Int → List Int → List Int → List Int → (Int → Int → Int → Int → List Int → List Int → List Int → List Int → List Int → Option α) → Option α := Classical.choose spec_l5Div_L2.ex α
theorem spec_l5Div_L2.eq : @spec_l5Div_L2 = @spec_l5Div_L2.b := funext fun α => congrFun (Classical.choose_spec spec_l5Div_L2.ex) α
theorem spec_l5Div_L2.zero {α : Type} (N : Nat) (v1115 : Int) (v1116 : Int) (v1117 : Int) (v1118 : Int) (v1119 : List Int) (v1120 : List Int) (v1121 : List Int) (v1122 : List Int) (v1123 : List Int) (k0 : Int → Int → Int → Int → List Int → List Int → List Int → List Int → List Int → Option α) : spec_l5Div_L2 N 0 v1115 v1116 v1117 v1118 v1119 v1120 v1121 v1122 v1123 k0 = none := by rw [spec_l5Div_L2.eq]; rfl
theorem spec_l5Div_L2.succ {α : Type} (N n : Nat) (v1115 : Int) (v1116 : Int) (v1117 : Int) (v1118 : Int) (v1119 : List Int) (v1120 : List Int) (v1121 : List Int) (v1122 : List Int) (v1123 : List Int) (k0 : Int → Int → Int → Int → List Int → List Int → List Int → List Int → List Int → Option α) : spec_l5Div_L2 N (n + 1) v1115 v1116 v1117 v1118 v1119 v1120 v1121 v1122 v1123 k0 = spec_l5Div_L2r N (fun y0 y1 y2 y3 y4 y5 y6 y7 y8 => spec_l5Div_L2 N n y0 y1 y2 y3 y4 y5 y6 y7 y8 k0) k0 v1115 v1116 v1117 v1118 v1119 v1120 v1121 v1122 v1123 := by rw [spec_l5Div_L2.eq]; rfl
noncomputable def spec_l5Div_L0r {α : Type} (N : Nat) (next : Int → Int → Int → List Int → List Int → List Int → List Int → Option α) (k0 : Int → List Int → List Int → Option α) (v1019 : Int) (v1020 : Int) (v1021 : Int) (v1022 : List Int) (v1023 : List Int) (v1024 : List Int) (v1025 : List Int) : Option α :=
  let x1026 := (decide ((0 : Int) ≤ v1021))
  bif x1026 then
    spec_l5Shl N v1025 (1 : Int)
      (fun x1042 =>
        bif (decide (v1021 < (0 : Int))) then
          none
        else
          bif decide (v1021.toNat < v1022.length) then
            match v1022[v1021.toNat]? with
            | some x1043 =>
              let x1044 := IntKind.u64.wrap x1043
              spec_NatOf N x1044
                (fun x1045 =>
                  spec_l5Add N x1042 x1045
                    (fun x1087 =>
                      spec_l5Trim N x1087
                        (fun x1088 =>
                          spec_l5At N x1088 v1020
                            (fun x1089 =>
                              let x1090 := (IntKind.i64.wrap (x1089 * (65536 : Int)))
                              let x1091 := (IntKind.i64.wrap (v1020 - (1 : Int)))
                              spec_l5At N x1088 x1091
                                (fun x1092 =>
                                  let x1093 := IntKind.i64.wrap (x1090 + x1092)
                                  let x1094 := (IntKind.i64.wrap (v1020 - (1 : Int)))
                                  bif (decide (x1094 < (0 : Int))) then
                                    none
                                  else
                                    bif decide (x1094.toNat < v1023.length) then
                                      match v1023[x1094.toNat]? with
                                      | some x1095 =>
                                        bif (decide (x1095 = (0 : Int))) then
                                          none
                                        else
                                          let x1096 := IntKind.i64.wrap (Int.tdiv x1093 x1095)
                                          spec_l5Div_J17 N v1019 v1020 v1021 x1096 v1022 v1023 v1024 x1088
                                            (fun x1106 x1107 x1108 x1109 x1110 x1111 x1112 x1113 =>
                                              spec_l5Times N x1111 x1109
                                                (fun x1114 =>
                                                  spec_l5Div_L2 N N x1106 x1107 x1108 x1109 x1110 x1111 x1112 x1113 x1114
                                                    (fun x1160 x1161 x1162 x1163 x1164 x1165 x1166 x1167 x1168 =>
                                                      bif (decide (x1162 < (0 : Int))) then
                                                        none
                                                      else
                                                        bif decide (x1162.toNat < x1166.length) then
                                                          match x1166[x1162.toNat]? with
                                                          | some x1169 =>
                                                            let x1170 := x1166.set x1162.toNat x1163
                                                            spec_l5Sub N x1167 x1168
                                                              (fun x1171 =>
                                                                let x1172 := (IntKind.i64.wrap (x1162 - (1 : Int)))
                                                                next x1160 x1161 x1172 x1164 x1165 x1170 x1171)
                                                          | none => none
                                                        else
                                                          none)))
                                      | none => none
                                    else
                                      none)))))
            | none => none
          else
            none)
  else
    k0 v1019 v1024 v1025
noncomputable def spec_l5Div_L0.b {α : Type} (N n : Nat) (v1019 : Int) (v1020 : Int) (v1021 : Int) (v1022 : List Int) (v1023 : List Int) (v1024 : List Int) (v1025 : List Int) (k0 : Int → List Int → List Int → Option α) : Option α :=
  Nat.rec (motive := fun _ => Int → Int → Int → List Int → List Int → List Int → List Int → Option α) (fun _ _ _ _ _ _ _ => none) (fun _ next => spec_l5Div_L0r N next k0) n v1019 v1020 v1021 v1022 v1023 v1024 v1025
theorem spec_l5Div_L0.ex : ∃ f : ((α : Type) → Nat → Nat → Int → Int → Int → List Int → List Int → List Int → List Int → (Int → List Int → List Int → Option α) → Option α), f = fun α => @spec_l5Div_L0.b α := ⟨_, rfl⟩
noncomputable def spec_l5Div_L0 {α : Type} : Nat → Nat → Int → Int → Int → List Int → List Int → List Int → List Int → (Int → List Int → List Int → Option α) → Option α := Classical.choose spec_l5Div_L0.ex α
theorem spec_l5Div_L0.eq : @spec_l5Div_L0 = @spec_l5Div_L0.b := funext fun α => congrFun (Classical.choose_spec spec_l5Div_L0.ex) α
theorem spec_l5Div_L0.zero {α : Type} (N : Nat) (v1019 : Int) (v1020 : Int) (v1021 : Int) (v1022 : List Int) (v1023 : List Int) (v1024 : List Int) (v1025 : List Int) (k0 : Int → List Int → List Int → Option α) : spec_l5Div_L0 N 0 v1019 v1020 v1021 v1022 v1023 v1024 v1025 k0 = none := by rw [spec_l5Div_L0.eq]; rfl
theorem spec_l5Div_L0.succ {α : Type} (N n : Nat) (v1019 : Int) (v1020 : Int) (v1021 : Int) (v1022 : List Int) (v1023 : List Int) (v1024 : List Int) (v1025 : List Int) (k0 : Int → List Int → List Int → Option α) : spec_l5Div_L0 N (n + 1) v1019 v1020 v1021 v1022 v1023 v1024 v1025 k0 = spec_l5Div_L0r N (fun y0 y1 y2 y3 y4 y5 y6 => spec_l5Div_L0 N n y0 y1 y2 y3 y4 y5 y6 k0) k0 v1019 v1020 v1021 v1022 v1023 v1024 v1025 := by rw [spec_l5Div_L0.eq]; rfl
/-- loop.example/pinfold/spec.l5Div -/
noncomputable def spec_l5Div.b {α : Type} (N : Nat) (a927 : List Int) (a928 : List Int) (k0 : List Int → List Int → Option α) : Option α :=
  spec_l5Cmp N a927 a928
    (fun x951 =>
      let x952 := (decide (x951 < (0 : Int)))
      bif x952 then
        spec_l5Trim N a927
          (fun x953 =>
            k0 [] x953)
      else
        let x954 := ((a928.length : Nat) : Int)
        let x955 := (decide (x954 = (1 : Int)))
        bif x955 then
          match a928[0]? with
          | some x956 =>
            spec_l5DivSmall N a927 x956
              (fun x980 x981 =>
                let x982 := IntKind.u64.wrap x980
                spec_NatOf N x982
                  (fun x983 =>
                    k0 x981 x983))
          | none => none
        else
          let x984 := ((a928.length : Nat) : Int)
          let x985 := (IntKind.i64.wrap (x984 - (1 : Int)))
          bif (decide (x985 < (0 : Int))) then
            none
          else
            match a928[x985.toNat]? with
            | some x986 =>
              let x987 := (IntKind.i64.wrap (x986 + (1 : Int)))
              bif (decide (x987 = (0 : Int))) then
                none
              else
                let x988 := (IntKind.i64.wrap (Int.tdiv (65536 : Int) x987))
                spec_l5Times N a927 x988
                  (fun x994 =>
                    spec_l5Times N a928 x988
                      (fun x995 =>
                        let x996 := ((x995.length : Nat) : Int)
                        let x997 := ((x994.length : Nat) : Int)
                        let x998 := IntKind.i64.wrap (x997 - x996)
                        let x999 := (IntKind.i64.wrap (x998 + (1 : Int)))
                        bif (decide ((0 : Int) ≤ x999)) then
                          bif decide (x999 ≤ x999) then
                            bif (decide (x999 ≤ ((8796093022208 : Nat) : Int))) then
                              let x1000 := (List.replicate x999.toNat (0 : Int))
                              let x1001 := ((x994.length : Nat) : Int)
                              let x1002 := IntKind.i64.wrap (x1001 - x996)
                              let x1003 := (IntKind.i64.wrap (x1002 + (1 : Int)))
                              spec_l5Top N x994 x1003
                                (fun x1016 =>
                                  let x1017 := ((x994.length : Nat) : Int)
                                  let x1018 := IntKind.i64.wrap (x1017 - x996)
                                  spec_l5Div_L0 N N x988 x996 x1018 x994 x995 x1000 x1016
                                    (fun x1173 x1174 x1175 =>
                                      spec_l5DivSmall N x1175 x1173
                                        (fun _ x1177 =>
                                          spec_l5Trim N x1174
                                            (fun x1178 =>
                                              k0 x1178 x1177))))
                            else
                              none
                          else
                            none
                        else
                          none))
            | none => none)
theorem spec_l5Div.ex : ∃ f : ((α : Type) → Nat → List Int → List Int → (List Int → List Int → Option α) → Option α), f = fun α => @spec_l5Div.b α := ⟨_, rfl⟩
noncomputable def spec_l5Div {α : Type} : Nat → List Int → List Int → (List Int → List Int → Option α) → Option α := Classical.choose spec_l5Div.ex α
theorem spec_l5Div.eq : @spec_l5Div = @spec_l5Div.b := funext fun α => congrFun (Classical.choose_spec spec_l5Div.ex) α

noncomputable def spec_l5Gcd_L0r {α : Type} (N : Nat) (next : List Int → List Int → Option α) (k0 : List Int → Option α) (v923 : List Int) (v924 : List Int) : Option α :=
  let x925 := ((v924.length : Nat) : Int)
  let x926 := (decide ((0 : Int) < x925))
  bif x926 then
    spec_l5Div N v923 v924
      (fun _ x1180 =>
        next v924 x1180)
  else
    k0 v923
noncomputable def spec_l5Gcd_L0.b {α : Type} (N n : Nat) (v923 : List Int) (v924 : List Int) (k0 : List Int → Option α) : Option α :=
  Nat.rec (motive := fun _ => List Int → List Int → Option α) (fun _ _ => none) (fun _ next => spec_l5Gcd_L0r N next k0) n v923 v924
theorem spec_l5Gcd_L0.ex : ∃ f : ((α : Type) → Nat → Nat → List Int → List Int → (List Int → Option α) → Option α), f = fun α => @spec_l5Gcd_L0.b α := ⟨_, rfl⟩
noncomputable def spec_l5Gcd_L0 {α : Type} : Nat → Nat → List Int → List Int → (List Int → Option α) → Option α := Classical.choose spec_l5Gcd_L0.ex α
theorem spec_l5Gcd_L0.eq : @spec_l5Gcd_L0 = @spec_l5Gcd_L0.b := funext fun α => congrFun (Classical.choose_spec spec_l5Gcd_L0.ex) α
theorem spec_l5Gcd_L0.zero {α : Type} (N : Nat) (v923 : List Int) (v924 : List Int) (k0 : List Int → Option α) : spec_l5Gcd_L0 N 0 v923 v924 k0 = none := by rw [spec_l5Gcd_L0.eq]; rfl
theorem spec_l5Gcd_L0.succ {α : Type} (N n : Nat) (v923 : List Int) (v924 : List Int) (k0 : List Int → Option α) : spec_l5Gcd_L0 N (n + 1) v923 v924 k0 = spec_l5Gcd_L0r N (fun y0 y1 => spec_l5Gcd_L0 N n y0 y1 k0) k0 v923 v924 := by rw [spec_l5Gcd_L0.eq]; rfl
/-- loop.example/pinfold/spec.l5Gcd -/
noncomputable def spec_l5Gcd.b {α : Type} (N : Nat) (a919 : List Int) (a920 : List Int) (k0 : List Int → Option α) : Option α :=
  spec_l5Trim N a919
    (fun x921 =>
      spec_l5Trim N a920
        (fun x922 =>
          spec_l5Gcd_L0 N N x921 x922
            (fun x1181 =>
              k0 x1181)))
theorem spec_l5Gcd.ex : ∃ f : ((α : Type) → Nat → List Int → List Int → (List Int → Option α) → Option α), f = fun α => @spec_l5Gcd.b α := ⟨_, rfl⟩
noncomputable def spec_l5Gcd {α : Type} : Nat → List Int → List Int → (List Int → Option α) → Option α := Classical.choose spec_l5Gcd.ex α
theorem spec_l5Gcd.eq : @spec_l5Gcd = @spec_l5Gcd.b := funext fun α => congrFun (Classical.choose_spec spec_l5Gcd.ex) α

/-- loop.example/pinfold/spec.NatGcd -/
noncomputable def spec_NatGcd.b {α : Type} (N : Nat) (a913 : List Int) (a914 : List Int) (k0 : Bool → List Int → Option α) : Option α :=
  spec_NatOk N a913
    (fun x915 =>
      let x916 := !x915
      bif x916 then
        k0 false []
      else
        spec_NatOk N a914
          (fun x917 =>
            let x918 := !x917
            bif x918 then
              k0 false []
            else
              spec_l5Gcd N a913 a914
                (fun x1182 =>
                  k0 true x1182)))
theorem spec_NatGcd.ex : ∃ f : ((α : Type) → Nat → List Int → List Int → (Bool → List Int → Option α) → Option α), f = fun α => @spec_NatGcd.b α := ⟨_, rfl⟩
noncomputable def spec_NatGcd {α : Type} : Nat → List Int → List Int → (Bool → List Int → Option α) → Option α := Classical.choose spec_NatGcd.ex α
theorem spec_NatGcd.eq : @spec_NatGcd = @spec_NatGcd.b := funext fun α => congrFun (Classical.choose_spec spec_NatGcd.ex) α

noncomputable def laws_pwSame_L0r {α : Type} (N : Nat) (next : List Int → List Int → Int → Option α) (k0 : Bool → Option α) (k1 : Option α) (v1192 : List Int) (v1193 : List Int) (v1194 : Int) : Option α :=
  let x1195 := ((v1192.length : Nat) : Int)
  let x1196 := decide (v1194 < x1195)
  bif x1196 then
    bif (decide (v1194 < (0 : Int))) then
      none
    else
      match v1192[v1194.toNat]? with
      | some x1197 =>
        bif (decide (v1194 < (0 : Int))) then
          none
        else
          match v1193[v1194.toNat]? with
          | some x1198 =>
            let x1199 := !(decide (x1197 = x1198))
            bif x1199 then
              k0 false
            else
              let x1200 := (IntKind.i64.wrap (v1194 + (1 : Int)))
              next v1192 v1193 x1200
          | none => none
      | none => none
  else
    k1
noncomputable def laws_pwSame_L0.b {α : Type} (N n : Nat) (v1192 : List Int) (v1193 : List Int) (v1194 : Int) (k0 : Bool → Option α) (k1 : Option α) : Option α :=
  Nat.rec (motive := fun _ => List Int → List Int → Int → Option α) (fun _ _ _ => none) (fun _ next => laws_pwSame_L0r N next k0 k1) n v1192 v1193 v1194
theorem laws_pwSame_L0.ex : ∃ f : ((α : Type) → Nat → Nat → List Int → List Int → Int → (Bool → Option α) → (Option α) → Option α), f = fun α => @laws_pwSame_L0.b α := ⟨_, rfl⟩
noncomputable def laws_pwSame_L0 {α : Type} : Nat → Nat → List Int → List Int → Int → (Bool → Option α) → (Option α) → Option α := Classical.choose laws_pwSame_L0.ex α
theorem laws_pwSame_L0.eq : @laws_pwSame_L0 = @laws_pwSame_L0.b := funext fun α => congrFun (Classical.choose_spec laws_pwSame_L0.ex) α
theorem laws_pwSame_L0.zero {α : Type} (N : Nat) (v1192 : List Int) (v1193 : List Int) (v1194 : Int) (k0 : Bool → Option α) (k1 : Option α) : laws_pwSame_L0 N 0 v1192 v1193 v1194 k0 k1 = none := by rw [laws_pwSame_L0.eq]; rfl
theorem laws_pwSame_L0.succ {α : Type} (N n : Nat) (v1192 : List Int) (v1193 : List Int) (v1194 : Int) (k0 : Bool → Option α) (k1 : Option α) : laws_pwSame_L0 N (n + 1) v1192 v1193 v1194 k0 k1 = laws_pwSame_L0r N (fun y0 y1 y2 => laws_pwSame_L0 N n y0 y1 y2 k0 k1) k0 k1 v1192 v1193 v1194 := by rw [laws_pwSame_L0.eq]; rfl
/-- loop.example/pinfold/laws.pwSame -/
noncomputable def laws_pwSame.b {α : Type} (N : Nat) (a1187 : List Int) (a1188 : List Int) (k0 : Bool → Option α) : Option α :=
  let x1189 := ((a1187.length : Nat) : Int)
  let x1190 := ((a1188.length : Nat) : Int)
  let x1191 := !(decide (x1189 = x1190))
  bif x1191 then
    k0 false
  else
    laws_pwSame_L0 N N a1187 a1188 (0 : Int)
      (fun x1201 =>
        k0 x1201)
      (
        k0 true)
theorem laws_pwSame.ex : ∃ f : ((α : Type) → Nat → List Int → List Int → (Bool → Option α) → Option α), f = fun α => @laws_pwSame.b α := ⟨_, rfl⟩
noncomputable def laws_pwSame {α : Type} : Nat → List Int → List Int → (Bool → Option α) → Option α := Classical.choose laws_pwSame.ex α
theorem laws_pwSame.eq : @laws_pwSame = @laws_pwSame.b := funext fun α => congrFun (Classical.choose_spec laws_pwSame.ex) α

/-- loop.example/pinfold/impl.NatDiv -/
noncomputable def impl_NatDiv.b {α : Type} (N : Nat) (a1215 : List Int) (a1216 : List Int) (k0 : Bool → List Int → List Int → Option α) : Option α :=
  let x1217 := [a1215, a1216]
  impl_nats N x1217
    (fun x1218 =>
      let x1219 := !x1218
      bif x1219 then
        k0 false [] []
      else
        let x1220 := ((a1216.length : Nat) : Int)
        let x1221 := (decide (x1220 = (0 : Int)))
        bif x1221 then
          k0 false [] []
        else
          impl_natDiv N a1215 a1216
            (fun x1222 x1223 =>
              impl_clone_int N x1222
                (fun x1224 =>
                  impl_clone_int N x1223
                    (fun x1225 =>
                      k0 true x1224 x1225))))
theorem impl_NatDiv.ex : ∃ f : ((α : Type) → Nat → List Int → List Int → (Bool → List Int → List Int → Option α) → Option α), f = fun α => @impl_NatDiv.b α := ⟨_, rfl⟩
noncomputable def impl_NatDiv {α : Type} : Nat → List Int → List Int → (Bool → List Int → List Int → Option α) → Option α := Classical.choose impl_NatDiv.ex α
theorem impl_NatDiv.eq : @impl_NatDiv = @impl_NatDiv.b := funext fun α => congrFun (Classical.choose_spec impl_NatDiv.ex) α

/-- loop.example/pinfold/laws.FnNatGcd -/
noncomputable def laws_FnNatGcd.b {α : Type} (N : Nat) (a1 : List Int) (k0 : Bool → Option α) : Option α :=
  let x2 := ((a1.length : Nat) : Int)
  let x3 := (decide ((1048576 : Int) < x2))
  bif x3 then
    k0 true
  else
    spec_DrawNatGcd N a1
      (fun x306 x307 =>
        impl_NatGcd N x306 x307
          (fun x909 x910 =>
            impl_NatGcd N x307 x306
              (fun x911 x912 =>
                spec_NatGcd N x306 x307
                  (fun x1183 x1184 =>
                    let x1185 := !(x909 == x1183)
                    bif x1185 then
                      k0 false
                    else
                      let x1186 := !(x911 == x1183)
                      bif x1186 then
                        k0 false
                      else
                        laws_pwSame N x910 x1184
                          (fun x1202 =>
                            let x1203 := !x1202
                            bif x1203 then
                              k0 false
                            else
                              laws_pwSame N x910 x912
                                (fun x1204 =>
                                  let x1205 := !x1204
                                  bif x1205 then
                                    k0 false
                                  else
                                    let x1206 := !x909
                                    bif x1206 then
                                      let x1207 := ((x910.length : Nat) : Int)
                                      let x1208 := (decide (x1207 = (0 : Int)))
                                      k0 x1208
                                    else
                                      let x1209 := ((x306.length : Nat) : Int)
                                      let x1210 := (decide (x1209 = (0 : Int)))
                                      bif x1210 then
                                        let x1211 := ((x307.length : Nat) : Int)
                                        let x1212 := (decide (x1211 = (0 : Int)))
                                        bif x1212 then
                                          let x1213 := ((x910.length : Nat) : Int)
                                          let x1214 := (decide (x1213 = (0 : Int)))
                                          k0 x1214
                                        else
                                          impl_NatDiv N x306 x910
                                            (fun x1226 x1227 x1228 =>
                                              impl_NatDiv N x307 x910
                                                (fun x1229 x1230 x1231 =>
                                                  let x1232 := !x1226
                                                  bif x1232 then
                                                    k0 false
                                                  else
                                                    let x1233 := !x1229
                                                    bif x1233 then
                                                      k0 false
                                                    else
                                                      let x1234 := ((x1228.length : Nat) : Int)
                                                      let x1235 := (decide ((0 : Int) < x1234))
                                                      bif x1235 then
                                                        k0 false
                                                      else
                                                        let x1236 := ((x1231.length : Nat) : Int)
                                                        let x1237 := (decide ((0 : Int) < x1236))
                                                        bif x1237 then
                                                          k0 false
                                                        else
                                                          impl_NatGcd N x1227 x1230
                                                            (fun x1238 x1239 =>
                                                              bif x1238 then
                                                                let x1240 := [(1 : Int)]
                                                                laws_pwSame N x1239 x1240
                                                                  (fun x1241 =>
                                                                    k0 x1241)
                                                              else
                                                                k0 false)))
                                      else
                                        impl_NatDiv N x306 x910
                                          (fun x1242 x1243 x1244 =>
                                            impl_NatDiv N x307 x910
                                              (fun x1245 x1246 x1247 =>
                                                let x1248 := !x1242
                                                bif x1248 then
                                                  k0 false
                                                else
                                                  let x1249 := !x1245
                                                  bif x1249 then
                                                    k0 false
                                                  else
                                                    let x1250 := ((x1244.length : Nat) : Int)
                                                    let x1251 := (decide ((0 : Int) < x1250))
                                                    bif x1251 then
                                                      k0 false
                                                    else
                                                      let x1252 := ((x1247.length : Nat) : Int)
                                                      let x1253 := (decide ((0 : Int) < x1252))
                                                      bif x1253 then
                                                        k0 false
                                                      else
                                                        impl_NatGcd N x1243 x1246
                                                          (fun x1254 x1255 =>
                                                            bif x1254 then
                                                              let x1256 := [(1 : Int)]
                                                              laws_pwSame N x1255 x1256
                                                                (fun x1257 =>
                                                                  k0 x1257)
                                                            else
                                                              k0 false)))))))))
theorem laws_FnNatGcd.ex : ∃ f : ((α : Type) → Nat → List Int → (Bool → Option α) → Option α), f = fun α => @laws_FnNatGcd.b α := ⟨_, rfl⟩
noncomputable def laws_FnNatGcd {α : Type} : Nat → List Int → (Bool → Option α) → Option α := Classical.choose laws_FnNatGcd.ex α
theorem laws_FnNatGcd.eq : @laws_FnNatGcd = @laws_FnNatGcd.b := funext fun α => congrFun (Classical.choose_spec laws_FnNatGcd.ex) α

end
end Go.Proofs.YtgabephijgjogaaAm
