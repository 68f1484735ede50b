/-
  The functions that the program computes, as the abstract machine tells them. Printed by amp.py.
-/
import Derived.Test.YtgabephijgjogaaAmb
namespace Go.Proofs.YtgabephijgjogaaAm
open Go
noncomputable section
set_option linter.unusedVariables false
set_option linter.unusedSimpArgs false

noncomputable def spec_l32Open_J1.b {α : Type} (N : Nat) (v6 : List Int) (k0 : List Int → Option α) : Option α :=
  let x7 := ((v6.length : Nat) : Int)
  let x8 := (decide ((2000 : Int) < x7))
  bif x8 then
    bif (decide ((2000 : Int) ≤ ((v6.length : Nat) : Int))) then
      let x9 := v6.take 2000
      k0 x9
    else
      none
  else
    k0 v6
theorem spec_l32Open_J1.ex : ∃ f : ((α : Type) → Nat → List Int → (List Int → Option α) → Option α), f = fun α => @spec_l32Open_J1.b α := ⟨_, rfl⟩
noncomputable def spec_l32Open_J1 {α : Type} : Nat → List Int → (List Int → Option α) → Option α := Classical.choose spec_l32Open_J1.ex α
theorem spec_l32Open_J1.eq : @spec_l32Open_J1 = @spec_l32Open_J1.b := funext fun α => congrFun (Classical.choose_spec spec_l32Open_J1.ex) α
/-- loop.example/pinfold/spec.l32Open -/
noncomputable def spec_l32Open.b {α : Type} (N : Nat) (a5 : List Int) (k0 : ((List Int) × Int × Unit) → Option α) : Option α :=
  spec_l32Open_J1 N a5
    (fun x10 =>
      k0 (x10, ((0 : Int), ())))
theorem spec_l32Open.ex : ∃ f : ((α : Type) → Nat → List Int → (((List Int) × Int × Unit) → Option α) → Option α), f = fun α => @spec_l32Open.b α := ⟨_, rfl⟩
noncomputable def spec_l32Open {α : Type} : Nat → List Int → (((List Int) × Int × Unit) → Option α) → Option α := Classical.choose spec_l32Open.ex α
theorem spec_l32Open.eq : @spec_l32Open = @spec_l32Open.b := funext fun α => congrFun (Classical.choose_spec spec_l32Open.ex) α

/-- (*loop.example/pinfold/spec.l32Rd).pick -/
noncomputable def spec_l32Rd_pick.b {α : Type} (N : Nat) (a14 : Int) (a15 : (List Int) × Int × Unit) (k0 : Int → ((List Int) × Int × Unit) → Option α) : Option α :=
  let x16 := (IntKind.i64.wrap (a15.2.1 + (1 : Int)))
  let x17 := (decide (a14 < (1 : Int)))
  bif x17 then
    k0 (0 : Int) (a15.1, (x16, ()))
  else
    let x18 := ((a15.1.length : Nat) : Int)
    let x19 := (decide (x18 = (0 : Int)))
    bif x19 then
      k0 (0 : Int) (a15.1, (x16, ()))
    else
      let x20 := (IntKind.i64.wrap (x16 - (1 : Int)))
      let x21 := ((a15.1.length : Nat) : Int)
      let x22 := decide (x20 < x21)
      bif x22 then
        bif (decide (x20 < (0 : Int))) then
          none
        else
          match a15.1[x20.toNat]? with
          | some x23 =>
            let x24 := IntKind.i64.wrap x23
            bif (decide (a14 = (0 : Int))) then
              none
            else
              let x25 := Int.tmod x24 a14
              k0 x25 (a15.1, (x16, ()))
          | none => none
      else
        let x26 := ((a15.1.length : Nat) : Int)
        bif (decide (x26 = (0 : Int))) then
          none
        else
          let x27 := Int.tmod x20 x26
          bif (decide (x27 < (0 : Int))) then
            none
          else
            match a15.1[x27.toNat]? with
            | some x28 =>
              let x29 := IntKind.i64.wrap x28
              let x30 := (IntKind.i64.wrap (x29 * (131 : Int)))
              let x31 := (IntKind.i64.wrap (x20 * (7 : Int)))
              let x32 := (IntKind.i64.wrap (x31 + (3 : Int)))
              let x33 := ((a15.1.length : Nat) : Int)
              bif (decide (x33 = (0 : Int))) then
                none
              else
                let x34 := Int.tmod x32 x33
                bif (decide (x34 < (0 : Int))) then
                  none
                else
                  match a15.1[x34.toNat]? with
                  | some x35 =>
                    let x36 := IntKind.i64.wrap x35
                    let x37 := (IntKind.i64.wrap (x36 * (1117 : Int)))
                    let x38 := IntKind.i64.wrap (x30 + x37)
                    let x39 := (IntKind.i64.wrap (x20 * (29 : Int)))
                    let x40 := IntKind.i64.wrap (x38 + x39)
                    let x41 := ((a15.1.length : Nat) : Int)
                    bif (decide (x41 = (0 : Int))) then
                      none
                    else
                      let x42 := IntKind.i64.wrap (Int.tdiv x20 x41)
                      let x43 := (IntKind.i64.wrap (x42 * (53 : Int)))
                      let x44 := IntKind.i64.wrap (x40 + x43)
                      let x45 := (IntKind.i64.wrap (Int.tdiv x44 (64 : Int)))
                      let x46 := bitI .xor .i64 x44 x45
                      bif (decide (a14 = (0 : Int))) then
                        none
                      else
                        let x47 := Int.tmod x46 a14
                        k0 x47 (a15.1, (x16, ()))
                  | none => none
            | none => none
theorem spec_l32Rd_pick.ex : ∃ f : ((α : Type) → Nat → Int → ((List Int) × Int × Unit) → (Int → ((List Int) × Int × Unit) → Option α) → Option α), f = fun α => @spec_l32Rd_pick.b α := ⟨_, rfl⟩
noncomputable def spec_l32Rd_pick {α : Type} : Nat → Int → ((List Int) × Int × Unit) → (Int → ((List Int) × Int × Unit) → Option α) → Option α := Classical.choose spec_l32Rd_pick.ex α
theorem spec_l32Rd_pick.eq : @spec_l32Rd_pick = @spec_l32Rd_pick.b := funext fun α => congrFun (Classical.choose_spec spec_l32Rd_pick.ex) α

noncomputable def spec_NatOf_L0r {α : Type} (N : Nat) (next : Int → List Int → Option α) (k0 : List Int → Option α) (v77 : Int) (v78 : List Int) : Option α :=
  let x79 := (decide ((0 : Int) < v77))
  bif x79 then
    let x80 := (Int.tmod v77 (65536 : Int))
    let x81 := IntKind.i64.wrap x80
    let x82 := [x81]
    bif decide (v78.length + x82.length ≤ 8796093022208) then
      let x83 := v78 ++ x82
      let x84 := (IntKind.u64.wrap (Int.tdiv v77 (65536 : Int)))
      next x84 x83
    else
      none
  else
    k0 v78
noncomputable def spec_NatOf_L0.b {α : Type} (N n : Nat) (v77 : Int) (v78 : List Int) (k0 : List Int → Option α) : Option α :=
  Nat.rec (motive := fun _ => Int → List Int → Option α) (fun _ _ => none) (fun _ next => spec_NatOf_L0r N next k0) n v77 v78
theorem spec_NatOf_L0.ex : ∃ f : ((α : Type) → Nat → Nat → Int → List Int → (List Int → Option α) → Option α), f = fun α => @spec_NatOf_L0.b α := ⟨_, rfl⟩
noncomputable def spec_NatOf_L0 {α : Type} : Nat → Nat → Int → List Int → (List Int → Option α) → Option α := Classical.choose spec_NatOf_L0.ex α
theorem spec_NatOf_L0.eq : @spec_NatOf_L0 = @spec_NatOf_L0.b := funext fun α => congrFun (Classical.choose_spec spec_NatOf_L0.ex) α
theorem spec_NatOf_L0.zero {α : Type} (N : Nat) (v77 : Int) (v78 : List Int) (k0 : List Int → Option α) : spec_NatOf_L0 N 0 v77 v78 k0 = none := by rw [spec_NatOf_L0.eq]; rfl
theorem spec_NatOf_L0.succ {α : Type} (N n : Nat) (v77 : Int) (v78 : List Int) (k0 : List Int → Option α) : spec_NatOf_L0 N (n + 1) v77 v78 k0 = spec_NatOf_L0r N (fun y0 y1 => spec_NatOf_L0 N n y0 y1 k0) k0 v77 v78 := by rw [spec_NatOf_L0.eq]; rfl
/-- loop.example/pinfold/spec.NatOf -/
noncomputable def spec_NatOf.b {α : Type} (N : Nat) (a76 : Int) (k0 : List Int → Option α) : Option α :=
  spec_NatOf_L0 N N a76 []
    (fun x85 =>
      k0 x85)
theorem spec_NatOf.ex : ∃ f : ((α : Type) → Nat → Int → (List Int → Option α) → Option α), f = fun α => @spec_NatOf.b α := ⟨_, rfl⟩
noncomputable def spec_NatOf {α : Type} : Nat → Int → (List Int → Option α) → Option α := Classical.choose spec_NatOf.ex α
theorem spec_NatOf.eq : @spec_NatOf = @spec_NatOf.b := funext fun α => congrFun (Classical.choose_spec spec_NatOf.ex) α

noncomputable def spec_l32Rd_nat_J6.b {α : Type} (N : Nat) (v62 : Int) (v63 : (List Int) × Int × Unit) (k0 : Int → ((List Int) × Int × Unit) → Option α) : Option α :=
  spec_l32Rd_pick N (6 : Int) v63
    (fun x64 x65 =>
      let x66 := (decide (x64 = (0 : Int)))
      bif x66 then
        spec_l32Rd_pick N (3 : Int) x65
          (fun x67 x68 =>
            let x69 := (IntKind.i64.wrap ((256 : Int) - x67))
            k0 x69 x68)
      else
        k0 v62 x65)
theorem spec_l32Rd_nat_J6.ex : ∃ f : ((α : Type) → Nat → Int → ((List Int) × Int × Unit) → (Int → ((List Int) × Int × Unit) → Option α) → Option α), f = fun α => @spec_l32Rd_nat_J6.b α := ⟨_, rfl⟩
noncomputable def spec_l32Rd_nat_J6 {α : Type} : Nat → Int → ((List Int) × Int × Unit) → (Int → ((List Int) × Int × Unit) → Option α) → Option α := Classical.choose spec_l32Rd_nat_J6.ex α
theorem spec_l32Rd_nat_J6.eq : @spec_l32Rd_nat_J6 = @spec_l32Rd_nat_J6.b := funext fun α => congrFun (Classical.choose_spec spec_l32Rd_nat_J6.ex) α
noncomputable def spec_l32Rd_nat_J5.b {α : Type} (N : Nat) (v58 : Int) (v59 : Int) (v60 : (List Int) × Int × Unit) (k0 : Int → ((List Int) × Int × Unit) → Option α) (k1 : ((List Int) × Int × Unit) → List Int → Option α) : Option α :=
  let x61 := (decide (v59 = (1 : Int)))
  bif x61 then
    spec_l32Rd_nat_J6 N v58 v60
      (fun x70 x71 =>
        k0 x70 x71)
  else
    let x72 := (decide (v59 = (2 : Int)))
    bif x72 then
      spec_l32Rd_pick N (12 : Int) v60
        (fun x73 x74 =>
          let x75 := IntKind.u64.wrap x73
          spec_NatOf N x75
            (fun x86 =>
              k1 x74 x86))
    else
      k0 v58 v60
theorem spec_l32Rd_nat_J5.ex : ∃ f : ((α : Type) → Nat → Int → Int → ((List Int) × Int × Unit) → (Int → ((List Int) × Int × Unit) → Option α) → (((List Int) × Int × Unit) → List Int → Option α) → Option α), f = fun α => @spec_l32Rd_nat_J5.b α := ⟨_, rfl⟩
noncomputable def spec_l32Rd_nat_J5 {α : Type} : Nat → Int → Int → ((List Int) × Int × Unit) → (Int → ((List Int) × Int × Unit) → Option α) → (((List Int) × Int × Unit) → List Int → Option α) → Option α := Classical.choose spec_l32Rd_nat_J5.ex α
theorem spec_l32Rd_nat_J5.eq : @spec_l32Rd_nat_J5 = @spec_l32Rd_nat_J5.b := funext fun α => congrFun (Classical.choose_spec spec_l32Rd_nat_J5.ex) α
noncomputable def spec_l32Rd_nat_J3.b {α : Type} (N : Nat) (v52 : Int) (v53 : Int) (v54 : (List Int) × Int × Unit) (k0 : Int → ((List Int) × Int × Unit) → Option α) (k1 : ((List Int) × Int × Unit) → List Int → Option α) : Option α :=
  let x55 := (decide (v53 = (0 : Int)))
  bif x55 then
    spec_l32Rd_pick N (24 : Int) v54
      (fun x56 x57 =>
        k0 x56 x57)
  else
    spec_l32Rd_nat_J5 N v52 v53 v54
      (fun x87 x88 =>
        k0 x87 x88)
      (fun x89 x90 =>
        k1 x89 x90)
theorem spec_l32Rd_nat_J3.ex : ∃ f : ((α : Type) → Nat → Int → Int → ((List Int) × Int × Unit) → (Int → ((List Int) × Int × Unit) → Option α) → (((List Int) × Int × Unit) → List Int → Option α) → Option α), f = fun α => @spec_l32Rd_nat_J3.b α := ⟨_, rfl⟩
noncomputable def spec_l32Rd_nat_J3 {α : Type} : Nat → Int → Int → ((List Int) × Int × Unit) → (Int → ((List Int) × Int × Unit) → Option α) → (((List Int) × Int × Unit) → List Int → Option α) → Option α := Classical.choose spec_l32Rd_nat_J3.ex α
theorem spec_l32Rd_nat_J3.eq : @spec_l32Rd_nat_J3 = @spec_l32Rd_nat_J3.b := funext fun α => congrFun (Classical.choose_spec spec_l32Rd_nat_J3.ex) α
noncomputable def spec_l32Rd_nat_J16.b {α : Type} (N : Nat) (v107 : Int) (v108 : Int) (v109 : Int) (v110 : Int) (v111 : (List Int) × Int × Unit) (v112 : List Int) (k0 : Int → Int → Int → Int → ((List Int) × Int × Unit) → List Int → Option α) : Option α :=
  let x113 := (decide (v108 = (0 : Int)))
  bif x113 then
    k0 v107 v108 v109 (65535 : Int) v111 v112
  else
    k0 v107 v108 v109 v110 v111 v112
theorem spec_l32Rd_nat_J16.ex : ∃ f : ((α : Type) → Nat → Int → Int → Int → Int → ((List Int) × Int × Unit) → List Int → (Int → Int → Int → Int → ((List Int) × Int × Unit) → List Int → Option α) → Option α), f = fun α => @spec_l32Rd_nat_J16.b α := ⟨_, rfl⟩
noncomputable def spec_l32Rd_nat_J16 {α : Type} : Nat → Int → Int → Int → Int → ((List Int) × Int × Unit) → List Int → (Int → Int → Int → Int → ((List Int) × Int × Unit) → List Int → Option α) → Option α := Classical.choose spec_l32Rd_nat_J16.ex α
theorem spec_l32Rd_nat_J16.eq : @spec_l32Rd_nat_J16 = @spec_l32Rd_nat_J16.b := funext fun α => congrFun (Classical.choose_spec spec_l32Rd_nat_J16.ex) α
noncomputable def spec_l32Rd_nat_J18.b {α : Type} (N : Nat) (v120 : Int) (v121 : Int) (v122 : Int) (v123 : Int) (v124 : (List Int) × Int × Unit) (v125 : List Int) (k0 : Int → Int → Int → Int → ((List Int) × Int × Unit) → List Int → Option α) : Option α :=
  let x126 := (decide (v121 = (1 : Int)))
  bif x126 then
    k0 v120 v121 v122 (0 : Int) v124 v125
  else
    k0 v120 v121 v122 v123 v124 v125
theorem spec_l32Rd_nat_J18.ex : ∃ f : ((α : Type) → Nat → Int → Int → Int → Int → ((List Int) × Int × Unit) → List Int → (Int → Int → Int → Int → ((List Int) × Int × Unit) → List Int → Option α) → Option α), f = fun α => @spec_l32Rd_nat_J18.b α := ⟨_, rfl⟩
noncomputable def spec_l32Rd_nat_J18 {α : Type} : Nat → Int → Int → Int → Int → ((List Int) × Int × Unit) → List Int → (Int → Int → Int → Int → ((List Int) × Int × Unit) → List Int → Option α) → Option α := Classical.choose spec_l32Rd_nat_J18.ex α
theorem spec_l32Rd_nat_J18.eq : @spec_l32Rd_nat_J18 = @spec_l32Rd_nat_J18.b := funext fun α => congrFun (Classical.choose_spec spec_l32Rd_nat_J18.ex) α
noncomputable def spec_l32Rd_nat_L1r {α : Type} (N : Nat) (next : Int → Int → Int → ((List Int) × Int × Unit) → List Int → Option α) (k0 : Int → ((List Int) × Int × Unit) → List Int → Option α) (v95 : Int) (v96 : Int) (v97 : Int) (v98 : (List Int) × Int × Unit) (v99 : List Int) : Option α :=
  let x100 := decide (v97 < v95)
  bif x100 then
    spec_l32Rd_pick N (256 : Int) v98
      (fun x101 x102 =>
        let x103 := (IntKind.i64.wrap (x101 * (256 : Int)))
        spec_l32Rd_pick N (256 : Int) x102
          (fun x104 x105 =>
            let x106 := IntKind.i64.wrap (x103 + x104)
            spec_l32Rd_nat_J16 N v95 v96 v97 x106 x105 v99
              (fun x114 x115 x116 x117 x118 x119 =>
                spec_l32Rd_nat_J18 N x114 x115 x116 x117 x118 x119
                  (fun x127 x128 x129 x130 x131 x132 =>
                    let x133 := [x130]
                    bif decide (x132.length + x133.length ≤ 8796093022208) then
                      let x134 := x132 ++ x133
                      let x135 := (IntKind.i64.wrap (x129 + (1 : Int)))
                      next x127 x128 x135 x131 x134
                    else
                      none))))
  else
    k0 v95 v98 v99
noncomputable def spec_l32Rd_nat_L1.b {α : Type} (N n : Nat) (v95 : Int) (v96 : Int) (v97 : Int) (v98 : (List Int) × Int × Unit) (v99 : List Int) (k0 : Int → ((List Int) × Int × Unit) → List Int → Option α) : Option α :=
  Nat.rec (motive := fun _ => Int → Int → Int → ((List Int) × Int × Unit) → List Int → Option α) (fun _ _ _ _ _ => none) (fun _ next => spec_l32Rd_nat_L1r N next k0) n v95 v96 v97 v98 v99
theorem spec_l32Rd_nat_L1.ex : ∃ f : ((α : Type) → Nat → Nat → Int → Int → Int → ((List Int) × Int × Unit) → List Int → (Int → ((List Int) × Int × Unit) → List Int → Option α) → Option α), f = fun α => @spec_l32Rd_nat_L1.b α := ⟨_, rfl⟩
noncomputable def spec_l32Rd_nat_L1 {α : Type} : Nat → Nat → Int → Int → Int → ((List Int) × Int × Unit) → List Int → (Int → ((List Int) × Int × Unit) → List Int → Option α) → Option α := Classical.choose spec_l32Rd_nat_L1.ex α
theorem spec_l32Rd_nat_L1.eq : @spec_l32Rd_nat_L1 = @spec_l32Rd_nat_L1.b := funext fun α => congrFun (Classical.choose_spec spec_l32Rd_nat_L1.ex) α
theorem spec_l32Rd_nat_L1.zero {α : Type} (N : Nat) (v95 : Int) (v96 : Int) (v97 : Int) (v98 : (List Int) × Int × Unit) (v99 : List Int) (k0 : Int → ((List Int) × Int × Unit) → List Int → Option α) : spec_l32Rd_nat_L1 N 0 v95 v96 v97 v98 v99 k0 = none := by rw [spec_l32Rd_nat_L1.eq]; rfl
theorem spec_l32Rd_nat_L1.succ {α : Type} (N n : Nat) (v95 : Int) (v96 : Int) (v97 : Int) (v98 : (List Int) × Int × Unit) (v99 : List Int) (k0 : Int → ((List Int) × Int × Unit) → List Int → Option α) : spec_l32Rd_nat_L1 N (n + 1) v95 v96 v97 v98 v99 k0 = spec_l32Rd_nat_L1r N (fun y0 y1 y2 y3 y4 => spec_l32Rd_nat_L1 N n y0 y1 y2 y3 y4 k0) k0 v95 v96 v97 v98 v99 := by rw [spec_l32Rd_nat_L1.eq]; rfl
noncomputable def spec_l32Rd_nat_J21.b {α : Type} (N : Nat) (v139 : Int) (v140 : (List Int) × Int × Unit) (v141 : List Int) (k0 : ((List Int) × Int × Unit) → List Int → Option α) : Option α :=
  let x142 := (decide ((0 : Int) < v139))
  bif x142 then
    let x143 := (IntKind.i64.wrap (v139 - (1 : Int)))
    bif (decide (x143 < (0 : Int))) then
      none
    else
      bif decide (x143.toNat < v141.length) then
        match v141[x143.toNat]? with
        | some x144 =>
          let x145 := (decide (x144 = (0 : Int)))
          bif x145 then
            let x146 := (IntKind.i64.wrap (v139 - (1 : Int)))
            spec_l32Rd_pick N (16 : Int) v140
              (fun x147 x148 =>
                let x149 := IntKind.u64.wrap x147
                bif (decide (x149 < (0 : Int))) then
                  none
                else
                  let x150 := (shlI .i64 (1 : Int) x149)
                  bif (decide (x146 < (0 : Int))) then
                    none
                  else
                    bif decide (x146.toNat < v141.length) then
                      match v141[x146.toNat]? with
                      | some x151 =>
                        let x152 := v141.set x146.toNat x150
                        k0 x148 x152
                      | none => none
                    else
                      none)
          else
            k0 v140 v141
        | none => none
      else
        none
  else
    k0 v140 v141
theorem spec_l32Rd_nat_J21.ex : ∃ f : ((α : Type) → Nat → Int → ((List Int) × Int × Unit) → List Int → (((List Int) × Int × Unit) → List Int → Option α) → Option α), f = fun α => @spec_l32Rd_nat_J21.b α := ⟨_, rfl⟩
noncomputable def spec_l32Rd_nat_J21 {α : Type} : Nat → Int → ((List Int) × Int × Unit) → List Int → (((List Int) × Int × Unit) → List Int → Option α) → Option α := Classical.choose spec_l32Rd_nat_J21.ex α
theorem spec_l32Rd_nat_J21.eq : @spec_l32Rd_nat_J21 = @spec_l32Rd_nat_J21.b := funext fun α => congrFun (Classical.choose_spec spec_l32Rd_nat_J21.ex) α
/-- (*loop.example/pinfold/spec.l32Rd).nat -/
noncomputable def spec_l32Rd_nat.b {α : Type} (N : Nat) (a13 : (List Int) × Int × Unit) (k0 : ((List Int) × Int × Unit) → List Int → Option α) : Option α :=
  spec_l32Rd_pick N (4 : Int) a13
    (fun x48 x49 =>
      spec_l32Rd_pick N (16 : Int) x49
        (fun x50 x51 =>
          spec_l32Rd_nat_J3 N x48 x50 x51
            (fun x91 x92 =>
              spec_l32Rd_pick N (5 : Int) x92
                (fun x93 x94 =>
                  spec_l32Rd_nat_L1 N N x91 x93 (0 : Int) x94 []
                    (fun x136 x137 x138 =>
                      spec_l32Rd_nat_J21 N x136 x137 x138
                        (fun x153 x154 =>
                          k0 x153 x154))))
            (fun x155 x156 =>
              k0 x155 x156)))
theorem spec_l32Rd_nat.ex : ∃ f : ((α : Type) → Nat → ((List Int) × Int × Unit) → (((List Int) × Int × Unit) → List Int → Option α) → Option α), f = fun α => @spec_l32Rd_nat.b α := ⟨_, rfl⟩
noncomputable def spec_l32Rd_nat {α : Type} : Nat → ((List Int) × Int × Unit) → (((List Int) × Int × Unit) → List Int → Option α) → Option α := Classical.choose spec_l32Rd_nat.ex α
theorem spec_l32Rd_nat.eq : @spec_l32Rd_nat = @spec_l32Rd_nat.b := funext fun α => congrFun (Classical.choose_spec spec_l32Rd_nat.ex) α

noncomputable def spec_l32Rd_raw_L1r {α : Type} (N : Nat) (next : ((List Int) × Int × Unit) → List Int → Option α) (k0 : ((List Int) × Int × Unit) → List Int → Option α) (v183 : (List Int) × Int × Unit) (v184 : List Int) : Option α :=
  let x185 := ((v184.length : Nat) : Int)
  let x186 := (decide (x185 ≤ (256 : Int)))
  bif x186 then
    let x187 := [(1 : Int)]
    bif decide (v184.length + x187.length ≤ 8796093022208) then
      let x188 := v184 ++ x187
      next v183 x188
    else
      none
  else
    k0 v183 v184
noncomputable def spec_l32Rd_raw_L1.b {α : Type} (N n : Nat) (v183 : (List Int) × Int × Unit) (v184 : List Int) (k0 : ((List Int) × Int × Unit) → List Int → Option α) : Option α :=
  Nat.rec (motive := fun _ => ((List Int) × Int × Unit) → List Int → Option α) (fun _ _ => none) (fun _ next => spec_l32Rd_raw_L1r N next k0) n v183 v184
theorem spec_l32Rd_raw_L1.ex : ∃ f : ((α : Type) → Nat → Nat → ((List Int) × Int × Unit) → List Int → (((List Int) × Int × Unit) → List Int → Option α) → Option α), f = fun α => @spec_l32Rd_raw_L1.b α := ⟨_, rfl⟩
noncomputable def spec_l32Rd_raw_L1 {α : Type} : Nat → Nat → ((List Int) × Int × Unit) → List Int → (((List Int) × Int × Unit) → List Int → Option α) → Option α := Classical.choose spec_l32Rd_raw_L1.ex α
theorem spec_l32Rd_raw_L1.eq : @spec_l32Rd_raw_L1 = @spec_l32Rd_raw_L1.b := funext fun α => congrFun (Classical.choose_spec spec_l32Rd_raw_L1.ex) α
theorem spec_l32Rd_raw_L1.zero {α : Type} (N : Nat) (v183 : (List Int) × Int × Unit) (v184 : List Int) (k0 : ((List Int) × Int × Unit) → List Int → Option α) : spec_l32Rd_raw_L1 N 0 v183 v184 k0 = none := by rw [spec_l32Rd_raw_L1.eq]; rfl
theorem spec_l32Rd_raw_L1.succ {α : Type} (N n : Nat) (v183 : (List Int) × Int × Unit) (v184 : List Int) (k0 : ((List Int) × Int × Unit) → List Int → Option α) : spec_l32Rd_raw_L1 N (n + 1) v183 v184 k0 = spec_l32Rd_raw_L1r N (fun y0 y1 => spec_l32Rd_raw_L1 N n y0 y1 k0) k0 v183 v184 := by rw [spec_l32Rd_raw_L1.eq]; rfl
noncomputable def spec_l32Rd_raw_J9.b {α : Type} (N : Nat) (v179 : Int) (v180 : (List Int) × Int × Unit) (v181 : List Int) (k0 : ((List Int) × Int × Unit) → List Int → Option α) : Option α :=
  let x182 := (decide (v179 = (3 : Int)))
  bif x182 then
    spec_l32Rd_raw_L1 N N v180 v181
      (fun x189 x190 =>
        k0 x189 x190)
  else
    k0 v180 v181
theorem spec_l32Rd_raw_J9.ex : ∃ f : ((α : Type) → Nat → Int → ((List Int) × Int × Unit) → List Int → (((List Int) × Int × Unit) → List Int → Option α) → Option α), f = fun α => @spec_l32Rd_raw_J9.b α := ⟨_, rfl⟩
noncomputable def spec_l32Rd_raw_J9 {α : Type} : Nat → Int → ((List Int) × Int × Unit) → List Int → (((List Int) × Int × Unit) → List Int → Option α) → Option α := Classical.choose spec_l32Rd_raw_J9.ex α
theorem spec_l32Rd_raw_J9.eq : @spec_l32Rd_raw_J9 = @spec_l32Rd_raw_J9.b := funext fun α => congrFun (Classical.choose_spec spec_l32Rd_raw_J9.ex) α
noncomputable def spec_l32Rd_raw_J7.b {α : Type} (N : Nat) (v173 : Int) (v174 : (List Int) × Int × Unit) (v175 : List Int) (k0 : ((List Int) × Int × Unit) → List Int → Option α) : Option α :=
  let x176 := (decide (v173 = (2 : Int)))
  bif x176 then
    let x177 := [(-1 : Int)]
    bif decide (v175.length + x177.length ≤ 8796093022208) then
      let x178 := v175 ++ x177
      k0 v174 x178
    else
      none
  else
    spec_l32Rd_raw_J9 N v173 v174 v175
      (fun x191 x192 =>
        k0 x191 x192)
theorem spec_l32Rd_raw_J7.ex : ∃ f : ((α : Type) → Nat → Int → ((List Int) × Int × Unit) → List Int → (((List Int) × Int × Unit) → List Int → Option α) → Option α), f = fun α => @spec_l32Rd_raw_J7.b α := ⟨_, rfl⟩
noncomputable def spec_l32Rd_raw_J7 {α : Type} : Nat → Int → ((List Int) × Int × Unit) → List Int → (((List Int) × Int × Unit) → List Int → Option α) → Option α := Classical.choose spec_l32Rd_raw_J7.ex α
theorem spec_l32Rd_raw_J7.eq : @spec_l32Rd_raw_J7 = @spec_l32Rd_raw_J7.b := funext fun α => congrFun (Classical.choose_spec spec_l32Rd_raw_J7.ex) α
noncomputable def spec_l32Rd_raw_J5.b {α : Type} (N : Nat) (v167 : Int) (v168 : (List Int) × Int × Unit) (v169 : List Int) (k0 : ((List Int) × Int × Unit) → List Int → Option α) : Option α :=
  let x170 := (decide (v167 = (1 : Int)))
  bif x170 then
    let x171 := [(65536 : Int)]
    bif decide (v169.length + x171.length ≤ 8796093022208) then
      let x172 := v169 ++ x171
      k0 v168 x172
    else
      none
  else
    spec_l32Rd_raw_J7 N v167 v168 v169
      (fun x193 x194 =>
        k0 x193 x194)
theorem spec_l32Rd_raw_J5.ex : ∃ f : ((α : Type) → Nat → Int → ((List Int) × Int × Unit) → List Int → (((List Int) × Int × Unit) → List Int → Option α) → Option α), f = fun α => @spec_l32Rd_raw_J5.b α := ⟨_, rfl⟩
noncomputable def spec_l32Rd_raw_J5 {α : Type} : Nat → Int → ((List Int) × Int × Unit) → List Int → (((List Int) × Int × Unit) → List Int → Option α) → Option α := Classical.choose spec_l32Rd_raw_J5.ex α
theorem spec_l32Rd_raw_J5.eq : @spec_l32Rd_raw_J5 = @spec_l32Rd_raw_J5.b := funext fun α => congrFun (Classical.choose_spec spec_l32Rd_raw_J5.ex) α
noncomputable def spec_l32Rd_raw_J3.b {α : Type} (N : Nat) (v161 : Int) (v162 : (List Int) × Int × Unit) (v163 : List Int) (k0 : ((List Int) × Int × Unit) → List Int → Option α) : Option α :=
  let x164 := (decide (v161 = (0 : Int)))
  bif x164 then
    let x165 := [(0 : Int)]
    bif decide (v163.length + x165.length ≤ 8796093022208) then
      let x166 := v163 ++ x165
      k0 v162 x166
    else
      none
  else
    spec_l32Rd_raw_J5 N v161 v162 v163
      (fun x195 x196 =>
        k0 x195 x196)
theorem spec_l32Rd_raw_J3.ex : ∃ f : ((α : Type) → Nat → Int → ((List Int) × Int × Unit) → List Int → (((List Int) × Int × Unit) → List Int → Option α) → Option α), f = fun α => @spec_l32Rd_raw_J3.b α := ⟨_, rfl⟩
noncomputable def spec_l32Rd_raw_J3 {α : Type} : Nat → Int → ((List Int) × Int × Unit) → List Int → (((List Int) × Int × Unit) → List Int → Option α) → Option α := Classical.choose spec_l32Rd_raw_J3.ex α
theorem spec_l32Rd_raw_J3.eq : @spec_l32Rd_raw_J3 = @spec_l32Rd_raw_J3.b := funext fun α => congrFun (Classical.choose_spec spec_l32Rd_raw_J3.ex) α
/-- (*loop.example/pinfold/spec.l32Rd).raw -/
noncomputable def spec_l32Rd_raw.b {α : Type} (N : Nat) (a12 : (List Int) × Int × Unit) (k0 : ((List Int) × Int × Unit) → List Int → Option α) : Option α :=
  spec_l32Rd_nat N a12
    (fun x157 x158 =>
      spec_l32Rd_pick N (80 : Int) x157
        (fun x159 x160 =>
          spec_l32Rd_raw_J3 N x159 x160 x158
            (fun x197 x198 =>
              k0 x197 x198)))
theorem spec_l32Rd_raw.ex : ∃ f : ((α : Type) → Nat → ((List Int) × Int × Unit) → (((List Int) × Int × Unit) → List Int → Option α) → Option α), f = fun α => @spec_l32Rd_raw.b α := ⟨_, rfl⟩
noncomputable def spec_l32Rd_raw {α : Type} : Nat → ((List Int) × Int × Unit) → (((List Int) × Int × Unit) → List Int → Option α) → Option α := Classical.choose spec_l32Rd_raw.ex α
theorem spec_l32Rd_raw.eq : @spec_l32Rd_raw = @spec_l32Rd_raw.b := funext fun α => congrFun (Classical.choose_spec spec_l32Rd_raw.ex) α

noncomputable def spec_NatOk_L0r {α : Type} (N : Nat) (next : List Int → Int → Option α) (k0 : Bool → Option α) (k1 : List Int → Option α) (v206 : List Int) (v207 : Int) : Option α :=
  let x208 := ((v206.length : Nat) : Int)
  let x209 := decide (v207 < x208)
  bif x209 then
    bif (decide (v207 < (0 : Int))) then
      none
    else
      match v206[v207.toNat]? with
      | some x210 =>
        let x211 := (decide (x210 < (0 : Int)))
        bif x211 then
          k0 false
        else
          bif (decide (v207 < (0 : Int))) then
            none
          else
            match v206[v207.toNat]? with
            | some x212 =>
              let x213 := (decide ((65536 : Int) ≤ x212))
              bif x213 then
                k0 false
              else
                let x214 := (IntKind.i64.wrap (v207 + (1 : Int)))
                next v206 x214
            | none => none
      | none => none
  else
    k1 v206
noncomputable def spec_NatOk_L0.b {α : Type} (N n : Nat) (v206 : List Int) (v207 : Int) (k0 : Bool → Option α) (k1 : List Int → Option α) : Option α :=
  Nat.rec (motive := fun _ => List Int → Int → Option α) (fun _ _ => none) (fun _ next => spec_NatOk_L0r N next k0 k1) n v206 v207
theorem spec_NatOk_L0.ex : ∃ f : ((α : Type) → Nat → Nat → List Int → Int → (Bool → Option α) → (List Int → Option α) → Option α), f = fun α => @spec_NatOk_L0.b α := ⟨_, rfl⟩
noncomputable def spec_NatOk_L0 {α : Type} : Nat → Nat → List Int → Int → (Bool → Option α) → (List Int → Option α) → Option α := Classical.choose spec_NatOk_L0.ex α
theorem spec_NatOk_L0.eq : @spec_NatOk_L0 = @spec_NatOk_L0.b := funext fun α => congrFun (Classical.choose_spec spec_NatOk_L0.ex) α
theorem spec_NatOk_L0.zero {α : Type} (N : Nat) (v206 : List Int) (v207 : Int) (k0 : Bool → Option α) (k1 : List Int → Option α) : spec_NatOk_L0 N 0 v206 v207 k0 k1 = none := by rw [spec_NatOk_L0.eq]; rfl
theorem spec_NatOk_L0.succ {α : Type} (N n : Nat) (v206 : List Int) (v207 : Int) (k0 : Bool → Option α) (k1 : List Int → Option α) : spec_NatOk_L0 N (n + 1) v206 v207 k0 k1 = spec_NatOk_L0r N (fun y0 y1 => spec_NatOk_L0 N n y0 y1 k0 k1) k0 k1 v206 v207 := by rw [spec_NatOk_L0.eq]; rfl
/-- loop.example/pinfold/spec.NatOk -/
noncomputable def spec_NatOk.b {α : Type} (N : Nat) (a203 : List Int) (k0 : Bool → Option α) : Option α :=
  let x204 := ((a203.length : Nat) : Int)
  let x205 := (decide ((256 : Int) < x204))
  bif x205 then
    k0 false
  else
    spec_NatOk_L0 N N a203 (0 : Int)
      (fun x215 =>
        k0 x215)
      (fun x216 =>
        let x217 := ((x216.length : Nat) : Int)
        let x218 := (decide (x217 = (0 : Int)))
        bif x218 then
          k0 true
        else
          let x219 := ((x216.length : Nat) : Int)
          let x220 := (IntKind.i64.wrap (x219 - (1 : Int)))
          bif (decide (x220 < (0 : Int))) then
            none
          else
            match x216[x220.toNat]? with
            | some x221 =>
              let x222 := (!(decide (x221 = (0 : Int))))
              k0 x222
            | none => none)
theorem spec_NatOk.ex : ∃ f : ((α : Type) → Nat → List Int → (Bool → Option α) → Option α), f = fun α => @spec_NatOk.b α := ⟨_, rfl⟩
noncomputable def spec_NatOk {α : Type} : Nat → List Int → (Bool → Option α) → Option α := Classical.choose spec_NatOk.ex α
theorem spec_NatOk.eq : @spec_NatOk = @spec_NatOk.b := funext fun α => congrFun (Classical.choose_spec spec_NatOk.ex) α

noncomputable def spec_l5Trim_L0r {α : Type} (N : Nat) (next : List Int → Int → Option α) (k0 : List Int → Int → Option α) (v275 : List Int) (v276 : Int) : Option α :=
  let x277 := (decide ((0 : Int) < v276))
  bif x277 then
    let x278 := (IntKind.i64.wrap (v276 - (1 : Int)))
    bif (decide (x278 < (0 : Int))) then
      none
    else
      match v275[x278.toNat]? with
      | some x279 =>
        let x280 := (decide (x279 = (0 : Int)))
        bif x280 then
          let x281 := (IntKind.i64.wrap (v276 - (1 : Int)))
          next v275 x281
        else
          k0 v275 v276
      | none => none
  else
    k0 v275 v276
noncomputable def spec_l5Trim_L0.b {α : Type} (N n : Nat) (v275 : List Int) (v276 : Int) (k0 : List Int → Int → Option α) : Option α :=
  Nat.rec (motive := fun _ => List Int → Int → Option α) (fun _ _ => none) (fun _ next => spec_l5Trim_L0r N next k0) n v275 v276
theorem spec_l5Trim_L0.ex : ∃ f : ((α : Type) → Nat → Nat → List Int → Int → (List Int → Int → Option α) → Option α), f = fun α => @spec_l5Trim_L0.b α := ⟨_, rfl⟩
noncomputable def spec_l5Trim_L0 {α : Type} : Nat → Nat → List Int → Int → (List Int → Int → Option α) → Option α := Classical.choose spec_l5Trim_L0.ex α
theorem spec_l5Trim_L0.eq : @spec_l5Trim_L0 = @spec_l5Trim_L0.b := funext fun α => congrFun (Classical.choose_spec spec_l5Trim_L0.ex) α
theorem spec_l5Trim_L0.zero {α : Type} (N : Nat) (v275 : List Int) (v276 : Int) (k0 : List Int → Int → Option α) : spec_l5Trim_L0 N 0 v275 v276 k0 = none := by rw [spec_l5Trim_L0.eq]; rfl
theorem spec_l5Trim_L0.succ {α : Type} (N n : Nat) (v275 : List Int) (v276 : Int) (k0 : List Int → Int → Option α) : spec_l5Trim_L0 N (n + 1) v275 v276 k0 = spec_l5Trim_L0r N (fun y0 y1 => spec_l5Trim_L0 N n y0 y1 k0) k0 v275 v276 := by rw [spec_l5Trim_L0.eq]; rfl
noncomputable def spec_l5Trim_L2r {α : Type} (N : Nat) (next : List Int → Int → Int → List Int → Option α) (k0 : List Int → Option α) (v284 : List Int) (v285 : Int) (v286 : Int) (v287 : List Int) : Option α :=
  let x288 := decide (v286 < v285)
  bif x288 then
    bif (decide (v286 < (0 : Int))) then
      none
    else
      match v284[v286.toNat]? with
      | some x289 =>
        let x290 := [x289]
        bif decide (v287.length + x290.length ≤ 8796093022208) then
          let x291 := v287 ++ x290
          let x292 := (IntKind.i64.wrap (v286 + (1 : Int)))
          next v284 v285 x292 x291
        else
          none
      | none => none
  else
    k0 v287
noncomputable def spec_l5Trim_L2.b {α : Type} (N n : Nat) (v284 : List Int) (v285 : Int) (v286 : Int) (v287 : List Int) (k0 : List Int → Option α) : Option α :=
  Nat.rec (motive := fun _ => List Int → Int → Int → List Int → Option α) (fun _ _ _ _ => none) (fun _ next => spec_l5Trim_L2r N next k0) n v284 v285 v286 v287
theorem spec_l5Trim_L2.ex : ∃ f : ((α : Type) → Nat → Nat → List Int → Int → Int → List Int → (List Int → Option α) → Option α), f = fun α => @spec_l5Trim_L2.b α := ⟨_, rfl⟩
noncomputable def spec_l5Trim_L2 {α : Type} : Nat → Nat → List Int → Int → Int → List Int → (List Int → Option α) → Option α := Classical.choose spec_l5Trim_L2.ex α
theorem spec_l5Trim_L2.eq : @spec_l5Trim_L2 = @spec_l5Trim_L2.b := funext fun α => congrFun (Classical.choose_spec spec_l5Trim_L2.ex) α
theorem spec_l5Trim_L2.zero {α : Type} (N : Nat) (v284 : List Int) (v285 : Int) (v286 : Int) (v287 : List Int) (k0 : List Int → Option α) : spec_l5Trim_L2 N 0 v284 v285 v286 v287 k0 = none := by rw [spec_l5Trim_L2.eq]; rfl
theorem spec_l5Trim_L2.succ {α : Type} (N n : Nat) (v284 : List Int) (v285 : Int) (v286 : Int) (v287 : List Int) (k0 : List Int → Option α) : spec_l5Trim_L2 N (n + 1) v284 v285 v286 v287 k0 = spec_l5Trim_L2r N (fun y0 y1 y2 y3 => spec_l5Trim_L2 N n y0 y1 y2 y3 k0) k0 v284 v285 v286 v287 := by rw [spec_l5Trim_L2.eq]; rfl
/-- loop.example/pinfold/spec.l5Trim -/
noncomputable def spec_l5Trim.b {α : Type} (N : Nat) (a273 : List Int) (k0 : List Int → Option α) : Option α :=
  let x274 := ((a273.length : Nat) : Int)
  spec_l5Trim_L0 N N a273 x274
    (fun x282 x283 =>
      spec_l5Trim_L2 N N x282 x283 (0 : Int) []
        (fun x293 =>
          k0 x293))
theorem spec_l5Trim.ex : ∃ f : ((α : Type) → Nat → List Int → (List Int → Option α) → Option α), f = fun α => @spec_l5Trim.b α := ⟨_, rfl⟩
noncomputable def spec_l5Trim {α : Type} : Nat → List Int → (List Int → Option α) → Option α := Classical.choose spec_l5Trim.ex α
theorem spec_l5Trim.eq : @spec_l5Trim = @spec_l5Trim.b := funext fun α => congrFun (Classical.choose_spec spec_l5Trim.ex) α

noncomputable def spec_l5Mul_L2r {α : Type} (N : Nat) (next : List Int → List Int → Int → Int → Int → List Int → Option α) (k0 : List Int → List Int → Int → Int → List Int → Option α) (v241 : List Int) (v242 : List Int) (v243 : Int) (v244 : Int) (v245 : Int) (v246 : List Int) : Option α :=
  let x247 := ((v242.length : Nat) : Int)
  let x248 := decide (v245 < x247)
  bif x248 then
    let x249 := IntKind.i64.wrap (v243 + v245)
    bif (decide (x249 < (0 : Int))) then
      none
    else
      bif decide (x249.toNat < v246.length) then
        match v246[x249.toNat]? with
        | some x250 =>
          bif (decide (v243 < (0 : Int))) then
            none
          else
            match v241[v243.toNat]? with
            | some x251 =>
              bif (decide (v245 < (0 : Int))) then
                none
              else
                match v242[v245.toNat]? with
                | some x252 =>
                  let x253 := IntKind.i64.wrap (x251 * x252)
                  let x254 := IntKind.i64.wrap (x250 + x253)
                  let x255 := IntKind.i64.wrap (x254 + v244)
                  let x256 := IntKind.i64.wrap (v243 + v245)
                  let x257 := (Int.tmod x255 (65536 : Int))
                  bif (decide (x256 < (0 : Int))) then
                    none
                  else
                    bif decide (x256.toNat < v246.length) then
                      match v246[x256.toNat]? with
                      | some x258 =>
                        let x259 := v246.set x256.toNat x257
                        let x260 := (IntKind.i64.wrap (Int.tdiv x255 (65536 : Int)))
                        let x261 := (IntKind.i64.wrap (v245 + (1 : Int)))
                        next v241 v242 v243 x260 x261 x259
                      | none => none
                    else
                      none
                | none => none
            | none => none
        | none => none
      else
        none
  else
    k0 v241 v242 v243 v244 v246
noncomputable def spec_l5Mul_L2.b {α : Type} (N n : Nat) (v241 : List Int) (v242 : List Int) (v243 : Int) (v244 : Int) (v245 : Int) (v246 : List Int) (k0 : List Int → List Int → Int → Int → List Int → Option α) : Option α :=
  Nat.rec (motive := fun _ => List Int → List Int → Int → Int → Int → List Int → Option α) (fun _ _ _ _ _ _ => none) (fun _ next => spec_l5Mul_L2r N next k0) n v241 v242 v243 v244 v245 v246
theorem spec_l5Mul_L2.ex : ∃ f : ((α : Type) → Nat → Nat → List Int → List Int → Int → Int → Int → List Int → (List Int → List Int → Int → Int → List Int → Option α) → Option α), f = fun α => @spec_l5Mul_L2.b α := ⟨_, rfl⟩
noncomputable def spec_l5Mul_L2 {α : Type} : Nat → Nat → List Int → List Int → Int → Int → Int → List Int → (List Int → List Int → Int → Int → List Int → Option α) → Option α := Classical.choose spec_l5Mul_L2.ex α
theorem spec_l5Mul_L2.eq : @spec_l5Mul_L2 = @spec_l5Mul_L2.b := funext fun α => congrFun (Classical.choose_spec spec_l5Mul_L2.ex) α
theorem spec_l5Mul_L2.zero {α : Type} (N : Nat) (v241 : List Int) (v242 : List Int) (v243 : Int) (v244 : Int) (v245 : Int) (v246 : List Int) (k0 : List Int → List Int → Int → Int → List Int → Option α) : spec_l5Mul_L2 N 0 v241 v242 v243 v244 v245 v246 k0 = none := by rw [spec_l5Mul_L2.eq]; rfl
theorem spec_l5Mul_L2.succ {α : Type} (N n : Nat) (v241 : List Int) (v242 : List Int) (v243 : Int) (v244 : Int) (v245 : Int) (v246 : List Int) (k0 : List Int → List Int → Int → Int → List Int → Option α) : spec_l5Mul_L2 N (n + 1) v241 v242 v243 v244 v245 v246 k0 = spec_l5Mul_L2r N (fun y0 y1 y2 y3 y4 y5 => spec_l5Mul_L2 N n y0 y1 y2 y3 y4 y5 k0) k0 v241 v242 v243 v244 v245 v246 := by rw [spec_l5Mul_L2.eq]; rfl
noncomputable def spec_l5Mul_L0r {α : Type} (N : Nat) (next : List Int → List Int → Int → List Int → Option α) (k0 : List Int → Option α) (v235 : List Int) (v236 : List Int) (v237 : Int) (v238 : List Int) : Option α :=
  let x239 := ((v235.length : Nat) : Int)
  let x240 := decide (v237 < x239)
  bif x240 then
    spec_l5Mul_L2 N N v235 v236 v237 (0 : Int) (0 : Int) v238
      (fun x262 x263 x264 x265 x266 =>
        let x267 := ((x263.length : Nat) : Int)
        let x268 := IntKind.i64.wrap (x264 + x267)
        bif (decide (x268 < (0 : Int))) then
          none
        else
          bif decide (x268.toNat < x266.length) then
            match x266[x268.toNat]? with
            | some x269 =>
              let x270 := x266.set x268.toNat x265
              let x271 := (IntKind.i64.wrap (x264 + (1 : Int)))
              next x262 x263 x271 x270
            | none => none
          else
            none)
  else
    k0 v238
noncomputable def spec_l5Mul_L0.b {α : Type} (N n : Nat) (v235 : List Int) (v236 : List Int) (v237 : Int) (v238 : List Int) (k0 : List Int → Option α) : Option α :=
  Nat.rec (motive := fun _ => List Int → List Int → Int → List Int → Option α) (fun _ _ _ _ => none) (fun _ next => spec_l5Mul_L0r N next k0) n v235 v236 v237 v238
theorem spec_l5Mul_L0.ex : ∃ f : ((α : Type) → Nat → Nat → List Int → List Int → Int → List Int → (List Int → Option α) → Option α), f = fun α => @spec_l5Mul_L0.b α := ⟨_, rfl⟩
noncomputable def spec_l5Mul_L0 {α : Type} : Nat → Nat → List Int → List Int → Int → List Int → (List Int → Option α) → Option α := Classical.choose spec_l5Mul_L0.ex α
theorem spec_l5Mul_L0.eq : @spec_l5Mul_L0 = @spec_l5Mul_L0.b := funext fun α => congrFun (Classical.choose_spec spec_l5Mul_L0.ex) α
theorem spec_l5Mul_L0.zero {α : Type} (N : Nat) (v235 : List Int) (v236 : List Int) (v237 : Int) (v238 : List Int) (k0 : List Int → Option α) : spec_l5Mul_L0 N 0 v235 v236 v237 v238 k0 = none := by rw [spec_l5Mul_L0.eq]; rfl
theorem spec_l5Mul_L0.succ {α : Type} (N n : Nat) (v235 : List Int) (v236 : List Int) (v237 : Int) (v238 : List Int) (k0 : List Int → Option α) : spec_l5Mul_L0 N (n + 1) v235 v236 v237 v238 k0 = spec_l5Mul_L0r N (fun y0 y1 y2 y3 => spec_l5Mul_L0 N n y0 y1 y2 y3 k0) k0 v235 v236 v237 v238 := by rw [spec_l5Mul_L0.eq]; rfl
/-- loop.example/pinfold/spec.l5Mul -/
noncomputable def spec_l5Mul.b {α : Type} (N : Nat) (a229 : List Int) (a230 : List Int) (k0 : List Int → Option α) : Option α :=
  let x231 := ((a229.length : Nat) : Int)
  let x232 := ((a230.length : Nat) : Int)
  let x233 := IntKind.i64.wrap (x231 + x232)
  bif (decide ((0 : Int) ≤ x233)) then
    bif decide (x233 ≤ x233) then
      bif (decide (x233 ≤ ((8796093022208 : Nat) : Int))) then
        let x234 := (List.replicate x233.toNat (0 : Int))
        spec_l5Mul_L0 N N a229 a230 (0 : Int) x234
          (fun x272 =>
            spec_l5Trim N x272
              (fun x294 =>
                k0 x294))
      else
        none
    else
      none
  else
    none
theorem spec_l5Mul.ex : ∃ f : ((α : Type) → Nat → List Int → List Int → (List Int → Option α) → Option α), f = fun α => @spec_l5Mul.b α := ⟨_, rfl⟩
noncomputable def spec_l5Mul {α : Type} : Nat → List Int → List Int → (List Int → Option α) → Option α := Classical.choose spec_l5Mul.ex α
theorem spec_l5Mul.eq : @spec_l5Mul = @spec_l5Mul.b := funext fun α => congrFun (Classical.choose_spec spec_l5Mul.ex) α

/-- loop.example/pinfold/spec.l5At -/
noncomputable def spec_l5At.b {α : Type} (N : Nat) (a321 : List Int) (a322 : Int) (k0 : Int → Option α) : Option α :=
  let x323 := ((a321.length : Nat) : Int)
  let x324 := decide (a322 < x323)
  bif x324 then
    bif (decide (a322 < (0 : Int))) then
      none
    else
      match a321[a322.toNat]? with
      | some x325 =>
        k0 x325
      | none => none
  else
    k0 (0 : Int)
theorem spec_l5At.ex : ∃ f : ((α : Type) → Nat → List Int → Int → (Int → Option α) → Option α), f = fun α => @spec_l5At.b α := ⟨_, rfl⟩
noncomputable def spec_l5At {α : Type} : Nat → List Int → Int → (Int → Option α) → Option α := Classical.choose spec_l5At.ex α
theorem spec_l5At.eq : @spec_l5At = @spec_l5At.b := funext fun α => congrFun (Classical.choose_spec spec_l5At.ex) α

noncomputable def spec_l5Add_J2.b {α : Type} (N : Nat) (v305 : List Int) (v306 : List Int) (v307 : Int) (k0 : List Int → List Int → Int → Option α) : Option α :=
  let x308 := ((v306.length : Nat) : Int)
  let x309 := decide (v307 < x308)
  bif x309 then
    let x310 := ((v306.length : Nat) : Int)
    k0 v305 v306 x310
  else
    k0 v305 v306 v307
theorem spec_l5Add_J2.ex : ∃ f : ((α : Type) → Nat → List Int → List Int → Int → (List Int → List Int → Int → Option α) → Option α), f = fun α => @spec_l5Add_J2.b α := ⟨_, rfl⟩
noncomputable def spec_l5Add_J2 {α : Type} : Nat → List Int → List Int → Int → (List Int → List Int → Int → Option α) → Option α := Classical.choose spec_l5Add_J2.ex α
theorem spec_l5Add_J2.eq : @spec_l5Add_J2 = @spec_l5Add_J2.b := funext fun α => congrFun (Classical.choose_spec spec_l5Add_J2.ex) α
noncomputable def spec_l5Add_L0r {α : Type} (N : Nat) (next : List Int → List Int → Int → Int → Int → List Int → Option α) (k0 : Int → List Int → Option α) (v314 : List Int) (v315 : List Int) (v316 : Int) (v317 : Int) (v318 : Int) (v319 : List Int) : Option α :=
  let x320 := decide (v318 < v316)
  bif x320 then
    spec_l5At N v314 v318
      (fun x326 =>
        spec_l5At N v315 v318
          (fun x327 =>
            let x328 := IntKind.i64.wrap (x326 + x327)
            let x329 := IntKind.i64.wrap (x328 + v317)
            let x330 := (Int.tmod x329 (65536 : Int))
            let x331 := [x330]
            bif decide (v319.length + x331.length ≤ 8796093022208) then
              let x332 := v319 ++ x331
              let x333 := (IntKind.i64.wrap (Int.tdiv x329 (65536 : Int)))
              let x334 := (IntKind.i64.wrap (v318 + (1 : Int)))
              next v314 v315 v316 x333 x334 x332
            else
              none))
  else
    k0 v317 v319
noncomputable def spec_l5Add_L0.b {α : Type} (N n : Nat) (v314 : List Int) (v315 : List Int) (v316 : Int) (v317 : Int) (v318 : Int) (v319 : List Int) (k0 : Int → List Int → Option α) : Option α :=
  Nat.rec (motive := fun _ => List Int → List Int → Int → Int → Int → List Int → Option α) (fun _ _ _ _ _ _ => none) (fun _ next => spec_l5Add_L0r N next k0) n v314 v315 v316 v317 v318 v319
theorem spec_l5Add_L0.ex : ∃ f : ((α : Type) → Nat → Nat → List Int → List Int → Int → Int → Int → List Int → (Int → List Int → Option α) → Option α), f = fun α => @spec_l5Add_L0.b α := ⟨_, rfl⟩
noncomputable def spec_l5Add_L0 {α : Type} : Nat → Nat → List Int → List Int → Int → Int → Int → List Int → (Int → List Int → Option α) → Option α := Classical.choose spec_l5Add_L0.ex α
theorem spec_l5Add_L0.eq : @spec_l5Add_L0 = @spec_l5Add_L0.b := funext fun α => congrFun (Classical.choose_spec spec_l5Add_L0.ex) α
theorem spec_l5Add_L0.zero {α : Type} (N : Nat) (v314 : List Int) (v315 : List Int) (v316 : Int) (v317 : Int) (v318 : Int) (v319 : List Int) (k0 : Int → List Int → Option α) : spec_l5Add_L0 N 0 v314 v315 v316 v317 v318 v319 k0 = none := by rw [spec_l5Add_L0.eq]; rfl
theorem spec_l5Add_L0.succ {α : Type} (N n : Nat) (v314 : List Int) (v315 : List Int) (v316 : Int) (v317 : Int) (v318 : Int) (v319 : List Int) (k0 : Int → List Int → Option α) : spec_l5Add_L0 N (n + 1) v314 v315 v316 v317 v318 v319 k0 = spec_l5Add_L0r N (fun y0 y1 y2 y3 y4 y5 => spec_l5Add_L0 N n y0 y1 y2 y3 y4 y5 k0) k0 v314 v315 v316 v317 v318 v319 := by rw [spec_l5Add_L0.eq]; rfl
noncomputable def spec_l5Add_J12.b {α : Type} (N : Nat) (v337 : Int) (v338 : List Int) (k0 : List Int → Option α) : Option α :=
  let x339 := (decide ((0 : Int) < v337))
  bif x339 then
    let x340 := [v337]
    bif decide (v338.length + x340.length ≤ 8796093022208) then
      let x341 := v338 ++ x340
      k0 x341
    else
      none
  else
    k0 v338
theorem spec_l5Add_J12.ex : ∃ f : ((α : Type) → Nat → Int → List Int → (List Int → Option α) → Option α), f = fun α => @spec_l5Add_J12.b α := ⟨_, rfl⟩
noncomputable def spec_l5Add_J12 {α : Type} : Nat → Int → List Int → (List Int → Option α) → Option α := Classical.choose spec_l5Add_J12.ex α
theorem spec_l5Add_J12.eq : @spec_l5Add_J12 = @spec_l5Add_J12.b := funext fun α => congrFun (Classical.choose_spec spec_l5Add_J12.ex) α
/-- loop.example/pinfold/spec.l5Add -/
noncomputable def spec_l5Add.b {α : Type} (N : Nat) (a302 : List Int) (a303 : List Int) (k0 : List Int → Option α) : Option α :=
  let x304 := ((a302.length : Nat) : Int)
  spec_l5Add_J2 N a302 a303 x304
    (fun x311 x312 x313 =>
      spec_l5Add_L0 N N x311 x312 x313 (0 : Int) (0 : Int) []
        (fun x335 x336 =>
          spec_l5Add_J12 N x335 x336
            (fun x342 =>
              k0 x342)))
theorem spec_l5Add.ex : ∃ f : ((α : Type) → Nat → List Int → List Int → (List Int → Option α) → Option α), f = fun α => @spec_l5Add.b α := ⟨_, rfl⟩
noncomputable def spec_l5Add {α : Type} : Nat → List Int → List Int → (List Int → Option α) → Option α := Classical.choose spec_l5Add.ex α
theorem spec_l5Add.eq : @spec_l5Add = @spec_l5Add.b := funext fun α => congrFun (Classical.choose_spec spec_l5Add.ex) α

noncomputable def spec_DrawNatRoot_J5.b {α : Type} (N : Nat) (v296 : (List Int) × Int × Unit) (v297 : List Int) (k0 : List Int → Option α) : Option α :=
  spec_l32Rd_pick N (3 : Int) v296
    (fun x298 _ =>
      let x300 := (decide (x298 = (0 : Int)))
      bif x300 then
        let x301 := [(1 : Int)]
        spec_l5Add N v297 x301
          (fun x343 =>
            k0 x343)
      else
        k0 v297)
theorem spec_DrawNatRoot_J5.ex : ∃ f : ((α : Type) → Nat → ((List Int) × Int × Unit) → List Int → (List Int → Option α) → Option α), f = fun α => @spec_DrawNatRoot_J5.b α := ⟨_, rfl⟩
noncomputable def spec_DrawNatRoot_J5 {α : Type} : Nat → ((List Int) × Int × Unit) → List Int → (List Int → Option α) → Option α := Classical.choose spec_DrawNatRoot_J5.ex α
theorem spec_DrawNatRoot_J5.eq : @spec_DrawNatRoot_J5 = @spec_DrawNatRoot_J5.b := funext fun α => congrFun (Classical.choose_spec spec_DrawNatRoot_J5.ex) α
noncomputable def spec_DrawNatRoot_J3.b {α : Type} (N : Nat) (v201 : (List Int) × Int × Unit) (v202 : List Int) (k0 : List Int → Option α) : Option α :=
  spec_NatOk N v202
    (fun x223 =>
      bif x223 then
        let x224 := ((v202.length : Nat) : Int)
        let x225 := (decide (x224 < (100 : Int)))
        bif x225 then
          spec_l32Rd_pick N (3 : Int) v201
            (fun x226 x227 =>
              let x228 := (decide ((0 : Int) < x226))
              bif x228 then
                spec_l5Mul N v202 v202
                  (fun x295 =>
                    spec_DrawNatRoot_J5 N x227 x295
                      (fun x344 =>
                        k0 x344))
              else
                k0 v202)
        else
          k0 v202
      else
        k0 v202)
theorem spec_DrawNatRoot_J3.ex : ∃ f : ((α : Type) → Nat → ((List Int) × Int × Unit) → List Int → (List Int → Option α) → Option α), f = fun α => @spec_DrawNatRoot_J3.b α := ⟨_, rfl⟩
noncomputable def spec_DrawNatRoot_J3 {α : Type} : Nat → ((List Int) × Int × Unit) → List Int → (List Int → Option α) → Option α := Classical.choose spec_DrawNatRoot_J3.ex α
theorem spec_DrawNatRoot_J3.eq : @spec_DrawNatRoot_J3 = @spec_DrawNatRoot_J3.b := funext fun α => congrFun (Classical.choose_spec spec_DrawNatRoot_J3.ex) α
/-- loop.example/pinfold/spec.DrawNatRoot -/
noncomputable def spec_DrawNatRoot.b {α : Type} (N : Nat) (a4 : List Int) (k0 : List Int → Option α) : Option α :=
  spec_l32Open N a4
    (fun x11 =>
      spec_l32Rd_raw N x11
        (fun x199 x200 =>
          spec_DrawNatRoot_J3 N x199 x200
            (fun x345 =>
              k0 x345)))
theorem spec_DrawNatRoot.ex : ∃ f : ((α : Type) → Nat → List Int → (List Int → Option α) → Option α), f = fun α => @spec_DrawNatRoot.b α := ⟨_, rfl⟩
noncomputable def spec_DrawNatRoot {α : Type} : Nat → List Int → (List Int → Option α) → Option α := Classical.choose spec_DrawNatRoot.ex α
theorem spec_DrawNatRoot.eq : @spec_DrawNatRoot = @spec_DrawNatRoot.b := funext fun α => congrFun (Classical.choose_spec spec_DrawNatRoot.ex) α

/-- loop.example/pinfold/impl.in -/
noncomputable def impl_in.b {α : Type} (N : Nat) (a362 : Int) (a363 : Int) (a364 : Int) (k0 : Bool → Option α) : Option α :=
  let x365 := decide (a363 ≤ a362)
  bif x365 then
    let x366 := decide (a362 ≤ a364)
    k0 x366
  else
    k0 false
theorem impl_in.ex : ∃ f : ((α : Type) → Nat → Int → Int → Int → (Bool → Option α) → Option α), f = fun α => @impl_in.b α := ⟨_, rfl⟩
noncomputable def impl_in {α : Type} : Nat → Int → Int → Int → (Bool → Option α) → Option α := Classical.choose impl_in.ex α
theorem impl_in.eq : @impl_in = @impl_in.b := funext fun α => congrFun (Classical.choose_spec impl_in.ex) α

/-- loop.example/pinfold/impl.NatOk$1 -/
noncomputable def impl_NatOk_1.b {α : Type} (N : Nat) (a361 : Int) (k0 : Bool → Option α) : Option α :=
  impl_in N a361 (0 : Int) (65535 : Int)
    (fun x367 =>
      let x368 := !x367
      k0 x368)
theorem impl_NatOk_1.ex : ∃ f : ((α : Type) → Nat → Int → (Bool → Option α) → Option α), f = fun α => @impl_NatOk_1.b α := ⟨_, rfl⟩
noncomputable def impl_NatOk_1 {α : Type} : Nat → Int → (Bool → Option α) → Option α := Classical.choose impl_NatOk_1.ex α
theorem impl_NatOk_1.eq : @impl_NatOk_1 = @impl_NatOk_1.b := funext fun α => congrFun (Classical.choose_spec impl_NatOk_1.ex) α

noncomputable def slices_IndexFunc_int_int__impl_NatOk_1_L0r {α : Type} (N : Nat) (next : List Int → Int → Int → Option α) (k0 : Int → Option α) (k1 : Option α) (v356 : List Int) (v357 : Int) (v358 : Int) : Option α :=
  let x359 := decide (v358 < v357)
  bif x359 then
    bif (decide (v358 < (0 : Int))) then
      none
    else
      match v356[v358.toNat]? with
      | some x360 =>
        impl_NatOk_1 N x360
          (fun x369 =>
            bif x369 then
              k0 v358
            else
              let x370 := (IntKind.i64.wrap (v358 + (1 : Int)))
              next v356 v357 x370)
      | none => none
  else
    k1
noncomputable def slices_IndexFunc_int_int__impl_NatOk_1_L0.b {α : Type} (N n : Nat) (v356 : List Int) (v357 : Int) (v358 : Int) (k0 : Int → Option α) (k1 : Option α) : Option α :=
  Nat.rec (motive := fun _ => List Int → Int → Int → Option α) (fun _ _ _ => none) (fun _ next => slices_IndexFunc_int_int__impl_NatOk_1_L0r N next k0 k1) n v356 v357 v358
theorem slices_IndexFunc_int_int__impl_NatOk_1_L0.ex : ∃ f : ((α : Type) → Nat → Nat → List Int → Int → Int → (Int → Option α) → (Option α) → Option α), f = fun α => @slices_IndexFunc_int_int__impl_NatOk_1_L0.b α := ⟨_, rfl⟩
noncomputable def slices_IndexFunc_int_int__impl_NatOk_1_L0 {α : Type} : Nat → Nat → List Int → Int → Int → (Int → Option α) → (Option α) → Option α := Classical.choose slices_IndexFunc_int_int__impl_NatOk_1_L0.ex α
theorem slices_IndexFunc_int_int__impl_NatOk_1_L0.eq : @slices_IndexFunc_int_int__impl_NatOk_1_L0 = @slices_IndexFunc_int_int__impl_NatOk_1_L0.b := funext fun α => congrFun (Classical.choose_spec slices_IndexFunc_int_int__impl_NatOk_1_L0.ex) α
theorem slices_IndexFunc_int_int__impl_NatOk_1_L0.zero {α : Type} (N : Nat) (v356 : List Int) (v357 : Int) (v358 : Int) (k0 : Int → Option α) (k1 : Option α) : slices_IndexFunc_int_int__impl_NatOk_1_L0 N 0 v356 v357 v358 k0 k1 = none := by rw [slices_IndexFunc_int_int__impl_NatOk_1_L0.eq]; rfl
theorem slices_IndexFunc_int_int__impl_NatOk_1_L0.succ {α : Type} (N n : Nat) (v356 : List Int) (v357 : Int) (v358 : Int) (k0 : Int → Option α) (k1 : Option α) : slices_IndexFunc_int_int__impl_NatOk_1_L0 N (n + 1) v356 v357 v358 k0 k1 = slices_IndexFunc_int_int__impl_NatOk_1_L0r N (fun y0 y1 y2 => slices_IndexFunc_int_int__impl_NatOk_1_L0 N n y0 y1 y2 k0 k1) k0 k1 v356 v357 v358 := by rw [slices_IndexFunc_int_int__impl_NatOk_1_L0.eq]; rfl
/-- slices.IndexFunc[[]int,int] -/
noncomputable def slices_IndexFunc_int_int__impl_NatOk_1.b {α : Type} (N : Nat) (a354 : List Int) (k0 : Int → Option α) : Option α :=
  let x355 := ((a354.length : Nat) : Int)
  slices_IndexFunc_int_int__impl_NatOk_1_L0 N N a354 x355 (0 : Int)
    (fun x371 =>
      k0 x371)
    (
      k0 (-1 : Int))
theorem slices_IndexFunc_int_int__impl_NatOk_1.ex : ∃ f : ((α : Type) → Nat → List Int → (Int → Option α) → Option α), f = fun α => @slices_IndexFunc_int_int__impl_NatOk_1.b α := ⟨_, rfl⟩
noncomputable def slices_IndexFunc_int_int__impl_NatOk_1 {α : Type} : Nat → List Int → (Int → Option α) → Option α := Classical.choose slices_IndexFunc_int_int__impl_NatOk_1.ex α
theorem slices_IndexFunc_int_int__impl_NatOk_1.eq : @slices_IndexFunc_int_int__impl_NatOk_1 = @slices_IndexFunc_int_int__impl_NatOk_1.b := funext fun α => congrFun (Classical.choose_spec slices_IndexFunc_int_int__impl_NatOk_1.ex) α

/-- slices.ContainsFunc[[]int,int] -/
noncomputable def slices_ContainsFunc_int_int__impl_NatOk_1.b {α : Type} (N : Nat) (a353 : List Int) (k0 : Bool → Option α) : Option α :=
  slices_IndexFunc_int_int__impl_NatOk_1 N a353
    (fun x372 =>
      let x373 := (decide ((0 : Int) ≤ x372))
      k0 x373)
theorem slices_ContainsFunc_int_int__impl_NatOk_1.ex : ∃ f : ((α : Type) → Nat → List Int → (Bool → Option α) → Option α), f = fun α => @slices_ContainsFunc_int_int__impl_NatOk_1.b α := ⟨_, rfl⟩
noncomputable def slices_ContainsFunc_int_int__impl_NatOk_1 {α : Type} : Nat → List Int → (Bool → Option α) → Option α := Classical.choose slices_ContainsFunc_int_int__impl_NatOk_1.ex α
theorem slices_ContainsFunc_int_int__impl_NatOk_1.eq : @slices_ContainsFunc_int_int__impl_NatOk_1 = @slices_ContainsFunc_int_int__impl_NatOk_1.b := funext fun α => congrFun (Classical.choose_spec slices_ContainsFunc_int_int__impl_NatOk_1.ex) α

/-- loop.example/pinfold/impl.NatOk -/
noncomputable def impl_NatOk.b {α : Type} (N : Nat) (a348 : List Int) (k0 : Bool → Option α) : Option α :=
  let x349 := ((a348.length : Nat) : Int)
  let x350 := (decide (x349 ≤ (256 : Int)))
  bif x350 then
    let x351 := ((a348.length : Nat) : Int)
    let x352 := (decide (x351 = (0 : Int)))
    bif x352 then
      slices_ContainsFunc_int_int__impl_NatOk_1 N a348
        (fun x374 =>
          let x375 := !x374
          k0 x375)
    else
      let x376 := ((a348.length : Nat) : Int)
      let x377 := (IntKind.i64.wrap (x376 - (1 : Int)))
      bif (decide (x377 < (0 : Int))) then
        none
      else
        match a348[x377.toNat]? with
        | some x378 =>
          let x379 := (!(decide (x378 = (0 : Int))))
          bif x379 then
            slices_ContainsFunc_int_int__impl_NatOk_1 N a348
              (fun x380 =>
                let x381 := !x380
                k0 x381)
          else
            k0 false
        | none => none
  else
    k0 false
theorem impl_NatOk.ex : ∃ f : ((α : Type) → Nat → List Int → (Bool → Option α) → Option α), f = fun α => @impl_NatOk.b α := ⟨_, rfl⟩
noncomputable def impl_NatOk {α : Type} : Nat → List Int → (Bool → Option α) → Option α := Classical.choose impl_NatOk.ex α
theorem impl_NatOk.eq : @impl_NatOk = @impl_NatOk.b := funext fun α => congrFun (Classical.choose_spec impl_NatOk.ex) α

noncomputable def math_bits_Len64_J1.b {α : Type} (N : Nat) (v1056 : Int) (v1057 : Int) (k0 : Int → Int → Option α) : Option α :=
  let x1058 := (decide ((4294967296 : Int) ≤ v1056))
  bif x1058 then
    let x1059 := (shrI .u64 v1056 (32 : Int))
    k0 x1059 (32 : Int)
  else
    k0 v1056 v1057
theorem math_bits_Len64_J1.ex : ∃ f : ((α : Type) → Nat → Int → Int → (Int → Int → Option α) → Option α), f = fun α => @math_bits_Len64_J1.b α := ⟨_, rfl⟩
noncomputable def math_bits_Len64_J1 {α : Type} : Nat → Int → Int → (Int → Int → Option α) → Option α := Classical.choose math_bits_Len64_J1.ex α
theorem math_bits_Len64_J1.eq : @math_bits_Len64_J1 = @math_bits_Len64_J1.b := funext fun α => congrFun (Classical.choose_spec math_bits_Len64_J1.ex) α
noncomputable def math_bits_Len64_J4.b {α : Type} (N : Nat) (v1062 : Int) (v1063 : Int) (k0 : Int → Int → Option α) : Option α :=
  let x1064 := (decide ((65536 : Int) ≤ v1062))
  bif x1064 then
    let x1065 := (shrI .u64 v1062 (16 : Int))
    let x1066 := (IntKind.i64.wrap (v1063 + (16 : Int)))
    k0 x1065 x1066
  else
    k0 v1062 v1063
theorem math_bits_Len64_J4.ex : ∃ f : ((α : Type) → Nat → Int → Int → (Int → Int → Option α) → Option α), f = fun α => @math_bits_Len64_J4.b α := ⟨_, rfl⟩
noncomputable def math_bits_Len64_J4 {α : Type} : Nat → Int → Int → (Int → Int → Option α) → Option α := Classical.choose math_bits_Len64_J4.ex α
theorem math_bits_Len64_J4.eq : @math_bits_Len64_J4 = @math_bits_Len64_J4.b := funext fun α => congrFun (Classical.choose_spec math_bits_Len64_J4.ex) α
noncomputable def math_bits_Len64_J7.b {α : Type} (N : Nat) (v1069 : Int) (v1070 : Int) (k0 : Int → Int → Option α) : Option α :=
  let x1071 := (decide ((256 : Int) ≤ v1069))
  bif x1071 then
    let x1072 := (shrI .u64 v1069 (8 : Int))
    let x1073 := (IntKind.i64.wrap (v1070 + (8 : Int)))
    k0 x1072 x1073
  else
    k0 v1069 v1070
theorem math_bits_Len64_J7.ex : ∃ f : ((α : Type) → Nat → Int → Int → (Int → Int → Option α) → Option α), f = fun α => @math_bits_Len64_J7.b α := ⟨_, rfl⟩
noncomputable def math_bits_Len64_J7 {α : Type} : Nat → Int → Int → (Int → Int → Option α) → Option α := Classical.choose math_bits_Len64_J7.ex α
theorem math_bits_Len64_J7.eq : @math_bits_Len64_J7 = @math_bits_Len64_J7.b := funext fun α => congrFun (Classical.choose_spec math_bits_Len64_J7.ex) α
/-- math/bits.Len64 -/
noncomputable def math_bits_Len64.b {α : Type} (N : Nat) (a1055 : Int) (k0 : Int → Option α) : Option α :=
  math_bits_Len64_J1 N a1055 (0 : Int)
    (fun x1060 x1061 =>
      math_bits_Len64_J4 N x1060 x1061
        (fun x1067 x1068 =>
          math_bits_Len64_J7 N x1067 x1068
            (fun x1074 x1075 =>
              let x1076 := IntKind.u8.wrap x1074
              bif (decide (x1076 < (0 : Int))) then
                none
              else
                match ((⟨#[0, 1, 2, 2, 3, 3, 3, 3, 4, 4, 4, 4, 4, 4, 4, 4, 5, 5, 5, 5, 5, 5, 5, 5, 5, 5, 5, 5, 5, 5, 5, 5, 6, 6, 6, 6, 6, 6, 6, 6, 6, 6, 6, 6, 6, 6, 6, 6, 6, 6, 6, 6, 6, 6, 6, 6, 6, 6, 6, 6, 6, 6, 6, 6, 7, 7, 7, 7, 7, 7, 7, 7, 7, 7, 7, 7, 7, 7, 7, 7, 7, 7, 7, 7, 7, 7, 7, 7, 7, 7, 7, 7, 7, 7, 7, 7, 7, 7, 7, 7, 7, 7, 7, 7, 7, 7, 7, 7, 7, 7, 7, 7, 7, 7, 7, 7, 7, 7, 7, 7, 7, 7, 7, 7, 7, 7, 7, 7, 8, 8, 8, 8, 8, 8, 8, 8, 8, 8, 8, 8, 8, 8, 8, 8, 8, 8, 8, 8, 8, 8, 8, 8, 8, 8, 8, 8, 8, 8, 8, 8, 8, 8, 8, 8, 8, 8, 8, 8, 8, 8, 8, 8, 8, 8, 8, 8, 8, 8, 8, 8, 8, 8, 8, 8, 8, 8, 8, 8, 8, 8, 8, 8, 8, 8, 8, 8, 8, 8, 8, 8, 8, 8, 8, 8, 8, 8, 8, 8, 8, 8, 8, 8, 8, 8, 8, 8, 8, 8, 8, 8, 8, 8, 8, 8, 8, 8, 8, 8, 8, 8, 8, 8, 8, 8, 8, 8, 8, 8, 8, 8, 8, 8, 8, 8, 8, 8, 8, 8, 8, 8, 8, 8, 8, 8, 8, 8]⟩ : ByteArray)[x1076.toNat]? : Option UInt8) with
                | some x1077 =>
                  let x1078 := ((x1077.toNat : Nat) : Int)
                  let x1079 := IntKind.i64.wrap x1078
                  let x1080 := IntKind.i64.wrap (x1075 + x1079)
                  k0 x1080
                | none => none)))
theorem math_bits_Len64.ex : ∃ f : ((α : Type) → Nat → Int → (Int → Option α) → Option α), f = fun α => @math_bits_Len64.b α := ⟨_, rfl⟩
noncomputable def math_bits_Len64 {α : Type} : Nat → Int → (Int → Option α) → Option α := Classical.choose math_bits_Len64.ex α
theorem math_bits_Len64.eq : @math_bits_Len64 = @math_bits_Len64.b := funext fun α => congrFun (Classical.choose_spec math_bits_Len64.ex) α

/-- math/bits.Len -/
noncomputable def math_bits_Len.b {α : Type} (N : Nat) (a1054 : Int) (k0 : Int → Option α) : Option α :=
  math_bits_Len64 N a1054
    (fun x1081 =>
      k0 x1081)
theorem math_bits_Len.ex : ∃ f : ((α : Type) → Nat → Int → (Int → Option α) → Option α), f = fun α => @math_bits_Len.b α := ⟨_, rfl⟩
noncomputable def math_bits_Len {α : Type} : Nat → Int → (Int → Option α) → Option α := Classical.choose math_bits_Len.ex α
theorem math_bits_Len.eq : @math_bits_Len = @math_bits_Len.b := funext fun α => congrFun (Classical.choose_spec math_bits_Len.ex) α

/-- loop.example/pinfold/impl.natBits -/
noncomputable def impl_natBits.b {α : Type} (N : Nat) (a1044 : List Int) (k0 : Int → Option α) : Option α :=
  let x1045 := ((a1044.length : Nat) : Int)
  let x1046 := (decide (x1045 = (0 : Int)))
  bif x1046 then
    k0 (0 : Int)
  else
    let x1047 := ((a1044.length : Nat) : Int)
    let x1048 := (IntKind.i64.wrap (x1047 - (1 : Int)))
    let x1049 := (IntKind.i64.wrap ((16 : Int) * x1048))
    let x1050 := ((a1044.length : Nat) : Int)
    let x1051 := (IntKind.i64.wrap (x1050 - (1 : Int)))
    bif (decide (x1051 < (0 : Int))) then
      none
    else
      match a1044[x1051.toNat]? with
      | some x1052 =>
        let x1053 := IntKind.u64.wrap x1052
        math_bits_Len N x1053
          (fun x1082 =>
            let x1083 := IntKind.i64.wrap (x1049 + x1082)
            k0 x1083)
      | none => none
theorem impl_natBits.ex : ∃ f : ((α : Type) → Nat → List Int → (Int → Option α) → Option α), f = fun α => @impl_natBits.b α := ⟨_, rfl⟩
noncomputable def impl_natBits {α : Type} : Nat → List Int → (Int → Option α) → Option α := Classical.choose impl_natBits.ex α
theorem impl_natBits.eq : @impl_natBits = @impl_natBits.b := funext fun α => congrFun (Classical.choose_spec impl_natBits.ex) α

/-- slices.Clone[[]int,int] -/
noncomputable def slices_Clone_int_int {α : Type} (N : Nat) (a1 : List Int) (k0 : List Int → Option α) : Option α :=
  bif decide (([] : List Int).length + a1.length ≤ 8796093022208) then k0 a1 else none

noncomputable def impl_trim_L0r {α : Type} (N : Nat) (next : List Int → Option α) (k0 : List Int → Option α) (v1205 : List Int) : Option α :=
  let x1206 := ((v1205.length : Nat) : Int)
  let x1207 := (decide ((0 : Int) < x1206))
  bif x1207 then
    let x1208 := ((v1205.length : Nat) : Int)
    let x1209 := (IntKind.i64.wrap (x1208 - (1 : Int)))
    bif (decide (x1209 < (0 : Int))) then
      none
    else
      match v1205[x1209.toNat]? with
      | some x1210 =>
        let x1211 := (decide (x1210 = (0 : Int)))
        bif x1211 then
          let x1212 := ((v1205.length : Nat) : Int)
          let x1213 := (IntKind.i64.wrap (x1212 - (1 : Int)))
          bif (decide ((0 : Int) ≤ x1213)) then
            bif (decide (x1213 ≤ ((v1205.length : Nat) : Int))) then
              let x1214 := v1205.take x1213.toNat
              next x1214
            else
              none
          else
            none
        else
          k0 v1205
      | none => none
  else
    k0 v1205
noncomputable def impl_trim_L0.b {α : Type} (N n : Nat) (v1205 : List Int) (k0 : List Int → Option α) : Option α :=
  Nat.rec (motive := fun _ => List Int → Option α) (fun _ => none) (fun _ next => impl_trim_L0r N next k0) n v1205
theorem impl_trim_L0.ex : ∃ f : ((α : Type) → Nat → Nat → List Int → (List Int → Option α) → Option α), f = fun α => @impl_trim_L0.b α := ⟨_, rfl⟩
noncomputable def impl_trim_L0 {α : Type} : Nat → Nat → List Int → (List Int → Option α) → Option α := Classical.choose impl_trim_L0.ex α
theorem impl_trim_L0.eq : @impl_trim_L0 = @impl_trim_L0.b := funext fun α => congrFun (Classical.choose_spec impl_trim_L0.ex) α
theorem impl_trim_L0.zero {α : Type} (N : Nat) (v1205 : List Int) (k0 : List Int → Option α) : impl_trim_L0 N 0 v1205 k0 = none := by rw [impl_trim_L0.eq]; rfl
theorem impl_trim_L0.succ {α : Type} (N n : Nat) (v1205 : List Int) (k0 : List Int → Option α) : impl_trim_L0 N (n + 1) v1205 k0 = impl_trim_L0r N (fun y0 => impl_trim_L0 N n y0 k0) k0 v1205 := by rw [impl_trim_L0.eq]; rfl
/-- loop.example/pinfold/impl.trim -/
noncomputable def impl_trim.b {α : Type} (N : Nat) (a1204 : List Int) (k0 : List Int → Option α) : Option α :=
  impl_trim_L0 N N a1204
    (fun x1215 =>
      k0 x1215)
theorem impl_trim.ex : ∃ f : ((α : Type) → Nat → List Int → (List Int → Option α) → Option α), f = fun α => @impl_trim.b α := ⟨_, rfl⟩
noncomputable def impl_trim {α : Type} : Nat → List Int → (List Int → Option α) → Option α := Classical.choose impl_trim.ex α
theorem impl_trim.eq : @impl_trim = @impl_trim.b := funext fun α => congrFun (Classical.choose_spec impl_trim.ex) α

noncomputable def impl_natShift_J10.b {α : Type} (N : Nat) (v1175 : List Int) (v1176 : Int) (v1177 : Int) (v1178 : Int) (v1179 : Int) (v1180 : Int) (v1181 : List Int) (k0 : List Int → Int → Int → Int → Int → List Int → Option α) : Option α :=
  let x1182 := IntKind.i64.wrap (v1176 + v1178)
  let x1183 := (IntKind.i64.wrap (x1182 + (1 : Int)))
  let x1184 := ((v1175.length : Nat) : Int)
  let x1185 := decide (x1183 < x1184)
  bif x1185 then
    bif (decide (v1178 < (0 : Int))) then
      none
    else
      bif decide (v1178.toNat < v1181.length) then
        match v1181[v1178.toNat]? with
        | some x1186 =>
          let x1187 := IntKind.i64.wrap (v1176 + v1178)
          let x1188 := (IntKind.i64.wrap (x1187 + (1 : Int)))
          bif (decide (x1188 < (0 : Int))) then
            none
          else
            match v1175[x1188.toNat]? with
            | some x1189 =>
              let x1190 := (IntKind.i64.wrap ((16 : Int) - v1177))
              bif (decide (x1190 < (0 : Int))) then
                none
              else
                let x1191 := shlI .i64 x1189 x1190
                let x1192 := (bitI .and .i64 x1191 (65535 : Int))
                let x1193 := bitI .or .i64 x1186 x1192
                bif (decide (v1178 < (0 : Int))) then
                  none
                else
                  bif decide (v1178.toNat < v1181.length) then
                    match v1181[v1178.toNat]? with
                    | some x1194 =>
                      let x1195 := v1181.set v1178.toNat x1193
                      k0 v1175 v1176 v1177 v1179 v1180 x1195
                    | none => none
                  else
                    none
            | none => none
        | none => none
      else
        none
  else
    k0 v1175 v1176 v1177 v1179 v1180 v1181
theorem impl_natShift_J10.ex : ∃ f : ((α : Type) → Nat → List Int → Int → Int → Int → Int → Int → List Int → (List Int → Int → Int → Int → Int → List Int → Option α) → Option α), f = fun α => @impl_natShift_J10.b α := ⟨_, rfl⟩
noncomputable def impl_natShift_J10 {α : Type} : Nat → List Int → Int → Int → Int → Int → Int → List Int → (List Int → Int → Int → Int → Int → List Int → Option α) → Option α := Classical.choose impl_natShift_J10.ex α
theorem impl_natShift_J10.eq : @impl_natShift_J10 = @impl_natShift_J10.b := funext fun α => congrFun (Classical.choose_spec impl_natShift_J10.ex) α
noncomputable def impl_natShift_L0r {α : Type} (N : Nat) (next : List Int → Int → Int → Int → Int → List Int → Option α) (k0 : List Int → Option α) (v1164 : List Int) (v1165 : Int) (v1166 : Int) (v1167 : Int) (v1168 : Int) (v1169 : List Int) : Option α :=
  let x1170 := decide (v1168 < v1167)
  bif x1170 then
    bif (decide (v1168 < (0 : Int))) then
      none
    else
      bif decide (v1168.toNat < v1169.length) then
        match v1169[v1168.toNat]? with
        | some x1171 =>
          bif (decide (v1166 < (0 : Int))) then
            none
          else
            let x1172 := shrI .i64 x1171 v1166
            bif (decide (v1168 < (0 : Int))) then
              none
            else
              bif decide (v1168.toNat < v1169.length) then
                match v1169[v1168.toNat]? with
                | some x1173 =>
                  let x1174 := v1169.set v1168.toNat x1172
                  impl_natShift_J10 N v1164 v1165 v1166 v1168 v1167 v1168 x1174
                    (fun x1196 x1197 x1198 x1199 x1200 x1201 =>
                      let x1202 := (IntKind.i64.wrap (x1200 + (1 : Int)))
                      next x1196 x1197 x1198 x1199 x1202 x1201)
                | none => none
              else
                none
        | none => none
      else
        none
  else
    k0 v1169
noncomputable def impl_natShift_L0.b {α : Type} (N n : Nat) (v1164 : List Int) (v1165 : Int) (v1166 : Int) (v1167 : Int) (v1168 : Int) (v1169 : List Int) (k0 : List Int → Option α) : Option α :=
  Nat.rec (motive := fun _ => List Int → Int → Int → Int → Int → List Int → Option α) (fun _ _ _ _ _ _ => none) (fun _ next => impl_natShift_L0r N next k0) n v1164 v1165 v1166 v1167 v1168 v1169
theorem impl_natShift_L0.ex : ∃ f : ((α : Type) → Nat → Nat → List Int → Int → Int → Int → Int → List Int → (List Int → Option α) → Option α), f = fun α => @impl_natShift_L0.b α := ⟨_, rfl⟩
noncomputable def impl_natShift_L0 {α : Type} : Nat → Nat → List Int → Int → Int → Int → Int → List Int → (List Int → Option α) → Option α := Classical.choose impl_natShift_L0.ex α
theorem impl_natShift_L0.eq : @impl_natShift_L0 = @impl_natShift_L0.b := funext fun α => congrFun (Classical.choose_spec impl_natShift_L0.ex) α
theorem impl_natShift_L0.zero {α : Type} (N : Nat) (v1164 : List Int) (v1165 : Int) (v1166 : Int) (v1167 : Int) (v1168 : Int) (v1169 : List Int) (k0 : List Int → Option α) : impl_natShift_L0 N 0 v1164 v1165 v1166 v1167 v1168 v1169 k0 = none := by rw [impl_natShift_L0.eq]; rfl
theorem impl_natShift_L0.succ {α : Type} (N n : Nat) (v1164 : List Int) (v1165 : Int) (v1166 : Int) (v1167 : Int) (v1168 : Int) (v1169 : List Int) (k0 : List Int → Option α) : impl_natShift_L0 N (n + 1) v1164 v1165 v1166 v1167 v1168 v1169 k0 = impl_natShift_L0r N (fun y0 y1 y2 y3 y4 y5 => impl_natShift_L0 N n y0 y1 y2 y3 y4 y5 k0) k0 v1164 v1165 v1166 v1167 v1168 v1169 := by rw [impl_natShift_L0.eq]; rfl
noncomputable def impl_natShift_L2r {α : Type} (N : Nat) (next : Int → List Int → Int → Int → List Int → Option α) (k0 : List Int → Option α) (v1223 : Int) (v1224 : List Int) (v1225 : Int) (v1226 : Int) (v1227 : List Int) : Option α :=
  let x1228 := decide (v1226 < v1225)
  bif x1228 then
    bif (decide (v1226 < (0 : Int))) then
      none
    else
      match v1224[v1226.toNat]? with
      | some x1229 =>
        let x1230 := (Int.tmod v1223 (16 : Int))
        bif (decide (x1230 < (0 : Int))) then
          none
        else
          let x1231 := shlI .i64 x1229 x1230
          let x1232 := (IntKind.i64.wrap (Int.tdiv v1223 (16 : Int)))
          let x1233 := IntKind.i64.wrap (x1232 + v1226)
          bif (decide (x1233 < (0 : Int))) then
            none
          else
            bif decide (x1233.toNat < v1227.length) then
              match v1227[x1233.toNat]? with
              | some x1234 =>
                let x1235 := (bitI .and .i64 x1231 (65535 : Int))
                let x1236 := bitI .or .i64 x1234 x1235
                bif (decide (x1233 < (0 : Int))) then
                  none
                else
                  bif decide (x1233.toNat < v1227.length) then
                    match v1227[x1233.toNat]? with
                    | some x1237 =>
                      let x1238 := v1227.set x1233.toNat x1236
                      let x1239 := (IntKind.i64.wrap (Int.tdiv v1223 (16 : Int)))
                      let x1240 := IntKind.i64.wrap (x1239 + v1226)
                      let x1241 := (IntKind.i64.wrap (x1240 + (1 : Int)))
                      let x1242 := (shrI .i64 x1231 (16 : Int))
                      bif (decide (x1241 < (0 : Int))) then
                        none
                      else
                        bif decide (x1241.toNat < x1238.length) then
                          match x1238[x1241.toNat]? with
                          | some x1243 =>
                            let x1244 := x1238.set x1241.toNat x1242
                            let x1245 := (IntKind.i64.wrap (v1226 + (1 : Int)))
                            next v1223 v1224 v1225 x1245 x1244
                          | none => none
                        else
                          none
                    | none => none
                  else
                    none
              | none => none
            else
              none
      | none => none
  else
    k0 v1227
noncomputable def impl_natShift_L2.b {α : Type} (N n : Nat) (v1223 : Int) (v1224 : List Int) (v1225 : Int) (v1226 : Int) (v1227 : List Int) (k0 : List Int → Option α) : Option α :=
  Nat.rec (motive := fun _ => Int → List Int → Int → Int → List Int → Option α) (fun _ _ _ _ _ => none) (fun _ next => impl_natShift_L2r N next k0) n v1223 v1224 v1225 v1226 v1227
theorem impl_natShift_L2.ex : ∃ f : ((α : Type) → Nat → Nat → Int → List Int → Int → Int → List Int → (List Int → Option α) → Option α), f = fun α => @impl_natShift_L2.b α := ⟨_, rfl⟩
noncomputable def impl_natShift_L2 {α : Type} : Nat → Nat → Int → List Int → Int → Int → List Int → (List Int → Option α) → Option α := Classical.choose impl_natShift_L2.ex α
theorem impl_natShift_L2.eq : @impl_natShift_L2 = @impl_natShift_L2.b := funext fun α => congrFun (Classical.choose_spec impl_natShift_L2.ex) α
theorem impl_natShift_L2.zero {α : Type} (N : Nat) (v1223 : Int) (v1224 : List Int) (v1225 : Int) (v1226 : Int) (v1227 : List Int) (k0 : List Int → Option α) : impl_natShift_L2 N 0 v1223 v1224 v1225 v1226 v1227 k0 = none := by rw [impl_natShift_L2.eq]; rfl
theorem impl_natShift_L2.succ {α : Type} (N n : Nat) (v1223 : Int) (v1224 : List Int) (v1225 : Int) (v1226 : Int) (v1227 : List Int) (k0 : List Int → Option α) : impl_natShift_L2 N (n + 1) v1223 v1224 v1225 v1226 v1227 k0 = impl_natShift_L2r N (fun y0 y1 y2 y3 y4 => impl_natShift_L2 N n y0 y1 y2 y3 y4 k0) k0 v1223 v1224 v1225 v1226 v1227 := by rw [impl_natShift_L2.eq]; rfl
/-- loop.example/pinfold/impl.natShift -/
noncomputable def impl_natShift.b {α : Type} (N : Nat) (a1152 : List Int) (a1153 : Int) (k0 : List Int → Option α) : Option α :=
  let x1154 := (decide (a1153 < (0 : Int)))
  bif x1154 then
    let x1155 := IntKind.i64.wrap (0 - a1153)
    let x1156 := (IntKind.i64.wrap (Int.tdiv x1155 (16 : Int)))
    let x1157 := IntKind.i64.wrap (0 - a1153)
    let x1158 := (Int.tmod x1157 (16 : Int))
    let x1159 := ((a1152.length : Nat) : Int)
    let x1160 := decide (x1159 ≤ x1156)
    bif x1160 then
      k0 []
    else
      bif (decide ((0 : Int) ≤ x1156)) then
        bif (decide (x1156 ≤ ((a1152.length : Nat) : Int))) then
          let x1161 := a1152.drop x1156.toNat
          slices_Clone_int_int N x1161
            (fun x1162 =>
              let x1163 := ((x1162.length : Nat) : Int)
              impl_natShift_L0 N N a1152 x1156 x1158 x1163 (0 : Int) x1162
                (fun x1203 =>
                  impl_trim N x1203
                    (fun x1216 =>
                      k0 x1216)))
        else
          none
      else
        none
  else
    let x1217 := (IntKind.i64.wrap (Int.tdiv a1153 (16 : Int)))
    let x1218 := ((a1152.length : Nat) : Int)
    let x1219 := IntKind.i64.wrap (x1217 + x1218)
    let x1220 := (IntKind.i64.wrap (x1219 + (1 : Int)))
    bif (decide ((0 : Int) ≤ x1220)) then
      bif decide (x1220 ≤ x1220) then
        bif (decide (x1220 ≤ ((8796093022208 : Nat) : Int))) then
          let x1221 := (List.replicate x1220.toNat (0 : Int))
          let x1222 := ((a1152.length : Nat) : Int)
          impl_natShift_L2 N N a1153 a1152 x1222 (0 : Int) x1221
            (fun x1246 =>
              impl_trim N x1246
                (fun x1247 =>
                  k0 x1247))
        else
          none
      else
        none
    else
      none
theorem impl_natShift.ex : ∃ f : ((α : Type) → Nat → List Int → Int → (List Int → Option α) → Option α), f = fun α => @impl_natShift.b α := ⟨_, rfl⟩
noncomputable def impl_natShift {α : Type} : Nat → List Int → Int → (List Int → Option α) → Option α := Classical.choose impl_natShift.ex α
theorem impl_natShift.eq : @impl_natShift = @impl_natShift.b := funext fun α => congrFun (Classical.choose_spec impl_natShift.ex) α

noncomputable def impl_natCmp_L0r {α : Type} (N : Nat) (next : List Int → List Int → Int → Option α) (k0 : Int → Option α) (k1 : Option α) (v1322 : List Int) (v1323 : List Int) (v1324 : Int) : Option α :=
  let x1325 := (decide ((0 : Int) ≤ v1324))
  bif x1325 then
    bif (decide (v1324 < (0 : Int))) then
      none
    else
      match v1322[v1324.toNat]? with
      | some x1326 =>
        bif (decide (v1324 < (0 : Int))) then
          none
        else
          match v1323[v1324.toNat]? with
          | some x1327 =>
            let x1328 := !(decide (x1326 = x1327))
            bif x1328 then
              bif (decide (v1324 < (0 : Int))) then
                none
              else
                match v1322[v1324.toNat]? with
                | some x1329 =>
                  bif (decide (v1324 < (0 : Int))) then
                    none
                  else
                    match v1323[v1324.toNat]? with
                    | some x1330 =>
                      let x1331 := IntKind.i64.wrap (x1329 - x1330)
                      let x1332 := (minI (1 : Int) x1331)
                      let x1333 := (maxI (-1 : Int) x1332)
                      k0 x1333
                    | none => none
                | none => none
            else
              let x1334 := (IntKind.i64.wrap (v1324 - (1 : Int)))
              next v1322 v1323 x1334
          | none => none
      | none => none
  else
    k1
noncomputable def impl_natCmp_L0.b {α : Type} (N n : Nat) (v1322 : List Int) (v1323 : List Int) (v1324 : Int) (k0 : Int → Option α) (k1 : Option α) : Option α :=
  Nat.rec (motive := fun _ => List Int → List Int → Int → Option α) (fun _ _ _ => none) (fun _ next => impl_natCmp_L0r N next k0 k1) n v1322 v1323 v1324
theorem impl_natCmp_L0.ex : ∃ f : ((α : Type) → Nat → Nat → List Int → List Int → Int → (Int → Option α) → (Option α) → Option α), f = fun α => @impl_natCmp_L0.b α := ⟨_, rfl⟩
noncomputable def impl_natCmp_L0 {α : Type} : Nat → Nat → List Int → List Int → Int → (Int → Option α) → (Option α) → Option α := Classical.choose impl_natCmp_L0.ex α
theorem impl_natCmp_L0.eq : @impl_natCmp_L0 = @impl_natCmp_L0.b := funext fun α => congrFun (Classical.choose_spec impl_natCmp_L0.ex) α
theorem impl_natCmp_L0.zero {α : Type} (N : Nat) (v1322 : List Int) (v1323 : List Int) (v1324 : Int) (k0 : Int → Option α) (k1 : Option α) : impl_natCmp_L0 N 0 v1322 v1323 v1324 k0 k1 = none := by rw [impl_natCmp_L0.eq]; rfl
theorem impl_natCmp_L0.succ {α : Type} (N n : Nat) (v1322 : List Int) (v1323 : List Int) (v1324 : Int) (k0 : Int → Option α) (k1 : Option α) : impl_natCmp_L0 N (n + 1) v1322 v1323 v1324 k0 k1 = impl_natCmp_L0r N (fun y0 y1 y2 => impl_natCmp_L0 N n y0 y1 y2 k0 k1) k0 k1 v1322 v1323 v1324 := by rw [impl_natCmp_L0.eq]; rfl
/-- loop.example/pinfold/impl.natCmp -/
noncomputable def impl_natCmp.b {α : Type} (N : Nat) (a1310 : List Int) (a1311 : List Int) (k0 : Int → Option α) : Option α :=
  let x1312 := ((a1310.length : Nat) : Int)
  let x1313 := ((a1311.length : Nat) : Int)
  let x1314 := !(decide (x1312 = x1313))
  bif x1314 then
    let x1315 := ((a1310.length : Nat) : Int)
    let x1316 := ((a1311.length : Nat) : Int)
    let x1317 := IntKind.i64.wrap (x1315 - x1316)
    let x1318 := (minI (1 : Int) x1317)
    let x1319 := (maxI (-1 : Int) x1318)
    k0 x1319
  else
    let x1320 := ((a1310.length : Nat) : Int)
    let x1321 := (IntKind.i64.wrap (x1320 - (1 : Int)))
    impl_natCmp_L0 N N a1310 a1311 x1321
      (fun x1335 =>
        k0 x1335)
      (
        k0 (0 : Int))
theorem impl_natCmp.ex : ∃ f : ((α : Type) → Nat → List Int → List Int → (Int → Option α) → Option α), f = fun α => @impl_natCmp.b α := ⟨_, rfl⟩
noncomputable def impl_natCmp {α : Type} : Nat → List Int → List Int → (Int → Option α) → Option α := Classical.choose impl_natCmp.ex α
theorem impl_natCmp.eq : @impl_natCmp = @impl_natCmp.b := funext fun α => congrFun (Classical.choose_spec impl_natCmp.ex) α

noncomputable def impl_natDiv_L0r {α : Type} (N : Nat) (next : List Int → List Int → Int → Int → List Int → Option α) (k0 : Int → List Int → Option α) (v1344 : List Int) (v1345 : List Int) (v1346 : Int) (v1347 : Int) (v1348 : List Int) : Option α :=
  let x1349 := (decide ((0 : Int) ≤ v1347))
  bif x1349 then
    let x1350 := (shlI .i64 v1346 (16 : Int))
    bif (decide (v1347 < (0 : Int))) then
      none
    else
      match v1344[v1347.toNat]? with
      | some x1351 =>
        let x1352 := bitI .or .i64 x1350 x1351
        match v1345[0]? with
        | some x1353 =>
          bif (decide (x1353 = (0 : Int))) then
            none
          else
            let x1354 := IntKind.i64.wrap (Int.tdiv x1352 x1353)
            match v1345[0]? with
            | some x1355 =>
              bif (decide (x1355 = (0 : Int))) then
                none
              else
                let x1356 := Int.tmod x1352 x1355
                bif (decide (v1347 < (0 : Int))) then
                  none
                else
                  bif decide (v1347.toNat < v1348.length) then
                    match v1348[v1347.toNat]? with
                    | some x1357 =>
                      let x1358 := v1348.set v1347.toNat x1354
                      let x1359 := (IntKind.i64.wrap (v1347 - (1 : Int)))
                      next v1344 v1345 x1356 x1359 x1358
                    | none => none
                  else
                    none
            | none => none
        | none => none
      | none => none
  else
    k0 v1346 v1348
noncomputable def impl_natDiv_L0.b {α : Type} (N n : Nat) (v1344 : List Int) (v1345 : List Int) (v1346 : Int) (v1347 : Int) (v1348 : List Int) (k0 : Int → List Int → Option α) : Option α :=
  Nat.rec (motive := fun _ => List Int → List Int → Int → Int → List Int → Option α) (fun _ _ _ _ _ => none) (fun _ next => impl_natDiv_L0r N next k0) n v1344 v1345 v1346 v1347 v1348
theorem impl_natDiv_L0.ex : ∃ f : ((α : Type) → Nat → Nat → List Int → List Int → Int → Int → List Int → (Int → List Int → Option α) → Option α), f = fun α => @impl_natDiv_L0.b α := ⟨_, rfl⟩
noncomputable def impl_natDiv_L0 {α : Type} : Nat → Nat → List Int → List Int → Int → Int → List Int → (Int → List Int → Option α) → Option α := Classical.choose impl_natDiv_L0.ex α
theorem impl_natDiv_L0.eq : @impl_natDiv_L0 = @impl_natDiv_L0.b := funext fun α => congrFun (Classical.choose_spec impl_natDiv_L0.ex) α
theorem impl_natDiv_L0.zero {α : Type} (N : Nat) (v1344 : List Int) (v1345 : List Int) (v1346 : Int) (v1347 : Int) (v1348 : List Int) (k0 : Int → List Int → Option α) : impl_natDiv_L0 N 0 v1344 v1345 v1346 v1347 v1348 k0 = none := by rw [impl_natDiv_L0.eq]; rfl
theorem impl_natDiv_L0.succ {α : Type} (N n : Nat) (v1344 : List Int) (v1345 : List Int) (v1346 : Int) (v1347 : Int) (v1348 : List Int) (k0 : Int → List Int → Option α) : impl_natDiv_L0 N (n + 1) v1344 v1345 v1346 v1347 v1348 k0 = impl_natDiv_L0r N (fun y0 y1 y2 y3 y4 => impl_natDiv_L0 N n y0 y1 y2 y3 y4 k0) k0 v1344 v1345 v1346 v1347 v1348 := by rw [impl_natDiv_L0.eq]; rfl
noncomputable def impl_natDiv_L2r {α : Type} (N : Nat) (next : List Int → Int → List Int → Int → List Int → Option α) (k0 : Int → List Int → Int → List Int → Option α) (v1377 : List Int) (v1378 : Int) (v1379 : List Int) (v1380 : Int) (v1381 : List Int) : Option α :=
  let x1382 := ((v1381.length : Nat) : Int)
  let x1383 := ((v1377.length : Nat) : Int)
  let x1384 := (IntKind.i64.wrap (x1383 + (1 : Int)))
  let x1385 := decide (x1382 < x1384)
  bif x1385 then
    let x1386 := [(0 : Int)]
    bif decide (v1381.length + x1386.length ≤ 8796093022208) then
      let x1387 := v1381 ++ x1386
      next v1377 v1378 v1379 v1380 x1387
    else
      none
  else
    k0 v1378 v1379 v1380 v1381
noncomputable def impl_natDiv_L2.b {α : Type} (N n : Nat) (v1377 : List Int) (v1378 : Int) (v1379 : List Int) (v1380 : Int) (v1381 : List Int) (k0 : Int → List Int → Int → List Int → Option α) : Option α :=
  Nat.rec (motive := fun _ => List Int → Int → List Int → Int → List Int → Option α) (fun _ _ _ _ _ => none) (fun _ next => impl_natDiv_L2r N next k0) n v1377 v1378 v1379 v1380 v1381
theorem impl_natDiv_L2.ex : ∃ f : ((α : Type) → Nat → Nat → List Int → Int → List Int → Int → List Int → (Int → List Int → Int → List Int → Option α) → Option α), f = fun α => @impl_natDiv_L2.b α := ⟨_, rfl⟩
noncomputable def impl_natDiv_L2 {α : Type} : Nat → Nat → List Int → Int → List Int → Int → List Int → (Int → List Int → Int → List Int → Option α) → Option α := Classical.choose impl_natDiv_L2.ex α
theorem impl_natDiv_L2.eq : @impl_natDiv_L2 = @impl_natDiv_L2.b := funext fun α => congrFun (Classical.choose_spec impl_natDiv_L2.ex) α
theorem impl_natDiv_L2.zero {α : Type} (N : Nat) (v1377 : List Int) (v1378 : Int) (v1379 : List Int) (v1380 : Int) (v1381 : List Int) (k0 : Int → List Int → Int → List Int → Option α) : impl_natDiv_L2 N 0 v1377 v1378 v1379 v1380 v1381 k0 = none := by rw [impl_natDiv_L2.eq]; rfl
theorem impl_natDiv_L2.succ {α : Type} (N n : Nat) (v1377 : List Int) (v1378 : Int) (v1379 : List Int) (v1380 : Int) (v1381 : List Int) (k0 : Int → List Int → Int → List Int → Option α) : impl_natDiv_L2 N (n + 1) v1377 v1378 v1379 v1380 v1381 k0 = impl_natDiv_L2r N (fun y0 y1 y2 y3 y4 => impl_natDiv_L2 N n y0 y1 y2 y3 y4 k0) k0 v1377 v1378 v1379 v1380 v1381 := by rw [impl_natDiv_L2.eq]; rfl
noncomputable def impl_natDiv_L6r {α : Type} (N : Nat) (next : Int → List Int → Int → Int → Int → Int → List Int → List Int → Option α) (k0 : Int → List Int → Int → Int → Int → List Int → List Int → Option α) (v1418 : Int) (v1419 : List Int) (v1420 : Int) (v1421 : Int) (v1422 : Int) (v1423 : Int) (v1424 : List Int) (v1425 : List Int) : Option α :=
  let x1426 := (decide ((65536 : Int) ≤ v1422))
  bif x1426 then
    let x1427 := (IntKind.i64.wrap (v1422 - (1 : Int)))
    let x1428 := (IntKind.i64.wrap (v1420 - (1 : Int)))
    bif (decide (x1428 < (0 : Int))) then
      none
    else
      match v1419[x1428.toNat]? with
      | some x1429 =>
        let x1430 := IntKind.i64.wrap (v1423 + x1429)
        let x1431 := (decide ((65536 : Int) ≤ x1430))
        bif x1431 then
          k0 v1418 v1419 v1420 v1421 x1427 v1424 v1425
        else
          next v1418 v1419 v1420 v1421 x1427 x1430 v1424 v1425
      | none => none
  else
    let x1432 := (IntKind.i64.wrap (v1420 - (2 : Int)))
    bif (decide (x1432 < (0 : Int))) then
      none
    else
      match v1419[x1432.toNat]? with
      | some x1433 =>
        let x1434 := IntKind.i64.wrap (v1422 * x1433)
        let x1435 := (shlI .i64 v1423 (16 : Int))
        let x1436 := IntKind.i64.wrap (v1421 + v1420)
        let x1437 := (IntKind.i64.wrap (x1436 - (2 : Int)))
        bif (decide (x1437 < (0 : Int))) then
          none
        else
          bif decide (x1437.toNat < v1424.length) then
            match v1424[x1437.toNat]? with
            | some x1438 =>
              let x1439 := bitI .or .i64 x1435 x1438
              let x1440 := decide (x1439 < x1434)
              bif x1440 then
                let x1441 := (IntKind.i64.wrap (v1422 - (1 : Int)))
                let x1442 := (IntKind.i64.wrap (v1420 - (1 : Int)))
                bif (decide (x1442 < (0 : Int))) then
                  none
                else
                  match v1419[x1442.toNat]? with
                  | some x1443 =>
                    let x1444 := IntKind.i64.wrap (v1423 + x1443)
                    let x1445 := (decide ((65536 : Int) ≤ x1444))
                    bif x1445 then
                      k0 v1418 v1419 v1420 v1421 x1441 v1424 v1425
                    else
                      next v1418 v1419 v1420 v1421 x1441 x1444 v1424 v1425
                  | none => none
              else
                k0 v1418 v1419 v1420 v1421 v1422 v1424 v1425
            | none => none
          else
            none
      | none => none
noncomputable def impl_natDiv_L6.b {α : Type} (N n : Nat) (v1418 : Int) (v1419 : List Int) (v1420 : Int) (v1421 : Int) (v1422 : Int) (v1423 : Int) (v1424 : List Int) (v1425 : List Int) (k0 : Int → List Int → Int → Int → Int → List Int → List Int → Option α) : Option α :=
  Nat.rec (motive := fun _ => Int → List Int → Int → Int → Int → Int → List Int → List Int → Option α) (fun _ _ _ _ _ _ _ _ => none) (fun _ next => impl_natDiv_L6r N next k0) n v1418 v1419 v1420 v1421 v1422 v1423 v1424 v1425
theorem impl_natDiv_L6.ex : ∃ f : ((α : Type) → Nat → Nat → Int → List Int → Int → Int → Int → Int → List Int → List Int → (Int → List Int → Int → Int → Int → List Int → List Int → Option α) → Option α), f = fun α => @impl_natDiv_L6.b α := ⟨_, rfl⟩
noncomputable def impl_natDiv_L6 {α : Type} : Nat → Nat → Int → List Int → Int → Int → Int → Int → List Int → List Int → (Int → List Int → Int → Int → Int → List Int → List Int → Option α) → Option α := Classical.choose impl_natDiv_L6.ex α
theorem impl_natDiv_L6.eq : @impl_natDiv_L6 = @impl_natDiv_L6.b := funext fun α => congrFun (Classical.choose_spec impl_natDiv_L6.ex) α
theorem impl_natDiv_L6.zero {α : Type} (N : Nat) (v1418 : Int) (v1419 : List Int) (v1420 : Int) (v1421 : Int) (v1422 : Int) (v1423 : Int) (v1424 : List Int) (v1425 : List Int) (k0 : Int → List Int → Int → Int → Int → List Int → List Int → Option α) : impl_natDiv_L6 N 0 v1418 v1419 v1420 v1421 v1422 v1423 v1424 v1425 k0 = none := by rw [impl_natDiv_L6.eq]; rfl
theorem impl_natDiv_L6.succ {α : Type} (N n : Nat) (v1418 : Int) (v1419 : List Int) (v1420 : Int) (v1421 : Int) (v1422 : Int) (v1423 : Int) (v1424 : List Int) (v1425 : List Int) (k0 : Int → List Int → Int → Int → Int → List Int → List Int → Option α) : impl_natDiv_L6 N (n + 1) v1418 v1419 v1420 v1421 v1422 v1423 v1424 v1425 k0 = impl_natDiv_L6r N (fun y0 y1 y2 y3 y4 y5 y6 y7 => impl_natDiv_L6 N n y0 y1 y2 y3 y4 y5 y6 y7 k0) k0 v1418 v1419 v1420 v1421 v1422 v1423 v1424 v1425 := by rw [impl_natDiv_L6.eq]; rfl
noncomputable def impl_natDiv_J34.b {α : Type} (N : Nat) (v1472 : Int) (v1473 : List Int) (v1474 : Int) (v1475 : Int) (v1476 : Int) (v1477 : Int) (v1478 : Int) (v1479 : Int) (v1480 : List Int) (v1481 : Int) (v1482 : Int) (v1483 : List Int) (v1484 : List Int) (k0 : Int → List Int → Int → Int → Int → Int → Int → Int → List Int → Int → Int → List Int → List Int → Option α) : Option α :=
  let x1485 := (decide (v1479 < (0 : Int)))
  bif x1485 then
    let x1486 := IntKind.i64.wrap (0 - v1479)
    let x1487 := (IntKind.i64.wrap (x1486 + (65536 : Int)))
    let x1488 := (IntKind.i64.wrap (x1487 - (1 : Int)))
    let x1489 := (IntKind.i64.wrap (Int.tdiv x1488 (65536 : Int)))
    let x1490 := (IntKind.i64.wrap (x1489 * (65536 : Int)))
    let x1491 := IntKind.i64.wrap (v1479 + x1490)
    k0 v1472 v1473 v1474 v1475 v1476 x1489 v1478 x1491 v1480 v1481 v1482 v1483 v1484
  else
    k0 v1472 v1473 v1474 v1475 v1476 v1477 v1478 v1479 v1480 v1481 v1482 v1483 v1484
theorem impl_natDiv_J34.ex : ∃ f : ((α : Type) → Nat → Int → List Int → Int → Int → Int → Int → Int → Int → List Int → Int → Int → List Int → List Int → (Int → List Int → Int → Int → Int → Int → Int → Int → List Int → Int → Int → List Int → List Int → Option α) → Option α), f = fun α => @impl_natDiv_J34.b α := ⟨_, rfl⟩
noncomputable def impl_natDiv_J34 {α : Type} : Nat → Int → List Int → Int → Int → Int → Int → Int → Int → List Int → Int → Int → List Int → List Int → (Int → List Int → Int → Int → Int → Int → Int → Int → List Int → Int → Int → List Int → List Int → Option α) → Option α := Classical.choose impl_natDiv_J34.ex α
theorem impl_natDiv_J34.eq : @impl_natDiv_J34 = @impl_natDiv_J34.b := funext fun α => congrFun (Classical.choose_spec impl_natDiv_J34.ex) α
noncomputable def impl_natDiv_L8r {α : Type} (N : Nat) (next : Int → List Int → Int → Int → Int → Int → List Int → Int → Int → List Int → List Int → Option α) (k0 : Int → List Int → Int → Int → Int → Int → List Int → List Int → Option α) (v1454 : Int) (v1455 : List Int) (v1456 : Int) (v1457 : Int) (v1458 : Int) (v1459 : Int) (v1460 : List Int) (v1461 : Int) (v1462 : Int) (v1463 : List Int) (v1464 : List Int) : Option α :=
  let x1465 := decide (v1462 < v1461)
  bif x1465 then
    bif (decide (v1462 < (0 : Int))) then
      none
    else
      match v1460[v1462.toNat]? with
      | some x1466 =>
        let x1467 := IntKind.i64.wrap (v1457 + v1462)
        bif (decide (x1467 < (0 : Int))) then
          none
        else
          bif decide (x1467.toNat < v1463.length) then
            match v1463[x1467.toNat]? with
            | some x1468 =>
              let x1469 := IntKind.i64.wrap (x1468 - v1459)
              let x1470 := IntKind.i64.wrap (v1458 * x1466)
              let x1471 := IntKind.i64.wrap (x1469 - x1470)
              impl_natDiv_J34 N v1454 v1455 v1456 v1457 v1458 (0 : Int) v1462 x1471 v1460 v1461 v1462 v1463 v1464
                (fun x1492 x1493 x1494 x1495 x1496 x1497 x1498 x1499 x1500 x1501 x1502 x1503 x1504 =>
                  let x1505 := IntKind.i64.wrap (x1495 + x1498)
                  bif (decide (x1505 < (0 : Int))) then
                    none
                  else
                    bif decide (x1505.toNat < x1503.length) then
                      match x1503[x1505.toNat]? with
                      | some x1506 =>
                        let x1507 := x1503.set x1505.toNat x1499
                        let x1508 := (IntKind.i64.wrap (x1502 + (1 : Int)))
                        next x1492 x1493 x1494 x1495 x1496 x1497 x1500 x1501 x1508 x1507 x1504
                      | none => none
                    else
                      none)
            | none => none
          else
            none
      | none => none
  else
    k0 v1454 v1455 v1456 v1457 v1458 v1459 v1463 v1464
noncomputable def impl_natDiv_L8.b {α : Type} (N n : Nat) (v1454 : Int) (v1455 : List Int) (v1456 : Int) (v1457 : Int) (v1458 : Int) (v1459 : Int) (v1460 : List Int) (v1461 : Int) (v1462 : Int) (v1463 : List Int) (v1464 : List Int) (k0 : Int → List Int → Int → Int → Int → Int → List Int → List Int → Option α) : Option α :=
  Nat.rec (motive := fun _ => Int → List Int → Int → Int → Int → Int → List Int → Int → Int → List Int → List Int → Option α) (fun _ _ _ _ _ _ _ _ _ _ _ => none) (fun _ next => impl_natDiv_L8r N next k0) n v1454 v1455 v1456 v1457 v1458 v1459 v1460 v1461 v1462 v1463 v1464
theorem impl_natDiv_L8.ex : ∃ f : ((α : Type) → Nat → Nat → Int → List Int → Int → Int → Int → Int → List Int → Int → Int → List Int → List Int → (Int → List Int → Int → Int → Int → Int → List Int → List Int → Option α) → Option α), f = fun α => @impl_natDiv_L8.b α := ⟨_, rfl⟩
noncomputable def impl_natDiv_L8 {α : Type} : Nat → Nat → Int → List Int → Int → Int → Int → Int → List Int → Int → Int → List Int → List Int → (Int → List Int → Int → Int → Int → Int → List Int → List Int → Option α) → Option α := Classical.choose impl_natDiv_L8.ex α
theorem impl_natDiv_L8.eq : @impl_natDiv_L8 = @impl_natDiv_L8.b := funext fun α => congrFun (Classical.choose_spec impl_natDiv_L8.ex) α
theorem impl_natDiv_L8.zero {α : Type} (N : Nat) (v1454 : Int) (v1455 : List Int) (v1456 : Int) (v1457 : Int) (v1458 : Int) (v1459 : Int) (v1460 : List Int) (v1461 : Int) (v1462 : Int) (v1463 : List Int) (v1464 : List Int) (k0 : Int → List Int → Int → Int → Int → Int → List Int → List Int → Option α) : impl_natDiv_L8 N 0 v1454 v1455 v1456 v1457 v1458 v1459 v1460 v1461 v1462 v1463 v1464 k0 = none := by rw [impl_natDiv_L8.eq]; rfl
theorem impl_natDiv_L8.succ {α : Type} (N n : Nat) (v1454 : Int) (v1455 : List Int) (v1456 : Int) (v1457 : Int) (v1458 : Int) (v1459 : Int) (v1460 : List Int) (v1461 : Int) (v1462 : Int) (v1463 : List Int) (v1464 : List Int) (k0 : Int → List Int → Int → Int → Int → Int → List Int → List Int → Option α) : impl_natDiv_L8 N (n + 1) v1454 v1455 v1456 v1457 v1458 v1459 v1460 v1461 v1462 v1463 v1464 k0 = impl_natDiv_L8r N (fun y0 y1 y2 y3 y4 y5 y6 y7 y8 y9 y10 => impl_natDiv_L8 N n y0 y1 y2 y3 y4 y5 y6 y7 y8 y9 y10 k0) k0 v1454 v1455 v1456 v1457 v1458 v1459 v1460 v1461 v1462 v1463 v1464 := by rw [impl_natDiv_L8.eq]; rfl
noncomputable def impl_natDiv_L10r {α : Type} (N : Nat) (next : Int → List Int → Int → Int → Int → Int → List Int → Int → Int → List Int → List Int → Option α) (k0 : Int → List Int → Int → Int → Int → Int → List Int → List Int → Option α) (v1534 : Int) (v1535 : List Int) (v1536 : Int) (v1537 : Int) (v1538 : Int) (v1539 : Int) (v1540 : List Int) (v1541 : Int) (v1542 : Int) (v1543 : List Int) (v1544 : List Int) : Option α :=
  let x1545 := decide (v1542 < v1541)
  bif x1545 then
    bif (decide (v1542 < (0 : Int))) then
      none
    else
      match v1540[v1542.toNat]? with
      | some x1546 =>
        let x1547 := IntKind.i64.wrap (v1537 + v1542)
        bif (decide (x1547 < (0 : Int))) then
          none
        else
          bif decide (x1547.toNat < v1543.length) then
            match v1543[x1547.toNat]? with
            | some x1548 =>
              let x1549 := IntKind.i64.wrap (x1548 + x1546)
              let x1550 := IntKind.i64.wrap (x1549 + v1539)
              let x1551 := IntKind.i64.wrap (v1537 + v1542)
              let x1552 := (bitI .and .i64 x1550 (65535 : Int))
              let x1553 := (shrI .i64 x1550 (16 : Int))
              bif (decide (x1551 < (0 : Int))) then
                none
              else
                bif decide (x1551.toNat < v1543.length) then
                  match v1543[x1551.toNat]? with
                  | some x1554 =>
                    let x1555 := v1543.set x1551.toNat x1552
                    let x1556 := (IntKind.i64.wrap (v1542 + (1 : Int)))
                    next v1534 v1535 v1536 v1537 v1538 x1553 v1540 v1541 x1556 x1555 v1544
                  | none => none
                else
                  none
            | none => none
          else
            none
      | none => none
  else
    k0 v1534 v1535 v1536 v1537 v1538 v1539 v1543 v1544
noncomputable def impl_natDiv_L10.b {α : Type} (N n : Nat) (v1534 : Int) (v1535 : List Int) (v1536 : Int) (v1537 : Int) (v1538 : Int) (v1539 : Int) (v1540 : List Int) (v1541 : Int) (v1542 : Int) (v1543 : List Int) (v1544 : List Int) (k0 : Int → List Int → Int → Int → Int → Int → List Int → List Int → Option α) : Option α :=
  Nat.rec (motive := fun _ => Int → List Int → Int → Int → Int → Int → List Int → Int → Int → List Int → List Int → Option α) (fun _ _ _ _ _ _ _ _ _ _ _ => none) (fun _ next => impl_natDiv_L10r N next k0) n v1534 v1535 v1536 v1537 v1538 v1539 v1540 v1541 v1542 v1543 v1544
theorem impl_natDiv_L10.ex : ∃ f : ((α : Type) → Nat → Nat → Int → List Int → Int → Int → Int → Int → List Int → Int → Int → List Int → List Int → (Int → List Int → Int → Int → Int → Int → List Int → List Int → Option α) → Option α), f = fun α => @impl_natDiv_L10.b α := ⟨_, rfl⟩
noncomputable def impl_natDiv_L10 {α : Type} : Nat → Nat → Int → List Int → Int → Int → Int → Int → List Int → Int → Int → List Int → List Int → (Int → List Int → Int → Int → Int → Int → List Int → List Int → Option α) → Option α := Classical.choose impl_natDiv_L10.ex α
theorem impl_natDiv_L10.eq : @impl_natDiv_L10 = @impl_natDiv_L10.b := funext fun α => congrFun (Classical.choose_spec impl_natDiv_L10.ex) α
theorem impl_natDiv_L10.zero {α : Type} (N : Nat) (v1534 : Int) (v1535 : List Int) (v1536 : Int) (v1537 : Int) (v1538 : Int) (v1539 : Int) (v1540 : List Int) (v1541 : Int) (v1542 : Int) (v1543 : List Int) (v1544 : List Int) (k0 : Int → List Int → Int → Int → Int → Int → List Int → List Int → Option α) : impl_natDiv_L10 N 0 v1534 v1535 v1536 v1537 v1538 v1539 v1540 v1541 v1542 v1543 v1544 k0 = none := by rw [impl_natDiv_L10.eq]; rfl
theorem impl_natDiv_L10.succ {α : Type} (N n : Nat) (v1534 : Int) (v1535 : List Int) (v1536 : Int) (v1537 : Int) (v1538 : Int) (v1539 : Int) (v1540 : List Int) (v1541 : Int) (v1542 : Int) (v1543 : List Int) (v1544 : List Int) (k0 : Int → List Int → Int → Int → Int → Int → List Int → List Int → Option α) : impl_natDiv_L10 N (n + 1) v1534 v1535 v1536 v1537 v1538 v1539 v1540 v1541 v1542 v1543 v1544 k0 = impl_natDiv_L10r N (fun y0 y1 y2 y3 y4 y5 y6 y7 y8 y9 y10 => impl_natDiv_L10 N n y0 y1 y2 y3 y4 y5 y6 y7 y8 y9 y10 k0) k0 v1534 v1535 v1536 v1537 v1538 v1539 v1540 v1541 v1542 v1543 v1544 := by rw [impl_natDiv_L10.eq]; rfl
noncomputable def impl_natDiv_J40.b {α : Type} (N : Nat) (v1522 : Int) (v1523 : List Int) (v1524 : Int) (v1525 : Int) (v1526 : Int) (v1527 : List Int) (v1528 : List Int) (k0 : Int → List Int → Int → Int → Int → List Int → List Int → Option α) : Option α :=
  let x1529 := IntKind.i64.wrap (v1525 + v1524)
  bif (decide (x1529 < (0 : Int))) then
    none
  else
    bif decide (x1529.toNat < v1527.length) then
      match v1527[x1529.toNat]? with
      | some x1530 =>
        let x1531 := (decide (x1530 < (0 : Int)))
        bif x1531 then
          let x1532 := (IntKind.i64.wrap (v1526 - (1 : Int)))
          let x1533 := ((v1523.length : Nat) : Int)
          impl_natDiv_L10 N N v1522 v1523 v1524 v1525 x1532 (0 : Int) v1523 x1533 (0 : Int) v1527 v1528
            (fun x1557 x1558 x1559 x1560 x1561 x1562 x1563 x1564 =>
              let x1565 := IntKind.i64.wrap (x1560 + x1559)
              bif (decide (x1565 < (0 : Int))) then
                none
              else
                bif decide (x1565.toNat < x1563.length) then
                  match x1563[x1565.toNat]? with
                  | some x1566 =>
                    let x1567 := IntKind.i64.wrap (x1566 + x1562)
                    bif (decide (x1565 < (0 : Int))) then
                      none
                    else
                      bif decide (x1565.toNat < x1563.length) then
                        match x1563[x1565.toNat]? with
                        | some x1568 =>
                          let x1569 := x1563.set x1565.toNat x1567
                          k0 x1557 x1558 x1559 x1560 x1561 x1569 x1564
                        | none => none
                      else
                        none
                  | none => none
                else
                  none)
        else
          k0 v1522 v1523 v1524 v1525 v1526 v1527 v1528
      | none => none
    else
      none
theorem impl_natDiv_J40.ex : ∃ f : ((α : Type) → Nat → Int → List Int → Int → Int → Int → List Int → List Int → (Int → List Int → Int → Int → Int → List Int → List Int → Option α) → Option α), f = fun α => @impl_natDiv_J40.b α := ⟨_, rfl⟩
noncomputable def impl_natDiv_J40 {α : Type} : Nat → Int → List Int → Int → Int → Int → List Int → List Int → (Int → List Int → Int → Int → Int → List Int → List Int → Option α) → Option α := Classical.choose impl_natDiv_J40.ex α
theorem impl_natDiv_J40.eq : @impl_natDiv_J40 = @impl_natDiv_J40.b := funext fun α => congrFun (Classical.choose_spec impl_natDiv_J40.ex) α
noncomputable def impl_natDiv_L4r {α : Type} (N : Nat) (next : Int → List Int → Int → Int → List Int → List Int → Option α) (k0 : Int → List Int → List Int → Option α) (v1398 : Int) (v1399 : List Int) (v1400 : Int) (v1401 : Int) (v1402 : List Int) (v1403 : List Int) : Option α :=
  let x1404 := (decide ((0 : Int) ≤ v1401))
  bif x1404 then
    let x1405 := IntKind.i64.wrap (v1401 + v1400)
    bif (decide (x1405 < (0 : Int))) then
      none
    else
      bif decide (x1405.toNat < v1402.length) then
        match v1402[x1405.toNat]? with
        | some x1406 =>
          let x1407 := (shlI .i64 x1406 (16 : Int))
          let x1408 := IntKind.i64.wrap (v1401 + v1400)
          let x1409 := (IntKind.i64.wrap (x1408 - (1 : Int)))
          bif (decide (x1409 < (0 : Int))) then
            none
          else
            bif decide (x1409.toNat < v1402.length) then
              match v1402[x1409.toNat]? with
              | some x1410 =>
                let x1411 := bitI .or .i64 x1407 x1410
                let x1412 := (IntKind.i64.wrap (v1400 - (1 : Int)))
                bif (decide (x1412 < (0 : Int))) then
                  none
                else
                  match v1399[x1412.toNat]? with
                  | some x1413 =>
                    bif (decide (x1413 = (0 : Int))) then
                      none
                    else
                      let x1414 := IntKind.i64.wrap (Int.tdiv x1411 x1413)
                      let x1415 := (IntKind.i64.wrap (v1400 - (1 : Int)))
                      bif (decide (x1415 < (0 : Int))) then
                        none
                      else
                        match v1399[x1415.toNat]? with
                        | some x1416 =>
                          bif (decide (x1416 = (0 : Int))) then
                            none
                          else
                            let x1417 := Int.tmod x1411 x1416
                            impl_natDiv_L6 N N v1398 v1399 v1400 v1401 x1414 x1417 v1402 v1403
                              (fun x1446 x1447 x1448 x1449 x1450 x1451 x1452 =>
                                let x1453 := ((x1447.length : Nat) : Int)
                                impl_natDiv_L8 N N x1446 x1447 x1448 x1449 x1450 (0 : Int) x1447 x1453 (0 : Int) x1451 x1452
                                  (fun x1509 x1510 x1511 x1512 x1513 x1514 x1515 x1516 =>
                                    let x1517 := IntKind.i64.wrap (x1512 + x1511)
                                    bif (decide (x1517 < (0 : Int))) then
                                      none
                                    else
                                      bif decide (x1517.toNat < x1515.length) then
                                        match x1515[x1517.toNat]? with
                                        | some x1518 =>
                                          let x1519 := IntKind.i64.wrap (x1518 - x1514)
                                          bif (decide (x1517 < (0 : Int))) then
                                            none
                                          else
                                            bif decide (x1517.toNat < x1515.length) then
                                              match x1515[x1517.toNat]? with
                                              | some x1520 =>
                                                let x1521 := x1515.set x1517.toNat x1519
                                                impl_natDiv_J40 N x1509 x1510 x1511 x1512 x1513 x1521 x1516
                                                  (fun x1570 x1571 x1572 x1573 x1574 x1575 x1576 =>
                                                    bif (decide (x1573 < (0 : Int))) then
                                                      none
                                                    else
                                                      bif decide (x1573.toNat < x1576.length) then
                                                        match x1576[x1573.toNat]? with
                                                        | some x1577 =>
                                                          let x1578 := x1576.set x1573.toNat x1574
                                                          let x1579 := (IntKind.i64.wrap (x1573 - (1 : Int)))
                                                          next x1570 x1571 x1572 x1579 x1575 x1578
                                                        | none => none
                                                      else
                                                        none)
                                              | none => none
                                            else
                                              none
                                        | none => none
                                      else
                                        none))
                        | none => none
                  | none => none
              | none => none
            else
              none
        | none => none
      else
        none
  else
    k0 v1398 v1402 v1403
noncomputable def impl_natDiv_L4.b {α : Type} (N n : Nat) (v1398 : Int) (v1399 : List Int) (v1400 : Int) (v1401 : Int) (v1402 : List Int) (v1403 : List Int) (k0 : Int → List Int → List Int → Option α) : Option α :=
  Nat.rec (motive := fun _ => Int → List Int → Int → Int → List Int → List Int → Option α) (fun _ _ _ _ _ _ => none) (fun _ next => impl_natDiv_L4r N next k0) n v1398 v1399 v1400 v1401 v1402 v1403
theorem impl_natDiv_L4.ex : ∃ f : ((α : Type) → Nat → Nat → Int → List Int → Int → Int → List Int → List Int → (Int → List Int → List Int → Option α) → Option α), f = fun α => @impl_natDiv_L4.b α := ⟨_, rfl⟩
noncomputable def impl_natDiv_L4 {α : Type} : Nat → Nat → Int → List Int → Int → Int → List Int → List Int → (Int → List Int → List Int → Option α) → Option α := Classical.choose impl_natDiv_L4.ex α
theorem impl_natDiv_L4.eq : @impl_natDiv_L4 = @impl_natDiv_L4.b := funext fun α => congrFun (Classical.choose_spec impl_natDiv_L4.ex) α
theorem impl_natDiv_L4.zero {α : Type} (N : Nat) (v1398 : Int) (v1399 : List Int) (v1400 : Int) (v1401 : Int) (v1402 : List Int) (v1403 : List Int) (k0 : Int → List Int → List Int → Option α) : impl_natDiv_L4 N 0 v1398 v1399 v1400 v1401 v1402 v1403 k0 = none := by rw [impl_natDiv_L4.eq]; rfl
theorem impl_natDiv_L4.succ {α : Type} (N n : Nat) (v1398 : Int) (v1399 : List Int) (v1400 : Int) (v1401 : Int) (v1402 : List Int) (v1403 : List Int) (k0 : Int → List Int → List Int → Option α) : impl_natDiv_L4 N (n + 1) v1398 v1399 v1400 v1401 v1402 v1403 k0 = impl_natDiv_L4r N (fun y0 y1 y2 y3 y4 y5 => impl_natDiv_L4 N n y0 y1 y2 y3 y4 y5 k0) k0 v1398 v1399 v1400 v1401 v1402 v1403 := by rw [impl_natDiv_L4.eq]; rfl
/-- loop.example/pinfold/impl.natDiv -/
noncomputable def impl_natDiv.b {α : Type} (N : Nat) (a1308 : List Int) (a1309 : List Int) (k0 : List Int → List Int → Option α) : Option α :=
  impl_natCmp N a1308 a1309
    (fun x1336 =>
      let x1337 := (decide (x1336 < (0 : Int)))
      bif x1337 then
        k0 [] a1308
      else
        let x1338 := ((a1309.length : Nat) : Int)
        let x1339 := (decide (x1338 = (1 : Int)))
        bif x1339 then
          let x1340 := ((a1308.length : Nat) : Int)
          bif (decide ((0 : Int) ≤ x1340)) then
            bif decide (x1340 ≤ x1340) then
              bif (decide (x1340 ≤ ((8796093022208 : Nat) : Int))) then
                let x1341 := (List.replicate x1340.toNat (0 : Int))
                let x1342 := ((a1308.length : Nat) : Int)
                let x1343 := (IntKind.i64.wrap (x1342 - (1 : Int)))
                impl_natDiv_L0 N N a1308 a1309 (0 : Int) x1343 x1341
                  (fun x1360 x1361 =>
                    impl_trim N x1361
                      (fun x1362 =>
                        let x1363 := [x1360]
                        impl_trim N x1363
                          (fun x1364 =>
                            k0 x1362 x1364)))
              else
                none
            else
              none
          else
            none
        else
          let x1365 := ((a1309.length : Nat) : Int)
          let x1366 := (IntKind.i64.wrap (x1365 - (1 : Int)))
          bif (decide (x1366 < (0 : Int))) then
            none
          else
            match a1309[x1366.toNat]? with
            | some x1367 =>
              let x1368 := IntKind.u64.wrap x1367
              math_bits_Len N x1368
                (fun x1369 =>
                  let x1370 := (IntKind.i64.wrap ((16 : Int) - x1369))
                  impl_natShift N a1309 x1370
                    (fun x1371 =>
                      impl_natShift N a1308 x1370
                        (fun x1372 =>
                          slices_Clone_int_int N x1372
                            (fun x1373 =>
                              let x1374 := [(0 : Int)]
                              bif decide (x1373.length + x1374.length ≤ 8796093022208) then
                                let x1375 := x1373 ++ x1374
                                let x1376 := ((x1371.length : Nat) : Int)
                                impl_natDiv_L2 N N a1308 x1370 x1371 x1376 x1375
                                  (fun x1388 x1389 x1390 x1391 =>
                                    let x1392 := ((x1391.length : Nat) : Int)
                                    let x1393 := IntKind.i64.wrap (x1392 - x1390)
                                    bif (decide ((0 : Int) ≤ x1393)) then
                                      bif decide (x1393 ≤ x1393) then
                                        bif (decide (x1393 ≤ ((8796093022208 : Nat) : Int))) then
                                          let x1394 := (List.replicate x1393.toNat (0 : Int))
                                          let x1395 := ((x1391.length : Nat) : Int)
                                          let x1396 := IntKind.i64.wrap (x1395 - x1390)
                                          let x1397 := (IntKind.i64.wrap (x1396 - (1 : Int)))
                                          impl_natDiv_L4 N N x1388 x1389 x1390 x1397 x1391 x1394
                                            (fun x1580 x1581 x1582 =>
                                              impl_trim N x1582
                                                (fun x1583 =>
                                                  impl_trim N x1581
                                                    (fun x1584 =>
                                                      let x1585 := IntKind.i64.wrap (0 - x1580)
                                                      impl_natShift N x1584 x1585
                                                        (fun x1586 =>
                                                          k0 x1583 x1586))))
                                        else
                                          none
                                      else
                                        none
                                    else
                                      none)
                              else
                                none))))
            | none => none)
theorem impl_natDiv.ex : ∃ f : ((α : Type) → Nat → List Int → List Int → (List Int → List Int → Option α) → Option α), f = fun α => @impl_natDiv.b α := ⟨_, rfl⟩
noncomputable def impl_natDiv {α : Type} : Nat → List Int → List Int → (List Int → List Int → Option α) → Option α := Classical.choose impl_natDiv.ex α
theorem impl_natDiv.eq : @impl_natDiv = @impl_natDiv.b := funext fun α => congrFun (Classical.choose_spec impl_natDiv.ex) α

noncomputable def impl_natAdd_L0r {α : Type} (N : Nat) (next : List Int → Int → Int → List Int → Option α) (k0 : List Int → Option α) (v1599 : List Int) (v1600 : Int) (v1601 : Int) (v1602 : List Int) : Option α :=
  let x1603 := decide (v1601 < v1600)
  bif x1603 then
    bif (decide (v1601 < (0 : Int))) then
      none
    else
      match v1599[v1601.toNat]? with
      | some x1604 =>
        bif (decide (v1601 < (0 : Int))) then
          none
        else
          bif decide (v1601.toNat < v1602.length) then
            match v1602[v1601.toNat]? with
            | some x1605 =>
              let x1606 := IntKind.i64.wrap (x1605 + x1604)
              bif (decide (v1601 < (0 : Int))) then
                none
              else
                bif decide (v1601.toNat < v1602.length) then
                  match v1602[v1601.toNat]? with
                  | some x1607 =>
                    let x1608 := v1602.set v1601.toNat x1606
                    let x1609 := (IntKind.i64.wrap (v1601 + (1 : Int)))
                    next v1599 v1600 x1609 x1608
                  | none => none
                else
                  none
            | none => none
          else
            none
      | none => none
  else
    k0 v1602
noncomputable def impl_natAdd_L0.b {α : Type} (N n : Nat) (v1599 : List Int) (v1600 : Int) (v1601 : Int) (v1602 : List Int) (k0 : List Int → Option α) : Option α :=
  Nat.rec (motive := fun _ => List Int → Int → Int → List Int → Option α) (fun _ _ _ _ => none) (fun _ next => impl_natAdd_L0r N next k0) n v1599 v1600 v1601 v1602
theorem impl_natAdd_L0.ex : ∃ f : ((α : Type) → Nat → Nat → List Int → Int → Int → List Int → (List Int → Option α) → Option α), f = fun α => @impl_natAdd_L0.b α := ⟨_, rfl⟩
noncomputable def impl_natAdd_L0 {α : Type} : Nat → Nat → List Int → Int → Int → List Int → (List Int → Option α) → Option α := Classical.choose impl_natAdd_L0.ex α
theorem impl_natAdd_L0.eq : @impl_natAdd_L0 = @impl_natAdd_L0.b := funext fun α => congrFun (Classical.choose_spec impl_natAdd_L0.ex) α
theorem impl_natAdd_L0.zero {α : Type} (N : Nat) (v1599 : List Int) (v1600 : Int) (v1601 : Int) (v1602 : List Int) (k0 : List Int → Option α) : impl_natAdd_L0 N 0 v1599 v1600 v1601 v1602 k0 = none := by rw [impl_natAdd_L0.eq]; rfl
theorem impl_natAdd_L0.succ {α : Type} (N n : Nat) (v1599 : List Int) (v1600 : Int) (v1601 : Int) (v1602 : List Int) (k0 : List Int → Option α) : impl_natAdd_L0 N (n + 1) v1599 v1600 v1601 v1602 k0 = impl_natAdd_L0r N (fun y0 y1 y2 y3 => impl_natAdd_L0 N n y0 y1 y2 y3 k0) k0 v1599 v1600 v1601 v1602 := by rw [impl_natAdd_L0.eq]; rfl
noncomputable def impl_natAdd_L2r {α : Type} (N : Nat) (next : Int → Int → List Int → Option α) (k0 : List Int → Option α) (v1613 : Int) (v1614 : Int) (v1615 : List Int) : Option α :=
  let x1616 := decide (v1614 < v1613)
  bif x1616 then
    let x1617 := (IntKind.i64.wrap (v1614 + (1 : Int)))
    bif (decide (x1617 < (0 : Int))) then
      none
    else
      bif decide (x1617.toNat < v1615.length) then
        match v1615[x1617.toNat]? with
        | some x1618 =>
          bif (decide (v1614 < (0 : Int))) then
            none
          else
            bif decide (v1614.toNat < v1615.length) then
              match v1615[v1614.toNat]? with
              | some x1619 =>
                let x1620 := (shrI .i64 x1619 (16 : Int))
                let x1621 := IntKind.i64.wrap (x1618 + x1620)
                bif (decide (x1617 < (0 : Int))) then
                  none
                else
                  bif decide (x1617.toNat < v1615.length) then
                    match v1615[x1617.toNat]? with
                    | some x1622 =>
                      let x1623 := v1615.set x1617.toNat x1621
                      bif (decide (v1614 < (0 : Int))) then
                        none
                      else
                        bif decide (v1614.toNat < x1623.length) then
                          match x1623[v1614.toNat]? with
                          | some x1624 =>
                            let x1625 := (bitI .and .i64 x1624 (65535 : Int))
                            bif (decide (v1614 < (0 : Int))) then
                              none
                            else
                              bif decide (v1614.toNat < x1623.length) then
                                match x1623[v1614.toNat]? with
                                | some x1626 =>
                                  let x1627 := x1623.set v1614.toNat x1625
                                  let x1628 := (IntKind.i64.wrap (v1614 + (1 : Int)))
                                  next v1613 x1628 x1627
                                | none => none
                              else
                                none
                          | none => none
                        else
                          none
                    | none => none
                  else
                    none
              | none => none
            else
              none
        | none => none
      else
        none
  else
    k0 v1615
noncomputable def impl_natAdd_L2.b {α : Type} (N n : Nat) (v1613 : Int) (v1614 : Int) (v1615 : List Int) (k0 : List Int → Option α) : Option α :=
  Nat.rec (motive := fun _ => Int → Int → List Int → Option α) (fun _ _ _ => none) (fun _ next => impl_natAdd_L2r N next k0) n v1613 v1614 v1615
theorem impl_natAdd_L2.ex : ∃ f : ((α : Type) → Nat → Nat → Int → Int → List Int → (List Int → Option α) → Option α), f = fun α => @impl_natAdd_L2.b α := ⟨_, rfl⟩
noncomputable def impl_natAdd_L2 {α : Type} : Nat → Nat → Int → Int → List Int → (List Int → Option α) → Option α := Classical.choose impl_natAdd_L2.ex α
theorem impl_natAdd_L2.eq : @impl_natAdd_L2 = @impl_natAdd_L2.b := funext fun α => congrFun (Classical.choose_spec impl_natAdd_L2.ex) α
theorem impl_natAdd_L2.zero {α : Type} (N : Nat) (v1613 : Int) (v1614 : Int) (v1615 : List Int) (k0 : List Int → Option α) : impl_natAdd_L2 N 0 v1613 v1614 v1615 k0 = none := by rw [impl_natAdd_L2.eq]; rfl
theorem impl_natAdd_L2.succ {α : Type} (N n : Nat) (v1613 : Int) (v1614 : Int) (v1615 : List Int) (k0 : List Int → Option α) : impl_natAdd_L2 N (n + 1) v1613 v1614 v1615 k0 = impl_natAdd_L2r N (fun y0 y1 y2 => impl_natAdd_L2 N n y0 y1 y2 k0) k0 v1613 v1614 v1615 := by rw [impl_natAdd_L2.eq]; rfl
/-- loop.example/pinfold/impl.natAdd -/
noncomputable def impl_natAdd.b {α : Type} (N : Nat) (a1589 : List Int) (a1590 : List Int) (k0 : List Int → Option α) : Option α :=
  let x1591 := ((a1589.length : Nat) : Int)
  let x1592 := ((a1590.length : Nat) : Int)
  let x1593 := maxI x1591 x1592
  let x1594 := (IntKind.i64.wrap (x1593 + (1 : Int)))
  bif (decide ((0 : Int) ≤ x1594)) then
    bif decide (x1594 ≤ x1594) then
      bif (decide (x1594 ≤ ((8796093022208 : Nat) : Int))) then
        let x1595 := (List.replicate x1594.toNat (0 : Int))
        let x1596 := List.take (min a1589.length x1595.length) a1589 ++ List.drop (min a1589.length x1595.length) x1595
        let x1598 := ((a1590.length : Nat) : Int)
        impl_natAdd_L0 N N a1590 x1598 (0 : Int) x1596
          (fun x1610 =>
            let x1611 := ((x1610.length : Nat) : Int)
            let x1612 := (IntKind.i64.wrap (x1611 - (1 : Int)))
            impl_natAdd_L2 N N x1612 (0 : Int) x1610
              (fun x1629 =>
                impl_trim N x1629
                  (fun x1630 =>
                    k0 x1630)))
      else
        none
    else
      none
  else
    none
theorem impl_natAdd.ex : ∃ f : ((α : Type) → Nat → List Int → List Int → (List Int → Option α) → Option α), f = fun α => @impl_natAdd.b α := ⟨_, rfl⟩
noncomputable def impl_natAdd {α : Type} : Nat → List Int → List Int → (List Int → Option α) → Option α := Classical.choose impl_natAdd.ex α
theorem impl_natAdd.eq : @impl_natAdd = @impl_natAdd.b := funext fun α => congrFun (Classical.choose_spec impl_natAdd.ex) α

noncomputable def impl_natMul_L2r {α : Type} (N : Nat) (next : List Int → Int → Int → Int → List Int → Int → Int → List Int → Int → Int → List Int → Option α) (k0 : List Int → Int → Int → List Int → Int → Int → List Int → Option α) (v1651 : List Int) (v1652 : Int) (v1653 : Int) (v1654 : Int) (v1655 : List Int) (v1656 : Int) (v1657 : Int) (v1658 : List Int) (v1659 : Int) (v1660 : Int) (v1661 : List Int) : Option α :=
  let x1662 := decide (v1660 < v1659)
  bif x1662 then
    bif (decide (v1660 < (0 : Int))) then
      none
    else
      match v1658[v1660.toNat]? with
      | some x1663 =>
        let x1664 := IntKind.i64.wrap (v1652 + v1660)
        bif (decide (x1664 < (0 : Int))) then
          none
        else
          bif decide (x1664.toNat < v1661.length) then
            match v1661[x1664.toNat]? with
            | some x1665 =>
              let x1666 := IntKind.i64.wrap (v1653 * x1663)
              let x1667 := IntKind.i64.wrap (x1665 + x1666)
              let x1668 := IntKind.i64.wrap (x1667 + v1654)
              let x1669 := IntKind.i64.wrap (v1652 + v1660)
              let x1670 := (bitI .and .i64 x1668 (65535 : Int))
              bif (decide (x1669 < (0 : Int))) then
                none
              else
                bif decide (x1669.toNat < v1661.length) then
                  match v1661[x1669.toNat]? with
                  | some x1671 =>
                    let x1672 := v1661.set x1669.toNat x1670
                    let x1673 := (shrI .i64 x1668 (16 : Int))
                    let x1674 := (IntKind.i64.wrap (v1660 + (1 : Int)))
                    next v1651 v1652 v1653 x1673 v1655 v1656 v1657 v1658 v1659 x1674 x1672
                  | none => none
                else
                  none
            | none => none
          else
            none
      | none => none
  else
    k0 v1651 v1652 v1654 v1655 v1656 v1657 v1661
noncomputable def impl_natMul_L2.b {α : Type} (N n : Nat) (v1651 : List Int) (v1652 : Int) (v1653 : Int) (v1654 : Int) (v1655 : List Int) (v1656 : Int) (v1657 : Int) (v1658 : List Int) (v1659 : Int) (v1660 : Int) (v1661 : List Int) (k0 : List Int → Int → Int → List Int → Int → Int → List Int → Option α) : Option α :=
  Nat.rec (motive := fun _ => List Int → Int → Int → Int → List Int → Int → Int → List Int → Int → Int → List Int → Option α) (fun _ _ _ _ _ _ _ _ _ _ _ => none) (fun _ next => impl_natMul_L2r N next k0) n v1651 v1652 v1653 v1654 v1655 v1656 v1657 v1658 v1659 v1660 v1661
theorem impl_natMul_L2.ex : ∃ f : ((α : Type) → Nat → Nat → List Int → Int → Int → Int → List Int → Int → Int → List Int → Int → Int → List Int → (List Int → Int → Int → List Int → Int → Int → List Int → Option α) → Option α), f = fun α => @impl_natMul_L2.b α := ⟨_, rfl⟩
noncomputable def impl_natMul_L2 {α : Type} : Nat → Nat → List Int → Int → Int → Int → List Int → Int → Int → List Int → Int → Int → List Int → (List Int → Int → Int → List Int → Int → Int → List Int → Option α) → Option α := Classical.choose impl_natMul_L2.ex α
theorem impl_natMul_L2.eq : @impl_natMul_L2 = @impl_natMul_L2.b := funext fun α => congrFun (Classical.choose_spec impl_natMul_L2.ex) α
theorem impl_natMul_L2.zero {α : Type} (N : Nat) (v1651 : List Int) (v1652 : Int) (v1653 : Int) (v1654 : Int) (v1655 : List Int) (v1656 : Int) (v1657 : Int) (v1658 : List Int) (v1659 : Int) (v1660 : Int) (v1661 : List Int) (k0 : List Int → Int → Int → List Int → Int → Int → List Int → Option α) : impl_natMul_L2 N 0 v1651 v1652 v1653 v1654 v1655 v1656 v1657 v1658 v1659 v1660 v1661 k0 = none := by rw [impl_natMul_L2.eq]; rfl
theorem impl_natMul_L2.succ {α : Type} (N n : Nat) (v1651 : List Int) (v1652 : Int) (v1653 : Int) (v1654 : Int) (v1655 : List Int) (v1656 : Int) (v1657 : Int) (v1658 : List Int) (v1659 : Int) (v1660 : Int) (v1661 : List Int) (k0 : List Int → Int → Int → List Int → Int → Int → List Int → Option α) : impl_natMul_L2 N (n + 1) v1651 v1652 v1653 v1654 v1655 v1656 v1657 v1658 v1659 v1660 v1661 k0 = impl_natMul_L2r N (fun y0 y1 y2 y3 y4 y5 y6 y7 y8 y9 y10 => impl_natMul_L2 N n y0 y1 y2 y3 y4 y5 y6 y7 y8 y9 y10 k0) k0 v1651 v1652 v1653 v1654 v1655 v1656 v1657 v1658 v1659 v1660 v1661 := by rw [impl_natMul_L2.eq]; rfl
noncomputable def impl_natMul_L0r {α : Type} (N : Nat) (next : List Int → List Int → Int → Int → List Int → Option α) (k0 : List Int → Option α) (v1643 : List Int) (v1644 : List Int) (v1645 : Int) (v1646 : Int) (v1647 : List Int) : Option α :=
  let x1648 := decide (v1646 < v1645)
  bif x1648 then
    bif (decide (v1646 < (0 : Int))) then
      none
    else
      match v1644[v1646.toNat]? with
      | some x1649 =>
        let x1650 := ((v1643.length : Nat) : Int)
        impl_natMul_L2 N N v1643 v1646 x1649 (0 : Int) v1644 v1645 v1646 v1643 x1650 (0 : Int) v1647
          (fun x1675 x1676 x1677 x1678 x1679 x1680 x1681 =>
            let x1682 := ((x1675.length : Nat) : Int)
            let x1683 := IntKind.i64.wrap (x1676 + x1682)
            bif (decide (x1683 < (0 : Int))) then
              none
            else
              bif decide (x1683.toNat < x1681.length) then
                match x1681[x1683.toNat]? with
                | some x1684 =>
                  let x1685 := IntKind.i64.wrap (x1684 + x1677)
                  bif (decide (x1683 < (0 : Int))) then
                    none
                  else
                    bif decide (x1683.toNat < x1681.length) then
                      match x1681[x1683.toNat]? with
                      | some x1686 =>
                        let x1687 := x1681.set x1683.toNat x1685
                        let x1688 := (IntKind.i64.wrap (x1680 + (1 : Int)))
                        next x1675 x1678 x1679 x1688 x1687
                      | none => none
                    else
                      none
                | none => none
              else
                none)
      | none => none
  else
    k0 v1647
noncomputable def impl_natMul_L0.b {α : Type} (N n : Nat) (v1643 : List Int) (v1644 : List Int) (v1645 : Int) (v1646 : Int) (v1647 : List Int) (k0 : List Int → Option α) : Option α :=
  Nat.rec (motive := fun _ => List Int → List Int → Int → Int → List Int → Option α) (fun _ _ _ _ _ => none) (fun _ next => impl_natMul_L0r N next k0) n v1643 v1644 v1645 v1646 v1647
theorem impl_natMul_L0.ex : ∃ f : ((α : Type) → Nat → Nat → List Int → List Int → Int → Int → List Int → (List Int → Option α) → Option α), f = fun α => @impl_natMul_L0.b α := ⟨_, rfl⟩
noncomputable def impl_natMul_L0 {α : Type} : Nat → Nat → List Int → List Int → Int → Int → List Int → (List Int → Option α) → Option α := Classical.choose impl_natMul_L0.ex α
theorem impl_natMul_L0.eq : @impl_natMul_L0 = @impl_natMul_L0.b := funext fun α => congrFun (Classical.choose_spec impl_natMul_L0.ex) α
theorem impl_natMul_L0.zero {α : Type} (N : Nat) (v1643 : List Int) (v1644 : List Int) (v1645 : Int) (v1646 : Int) (v1647 : List Int) (k0 : List Int → Option α) : impl_natMul_L0 N 0 v1643 v1644 v1645 v1646 v1647 k0 = none := by rw [impl_natMul_L0.eq]; rfl
theorem impl_natMul_L0.succ {α : Type} (N n : Nat) (v1643 : List Int) (v1644 : List Int) (v1645 : Int) (v1646 : Int) (v1647 : List Int) (k0 : List Int → Option α) : impl_natMul_L0 N (n + 1) v1643 v1644 v1645 v1646 v1647 k0 = impl_natMul_L0r N (fun y0 y1 y2 y3 y4 => impl_natMul_L0 N n y0 y1 y2 y3 y4 k0) k0 v1643 v1644 v1645 v1646 v1647 := by rw [impl_natMul_L0.eq]; rfl
/-- loop.example/pinfold/impl.natMul -/
noncomputable def impl_natMul.b {α : Type} (N : Nat) (a1635 : List Int) (a1636 : List Int) (k0 : List Int → Option α) : Option α :=
  let x1637 := ((a1635.length : Nat) : Int)
  let x1638 := ((a1636.length : Nat) : Int)
  let x1639 := IntKind.i64.wrap (x1637 + x1638)
  let x1640 := (IntKind.i64.wrap (x1639 + (1 : Int)))
  bif (decide ((0 : Int) ≤ x1640)) then
    bif decide (x1640 ≤ x1640) then
      bif (decide (x1640 ≤ ((8796093022208 : Nat) : Int))) then
        let x1641 := (List.replicate x1640.toNat (0 : Int))
        let x1642 := ((a1635.length : Nat) : Int)
        impl_natMul_L0 N N a1636 a1635 x1642 (0 : Int) x1641
          (fun x1689 =>
            impl_trim N x1689
              (fun x1690 =>
                k0 x1690))
      else
        none
    else
      none
  else
    none
theorem impl_natMul.ex : ∃ f : ((α : Type) → Nat → List Int → List Int → (List Int → Option α) → Option α), f = fun α => @impl_natMul.b α := ⟨_, rfl⟩
noncomputable def impl_natMul {α : Type} : Nat → List Int → List Int → (List Int → Option α) → Option α := Classical.choose impl_natMul.ex α
theorem impl_natMul.eq : @impl_natMul = @impl_natMul.b := funext fun α => congrFun (Classical.choose_spec impl_natMul.ex) α

noncomputable def impl_natRoot_L0r {α : Type} (N : Nat) (next : List Int → List Int → Option α) (k0 : List Int → Bool → Option α) (v1249 : List Int) (v1250 : List Int) : Option α :=
  impl_natDiv N v1249 v1250
    (fun x1587 _ =>
      impl_natAdd N v1250 x1587
        (fun x1631 =>
          impl_natShift N x1631 (-1 : Int)
            (fun x1632 =>
              impl_natCmp N x1632 v1250
                (fun x1633 =>
                  let x1634 := (decide ((0 : Int) ≤ x1633))
                  bif x1634 then
                    impl_natMul N v1250 v1250
                      (fun x1691 =>
                        impl_natCmp N x1691 v1249
                          (fun x1692 =>
                            let x1693 := (decide (x1692 = (0 : Int)))
                            k0 v1250 x1693))
                  else
                    next v1249 x1632))))
noncomputable def impl_natRoot_L0.b {α : Type} (N n : Nat) (v1249 : List Int) (v1250 : List Int) (k0 : List Int → Bool → Option α) : Option α :=
  Nat.rec (motive := fun _ => List Int → List Int → Option α) (fun _ _ => none) (fun _ next => impl_natRoot_L0r N next k0) n v1249 v1250
theorem impl_natRoot_L0.ex : ∃ f : ((α : Type) → Nat → Nat → List Int → List Int → (List Int → Bool → Option α) → Option α), f = fun α => @impl_natRoot_L0.b α := ⟨_, rfl⟩
noncomputable def impl_natRoot_L0 {α : Type} : Nat → Nat → List Int → List Int → (List Int → Bool → Option α) → Option α := Classical.choose impl_natRoot_L0.ex α
theorem impl_natRoot_L0.eq : @impl_natRoot_L0 = @impl_natRoot_L0.b := funext fun α => congrFun (Classical.choose_spec impl_natRoot_L0.ex) α
theorem impl_natRoot_L0.zero {α : Type} (N : Nat) (v1249 : List Int) (v1250 : List Int) (k0 : List Int → Bool → Option α) : impl_natRoot_L0 N 0 v1249 v1250 k0 = none := by rw [impl_natRoot_L0.eq]; rfl
theorem impl_natRoot_L0.succ {α : Type} (N n : Nat) (v1249 : List Int) (v1250 : List Int) (k0 : List Int → Bool → Option α) : impl_natRoot_L0 N (n + 1) v1249 v1250 k0 = impl_natRoot_L0r N (fun y0 y1 => impl_natRoot_L0 N n y0 y1 k0) k0 v1249 v1250 := by rw [impl_natRoot_L0.eq]; rfl
/-- loop.example/pinfold/impl.natRoot -/
noncomputable def impl_natRoot.b {α : Type} (N : Nat) (a1040 : List Int) (k0 : List Int → Bool → Option α) : Option α :=
  let x1041 := ((a1040.length : Nat) : Int)
  let x1042 := (decide (x1041 = (0 : Int)))
  bif x1042 then
    k0 [] true
  else
    let x1043 := [(1 : Int)]
    impl_natBits N a1040
      (fun x1084 =>
        let x1085 := (IntKind.i64.wrap (x1084 + (1 : Int)))
        let x1086 := (IntKind.i64.wrap (Int.tdiv x1085 (2 : Int)))
        impl_natShift N x1043 x1086
          (fun x1248 =>
            impl_natRoot_L0 N N a1040 x1248
              (fun x1694 x1695 =>
                k0 x1694 x1695)))
theorem impl_natRoot.ex : ∃ f : ((α : Type) → Nat → List Int → (List Int → Bool → Option α) → Option α), f = fun α => @impl_natRoot.b α := ⟨_, rfl⟩
noncomputable def impl_natRoot {α : Type} : Nat → List Int → (List Int → Bool → Option α) → Option α := Classical.choose impl_natRoot.ex α
theorem impl_natRoot.eq : @impl_natRoot = @impl_natRoot.b := funext fun α => congrFun (Classical.choose_spec impl_natRoot.ex) α

/-- slices.Clip[[]int,int] -/
noncomputable def slices_Clip_int_int.b {α : Type} (N : Nat) (a1700 : List Int) (k0 : List Int → Option α) : Option α :=
  let x1701 := ((a1700.length : Nat) : Int)
  let x1702 := ((a1700.length : Nat) : Int)
  bif (decide ((0 : Int) ≤ x1702)) then
    bif (decide (x1702 ≤ ((a1700.length : Nat) : Int))) then
      bif (decide ((0 : Int) ≤ x1701)) then
        bif (decide (x1701 ≤ ((x1702.toNat : Nat) : Int))) then
          let x1703 := a1700.take x1701.toNat
          k0 x1703
        else
          none
      else
        none
    else
      none
  else
    none
theorem slices_Clip_int_int.ex : ∃ f : ((α : Type) → Nat → List Int → (List Int → Option α) → Option α), f = fun α => @slices_Clip_int_int.b α := ⟨_, rfl⟩
noncomputable def slices_Clip_int_int {α : Type} : Nat → List Int → (List Int → Option α) → Option α := Classical.choose slices_Clip_int_int.ex α
theorem slices_Clip_int_int.eq : @slices_Clip_int_int = @slices_Clip_int_int.b := funext fun α => congrFun (Classical.choose_spec slices_Clip_int_int.ex) α

/-- loop.example/pinfold/impl.clone[int] -/
noncomputable def impl_clone_int.b {α : Type} (N : Nat) (a1698 : List Int) (k0 : List Int → Option α) : Option α :=
  slices_Clone_int_int N a1698
    (fun x1699 =>
      slices_Clip_int_int N x1699
        (fun x1704 =>
          k0 x1704))
theorem impl_clone_int.ex : ∃ f : ((α : Type) → Nat → List Int → (List Int → Option α) → Option α), f = fun α => @impl_clone_int.b α := ⟨_, rfl⟩
noncomputable def impl_clone_int {α : Type} : Nat → List Int → (List Int → Option α) → Option α := Classical.choose impl_clone_int.ex α
theorem impl_clone_int.eq : @impl_clone_int = @impl_clone_int.b := funext fun α => congrFun (Classical.choose_spec impl_clone_int.ex) α

/-- loop.example/pinfold/impl.NatRoot -/
noncomputable def impl_NatRoot.b {α : Type} (N : Nat) (a347 : List Int) (k0 : Bool → Bool → List Int → Option α) : Option α :=
  impl_NatOk N a347
    (fun x382 =>
      let x383 := !x382
      bif x383 then
        k0 false false []
      else
        impl_natRoot N a347
          (fun x1696 x1697 =>
            impl_clone_int N x1696
              (fun x1705 =>
                k0 x1697 true x1705)))
theorem impl_NatRoot.ex : ∃ f : ((α : Type) → Nat → List Int → (Bool → Bool → List Int → Option α) → Option α), f = fun α => @impl_NatRoot.b α := ⟨_, rfl⟩
noncomputable def impl_NatRoot {α : Type} : Nat → List Int → (Bool → Bool → List Int → Option α) → Option α := Classical.choose impl_NatRoot.ex α
theorem impl_NatRoot.eq : @impl_NatRoot = @impl_NatRoot.b := funext fun α => congrFun (Classical.choose_spec impl_NatRoot.ex) α

/-- loop.example/pinfold/impl.nats$1 -/
noncomputable def impl_nats_1.b {α : Type} (N : Nat) (a1724 : List Int) (k0 : Bool → Option α) : Option α :=
  impl_NatOk N a1724
    (fun x1725 =>
      let x1726 := !x1725
      k0 x1726)
theorem impl_nats_1.ex : ∃ f : ((α : Type) → Nat → List Int → (Bool → Option α) → Option α), f = fun α => @impl_nats_1.b α := ⟨_, rfl⟩
noncomputable def impl_nats_1 {α : Type} : Nat → List Int → (Bool → Option α) → Option α := Classical.choose impl_nats_1.ex α
theorem impl_nats_1.eq : @impl_nats_1 = @impl_nats_1.b := funext fun α => congrFun (Classical.choose_spec impl_nats_1.ex) α

noncomputable def slices_IndexFunc_int_int__impl_nats_1_L0r {α : Type} (N : Nat) (next : List (List Int) → Int → Int → Option α) (k0 : Int → Option α) (k1 : Option α) (v1719 : List (List Int)) (v1720 : Int) (v1721 : Int) : Option α :=
  let x1722 := decide (v1721 < v1720)
  bif x1722 then
    bif (decide (v1721 < (0 : Int))) then
      none
    else
      match v1719[v1721.toNat]? with
      | some x1723 =>
        impl_nats_1 N x1723
          (fun x1727 =>
            bif x1727 then
              k0 v1721
            else
              let x1728 := (IntKind.i64.wrap (v1721 + (1 : Int)))
              next v1719 v1720 x1728)
      | none => none
  else
    k1
noncomputable def slices_IndexFunc_int_int__impl_nats_1_L0.b {α : Type} (N n : Nat) (v1719 : List (List Int)) (v1720 : Int) (v1721 : Int) (k0 : Int → Option α) (k1 : Option α) : Option α :=
  Nat.rec (motive := fun _ => List (List Int) → Int → Int → Option α) (fun _ _ _ => none) (fun _ next => slices_IndexFunc_int_int__impl_nats_1_L0r N next k0 k1) n v1719 v1720 v1721
theorem slices_IndexFunc_int_int__impl_nats_1_L0.ex : ∃ f : ((α : Type) → Nat → Nat → List (List Int) → Int → Int → (Int → Option α) → (Option α) → Option α), f = fun α => @slices_IndexFunc_int_int__impl_nats_1_L0.b α := ⟨_, rfl⟩
noncomputable def slices_IndexFunc_int_int__impl_nats_1_L0 {α : Type} : Nat → Nat → List (List Int) → Int → Int → (Int → Option α) → (Option α) → Option α := Classical.choose slices_IndexFunc_int_int__impl_nats_1_L0.ex α
theorem slices_IndexFunc_int_int__impl_nats_1_L0.eq : @slices_IndexFunc_int_int__impl_nats_1_L0 = @slices_IndexFunc_int_int__impl_nats_1_L0.b := funext fun α => congrFun (Classical.choose_spec slices_IndexFunc_int_int__impl_nats_1_L0.ex) α
theorem slices_IndexFunc_int_int__impl_nats_1_L0.zero {α : Type} (N : Nat) (v1719 : List (List Int)) (v1720 : Int) (v1721 : Int) (k0 : Int → Option α) (k1 : Option α) : slices_IndexFunc_int_int__impl_nats_1_L0 N 0 v1719 v1720 v1721 k0 k1 = none := by rw [slices_IndexFunc_int_int__impl_nats_1_L0.eq]; rfl
theorem slices_IndexFunc_int_int__impl_nats_1_L0.succ {α : Type} (N n : Nat) (v1719 : List (List Int)) (v1720 : Int) (v1721 : Int) (k0 : Int → Option α) (k1 : Option α) : slices_IndexFunc_int_int__impl_nats_1_L0 N (n + 1) v1719 v1720 v1721 k0 k1 = slices_IndexFunc_int_int__impl_nats_1_L0r N (fun y0 y1 y2 => slices_IndexFunc_int_int__impl_nats_1_L0 N n y0 y1 y2 k0 k1) k0 k1 v1719 v1720 v1721 := by rw [slices_IndexFunc_int_int__impl_nats_1_L0.eq]; rfl
/-- slices.IndexFunc[[][]int,[]int] -/
noncomputable def slices_IndexFunc_int_int__impl_nats_1.b {α : Type} (N : Nat) (a1717 : List (List Int)) (k0 : Int → Option α) : Option α :=
  let x1718 := ((a1717.length : Nat) : Int)
  slices_IndexFunc_int_int__impl_nats_1_L0 N N a1717 x1718 (0 : Int)
    (fun x1729 =>
      k0 x1729)
    (
      k0 (-1 : Int))
theorem slices_IndexFunc_int_int__impl_nats_1.ex : ∃ f : ((α : Type) → Nat → List (List Int) → (Int → Option α) → Option α), f = fun α => @slices_IndexFunc_int_int__impl_nats_1.b α := ⟨_, rfl⟩
noncomputable def slices_IndexFunc_int_int__impl_nats_1 {α : Type} : Nat → List (List Int) → (Int → Option α) → Option α := Classical.choose slices_IndexFunc_int_int__impl_nats_1.ex α
theorem slices_IndexFunc_int_int__impl_nats_1.eq : @slices_IndexFunc_int_int__impl_nats_1 = @slices_IndexFunc_int_int__impl_nats_1.b := funext fun α => congrFun (Classical.choose_spec slices_IndexFunc_int_int__impl_nats_1.ex) α

/-- slices.ContainsFunc[[][]int,[]int] -/
noncomputable def slices_ContainsFunc_int_int__impl_nats_1.b {α : Type} (N : Nat) (a1716 : List (List Int)) (k0 : Bool → Option α) : Option α :=
  slices_IndexFunc_int_int__impl_nats_1 N a1716
    (fun x1730 =>
      let x1731 := (decide ((0 : Int) ≤ x1730))
      k0 x1731)
theorem slices_ContainsFunc_int_int__impl_nats_1.ex : ∃ f : ((α : Type) → Nat → List (List Int) → (Bool → Option α) → Option α), f = fun α => @slices_ContainsFunc_int_int__impl_nats_1.b α := ⟨_, rfl⟩
noncomputable def slices_ContainsFunc_int_int__impl_nats_1 {α : Type} : Nat → List (List Int) → (Bool → Option α) → Option α := Classical.choose slices_ContainsFunc_int_int__impl_nats_1.ex α
theorem slices_ContainsFunc_int_int__impl_nats_1.eq : @slices_ContainsFunc_int_int__impl_nats_1 = @slices_ContainsFunc_int_int__impl_nats_1.b := funext fun α => congrFun (Classical.choose_spec slices_ContainsFunc_int_int__impl_nats_1.ex) α

/-- loop.example/pinfold/impl.nats -/
noncomputable def impl_nats.b {α : Type} (N : Nat) (a1715 : List (List Int)) (k0 : Bool → Option α) : Option α :=
  slices_ContainsFunc_int_int__impl_nats_1 N a1715
    (fun x1732 =>
      let x1733 := !x1732
      k0 x1733)
theorem impl_nats.ex : ∃ f : ((α : Type) → Nat → List (List Int) → (Bool → Option α) → Option α), f = fun α => @impl_nats.b α := ⟨_, rfl⟩
noncomputable def impl_nats {α : Type} : Nat → List (List Int) → (Bool → Option α) → Option α := Classical.choose impl_nats.ex α
theorem impl_nats.eq : @impl_nats = @impl_nats.b := funext fun α => congrFun (Classical.choose_spec impl_nats.ex) α

/-- loop.example/pinfold/impl.told -/
noncomputable def impl_told.b {α : Type} (N : Nat) (a1737 : List Int) (a1738 : Bool) (k0 : Bool → List Int → Option α) : Option α :=
  impl_trim N a1737
    (fun x1739 =>
      let x1740 := !a1738
      bif x1740 then
        k0 false []
      else
        let x1741 := ((x1739.length : Nat) : Int)
        let x1742 := (decide ((256 : Int) < x1741))
        bif x1742 then
          k0 false []
        else
          impl_clone_int N x1739
            (fun x1743 =>
              k0 true x1743))
theorem impl_told.ex : ∃ f : ((α : Type) → Nat → List Int → Bool → (Bool → List Int → Option α) → Option α), f = fun α => @impl_told.b α := ⟨_, rfl⟩
noncomputable def impl_told {α : Type} : Nat → List Int → Bool → (Bool → List Int → Option α) → Option α := Classical.choose impl_told.ex α
theorem impl_told.eq : @impl_told = @impl_told.b := funext fun α => congrFun (Classical.choose_spec impl_told.ex) α

/-- loop.example/pinfold/impl.NatMul -/
noncomputable def impl_NatMul.b {α : Type} (N : Nat) (a1712 : List Int) (a1713 : List Int) (k0 : Bool → List Int → Option α) : Option α :=
  let x1714 := [a1712, a1713]
  impl_nats N x1714
    (fun x1734 =>
      let x1735 := !x1734
      bif x1735 then
        k0 false []
      else
        impl_natMul N a1712 a1713
          (fun x1736 =>
            impl_told N x1736 true
              (fun x1744 x1745 =>
                k0 x1744 x1745)))
theorem impl_NatMul.ex : ∃ f : ((α : Type) → Nat → List Int → List Int → (Bool → List Int → Option α) → Option α), f = fun α => @impl_NatMul.b α := ⟨_, rfl⟩
noncomputable def impl_NatMul {α : Type} : Nat → List Int → List Int → (Bool → List Int → Option α) → Option α := Classical.choose impl_NatMul.ex α
theorem impl_NatMul.eq : @impl_NatMul = @impl_NatMul.b := funext fun α => congrFun (Classical.choose_spec impl_NatMul.ex) α

/-- loop.example/pinfold/impl.NatCmp -/
noncomputable def impl_NatCmp.b {α : Type} (N : Nat) (a1749 : List Int) (a1750 : List Int) (k0 : Int → Option α) : Option α :=
  let x1751 := [a1749, a1750]
  impl_nats N x1751
    (fun x1752 =>
      let x1753 := !x1752
      bif x1753 then
        k0 (2 : Int)
      else
        impl_natCmp N a1749 a1750
          (fun x1754 =>
            k0 x1754))
theorem impl_NatCmp.ex : ∃ f : ((α : Type) → Nat → List Int → List Int → (Int → Option α) → Option α), f = fun α => @impl_NatCmp.b α := ⟨_, rfl⟩
noncomputable def impl_NatCmp {α : Type} : Nat → List Int → List Int → (Int → Option α) → Option α := Classical.choose impl_NatCmp.ex α
theorem impl_NatCmp.eq : @impl_NatCmp = @impl_NatCmp.b := funext fun α => congrFun (Classical.choose_spec impl_NatCmp.ex) α

/-- loop.example/pinfold/impl.NatAdd -/
noncomputable def impl_NatAdd.b {α : Type} (N : Nat) (a1761 : List Int) (a1762 : List Int) (k0 : Bool → List Int → Option α) : Option α :=
  let x1763 := [a1761, a1762]
  impl_nats N x1763
    (fun x1764 =>
      let x1765 := !x1764
      bif x1765 then
        k0 false []
      else
        impl_natAdd N a1761 a1762
          (fun x1766 =>
            impl_told N x1766 true
              (fun x1767 x1768 =>
                k0 x1767 x1768)))
theorem impl_NatAdd.ex : ∃ f : ((α : Type) → Nat → List Int → List Int → (Bool → List Int → Option α) → Option α), f = fun α => @impl_NatAdd.b α := ⟨_, rfl⟩
noncomputable def impl_NatAdd {α : Type} : Nat → List Int → List Int → (Bool → List Int → Option α) → Option α := Classical.choose impl_NatAdd.ex α
theorem impl_NatAdd.eq : @impl_NatAdd = @impl_NatAdd.b := funext fun α => congrFun (Classical.choose_spec impl_NatAdd.ex) α

/-- loop.example/pinfold/laws.FnNatRoot -/
noncomputable def laws_FnNatRoot.b {α : Type} (N : Nat) (a1 : List Int) (k0 : Bool → Option α) : Option α :=
  let x2 := ((a1.length : Nat) : Int)
  let x3 := (decide ((1048576 : Int) < x2))
  bif x3 then
    k0 true
  else
    spec_DrawNatRoot N a1
      (fun x346 =>
        impl_NatRoot N x346
          (fun x1706 x1707 x1708 =>
            spec_NatOk N x346
              (fun x1709 =>
                let x1710 := !(x1707 == x1709)
                bif x1710 then
                  k0 false
                else
                  let x1711 := !x1707
                  bif x1711 then
                    k0 true
                  else
                    impl_NatMul N x1708 x1708
                      (fun x1746 x1747 =>
                        let x1748 := !x1746
                        bif x1748 then
                          k0 false
                        else
                          impl_NatCmp N x1747 x346
                            (fun x1755 =>
                              let x1756 := (decide (x1755 = (1 : Int)))
                              bif x1756 then
                                k0 false
                              else
                                impl_NatCmp N x1747 x346
                                  (fun x1757 =>
                                    let x1758 := (decide (x1757 = (0 : Int)))
                                    let x1759 := !(x1706 == x1758)
                                    bif x1759 then
                                      k0 false
                                    else
                                      let x1760 := [(1 : Int)]
                                      impl_NatAdd N x1708 x1760
                                        (fun x1769 x1770 =>
                                          impl_NatMul N x1770 x1770
                                            (fun x1771 x1772 =>
                                              bif x1769 then
                                                let x1773 := !x1771
                                                bif x1773 then
                                                  k0 true
                                                else
                                                  impl_NatCmp N x1772 x346
                                                    (fun x1774 =>
                                                      let x1775 := (decide (x1774 = (1 : Int)))
                                                      k0 x1775)
                                              else
                                                k0 false))))))))
theorem laws_FnNatRoot.ex : ∃ f : ((α : Type) → Nat → List Int → (Bool → Option α) → Option α), f = fun α => @laws_FnNatRoot.b α := ⟨_, rfl⟩
noncomputable def laws_FnNatRoot {α : Type} : Nat → List Int → (Bool → Option α) → Option α := Classical.choose laws_FnNatRoot.ex α
theorem laws_FnNatRoot.eq : @laws_FnNatRoot = @laws_FnNatRoot.b := funext fun α => congrFun (Classical.choose_spec laws_FnNatRoot.ex) α

end
end Go.Proofs.YtgabephijgjogaaAm
