/-
  The functions that the program computes, as the abstract machine tells them. Printed by amp.py.
-/
import Derived.Test.YtgabephijgjogaaAmb
namespace Go.Proofs.YtgabephijgjogaaAm
open Go
noncomputable section
set_option linter.unusedVariables false
set_option linter.unusedSimpArgs false

noncomputable def spec_l32Open_J1.b {α : Type} (N : Nat) (v7 : List Int) (k0 : List Int → Option α) : Option α :=
  let x8 := ((v7.length : Nat) : Int)
  let x9 := (decide ((2000 : Int) < x8))
  bif x9 then
    bif (decide ((2000 : Int) ≤ ((v7.length : Nat) : Int))) then
      let x10 := v7.take 2000
      k0 x10
    else
      none
  else
    k0 v7
theorem spec_l32Open_J1.ex : ∃ f : ((α : Type) → Nat → List Int → (List Int → Option α) → Option α), f = fun α => @spec_l32Open_J1.b α := ⟨_, rfl⟩
noncomputable def spec_l32Open_J1 {α : Type} : Nat → List Int → (List Int → Option α) → Option α := Classical.choose spec_l32Open_J1.ex α
theorem spec_l32Open_J1.eq : @spec_l32Open_J1 = @spec_l32Open_J1.b := funext fun α => congrFun (Classical.choose_spec spec_l32Open_J1.ex) α
/-- loop.example/pinfold/spec.l32Open -/
noncomputable def spec_l32Open.b {α : Type} (N : Nat) (a6 : List Int) (k0 : ((List Int) × Int × Unit) → Option α) : Option α :=
  spec_l32Open_J1 N a6
    (fun x11 =>
      k0 (x11, ((0 : Int), ())))
theorem spec_l32Open.ex : ∃ f : ((α : Type) → Nat → List Int → (((List Int) × Int × Unit) → Option α) → Option α), f = fun α => @spec_l32Open.b α := ⟨_, rfl⟩
noncomputable def spec_l32Open {α : Type} : Nat → List Int → (((List Int) × Int × Unit) → Option α) → Option α := Classical.choose spec_l32Open.ex α
theorem spec_l32Open.eq : @spec_l32Open = @spec_l32Open.b := funext fun α => congrFun (Classical.choose_spec spec_l32Open.ex) α

/-- (*loop.example/pinfold/spec.l32Rd).pick -/
noncomputable def spec_l32Rd_pick.b {α : Type} (N : Nat) (a15 : Int) (a16 : (List Int) × Int × Unit) (k0 : Int → ((List Int) × Int × Unit) → Option α) : Option α :=
  let x17 := (IntKind.i64.wrap (a16.2.1 + (1 : Int)))
  let x18 := (decide (a15 < (1 : Int)))
  bif x18 then
    k0 (0 : Int) (a16.1, (x17, ()))
  else
    let x19 := ((a16.1.length : Nat) : Int)
    let x20 := (decide (x19 = (0 : Int)))
    bif x20 then
      k0 (0 : Int) (a16.1, (x17, ()))
    else
      let x21 := (IntKind.i64.wrap (x17 - (1 : Int)))
      let x22 := ((a16.1.length : Nat) : Int)
      let x23 := decide (x21 < x22)
      bif x23 then
        bif (decide (x21 < (0 : Int))) then
          none
        else
          match a16.1[x21.toNat]? with
          | some x24 =>
            let x25 := IntKind.i64.wrap x24
            bif (decide (a15 = (0 : Int))) then
              none
            else
              let x26 := Int.tmod x25 a15
              k0 x26 (a16.1, (x17, ()))
          | none => none
      else
        let x27 := ((a16.1.length : Nat) : Int)
        bif (decide (x27 = (0 : Int))) then
          none
        else
          let x28 := Int.tmod x21 x27
          bif (decide (x28 < (0 : Int))) then
            none
          else
            match a16.1[x28.toNat]? with
            | some x29 =>
              let x30 := IntKind.i64.wrap x29
              let x31 := (IntKind.i64.wrap (x30 * (131 : Int)))
              let x32 := (IntKind.i64.wrap (x21 * (7 : Int)))
              let x33 := (IntKind.i64.wrap (x32 + (3 : Int)))
              let x34 := ((a16.1.length : Nat) : Int)
              bif (decide (x34 = (0 : Int))) then
                none
              else
                let x35 := Int.tmod x33 x34
                bif (decide (x35 < (0 : Int))) then
                  none
                else
                  match a16.1[x35.toNat]? with
                  | some x36 =>
                    let x37 := IntKind.i64.wrap x36
                    let x38 := (IntKind.i64.wrap (x37 * (1117 : Int)))
                    let x39 := IntKind.i64.wrap (x31 + x38)
                    let x40 := (IntKind.i64.wrap (x21 * (29 : Int)))
                    let x41 := IntKind.i64.wrap (x39 + x40)
                    let x42 := ((a16.1.length : Nat) : Int)
                    bif (decide (x42 = (0 : Int))) then
                      none
                    else
                      let x43 := IntKind.i64.wrap (Int.tdiv x21 x42)
                      let x44 := (IntKind.i64.wrap (x43 * (53 : Int)))
                      let x45 := IntKind.i64.wrap (x41 + x44)
                      let x46 := (IntKind.i64.wrap (Int.tdiv x45 (64 : Int)))
                      let x47 := bitI .xor .i64 x45 x46
                      bif (decide (a15 = (0 : Int))) then
                        none
                      else
                        let x48 := Int.tmod x47 a15
                        k0 x48 (a16.1, (x17, ()))
                  | none => none
            | none => none
theorem spec_l32Rd_pick.ex : ∃ f : ((α : Type) → Nat → Int → ((List Int) × Int × Unit) → (Int → ((List Int) × Int × Unit) → Option α) → Option α), f = fun α => @spec_l32Rd_pick.b α := ⟨_, rfl⟩
noncomputable def spec_l32Rd_pick {α : Type} : Nat → Int → ((List Int) × Int × Unit) → (Int → ((List Int) × Int × Unit) → Option α) → Option α := Classical.choose spec_l32Rd_pick.ex α
theorem spec_l32Rd_pick.eq : @spec_l32Rd_pick = @spec_l32Rd_pick.b := funext fun α => congrFun (Classical.choose_spec spec_l32Rd_pick.ex) α

noncomputable def spec_NatOf_L0r {α : Type} (N : Nat) (next : Int → List Int → Option α) (k0 : List Int → Option α) (v78 : Int) (v79 : List Int) : Option α :=
  let x80 := (decide ((0 : Int) < v78))
  bif x80 then
    let x81 := (Int.tmod v78 (65536 : Int))
    let x82 := IntKind.i64.wrap x81
    let x83 := [x82]
    bif decide (v79.length + x83.length ≤ 8796093022208) then
      let x84 := v79 ++ x83
      let x85 := (IntKind.u64.wrap (Int.tdiv v78 (65536 : Int)))
      next x85 x84
    else
      none
  else
    k0 v79
noncomputable def spec_NatOf_L0.b {α : Type} (N n : Nat) (v78 : Int) (v79 : List Int) (k0 : List Int → Option α) : Option α :=
  Nat.rec (motive := fun _ => Int → List Int → Option α) (fun _ _ => none) (fun _ next => spec_NatOf_L0r N next k0) n v78 v79
theorem spec_NatOf_L0.ex : ∃ f : ((α : Type) → Nat → Nat → Int → List Int → (List Int → Option α) → Option α), f = fun α => @spec_NatOf_L0.b α := ⟨_, rfl⟩
noncomputable def spec_NatOf_L0 {α : Type} : Nat → Nat → Int → List Int → (List Int → Option α) → Option α := Classical.choose spec_NatOf_L0.ex α
theorem spec_NatOf_L0.eq : @spec_NatOf_L0 = @spec_NatOf_L0.b := funext fun α => congrFun (Classical.choose_spec spec_NatOf_L0.ex) α
theorem spec_NatOf_L0.zero {α : Type} (N : Nat) (v78 : Int) (v79 : List Int) (k0 : List Int → Option α) : spec_NatOf_L0 N 0 v78 v79 k0 = none := by rw [spec_NatOf_L0.eq]; rfl
theorem spec_NatOf_L0.succ {α : Type} (N n : Nat) (v78 : Int) (v79 : List Int) (k0 : List Int → Option α) : spec_NatOf_L0 N (n + 1) v78 v79 k0 = spec_NatOf_L0r N (fun y0 y1 => spec_NatOf_L0 N n y0 y1 k0) k0 v78 v79 := by rw [spec_NatOf_L0.eq]; rfl
/-- loop.example/pinfold/spec.NatOf -/
noncomputable def spec_NatOf.b {α : Type} (N : Nat) (a77 : Int) (k0 : List Int → Option α) : Option α :=
  spec_NatOf_L0 N N a77 []
    (fun x86 =>
      k0 x86)
theorem spec_NatOf.ex : ∃ f : ((α : Type) → Nat → Int → (List Int → Option α) → Option α), f = fun α => @spec_NatOf.b α := ⟨_, rfl⟩
noncomputable def spec_NatOf {α : Type} : Nat → Int → (List Int → Option α) → Option α := Classical.choose spec_NatOf.ex α
theorem spec_NatOf.eq : @spec_NatOf = @spec_NatOf.b := funext fun α => congrFun (Classical.choose_spec spec_NatOf.ex) α

noncomputable def spec_l32Rd_nat_J6.b {α : Type} (N : Nat) (v63 : Int) (v64 : (List Int) × Int × Unit) (k0 : Int → ((List Int) × Int × Unit) → Option α) : Option α :=
  spec_l32Rd_pick N (6 : Int) v64
    (fun x65 x66 =>
      let x67 := (decide (x65 = (0 : Int)))
      bif x67 then
        spec_l32Rd_pick N (3 : Int) x66
          (fun x68 x69 =>
            let x70 := (IntKind.i64.wrap ((256 : Int) - x68))
            k0 x70 x69)
      else
        k0 v63 x66)
theorem spec_l32Rd_nat_J6.ex : ∃ f : ((α : Type) → Nat → Int → ((List Int) × Int × Unit) → (Int → ((List Int) × Int × Unit) → Option α) → Option α), f = fun α => @spec_l32Rd_nat_J6.b α := ⟨_, rfl⟩
noncomputable def spec_l32Rd_nat_J6 {α : Type} : Nat → Int → ((List Int) × Int × Unit) → (Int → ((List Int) × Int × Unit) → Option α) → Option α := Classical.choose spec_l32Rd_nat_J6.ex α
theorem spec_l32Rd_nat_J6.eq : @spec_l32Rd_nat_J6 = @spec_l32Rd_nat_J6.b := funext fun α => congrFun (Classical.choose_spec spec_l32Rd_nat_J6.ex) α
noncomputable def spec_l32Rd_nat_J5.b {α : Type} (N : Nat) (v59 : Int) (v60 : Int) (v61 : (List Int) × Int × Unit) (k0 : Int → ((List Int) × Int × Unit) → Option α) (k1 : ((List Int) × Int × Unit) → List Int → Option α) : Option α :=
  let x62 := (decide (v60 = (1 : Int)))
  bif x62 then
    spec_l32Rd_nat_J6 N v59 v61
      (fun x71 x72 =>
        k0 x71 x72)
  else
    let x73 := (decide (v60 = (2 : Int)))
    bif x73 then
      spec_l32Rd_pick N (12 : Int) v61
        (fun x74 x75 =>
          let x76 := IntKind.u64.wrap x74
          spec_NatOf N x76
            (fun x87 =>
              k1 x75 x87))
    else
      k0 v59 v61
theorem spec_l32Rd_nat_J5.ex : ∃ f : ((α : Type) → Nat → Int → Int → ((List Int) × Int × Unit) → (Int → ((List Int) × Int × Unit) → Option α) → (((List Int) × Int × Unit) → List Int → Option α) → Option α), f = fun α => @spec_l32Rd_nat_J5.b α := ⟨_, rfl⟩
noncomputable def spec_l32Rd_nat_J5 {α : Type} : Nat → Int → Int → ((List Int) × Int × Unit) → (Int → ((List Int) × Int × Unit) → Option α) → (((List Int) × Int × Unit) → List Int → Option α) → Option α := Classical.choose spec_l32Rd_nat_J5.ex α
theorem spec_l32Rd_nat_J5.eq : @spec_l32Rd_nat_J5 = @spec_l32Rd_nat_J5.b := funext fun α => congrFun (Classical.choose_spec spec_l32Rd_nat_J5.ex) α
noncomputable def spec_l32Rd_nat_J3.b {α : Type} (N : Nat) (v53 : Int) (v54 : Int) (v55 : (List Int) × Int × Unit) (k0 : Int → ((List Int) × Int × Unit) → Option α) (k1 : ((List Int) × Int × Unit) → List Int → Option α) : Option α :=
  let x56 := (decide (v54 = (0 : Int)))
  bif x56 then
    spec_l32Rd_pick N (24 : Int) v55
      (fun x57 x58 =>
        k0 x57 x58)
  else
    spec_l32Rd_nat_J5 N v53 v54 v55
      (fun x88 x89 =>
        k0 x88 x89)
      (fun x90 x91 =>
        k1 x90 x91)
theorem spec_l32Rd_nat_J3.ex : ∃ f : ((α : Type) → Nat → Int → Int → ((List Int) × Int × Unit) → (Int → ((List Int) × Int × Unit) → Option α) → (((List Int) × Int × Unit) → List Int → Option α) → Option α), f = fun α => @spec_l32Rd_nat_J3.b α := ⟨_, rfl⟩
noncomputable def spec_l32Rd_nat_J3 {α : Type} : Nat → Int → Int → ((List Int) × Int × Unit) → (Int → ((List Int) × Int × Unit) → Option α) → (((List Int) × Int × Unit) → List Int → Option α) → Option α := Classical.choose spec_l32Rd_nat_J3.ex α
theorem spec_l32Rd_nat_J3.eq : @spec_l32Rd_nat_J3 = @spec_l32Rd_nat_J3.b := funext fun α => congrFun (Classical.choose_spec spec_l32Rd_nat_J3.ex) α
noncomputable def spec_l32Rd_nat_J16.b {α : Type} (N : Nat) (v108 : Int) (v109 : Int) (v110 : Int) (v111 : Int) (v112 : (List Int) × Int × Unit) (v113 : List Int) (k0 : Int → Int → Int → Int → ((List Int) × Int × Unit) → List Int → Option α) : Option α :=
  let x114 := (decide (v109 = (0 : Int)))
  bif x114 then
    k0 v108 v109 v110 (65535 : Int) v112 v113
  else
    k0 v108 v109 v110 v111 v112 v113
theorem spec_l32Rd_nat_J16.ex : ∃ f : ((α : Type) → Nat → Int → Int → Int → Int → ((List Int) × Int × Unit) → List Int → (Int → Int → Int → Int → ((List Int) × Int × Unit) → List Int → Option α) → Option α), f = fun α => @spec_l32Rd_nat_J16.b α := ⟨_, rfl⟩
noncomputable def spec_l32Rd_nat_J16 {α : Type} : Nat → Int → Int → Int → Int → ((List Int) × Int × Unit) → List Int → (Int → Int → Int → Int → ((List Int) × Int × Unit) → List Int → Option α) → Option α := Classical.choose spec_l32Rd_nat_J16.ex α
theorem spec_l32Rd_nat_J16.eq : @spec_l32Rd_nat_J16 = @spec_l32Rd_nat_J16.b := funext fun α => congrFun (Classical.choose_spec spec_l32Rd_nat_J16.ex) α
noncomputable def spec_l32Rd_nat_J18.b {α : Type} (N : Nat) (v121 : Int) (v122 : Int) (v123 : Int) (v124 : Int) (v125 : (List Int) × Int × Unit) (v126 : List Int) (k0 : Int → Int → Int → Int → ((List Int) × Int × Unit) → List Int → Option α) : Option α :=
  let x127 := (decide (v122 = (1 : Int)))
  bif x127 then
    k0 v121 v122 v123 (0 : Int) v125 v126
  else
    k0 v121 v122 v123 v124 v125 v126
theorem spec_l32Rd_nat_J18.ex : ∃ f : ((α : Type) → Nat → Int → Int → Int → Int → ((List Int) × Int × Unit) → List Int → (Int → Int → Int → Int → ((List Int) × Int × Unit) → List Int → Option α) → Option α), f = fun α => @spec_l32Rd_nat_J18.b α := ⟨_, rfl⟩
noncomputable def spec_l32Rd_nat_J18 {α : Type} : Nat → Int → Int → Int → Int → ((List Int) × Int × Unit) → List Int → (Int → Int → Int → Int → ((List Int) × Int × Unit) → List Int → Option α) → Option α := Classical.choose spec_l32Rd_nat_J18.ex α
theorem spec_l32Rd_nat_J18.eq : @spec_l32Rd_nat_J18 = @spec_l32Rd_nat_J18.b := funext fun α => congrFun (Classical.choose_spec spec_l32Rd_nat_J18.ex) α
noncomputable def spec_l32Rd_nat_L1r {α : Type} (N : Nat) (next : Int → Int → Int → ((List Int) × Int × Unit) → List Int → Option α) (k0 : Int → ((List Int) × Int × Unit) → List Int → Option α) (v96 : Int) (v97 : Int) (v98 : Int) (v99 : (List Int) × Int × Unit) (v100 : List Int) : Option α :=
  let x101 := decide (v98 < v96)
  bif x101 then
    spec_l32Rd_pick N (256 : Int) v99
      (fun x102 x103 =>
        let x104 := (IntKind.i64.wrap (x102 * (256 : Int)))
        spec_l32Rd_pick N (256 : Int) x103
          (fun x105 x106 =>
            let x107 := IntKind.i64.wrap (x104 + x105)
            spec_l32Rd_nat_J16 N v96 v97 v98 x107 x106 v100
              (fun x115 x116 x117 x118 x119 x120 =>
                spec_l32Rd_nat_J18 N x115 x116 x117 x118 x119 x120
                  (fun x128 x129 x130 x131 x132 x133 =>
                    let x134 := [x131]
                    bif decide (x133.length + x134.length ≤ 8796093022208) then
                      let x135 := x133 ++ x134
                      let x136 := (IntKind.i64.wrap (x130 + (1 : Int)))
                      next x128 x129 x136 x132 x135
                    else
                      none))))
  else
    k0 v96 v99 v100
noncomputable def spec_l32Rd_nat_L1.b {α : Type} (N n : Nat) (v96 : Int) (v97 : Int) (v98 : Int) (v99 : (List Int) × Int × Unit) (v100 : List Int) (k0 : Int → ((List Int) × Int × Unit) → List Int → Option α) : Option α :=
  Nat.rec (motive := fun _ => Int → Int → Int → ((List Int) × Int × Unit) → List Int → Option α) (fun _ _ _ _ _ => none) (fun _ next => spec_l32Rd_nat_L1r N next k0) n v96 v97 v98 v99 v100
theorem spec_l32Rd_nat_L1.ex : ∃ f : ((α : Type) → Nat → Nat → Int → Int → Int → ((List Int) × Int × Unit) → List Int → (Int → ((List Int) × Int × Unit) → List Int → Option α) → Option α), f = fun α => @spec_l32Rd_nat_L1.b α := ⟨_, rfl⟩
noncomputable def spec_l32Rd_nat_L1 {α : Type} : Nat → Nat → Int → Int → Int → ((List Int) × Int × Unit) → List Int → (Int → ((List Int) × Int × Unit) → List Int → Option α) → Option α := Classical.choose spec_l32Rd_nat_L1.ex α
theorem spec_l32Rd_nat_L1.eq : @spec_l32Rd_nat_L1 = @spec_l32Rd_nat_L1.b := funext fun α => congrFun (Classical.choose_spec spec_l32Rd_nat_L1.ex) α
theorem spec_l32Rd_nat_L1.zero {α : Type} (N : Nat) (v96 : Int) (v97 : Int) (v98 : Int) (v99 : (List Int) × Int × Unit) (v100 : List Int) (k0 : Int → ((List Int) × Int × Unit) → List Int → Option α) : spec_l32Rd_nat_L1 N 0 v96 v97 v98 v99 v100 k0 = none := by rw [spec_l32Rd_nat_L1.eq]; rfl
theorem spec_l32Rd_nat_L1.succ {α : Type} (N n : Nat) (v96 : Int) (v97 : Int) (v98 : Int) (v99 : (List Int) × Int × Unit) (v100 : List Int) (k0 : Int → ((List Int) × Int × Unit) → List Int → Option α) : spec_l32Rd_nat_L1 N (n + 1) v96 v97 v98 v99 v100 k0 = spec_l32Rd_nat_L1r N (fun y0 y1 y2 y3 y4 => spec_l32Rd_nat_L1 N n y0 y1 y2 y3 y4 k0) k0 v96 v97 v98 v99 v100 := by rw [spec_l32Rd_nat_L1.eq]; rfl
noncomputable def spec_l32Rd_nat_J21.b {α : Type} (N : Nat) (v140 : Int) (v141 : (List Int) × Int × Unit) (v142 : List Int) (k0 : ((List Int) × Int × Unit) → List Int → Option α) : Option α :=
  let x143 := (decide ((0 : Int) < v140))
  bif x143 then
    let x144 := (IntKind.i64.wrap (v140 - (1 : Int)))
    bif (decide (x144 < (0 : Int))) then
      none
    else
      bif decide (x144.toNat < v142.length) then
        match v142[x144.toNat]? with
        | some x145 =>
          let x146 := (decide (x145 = (0 : Int)))
          bif x146 then
            let x147 := (IntKind.i64.wrap (v140 - (1 : Int)))
            spec_l32Rd_pick N (16 : Int) v141
              (fun x148 x149 =>
                let x150 := IntKind.u64.wrap x148
                bif (decide (x150 < (0 : Int))) then
                  none
                else
                  let x151 := (shlI .i64 (1 : Int) x150)
                  bif (decide (x147 < (0 : Int))) then
                    none
                  else
                    bif decide (x147.toNat < v142.length) then
                      match v142[x147.toNat]? with
                      | some x152 =>
                        let x153 := v142.set x147.toNat x151
                        k0 x149 x153
                      | none => none
                    else
                      none)
          else
            k0 v141 v142
        | none => none
      else
        none
  else
    k0 v141 v142
theorem spec_l32Rd_nat_J21.ex : ∃ f : ((α : Type) → Nat → Int → ((List Int) × Int × Unit) → List Int → (((List Int) × Int × Unit) → List Int → Option α) → Option α), f = fun α => @spec_l32Rd_nat_J21.b α := ⟨_, rfl⟩
noncomputable def spec_l32Rd_nat_J21 {α : Type} : Nat → Int → ((List Int) × Int × Unit) → List Int → (((List Int) × Int × Unit) → List Int → Option α) → Option α := Classical.choose spec_l32Rd_nat_J21.ex α
theorem spec_l32Rd_nat_J21.eq : @spec_l32Rd_nat_J21 = @spec_l32Rd_nat_J21.b := funext fun α => congrFun (Classical.choose_spec spec_l32Rd_nat_J21.ex) α
/-- (*loop.example/pinfold/spec.l32Rd).nat -/
noncomputable def spec_l32Rd_nat.b {α : Type} (N : Nat) (a14 : (List Int) × Int × Unit) (k0 : ((List Int) × Int × Unit) → List Int → Option α) : Option α :=
  spec_l32Rd_pick N (4 : Int) a14
    (fun x49 x50 =>
      spec_l32Rd_pick N (16 : Int) x50
        (fun x51 x52 =>
          spec_l32Rd_nat_J3 N x49 x51 x52
            (fun x92 x93 =>
              spec_l32Rd_pick N (5 : Int) x93
                (fun x94 x95 =>
                  spec_l32Rd_nat_L1 N N x92 x94 (0 : Int) x95 []
                    (fun x137 x138 x139 =>
                      spec_l32Rd_nat_J21 N x137 x138 x139
                        (fun x154 x155 =>
                          k0 x154 x155))))
            (fun x156 x157 =>
              k0 x156 x157)))
theorem spec_l32Rd_nat.ex : ∃ f : ((α : Type) → Nat → ((List Int) × Int × Unit) → (((List Int) × Int × Unit) → List Int → Option α) → Option α), f = fun α => @spec_l32Rd_nat.b α := ⟨_, rfl⟩
noncomputable def spec_l32Rd_nat {α : Type} : Nat → ((List Int) × Int × Unit) → (((List Int) × Int × Unit) → List Int → Option α) → Option α := Classical.choose spec_l32Rd_nat.ex α
theorem spec_l32Rd_nat.eq : @spec_l32Rd_nat = @spec_l32Rd_nat.b := funext fun α => congrFun (Classical.choose_spec spec_l32Rd_nat.ex) α

noncomputable def spec_l32Rd_raw_L1r {α : Type} (N : Nat) (next : ((List Int) × Int × Unit) → List Int → Option α) (k0 : ((List Int) × Int × Unit) → List Int → Option α) (v184 : (List Int) × Int × Unit) (v185 : List Int) : Option α :=
  let x186 := ((v185.length : Nat) : Int)
  let x187 := (decide (x186 ≤ (256 : Int)))
  bif x187 then
    let x188 := [(1 : Int)]
    bif decide (v185.length + x188.length ≤ 8796093022208) then
      let x189 := v185 ++ x188
      next v184 x189
    else
      none
  else
    k0 v184 v185
noncomputable def spec_l32Rd_raw_L1.b {α : Type} (N n : Nat) (v184 : (List Int) × Int × Unit) (v185 : List Int) (k0 : ((List Int) × Int × Unit) → List Int → Option α) : Option α :=
  Nat.rec (motive := fun _ => ((List Int) × Int × Unit) → List Int → Option α) (fun _ _ => none) (fun _ next => spec_l32Rd_raw_L1r N next k0) n v184 v185
theorem spec_l32Rd_raw_L1.ex : ∃ f : ((α : Type) → Nat → Nat → ((List Int) × Int × Unit) → List Int → (((List Int) × Int × Unit) → List Int → Option α) → Option α), f = fun α => @spec_l32Rd_raw_L1.b α := ⟨_, rfl⟩
noncomputable def spec_l32Rd_raw_L1 {α : Type} : Nat → Nat → ((List Int) × Int × Unit) → List Int → (((List Int) × Int × Unit) → List Int → Option α) → Option α := Classical.choose spec_l32Rd_raw_L1.ex α
theorem spec_l32Rd_raw_L1.eq : @spec_l32Rd_raw_L1 = @spec_l32Rd_raw_L1.b := funext fun α => congrFun (Classical.choose_spec spec_l32Rd_raw_L1.ex) α
theorem spec_l32Rd_raw_L1.zero {α : Type} (N : Nat) (v184 : (List Int) × Int × Unit) (v185 : List Int) (k0 : ((List Int) × Int × Unit) → List Int → Option α) : spec_l32Rd_raw_L1 N 0 v184 v185 k0 = none := by rw [spec_l32Rd_raw_L1.eq]; rfl
theorem spec_l32Rd_raw_L1.succ {α : Type} (N n : Nat) (v184 : (List Int) × Int × Unit) (v185 : List Int) (k0 : ((List Int) × Int × Unit) → List Int → Option α) : spec_l32Rd_raw_L1 N (n + 1) v184 v185 k0 = spec_l32Rd_raw_L1r N (fun y0 y1 => spec_l32Rd_raw_L1 N n y0 y1 k0) k0 v184 v185 := by rw [spec_l32Rd_raw_L1.eq]; rfl
noncomputable def spec_l32Rd_raw_J9.b {α : Type} (N : Nat) (v180 : Int) (v181 : (List Int) × Int × Unit) (v182 : List Int) (k0 : ((List Int) × Int × Unit) → List Int → Option α) : Option α :=
  let x183 := (decide (v180 = (3 : Int)))
  bif x183 then
    spec_l32Rd_raw_L1 N N v181 v182
      (fun x190 x191 =>
        k0 x190 x191)
  else
    k0 v181 v182
theorem spec_l32Rd_raw_J9.ex : ∃ f : ((α : Type) → Nat → Int → ((List Int) × Int × Unit) → List Int → (((List Int) × Int × Unit) → List Int → Option α) → Option α), f = fun α => @spec_l32Rd_raw_J9.b α := ⟨_, rfl⟩
noncomputable def spec_l32Rd_raw_J9 {α : Type} : Nat → Int → ((List Int) × Int × Unit) → List Int → (((List Int) × Int × Unit) → List Int → Option α) → Option α := Classical.choose spec_l32Rd_raw_J9.ex α
theorem spec_l32Rd_raw_J9.eq : @spec_l32Rd_raw_J9 = @spec_l32Rd_raw_J9.b := funext fun α => congrFun (Classical.choose_spec spec_l32Rd_raw_J9.ex) α
noncomputable def spec_l32Rd_raw_J7.b {α : Type} (N : Nat) (v174 : Int) (v175 : (List Int) × Int × Unit) (v176 : List Int) (k0 : ((List Int) × Int × Unit) → List Int → Option α) : Option α :=
  let x177 := (decide (v174 = (2 : Int)))
  bif x177 then
    let x178 := [(-1 : Int)]
    bif decide (v176.length + x178.length ≤ 8796093022208) then
      let x179 := v176 ++ x178
      k0 v175 x179
    else
      none
  else
    spec_l32Rd_raw_J9 N v174 v175 v176
      (fun x192 x193 =>
        k0 x192 x193)
theorem spec_l32Rd_raw_J7.ex : ∃ f : ((α : Type) → Nat → Int → ((List Int) × Int × Unit) → List Int → (((List Int) × Int × Unit) → List Int → Option α) → Option α), f = fun α => @spec_l32Rd_raw_J7.b α := ⟨_, rfl⟩
noncomputable def spec_l32Rd_raw_J7 {α : Type} : Nat → Int → ((List Int) × Int × Unit) → List Int → (((List Int) × Int × Unit) → List Int → Option α) → Option α := Classical.choose spec_l32Rd_raw_J7.ex α
theorem spec_l32Rd_raw_J7.eq : @spec_l32Rd_raw_J7 = @spec_l32Rd_raw_J7.b := funext fun α => congrFun (Classical.choose_spec spec_l32Rd_raw_J7.ex) α
noncomputable def spec_l32Rd_raw_J5.b {α : Type} (N : Nat) (v168 : Int) (v169 : (List Int) × Int × Unit) (v170 : List Int) (k0 : ((List Int) × Int × Unit) → List Int → Option α) : Option α :=
  let x171 := (decide (v168 = (1 : Int)))
  bif x171 then
    let x172 := [(65536 : Int)]
    bif decide (v170.length + x172.length ≤ 8796093022208) then
      let x173 := v170 ++ x172
      k0 v169 x173
    else
      none
  else
    spec_l32Rd_raw_J7 N v168 v169 v170
      (fun x194 x195 =>
        k0 x194 x195)
theorem spec_l32Rd_raw_J5.ex : ∃ f : ((α : Type) → Nat → Int → ((List Int) × Int × Unit) → List Int → (((List Int) × Int × Unit) → List Int → Option α) → Option α), f = fun α => @spec_l32Rd_raw_J5.b α := ⟨_, rfl⟩
noncomputable def spec_l32Rd_raw_J5 {α : Type} : Nat → Int → ((List Int) × Int × Unit) → List Int → (((List Int) × Int × Unit) → List Int → Option α) → Option α := Classical.choose spec_l32Rd_raw_J5.ex α
theorem spec_l32Rd_raw_J5.eq : @spec_l32Rd_raw_J5 = @spec_l32Rd_raw_J5.b := funext fun α => congrFun (Classical.choose_spec spec_l32Rd_raw_J5.ex) α
noncomputable def spec_l32Rd_raw_J3.b {α : Type} (N : Nat) (v162 : Int) (v163 : (List Int) × Int × Unit) (v164 : List Int) (k0 : ((List Int) × Int × Unit) → List Int → Option α) : Option α :=
  let x165 := (decide (v162 = (0 : Int)))
  bif x165 then
    let x166 := [(0 : Int)]
    bif decide (v164.length + x166.length ≤ 8796093022208) then
      let x167 := v164 ++ x166
      k0 v163 x167
    else
      none
  else
    spec_l32Rd_raw_J5 N v162 v163 v164
      (fun x196 x197 =>
        k0 x196 x197)
theorem spec_l32Rd_raw_J3.ex : ∃ f : ((α : Type) → Nat → Int → ((List Int) × Int × Unit) → List Int → (((List Int) × Int × Unit) → List Int → Option α) → Option α), f = fun α => @spec_l32Rd_raw_J3.b α := ⟨_, rfl⟩
noncomputable def spec_l32Rd_raw_J3 {α : Type} : Nat → Int → ((List Int) × Int × Unit) → List Int → (((List Int) × Int × Unit) → List Int → Option α) → Option α := Classical.choose spec_l32Rd_raw_J3.ex α
theorem spec_l32Rd_raw_J3.eq : @spec_l32Rd_raw_J3 = @spec_l32Rd_raw_J3.b := funext fun α => congrFun (Classical.choose_spec spec_l32Rd_raw_J3.ex) α
/-- (*loop.example/pinfold/spec.l32Rd).raw -/
noncomputable def spec_l32Rd_raw.b {α : Type} (N : Nat) (a13 : (List Int) × Int × Unit) (k0 : ((List Int) × Int × Unit) → List Int → Option α) : Option α :=
  spec_l32Rd_nat N a13
    (fun x158 x159 =>
      spec_l32Rd_pick N (80 : Int) x158
        (fun x160 x161 =>
          spec_l32Rd_raw_J3 N x160 x161 x159
            (fun x198 x199 =>
              k0 x198 x199)))
theorem spec_l32Rd_raw.ex : ∃ f : ((α : Type) → Nat → ((List Int) × Int × Unit) → (((List Int) × Int × Unit) → List Int → Option α) → Option α), f = fun α => @spec_l32Rd_raw.b α := ⟨_, rfl⟩
noncomputable def spec_l32Rd_raw {α : Type} : Nat → ((List Int) × Int × Unit) → (((List Int) × Int × Unit) → List Int → Option α) → Option α := Classical.choose spec_l32Rd_raw.ex α
theorem spec_l32Rd_raw.eq : @spec_l32Rd_raw = @spec_l32Rd_raw.b := funext fun α => congrFun (Classical.choose_spec spec_l32Rd_raw.ex) α

noncomputable def spec_l5Trim_L0r {α : Type} (N : Nat) (next : List Int → Int → Option α) (k0 : List Int → Int → Option α) (v212 : List Int) (v213 : Int) : Option α :=
  let x214 := (decide ((0 : Int) < v213))
  bif x214 then
    let x215 := (IntKind.i64.wrap (v213 - (1 : Int)))
    bif (decide (x215 < (0 : Int))) then
      none
    else
      match v212[x215.toNat]? with
      | some x216 =>
        let x217 := (decide (x216 = (0 : Int)))
        bif x217 then
          let x218 := (IntKind.i64.wrap (v213 - (1 : Int)))
          next v212 x218
        else
          k0 v212 v213
      | none => none
  else
    k0 v212 v213
noncomputable def spec_l5Trim_L0.b {α : Type} (N n : Nat) (v212 : List Int) (v213 : Int) (k0 : List Int → Int → Option α) : Option α :=
  Nat.rec (motive := fun _ => List Int → Int → Option α) (fun _ _ => none) (fun _ next => spec_l5Trim_L0r N next k0) n v212 v213
theorem spec_l5Trim_L0.ex : ∃ f : ((α : Type) → Nat → Nat → List Int → Int → (List Int → Int → Option α) → Option α), f = fun α => @spec_l5Trim_L0.b α := ⟨_, rfl⟩
noncomputable def spec_l5Trim_L0 {α : Type} : Nat → Nat → List Int → Int → (List Int → Int → Option α) → Option α := Classical.choose spec_l5Trim_L0.ex α
theorem spec_l5Trim_L0.eq : @spec_l5Trim_L0 = @spec_l5Trim_L0.b := funext fun α => congrFun (Classical.choose_spec spec_l5Trim_L0.ex) α
theorem spec_l5Trim_L0.zero {α : Type} (N : Nat) (v212 : List Int) (v213 : Int) (k0 : List Int → Int → Option α) : spec_l5Trim_L0 N 0 v212 v213 k0 = none := by rw [spec_l5Trim_L0.eq]; rfl
theorem spec_l5Trim_L0.succ {α : Type} (N n : Nat) (v212 : List Int) (v213 : Int) (k0 : List Int → Int → Option α) : spec_l5Trim_L0 N (n + 1) v212 v213 k0 = spec_l5Trim_L0r N (fun y0 y1 => spec_l5Trim_L0 N n y0 y1 k0) k0 v212 v213 := by rw [spec_l5Trim_L0.eq]; rfl
noncomputable def spec_l5Trim_L2r {α : Type} (N : Nat) (next : List Int → Int → Int → List Int → Option α) (k0 : List Int → Option α) (v221 : List Int) (v222 : Int) (v223 : Int) (v224 : List Int) : Option α :=
  let x225 := decide (v223 < v222)
  bif x225 then
    bif (decide (v223 < (0 : Int))) then
      none
    else
      match v221[v223.toNat]? with
      | some x226 =>
        let x227 := [x226]
        bif decide (v224.length + x227.length ≤ 8796093022208) then
          let x228 := v224 ++ x227
          let x229 := (IntKind.i64.wrap (v223 + (1 : Int)))
          next v221 v222 x229 x228
        else
          none
      | none => none
  else
    k0 v224
noncomputable def spec_l5Trim_L2.b {α : Type} (N n : Nat) (v221 : List Int) (v222 : Int) (v223 : Int) (v224 : List Int) (k0 : List Int → Option α) : Option α :=
  Nat.rec (motive := fun _ => List Int → Int → Int → List Int → Option α) (fun _ _ _ _ => none) (fun _ next => spec_l5Trim_L2r N next k0) n v221 v222 v223 v224
theorem spec_l5Trim_L2.ex : ∃ f : ((α : Type) → Nat → Nat → List Int → Int → Int → List Int → (List Int → Option α) → Option α), f = fun α => @spec_l5Trim_L2.b α := ⟨_, rfl⟩
noncomputable def spec_l5Trim_L2 {α : Type} : Nat → Nat → List Int → Int → Int → List Int → (List Int → Option α) → Option α := Classical.choose spec_l5Trim_L2.ex α
theorem spec_l5Trim_L2.eq : @spec_l5Trim_L2 = @spec_l5Trim_L2.b := funext fun α => congrFun (Classical.choose_spec spec_l5Trim_L2.ex) α
theorem spec_l5Trim_L2.zero {α : Type} (N : Nat) (v221 : List Int) (v222 : Int) (v223 : Int) (v224 : List Int) (k0 : List Int → Option α) : spec_l5Trim_L2 N 0 v221 v222 v223 v224 k0 = none := by rw [spec_l5Trim_L2.eq]; rfl
theorem spec_l5Trim_L2.succ {α : Type} (N n : Nat) (v221 : List Int) (v222 : Int) (v223 : Int) (v224 : List Int) (k0 : List Int → Option α) : spec_l5Trim_L2 N (n + 1) v221 v222 v223 v224 k0 = spec_l5Trim_L2r N (fun y0 y1 y2 y3 => spec_l5Trim_L2 N n y0 y1 y2 y3 k0) k0 v221 v222 v223 v224 := by rw [spec_l5Trim_L2.eq]; rfl
/-- loop.example/pinfold/spec.l5Trim -/
noncomputable def spec_l5Trim.b {α : Type} (N : Nat) (a210 : List Int) (k0 : List Int → Option α) : Option α :=
  let x211 := ((a210.length : Nat) : Int)
  spec_l5Trim_L0 N N a210 x211
    (fun x219 x220 =>
      spec_l5Trim_L2 N N x219 x220 (0 : Int) []
        (fun x230 =>
          k0 x230))
theorem spec_l5Trim.ex : ∃ f : ((α : Type) → Nat → List Int → (List Int → Option α) → Option α), f = fun α => @spec_l5Trim.b α := ⟨_, rfl⟩
noncomputable def spec_l5Trim {α : Type} : Nat → List Int → (List Int → Option α) → Option α := Classical.choose spec_l5Trim.ex α
theorem spec_l5Trim.eq : @spec_l5Trim = @spec_l5Trim.b := funext fun α => congrFun (Classical.choose_spec spec_l5Trim.ex) α

noncomputable def spec_l32Two_J6.b {α : Type} (N : Nat) (v232 : (List Int) × Int × Unit) (v233 : List Int) (v234 : List Int) (k0 : List Int → List Int → Option α) : Option α :=
  let x235 := ((v234.length : Nat) : Int)
  let x236 := (decide ((0 : Int) < x235))
  bif x236 then
    spec_l32Rd_pick N (2 : Int) v232
      (fun x237 _ =>
        let x239 := (decide (x237 = (0 : Int)))
        bif x239 then
          bif decide (0 < v234.length) then
            match v234[0]? with
            | some x240 =>
              let x241 := (decide ((0 : Int) < x240))
              bif x241 then
                bif decide (0 < v234.length) then
                  match v234[0]? with
                  | some x242 =>
                    let x243 := (IntKind.i64.wrap (x242 - (1 : Int)))
                    bif decide (0 < v234.length) then
                      match v234[0]? with
                      | some x244 =>
                        let x245 := v234.set 0 x243
                        spec_l5Trim N x245
                          (fun x246 =>
                            k0 v233 x246)
                      | none => none
                    else
                      none
                  | none => none
                else
                  none
              else
                k0 v233 v234
            | none => none
          else
            none
        else
          k0 v233 v234)
  else
    k0 v233 v234
theorem spec_l32Two_J6.ex : ∃ f : ((α : Type) → Nat → ((List Int) × Int × Unit) → List Int → List Int → (List Int → List Int → Option α) → Option α), f = fun α => @spec_l32Two_J6.b α := ⟨_, rfl⟩
noncomputable def spec_l32Two_J6 {α : Type} : Nat → ((List Int) × Int × Unit) → List Int → List Int → (List Int → List Int → Option α) → Option α := Classical.choose spec_l32Two_J6.ex α
theorem spec_l32Two_J6.eq : @spec_l32Two_J6 = @spec_l32Two_J6.b := funext fun α => congrFun (Classical.choose_spec spec_l32Two_J6.ex) α
noncomputable def spec_l32Two_J4.b {α : Type} (N : Nat) (v204 : (List Int) × Int × Unit) (v205 : List Int) (v206 : List Int) (k0 : List Int → List Int → Option α) : Option α :=
  spec_l32Rd_pick N (6 : Int) v204
    (fun x207 x208 =>
      let x209 := (decide (x207 = (0 : Int)))
      bif x209 then
        spec_l5Trim N v205
          (fun x231 =>
            spec_l32Two_J6 N x208 v205 x231
              (fun x247 x248 =>
                k0 x247 x248))
      else
        k0 v205 v206)
theorem spec_l32Two_J4.ex : ∃ f : ((α : Type) → Nat → ((List Int) × Int × Unit) → List Int → List Int → (List Int → List Int → Option α) → Option α), f = fun α => @spec_l32Two_J4.b α := ⟨_, rfl⟩
noncomputable def spec_l32Two_J4 {α : Type} : Nat → ((List Int) × Int × Unit) → List Int → List Int → (List Int → List Int → Option α) → Option α := Classical.choose spec_l32Two_J4.ex α
theorem spec_l32Two_J4.eq : @spec_l32Two_J4 = @spec_l32Two_J4.b := funext fun α => congrFun (Classical.choose_spec spec_l32Two_J4.ex) α
/-- loop.example/pinfold/spec.l32Two -/
noncomputable def spec_l32Two.b {α : Type} (N : Nat) (a5 : List Int) (k0 : List Int → List Int → Option α) : Option α :=
  spec_l32Open N a5
    (fun x12 =>
      spec_l32Rd_raw N x12
        (fun x200 x201 =>
          spec_l32Rd_raw N x200
            (fun x202 x203 =>
              spec_l32Two_J4 N x202 x201 x203
                (fun x249 x250 =>
                  k0 x249 x250))))
theorem spec_l32Two.ex : ∃ f : ((α : Type) → Nat → List Int → (List Int → List Int → Option α) → Option α), f = fun α => @spec_l32Two.b α := ⟨_, rfl⟩
noncomputable def spec_l32Two {α : Type} : Nat → List Int → (List Int → List Int → Option α) → Option α := Classical.choose spec_l32Two.ex α
theorem spec_l32Two.eq : @spec_l32Two = @spec_l32Two.b := funext fun α => congrFun (Classical.choose_spec spec_l32Two.ex) α

/-- loop.example/pinfold/spec.DrawNatDiv -/
noncomputable def spec_DrawNatDiv.b {α : Type} (N : Nat) (a4 : List Int) (k0 : List Int → List Int → Option α) : Option α :=
  spec_l32Two N a4
    (fun x251 x252 =>
      k0 x251 x252)
theorem spec_DrawNatDiv.ex : ∃ f : ((α : Type) → Nat → List Int → (List Int → List Int → Option α) → Option α), f = fun α => @spec_DrawNatDiv.b α := ⟨_, rfl⟩
noncomputable def spec_DrawNatDiv {α : Type} : Nat → List Int → (List Int → List Int → Option α) → Option α := Classical.choose spec_DrawNatDiv.ex α
theorem spec_DrawNatDiv.eq : @spec_DrawNatDiv = @spec_DrawNatDiv.b := funext fun α => congrFun (Classical.choose_spec spec_DrawNatDiv.ex) α

/-- loop.example/pinfold/impl.in -/
noncomputable def impl_in.b {α : Type} (N : Nat) (a282 : Int) (a283 : Int) (a284 : Int) (k0 : Bool → Option α) : Option α :=
  let x285 := decide (a283 ≤ a282)
  bif x285 then
    let x286 := decide (a282 ≤ a284)
    k0 x286
  else
    k0 false
theorem impl_in.ex : ∃ f : ((α : Type) → Nat → Int → Int → Int → (Bool → Option α) → Option α), f = fun α => @impl_in.b α := ⟨_, rfl⟩
noncomputable def impl_in {α : Type} : Nat → Int → Int → Int → (Bool → Option α) → Option α := Classical.choose impl_in.ex α
theorem impl_in.eq : @impl_in = @impl_in.b := funext fun α => congrFun (Classical.choose_spec impl_in.ex) α

/-- loop.example/pinfold/impl.NatOk$1 -/
noncomputable def impl_NatOk_1.b {α : Type} (N : Nat) (a281 : Int) (k0 : Bool → Option α) : Option α :=
  impl_in N a281 (0 : Int) (65535 : Int)
    (fun x287 =>
      let x288 := !x287
      k0 x288)
theorem impl_NatOk_1.ex : ∃ f : ((α : Type) → Nat → Int → (Bool → Option α) → Option α), f = fun α => @impl_NatOk_1.b α := ⟨_, rfl⟩
noncomputable def impl_NatOk_1 {α : Type} : Nat → Int → (Bool → Option α) → Option α := Classical.choose impl_NatOk_1.ex α
theorem impl_NatOk_1.eq : @impl_NatOk_1 = @impl_NatOk_1.b := funext fun α => congrFun (Classical.choose_spec impl_NatOk_1.ex) α

noncomputable def slices_IndexFunc_int_int__impl_NatOk_1_L0r {α : Type} (N : Nat) (next : List Int → Int → Int → Option α) (k0 : Int → Option α) (k1 : Option α) (v276 : List Int) (v277 : Int) (v278 : Int) : Option α :=
  let x279 := decide (v278 < v277)
  bif x279 then
    bif (decide (v278 < (0 : Int))) then
      none
    else
      match v276[v278.toNat]? with
      | some x280 =>
        impl_NatOk_1 N x280
          (fun x289 =>
            bif x289 then
              k0 v278
            else
              let x290 := (IntKind.i64.wrap (v278 + (1 : Int)))
              next v276 v277 x290)
      | none => none
  else
    k1
noncomputable def slices_IndexFunc_int_int__impl_NatOk_1_L0.b {α : Type} (N n : Nat) (v276 : List Int) (v277 : Int) (v278 : Int) (k0 : Int → Option α) (k1 : Option α) : Option α :=
  Nat.rec (motive := fun _ => List Int → Int → Int → Option α) (fun _ _ _ => none) (fun _ next => slices_IndexFunc_int_int__impl_NatOk_1_L0r N next k0 k1) n v276 v277 v278
theorem slices_IndexFunc_int_int__impl_NatOk_1_L0.ex : ∃ f : ((α : Type) → Nat → Nat → List Int → Int → Int → (Int → Option α) → (Option α) → Option α), f = fun α => @slices_IndexFunc_int_int__impl_NatOk_1_L0.b α := ⟨_, rfl⟩
noncomputable def slices_IndexFunc_int_int__impl_NatOk_1_L0 {α : Type} : Nat → Nat → List Int → Int → Int → (Int → Option α) → (Option α) → Option α := Classical.choose slices_IndexFunc_int_int__impl_NatOk_1_L0.ex α
theorem slices_IndexFunc_int_int__impl_NatOk_1_L0.eq : @slices_IndexFunc_int_int__impl_NatOk_1_L0 = @slices_IndexFunc_int_int__impl_NatOk_1_L0.b := funext fun α => congrFun (Classical.choose_spec slices_IndexFunc_int_int__impl_NatOk_1_L0.ex) α
theorem slices_IndexFunc_int_int__impl_NatOk_1_L0.zero {α : Type} (N : Nat) (v276 : List Int) (v277 : Int) (v278 : Int) (k0 : Int → Option α) (k1 : Option α) : slices_IndexFunc_int_int__impl_NatOk_1_L0 N 0 v276 v277 v278 k0 k1 = none := by rw [slices_IndexFunc_int_int__impl_NatOk_1_L0.eq]; rfl
theorem slices_IndexFunc_int_int__impl_NatOk_1_L0.succ {α : Type} (N n : Nat) (v276 : List Int) (v277 : Int) (v278 : Int) (k0 : Int → Option α) (k1 : Option α) : slices_IndexFunc_int_int__impl_NatOk_1_L0 N (n + 1) v276 v277 v278 k0 k1 = slices_IndexFunc_int_int__impl_NatOk_1_L0r N (fun y0 y1 y2 => slices_IndexFunc_int_int__impl_NatOk_1_L0 N n y0 y1 y2 k0 k1) k0 k1 v276 v277 v278 := by rw [slices_IndexFunc_int_int__impl_NatOk_1_L0.eq]; rfl
/-- slices.IndexFunc[[]int,int] -/
noncomputable def slices_IndexFunc_int_int__impl_NatOk_1.b {α : Type} (N : Nat) (a274 : List Int) (k0 : Int → Option α) : Option α :=
  let x275 := ((a274.length : Nat) : Int)
  slices_IndexFunc_int_int__impl_NatOk_1_L0 N N a274 x275 (0 : Int)
    (fun x291 =>
      k0 x291)
    (
      k0 (-1 : Int))
theorem slices_IndexFunc_int_int__impl_NatOk_1.ex : ∃ f : ((α : Type) → Nat → List Int → (Int → Option α) → Option α), f = fun α => @slices_IndexFunc_int_int__impl_NatOk_1.b α := ⟨_, rfl⟩
noncomputable def slices_IndexFunc_int_int__impl_NatOk_1 {α : Type} : Nat → List Int → (Int → Option α) → Option α := Classical.choose slices_IndexFunc_int_int__impl_NatOk_1.ex α
theorem slices_IndexFunc_int_int__impl_NatOk_1.eq : @slices_IndexFunc_int_int__impl_NatOk_1 = @slices_IndexFunc_int_int__impl_NatOk_1.b := funext fun α => congrFun (Classical.choose_spec slices_IndexFunc_int_int__impl_NatOk_1.ex) α

/-- slices.ContainsFunc[[]int,int] -/
noncomputable def slices_ContainsFunc_int_int__impl_NatOk_1.b {α : Type} (N : Nat) (a273 : List Int) (k0 : Bool → Option α) : Option α :=
  slices_IndexFunc_int_int__impl_NatOk_1 N a273
    (fun x292 =>
      let x293 := (decide ((0 : Int) ≤ x292))
      k0 x293)
theorem slices_ContainsFunc_int_int__impl_NatOk_1.ex : ∃ f : ((α : Type) → Nat → List Int → (Bool → Option α) → Option α), f = fun α => @slices_ContainsFunc_int_int__impl_NatOk_1.b α := ⟨_, rfl⟩
noncomputable def slices_ContainsFunc_int_int__impl_NatOk_1 {α : Type} : Nat → List Int → (Bool → Option α) → Option α := Classical.choose slices_ContainsFunc_int_int__impl_NatOk_1.ex α
theorem slices_ContainsFunc_int_int__impl_NatOk_1.eq : @slices_ContainsFunc_int_int__impl_NatOk_1 = @slices_ContainsFunc_int_int__impl_NatOk_1.b := funext fun α => congrFun (Classical.choose_spec slices_ContainsFunc_int_int__impl_NatOk_1.ex) α

/-- loop.example/pinfold/impl.NatOk -/
noncomputable def impl_NatOk.b {α : Type} (N : Nat) (a268 : List Int) (k0 : Bool → Option α) : Option α :=
  let x269 := ((a268.length : Nat) : Int)
  let x270 := (decide (x269 ≤ (256 : Int)))
  bif x270 then
    let x271 := ((a268.length : Nat) : Int)
    let x272 := (decide (x271 = (0 : Int)))
    bif x272 then
      slices_ContainsFunc_int_int__impl_NatOk_1 N a268
        (fun x294 =>
          let x295 := !x294
          k0 x295)
    else
      let x296 := ((a268.length : Nat) : Int)
      let x297 := (IntKind.i64.wrap (x296 - (1 : Int)))
      bif (decide (x297 < (0 : Int))) then
        none
      else
        match a268[x297.toNat]? with
        | some x298 =>
          let x299 := (!(decide (x298 = (0 : Int))))
          bif x299 then
            slices_ContainsFunc_int_int__impl_NatOk_1 N a268
              (fun x300 =>
                let x301 := !x300
                k0 x301)
          else
            k0 false
        | none => none
  else
    k0 false
theorem impl_NatOk.ex : ∃ f : ((α : Type) → Nat → List Int → (Bool → Option α) → Option α), f = fun α => @impl_NatOk.b α := ⟨_, rfl⟩
noncomputable def impl_NatOk {α : Type} : Nat → List Int → (Bool → Option α) → Option α := Classical.choose impl_NatOk.ex α
theorem impl_NatOk.eq : @impl_NatOk = @impl_NatOk.b := funext fun α => congrFun (Classical.choose_spec impl_NatOk.ex) α

/-- loop.example/pinfold/impl.nats$1 -/
noncomputable def impl_nats_1.b {α : Type} (N : Nat) (a267 : List Int) (k0 : Bool → Option α) : Option α :=
  impl_NatOk N a267
    (fun x302 =>
      let x303 := !x302
      k0 x303)
theorem impl_nats_1.ex : ∃ f : ((α : Type) → Nat → List Int → (Bool → Option α) → Option α), f = fun α => @impl_nats_1.b α := ⟨_, rfl⟩
noncomputable def impl_nats_1 {α : Type} : Nat → List Int → (Bool → Option α) → Option α := Classical.choose impl_nats_1.ex α
theorem impl_nats_1.eq : @impl_nats_1 = @impl_nats_1.b := funext fun α => congrFun (Classical.choose_spec impl_nats_1.ex) α

noncomputable def slices_IndexFunc_int_int__impl_nats_1_L0r {α : Type} (N : Nat) (next : List (List Int) → Int → Int → Option α) (k0 : Int → Option α) (k1 : Option α) (v262 : List (List Int)) (v263 : Int) (v264 : Int) : Option α :=
  let x265 := decide (v264 < v263)
  bif x265 then
    bif (decide (v264 < (0 : Int))) then
      none
    else
      match v262[v264.toNat]? with
      | some x266 =>
        impl_nats_1 N x266
          (fun x304 =>
            bif x304 then
              k0 v264
            else
              let x305 := (IntKind.i64.wrap (v264 + (1 : Int)))
              next v262 v263 x305)
      | none => none
  else
    k1
noncomputable def slices_IndexFunc_int_int__impl_nats_1_L0.b {α : Type} (N n : Nat) (v262 : List (List Int)) (v263 : Int) (v264 : Int) (k0 : Int → Option α) (k1 : Option α) : Option α :=
  Nat.rec (motive := fun _ => List (List Int) → Int → Int → Option α) (fun _ _ _ => none) (fun _ next => slices_IndexFunc_int_int__impl_nats_1_L0r N next k0 k1) n v262 v263 v264
theorem slices_IndexFunc_int_int__impl_nats_1_L0.ex : ∃ f : ((α : Type) → Nat → Nat → List (List Int) → Int → Int → (Int → Option α) → (Option α) → Option α), f = fun α => @slices_IndexFunc_int_int__impl_nats_1_L0.b α := ⟨_, rfl⟩
noncomputable def slices_IndexFunc_int_int__impl_nats_1_L0 {α : Type} : Nat → Nat → List (List Int) → Int → Int → (Int → Option α) → (Option α) → Option α := Classical.choose slices_IndexFunc_int_int__impl_nats_1_L0.ex α
theorem slices_IndexFunc_int_int__impl_nats_1_L0.eq : @slices_IndexFunc_int_int__impl_nats_1_L0 = @slices_IndexFunc_int_int__impl_nats_1_L0.b := funext fun α => congrFun (Classical.choose_spec slices_IndexFunc_int_int__impl_nats_1_L0.ex) α
theorem slices_IndexFunc_int_int__impl_nats_1_L0.zero {α : Type} (N : Nat) (v262 : List (List Int)) (v263 : Int) (v264 : Int) (k0 : Int → Option α) (k1 : Option α) : slices_IndexFunc_int_int__impl_nats_1_L0 N 0 v262 v263 v264 k0 k1 = none := by rw [slices_IndexFunc_int_int__impl_nats_1_L0.eq]; rfl
theorem slices_IndexFunc_int_int__impl_nats_1_L0.succ {α : Type} (N n : Nat) (v262 : List (List Int)) (v263 : Int) (v264 : Int) (k0 : Int → Option α) (k1 : Option α) : slices_IndexFunc_int_int__impl_nats_1_L0 N (n + 1) v262 v263 v264 k0 k1 = slices_IndexFunc_int_int__impl_nats_1_L0r N (fun y0 y1 y2 => slices_IndexFunc_int_int__impl_nats_1_L0 N n y0 y1 y2 k0 k1) k0 k1 v262 v263 v264 := by rw [slices_IndexFunc_int_int__impl_nats_1_L0.eq]; rfl
/-- slices.IndexFunc[[][]int,[]int] -/
noncomputable def slices_IndexFunc_int_int__impl_nats_1.b {α : Type} (N : Nat) (a260 : List (List Int)) (k0 : Int → Option α) : Option α :=
  let x261 := ((a260.length : Nat) : Int)
  slices_IndexFunc_int_int__impl_nats_1_L0 N N a260 x261 (0 : Int)
    (fun x306 =>
      k0 x306)
    (
      k0 (-1 : Int))
theorem slices_IndexFunc_int_int__impl_nats_1.ex : ∃ f : ((α : Type) → Nat → List (List Int) → (Int → Option α) → Option α), f = fun α => @slices_IndexFunc_int_int__impl_nats_1.b α := ⟨_, rfl⟩
noncomputable def slices_IndexFunc_int_int__impl_nats_1 {α : Type} : Nat → List (List Int) → (Int → Option α) → Option α := Classical.choose slices_IndexFunc_int_int__impl_nats_1.ex α
theorem slices_IndexFunc_int_int__impl_nats_1.eq : @slices_IndexFunc_int_int__impl_nats_1 = @slices_IndexFunc_int_int__impl_nats_1.b := funext fun α => congrFun (Classical.choose_spec slices_IndexFunc_int_int__impl_nats_1.ex) α

/-- slices.ContainsFunc[[][]int,[]int] -/
noncomputable def slices_ContainsFunc_int_int__impl_nats_1.b {α : Type} (N : Nat) (a259 : List (List Int)) (k0 : Bool → Option α) : Option α :=
  slices_IndexFunc_int_int__impl_nats_1 N a259
    (fun x307 =>
      let x308 := (decide ((0 : Int) ≤ x307))
      k0 x308)
theorem slices_ContainsFunc_int_int__impl_nats_1.ex : ∃ f : ((α : Type) → Nat → List (List Int) → (Bool → Option α) → Option α), f = fun α => @slices_ContainsFunc_int_int__impl_nats_1.b α := ⟨_, rfl⟩
noncomputable def slices_ContainsFunc_int_int__impl_nats_1 {α : Type} : Nat → List (List Int) → (Bool → Option α) → Option α := Classical.choose slices_ContainsFunc_int_int__impl_nats_1.ex α
theorem slices_ContainsFunc_int_int__impl_nats_1.eq : @slices_ContainsFunc_int_int__impl_nats_1 = @slices_ContainsFunc_int_int__impl_nats_1.b := funext fun α => congrFun (Classical.choose_spec slices_ContainsFunc_int_int__impl_nats_1.ex) α

/-- loop.example/pinfold/impl.nats -/
noncomputable def impl_nats.b {α : Type} (N : Nat) (a258 : List (List Int)) (k0 : Bool → Option α) : Option α :=
  slices_ContainsFunc_int_int__impl_nats_1 N a258
    (fun x309 =>
      let x310 := !x309
      k0 x310)
theorem impl_nats.ex : ∃ f : ((α : Type) → Nat → List (List Int) → (Bool → Option α) → Option α), f = fun α => @impl_nats.b α := ⟨_, rfl⟩
noncomputable def impl_nats {α : Type} : Nat → List (List Int) → (Bool → Option α) → Option α := Classical.choose impl_nats.ex α
theorem impl_nats.eq : @impl_nats = @impl_nats.b := funext fun α => congrFun (Classical.choose_spec impl_nats.ex) α

noncomputable def impl_natCmp_L0r {α : Type} (N : Nat) (next : List Int → List Int → Int → Option α) (k0 : Int → Option α) (k1 : Option α) (v398 : List Int) (v399 : List Int) (v400 : Int) : Option α :=
  let x401 := (decide ((0 : Int) ≤ v400))
  bif x401 then
    bif (decide (v400 < (0 : Int))) then
      none
    else
      match v398[v400.toNat]? with
      | some x402 =>
        bif (decide (v400 < (0 : Int))) then
          none
        else
          match v399[v400.toNat]? with
          | some x403 =>
            let x404 := !(decide (x402 = x403))
            bif x404 then
              bif (decide (v400 < (0 : Int))) then
                none
              else
                match v398[v400.toNat]? with
                | some x405 =>
                  bif (decide (v400 < (0 : Int))) then
                    none
                  else
                    match v399[v400.toNat]? with
                    | some x406 =>
                      let x407 := IntKind.i64.wrap (x405 - x406)
                      let x408 := (minI (1 : Int) x407)
                      let x409 := (maxI (-1 : Int) x408)
                      k0 x409
                    | none => none
                | none => none
            else
              let x410 := (IntKind.i64.wrap (v400 - (1 : Int)))
              next v398 v399 x410
          | none => none
      | none => none
  else
    k1
noncomputable def impl_natCmp_L0.b {α : Type} (N n : Nat) (v398 : List Int) (v399 : List Int) (v400 : Int) (k0 : Int → Option α) (k1 : Option α) : Option α :=
  Nat.rec (motive := fun _ => List Int → List Int → Int → Option α) (fun _ _ _ => none) (fun _ next => impl_natCmp_L0r N next k0 k1) n v398 v399 v400
theorem impl_natCmp_L0.ex : ∃ f : ((α : Type) → Nat → Nat → List Int → List Int → Int → (Int → Option α) → (Option α) → Option α), f = fun α => @impl_natCmp_L0.b α := ⟨_, rfl⟩
noncomputable def impl_natCmp_L0 {α : Type} : Nat → Nat → List Int → List Int → Int → (Int → Option α) → (Option α) → Option α := Classical.choose impl_natCmp_L0.ex α
theorem impl_natCmp_L0.eq : @impl_natCmp_L0 = @impl_natCmp_L0.b := funext fun α => congrFun (Classical.choose_spec impl_natCmp_L0.ex) α
theorem impl_natCmp_L0.zero {α : Type} (N : Nat) (v398 : List Int) (v399 : List Int) (v400 : Int) (k0 : Int → Option α) (k1 : Option α) : impl_natCmp_L0 N 0 v398 v399 v400 k0 k1 = none := by rw [impl_natCmp_L0.eq]; rfl
theorem impl_natCmp_L0.succ {α : Type} (N n : Nat) (v398 : List Int) (v399 : List Int) (v400 : Int) (k0 : Int → Option α) (k1 : Option α) : impl_natCmp_L0 N (n + 1) v398 v399 v400 k0 k1 = impl_natCmp_L0r N (fun y0 y1 y2 => impl_natCmp_L0 N n y0 y1 y2 k0 k1) k0 k1 v398 v399 v400 := by rw [impl_natCmp_L0.eq]; rfl
/-- loop.example/pinfold/impl.natCmp -/
noncomputable def impl_natCmp.b {α : Type} (N : Nat) (a386 : List Int) (a387 : List Int) (k0 : Int → Option α) : Option α :=
  let x388 := ((a386.length : Nat) : Int)
  let x389 := ((a387.length : Nat) : Int)
  let x390 := !(decide (x388 = x389))
  bif x390 then
    let x391 := ((a386.length : Nat) : Int)
    let x392 := ((a387.length : Nat) : Int)
    let x393 := IntKind.i64.wrap (x391 - x392)
    let x394 := (minI (1 : Int) x393)
    let x395 := (maxI (-1 : Int) x394)
    k0 x395
  else
    let x396 := ((a386.length : Nat) : Int)
    let x397 := (IntKind.i64.wrap (x396 - (1 : Int)))
    impl_natCmp_L0 N N a386 a387 x397
      (fun x411 =>
        k0 x411)
      (
        k0 (0 : Int))
theorem impl_natCmp.ex : ∃ f : ((α : Type) → Nat → List Int → List Int → (Int → Option α) → Option α), f = fun α => @impl_natCmp.b α := ⟨_, rfl⟩
noncomputable def impl_natCmp {α : Type} : Nat → List Int → List Int → (Int → Option α) → Option α := Classical.choose impl_natCmp.ex α
theorem impl_natCmp.eq : @impl_natCmp = @impl_natCmp.b := funext fun α => congrFun (Classical.choose_spec impl_natCmp.ex) α

noncomputable def impl_trim_L0r {α : Type} (N : Nat) (next : List Int → Option α) (k0 : List Int → Option α) (v439 : List Int) : Option α :=
  let x440 := ((v439.length : Nat) : Int)
  let x441 := (decide ((0 : Int) < x440))
  bif x441 then
    let x442 := ((v439.length : Nat) : Int)
    let x443 := (IntKind.i64.wrap (x442 - (1 : Int)))
    bif (decide (x443 < (0 : Int))) then
      none
    else
      match v439[x443.toNat]? with
      | some x444 =>
        let x445 := (decide (x444 = (0 : Int)))
        bif x445 then
          let x446 := ((v439.length : Nat) : Int)
          let x447 := (IntKind.i64.wrap (x446 - (1 : Int)))
          bif (decide ((0 : Int) ≤ x447)) then
            bif (decide (x447 ≤ ((v439.length : Nat) : Int))) then
              let x448 := v439.take x447.toNat
              next x448
            else
              none
          else
            none
        else
          k0 v439
      | none => none
  else
    k0 v439
noncomputable def impl_trim_L0.b {α : Type} (N n : Nat) (v439 : List Int) (k0 : List Int → Option α) : Option α :=
  Nat.rec (motive := fun _ => List Int → Option α) (fun _ => none) (fun _ next => impl_trim_L0r N next k0) n v439
theorem impl_trim_L0.ex : ∃ f : ((α : Type) → Nat → Nat → List Int → (List Int → Option α) → Option α), f = fun α => @impl_trim_L0.b α := ⟨_, rfl⟩
noncomputable def impl_trim_L0 {α : Type} : Nat → Nat → List Int → (List Int → Option α) → Option α := Classical.choose impl_trim_L0.ex α
theorem impl_trim_L0.eq : @impl_trim_L0 = @impl_trim_L0.b := funext fun α => congrFun (Classical.choose_spec impl_trim_L0.ex) α
theorem impl_trim_L0.zero {α : Type} (N : Nat) (v439 : List Int) (k0 : List Int → Option α) : impl_trim_L0 N 0 v439 k0 = none := by rw [impl_trim_L0.eq]; rfl
theorem impl_trim_L0.succ {α : Type} (N n : Nat) (v439 : List Int) (k0 : List Int → Option α) : impl_trim_L0 N (n + 1) v439 k0 = impl_trim_L0r N (fun y0 => impl_trim_L0 N n y0 k0) k0 v439 := by rw [impl_trim_L0.eq]; rfl
/-- loop.example/pinfold/impl.trim -/
noncomputable def impl_trim.b {α : Type} (N : Nat) (a438 : List Int) (k0 : List Int → Option α) : Option α :=
  impl_trim_L0 N N a438
    (fun x449 =>
      k0 x449)
theorem impl_trim.ex : ∃ f : ((α : Type) → Nat → List Int → (List Int → Option α) → Option α), f = fun α => @impl_trim.b α := ⟨_, rfl⟩
noncomputable def impl_trim {α : Type} : Nat → List Int → (List Int → Option α) → Option α := Classical.choose impl_trim.ex α
theorem impl_trim.eq : @impl_trim = @impl_trim.b := funext fun α => congrFun (Classical.choose_spec impl_trim.ex) α

noncomputable def math_bits_Len64_J1.b {α : Type} (N : Nat) (v459 : Int) (v460 : Int) (k0 : Int → Int → Option α) : Option α :=
  let x461 := (decide ((4294967296 : Int) ≤ v459))
  bif x461 then
    let x462 := (shrI .u64 v459 (32 : Int))
    k0 x462 (32 : Int)
  else
    k0 v459 v460
theorem math_bits_Len64_J1.ex : ∃ f : ((α : Type) → Nat → Int → Int → (Int → Int → Option α) → Option α), f = fun α => @math_bits_Len64_J1.b α := ⟨_, rfl⟩
noncomputable def math_bits_Len64_J1 {α : Type} : Nat → Int → Int → (Int → Int → Option α) → Option α := Classical.choose math_bits_Len64_J1.ex α
theorem math_bits_Len64_J1.eq : @math_bits_Len64_J1 = @math_bits_Len64_J1.b := funext fun α => congrFun (Classical.choose_spec math_bits_Len64_J1.ex) α
noncomputable def math_bits_Len64_J4.b {α : Type} (N : Nat) (v465 : Int) (v466 : Int) (k0 : Int → Int → Option α) : Option α :=
  let x467 := (decide ((65536 : Int) ≤ v465))
  bif x467 then
    let x468 := (shrI .u64 v465 (16 : Int))
    let x469 := (IntKind.i64.wrap (v466 + (16 : Int)))
    k0 x468 x469
  else
    k0 v465 v466
theorem math_bits_Len64_J4.ex : ∃ f : ((α : Type) → Nat → Int → Int → (Int → Int → Option α) → Option α), f = fun α => @math_bits_Len64_J4.b α := ⟨_, rfl⟩
noncomputable def math_bits_Len64_J4 {α : Type} : Nat → Int → Int → (Int → Int → Option α) → Option α := Classical.choose math_bits_Len64_J4.ex α
theorem math_bits_Len64_J4.eq : @math_bits_Len64_J4 = @math_bits_Len64_J4.b := funext fun α => congrFun (Classical.choose_spec math_bits_Len64_J4.ex) α
noncomputable def math_bits_Len64_J7.b {α : Type} (N : Nat) (v472 : Int) (v473 : Int) (k0 : Int → Int → Option α) : Option α :=
  let x474 := (decide ((256 : Int) ≤ v472))
  bif x474 then
    let x475 := (shrI .u64 v472 (8 : Int))
    let x476 := (IntKind.i64.wrap (v473 + (8 : Int)))
    k0 x475 x476
  else
    k0 v472 v473
theorem math_bits_Len64_J7.ex : ∃ f : ((α : Type) → Nat → Int → Int → (Int → Int → Option α) → Option α), f = fun α => @math_bits_Len64_J7.b α := ⟨_, rfl⟩
noncomputable def math_bits_Len64_J7 {α : Type} : Nat → Int → Int → (Int → Int → Option α) → Option α := Classical.choose math_bits_Len64_J7.ex α
theorem math_bits_Len64_J7.eq : @math_bits_Len64_J7 = @math_bits_Len64_J7.b := funext fun α => congrFun (Classical.choose_spec math_bits_Len64_J7.ex) α
/-- math/bits.Len64 -/
noncomputable def math_bits_Len64.b {α : Type} (N : Nat) (a458 : Int) (k0 : Int → Option α) : Option α :=
  math_bits_Len64_J1 N a458 (0 : Int)
    (fun x463 x464 =>
      math_bits_Len64_J4 N x463 x464
        (fun x470 x471 =>
          math_bits_Len64_J7 N x470 x471
            (fun x477 x478 =>
              let x479 := IntKind.u8.wrap x477
              bif (decide (x479 < (0 : Int))) then
                none
              else
                match ((⟨#[0, 1, 2, 2, 3, 3, 3, 3, 4, 4, 4, 4, 4, 4, 4, 4, 5, 5, 5, 5, 5, 5, 5, 5, 5, 5, 5, 5, 5, 5, 5, 5, 6, 6, 6, 6, 6, 6, 6, 6, 6, 6, 6, 6, 6, 6, 6, 6, 6, 6, 6, 6, 6, 6, 6, 6, 6, 6, 6, 6, 6, 6, 6, 6, 7, 7, 7, 7, 7, 7, 7, 7, 7, 7, 7, 7, 7, 7, 7, 7, 7, 7, 7, 7, 7, 7, 7, 7, 7, 7, 7, 7, 7, 7, 7, 7, 7, 7, 7, 7, 7, 7, 7, 7, 7, 7, 7, 7, 7, 7, 7, 7, 7, 7, 7, 7, 7, 7, 7, 7, 7, 7, 7, 7, 7, 7, 7, 7, 8, 8, 8, 8, 8, 8, 8, 8, 8, 8, 8, 8, 8, 8, 8, 8, 8, 8, 8, 8, 8, 8, 8, 8, 8, 8, 8, 8, 8, 8, 8, 8, 8, 8, 8, 8, 8, 8, 8, 8, 8, 8, 8, 8, 8, 8, 8, 8, 8, 8, 8, 8, 8, 8, 8, 8, 8, 8, 8, 8, 8, 8, 8, 8, 8, 8, 8, 8, 8, 8, 8, 8, 8, 8, 8, 8, 8, 8, 8, 8, 8, 8, 8, 8, 8, 8, 8, 8, 8, 8, 8, 8, 8, 8, 8, 8, 8, 8, 8, 8, 8, 8, 8, 8, 8, 8, 8, 8, 8, 8, 8, 8, 8, 8, 8, 8, 8, 8, 8, 8, 8, 8, 8, 8, 8, 8, 8, 8]⟩ : ByteArray)[x479.toNat]? : Option UInt8) with
                | some x480 =>
                  let x481 := ((x480.toNat : Nat) : Int)
                  let x482 := IntKind.i64.wrap x481
                  let x483 := IntKind.i64.wrap (x478 + x482)
                  k0 x483
                | none => none)))
theorem math_bits_Len64.ex : ∃ f : ((α : Type) → Nat → Int → (Int → Option α) → Option α), f = fun α => @math_bits_Len64.b α := ⟨_, rfl⟩
noncomputable def math_bits_Len64 {α : Type} : Nat → Int → (Int → Option α) → Option α := Classical.choose math_bits_Len64.ex α
theorem math_bits_Len64.eq : @math_bits_Len64 = @math_bits_Len64.b := funext fun α => congrFun (Classical.choose_spec math_bits_Len64.ex) α

/-- math/bits.Len -/
noncomputable def math_bits_Len.b {α : Type} (N : Nat) (a457 : Int) (k0 : Int → Option α) : Option α :=
  math_bits_Len64 N a457
    (fun x484 =>
      k0 x484)
theorem math_bits_Len.ex : ∃ f : ((α : Type) → Nat → Int → (Int → Option α) → Option α), f = fun α => @math_bits_Len.b α := ⟨_, rfl⟩
noncomputable def math_bits_Len {α : Type} : Nat → Int → (Int → Option α) → Option α := Classical.choose math_bits_Len.ex α
theorem math_bits_Len.eq : @math_bits_Len = @math_bits_Len.b := funext fun α => congrFun (Classical.choose_spec math_bits_Len.ex) α

/-- slices.Clone[[]int,int] -/
noncomputable def slices_Clone_int_int {α : Type} (N : Nat) (a1 : List Int) (k0 : List Int → Option α) : Option α :=
  bif decide (([] : List Int).length + a1.length ≤ 8796093022208) then k0 a1 else none

noncomputable def impl_natShift_J10.b {α : Type} (N : Nat) (v563 : List Int) (v564 : Int) (v565 : Int) (v566 : Int) (v567 : Int) (v568 : Int) (v569 : List Int) (k0 : List Int → Int → Int → Int → Int → List Int → Option α) : Option α :=
  let x570 := IntKind.i64.wrap (v564 + v566)
  let x571 := (IntKind.i64.wrap (x570 + (1 : Int)))
  let x572 := ((v563.length : Nat) : Int)
  let x573 := decide (x571 < x572)
  bif x573 then
    bif (decide (v566 < (0 : Int))) then
      none
    else
      bif decide (v566.toNat < v569.length) then
        match v569[v566.toNat]? with
        | some x574 =>
          let x575 := IntKind.i64.wrap (v564 + v566)
          let x576 := (IntKind.i64.wrap (x575 + (1 : Int)))
          bif (decide (x576 < (0 : Int))) then
            none
          else
            match v563[x576.toNat]? with
            | some x577 =>
              let x578 := (IntKind.i64.wrap ((16 : Int) - v565))
              bif (decide (x578 < (0 : Int))) then
                none
              else
                let x579 := shlI .i64 x577 x578
                let x580 := (bitI .and .i64 x579 (65535 : Int))
                let x581 := bitI .or .i64 x574 x580
                bif (decide (v566 < (0 : Int))) then
                  none
                else
                  bif decide (v566.toNat < v569.length) then
                    match v569[v566.toNat]? with
                    | some x582 =>
                      let x583 := v569.set v566.toNat x581
                      k0 v563 v564 v565 v567 v568 x583
                    | none => none
                  else
                    none
            | none => none
        | none => none
      else
        none
  else
    k0 v563 v564 v565 v567 v568 v569
theorem impl_natShift_J10.ex : ∃ f : ((α : Type) → Nat → List Int → Int → Int → Int → Int → Int → List Int → (List Int → Int → Int → Int → Int → List Int → Option α) → Option α), f = fun α => @impl_natShift_J10.b α := ⟨_, rfl⟩
noncomputable def impl_natShift_J10 {α : Type} : Nat → List Int → Int → Int → Int → Int → Int → List Int → (List Int → Int → Int → Int → Int → List Int → Option α) → Option α := Classical.choose impl_natShift_J10.ex α
theorem impl_natShift_J10.eq : @impl_natShift_J10 = @impl_natShift_J10.b := funext fun α => congrFun (Classical.choose_spec impl_natShift_J10.ex) α
noncomputable def impl_natShift_L0r {α : Type} (N : Nat) (next : List Int → Int → Int → Int → Int → List Int → Option α) (k0 : List Int → Option α) (v552 : List Int) (v553 : Int) (v554 : Int) (v555 : Int) (v556 : Int) (v557 : List Int) : Option α :=
  let x558 := decide (v556 < v555)
  bif x558 then
    bif (decide (v556 < (0 : Int))) then
      none
    else
      bif decide (v556.toNat < v557.length) then
        match v557[v556.toNat]? with
        | some x559 =>
          bif (decide (v554 < (0 : Int))) then
            none
          else
            let x560 := shrI .i64 x559 v554
            bif (decide (v556 < (0 : Int))) then
              none
            else
              bif decide (v556.toNat < v557.length) then
                match v557[v556.toNat]? with
                | some x561 =>
                  let x562 := v557.set v556.toNat x560
                  impl_natShift_J10 N v552 v553 v554 v556 v555 v556 x562
                    (fun x584 x585 x586 x587 x588 x589 =>
                      let x590 := (IntKind.i64.wrap (x588 + (1 : Int)))
                      next x584 x585 x586 x587 x590 x589)
                | none => none
              else
                none
        | none => none
      else
        none
  else
    k0 v557
noncomputable def impl_natShift_L0.b {α : Type} (N n : Nat) (v552 : List Int) (v553 : Int) (v554 : Int) (v555 : Int) (v556 : Int) (v557 : List Int) (k0 : List Int → Option α) : Option α :=
  Nat.rec (motive := fun _ => List Int → Int → Int → Int → Int → List Int → Option α) (fun _ _ _ _ _ _ => none) (fun _ next => impl_natShift_L0r N next k0) n v552 v553 v554 v555 v556 v557
theorem impl_natShift_L0.ex : ∃ f : ((α : Type) → Nat → Nat → List Int → Int → Int → Int → Int → List Int → (List Int → Option α) → Option α), f = fun α => @impl_natShift_L0.b α := ⟨_, rfl⟩
noncomputable def impl_natShift_L0 {α : Type} : Nat → Nat → List Int → Int → Int → Int → Int → List Int → (List Int → Option α) → Option α := Classical.choose impl_natShift_L0.ex α
theorem impl_natShift_L0.eq : @impl_natShift_L0 = @impl_natShift_L0.b := funext fun α => congrFun (Classical.choose_spec impl_natShift_L0.ex) α
theorem impl_natShift_L0.zero {α : Type} (N : Nat) (v552 : List Int) (v553 : Int) (v554 : Int) (v555 : Int) (v556 : Int) (v557 : List Int) (k0 : List Int → Option α) : impl_natShift_L0 N 0 v552 v553 v554 v555 v556 v557 k0 = none := by rw [impl_natShift_L0.eq]; rfl
theorem impl_natShift_L0.succ {α : Type} (N n : Nat) (v552 : List Int) (v553 : Int) (v554 : Int) (v555 : Int) (v556 : Int) (v557 : List Int) (k0 : List Int → Option α) : impl_natShift_L0 N (n + 1) v552 v553 v554 v555 v556 v557 k0 = impl_natShift_L0r N (fun y0 y1 y2 y3 y4 y5 => impl_natShift_L0 N n y0 y1 y2 y3 y4 y5 k0) k0 v552 v553 v554 v555 v556 v557 := by rw [impl_natShift_L0.eq]; rfl
noncomputable def impl_natShift_L2r {α : Type} (N : Nat) (next : Int → List Int → Int → Int → List Int → Option α) (k0 : List Int → Option α) (v599 : Int) (v600 : List Int) (v601 : Int) (v602 : Int) (v603 : List Int) : Option α :=
  let x604 := decide (v602 < v601)
  bif x604 then
    bif (decide (v602 < (0 : Int))) then
      none
    else
      match v600[v602.toNat]? with
      | some x605 =>
        let x606 := (Int.tmod v599 (16 : Int))
        bif (decide (x606 < (0 : Int))) then
          none
        else
          let x607 := shlI .i64 x605 x606
          let x608 := (IntKind.i64.wrap (Int.tdiv v599 (16 : Int)))
          let x609 := IntKind.i64.wrap (x608 + v602)
          bif (decide (x609 < (0 : Int))) then
            none
          else
            bif decide (x609.toNat < v603.length) then
              match v603[x609.toNat]? with
              | some x610 =>
                let x611 := (bitI .and .i64 x607 (65535 : Int))
                let x612 := bitI .or .i64 x610 x611
                bif (decide (x609 < (0 : Int))) then
                  none
                else
                  bif decide (x609.toNat < v603.length) then
                    match v603[x609.toNat]? with
                    | some x613 =>
                      let x614 := v603.set x609.toNat x612
                      let x615 := (IntKind.i64.wrap (Int.tdiv v599 (16 : Int)))
                      let x616 := IntKind.i64.wrap (x615 + v602)
                      let x617 := (IntKind.i64.wrap (x616 + (1 : Int)))
                      let x618 := (shrI .i64 x607 (16 : Int))
                      bif (decide (x617 < (0 : Int))) then
                        none
                      else
                        bif decide (x617.toNat < x614.length) then
                          match x614[x617.toNat]? with
                          | some x619 =>
                            let x620 := x614.set x617.toNat x618
                            let x621 := (IntKind.i64.wrap (v602 + (1 : Int)))
                            next v599 v600 v601 x621 x620
                          | none => none
                        else
                          none
                    | none => none
                  else
                    none
              | none => none
            else
              none
      | none => none
  else
    k0 v603
noncomputable def impl_natShift_L2.b {α : Type} (N n : Nat) (v599 : Int) (v600 : List Int) (v601 : Int) (v602 : Int) (v603 : List Int) (k0 : List Int → Option α) : Option α :=
  Nat.rec (motive := fun _ => Int → List Int → Int → Int → List Int → Option α) (fun _ _ _ _ _ => none) (fun _ next => impl_natShift_L2r N next k0) n v599 v600 v601 v602 v603
theorem impl_natShift_L2.ex : ∃ f : ((α : Type) → Nat → Nat → Int → List Int → Int → Int → List Int → (List Int → Option α) → Option α), f = fun α => @impl_natShift_L2.b α := ⟨_, rfl⟩
noncomputable def impl_natShift_L2 {α : Type} : Nat → Nat → Int → List Int → Int → Int → List Int → (List Int → Option α) → Option α := Classical.choose impl_natShift_L2.ex α
theorem impl_natShift_L2.eq : @impl_natShift_L2 = @impl_natShift_L2.b := funext fun α => congrFun (Classical.choose_spec impl_natShift_L2.ex) α
theorem impl_natShift_L2.zero {α : Type} (N : Nat) (v599 : Int) (v600 : List Int) (v601 : Int) (v602 : Int) (v603 : List Int) (k0 : List Int → Option α) : impl_natShift_L2 N 0 v599 v600 v601 v602 v603 k0 = none := by rw [impl_natShift_L2.eq]; rfl
theorem impl_natShift_L2.succ {α : Type} (N n : Nat) (v599 : Int) (v600 : List Int) (v601 : Int) (v602 : Int) (v603 : List Int) (k0 : List Int → Option α) : impl_natShift_L2 N (n + 1) v599 v600 v601 v602 v603 k0 = impl_natShift_L2r N (fun y0 y1 y2 y3 y4 => impl_natShift_L2 N n y0 y1 y2 y3 y4 k0) k0 v599 v600 v601 v602 v603 := by rw [impl_natShift_L2.eq]; rfl
/-- loop.example/pinfold/impl.natShift -/
noncomputable def impl_natShift.b {α : Type} (N : Nat) (a540 : List Int) (a541 : Int) (k0 : List Int → Option α) : Option α :=
  let x542 := (decide (a541 < (0 : Int)))
  bif x542 then
    let x543 := IntKind.i64.wrap (0 - a541)
    let x544 := (IntKind.i64.wrap (Int.tdiv x543 (16 : Int)))
    let x545 := IntKind.i64.wrap (0 - a541)
    let x546 := (Int.tmod x545 (16 : Int))
    let x547 := ((a540.length : Nat) : Int)
    let x548 := decide (x547 ≤ x544)
    bif x548 then
      k0 []
    else
      bif (decide ((0 : Int) ≤ x544)) then
        bif (decide (x544 ≤ ((a540.length : Nat) : Int))) then
          let x549 := a540.drop x544.toNat
          slices_Clone_int_int N x549
            (fun x550 =>
              let x551 := ((x550.length : Nat) : Int)
              impl_natShift_L0 N N a540 x544 x546 x551 (0 : Int) x550
                (fun x591 =>
                  impl_trim N x591
                    (fun x592 =>
                      k0 x592)))
        else
          none
      else
        none
  else
    let x593 := (IntKind.i64.wrap (Int.tdiv a541 (16 : Int)))
    let x594 := ((a540.length : Nat) : Int)
    let x595 := IntKind.i64.wrap (x593 + x594)
    let x596 := (IntKind.i64.wrap (x595 + (1 : Int)))
    bif (decide ((0 : Int) ≤ x596)) then
      bif decide (x596 ≤ x596) then
        bif (decide (x596 ≤ ((8796093022208 : Nat) : Int))) then
          let x597 := (List.replicate x596.toNat (0 : Int))
          let x598 := ((a540.length : Nat) : Int)
          impl_natShift_L2 N N a541 a540 x598 (0 : Int) x597
            (fun x622 =>
              impl_trim N x622
                (fun x623 =>
                  k0 x623))
        else
          none
      else
        none
    else
      none
theorem impl_natShift.ex : ∃ f : ((α : Type) → Nat → List Int → Int → (List Int → Option α) → Option α), f = fun α => @impl_natShift.b α := ⟨_, rfl⟩
noncomputable def impl_natShift {α : Type} : Nat → List Int → Int → (List Int → Option α) → Option α := Classical.choose impl_natShift.ex α
theorem impl_natShift.eq : @impl_natShift = @impl_natShift.b := funext fun α => congrFun (Classical.choose_spec impl_natShift.ex) α

noncomputable def impl_natDiv_L0r {α : Type} (N : Nat) (next : List Int → List Int → Int → Int → List Int → Option α) (k0 : Int → List Int → Option α) (v420 : List Int) (v421 : List Int) (v422 : Int) (v423 : Int) (v424 : List Int) : Option α :=
  let x425 := (decide ((0 : Int) ≤ v423))
  bif x425 then
    let x426 := (shlI .i64 v422 (16 : Int))
    bif (decide (v423 < (0 : Int))) then
      none
    else
      match v420[v423.toNat]? with
      | some x427 =>
        let x428 := bitI .or .i64 x426 x427
        match v421[0]? with
        | some x429 =>
          bif (decide (x429 = (0 : Int))) then
            none
          else
            let x430 := IntKind.i64.wrap (Int.tdiv x428 x429)
            match v421[0]? with
            | some x431 =>
              bif (decide (x431 = (0 : Int))) then
                none
              else
                let x432 := Int.tmod x428 x431
                bif (decide (v423 < (0 : Int))) then
                  none
                else
                  bif decide (v423.toNat < v424.length) then
                    match v424[v423.toNat]? with
                    | some x433 =>
                      let x434 := v424.set v423.toNat x430
                      let x435 := (IntKind.i64.wrap (v423 - (1 : Int)))
                      next v420 v421 x432 x435 x434
                    | none => none
                  else
                    none
            | none => none
        | none => none
      | none => none
  else
    k0 v422 v424
noncomputable def impl_natDiv_L0.b {α : Type} (N n : Nat) (v420 : List Int) (v421 : List Int) (v422 : Int) (v423 : Int) (v424 : List Int) (k0 : Int → List Int → Option α) : Option α :=
  Nat.rec (motive := fun _ => List Int → List Int → Int → Int → List Int → Option α) (fun _ _ _ _ _ => none) (fun _ next => impl_natDiv_L0r N next k0) n v420 v421 v422 v423 v424
theorem impl_natDiv_L0.ex : ∃ f : ((α : Type) → Nat → Nat → List Int → List Int → Int → Int → List Int → (Int → List Int → Option α) → Option α), f = fun α => @impl_natDiv_L0.b α := ⟨_, rfl⟩
noncomputable def impl_natDiv_L0 {α : Type} : Nat → Nat → List Int → List Int → Int → Int → List Int → (Int → List Int → Option α) → Option α := Classical.choose impl_natDiv_L0.ex α
theorem impl_natDiv_L0.eq : @impl_natDiv_L0 = @impl_natDiv_L0.b := funext fun α => congrFun (Classical.choose_spec impl_natDiv_L0.ex) α
theorem impl_natDiv_L0.zero {α : Type} (N : Nat) (v420 : List Int) (v421 : List Int) (v422 : Int) (v423 : Int) (v424 : List Int) (k0 : Int → List Int → Option α) : impl_natDiv_L0 N 0 v420 v421 v422 v423 v424 k0 = none := by rw [impl_natDiv_L0.eq]; rfl
theorem impl_natDiv_L0.succ {α : Type} (N n : Nat) (v420 : List Int) (v421 : List Int) (v422 : Int) (v423 : Int) (v424 : List Int) (k0 : Int → List Int → Option α) : impl_natDiv_L0 N (n + 1) v420 v421 v422 v423 v424 k0 = impl_natDiv_L0r N (fun y0 y1 y2 y3 y4 => impl_natDiv_L0 N n y0 y1 y2 y3 y4 k0) k0 v420 v421 v422 v423 v424 := by rw [impl_natDiv_L0.eq]; rfl
noncomputable def impl_natDiv_L2r {α : Type} (N : Nat) (next : List Int → Int → List Int → Int → List Int → Option α) (k0 : Int → List Int → Int → List Int → Option α) (v630 : List Int) (v631 : Int) (v632 : List Int) (v633 : Int) (v634 : List Int) : Option α :=
  let x635 := ((v634.length : Nat) : Int)
  let x636 := ((v630.length : Nat) : Int)
  let x637 := (IntKind.i64.wrap (x636 + (1 : Int)))
  let x638 := decide (x635 < x637)
  bif x638 then
    let x639 := [(0 : Int)]
    bif decide (v634.length + x639.length ≤ 8796093022208) then
      let x640 := v634 ++ x639
      next v630 v631 v632 v633 x640
    else
      none
  else
    k0 v631 v632 v633 v634
noncomputable def impl_natDiv_L2.b {α : Type} (N n : Nat) (v630 : List Int) (v631 : Int) (v632 : List Int) (v633 : Int) (v634 : List Int) (k0 : Int → List Int → Int → List Int → Option α) : Option α :=
  Nat.rec (motive := fun _ => List Int → Int → List Int → Int → List Int → Option α) (fun _ _ _ _ _ => none) (fun _ next => impl_natDiv_L2r N next k0) n v630 v631 v632 v633 v634
theorem impl_natDiv_L2.ex : ∃ f : ((α : Type) → Nat → Nat → List Int → Int → List Int → Int → List Int → (Int → List Int → Int → List Int → Option α) → Option α), f = fun α => @impl_natDiv_L2.b α := ⟨_, rfl⟩
noncomputable def impl_natDiv_L2 {α : Type} : Nat → Nat → List Int → Int → List Int → Int → List Int → (Int → List Int → Int → List Int → Option α) → Option α := Classical.choose impl_natDiv_L2.ex α
theorem impl_natDiv_L2.eq : @impl_natDiv_L2 = @impl_natDiv_L2.b := funext fun α => congrFun (Classical.choose_spec impl_natDiv_L2.ex) α
theorem impl_natDiv_L2.zero {α : Type} (N : Nat) (v630 : List Int) (v631 : Int) (v632 : List Int) (v633 : Int) (v634 : List Int) (k0 : Int → List Int → Int → List Int → Option α) : impl_natDiv_L2 N 0 v630 v631 v632 v633 v634 k0 = none := by rw [impl_natDiv_L2.eq]; rfl
theorem impl_natDiv_L2.succ {α : Type} (N n : Nat) (v630 : List Int) (v631 : Int) (v632 : List Int) (v633 : Int) (v634 : List Int) (k0 : Int → List Int → Int → List Int → Option α) : impl_natDiv_L2 N (n + 1) v630 v631 v632 v633 v634 k0 = impl_natDiv_L2r N (fun y0 y1 y2 y3 y4 => impl_natDiv_L2 N n y0 y1 y2 y3 y4 k0) k0 v630 v631 v632 v633 v634 := by rw [impl_natDiv_L2.eq]; rfl
noncomputable def impl_natDiv_L6r {α : Type} (N : Nat) (next : Int → List Int → Int → Int → Int → Int → List Int → List Int → Option α) (k0 : Int → List Int → Int → Int → Int → List Int → List Int → Option α) (v671 : Int) (v672 : List Int) (v673 : Int) (v674 : Int) (v675 : Int) (v676 : Int) (v677 : List Int) (v678 : List Int) : Option α :=
  let x679 := (decide ((65536 : Int) ≤ v675))
  bif x679 then
    let x680 := (IntKind.i64.wrap (v675 - (1 : Int)))
    let x681 := (IntKind.i64.wrap (v673 - (1 : Int)))
    bif (decide (x681 < (0 : Int))) then
      none
    else
      match v672[x681.toNat]? with
      | some x682 =>
        let x683 := IntKind.i64.wrap (v676 + x682)
        let x684 := (decide ((65536 : Int) ≤ x683))
        bif x684 then
          k0 v671 v672 v673 v674 x680 v677 v678
        else
          next v671 v672 v673 v674 x680 x683 v677 v678
      | none => none
  else
    let x685 := (IntKind.i64.wrap (v673 - (2 : Int)))
    bif (decide (x685 < (0 : Int))) then
      none
    else
      match v672[x685.toNat]? with
      | some x686 =>
        let x687 := IntKind.i64.wrap (v675 * x686)
        let x688 := (shlI .i64 v676 (16 : Int))
        let x689 := IntKind.i64.wrap (v674 + v673)
        let x690 := (IntKind.i64.wrap (x689 - (2 : Int)))
        bif (decide (x690 < (0 : Int))) then
          none
        else
          bif decide (x690.toNat < v677.length) then
            match v677[x690.toNat]? with
            | some x691 =>
              let x692 := bitI .or .i64 x688 x691
              let x693 := decide (x692 < x687)
              bif x693 then
                let x694 := (IntKind.i64.wrap (v675 - (1 : Int)))
                let x695 := (IntKind.i64.wrap (v673 - (1 : Int)))
                bif (decide (x695 < (0 : Int))) then
                  none
                else
                  match v672[x695.toNat]? with
                  | some x696 =>
                    let x697 := IntKind.i64.wrap (v676 + x696)
                    let x698 := (decide ((65536 : Int) ≤ x697))
                    bif x698 then
                      k0 v671 v672 v673 v674 x694 v677 v678
                    else
                      next v671 v672 v673 v674 x694 x697 v677 v678
                  | none => none
              else
                k0 v671 v672 v673 v674 v675 v677 v678
            | none => none
          else
            none
      | none => none
noncomputable def impl_natDiv_L6.b {α : Type} (N n : Nat) (v671 : Int) (v672 : List Int) (v673 : Int) (v674 : Int) (v675 : Int) (v676 : Int) (v677 : List Int) (v678 : List Int) (k0 : Int → List Int → Int → Int → Int → List Int → List Int → Option α) : Option α :=
  Nat.rec (motive := fun _ => Int → List Int → Int → Int → Int → Int → List Int → List Int → Option α) (fun _ _ _ _ _ _ _ _ => none) (fun _ next => impl_natDiv_L6r N next k0) n v671 v672 v673 v674 v675 v676 v677 v678
theorem impl_natDiv_L6.ex : ∃ f : ((α : Type) → Nat → Nat → Int → List Int → Int → Int → Int → Int → List Int → List Int → (Int → List Int → Int → Int → Int → List Int → List Int → Option α) → Option α), f = fun α => @impl_natDiv_L6.b α := ⟨_, rfl⟩
noncomputable def impl_natDiv_L6 {α : Type} : Nat → Nat → Int → List Int → Int → Int → Int → Int → List Int → List Int → (Int → List Int → Int → Int → Int → List Int → List Int → Option α) → Option α := Classical.choose impl_natDiv_L6.ex α
theorem impl_natDiv_L6.eq : @impl_natDiv_L6 = @impl_natDiv_L6.b := funext fun α => congrFun (Classical.choose_spec impl_natDiv_L6.ex) α
theorem impl_natDiv_L6.zero {α : Type} (N : Nat) (v671 : Int) (v672 : List Int) (v673 : Int) (v674 : Int) (v675 : Int) (v676 : Int) (v677 : List Int) (v678 : List Int) (k0 : Int → List Int → Int → Int → Int → List Int → List Int → Option α) : impl_natDiv_L6 N 0 v671 v672 v673 v674 v675 v676 v677 v678 k0 = none := by rw [impl_natDiv_L6.eq]; rfl
theorem impl_natDiv_L6.succ {α : Type} (N n : Nat) (v671 : Int) (v672 : List Int) (v673 : Int) (v674 : Int) (v675 : Int) (v676 : Int) (v677 : List Int) (v678 : List Int) (k0 : Int → List Int → Int → Int → Int → List Int → List Int → Option α) : impl_natDiv_L6 N (n + 1) v671 v672 v673 v674 v675 v676 v677 v678 k0 = impl_natDiv_L6r N (fun y0 y1 y2 y3 y4 y5 y6 y7 => impl_natDiv_L6 N n y0 y1 y2 y3 y4 y5 y6 y7 k0) k0 v671 v672 v673 v674 v675 v676 v677 v678 := by rw [impl_natDiv_L6.eq]; rfl
noncomputable def impl_natDiv_J34.b {α : Type} (N : Nat) (v725 : Int) (v726 : List Int) (v727 : Int) (v728 : Int) (v729 : Int) (v730 : Int) (v731 : Int) (v732 : Int) (v733 : List Int) (v734 : Int) (v735 : Int) (v736 : List Int) (v737 : List Int) (k0 : Int → List Int → Int → Int → Int → Int → Int → Int → List Int → Int → Int → List Int → List Int → Option α) : Option α :=
  let x738 := (decide (v732 < (0 : Int)))
  bif x738 then
    let x739 := IntKind.i64.wrap (0 - v732)
    let x740 := (IntKind.i64.wrap (x739 + (65536 : Int)))
    let x741 := (IntKind.i64.wrap (x740 - (1 : Int)))
    let x742 := (IntKind.i64.wrap (Int.tdiv x741 (65536 : Int)))
    let x743 := (IntKind.i64.wrap (x742 * (65536 : Int)))
    let x744 := IntKind.i64.wrap (v732 + x743)
    k0 v725 v726 v727 v728 v729 x742 v731 x744 v733 v734 v735 v736 v737
  else
    k0 v725 v726 v727 v728 v729 v730 v731 v732 v733 v734 v735 v736 v737
theorem impl_natDiv_J34.ex : ∃ f : ((α : Type) → Nat → Int → List Int → Int → Int → Int → Int → Int → Int → List Int → Int → Int → List Int → List Int → (Int → List Int → Int → Int → Int → Int → Int → Int → List Int → Int → Int → List Int → List Int → Option α) → Option α), f = fun α => @impl_natDiv_J34.b α := ⟨_, rfl⟩
noncomputable def impl_natDiv_J34 {α : Type} : Nat → Int → List Int → Int → Int → Int → Int → Int → Int → List Int → Int → Int → List Int → List Int → (Int → List Int → Int → Int → Int → Int → Int → Int → List Int → Int → Int → List Int → List Int → Option α) → Option α := Classical.choose impl_natDiv_J34.ex α
theorem impl_natDiv_J34.eq : @impl_natDiv_J34 = @impl_natDiv_J34.b := funext fun α => congrFun (Classical.choose_spec impl_natDiv_J34.ex) α
noncomputable def impl_natDiv_L8r {α : Type} (N : Nat) (next : Int → List Int → Int → Int → Int → Int → List Int → Int → Int → List Int → List Int → Option α) (k0 : Int → List Int → Int → Int → Int → Int → List Int → List Int → Option α) (v707 : Int) (v708 : List Int) (v709 : Int) (v710 : Int) (v711 : Int) (v712 : Int) (v713 : List Int) (v714 : Int) (v715 : Int) (v716 : List Int) (v717 : List Int) : Option α :=
  let x718 := decide (v715 < v714)
  bif x718 then
    bif (decide (v715 < (0 : Int))) then
      none
    else
      match v713[v715.toNat]? with
      | some x719 =>
        let x720 := IntKind.i64.wrap (v710 + v715)
        bif (decide (x720 < (0 : Int))) then
          none
        else
          bif decide (x720.toNat < v716.length) then
            match v716[x720.toNat]? with
            | some x721 =>
              let x722 := IntKind.i64.wrap (x721 - v712)
              let x723 := IntKind.i64.wrap (v711 * x719)
              let x724 := IntKind.i64.wrap (x722 - x723)
              impl_natDiv_J34 N v707 v708 v709 v710 v711 (0 : Int) v715 x724 v713 v714 v715 v716 v717
                (fun x745 x746 x747 x748 x749 x750 x751 x752 x753 x754 x755 x756 x757 =>
                  let x758 := IntKind.i64.wrap (x748 + x751)
                  bif (decide (x758 < (0 : Int))) then
                    none
                  else
                    bif decide (x758.toNat < x756.length) then
                      match x756[x758.toNat]? with
                      | some x759 =>
                        let x760 := x756.set x758.toNat x752
                        let x761 := (IntKind.i64.wrap (x755 + (1 : Int)))
                        next x745 x746 x747 x748 x749 x750 x753 x754 x761 x760 x757
                      | none => none
                    else
                      none)
            | none => none
          else
            none
      | none => none
  else
    k0 v707 v708 v709 v710 v711 v712 v716 v717
noncomputable def impl_natDiv_L8.b {α : Type} (N n : Nat) (v707 : Int) (v708 : List Int) (v709 : Int) (v710 : Int) (v711 : Int) (v712 : Int) (v713 : List Int) (v714 : Int) (v715 : Int) (v716 : List Int) (v717 : List Int) (k0 : Int → List Int → Int → Int → Int → Int → List Int → List Int → Option α) : Option α :=
  Nat.rec (motive := fun _ => Int → List Int → Int → Int → Int → Int → List Int → Int → Int → List Int → List Int → Option α) (fun _ _ _ _ _ _ _ _ _ _ _ => none) (fun _ next => impl_natDiv_L8r N next k0) n v707 v708 v709 v710 v711 v712 v713 v714 v715 v716 v717
theorem impl_natDiv_L8.ex : ∃ f : ((α : Type) → Nat → Nat → Int → List Int → Int → Int → Int → Int → List Int → Int → Int → List Int → List Int → (Int → List Int → Int → Int → Int → Int → List Int → List Int → Option α) → Option α), f = fun α => @impl_natDiv_L8.b α := ⟨_, rfl⟩
noncomputable def impl_natDiv_L8 {α : Type} : Nat → Nat → Int → List Int → Int → Int → Int → Int → List Int → Int → Int → List Int → List Int → (Int → List Int → Int → Int → Int → Int → List Int → List Int → Option α) → Option α := Classical.choose impl_natDiv_L8.ex α
theorem impl_natDiv_L8.eq : @impl_natDiv_L8 = @impl_natDiv_L8.b := funext fun α => congrFun (Classical.choose_spec impl_natDiv_L8.ex) α
theorem impl_natDiv_L8.zero {α : Type} (N : Nat) (v707 : Int) (v708 : List Int) (v709 : Int) (v710 : Int) (v711 : Int) (v712 : Int) (v713 : List Int) (v714 : Int) (v715 : Int) (v716 : List Int) (v717 : List Int) (k0 : Int → List Int → Int → Int → Int → Int → List Int → List Int → Option α) : impl_natDiv_L8 N 0 v707 v708 v709 v710 v711 v712 v713 v714 v715 v716 v717 k0 = none := by rw [impl_natDiv_L8.eq]; rfl
theorem impl_natDiv_L8.succ {α : Type} (N n : Nat) (v707 : Int) (v708 : List Int) (v709 : Int) (v710 : Int) (v711 : Int) (v712 : Int) (v713 : List Int) (v714 : Int) (v715 : Int) (v716 : List Int) (v717 : List Int) (k0 : Int → List Int → Int → Int → Int → Int → List Int → List Int → Option α) : impl_natDiv_L8 N (n + 1) v707 v708 v709 v710 v711 v712 v713 v714 v715 v716 v717 k0 = impl_natDiv_L8r N (fun y0 y1 y2 y3 y4 y5 y6 y7 y8 y9 y10 => impl_natDiv_L8 N n y0 y1 y2 y3 y4 y5 y6 y7 y8 y9 y10 k0) k0 v707 v708 v709 v710 v711 v712 v713 v714 v715 v716 v717 := by rw [impl_natDiv_L8.eq]; rfl
noncomputable def impl_natDiv_L10r {α : Type} (N : Nat) (next : Int → List Int → Int → Int → Int → Int → List Int → Int → Int → List Int → List Int → Option α) (k0 : Int → List Int → Int → Int → Int → Int → List Int → List Int → Option α) (v787 : Int) (v788 : List Int) (v789 : Int) (v790 : Int) (v791 : Int) (v792 : Int) (v793 : List Int) (v794 : Int) (v795 : Int) (v796 : List Int) (v797 : List Int) : Option α :=
  let x798 := decide (v795 < v794)
  bif x798 then
    bif (decide (v795 < (0 : Int))) then
      none
    else
      match v793[v795.toNat]? with
      | some x799 =>
        let x800 := IntKind.i64.wrap (v790 + v795)
        bif (decide (x800 < (0 : Int))) then
          none
        else
          bif decide (x800.toNat < v796.length) then
            match v796[x800.toNat]? with
            | some x801 =>
              let x802 := IntKind.i64.wrap (x801 + x799)
              let x803 := IntKind.i64.wrap (x802 + v792)
              let x804 := IntKind.i64.wrap (v790 + v795)
              let x805 := (bitI .and .i64 x803 (65535 : Int))
              let x806 := (shrI .i64 x803 (16 : Int))
              bif (decide (x804 < (0 : Int))) then
                none
              else
                bif decide (x804.toNat < v796.length) then
                  match v796[x804.toNat]? with
                  | some x807 =>
                    let x808 := v796.set x804.toNat x805
                    let x809 := (IntKind.i64.wrap (v795 + (1 : Int)))
                    next v787 v788 v789 v790 v791 x806 v793 v794 x809 x808 v797
                  | none => none
                else
                  none
            | none => none
          else
            none
      | none => none
  else
    k0 v787 v788 v789 v790 v791 v792 v796 v797
noncomputable def impl_natDiv_L10.b {α : Type} (N n : Nat) (v787 : Int) (v788 : List Int) (v789 : Int) (v790 : Int) (v791 : Int) (v792 : Int) (v793 : List Int) (v794 : Int) (v795 : Int) (v796 : List Int) (v797 : List Int) (k0 : Int → List Int → Int → Int → Int → Int → List Int → List Int → Option α) : Option α :=
  Nat.rec (motive := fun _ => Int → List Int → Int → Int → Int → Int → List Int → Int → Int → List Int → List Int → Option α) (fun _ _ _ _ _ _ _ _ _ _ _ => none) (fun _ next => impl_natDiv_L10r N next k0) n v787 v788 v789 v790 v791 v792 v793 v794 v795 v796 v797
theorem impl_natDiv_L10.ex : ∃ f : ((α : Type) → Nat → Nat → Int → List Int → Int → Int → Int → Int → List Int → Int → Int → List Int → List Int → (Int → List Int → Int → Int → Int → Int → List Int → List Int → Option α) → Option α), f = fun α => @impl_natDiv_L10.b α := ⟨_, rfl⟩
noncomputable def impl_natDiv_L10 {α : Type} : Nat → Nat → Int → List Int → Int → Int → Int → Int → List Int → Int → Int → List Int → List Int → (Int → List Int → Int → Int → Int → Int → List Int → List Int → Option α) → Option α := Classical.choose impl_natDiv_L10.ex α
theorem impl_natDiv_L10.eq : @impl_natDiv_L10 = @impl_natDiv_L10.b := funext fun α => congrFun (Classical.choose_spec impl_natDiv_L10.ex) α
theorem impl_natDiv_L10.zero {α : Type} (N : Nat) (v787 : Int) (v788 : List Int) (v789 : Int) (v790 : Int) (v791 : Int) (v792 : Int) (v793 : List Int) (v794 : Int) (v795 : Int) (v796 : List Int) (v797 : List Int) (k0 : Int → List Int → Int → Int → Int → Int → List Int → List Int → Option α) : impl_natDiv_L10 N 0 v787 v788 v789 v790 v791 v792 v793 v794 v795 v796 v797 k0 = none := by rw [impl_natDiv_L10.eq]; rfl
theorem impl_natDiv_L10.succ {α : Type} (N n : Nat) (v787 : Int) (v788 : List Int) (v789 : Int) (v790 : Int) (v791 : Int) (v792 : Int) (v793 : List Int) (v794 : Int) (v795 : Int) (v796 : List Int) (v797 : List Int) (k0 : Int → List Int → Int → Int → Int → Int → List Int → List Int → Option α) : impl_natDiv_L10 N (n + 1) v787 v788 v789 v790 v791 v792 v793 v794 v795 v796 v797 k0 = impl_natDiv_L10r N (fun y0 y1 y2 y3 y4 y5 y6 y7 y8 y9 y10 => impl_natDiv_L10 N n y0 y1 y2 y3 y4 y5 y6 y7 y8 y9 y10 k0) k0 v787 v788 v789 v790 v791 v792 v793 v794 v795 v796 v797 := by rw [impl_natDiv_L10.eq]; rfl
noncomputable def impl_natDiv_J40.b {α : Type} (N : Nat) (v775 : Int) (v776 : List Int) (v777 : Int) (v778 : Int) (v779 : Int) (v780 : List Int) (v781 : List Int) (k0 : Int → List Int → Int → Int → Int → List Int → List Int → Option α) : Option α :=
  let x782 := IntKind.i64.wrap (v778 + v777)
  bif (decide (x782 < (0 : Int))) then
    none
  else
    bif decide (x782.toNat < v780.length) then
      match v780[x782.toNat]? with
      | some x783 =>
        let x784 := (decide (x783 < (0 : Int)))
        bif x784 then
          let x785 := (IntKind.i64.wrap (v779 - (1 : Int)))
          let x786 := ((v776.length : Nat) : Int)
          impl_natDiv_L10 N N v775 v776 v777 v778 x785 (0 : Int) v776 x786 (0 : Int) v780 v781
            (fun x810 x811 x812 x813 x814 x815 x816 x817 =>
              let x818 := IntKind.i64.wrap (x813 + x812)
              bif (decide (x818 < (0 : Int))) then
                none
              else
                bif decide (x818.toNat < x816.length) then
                  match x816[x818.toNat]? with
                  | some x819 =>
                    let x820 := IntKind.i64.wrap (x819 + x815)
                    bif (decide (x818 < (0 : Int))) then
                      none
                    else
                      bif decide (x818.toNat < x816.length) then
                        match x816[x818.toNat]? with
                        | some x821 =>
                          let x822 := x816.set x818.toNat x820
                          k0 x810 x811 x812 x813 x814 x822 x817
                        | none => none
                      else
                        none
                  | none => none
                else
                  none)
        else
          k0 v775 v776 v777 v778 v779 v780 v781
      | none => none
    else
      none
theorem impl_natDiv_J40.ex : ∃ f : ((α : Type) → Nat → Int → List Int → Int → Int → Int → List Int → List Int → (Int → List Int → Int → Int → Int → List Int → List Int → Option α) → Option α), f = fun α => @impl_natDiv_J40.b α := ⟨_, rfl⟩
noncomputable def impl_natDiv_J40 {α : Type} : Nat → Int → List Int → Int → Int → Int → List Int → List Int → (Int → List Int → Int → Int → Int → List Int → List Int → Option α) → Option α := Classical.choose impl_natDiv_J40.ex α
theorem impl_natDiv_J40.eq : @impl_natDiv_J40 = @impl_natDiv_J40.b := funext fun α => congrFun (Classical.choose_spec impl_natDiv_J40.ex) α
noncomputable def impl_natDiv_L4r {α : Type} (N : Nat) (next : Int → List Int → Int → Int → List Int → List Int → Option α) (k0 : Int → List Int → List Int → Option α) (v651 : Int) (v652 : List Int) (v653 : Int) (v654 : Int) (v655 : List Int) (v656 : List Int) : Option α :=
  let x657 := (decide ((0 : Int) ≤ v654))
  bif x657 then
    let x658 := IntKind.i64.wrap (v654 + v653)
    bif (decide (x658 < (0 : Int))) then
      none
    else
      bif decide (x658.toNat < v655.length) then
        match v655[x658.toNat]? with
        | some x659 =>
          let x660 := (shlI .i64 x659 (16 : Int))
          let x661 := IntKind.i64.wrap (v654 + v653)
          let x662 := (IntKind.i64.wrap (x661 - (1 : Int)))
          bif (decide (x662 < (0 : Int))) then
            none
          else
            bif decide (x662.toNat < v655.length) then
              match v655[x662.toNat]? with
              | some x663 =>
                let x664 := bitI .or .i64 x660 x663
                let x665 := (IntKind.i64.wrap (v653 - (1 : Int)))
                bif (decide (x665 < (0 : Int))) then
                  none
                else
                  match v652[x665.toNat]? with
                  | some x666 =>
                    bif (decide (x666 = (0 : Int))) then
                      none
                    else
                      let x667 := IntKind.i64.wrap (Int.tdiv x664 x666)
                      let x668 := (IntKind.i64.wrap (v653 - (1 : Int)))
                      bif (decide (x668 < (0 : Int))) then
                        none
                      else
                        match v652[x668.toNat]? with
                        | some x669 =>
                          bif (decide (x669 = (0 : Int))) then
                            none
                          else
                            let x670 := Int.tmod x664 x669
                            impl_natDiv_L6 N N v651 v652 v653 v654 x667 x670 v655 v656
                              (fun x699 x700 x701 x702 x703 x704 x705 =>
                                let x706 := ((x700.length : Nat) : Int)
                                impl_natDiv_L8 N N x699 x700 x701 x702 x703 (0 : Int) x700 x706 (0 : Int) x704 x705
                                  (fun x762 x763 x764 x765 x766 x767 x768 x769 =>
                                    let x770 := IntKind.i64.wrap (x765 + x764)
                                    bif (decide (x770 < (0 : Int))) then
                                      none
                                    else
                                      bif decide (x770.toNat < x768.length) then
                                        match x768[x770.toNat]? with
                                        | some x771 =>
                                          let x772 := IntKind.i64.wrap (x771 - x767)
                                          bif (decide (x770 < (0 : Int))) then
                                            none
                                          else
                                            bif decide (x770.toNat < x768.length) then
                                              match x768[x770.toNat]? with
                                              | some x773 =>
                                                let x774 := x768.set x770.toNat x772
                                                impl_natDiv_J40 N x762 x763 x764 x765 x766 x774 x769
                                                  (fun x823 x824 x825 x826 x827 x828 x829 =>
                                                    bif (decide (x826 < (0 : Int))) then
                                                      none
                                                    else
                                                      bif decide (x826.toNat < x829.length) then
                                                        match x829[x826.toNat]? with
                                                        | some x830 =>
                                                          let x831 := x829.set x826.toNat x827
                                                          let x832 := (IntKind.i64.wrap (x826 - (1 : Int)))
                                                          next x823 x824 x825 x832 x828 x831
                                                        | none => none
                                                      else
                                                        none)
                                              | none => none
                                            else
                                              none
                                        | none => none
                                      else
                                        none))
                        | none => none
                  | none => none
              | none => none
            else
              none
        | none => none
      else
        none
  else
    k0 v651 v655 v656
noncomputable def impl_natDiv_L4.b {α : Type} (N n : Nat) (v651 : Int) (v652 : List Int) (v653 : Int) (v654 : Int) (v655 : List Int) (v656 : List Int) (k0 : Int → List Int → List Int → Option α) : Option α :=
  Nat.rec (motive := fun _ => Int → List Int → Int → Int → List Int → List Int → Option α) (fun _ _ _ _ _ _ => none) (fun _ next => impl_natDiv_L4r N next k0) n v651 v652 v653 v654 v655 v656
theorem impl_natDiv_L4.ex : ∃ f : ((α : Type) → Nat → Nat → Int → List Int → Int → Int → List Int → List Int → (Int → List Int → List Int → Option α) → Option α), f = fun α => @impl_natDiv_L4.b α := ⟨_, rfl⟩
noncomputable def impl_natDiv_L4 {α : Type} : Nat → Nat → Int → List Int → Int → Int → List Int → List Int → (Int → List Int → List Int → Option α) → Option α := Classical.choose impl_natDiv_L4.ex α
theorem impl_natDiv_L4.eq : @impl_natDiv_L4 = @impl_natDiv_L4.b := funext fun α => congrFun (Classical.choose_spec impl_natDiv_L4.ex) α
theorem impl_natDiv_L4.zero {α : Type} (N : Nat) (v651 : Int) (v652 : List Int) (v653 : Int) (v654 : Int) (v655 : List Int) (v656 : List Int) (k0 : Int → List Int → List Int → Option α) : impl_natDiv_L4 N 0 v651 v652 v653 v654 v655 v656 k0 = none := by rw [impl_natDiv_L4.eq]; rfl
theorem impl_natDiv_L4.succ {α : Type} (N n : Nat) (v651 : Int) (v652 : List Int) (v653 : Int) (v654 : Int) (v655 : List Int) (v656 : List Int) (k0 : Int → List Int → List Int → Option α) : impl_natDiv_L4 N (n + 1) v651 v652 v653 v654 v655 v656 k0 = impl_natDiv_L4r N (fun y0 y1 y2 y3 y4 y5 => impl_natDiv_L4 N n y0 y1 y2 y3 y4 y5 k0) k0 v651 v652 v653 v654 v655 v656 := by rw [impl_natDiv_L4.eq]; rfl
/-- loop.example/pinfold/impl.natDiv -/
noncomputable def impl_natDiv.b {α : Type} (N : Nat) (a384 : List Int) (a385 : List Int) (k0 : List Int → List Int → Option α) : Option α :=
  impl_natCmp N a384 a385
    (fun x412 =>
      let x413 := (decide (x412 < (0 : Int)))
      bif x413 then
        k0 [] a384
      else
        let x414 := ((a385.length : Nat) : Int)
        let x415 := (decide (x414 = (1 : Int)))
        bif x415 then
          let x416 := ((a384.length : Nat) : Int)
          bif (decide ((0 : Int) ≤ x416)) then
            bif decide (x416 ≤ x416) then
              bif (decide (x416 ≤ ((8796093022208 : Nat) : Int))) then
                let x417 := (List.replicate x416.toNat (0 : Int))
                let x418 := ((a384.length : Nat) : Int)
                let x419 := (IntKind.i64.wrap (x418 - (1 : Int)))
                impl_natDiv_L0 N N a384 a385 (0 : Int) x419 x417
                  (fun x436 x437 =>
                    impl_trim N x437
                      (fun x450 =>
                        let x451 := [x436]
                        impl_trim N x451
                          (fun x452 =>
                            k0 x450 x452)))
              else
                none
            else
              none
          else
            none
        else
          let x453 := ((a385.length : Nat) : Int)
          let x454 := (IntKind.i64.wrap (x453 - (1 : Int)))
          bif (decide (x454 < (0 : Int))) then
            none
          else
            match a385[x454.toNat]? with
            | some x455 =>
              let x456 := IntKind.u64.wrap x455
              math_bits_Len N x456
                (fun x485 =>
                  let x486 := (IntKind.i64.wrap ((16 : Int) - x485))
                  impl_natShift N a385 x486
                    (fun x624 =>
                      impl_natShift N a384 x486
                        (fun x625 =>
                          slices_Clone_int_int N x625
                            (fun x626 =>
                              let x627 := [(0 : Int)]
                              bif decide (x626.length + x627.length ≤ 8796093022208) then
                                let x628 := x626 ++ x627
                                let x629 := ((x624.length : Nat) : Int)
                                impl_natDiv_L2 N N a384 x486 x624 x629 x628
                                  (fun x641 x642 x643 x644 =>
                                    let x645 := ((x644.length : Nat) : Int)
                                    let x646 := IntKind.i64.wrap (x645 - x643)
                                    bif (decide ((0 : Int) ≤ x646)) then
                                      bif decide (x646 ≤ x646) then
                                        bif (decide (x646 ≤ ((8796093022208 : Nat) : Int))) then
                                          let x647 := (List.replicate x646.toNat (0 : Int))
                                          let x648 := ((x644.length : Nat) : Int)
                                          let x649 := IntKind.i64.wrap (x648 - x643)
                                          let x650 := (IntKind.i64.wrap (x649 - (1 : Int)))
                                          impl_natDiv_L4 N N x641 x642 x643 x650 x644 x647
                                            (fun x833 x834 x835 =>
                                              impl_trim N x835
                                                (fun x836 =>
                                                  impl_trim N x834
                                                    (fun x837 =>
                                                      let x838 := IntKind.i64.wrap (0 - x833)
                                                      impl_natShift N x837 x838
                                                        (fun x839 =>
                                                          k0 x836 x839))))
                                        else
                                          none
                                      else
                                        none
                                    else
                                      none)
                              else
                                none))))
            | none => none)
theorem impl_natDiv.ex : ∃ f : ((α : Type) → Nat → List Int → List Int → (List Int → List Int → Option α) → Option α), f = fun α => @impl_natDiv.b α := ⟨_, rfl⟩
noncomputable def impl_natDiv {α : Type} : Nat → List Int → List Int → (List Int → List Int → Option α) → Option α := Classical.choose impl_natDiv.ex α
theorem impl_natDiv.eq : @impl_natDiv = @impl_natDiv.b := funext fun α => congrFun (Classical.choose_spec impl_natDiv.ex) α

/-- slices.Clip[[]int,int] -/
noncomputable def slices_Clip_int_int.b {α : Type} (N : Nat) (a844 : List Int) (k0 : List Int → Option α) : Option α :=
  let x845 := ((a844.length : Nat) : Int)
  let x846 := ((a844.length : Nat) : Int)
  bif (decide ((0 : Int) ≤ x846)) then
    bif (decide (x846 ≤ ((a844.length : Nat) : Int))) then
      bif (decide ((0 : Int) ≤ x845)) then
        bif (decide (x845 ≤ ((x846.toNat : Nat) : Int))) then
          let x847 := a844.take x845.toNat
          k0 x847
        else
          none
      else
        none
    else
      none
  else
    none
theorem slices_Clip_int_int.ex : ∃ f : ((α : Type) → Nat → List Int → (List Int → Option α) → Option α), f = fun α => @slices_Clip_int_int.b α := ⟨_, rfl⟩
noncomputable def slices_Clip_int_int {α : Type} : Nat → List Int → (List Int → Option α) → Option α := Classical.choose slices_Clip_int_int.ex α
theorem slices_Clip_int_int.eq : @slices_Clip_int_int = @slices_Clip_int_int.b := funext fun α => congrFun (Classical.choose_spec slices_Clip_int_int.ex) α

/-- loop.example/pinfold/impl.clone[int] -/
noncomputable def impl_clone_int.b {α : Type} (N : Nat) (a842 : List Int) (k0 : List Int → Option α) : Option α :=
  slices_Clone_int_int N a842
    (fun x843 =>
      slices_Clip_int_int N x843
        (fun x848 =>
          k0 x848))
theorem impl_clone_int.ex : ∃ f : ((α : Type) → Nat → List Int → (List Int → Option α) → Option α), f = fun α => @impl_clone_int.b α := ⟨_, rfl⟩
noncomputable def impl_clone_int {α : Type} : Nat → List Int → (List Int → Option α) → Option α := Classical.choose impl_clone_int.ex α
theorem impl_clone_int.eq : @impl_clone_int = @impl_clone_int.b := funext fun α => congrFun (Classical.choose_spec impl_clone_int.ex) α

/-- loop.example/pinfold/impl.NatDiv -/
noncomputable def impl_NatDiv.b {α : Type} (N : Nat) (a255 : List Int) (a256 : List Int) (k0 : Bool → List Int → List Int → Option α) : Option α :=
  let x257 := [a255, a256]
  impl_nats N x257
    (fun x311 =>
      let x312 := !x311
      bif x312 then
        k0 false [] []
      else
        let x313 := ((a256.length : Nat) : Int)
        let x314 := (decide (x313 = (0 : Int)))
        bif x314 then
          k0 false [] []
        else
          impl_natDiv N a255 a256
            (fun x840 x841 =>
              impl_clone_int N x840
                (fun x849 =>
                  impl_clone_int N x841
                    (fun x850 =>
                      k0 true x849 x850))))
theorem impl_NatDiv.ex : ∃ f : ((α : Type) → Nat → List Int → List Int → (Bool → List Int → List Int → Option α) → Option α), f = fun α => @impl_NatDiv.b α := ⟨_, rfl⟩
noncomputable def impl_NatDiv {α : Type} : Nat → List Int → List Int → (Bool → List Int → List Int → Option α) → Option α := Classical.choose impl_NatDiv.ex α
theorem impl_NatDiv.eq : @impl_NatDiv = @impl_NatDiv.b := funext fun α => congrFun (Classical.choose_spec impl_NatDiv.ex) α

noncomputable def spec_NatOk_L0r {α : Type} (N : Nat) (next : List Int → Int → Option α) (k0 : Bool → Option α) (k1 : List Int → Option α) (v859 : List Int) (v860 : Int) : Option α :=
  let x861 := ((v859.length : Nat) : Int)
  let x862 := decide (v860 < x861)
  bif x862 then
    bif (decide (v860 < (0 : Int))) then
      none
    else
      match v859[v860.toNat]? with
      | some x863 =>
        let x864 := (decide (x863 < (0 : Int)))
        bif x864 then
          k0 false
        else
          bif (decide (v860 < (0 : Int))) then
            none
          else
            match v859[v860.toNat]? with
            | some x865 =>
              let x866 := (decide ((65536 : Int) ≤ x865))
              bif x866 then
                k0 false
              else
                let x867 := (IntKind.i64.wrap (v860 + (1 : Int)))
                next v859 x867
            | none => none
      | none => none
  else
    k1 v859
noncomputable def spec_NatOk_L0.b {α : Type} (N n : Nat) (v859 : List Int) (v860 : Int) (k0 : Bool → Option α) (k1 : List Int → Option α) : Option α :=
  Nat.rec (motive := fun _ => List Int → Int → Option α) (fun _ _ => none) (fun _ next => spec_NatOk_L0r N next k0 k1) n v859 v860
theorem spec_NatOk_L0.ex : ∃ f : ((α : Type) → Nat → Nat → List Int → Int → (Bool → Option α) → (List Int → Option α) → Option α), f = fun α => @spec_NatOk_L0.b α := ⟨_, rfl⟩
noncomputable def spec_NatOk_L0 {α : Type} : Nat → Nat → List Int → Int → (Bool → Option α) → (List Int → Option α) → Option α := Classical.choose spec_NatOk_L0.ex α
theorem spec_NatOk_L0.eq : @spec_NatOk_L0 = @spec_NatOk_L0.b := funext fun α => congrFun (Classical.choose_spec spec_NatOk_L0.ex) α
theorem spec_NatOk_L0.zero {α : Type} (N : Nat) (v859 : List Int) (v860 : Int) (k0 : Bool → Option α) (k1 : List Int → Option α) : spec_NatOk_L0 N 0 v859 v860 k0 k1 = none := by rw [spec_NatOk_L0.eq]; rfl
theorem spec_NatOk_L0.succ {α : Type} (N n : Nat) (v859 : List Int) (v860 : Int) (k0 : Bool → Option α) (k1 : List Int → Option α) : spec_NatOk_L0 N (n + 1) v859 v860 k0 k1 = spec_NatOk_L0r N (fun y0 y1 => spec_NatOk_L0 N n y0 y1 k0 k1) k0 k1 v859 v860 := by rw [spec_NatOk_L0.eq]; rfl
/-- loop.example/pinfold/spec.NatOk -/
noncomputable def spec_NatOk.b {α : Type} (N : Nat) (a856 : List Int) (k0 : Bool → Option α) : Option α :=
  let x857 := ((a856.length : Nat) : Int)
  let x858 := (decide ((256 : Int) < x857))
  bif x858 then
    k0 false
  else
    spec_NatOk_L0 N N a856 (0 : Int)
      (fun x868 =>
        k0 x868)
      (fun x869 =>
        let x870 := ((x869.length : Nat) : Int)
        let x871 := (decide (x870 = (0 : Int)))
        bif x871 then
          k0 true
        else
          let x872 := ((x869.length : Nat) : Int)
          let x873 := (IntKind.i64.wrap (x872 - (1 : Int)))
          bif (decide (x873 < (0 : Int))) then
            none
          else
            match x869[x873.toNat]? with
            | some x874 =>
              let x875 := (!(decide (x874 = (0 : Int))))
              k0 x875
            | none => none)
theorem spec_NatOk.ex : ∃ f : ((α : Type) → Nat → List Int → (Bool → Option α) → Option α), f = fun α => @spec_NatOk.b α := ⟨_, rfl⟩
noncomputable def spec_NatOk {α : Type} : Nat → List Int → (Bool → Option α) → Option α := Classical.choose spec_NatOk.ex α
theorem spec_NatOk.eq : @spec_NatOk = @spec_NatOk.b := funext fun α => congrFun (Classical.choose_spec spec_NatOk.ex) α

noncomputable def spec_l5Cmp_L0r {α : Type} (N : Nat) (next : List Int → List Int → Int → Option α) (k0 : Int → Option α) (k1 : Option α) (v894 : List Int) (v895 : List Int) (v896 : Int) : Option α :=
  let x897 := (decide ((0 : Int) ≤ v896))
  bif x897 then
    bif (decide (v896 < (0 : Int))) then
      none
    else
      match v894[v896.toNat]? with
      | some x898 =>
        bif (decide (v896 < (0 : Int))) then
          none
        else
          match v895[v896.toNat]? with
          | some x899 =>
            let x900 := decide (x898 < x899)
            bif x900 then
              k0 (-1 : Int)
            else
              bif (decide (v896 < (0 : Int))) then
                none
              else
                match v894[v896.toNat]? with
                | some x901 =>
                  bif (decide (v896 < (0 : Int))) then
                    none
                  else
                    match v895[v896.toNat]? with
                    | some x902 =>
                      let x903 := decide (x902 < x901)
                      bif x903 then
                        k0 (1 : Int)
                      else
                        let x904 := (IntKind.i64.wrap (v896 - (1 : Int)))
                        next v894 v895 x904
                    | none => none
                | none => none
          | none => none
      | none => none
  else
    k1
noncomputable def spec_l5Cmp_L0.b {α : Type} (N n : Nat) (v894 : List Int) (v895 : List Int) (v896 : Int) (k0 : Int → Option α) (k1 : Option α) : Option α :=
  Nat.rec (motive := fun _ => List Int → List Int → Int → Option α) (fun _ _ _ => none) (fun _ next => spec_l5Cmp_L0r N next k0 k1) n v894 v895 v896
theorem spec_l5Cmp_L0.ex : ∃ f : ((α : Type) → Nat → Nat → List Int → List Int → Int → (Int → Option α) → (Option α) → Option α), f = fun α => @spec_l5Cmp_L0.b α := ⟨_, rfl⟩
noncomputable def spec_l5Cmp_L0 {α : Type} : Nat → Nat → List Int → List Int → Int → (Int → Option α) → (Option α) → Option α := Classical.choose spec_l5Cmp_L0.ex α
theorem spec_l5Cmp_L0.eq : @spec_l5Cmp_L0 = @spec_l5Cmp_L0.b := funext fun α => congrFun (Classical.choose_spec spec_l5Cmp_L0.ex) α
theorem spec_l5Cmp_L0.zero {α : Type} (N : Nat) (v894 : List Int) (v895 : List Int) (v896 : Int) (k0 : Int → Option α) (k1 : Option α) : spec_l5Cmp_L0 N 0 v894 v895 v896 k0 k1 = none := by rw [spec_l5Cmp_L0.eq]; rfl
theorem spec_l5Cmp_L0.succ {α : Type} (N n : Nat) (v894 : List Int) (v895 : List Int) (v896 : Int) (k0 : Int → Option α) (k1 : Option α) : spec_l5Cmp_L0 N (n + 1) v894 v895 v896 k0 k1 = spec_l5Cmp_L0r N (fun y0 y1 y2 => spec_l5Cmp_L0 N n y0 y1 y2 k0 k1) k0 k1 v894 v895 v896 := by rw [spec_l5Cmp_L0.eq]; rfl
/-- loop.example/pinfold/spec.l5Cmp -/
noncomputable def spec_l5Cmp.b {α : Type} (N : Nat) (a884 : List Int) (a885 : List Int) (k0 : Int → Option α) : Option α :=
  let x886 := ((a884.length : Nat) : Int)
  let x887 := ((a885.length : Nat) : Int)
  let x888 := decide (x886 < x887)
  bif x888 then
    k0 (-1 : Int)
  else
    let x889 := ((a884.length : Nat) : Int)
    let x890 := ((a885.length : Nat) : Int)
    let x891 := decide (x890 < x889)
    bif x891 then
      k0 (1 : Int)
    else
      let x892 := ((a884.length : Nat) : Int)
      let x893 := (IntKind.i64.wrap (x892 - (1 : Int)))
      spec_l5Cmp_L0 N N a884 a885 x893
        (fun x905 =>
          k0 x905)
        (
          k0 (0 : Int))
theorem spec_l5Cmp.ex : ∃ f : ((α : Type) → Nat → List Int → List Int → (Int → Option α) → Option α), f = fun α => @spec_l5Cmp.b α := ⟨_, rfl⟩
noncomputable def spec_l5Cmp {α : Type} : Nat → List Int → List Int → (Int → Option α) → Option α := Classical.choose spec_l5Cmp.ex α
theorem spec_l5Cmp.eq : @spec_l5Cmp = @spec_l5Cmp.b := funext fun α => congrFun (Classical.choose_spec spec_l5Cmp.ex) α

noncomputable def spec_l5DivSmall_L0r {α : Type} (N : Nat) (next : List Int → Int → Int → Int → List Int → Option α) (k0 : Int → List Int → Option α) (v918 : List Int) (v919 : Int) (v920 : Int) (v921 : Int) (v922 : List Int) : Option α :=
  let x923 := (decide ((0 : Int) ≤ v921))
  bif x923 then
    let x924 := (IntKind.i64.wrap (v920 * (65536 : Int)))
    bif (decide (v921 < (0 : Int))) then
      none
    else
      match v918[v921.toNat]? with
      | some x925 =>
        let x926 := IntKind.i64.wrap (x924 + x925)
        bif (decide (v919 = (0 : Int))) then
          none
        else
          let x927 := IntKind.i64.wrap (Int.tdiv x926 v919)
          bif (decide (v921 < (0 : Int))) then
            none
          else
            bif decide (v921.toNat < v922.length) then
              match v922[v921.toNat]? with
              | some x928 =>
                let x929 := v922.set v921.toNat x927
                bif (decide (v919 = (0 : Int))) then
                  none
                else
                  let x930 := Int.tmod x926 v919
                  let x931 := (IntKind.i64.wrap (v921 - (1 : Int)))
                  next v918 v919 x930 x931 x929
              | none => none
            else
              none
      | none => none
  else
    k0 v920 v922
noncomputable def spec_l5DivSmall_L0.b {α : Type} (N n : Nat) (v918 : List Int) (v919 : Int) (v920 : Int) (v921 : Int) (v922 : List Int) (k0 : Int → List Int → Option α) : Option α :=
  Nat.rec (motive := fun _ => List Int → Int → Int → Int → List Int → Option α) (fun _ _ _ _ _ => none) (fun _ next => spec_l5DivSmall_L0r N next k0) n v918 v919 v920 v921 v922
theorem spec_l5DivSmall_L0.ex : ∃ f : ((α : Type) → Nat → Nat → List Int → Int → Int → Int → List Int → (Int → List Int → Option α) → Option α), f = fun α => @spec_l5DivSmall_L0.b α := ⟨_, rfl⟩
noncomputable def spec_l5DivSmall_L0 {α : Type} : Nat → Nat → List Int → Int → Int → Int → List Int → (Int → List Int → Option α) → Option α := Classical.choose spec_l5DivSmall_L0.ex α
theorem spec_l5DivSmall_L0.eq : @spec_l5DivSmall_L0 = @spec_l5DivSmall_L0.b := funext fun α => congrFun (Classical.choose_spec spec_l5DivSmall_L0.ex) α
theorem spec_l5DivSmall_L0.zero {α : Type} (N : Nat) (v918 : List Int) (v919 : Int) (v920 : Int) (v921 : Int) (v922 : List Int) (k0 : Int → List Int → Option α) : spec_l5DivSmall_L0 N 0 v918 v919 v920 v921 v922 k0 = none := by rw [spec_l5DivSmall_L0.eq]; rfl
theorem spec_l5DivSmall_L0.succ {α : Type} (N n : Nat) (v918 : List Int) (v919 : Int) (v920 : Int) (v921 : Int) (v922 : List Int) (k0 : Int → List Int → Option α) : spec_l5DivSmall_L0 N (n + 1) v918 v919 v920 v921 v922 k0 = spec_l5DivSmall_L0r N (fun y0 y1 y2 y3 y4 => spec_l5DivSmall_L0 N n y0 y1 y2 y3 y4 k0) k0 v918 v919 v920 v921 v922 := by rw [spec_l5DivSmall_L0.eq]; rfl
/-- loop.example/pinfold/spec.l5DivSmall -/
noncomputable def spec_l5DivSmall.b {α : Type} (N : Nat) (a912 : List Int) (a913 : Int) (k0 : Int → List Int → Option α) : Option α :=
  let x914 := ((a912.length : Nat) : Int)
  bif (decide ((0 : Int) ≤ x914)) then
    bif decide (x914 ≤ x914) then
      bif (decide (x914 ≤ ((8796093022208 : Nat) : Int))) then
        let x915 := (List.replicate x914.toNat (0 : Int))
        let x916 := ((a912.length : Nat) : Int)
        let x917 := (IntKind.i64.wrap (x916 - (1 : Int)))
        spec_l5DivSmall_L0 N N a912 a913 (0 : Int) x917 x915
          (fun x932 x933 =>
            spec_l5Trim N x933
              (fun x934 =>
                k0 x932 x934))
      else
        none
    else
      none
  else
    none
theorem spec_l5DivSmall.ex : ∃ f : ((α : Type) → Nat → List Int → Int → (Int → List Int → Option α) → Option α), f = fun α => @spec_l5DivSmall.b α := ⟨_, rfl⟩
noncomputable def spec_l5DivSmall {α : Type} : Nat → List Int → Int → (Int → List Int → Option α) → Option α := Classical.choose spec_l5DivSmall.ex α
theorem spec_l5DivSmall.eq : @spec_l5DivSmall = @spec_l5DivSmall.b := funext fun α => congrFun (Classical.choose_spec spec_l5DivSmall.ex) α

noncomputable def spec_l5Mul_L2r {α : Type} (N : Nat) (next : List Int → List Int → Int → Int → Int → List Int → Option α) (k0 : List Int → List Int → Int → Int → List Int → Option α) (v960 : List Int) (v961 : List Int) (v962 : Int) (v963 : Int) (v964 : Int) (v965 : List Int) : Option α :=
  let x966 := ((v961.length : Nat) : Int)
  let x967 := decide (v964 < x966)
  bif x967 then
    let x968 := IntKind.i64.wrap (v962 + v964)
    bif (decide (x968 < (0 : Int))) then
      none
    else
      bif decide (x968.toNat < v965.length) then
        match v965[x968.toNat]? with
        | some x969 =>
          bif (decide (v962 < (0 : Int))) then
            none
          else
            match v960[v962.toNat]? with
            | some x970 =>
              bif (decide (v964 < (0 : Int))) then
                none
              else
                match v961[v964.toNat]? with
                | some x971 =>
                  let x972 := IntKind.i64.wrap (x970 * x971)
                  let x973 := IntKind.i64.wrap (x969 + x972)
                  let x974 := IntKind.i64.wrap (x973 + v963)
                  let x975 := IntKind.i64.wrap (v962 + v964)
                  let x976 := (Int.tmod x974 (65536 : Int))
                  bif (decide (x975 < (0 : Int))) then
                    none
                  else
                    bif decide (x975.toNat < v965.length) then
                      match v965[x975.toNat]? with
                      | some x977 =>
                        let x978 := v965.set x975.toNat x976
                        let x979 := (IntKind.i64.wrap (Int.tdiv x974 (65536 : Int)))
                        let x980 := (IntKind.i64.wrap (v964 + (1 : Int)))
                        next v960 v961 v962 x979 x980 x978
                      | none => none
                    else
                      none
                | none => none
            | none => none
        | none => none
      else
        none
  else
    k0 v960 v961 v962 v963 v965
noncomputable def spec_l5Mul_L2.b {α : Type} (N n : Nat) (v960 : List Int) (v961 : List Int) (v962 : Int) (v963 : Int) (v964 : Int) (v965 : List Int) (k0 : List Int → List Int → Int → Int → List Int → Option α) : Option α :=
  Nat.rec (motive := fun _ => List Int → List Int → Int → Int → Int → List Int → Option α) (fun _ _ _ _ _ _ => none) (fun _ next => spec_l5Mul_L2r N next k0) n v960 v961 v962 v963 v964 v965
theorem spec_l5Mul_L2.ex : ∃ f : ((α : Type) → Nat → Nat → List Int → List Int → Int → Int → Int → List Int → (List Int → List Int → Int → Int → List Int → Option α) → Option α), f = fun α => @spec_l5Mul_L2.b α := ⟨_, rfl⟩
noncomputable def spec_l5Mul_L2 {α : Type} : Nat → Nat → List Int → List Int → Int → Int → Int → List Int → (List Int → List Int → Int → Int → List Int → Option α) → Option α := Classical.choose spec_l5Mul_L2.ex α
theorem spec_l5Mul_L2.eq : @spec_l5Mul_L2 = @spec_l5Mul_L2.b := funext fun α => congrFun (Classical.choose_spec spec_l5Mul_L2.ex) α
theorem spec_l5Mul_L2.zero {α : Type} (N : Nat) (v960 : List Int) (v961 : List Int) (v962 : Int) (v963 : Int) (v964 : Int) (v965 : List Int) (k0 : List Int → List Int → Int → Int → List Int → Option α) : spec_l5Mul_L2 N 0 v960 v961 v962 v963 v964 v965 k0 = none := by rw [spec_l5Mul_L2.eq]; rfl
theorem spec_l5Mul_L2.succ {α : Type} (N n : Nat) (v960 : List Int) (v961 : List Int) (v962 : Int) (v963 : Int) (v964 : Int) (v965 : List Int) (k0 : List Int → List Int → Int → Int → List Int → Option α) : spec_l5Mul_L2 N (n + 1) v960 v961 v962 v963 v964 v965 k0 = spec_l5Mul_L2r N (fun y0 y1 y2 y3 y4 y5 => spec_l5Mul_L2 N n y0 y1 y2 y3 y4 y5 k0) k0 v960 v961 v962 v963 v964 v965 := by rw [spec_l5Mul_L2.eq]; rfl
noncomputable def spec_l5Mul_L0r {α : Type} (N : Nat) (next : List Int → List Int → Int → List Int → Option α) (k0 : List Int → Option α) (v954 : List Int) (v955 : List Int) (v956 : Int) (v957 : List Int) : Option α :=
  let x958 := ((v954.length : Nat) : Int)
  let x959 := decide (v956 < x958)
  bif x959 then
    spec_l5Mul_L2 N N v954 v955 v956 (0 : Int) (0 : Int) v957
      (fun x981 x982 x983 x984 x985 =>
        let x986 := ((x982.length : Nat) : Int)
        let x987 := IntKind.i64.wrap (x983 + x986)
        bif (decide (x987 < (0 : Int))) then
          none
        else
          bif decide (x987.toNat < x985.length) then
            match x985[x987.toNat]? with
            | some x988 =>
              let x989 := x985.set x987.toNat x984
              let x990 := (IntKind.i64.wrap (x983 + (1 : Int)))
              next x981 x982 x990 x989
            | none => none
          else
            none)
  else
    k0 v957
noncomputable def spec_l5Mul_L0.b {α : Type} (N n : Nat) (v954 : List Int) (v955 : List Int) (v956 : Int) (v957 : List Int) (k0 : List Int → Option α) : Option α :=
  Nat.rec (motive := fun _ => List Int → List Int → Int → List Int → Option α) (fun _ _ _ _ => none) (fun _ next => spec_l5Mul_L0r N next k0) n v954 v955 v956 v957
theorem spec_l5Mul_L0.ex : ∃ f : ((α : Type) → Nat → Nat → List Int → List Int → Int → List Int → (List Int → Option α) → Option α), f = fun α => @spec_l5Mul_L0.b α := ⟨_, rfl⟩
noncomputable def spec_l5Mul_L0 {α : Type} : Nat → Nat → List Int → List Int → Int → List Int → (List Int → Option α) → Option α := Classical.choose spec_l5Mul_L0.ex α
theorem spec_l5Mul_L0.eq : @spec_l5Mul_L0 = @spec_l5Mul_L0.b := funext fun α => congrFun (Classical.choose_spec spec_l5Mul_L0.ex) α
theorem spec_l5Mul_L0.zero {α : Type} (N : Nat) (v954 : List Int) (v955 : List Int) (v956 : Int) (v957 : List Int) (k0 : List Int → Option α) : spec_l5Mul_L0 N 0 v954 v955 v956 v957 k0 = none := by rw [spec_l5Mul_L0.eq]; rfl
theorem spec_l5Mul_L0.succ {α : Type} (N n : Nat) (v954 : List Int) (v955 : List Int) (v956 : Int) (v957 : List Int) (k0 : List Int → Option α) : spec_l5Mul_L0 N (n + 1) v954 v955 v956 v957 k0 = spec_l5Mul_L0r N (fun y0 y1 y2 y3 => spec_l5Mul_L0 N n y0 y1 y2 y3 k0) k0 v954 v955 v956 v957 := by rw [spec_l5Mul_L0.eq]; rfl
/-- loop.example/pinfold/spec.l5Mul -/
noncomputable def spec_l5Mul.b {α : Type} (N : Nat) (a948 : List Int) (a949 : List Int) (k0 : List Int → Option α) : Option α :=
  let x950 := ((a948.length : Nat) : Int)
  let x951 := ((a949.length : Nat) : Int)
  let x952 := IntKind.i64.wrap (x950 + x951)
  bif (decide ((0 : Int) ≤ x952)) then
    bif decide (x952 ≤ x952) then
      bif (decide (x952 ≤ ((8796093022208 : Nat) : Int))) then
        let x953 := (List.replicate x952.toNat (0 : Int))
        spec_l5Mul_L0 N N a948 a949 (0 : Int) x953
          (fun x991 =>
            spec_l5Trim N x991
              (fun x992 =>
                k0 x992))
      else
        none
    else
      none
  else
    none
theorem spec_l5Mul.ex : ∃ f : ((α : Type) → Nat → List Int → List Int → (List Int → Option α) → Option α), f = fun α => @spec_l5Mul.b α := ⟨_, rfl⟩
noncomputable def spec_l5Mul {α : Type} : Nat → List Int → List Int → (List Int → Option α) → Option α := Classical.choose spec_l5Mul.ex α
theorem spec_l5Mul.eq : @spec_l5Mul = @spec_l5Mul.b := funext fun α => congrFun (Classical.choose_spec spec_l5Mul.ex) α

/-- loop.example/pinfold/spec.l5Times -/
noncomputable def spec_l5Times.b {α : Type} (N : Nat) (a944 : List Int) (a945 : Int) (k0 : List Int → Option α) : Option α :=
  let x946 := (decide (a945 = (0 : Int)))
  bif x946 then
    k0 []
  else
    let x947 := [a945]
    spec_l5Mul N a944 x947
      (fun x993 =>
        k0 x993)
theorem spec_l5Times.ex : ∃ f : ((α : Type) → Nat → List Int → Int → (List Int → Option α) → Option α), f = fun α => @spec_l5Times.b α := ⟨_, rfl⟩
noncomputable def spec_l5Times {α : Type} : Nat → List Int → Int → (List Int → Option α) → Option α := Classical.choose spec_l5Times.ex α
theorem spec_l5Times.eq : @spec_l5Times = @spec_l5Times.b := funext fun α => congrFun (Classical.choose_spec spec_l5Times.ex) α

noncomputable def spec_l5Top_L0r {α : Type} (N : Nat) (next : List Int → Int → List Int → Option α) (k0 : List Int → Option α) (v1006 : List Int) (v1007 : Int) (v1008 : List Int) : Option α :=
  let x1009 := ((v1006.length : Nat) : Int)
  let x1010 := decide (v1007 < x1009)
  bif x1010 then
    bif (decide (v1007 < (0 : Int))) then
      none
    else
      match v1006[v1007.toNat]? with
      | some x1011 =>
        let x1012 := [x1011]
        bif decide (v1008.length + x1012.length ≤ 8796093022208) then
          let x1013 := v1008 ++ x1012
          let x1014 := (IntKind.i64.wrap (v1007 + (1 : Int)))
          next v1006 x1014 x1013
        else
          none
      | none => none
  else
    k0 v1008
noncomputable def spec_l5Top_L0.b {α : Type} (N n : Nat) (v1006 : List Int) (v1007 : Int) (v1008 : List Int) (k0 : List Int → Option α) : Option α :=
  Nat.rec (motive := fun _ => List Int → Int → List Int → Option α) (fun _ _ _ => none) (fun _ next => spec_l5Top_L0r N next k0) n v1006 v1007 v1008
theorem spec_l5Top_L0.ex : ∃ f : ((α : Type) → Nat → Nat → List Int → Int → List Int → (List Int → Option α) → Option α), f = fun α => @spec_l5Top_L0.b α := ⟨_, rfl⟩
noncomputable def spec_l5Top_L0 {α : Type} : Nat → Nat → List Int → Int → List Int → (List Int → Option α) → Option α := Classical.choose spec_l5Top_L0.ex α
theorem spec_l5Top_L0.eq : @spec_l5Top_L0 = @spec_l5Top_L0.b := funext fun α => congrFun (Classical.choose_spec spec_l5Top_L0.ex) α
theorem spec_l5Top_L0.zero {α : Type} (N : Nat) (v1006 : List Int) (v1007 : Int) (v1008 : List Int) (k0 : List Int → Option α) : spec_l5Top_L0 N 0 v1006 v1007 v1008 k0 = none := by rw [spec_l5Top_L0.eq]; rfl
theorem spec_l5Top_L0.succ {α : Type} (N n : Nat) (v1006 : List Int) (v1007 : Int) (v1008 : List Int) (k0 : List Int → Option α) : spec_l5Top_L0 N (n + 1) v1006 v1007 v1008 k0 = spec_l5Top_L0r N (fun y0 y1 y2 => spec_l5Top_L0 N n y0 y1 y2 k0) k0 v1006 v1007 v1008 := by rw [spec_l5Top_L0.eq]; rfl
/-- loop.example/pinfold/spec.l5Top -/
noncomputable def spec_l5Top.b {α : Type} (N : Nat) (a1004 : List Int) (a1005 : Int) (k0 : List Int → Option α) : Option α :=
  spec_l5Top_L0 N N a1004 a1005 []
    (fun x1015 =>
      k0 x1015)
theorem spec_l5Top.ex : ∃ f : ((α : Type) → Nat → List Int → Int → (List Int → Option α) → Option α), f = fun α => @spec_l5Top.b α := ⟨_, rfl⟩
noncomputable def spec_l5Top {α : Type} : Nat → List Int → Int → (List Int → Option α) → Option α := Classical.choose spec_l5Top.ex α
theorem spec_l5Top.eq : @spec_l5Top = @spec_l5Top.b := funext fun α => congrFun (Classical.choose_spec spec_l5Top.ex) α

noncomputable def spec_l5Shl_L0r {α : Type} (N : Nat) (next : List Int → Int → List Int → Option α) (k0 : List Int → Option α) (v1032 : List Int) (v1033 : Int) (v1034 : List Int) : Option α :=
  let x1035 := ((v1032.length : Nat) : Int)
  let x1036 := decide (v1033 < x1035)
  bif x1036 then
    bif (decide (v1033 < (0 : Int))) then
      none
    else
      match v1032[v1033.toNat]? with
      | some x1037 =>
        let x1038 := [x1037]
        bif decide (v1034.length + x1038.length ≤ 8796093022208) then
          let x1039 := v1034 ++ x1038
          let x1040 := (IntKind.i64.wrap (v1033 + (1 : Int)))
          next v1032 x1040 x1039
        else
          none
      | none => none
  else
    k0 v1034
noncomputable def spec_l5Shl_L0.b {α : Type} (N n : Nat) (v1032 : List Int) (v1033 : Int) (v1034 : List Int) (k0 : List Int → Option α) : Option α :=
  Nat.rec (motive := fun _ => List Int → Int → List Int → Option α) (fun _ _ _ => none) (fun _ next => spec_l5Shl_L0r N next k0) n v1032 v1033 v1034
theorem spec_l5Shl_L0.ex : ∃ f : ((α : Type) → Nat → Nat → List Int → Int → List Int → (List Int → Option α) → Option α), f = fun α => @spec_l5Shl_L0.b α := ⟨_, rfl⟩
noncomputable def spec_l5Shl_L0 {α : Type} : Nat → Nat → List Int → Int → List Int → (List Int → Option α) → Option α := Classical.choose spec_l5Shl_L0.ex α
theorem spec_l5Shl_L0.eq : @spec_l5Shl_L0 = @spec_l5Shl_L0.b := funext fun α => congrFun (Classical.choose_spec spec_l5Shl_L0.ex) α
theorem spec_l5Shl_L0.zero {α : Type} (N : Nat) (v1032 : List Int) (v1033 : Int) (v1034 : List Int) (k0 : List Int → Option α) : spec_l5Shl_L0 N 0 v1032 v1033 v1034 k0 = none := by rw [spec_l5Shl_L0.eq]; rfl
theorem spec_l5Shl_L0.succ {α : Type} (N n : Nat) (v1032 : List Int) (v1033 : Int) (v1034 : List Int) (k0 : List Int → Option α) : spec_l5Shl_L0 N (n + 1) v1032 v1033 v1034 k0 = spec_l5Shl_L0r N (fun y0 y1 y2 => spec_l5Shl_L0 N n y0 y1 y2 k0) k0 v1032 v1033 v1034 := by rw [spec_l5Shl_L0.eq]; rfl
/-- loop.example/pinfold/spec.l5Shl -/
noncomputable def spec_l5Shl.b {α : Type} (N : Nat) (a1027 : List Int) (a1028 : Int) (k0 : List Int → Option α) : Option α :=
  let x1029 := ((a1027.length : Nat) : Int)
  let x1030 := (decide (x1029 = (0 : Int)))
  bif x1030 then
    k0 []
  else
    bif (decide ((0 : Int) ≤ a1028)) then
      bif decide (a1028 ≤ a1028) then
        bif (decide (a1028 ≤ ((8796093022208 : Nat) : Int))) then
          let x1031 := (List.replicate a1028.toNat (0 : Int))
          spec_l5Shl_L0 N N a1027 (0 : Int) x1031
            (fun x1041 =>
              k0 x1041)
        else
          none
      else
        none
    else
      none
theorem spec_l5Shl.ex : ∃ f : ((α : Type) → Nat → List Int → Int → (List Int → Option α) → Option α), f = fun α => @spec_l5Shl.b α := ⟨_, rfl⟩
noncomputable def spec_l5Shl {α : Type} : Nat → List Int → Int → (List Int → Option α) → Option α := Classical.choose spec_l5Shl.ex α
theorem spec_l5Shl.eq : @spec_l5Shl = @spec_l5Shl.b := funext fun α => congrFun (Classical.choose_spec spec_l5Shl.ex) α

/-- loop.example/pinfold/spec.l5At -/
noncomputable def spec_l5At.b {α : Type} (N : Nat) (a1065 : List Int) (a1066 : Int) (k0 : Int → Option α) : Option α :=
  let x1067 := ((a1065.length : Nat) : Int)
  let x1068 := decide (a1066 < x1067)
  bif x1068 then
    bif (decide (a1066 < (0 : Int))) then
      none
    else
      match a1065[a1066.toNat]? with
      | some x1069 =>
        k0 x1069
      | none => none
  else
    k0 (0 : Int)
theorem spec_l5At.ex : ∃ f : ((α : Type) → Nat → List Int → Int → (Int → Option α) → Option α), f = fun α => @spec_l5At.b α := ⟨_, rfl⟩
noncomputable def spec_l5At {α : Type} : Nat → List Int → Int → (Int → Option α) → Option α := Classical.choose spec_l5At.ex α
theorem spec_l5At.eq : @spec_l5At = @spec_l5At.b := funext fun α => congrFun (Classical.choose_spec spec_l5At.ex) α

noncomputable def spec_l5Add_J2.b {α : Type} (N : Nat) (v1049 : List Int) (v1050 : List Int) (v1051 : Int) (k0 : List Int → List Int → Int → Option α) : Option α :=
  let x1052 := ((v1050.length : Nat) : Int)
  let x1053 := decide (v1051 < x1052)
  bif x1053 then
    let x1054 := ((v1050.length : Nat) : Int)
    k0 v1049 v1050 x1054
  else
    k0 v1049 v1050 v1051
theorem spec_l5Add_J2.ex : ∃ f : ((α : Type) → Nat → List Int → List Int → Int → (List Int → List Int → Int → Option α) → Option α), f = fun α => @spec_l5Add_J2.b α := ⟨_, rfl⟩
noncomputable def spec_l5Add_J2 {α : Type} : Nat → List Int → List Int → Int → (List Int → List Int → Int → Option α) → Option α := Classical.choose spec_l5Add_J2.ex α
theorem spec_l5Add_J2.eq : @spec_l5Add_J2 = @spec_l5Add_J2.b := funext fun α => congrFun (Classical.choose_spec spec_l5Add_J2.ex) α
noncomputable def spec_l5Add_L0r {α : Type} (N : Nat) (next : List Int → List Int → Int → Int → Int → List Int → Option α) (k0 : Int → List Int → Option α) (v1058 : List Int) (v1059 : List Int) (v1060 : Int) (v1061 : Int) (v1062 : Int) (v1063 : List Int) : Option α :=
  let x1064 := decide (v1062 < v1060)
  bif x1064 then
    spec_l5At N v1058 v1062
      (fun x1070 =>
        spec_l5At N v1059 v1062
          (fun x1071 =>
            let x1072 := IntKind.i64.wrap (x1070 + x1071)
            let x1073 := IntKind.i64.wrap (x1072 + v1061)
            let x1074 := (Int.tmod x1073 (65536 : Int))
            let x1075 := [x1074]
            bif decide (v1063.length + x1075.length ≤ 8796093022208) then
              let x1076 := v1063 ++ x1075
              let x1077 := (IntKind.i64.wrap (Int.tdiv x1073 (65536 : Int)))
              let x1078 := (IntKind.i64.wrap (v1062 + (1 : Int)))
              next v1058 v1059 v1060 x1077 x1078 x1076
            else
              none))
  else
    k0 v1061 v1063
noncomputable def spec_l5Add_L0.b {α : Type} (N n : Nat) (v1058 : List Int) (v1059 : List Int) (v1060 : Int) (v1061 : Int) (v1062 : Int) (v1063 : List Int) (k0 : Int → List Int → Option α) : Option α :=
  Nat.rec (motive := fun _ => List Int → List Int → Int → Int → Int → List Int → Option α) (fun _ _ _ _ _ _ => none) (fun _ next => spec_l5Add_L0r N next k0) n v1058 v1059 v1060 v1061 v1062 v1063
theorem spec_l5Add_L0.ex : ∃ f : ((α : Type) → Nat → Nat → List Int → List Int → Int → Int → Int → List Int → (Int → List Int → Option α) → Option α), f = fun α => @spec_l5Add_L0.b α := ⟨_, rfl⟩
noncomputable def spec_l5Add_L0 {α : Type} : Nat → Nat → List Int → List Int → Int → Int → Int → List Int → (Int → List Int → Option α) → Option α := Classical.choose spec_l5Add_L0.ex α
theorem spec_l5Add_L0.eq : @spec_l5Add_L0 = @spec_l5Add_L0.b := funext fun α => congrFun (Classical.choose_spec spec_l5Add_L0.ex) α
theorem spec_l5Add_L0.zero {α : Type} (N : Nat) (v1058 : List Int) (v1059 : List Int) (v1060 : Int) (v1061 : Int) (v1062 : Int) (v1063 : List Int) (k0 : Int → List Int → Option α) : spec_l5Add_L0 N 0 v1058 v1059 v1060 v1061 v1062 v1063 k0 = none := by rw [spec_l5Add_L0.eq]; rfl
theorem spec_l5Add_L0.succ {α : Type} (N n : Nat) (v1058 : List Int) (v1059 : List Int) (v1060 : Int) (v1061 : Int) (v1062 : Int) (v1063 : List Int) (k0 : Int → List Int → Option α) : spec_l5Add_L0 N (n + 1) v1058 v1059 v1060 v1061 v1062 v1063 k0 = spec_l5Add_L0r N (fun y0 y1 y2 y3 y4 y5 => spec_l5Add_L0 N n y0 y1 y2 y3 y4 y5 k0) k0 v1058 v1059 v1060 v1061 v1062 v1063 := by rw [spec_l5Add_L0.eq]; rfl
noncomputable def spec_l5Add_J12.b {α : Type} (N : Nat) (v1081 : Int) (v1082 : List Int) (k0 : List Int → Option α) : Option α :=
  let x1083 := (decide ((0 : Int) < v1081))
  bif x1083 then
    let x1084 := [v1081]
    bif decide (v1082.length + x1084.length ≤ 8796093022208) then
      let x1085 := v1082 ++ x1084
      k0 x1085
    else
      none
  else
    k0 v1082
theorem spec_l5Add_J12.ex : ∃ f : ((α : Type) → Nat → Int → List Int → (List Int → Option α) → Option α), f = fun α => @spec_l5Add_J12.b α := ⟨_, rfl⟩
noncomputable def spec_l5Add_J12 {α : Type} : Nat → Int → List Int → (List Int → Option α) → Option α := Classical.choose spec_l5Add_J12.ex α
theorem spec_l5Add_J12.eq : @spec_l5Add_J12 = @spec_l5Add_J12.b := funext fun α => congrFun (Classical.choose_spec spec_l5Add_J12.ex) α
/-- loop.example/pinfold/spec.l5Add -/
noncomputable def spec_l5Add.b {α : Type} (N : Nat) (a1046 : List Int) (a1047 : List Int) (k0 : List Int → Option α) : Option α :=
  let x1048 := ((a1046.length : Nat) : Int)
  spec_l5Add_J2 N a1046 a1047 x1048
    (fun x1055 x1056 x1057 =>
      spec_l5Add_L0 N N x1055 x1056 x1057 (0 : Int) (0 : Int) []
        (fun x1079 x1080 =>
          spec_l5Add_J12 N x1079 x1080
            (fun x1086 =>
              k0 x1086)))
theorem spec_l5Add.ex : ∃ f : ((α : Type) → Nat → List Int → List Int → (List Int → Option α) → Option α), f = fun α => @spec_l5Add.b α := ⟨_, rfl⟩
noncomputable def spec_l5Add {α : Type} : Nat → List Int → List Int → (List Int → Option α) → Option α := Classical.choose spec_l5Add.ex α
theorem spec_l5Add.eq : @spec_l5Add = @spec_l5Add.b := funext fun α => congrFun (Classical.choose_spec spec_l5Add.ex) α

noncomputable def spec_l5Sub_J8.b {α : Type} (N : Nat) (v1139 : List Int) (v1140 : List Int) (v1141 : Int) (v1142 : Int) (v1143 : Int) (v1144 : List Int) (k0 : List Int → List Int → Int → Int → Int → List Int → Option α) : Option α :=
  let x1145 := (decide (v1143 < (0 : Int)))
  bif x1145 then
    let x1146 := (IntKind.i64.wrap (v1143 + (65536 : Int)))
    k0 v1139 v1140 (1 : Int) v1142 x1146 v1144
  else
    k0 v1139 v1140 v1141 v1142 v1143 v1144
theorem spec_l5Sub_J8.ex : ∃ f : ((α : Type) → Nat → List Int → List Int → Int → Int → Int → List Int → (List Int → List Int → Int → Int → Int → List Int → Option α) → Option α), f = fun α => @spec_l5Sub_J8.b α := ⟨_, rfl⟩
noncomputable def spec_l5Sub_J8 {α : Type} : Nat → List Int → List Int → Int → Int → Int → List Int → (List Int → List Int → Int → Int → Int → List Int → Option α) → Option α := Classical.choose spec_l5Sub_J8.ex α
theorem spec_l5Sub_J8.eq : @spec_l5Sub_J8 = @spec_l5Sub_J8.b := funext fun α => congrFun (Classical.choose_spec spec_l5Sub_J8.ex) α
noncomputable def spec_l5Sub_L0r {α : Type} (N : Nat) (next : List Int → List Int → Int → Int → List Int → Option α) (k0 : List Int → Option α) (v1128 : List Int) (v1129 : List Int) (v1130 : Int) (v1131 : Int) (v1132 : List Int) : Option α :=
  let x1133 := ((v1128.length : Nat) : Int)
  let x1134 := decide (v1131 < x1133)
  bif x1134 then
    bif (decide (v1131 < (0 : Int))) then
      none
    else
      match v1128[v1131.toNat]? with
      | some x1135 =>
        spec_l5At N v1129 v1131
          (fun x1136 =>
            let x1137 := IntKind.i64.wrap (x1135 - x1136)
            let x1138 := IntKind.i64.wrap (x1137 - v1130)
            spec_l5Sub_J8 N v1128 v1129 (0 : Int) v1131 x1138 v1132
              (fun x1147 x1148 x1149 x1150 x1151 x1152 =>
                let x1153 := [x1151]
                bif decide (x1152.length + x1153.length ≤ 8796093022208) then
                  let x1154 := x1152 ++ x1153
                  let x1155 := (IntKind.i64.wrap (x1150 + (1 : Int)))
                  next x1147 x1148 x1149 x1155 x1154
                else
                  none))
      | none => none
  else
    k0 v1132
noncomputable def spec_l5Sub_L0.b {α : Type} (N n : Nat) (v1128 : List Int) (v1129 : List Int) (v1130 : Int) (v1131 : Int) (v1132 : List Int) (k0 : List Int → Option α) : Option α :=
  Nat.rec (motive := fun _ => List Int → List Int → Int → Int → List Int → Option α) (fun _ _ _ _ _ => none) (fun _ next => spec_l5Sub_L0r N next k0) n v1128 v1129 v1130 v1131 v1132
theorem spec_l5Sub_L0.ex : ∃ f : ((α : Type) → Nat → Nat → List Int → List Int → Int → Int → List Int → (List Int → Option α) → Option α), f = fun α => @spec_l5Sub_L0.b α := ⟨_, rfl⟩
noncomputable def spec_l5Sub_L0 {α : Type} : Nat → Nat → List Int → List Int → Int → Int → List Int → (List Int → Option α) → Option α := Classical.choose spec_l5Sub_L0.ex α
theorem spec_l5Sub_L0.eq : @spec_l5Sub_L0 = @spec_l5Sub_L0.b := funext fun α => congrFun (Classical.choose_spec spec_l5Sub_L0.ex) α
theorem spec_l5Sub_L0.zero {α : Type} (N : Nat) (v1128 : List Int) (v1129 : List Int) (v1130 : Int) (v1131 : Int) (v1132 : List Int) (k0 : List Int → Option α) : spec_l5Sub_L0 N 0 v1128 v1129 v1130 v1131 v1132 k0 = none := by rw [spec_l5Sub_L0.eq]; rfl
theorem spec_l5Sub_L0.succ {α : Type} (N n : Nat) (v1128 : List Int) (v1129 : List Int) (v1130 : Int) (v1131 : Int) (v1132 : List Int) (k0 : List Int → Option α) : spec_l5Sub_L0 N (n + 1) v1128 v1129 v1130 v1131 v1132 k0 = spec_l5Sub_L0r N (fun y0 y1 y2 y3 y4 => spec_l5Sub_L0 N n y0 y1 y2 y3 y4 k0) k0 v1128 v1129 v1130 v1131 v1132 := by rw [spec_l5Sub_L0.eq]; rfl
/-- loop.example/pinfold/spec.l5Sub -/
noncomputable def spec_l5Sub.b {α : Type} (N : Nat) (a1126 : List Int) (a1127 : List Int) (k0 : List Int → Option α) : Option α :=
  spec_l5Sub_L0 N N a1126 a1127 (0 : Int) (0 : Int) []
    (fun x1156 =>
      spec_l5Trim N x1156
        (fun x1157 =>
          k0 x1157))
theorem spec_l5Sub.ex : ∃ f : ((α : Type) → Nat → List Int → List Int → (List Int → Option α) → Option α), f = fun α => @spec_l5Sub.b α := ⟨_, rfl⟩
noncomputable def spec_l5Sub {α : Type} : Nat → List Int → List Int → (List Int → Option α) → Option α := Classical.choose spec_l5Sub.ex α
theorem spec_l5Sub.eq : @spec_l5Sub = @spec_l5Sub.b := funext fun α => congrFun (Classical.choose_spec spec_l5Sub.ex) α

noncomputable def spec_l5Div_J17.b {α : Type} (N : Nat) (v1097 : Int) (v1098 : Int) (v1099 : Int) (v1100 : Int) (v1101 : List Int) (v1102 : List Int) (v1103 : List Int) (v1104 : List Int) (k0 : Int → Int → Int → Int → List Int → List Int → List Int → List Int → Option α) : Option α :=
  let x1105 := (decide ((65536 : Int) ≤ v1100))
  bif x1105 then
    k0 v1097 v1098 v1099 (65535 : Int) v1101 v1102 v1103 v1104
  else
    k0 v1097 v1098 v1099 v1100 v1101 v1102 v1103 v1104
theorem spec_l5Div_J17.ex : ∃ f : ((α : Type) → Nat → Int → Int → Int → Int → List Int → List Int → List Int → List Int → (Int → Int → Int → Int → List Int → List Int → List Int → List Int → Option α) → Option α), f = fun α => @spec_l5Div_J17.b α := ⟨_, rfl⟩
noncomputable def spec_l5Div_J17 {α : Type} : Nat → Int → Int → Int → Int → List Int → List Int → List Int → List Int → (Int → Int → Int → Int → List Int → List Int → List Int → List Int → Option α) → Option α := Classical.choose spec_l5Div_J17.ex α
theorem spec_l5Div_J17.eq : @spec_l5Div_J17 = @spec_l5Div_J17.b := funext fun α => congrFun (Classical.choose_spec spec_l5Div_J17.ex) α
noncomputable def spec_l5Div_L2r {α : Type} (N : Nat) (next : Int → Int → Int → Int → List Int → List Int → List Int → List Int → List Int → Option α) (k0 : Int → Int → Int → Int → List Int → List Int → List Int → List Int → List Int → Option α) (v1115 : Int) (v1116 : Int) (v1117 : Int) (v1118 : Int) (v1119 : List Int) (v1120 : List Int) (v1121 : List Int) (v1122 : List Int) (v1123 : List Int) : Option α :=
  spec_l5Cmp N v1123 v1122
    (fun x1124 =>
      let x1125 := (decide ((0 : Int) < x1124))
      bif x1125 then
        spec_l5Sub N v1123 v1120
          (fun x1158 =>
            let x1159 := (IntKind.i64.wrap (v1118 - (1 : Int)))
            next v1115 v1116 v1117 x1159 v1119 v1120 v1121 v1122 x1158)
      else
        k0 v1115 v1116 v1117 v1118 v1119 v1120 v1121 v1122 v1123)
noncomputable def spec_l5Div_L2.b {α : Type} (N n : Nat) (v1115 : Int) (v1116 : Int) (v1117 : Int) (v1118 : Int) (v1119 : List Int) (v1120 : List Int) (v1121 : List Int) (v1122 : List Int) (v1123 : List Int) (k0 : Int → Int → Int → Int → List Int → List Int → List Int → List Int → List Int → Option α) : Option α :=
  Nat.rec (motive := fun _ => Int → Int → Int → Int → List Int → List Int → List Int → List Int → List Int → Option α) (fun _ _ _ _ _ _ _ _ _ => none) (fun _ next => spec_l5Div_L2r N next k0) n v1115 v1116 v1117 v1118 v1119 v1120 v1121 v1122 v1123
theorem spec_l5Div_L2.ex : ∃ f : ((α : Type) → Nat → Nat → Int → Int → Int → Int → List Int → List Int → List Int → List Int → List Int → (Int → Int → Int → Int → List Int → List Int → List Int → List Int → List Int → Option α) → Option α), f = fun α => @spec_l5Div_L2.b α := ⟨_, rfl⟩
noncomputable def spec_l5Div_L2 {α : Type} : Nat → Nat → Int → Int → Int → Int → List Int → List Int → List Int → List Int → List Int → (Int → Int → Int → Int → List Int → List Int → List Int → List Int → List Int → Option α) → Option α := Classical.choose spec_l5Div_L2.ex α
theorem spec_l5Div_L2.eq : @spec_l5Div_L2 = @spec_l5Div_L2.b := funext fun α => congrFun (Classical.choose_spec spec_l5Div_L2.ex) α
theorem spec_l5Div_L2.zero {α : Type} (N : Nat) (v1115 : Int) (v1116 : Int) (v1117 : Int) (v1118 : Int) (v1119 : List Int) (v1120 : List Int) (v1121 : List Int) (v1122 : List Int) (v1123 : List Int) (k0 : Int → Int → Int → Int → List Int → List Int → List Int → List Int → List Int → Option α) : spec_l5Div_L2 N 0 v1115 v1116 v1117 v1118 v1119 v1120 v1121 v1122 v1123 k0 = none := by rw [spec_l5Div_L2.eq]; rfl
theorem spec_l5Div_L2.succ {α : Type} (N n : Nat) (v1115 : Int) (v1116 : Int) (v1117 : Int) (v1118 : Int) (v1119 : List Int) (v1120 : List Int) (v1121 : List Int) (v1122 : List Int) (v1123 : List Int) (k0 : Int → Int → Int → Int → List Int → List Int → List Int → List Int → List Int → Option α) : spec_l5Div_L2 N (n + 1) v1115 v1116 v1117 v1118 v1119 v1120 v1121 v1122 v1123 k0 = spec_l5Div_L2r N (fun y0 y1 y2 y3 y4 y5 y6 y7 y8 => spec_l5Div_L2 N n y0 y1 y2 y3 y4 y5 y6 y7 y8 k0) k0 v1115 v1116 v1117 v1118 v1119 v1120 v1121 v1122 v1123 := by rw [spec_l5Div_L2.eq]; rfl
noncomputable def spec_l5Div_L0r {α : Type} (N : Nat) (next : Int → Int → Int → List Int → List Int → List Int → List Int → Option α) (k0 : Int → List Int → List Int → Option α) (v1019 : Int) (v1020 : Int) (v1021 : Int) (v1022 : List Int) (v1023 : List Int) (v1024 : List Int) (v1025 : List Int) : Option α :=
  let x1026 := (decide ((0 : Int) ≤ v1021))
  bif x1026 then
    spec_l5Shl N v1025 (1 : Int)
      (fun x1042 =>
        bif (decide (v1021 < (0 : Int))) then
          none
        else
          bif decide (v1021.toNat < v1022.length) then
            match v1022[v1021.toNat]? with
            | some x1043 =>
              let x1044 := IntKind.u64.wrap x1043
              spec_NatOf N x1044
                (fun x1045 =>
                  spec_l5Add N x1042 x1045
                    (fun x1087 =>
                      spec_l5Trim N x1087
                        (fun x1088 =>
                          spec_l5At N x1088 v1020
                            (fun x1089 =>
                              let x1090 := (IntKind.i64.wrap (x1089 * (65536 : Int)))
                              let x1091 := (IntKind.i64.wrap (v1020 - (1 : Int)))
                              spec_l5At N x1088 x1091
                                (fun x1092 =>
                                  let x1093 := IntKind.i64.wrap (x1090 + x1092)
                                  let x1094 := (IntKind.i64.wrap (v1020 - (1 : Int)))
                                  bif (decide (x1094 < (0 : Int))) then
                                    none
                                  else
                                    bif decide (x1094.toNat < v1023.length) then
                                      match v1023[x1094.toNat]? with
                                      | some x1095 =>
                                        bif (decide (x1095 = (0 : Int))) then
                                          none
                                        else
                                          let x1096 := IntKind.i64.wrap (Int.tdiv x1093 x1095)
                                          spec_l5Div_J17 N v1019 v1020 v1021 x1096 v1022 v1023 v1024 x1088
                                            (fun x1106 x1107 x1108 x1109 x1110 x1111 x1112 x1113 =>
                                              spec_l5Times N x1111 x1109
                                                (fun x1114 =>
                                                  spec_l5Div_L2 N N x1106 x1107 x1108 x1109 x1110 x1111 x1112 x1113 x1114
                                                    (fun x1160 x1161 x1162 x1163 x1164 x1165 x1166 x1167 x1168 =>
                                                      bif (decide (x1162 < (0 : Int))) then
                                                        none
                                                      else
                                                        bif decide (x1162.toNat < x1166.length) then
                                                          match x1166[x1162.toNat]? with
                                                          | some x1169 =>
                                                            let x1170 := x1166.set x1162.toNat x1163
                                                            spec_l5Sub N x1167 x1168
                                                              (fun x1171 =>
                                                                let x1172 := (IntKind.i64.wrap (x1162 - (1 : Int)))
                                                                next x1160 x1161 x1172 x1164 x1165 x1170 x1171)
                                                          | none => none
                                                        else
                                                          none)))
                                      | none => none
                                    else
                                      none)))))
            | none => none
          else
            none)
  else
    k0 v1019 v1024 v1025
noncomputable def spec_l5Div_L0.b {α : Type} (N n : Nat) (v1019 : Int) (v1020 : Int) (v1021 : Int) (v1022 : List Int) (v1023 : List Int) (v1024 : List Int) (v1025 : List Int) (k0 : Int → List Int → List Int → Option α) : Option α :=
  Nat.rec (motive := fun _ => Int → Int → Int → List Int → List Int → List Int → List Int → Option α) (fun _ _ _ _ _ _ _ => none) (fun _ next => spec_l5Div_L0r N next k0) n v1019 v1020 v1021 v1022 v1023 v1024 v1025
theorem spec_l5Div_L0.ex : ∃ f : ((α : Type) → Nat → Nat → Int → Int → Int → List Int → List Int → List Int → List Int → (Int → List Int → List Int → Option α) → Option α), f = fun α => @spec_l5Div_L0.b α := ⟨_, rfl⟩
noncomputable def spec_l5Div_L0 {α : Type} : Nat → Nat → Int → Int → Int → List Int → List Int → List Int → List Int → (Int → List Int → List Int → Option α) → Option α := Classical.choose spec_l5Div_L0.ex α
theorem spec_l5Div_L0.eq : @spec_l5Div_L0 = @spec_l5Div_L0.b := funext fun α => congrFun (Classical.choose_spec spec_l5Div_L0.ex) α
theorem spec_l5Div_L0.zero {α : Type} (N : Nat) (v1019 : Int) (v1020 : Int) (v1021 : Int) (v1022 : List Int) (v1023 : List Int) (v1024 : List Int) (v1025 : List Int) (k0 : Int → List Int → List Int → Option α) : spec_l5Div_L0 N 0 v1019 v1020 v1021 v1022 v1023 v1024 v1025 k0 = none := by rw [spec_l5Div_L0.eq]; rfl
theorem spec_l5Div_L0.succ {α : Type} (N n : Nat) (v1019 : Int) (v1020 : Int) (v1021 : Int) (v1022 : List Int) (v1023 : List Int) (v1024 : List Int) (v1025 : List Int) (k0 : Int → List Int → List Int → Option α) : spec_l5Div_L0 N (n + 1) v1019 v1020 v1021 v1022 v1023 v1024 v1025 k0 = spec_l5Div_L0r N (fun y0 y1 y2 y3 y4 y5 y6 => spec_l5Div_L0 N n y0 y1 y2 y3 y4 y5 y6 k0) k0 v1019 v1020 v1021 v1022 v1023 v1024 v1025 := by rw [spec_l5Div_L0.eq]; rfl
/-- loop.example/pinfold/spec.l5Div -/
noncomputable def spec_l5Div.b {α : Type} (N : Nat) (a882 : List Int) (a883 : List Int) (k0 : List Int → List Int → Option α) : Option α :=
  spec_l5Cmp N a882 a883
    (fun x906 =>
      let x907 := (decide (x906 < (0 : Int)))
      bif x907 then
        spec_l5Trim N a882
          (fun x908 =>
            k0 [] x908)
      else
        let x909 := ((a883.length : Nat) : Int)
        let x910 := (decide (x909 = (1 : Int)))
        bif x910 then
          match a883[0]? with
          | some x911 =>
            spec_l5DivSmall N a882 x911
              (fun x935 x936 =>
                let x937 := IntKind.u64.wrap x935
                spec_NatOf N x937
                  (fun x938 =>
                    k0 x936 x938))
          | none => none
        else
          let x939 := ((a883.length : Nat) : Int)
          let x940 := (IntKind.i64.wrap (x939 - (1 : Int)))
          bif (decide (x940 < (0 : Int))) then
            none
          else
            match a883[x940.toNat]? with
            | some x941 =>
              let x942 := (IntKind.i64.wrap (x941 + (1 : Int)))
              bif (decide (x942 = (0 : Int))) then
                none
              else
                let x943 := (IntKind.i64.wrap (Int.tdiv (65536 : Int) x942))
                spec_l5Times N a882 x943
                  (fun x994 =>
                    spec_l5Times N a883 x943
                      (fun x995 =>
                        let x996 := ((x995.length : Nat) : Int)
                        let x997 := ((x994.length : Nat) : Int)
                        let x998 := IntKind.i64.wrap (x997 - x996)
                        let x999 := (IntKind.i64.wrap (x998 + (1 : Int)))
                        bif (decide ((0 : Int) ≤ x999)) then
                          bif decide (x999 ≤ x999) then
                            bif (decide (x999 ≤ ((8796093022208 : Nat) : Int))) then
                              let x1000 := (List.replicate x999.toNat (0 : Int))
                              let x1001 := ((x994.length : Nat) : Int)
                              let x1002 := IntKind.i64.wrap (x1001 - x996)
                              let x1003 := (IntKind.i64.wrap (x1002 + (1 : Int)))
                              spec_l5Top N x994 x1003
                                (fun x1016 =>
                                  let x1017 := ((x994.length : Nat) : Int)
                                  let x1018 := IntKind.i64.wrap (x1017 - x996)
                                  spec_l5Div_L0 N N x943 x996 x1018 x994 x995 x1000 x1016
                                    (fun x1173 x1174 x1175 =>
                                      spec_l5DivSmall N x1175 x1173
                                        (fun _ x1177 =>
                                          spec_l5Trim N x1174
                                            (fun x1178 =>
                                              k0 x1178 x1177))))
                            else
                              none
                          else
                            none
                        else
                          none))
            | none => none)
theorem spec_l5Div.ex : ∃ f : ((α : Type) → Nat → List Int → List Int → (List Int → List Int → Option α) → Option α), f = fun α => @spec_l5Div.b α := ⟨_, rfl⟩
noncomputable def spec_l5Div {α : Type} : Nat → List Int → List Int → (List Int → List Int → Option α) → Option α := Classical.choose spec_l5Div.ex α
theorem spec_l5Div.eq : @spec_l5Div = @spec_l5Div.b := funext fun α => congrFun (Classical.choose_spec spec_l5Div.ex) α

/-- loop.example/pinfold/spec.NatDiv -/
noncomputable def spec_NatDiv.b {α : Type} (N : Nat) (a854 : List Int) (a855 : List Int) (k0 : Bool → List Int → List Int → Option α) : Option α :=
  spec_NatOk N a854
    (fun x876 =>
      let x877 := !x876
      bif x877 then
        k0 false [] []
      else
        spec_NatOk N a855
          (fun x878 =>
            let x879 := !x878
            bif x879 then
              k0 false [] []
            else
              let x880 := ((a855.length : Nat) : Int)
              let x881 := (decide (x880 = (0 : Int)))
              bif x881 then
                k0 false [] []
              else
                spec_l5Div N a854 a855
                  (fun x1179 x1180 =>
                    k0 true x1179 x1180)))
theorem spec_NatDiv.ex : ∃ f : ((α : Type) → Nat → List Int → List Int → (Bool → List Int → List Int → Option α) → Option α), f = fun α => @spec_NatDiv.b α := ⟨_, rfl⟩
noncomputable def spec_NatDiv {α : Type} : Nat → List Int → List Int → (Bool → List Int → List Int → Option α) → Option α := Classical.choose spec_NatDiv.ex α
theorem spec_NatDiv.eq : @spec_NatDiv = @spec_NatDiv.b := funext fun α => congrFun (Classical.choose_spec spec_NatDiv.ex) α

noncomputable def impl_natMul_L2r {α : Type} (N : Nat) (next : List Int → Int → Int → Int → List Int → Int → Int → List Int → Int → Int → List Int → Option α) (k0 : List Int → Int → Int → List Int → Int → Int → List Int → Option α) (v1211 : List Int) (v1212 : Int) (v1213 : Int) (v1214 : Int) (v1215 : List Int) (v1216 : Int) (v1217 : Int) (v1218 : List Int) (v1219 : Int) (v1220 : Int) (v1221 : List Int) : Option α :=
  let x1222 := decide (v1220 < v1219)
  bif x1222 then
    bif (decide (v1220 < (0 : Int))) then
      none
    else
      match v1218[v1220.toNat]? with
      | some x1223 =>
        let x1224 := IntKind.i64.wrap (v1212 + v1220)
        bif (decide (x1224 < (0 : Int))) then
          none
        else
          bif decide (x1224.toNat < v1221.length) then
            match v1221[x1224.toNat]? with
            | some x1225 =>
              let x1226 := IntKind.i64.wrap (v1213 * x1223)
              let x1227 := IntKind.i64.wrap (x1225 + x1226)
              let x1228 := IntKind.i64.wrap (x1227 + v1214)
              let x1229 := IntKind.i64.wrap (v1212 + v1220)
              let x1230 := (bitI .and .i64 x1228 (65535 : Int))
              bif (decide (x1229 < (0 : Int))) then
                none
              else
                bif decide (x1229.toNat < v1221.length) then
                  match v1221[x1229.toNat]? with
                  | some x1231 =>
                    let x1232 := v1221.set x1229.toNat x1230
                    let x1233 := (shrI .i64 x1228 (16 : Int))
                    let x1234 := (IntKind.i64.wrap (v1220 + (1 : Int)))
                    next v1211 v1212 v1213 x1233 v1215 v1216 v1217 v1218 v1219 x1234 x1232
                  | none => none
                else
                  none
            | none => none
          else
            none
      | none => none
  else
    k0 v1211 v1212 v1214 v1215 v1216 v1217 v1221
noncomputable def impl_natMul_L2.b {α : Type} (N n : Nat) (v1211 : List Int) (v1212 : Int) (v1213 : Int) (v1214 : Int) (v1215 : List Int) (v1216 : Int) (v1217 : Int) (v1218 : List Int) (v1219 : Int) (v1220 : Int) (v1221 : List Int) (k0 : List Int → Int → Int → List Int → Int → Int → List Int → Option α) : Option α :=
  Nat.rec (motive := fun _ => List Int → Int → Int → Int → List Int → Int → Int → List Int → Int → Int → List Int → Option α) (fun _ _ _ _ _ _ _ _ _ _ _ => none) (fun _ next => impl_natMul_L2r N next k0) n v1211 v1212 v1213 v1214 v1215 v1216 v1217 v1218 v1219 v1220 v1221
theorem impl_natMul_L2.ex : ∃ f : ((α : Type) → Nat → Nat → List Int → Int → Int → Int → List Int → Int → Int → List Int → Int → Int → List Int → (List Int → Int → Int → List Int → Int → Int → List Int → Option α) → Option α), f = fun α => @impl_natMul_L2.b α := ⟨_, rfl⟩
noncomputable def impl_natMul_L2 {α : Type} : Nat → Nat → List Int → Int → Int → Int → List Int → Int → Int → List Int → Int → Int → List Int → (List Int → Int → Int → List Int → Int → Int → List Int → Option α) → Option α := Classical.choose impl_natMul_L2.ex α
theorem impl_natMul_L2.eq : @impl_natMul_L2 = @impl_natMul_L2.b := funext fun α => congrFun (Classical.choose_spec impl_natMul_L2.ex) α
theorem impl_natMul_L2.zero {α : Type} (N : Nat) (v1211 : List Int) (v1212 : Int) (v1213 : Int) (v1214 : Int) (v1215 : List Int) (v1216 : Int) (v1217 : Int) (v1218 : List Int) (v1219 : Int) (v1220 : Int) (v1221 : List Int) (k0 : List Int → Int → Int → List Int → Int → Int → List Int → Option α) : impl_natMul_L2 N 0 v1211 v1212 v1213 v1214 v1215 v1216 v1217 v1218 v1219 v1220 v1221 k0 = none := by rw [impl_natMul_L2.eq]; rfl
theorem impl_natMul_L2.succ {α : Type} (N n : Nat) (v1211 : List Int) (v1212 : Int) (v1213 : Int) (v1214 : Int) (v1215 : List Int) (v1216 : Int) (v1217 : Int) (v1218 : List Int) (v1219 : Int) (v1220 : Int) (v1221 : List Int) (k0 : List Int → Int → Int → List Int → Int → Int → List Int → Option α) : impl_natMul_L2 N (n + 1) v1211 v1212 v1213 v1214 v1215 v1216 v1217 v1218 v1219 v1220 v1221 k0 = impl_natMul_L2r N (fun y0 y1 y2 y3 y4 y5 y6 y7 y8 y9 y10 => impl_natMul_L2 N n y0 y1 y2 y3 y4 y5 y6 y7 y8 y9 y10 k0) k0 v1211 v1212 v1213 v1214 v1215 v1216 v1217 v1218 v1219 v1220 v1221 := by rw [impl_natMul_L2.eq]; rfl
noncomputable def impl_natMul_L0r {α : Type} (N : Nat) (next : List Int → List Int → Int → Int → List Int → Option α) (k0 : List Int → Option α) (v1203 : List Int) (v1204 : List Int) (v1205 : Int) (v1206 : Int) (v1207 : List Int) : Option α :=
  let x1208 := decide (v1206 < v1205)
  bif x1208 then
    bif (decide (v1206 < (0 : Int))) then
      none
    else
      match v1204[v1206.toNat]? with
      | some x1209 =>
        let x1210 := ((v1203.length : Nat) : Int)
        impl_natMul_L2 N N v1203 v1206 x1209 (0 : Int) v1204 v1205 v1206 v1203 x1210 (0 : Int) v1207
          (fun x1235 x1236 x1237 x1238 x1239 x1240 x1241 =>
            let x1242 := ((x1235.length : Nat) : Int)
            let x1243 := IntKind.i64.wrap (x1236 + x1242)
            bif (decide (x1243 < (0 : Int))) then
              none
            else
              bif decide (x1243.toNat < x1241.length) then
                match x1241[x1243.toNat]? with
                | some x1244 =>
                  let x1245 := IntKind.i64.wrap (x1244 + x1237)
                  bif (decide (x1243 < (0 : Int))) then
                    none
                  else
                    bif decide (x1243.toNat < x1241.length) then
                      match x1241[x1243.toNat]? with
                      | some x1246 =>
                        let x1247 := x1241.set x1243.toNat x1245
                        let x1248 := (IntKind.i64.wrap (x1240 + (1 : Int)))
                        next x1235 x1238 x1239 x1248 x1247
                      | none => none
                    else
                      none
                | none => none
              else
                none)
      | none => none
  else
    k0 v1207
noncomputable def impl_natMul_L0.b {α : Type} (N n : Nat) (v1203 : List Int) (v1204 : List Int) (v1205 : Int) (v1206 : Int) (v1207 : List Int) (k0 : List Int → Option α) : Option α :=
  Nat.rec (motive := fun _ => List Int → List Int → Int → Int → List Int → Option α) (fun _ _ _ _ _ => none) (fun _ next => impl_natMul_L0r N next k0) n v1203 v1204 v1205 v1206 v1207
theorem impl_natMul_L0.ex : ∃ f : ((α : Type) → Nat → Nat → List Int → List Int → Int → Int → List Int → (List Int → Option α) → Option α), f = fun α => @impl_natMul_L0.b α := ⟨_, rfl⟩
noncomputable def impl_natMul_L0 {α : Type} : Nat → Nat → List Int → List Int → Int → Int → List Int → (List Int → Option α) → Option α := Classical.choose impl_natMul_L0.ex α
theorem impl_natMul_L0.eq : @impl_natMul_L0 = @impl_natMul_L0.b := funext fun α => congrFun (Classical.choose_spec impl_natMul_L0.ex) α
theorem impl_natMul_L0.zero {α : Type} (N : Nat) (v1203 : List Int) (v1204 : List Int) (v1205 : Int) (v1206 : Int) (v1207 : List Int) (k0 : List Int → Option α) : impl_natMul_L0 N 0 v1203 v1204 v1205 v1206 v1207 k0 = none := by rw [impl_natMul_L0.eq]; rfl
theorem impl_natMul_L0.succ {α : Type} (N n : Nat) (v1203 : List Int) (v1204 : List Int) (v1205 : Int) (v1206 : Int) (v1207 : List Int) (k0 : List Int → Option α) : impl_natMul_L0 N (n + 1) v1203 v1204 v1205 v1206 v1207 k0 = impl_natMul_L0r N (fun y0 y1 y2 y3 y4 => impl_natMul_L0 N n y0 y1 y2 y3 y4 k0) k0 v1203 v1204 v1205 v1206 v1207 := by rw [impl_natMul_L0.eq]; rfl
/-- loop.example/pinfold/impl.natMul -/
noncomputable def impl_natMul.b {α : Type} (N : Nat) (a1195 : List Int) (a1196 : List Int) (k0 : List Int → Option α) : Option α :=
  let x1197 := ((a1195.length : Nat) : Int)
  let x1198 := ((a1196.length : Nat) : Int)
  let x1199 := IntKind.i64.wrap (x1197 + x1198)
  let x1200 := (IntKind.i64.wrap (x1199 + (1 : Int)))
  bif (decide ((0 : Int) ≤ x1200)) then
    bif decide (x1200 ≤ x1200) then
      bif (decide (x1200 ≤ ((8796093022208 : Nat) : Int))) then
        let x1201 := (List.replicate x1200.toNat (0 : Int))
        let x1202 := ((a1195.length : Nat) : Int)
        impl_natMul_L0 N N a1196 a1195 x1202 (0 : Int) x1201
          (fun x1249 =>
            impl_trim N x1249
              (fun x1250 =>
                k0 x1250))
      else
        none
    else
      none
  else
    none
theorem impl_natMul.ex : ∃ f : ((α : Type) → Nat → List Int → List Int → (List Int → Option α) → Option α), f = fun α => @impl_natMul.b α := ⟨_, rfl⟩
noncomputable def impl_natMul {α : Type} : Nat → List Int → List Int → (List Int → Option α) → Option α := Classical.choose impl_natMul.ex α
theorem impl_natMul.eq : @impl_natMul = @impl_natMul.b := funext fun α => congrFun (Classical.choose_spec impl_natMul.ex) α

/-- loop.example/pinfold/impl.told -/
noncomputable def impl_told.b {α : Type} (N : Nat) (a1252 : List Int) (a1253 : Bool) (k0 : Bool → List Int → Option α) : Option α :=
  impl_trim N a1252
    (fun x1254 =>
      let x1255 := !a1253
      bif x1255 then
        k0 false []
      else
        let x1256 := ((x1254.length : Nat) : Int)
        let x1257 := (decide ((256 : Int) < x1256))
        bif x1257 then
          k0 false []
        else
          impl_clone_int N x1254
            (fun x1258 =>
              k0 true x1258))
theorem impl_told.ex : ∃ f : ((α : Type) → Nat → List Int → Bool → (Bool → List Int → Option α) → Option α), f = fun α => @impl_told.b α := ⟨_, rfl⟩
noncomputable def impl_told {α : Type} : Nat → List Int → Bool → (Bool → List Int → Option α) → Option α := Classical.choose impl_told.ex α
theorem impl_told.eq : @impl_told = @impl_told.b := funext fun α => congrFun (Classical.choose_spec impl_told.ex) α

/-- loop.example/pinfold/impl.NatMul -/
noncomputable def impl_NatMul.b {α : Type} (N : Nat) (a1190 : List Int) (a1191 : List Int) (k0 : Bool → List Int → Option α) : Option α :=
  let x1192 := [a1190, a1191]
  impl_nats N x1192
    (fun x1193 =>
      let x1194 := !x1193
      bif x1194 then
        k0 false []
      else
        impl_natMul N a1190 a1191
          (fun x1251 =>
            impl_told N x1251 true
              (fun x1259 x1260 =>
                k0 x1259 x1260)))
theorem impl_NatMul.ex : ∃ f : ((α : Type) → Nat → List Int → List Int → (Bool → List Int → Option α) → Option α), f = fun α => @impl_NatMul.b α := ⟨_, rfl⟩
noncomputable def impl_NatMul {α : Type} : Nat → List Int → List Int → (Bool → List Int → Option α) → Option α := Classical.choose impl_NatMul.ex α
theorem impl_NatMul.eq : @impl_NatMul = @impl_NatMul.b := funext fun α => congrFun (Classical.choose_spec impl_NatMul.ex) α

noncomputable def impl_natAdd_L0r {α : Type} (N : Nat) (next : List Int → Int → Int → List Int → Option α) (k0 : List Int → Option α) (v1278 : List Int) (v1279 : Int) (v1280 : Int) (v1281 : List Int) : Option α :=
  let x1282 := decide (v1280 < v1279)
  bif x1282 then
    bif (decide (v1280 < (0 : Int))) then
      none
    else
      match v1278[v1280.toNat]? with
      | some x1283 =>
        bif (decide (v1280 < (0 : Int))) then
          none
        else
          bif decide (v1280.toNat < v1281.length) then
            match v1281[v1280.toNat]? with
            | some x1284 =>
              let x1285 := IntKind.i64.wrap (x1284 + x1283)
              bif (decide (v1280 < (0 : Int))) then
                none
              else
                bif decide (v1280.toNat < v1281.length) then
                  match v1281[v1280.toNat]? with
                  | some x1286 =>
                    let x1287 := v1281.set v1280.toNat x1285
                    let x1288 := (IntKind.i64.wrap (v1280 + (1 : Int)))
                    next v1278 v1279 x1288 x1287
                  | none => none
                else
                  none
            | none => none
          else
            none
      | none => none
  else
    k0 v1281
noncomputable def impl_natAdd_L0.b {α : Type} (N n : Nat) (v1278 : List Int) (v1279 : Int) (v1280 : Int) (v1281 : List Int) (k0 : List Int → Option α) : Option α :=
  Nat.rec (motive := fun _ => List Int → Int → Int → List Int → Option α) (fun _ _ _ _ => none) (fun _ next => impl_natAdd_L0r N next k0) n v1278 v1279 v1280 v1281
theorem impl_natAdd_L0.ex : ∃ f : ((α : Type) → Nat → Nat → List Int → Int → Int → List Int → (List Int → Option α) → Option α), f = fun α => @impl_natAdd_L0.b α := ⟨_, rfl⟩
noncomputable def impl_natAdd_L0 {α : Type} : Nat → Nat → List Int → Int → Int → List Int → (List Int → Option α) → Option α := Classical.choose impl_natAdd_L0.ex α
theorem impl_natAdd_L0.eq : @impl_natAdd_L0 = @impl_natAdd_L0.b := funext fun α => congrFun (Classical.choose_spec impl_natAdd_L0.ex) α
theorem impl_natAdd_L0.zero {α : Type} (N : Nat) (v1278 : List Int) (v1279 : Int) (v1280 : Int) (v1281 : List Int) (k0 : List Int → Option α) : impl_natAdd_L0 N 0 v1278 v1279 v1280 v1281 k0 = none := by rw [impl_natAdd_L0.eq]; rfl
theorem impl_natAdd_L0.succ {α : Type} (N n : Nat) (v1278 : List Int) (v1279 : Int) (v1280 : Int) (v1281 : List Int) (k0 : List Int → Option α) : impl_natAdd_L0 N (n + 1) v1278 v1279 v1280 v1281 k0 = impl_natAdd_L0r N (fun y0 y1 y2 y3 => impl_natAdd_L0 N n y0 y1 y2 y3 k0) k0 v1278 v1279 v1280 v1281 := by rw [impl_natAdd_L0.eq]; rfl
noncomputable def impl_natAdd_L2r {α : Type} (N : Nat) (next : Int → Int → List Int → Option α) (k0 : List Int → Option α) (v1292 : Int) (v1293 : Int) (v1294 : List Int) : Option α :=
  let x1295 := decide (v1293 < v1292)
  bif x1295 then
    let x1296 := (IntKind.i64.wrap (v1293 + (1 : Int)))
    bif (decide (x1296 < (0 : Int))) then
      none
    else
      bif decide (x1296.toNat < v1294.length) then
        match v1294[x1296.toNat]? with
        | some x1297 =>
          bif (decide (v1293 < (0 : Int))) then
            none
          else
            bif decide (v1293.toNat < v1294.length) then
              match v1294[v1293.toNat]? with
              | some x1298 =>
                let x1299 := (shrI .i64 x1298 (16 : Int))
                let x1300 := IntKind.i64.wrap (x1297 + x1299)
                bif (decide (x1296 < (0 : Int))) then
                  none
                else
                  bif decide (x1296.toNat < v1294.length) then
                    match v1294[x1296.toNat]? with
                    | some x1301 =>
                      let x1302 := v1294.set x1296.toNat x1300
                      bif (decide (v1293 < (0 : Int))) then
                        none
                      else
                        bif decide (v1293.toNat < x1302.length) then
                          match x1302[v1293.toNat]? with
                          | some x1303 =>
                            let x1304 := (bitI .and .i64 x1303 (65535 : Int))
                            bif (decide (v1293 < (0 : Int))) then
                              none
                            else
                              bif decide (v1293.toNat < x1302.length) then
                                match x1302[v1293.toNat]? with
                                | some x1305 =>
                                  let x1306 := x1302.set v1293.toNat x1304
                                  let x1307 := (IntKind.i64.wrap (v1293 + (1 : Int)))
                                  next v1292 x1307 x1306
                                | none => none
                              else
                                none
                          | none => none
                        else
                          none
                    | none => none
                  else
                    none
              | none => none
            else
              none
        | none => none
      else
        none
  else
    k0 v1294
noncomputable def impl_natAdd_L2.b {α : Type} (N n : Nat) (v1292 : Int) (v1293 : Int) (v1294 : List Int) (k0 : List Int → Option α) : Option α :=
  Nat.rec (motive := fun _ => Int → Int → List Int → Option α) (fun _ _ _ => none) (fun _ next => impl_natAdd_L2r N next k0) n v1292 v1293 v1294
theorem impl_natAdd_L2.ex : ∃ f : ((α : Type) → Nat → Nat → Int → Int → List Int → (List Int → Option α) → Option α), f = fun α => @impl_natAdd_L2.b α := ⟨_, rfl⟩
noncomputable def impl_natAdd_L2 {α : Type} : Nat → Nat → Int → Int → List Int → (List Int → Option α) → Option α := Classical.choose impl_natAdd_L2.ex α
theorem impl_natAdd_L2.eq : @impl_natAdd_L2 = @impl_natAdd_L2.b := funext fun α => congrFun (Classical.choose_spec impl_natAdd_L2.ex) α
theorem impl_natAdd_L2.zero {α : Type} (N : Nat) (v1292 : Int) (v1293 : Int) (v1294 : List Int) (k0 : List Int → Option α) : impl_natAdd_L2 N 0 v1292 v1293 v1294 k0 = none := by rw [impl_natAdd_L2.eq]; rfl
theorem impl_natAdd_L2.succ {α : Type} (N n : Nat) (v1292 : Int) (v1293 : Int) (v1294 : List Int) (k0 : List Int → Option α) : impl_natAdd_L2 N (n + 1) v1292 v1293 v1294 k0 = impl_natAdd_L2r N (fun y0 y1 y2 => impl_natAdd_L2 N n y0 y1 y2 k0) k0 v1292 v1293 v1294 := by rw [impl_natAdd_L2.eq]; rfl
/-- loop.example/pinfold/impl.natAdd -/
noncomputable def impl_natAdd.b {α : Type} (N : Nat) (a1268 : List Int) (a1269 : List Int) (k0 : List Int → Option α) : Option α :=
  let x1270 := ((a1268.length : Nat) : Int)
  let x1271 := ((a1269.length : Nat) : Int)
  let x1272 := maxI x1270 x1271
  let x1273 := (IntKind.i64.wrap (x1272 + (1 : Int)))
  bif (decide ((0 : Int) ≤ x1273)) then
    bif decide (x1273 ≤ x1273) then
      bif (decide (x1273 ≤ ((8796093022208 : Nat) : Int))) then
        let x1274 := (List.replicate x1273.toNat (0 : Int))
        let x1275 := List.take (min a1268.length x1274.length) a1268 ++ List.drop (min a1268.length x1274.length) x1274
        let x1277 := ((a1269.length : Nat) : Int)
        impl_natAdd_L0 N N a1269 x1277 (0 : Int) x1275
          (fun x1289 =>
            let x1290 := ((x1289.length : Nat) : Int)
            let x1291 := (IntKind.i64.wrap (x1290 - (1 : Int)))
            impl_natAdd_L2 N N x1291 (0 : Int) x1289
              (fun x1308 =>
                impl_trim N x1308
                  (fun x1309 =>
                    k0 x1309)))
      else
        none
    else
      none
  else
    none
theorem impl_natAdd.ex : ∃ f : ((α : Type) → Nat → List Int → List Int → (List Int → Option α) → Option α), f = fun α => @impl_natAdd.b α := ⟨_, rfl⟩
noncomputable def impl_natAdd {α : Type} : Nat → List Int → List Int → (List Int → Option α) → Option α := Classical.choose impl_natAdd.ex α
theorem impl_natAdd.eq : @impl_natAdd = @impl_natAdd.b := funext fun α => congrFun (Classical.choose_spec impl_natAdd.ex) α

/-- loop.example/pinfold/impl.NatAdd -/
noncomputable def impl_NatAdd.b {α : Type} (N : Nat) (a1263 : List Int) (a1264 : List Int) (k0 : Bool → List Int → Option α) : Option α :=
  let x1265 := [a1263, a1264]
  impl_nats N x1265
    (fun x1266 =>
      let x1267 := !x1266
      bif x1267 then
        k0 false []
      else
        impl_natAdd N a1263 a1264
          (fun x1310 =>
            impl_told N x1310 true
              (fun x1311 x1312 =>
                k0 x1311 x1312)))
theorem impl_NatAdd.ex : ∃ f : ((α : Type) → Nat → List Int → List Int → (Bool → List Int → Option α) → Option α), f = fun α => @impl_NatAdd.b α := ⟨_, rfl⟩
noncomputable def impl_NatAdd {α : Type} : Nat → List Int → List Int → (Bool → List Int → Option α) → Option α := Classical.choose impl_NatAdd.ex α
theorem impl_NatAdd.eq : @impl_NatAdd = @impl_NatAdd.b := funext fun α => congrFun (Classical.choose_spec impl_NatAdd.ex) α

noncomputable def laws_pwSame_L0r {α : Type} (N : Nat) (next : List Int → List Int → Int → Option α) (k0 : Bool → Option α) (k1 : Option α) (v1322 : List Int) (v1323 : List Int) (v1324 : Int) : Option α :=
  let x1325 := ((v1322.length : Nat) : Int)
  let x1326 := decide (v1324 < x1325)
  bif x1326 then
    bif (decide (v1324 < (0 : Int))) then
      none
    else
      match v1322[v1324.toNat]? with
      | some x1327 =>
        bif (decide (v1324 < (0 : Int))) then
          none
        else
          match v1323[v1324.toNat]? with
          | some x1328 =>
            let x1329 := !(decide (x1327 = x1328))
            bif x1329 then
              k0 false
            else
              let x1330 := (IntKind.i64.wrap (v1324 + (1 : Int)))
              next v1322 v1323 x1330
          | none => none
      | none => none
  else
    k1
noncomputable def laws_pwSame_L0.b {α : Type} (N n : Nat) (v1322 : List Int) (v1323 : List Int) (v1324 : Int) (k0 : Bool → Option α) (k1 : Option α) : Option α :=
  Nat.rec (motive := fun _ => List Int → List Int → Int → Option α) (fun _ _ _ => none) (fun _ next => laws_pwSame_L0r N next k0 k1) n v1322 v1323 v1324
theorem laws_pwSame_L0.ex : ∃ f : ((α : Type) → Nat → Nat → List Int → List Int → Int → (Bool → Option α) → (Option α) → Option α), f = fun α => @laws_pwSame_L0.b α := ⟨_, rfl⟩
noncomputable def laws_pwSame_L0 {α : Type} : Nat → Nat → List Int → List Int → Int → (Bool → Option α) → (Option α) → Option α := Classical.choose laws_pwSame_L0.ex α
theorem laws_pwSame_L0.eq : @laws_pwSame_L0 = @laws_pwSame_L0.b := funext fun α => congrFun (Classical.choose_spec laws_pwSame_L0.ex) α
theorem laws_pwSame_L0.zero {α : Type} (N : Nat) (v1322 : List Int) (v1323 : List Int) (v1324 : Int) (k0 : Bool → Option α) (k1 : Option α) : laws_pwSame_L0 N 0 v1322 v1323 v1324 k0 k1 = none := by rw [laws_pwSame_L0.eq]; rfl
theorem laws_pwSame_L0.succ {α : Type} (N n : Nat) (v1322 : List Int) (v1323 : List Int) (v1324 : Int) (k0 : Bool → Option α) (k1 : Option α) : laws_pwSame_L0 N (n + 1) v1322 v1323 v1324 k0 k1 = laws_pwSame_L0r N (fun y0 y1 y2 => laws_pwSame_L0 N n y0 y1 y2 k0 k1) k0 k1 v1322 v1323 v1324 := by rw [laws_pwSame_L0.eq]; rfl
/-- loop.example/pinfold/laws.pwSame -/
noncomputable def laws_pwSame.b {α : Type} (N : Nat) (a1317 : List Int) (a1318 : List Int) (k0 : Bool → Option α) : Option α :=
  let x1319 := ((a1317.length : Nat) : Int)
  let x1320 := ((a1318.length : Nat) : Int)
  let x1321 := !(decide (x1319 = x1320))
  bif x1321 then
    k0 false
  else
    laws_pwSame_L0 N N a1317 a1318 (0 : Int)
      (fun x1331 =>
        k0 x1331)
      (
        k0 true)
theorem laws_pwSame.ex : ∃ f : ((α : Type) → Nat → List Int → List Int → (Bool → Option α) → Option α), f = fun α => @laws_pwSame.b α := ⟨_, rfl⟩
noncomputable def laws_pwSame {α : Type} : Nat → List Int → List Int → (Bool → Option α) → Option α := Classical.choose laws_pwSame.ex α
theorem laws_pwSame.eq : @laws_pwSame = @laws_pwSame.b := funext fun α => congrFun (Classical.choose_spec laws_pwSame.ex) α

/-- loop.example/pinfold/impl.NatCmp -/
noncomputable def impl_NatCmp.b {α : Type} (N : Nat) (a1334 : List Int) (a1335 : List Int) (k0 : Int → Option α) : Option α :=
  let x1336 := [a1334, a1335]
  impl_nats N x1336
    (fun x1337 =>
      let x1338 := !x1337
      bif x1338 then
        k0 (2 : Int)
      else
        impl_natCmp N a1334 a1335
          (fun x1339 =>
            k0 x1339))
theorem impl_NatCmp.ex : ∃ f : ((α : Type) → Nat → List Int → List Int → (Int → Option α) → Option α), f = fun α => @impl_NatCmp.b α := ⟨_, rfl⟩
noncomputable def impl_NatCmp {α : Type} : Nat → List Int → List Int → (Int → Option α) → Option α := Classical.choose impl_NatCmp.ex α
theorem impl_NatCmp.eq : @impl_NatCmp = @impl_NatCmp.b := funext fun α => congrFun (Classical.choose_spec impl_NatCmp.ex) α

/-- loop.example/pinfold/spec.l5Fits -/
noncomputable def spec_l5Fits.b {α : Type} (N : Nat) (a1372 : List Int) (k0 : List Int → Bool → Option α) : Option α :=
  let x1373 := ((a1372.length : Nat) : Int)
  let x1374 := (decide ((256 : Int) < x1373))
  bif x1374 then
    k0 [] false
  else
    k0 a1372 true
theorem spec_l5Fits.ex : ∃ f : ((α : Type) → Nat → List Int → (List Int → Bool → Option α) → Option α), f = fun α => @spec_l5Fits.b α := ⟨_, rfl⟩
noncomputable def spec_l5Fits {α : Type} : Nat → List Int → (List Int → Bool → Option α) → Option α := Classical.choose spec_l5Fits.ex α
theorem spec_l5Fits.eq : @spec_l5Fits = @spec_l5Fits.b := funext fun α => congrFun (Classical.choose_spec spec_l5Fits.ex) α

/-- loop.example/pinfold/spec.NatAdd -/
noncomputable def spec_NatAdd.b {α : Type} (N : Nat) (a1362 : List Int) (a1363 : List Int) (k0 : List Int → Bool → Option α) : Option α :=
  spec_NatOk N a1362
    (fun x1364 =>
      let x1365 := !x1364
      bif x1365 then
        k0 [] false
      else
        spec_NatOk N a1363
          (fun x1366 =>
            let x1367 := !x1366
            bif x1367 then
              k0 [] false
            else
              spec_l5Add N a1362 a1363
                (fun x1368 =>
                  spec_l5Fits N x1368
                    (fun x1375 x1376 =>
                      k0 x1375 x1376))))
theorem spec_NatAdd.ex : ∃ f : ((α : Type) → Nat → List Int → List Int → (List Int → Bool → Option α) → Option α), f = fun α => @spec_NatAdd.b α := ⟨_, rfl⟩
noncomputable def spec_NatAdd {α : Type} : Nat → List Int → List Int → (List Int → Bool → Option α) → Option α := Classical.choose spec_NatAdd.ex α
theorem spec_NatAdd.eq : @spec_NatAdd = @spec_NatAdd.b := funext fun α => congrFun (Classical.choose_spec spec_NatAdd.ex) α

noncomputable def impl_natSub_L0r {α : Type} (N : Nat) (next : List Int → Int → Int → List Int → Option α) (k0 : List Int → Option α) (v1392 : List Int) (v1393 : Int) (v1394 : Int) (v1395 : List Int) : Option α :=
  let x1396 := decide (v1394 < v1393)
  bif x1396 then
    bif (decide (v1394 < (0 : Int))) then
      none
    else
      match v1392[v1394.toNat]? with
      | some x1397 =>
        bif (decide (v1394 < (0 : Int))) then
          none
        else
          bif decide (v1394.toNat < v1395.length) then
            match v1395[v1394.toNat]? with
            | some x1398 =>
              let x1399 := IntKind.i64.wrap (x1398 - x1397)
              bif (decide (v1394 < (0 : Int))) then
                none
              else
                bif decide (v1394.toNat < v1395.length) then
                  match v1395[v1394.toNat]? with
                  | some x1400 =>
                    let x1401 := v1395.set v1394.toNat x1399
                    let x1402 := (IntKind.i64.wrap (v1394 + (1 : Int)))
                    next v1392 v1393 x1402 x1401
                  | none => none
                else
                  none
            | none => none
          else
            none
      | none => none
  else
    k0 v1395
noncomputable def impl_natSub_L0.b {α : Type} (N n : Nat) (v1392 : List Int) (v1393 : Int) (v1394 : Int) (v1395 : List Int) (k0 : List Int → Option α) : Option α :=
  Nat.rec (motive := fun _ => List Int → Int → Int → List Int → Option α) (fun _ _ _ _ => none) (fun _ next => impl_natSub_L0r N next k0) n v1392 v1393 v1394 v1395
theorem impl_natSub_L0.ex : ∃ f : ((α : Type) → Nat → Nat → List Int → Int → Int → List Int → (List Int → Option α) → Option α), f = fun α => @impl_natSub_L0.b α := ⟨_, rfl⟩
noncomputable def impl_natSub_L0 {α : Type} : Nat → Nat → List Int → Int → Int → List Int → (List Int → Option α) → Option α := Classical.choose impl_natSub_L0.ex α
theorem impl_natSub_L0.eq : @impl_natSub_L0 = @impl_natSub_L0.b := funext fun α => congrFun (Classical.choose_spec impl_natSub_L0.ex) α
theorem impl_natSub_L0.zero {α : Type} (N : Nat) (v1392 : List Int) (v1393 : Int) (v1394 : Int) (v1395 : List Int) (k0 : List Int → Option α) : impl_natSub_L0 N 0 v1392 v1393 v1394 v1395 k0 = none := by rw [impl_natSub_L0.eq]; rfl
theorem impl_natSub_L0.succ {α : Type} (N n : Nat) (v1392 : List Int) (v1393 : Int) (v1394 : Int) (v1395 : List Int) (k0 : List Int → Option α) : impl_natSub_L0 N (n + 1) v1392 v1393 v1394 v1395 k0 = impl_natSub_L0r N (fun y0 y1 y2 y3 => impl_natSub_L0 N n y0 y1 y2 y3 k0) k0 v1392 v1393 v1394 v1395 := by rw [impl_natSub_L0.eq]; rfl
noncomputable def impl_natSub_J10.b {α : Type} (N : Nat) (v1409 : Int) (v1410 : Int) (v1411 : Int) (v1412 : List Int) (k0 : Int → Int → List Int → Option α) : Option α :=
  bif (decide (v1409 < (0 : Int))) then
    none
  else
    bif decide (v1409.toNat < v1412.length) then
      match v1412[v1409.toNat]? with
      | some x1413 =>
        let x1414 := (decide (x1413 < (0 : Int)))
        bif x1414 then
          bif (decide (v1409 < (0 : Int))) then
            none
          else
            bif decide (v1409.toNat < v1412.length) then
              match v1412[v1409.toNat]? with
              | some x1415 =>
                let x1416 := (IntKind.i64.wrap (x1415 + (65536 : Int)))
                bif (decide (v1409 < (0 : Int))) then
                  none
                else
                  bif decide (v1409.toNat < v1412.length) then
                    match v1412[v1409.toNat]? with
                    | some x1417 =>
                      let x1418 := v1412.set v1409.toNat x1416
                      let x1419 := (IntKind.i64.wrap (v1409 + (1 : Int)))
                      bif (decide (x1419 < (0 : Int))) then
                        none
                      else
                        bif decide (x1419.toNat < x1418.length) then
                          match x1418[x1419.toNat]? with
                          | some x1420 =>
                            let x1421 := (IntKind.i64.wrap (x1420 - (1 : Int)))
                            bif (decide (x1419 < (0 : Int))) then
                              none
                            else
                              bif decide (x1419.toNat < x1418.length) then
                                match x1418[x1419.toNat]? with
                                | some x1422 =>
                                  let x1423 := x1418.set x1419.toNat x1421
                                  k0 v1410 v1411 x1423
                                | none => none
                              else
                                none
                          | none => none
                        else
                          none
                    | none => none
                  else
                    none
              | none => none
            else
              none
        else
          k0 v1410 v1411 v1412
      | none => none
    else
      none
theorem impl_natSub_J10.ex : ∃ f : ((α : Type) → Nat → Int → Int → Int → List Int → (Int → Int → List Int → Option α) → Option α), f = fun α => @impl_natSub_J10.b α := ⟨_, rfl⟩
noncomputable def impl_natSub_J10 {α : Type} : Nat → Int → Int → Int → List Int → (Int → Int → List Int → Option α) → Option α := Classical.choose impl_natSub_J10.ex α
theorem impl_natSub_J10.eq : @impl_natSub_J10 = @impl_natSub_J10.b := funext fun α => congrFun (Classical.choose_spec impl_natSub_J10.ex) α
noncomputable def impl_natSub_L2r {α : Type} (N : Nat) (next : Int → Int → List Int → Option α) (k0 : List Int → Option α) (v1405 : Int) (v1406 : Int) (v1407 : List Int) : Option α :=
  let x1408 := decide (v1406 < v1405)
  bif x1408 then
    impl_natSub_J10 N v1406 v1405 v1406 v1407
      (fun x1424 x1425 x1426 =>
        let x1427 := (IntKind.i64.wrap (x1425 + (1 : Int)))
        next x1424 x1427 x1426)
  else
    k0 v1407
noncomputable def impl_natSub_L2.b {α : Type} (N n : Nat) (v1405 : Int) (v1406 : Int) (v1407 : List Int) (k0 : List Int → Option α) : Option α :=
  Nat.rec (motive := fun _ => Int → Int → List Int → Option α) (fun _ _ _ => none) (fun _ next => impl_natSub_L2r N next k0) n v1405 v1406 v1407
theorem impl_natSub_L2.ex : ∃ f : ((α : Type) → Nat → Nat → Int → Int → List Int → (List Int → Option α) → Option α), f = fun α => @impl_natSub_L2.b α := ⟨_, rfl⟩
noncomputable def impl_natSub_L2 {α : Type} : Nat → Nat → Int → Int → List Int → (List Int → Option α) → Option α := Classical.choose impl_natSub_L2.ex α
theorem impl_natSub_L2.eq : @impl_natSub_L2 = @impl_natSub_L2.b := funext fun α => congrFun (Classical.choose_spec impl_natSub_L2.ex) α
theorem impl_natSub_L2.zero {α : Type} (N : Nat) (v1405 : Int) (v1406 : Int) (v1407 : List Int) (k0 : List Int → Option α) : impl_natSub_L2 N 0 v1405 v1406 v1407 k0 = none := by rw [impl_natSub_L2.eq]; rfl
theorem impl_natSub_L2.succ {α : Type} (N n : Nat) (v1405 : Int) (v1406 : Int) (v1407 : List Int) (k0 : List Int → Option α) : impl_natSub_L2 N (n + 1) v1405 v1406 v1407 k0 = impl_natSub_L2r N (fun y0 y1 y2 => impl_natSub_L2 N n y0 y1 y2 k0) k0 v1405 v1406 v1407 := by rw [impl_natSub_L2.eq]; rfl
/-- loop.example/pinfold/impl.natSub -/
noncomputable def impl_natSub.b {α : Type} (N : Nat) (a1388 : List Int) (a1389 : List Int) (k0 : List Int → Option α) : Option α :=
  slices_Clone_int_int N a1388
    (fun x1390 =>
      let x1391 := ((a1389.length : Nat) : Int)
      impl_natSub_L0 N N a1389 x1391 (0 : Int) x1390
        (fun x1403 =>
          let x1404 := ((x1403.length : Nat) : Int)
          impl_natSub_L2 N N x1404 (0 : Int) x1403
            (fun x1428 =>
              impl_trim N x1428
                (fun x1429 =>
                  k0 x1429))))
theorem impl_natSub.ex : ∃ f : ((α : Type) → Nat → List Int → List Int → (List Int → Option α) → Option α), f = fun α => @impl_natSub.b α := ⟨_, rfl⟩
noncomputable def impl_natSub {α : Type} : Nat → List Int → List Int → (List Int → Option α) → Option α := Classical.choose impl_natSub.ex α
theorem impl_natSub.eq : @impl_natSub = @impl_natSub.b := funext fun α => congrFun (Classical.choose_spec impl_natSub.ex) α

/-- loop.example/pinfold/impl.NatSub -/
noncomputable def impl_NatSub.b {α : Type} (N : Nat) (a1381 : List Int) (a1382 : List Int) (k0 : Bool → List Int → Option α) : Option α :=
  let x1383 := [a1381, a1382]
  impl_nats N x1383
    (fun x1384 =>
      let x1385 := !x1384
      bif x1385 then
        k0 false []
      else
        impl_natCmp N a1381 a1382
          (fun x1386 =>
            let x1387 := (decide (x1386 < (0 : Int)))
            bif x1387 then
              k0 false []
            else
              impl_natSub N a1381 a1382
                (fun x1430 =>
                  impl_told N x1430 true
                    (fun x1431 x1432 =>
                      k0 x1431 x1432))))
theorem impl_NatSub.ex : ∃ f : ((α : Type) → Nat → List Int → List Int → (Bool → List Int → Option α) → Option α), f = fun α => @impl_NatSub.b α := ⟨_, rfl⟩
noncomputable def impl_NatSub {α : Type} : Nat → List Int → List Int → (Bool → List Int → Option α) → Option α := Classical.choose impl_NatSub.ex α
theorem impl_NatSub.eq : @impl_NatSub = @impl_NatSub.b := funext fun α => congrFun (Classical.choose_spec impl_NatSub.ex) α

noncomputable def laws_FnNatDiv_J8.b {α : Type} (N : Nat) (v1185 : Bool) (v1186 : List Int) (v1187 : List Int) (v1188 : List Int) (v1189 : List Int) (k0 : Bool → Option α) (k1 : List Int → List Int → Option α) : Option α :=
  bif v1185 then
    impl_NatMul N v1188 v1187
      (fun x1261 x1262 =>
        impl_NatAdd N x1262 v1189
          (fun x1313 x1314 =>
            let x1315 := !x1261
            bif x1315 then
              k0 false
            else
              let x1316 := !x1313
              bif x1316 then
                k0 false
              else
                laws_pwSame N x1314 v1186
                  (fun x1332 =>
                    let x1333 := !x1332
                    bif x1333 then
                      k0 false
                    else
                      impl_NatCmp N v1189 v1187
                        (fun x1340 =>
                          let x1341 := (!(decide (x1340 = (-1 : Int))))
                          bif x1341 then
                            k0 false
                          else
                            k1 v1186 v1187))))
  else
    k1 v1186 v1187
theorem laws_FnNatDiv_J8.ex : ∃ f : ((α : Type) → Nat → Bool → List Int → List Int → List Int → List Int → (Bool → Option α) → (List Int → List Int → Option α) → Option α), f = fun α => @laws_FnNatDiv_J8.b α := ⟨_, rfl⟩
noncomputable def laws_FnNatDiv_J8 {α : Type} : Nat → Bool → List Int → List Int → List Int → List Int → (Bool → Option α) → (List Int → List Int → Option α) → Option α := Classical.choose laws_FnNatDiv_J8.ex α
theorem laws_FnNatDiv_J8.eq : @laws_FnNatDiv_J8 = @laws_FnNatDiv_J8.b := funext fun α => congrFun (Classical.choose_spec laws_FnNatDiv_J8.ex) α
/-- loop.example/pinfold/laws.FnNatDiv -/
noncomputable def laws_FnNatDiv.b {α : Type} (N : Nat) (a1 : List Int) (k0 : Bool → Option α) : Option α :=
  let x2 := ((a1.length : Nat) : Int)
  let x3 := (decide ((1048576 : Int) < x2))
  bif x3 then
    k0 true
  else
    spec_DrawNatDiv N a1
      (fun x253 x254 =>
        impl_NatDiv N x253 x254
          (fun x851 x852 x853 =>
            spec_NatDiv N x253 x254
              (fun x1181 _ _ =>
                let x1184 := !(x851 == x1181)
                bif x1184 then
                  k0 false
                else
                  laws_FnNatDiv_J8 N x851 x253 x254 x852 x853
                    (fun x1342 =>
                      k0 x1342)
                    (fun x1343 x1344 =>
                      impl_NatAdd N x1343 x1344
                        (fun x1345 x1346 =>
                          spec_NatAdd N x1343 x1344
                            (fun _ x1378 =>
                              let x1379 := !(x1345 == x1378)
                              bif x1379 then
                                k0 false
                              else
                                let x1380 := !x1345
                                bif x1380 then
                                  k0 true
                                else
                                  impl_NatSub N x1346 x1344
                                    (fun x1433 x1434 =>
                                      bif x1433 then
                                        laws_pwSame N x1434 x1343
                                          (fun x1435 =>
                                            bif x1435 then
                                              impl_NatCmp N x1346 x1343
                                                (fun x1436 =>
                                                  let x1437 := (decide ((0 : Int) ≤ x1436))
                                                  k0 x1437)
                                            else
                                              k0 false)
                                      else
                                        k0 false)))))))
theorem laws_FnNatDiv.ex : ∃ f : ((α : Type) → Nat → List Int → (Bool → Option α) → Option α), f = fun α => @laws_FnNatDiv.b α := ⟨_, rfl⟩
noncomputable def laws_FnNatDiv {α : Type} : Nat → List Int → (Bool → Option α) → Option α := Classical.choose laws_FnNatDiv.ex α
theorem laws_FnNatDiv.eq : @laws_FnNatDiv = @laws_FnNatDiv.b := funext fun α => congrFun (Classical.choose_spec laws_FnNatDiv.ex) α

end
end Go.Proofs.YtgabephijgjogaaAm
