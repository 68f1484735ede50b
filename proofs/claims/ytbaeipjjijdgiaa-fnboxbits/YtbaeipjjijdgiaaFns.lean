/-
  The functions that the program computes, as the abstract machine tells them. Printed by amp.py.
-/
import Derived.Test.YtbaeipjjijdgiaaAmb
namespace Go.Proofs.YtbaeipjjijdgiaaAm
open Go
noncomputable section
set_option linter.unusedVariables false
set_option linter.unusedSimpArgs false

noncomputable def spec_l31Open_J1.b {α : Type} (N : Nat) (v10 : List Int) (k0 : List Int → Option α) : Option α :=
  let x11 := ((v10.length : Nat) : Int)
  let x12 := (decide ((2000 : Int) < x11))
  bif x12 then
    bif (decide ((2000 : Int) ≤ ((v10.length : Nat) : Int))) then
      let x13 := v10.take 2000
      k0 x13
    else
      none
  else
    k0 v10
theorem spec_l31Open_J1.ex : ∃ f : ((α : Type) → Nat → List Int → (List Int → Option α) → Option α), f = fun α => @spec_l31Open_J1.b α := ⟨_, rfl⟩
noncomputable def spec_l31Open_J1 {α : Type} : Nat → List Int → (List Int → Option α) → Option α := Classical.choose spec_l31Open_J1.ex α
theorem spec_l31Open_J1.eq : @spec_l31Open_J1 = @spec_l31Open_J1.b := funext fun α => congrFun (Classical.choose_spec spec_l31Open_J1.ex) α
/-- loop.example/pinfold/spec.l31Open -/
noncomputable def spec_l31Open.b {α : Type} (N : Nat) (a9 : List Int) (k0 : ((List Int) × Int × Unit) → Option α) : Option α :=
  spec_l31Open_J1 N a9
    (fun x14 =>
      k0 (x14, ((0 : Int), ())))
theorem spec_l31Open.ex : ∃ f : ((α : Type) → Nat → List Int → (((List Int) × Int × Unit) → Option α) → Option α), f = fun α => @spec_l31Open.b α := ⟨_, rfl⟩
noncomputable def spec_l31Open {α : Type} : Nat → List Int → (((List Int) × Int × Unit) → Option α) → Option α := Classical.choose spec_l31Open.ex α
theorem spec_l31Open.eq : @spec_l31Open = @spec_l31Open.b := funext fun α => congrFun (Classical.choose_spec spec_l31Open.ex) α

/-- (*loop.example/pinfold/spec.l31Rd).pick -/
noncomputable def spec_l31Rd_pick.b {α : Type} (N : Nat) (a17 : Int) (a18 : (List Int) × Int × Unit) (k0 : Int → ((List Int) × Int × Unit) → Option α) : Option α :=
  let x19 := (IntKind.i64.wrap (a18.2.1 + (1 : Int)))
  let x20 := (decide (a17 < (1 : Int)))
  bif x20 then
    k0 (0 : Int) (a18.1, (x19, ()))
  else
    let x21 := ((a18.1.length : Nat) : Int)
    let x22 := (decide (x21 = (0 : Int)))
    bif x22 then
      k0 (0 : Int) (a18.1, (x19, ()))
    else
      let x23 := (IntKind.i64.wrap (x19 - (1 : Int)))
      let x24 := ((a18.1.length : Nat) : Int)
      let x25 := decide (x23 < x24)
      bif x25 then
        bif (decide (x23 < (0 : Int))) then
          none
        else
          match a18.1[x23.toNat]? with
          | some x26 =>
            let x27 := IntKind.i64.wrap x26
            bif (decide (a17 = (0 : Int))) then
              none
            else
              let x28 := Int.tmod x27 a17
              k0 x28 (a18.1, (x19, ()))
          | none => none
      else
        let x29 := ((a18.1.length : Nat) : Int)
        bif (decide (x29 = (0 : Int))) then
          none
        else
          let x30 := Int.tmod x23 x29
          bif (decide (x30 < (0 : Int))) then
            none
          else
            match a18.1[x30.toNat]? with
            | some x31 =>
              let x32 := IntKind.i64.wrap x31
              let x33 := (IntKind.i64.wrap (x32 * (131 : Int)))
              let x34 := (IntKind.i64.wrap (x23 * (7 : Int)))
              let x35 := (IntKind.i64.wrap (x34 + (3 : Int)))
              let x36 := ((a18.1.length : Nat) : Int)
              bif (decide (x36 = (0 : Int))) then
                none
              else
                let x37 := Int.tmod x35 x36
                bif (decide (x37 < (0 : Int))) then
                  none
                else
                  match a18.1[x37.toNat]? with
                  | some x38 =>
                    let x39 := IntKind.i64.wrap x38
                    let x40 := (IntKind.i64.wrap (x39 * (1117 : Int)))
                    let x41 := IntKind.i64.wrap (x33 + x40)
                    let x42 := (IntKind.i64.wrap (x23 * (29 : Int)))
                    let x43 := IntKind.i64.wrap (x41 + x42)
                    let x44 := ((a18.1.length : Nat) : Int)
                    bif (decide (x44 = (0 : Int))) then
                      none
                    else
                      let x45 := IntKind.i64.wrap (Int.tdiv x23 x44)
                      let x46 := (IntKind.i64.wrap (x45 * (53 : Int)))
                      let x47 := IntKind.i64.wrap (x43 + x46)
                      let x48 := (IntKind.i64.wrap (Int.tdiv x47 (64 : Int)))
                      let x49 := bitI .xor .i64 x47 x48
                      bif (decide (a17 = (0 : Int))) then
                        none
                      else
                        let x50 := Int.tmod x49 a17
                        k0 x50 (a18.1, (x19, ()))
                  | none => none
            | none => none
theorem spec_l31Rd_pick.ex : ∃ f : ((α : Type) → Nat → Int → ((List Int) × Int × Unit) → (Int → ((List Int) × Int × Unit) → Option α) → Option α), f = fun α => @spec_l31Rd_pick.b α := ⟨_, rfl⟩
noncomputable def spec_l31Rd_pick {α : Type} : Nat → Int → ((List Int) × Int × Unit) → (Int → ((List Int) × Int × Unit) → Option α) → Option α := Classical.choose spec_l31Rd_pick.ex α
theorem spec_l31Rd_pick.eq : @spec_l31Rd_pick = @spec_l31Rd_pick.b := funext fun α => congrFun (Classical.choose_spec spec_l31Rd_pick.ex) α

/-- (*loop.example/pinfold/spec.l31Rd).width -/
noncomputable def spec_l31Rd_width.b {α : Type} (N : Nat) (a16 : (List Int) × Int × Unit) (k0 : Int → ((List Int) × Int × Unit) → Option α) : Option α :=
  spec_l31Rd_pick N (32 : Int) a16
    (fun x51 x52 =>
      let x53 := (decide (x51 < (15 : Int)))
      bif x53 then
        k0 (32 : Int) x52
      else
        let x54 := (decide (x51 < (30 : Int)))
        bif x54 then
          k0 (64 : Int) x52
        else
          let x55 := [(0 : Int), (63 : Int), (16 : Int), (-64 : Int)]
          spec_l31Rd_pick N (4 : Int) x52
            (fun x56 x57 =>
              bif (decide (x56 < (0 : Int))) then
                none
              else
                bif decide (x56.toNat < x55.length) then
                  match x55[x56.toNat]? with
                  | some x58 =>
                    k0 x58 x57
                  | none => none
                else
                  none))
theorem spec_l31Rd_width.ex : ∃ f : ((α : Type) → Nat → ((List Int) × Int × Unit) → (Int → ((List Int) × Int × Unit) → Option α) → Option α), f = fun α => @spec_l31Rd_width.b α := ⟨_, rfl⟩
noncomputable def spec_l31Rd_width {α : Type} : Nat → ((List Int) × Int × Unit) → (Int → ((List Int) × Int × Unit) → Option α) → Option α := Classical.choose spec_l31Rd_width.ex α
theorem spec_l31Rd_width.eq : @spec_l31Rd_width = @spec_l31Rd_width.b := funext fun α => congrFun (Classical.choose_spec spec_l31Rd_width.ex) α

/-- loop.example/pinfold/spec.BitTop -/
noncomputable def spec_BitTop.b {α : Type} (N : Nat) (a78 : Int) (k0 : Int → Option α) : Option α :=
  let x79 := (decide (a78 = (32 : Int)))
  bif x79 then
    k0 (2139095040 : Int)
  else
    let x80 := (decide (a78 = (64 : Int)))
    bif x80 then
      k0 (9218868437227405312 : Int)
    else
      k0 (0 : Int)
theorem spec_BitTop.ex : ∃ f : ((α : Type) → Nat → Int → (Int → Option α) → Option α), f = fun α => @spec_BitTop.b α := ⟨_, rfl⟩
noncomputable def spec_BitTop {α : Type} : Nat → Int → (Int → Option α) → Option α := Classical.choose spec_BitTop.ex α
theorem spec_BitTop.eq : @spec_BitTop = @spec_BitTop.b := funext fun α => congrFun (Classical.choose_spec spec_BitTop.ex) α

noncomputable def spec_l31Rd_big_L0r {α : Type} (N : Nat) (next : Int → Int → ((List Int) × Int × Unit) → Option α) (k0 : Int → ((List Int) × Int × Unit) → Option α) (v139 : Int) (v140 : Int) (v141 : (List Int) × Int × Unit) : Option α :=
  let x142 := (decide (v140 < (8 : Int)))
  bif x142 then
    let x143 := (IntKind.u64.wrap (v139 * (256 : Int)))
    spec_l31Rd_pick N (256 : Int) v141
      (fun x144 x145 =>
        let x146 := IntKind.u64.wrap x144
        let x147 := IntKind.u64.wrap (x143 + x146)
        let x148 := (IntKind.i64.wrap (v140 + (1 : Int)))
        next x147 x148 x145)
  else
    k0 v139 v141
noncomputable def spec_l31Rd_big_L0.b {α : Type} (N n : Nat) (v139 : Int) (v140 : Int) (v141 : (List Int) × Int × Unit) (k0 : Int → ((List Int) × Int × Unit) → Option α) : Option α :=
  Nat.rec (motive := fun _ => Int → Int → ((List Int) × Int × Unit) → Option α) (fun _ _ _ => none) (fun _ next => spec_l31Rd_big_L0r N next k0) n v139 v140 v141
theorem spec_l31Rd_big_L0.ex : ∃ f : ((α : Type) → Nat → Nat → Int → Int → ((List Int) × Int × Unit) → (Int → ((List Int) × Int × Unit) → Option α) → Option α), f = fun α => @spec_l31Rd_big_L0.b α := ⟨_, rfl⟩
noncomputable def spec_l31Rd_big_L0 {α : Type} : Nat → Nat → Int → Int → ((List Int) × Int × Unit) → (Int → ((List Int) × Int × Unit) → Option α) → Option α := Classical.choose spec_l31Rd_big_L0.ex α
theorem spec_l31Rd_big_L0.eq : @spec_l31Rd_big_L0 = @spec_l31Rd_big_L0.b := funext fun α => congrFun (Classical.choose_spec spec_l31Rd_big_L0.ex) α
theorem spec_l31Rd_big_L0.zero {α : Type} (N : Nat) (v139 : Int) (v140 : Int) (v141 : (List Int) × Int × Unit) (k0 : Int → ((List Int) × Int × Unit) → Option α) : spec_l31Rd_big_L0 N 0 v139 v140 v141 k0 = none := by rw [spec_l31Rd_big_L0.eq]; rfl
theorem spec_l31Rd_big_L0.succ {α : Type} (N n : Nat) (v139 : Int) (v140 : Int) (v141 : (List Int) × Int × Unit) (k0 : Int → ((List Int) × Int × Unit) → Option α) : spec_l31Rd_big_L0 N (n + 1) v139 v140 v141 k0 = spec_l31Rd_big_L0r N (fun y0 y1 y2 => spec_l31Rd_big_L0 N n y0 y1 y2 k0) k0 v139 v140 v141 := by rw [spec_l31Rd_big_L0.eq]; rfl
/-- (*loop.example/pinfold/spec.l31Rd).big -/
noncomputable def spec_l31Rd_big.b {α : Type} (N : Nat) (a138 : (List Int) × Int × Unit) (k0 : Int → ((List Int) × Int × Unit) → Option α) : Option α :=
  spec_l31Rd_big_L0 N N (0 : Int) (0 : Int) a138
    (fun x149 x150 =>
      k0 x149 x150)
theorem spec_l31Rd_big.ex : ∃ f : ((α : Type) → Nat → ((List Int) × Int × Unit) → (Int → ((List Int) × Int × Unit) → Option α) → Option α), f = fun α => @spec_l31Rd_big.b α := ⟨_, rfl⟩
noncomputable def spec_l31Rd_big {α : Type} : Nat → ((List Int) × Int × Unit) → (Int → ((List Int) × Int × Unit) → Option α) → Option α := Classical.choose spec_l31Rd_big.ex α
theorem spec_l31Rd_big.eq : @spec_l31Rd_big = @spec_l31Rd_big.b := funext fun α => congrFun (Classical.choose_spec spec_l31Rd_big.ex) α

noncomputable def spec_l31Rd_ord_J11.b {α : Type} (N : Nat) (v99 : Int) (v100 : Int) (v101 : Int) (v102 : (List Int) × Int × Unit) (k0 : Int → Int → Int → Bool → ((List Int) × Int × Unit) → Option α) : Option α :=
  let x103 := (decide (v101 = (2 : Int)))
  bif x103 then
    k0 v99 v100 v101 x103 v102
  else
    let x104 := (decide (v101 = (3 : Int)))
    k0 v99 v100 v101 x104 v102
theorem spec_l31Rd_ord_J11.ex : ∃ f : ((α : Type) → Nat → Int → Int → Int → ((List Int) × Int × Unit) → (Int → Int → Int → Bool → ((List Int) × Int × Unit) → Option α) → Option α), f = fun α => @spec_l31Rd_ord_J11.b α := ⟨_, rfl⟩
noncomputable def spec_l31Rd_ord_J11 {α : Type} : Nat → Int → Int → Int → ((List Int) × Int × Unit) → (Int → Int → Int → Bool → ((List Int) × Int × Unit) → Option α) → Option α := Classical.choose spec_l31Rd_ord_J11.ex α
theorem spec_l31Rd_ord_J11.eq : @spec_l31Rd_ord_J11 = @spec_l31Rd_ord_J11.b := funext fun α => congrFun (Classical.choose_spec spec_l31Rd_ord_J11.ex) α
noncomputable def spec_l31Rd_ord_J14.b {α : Type} (N : Nat) (v117 : Int) (v118 : Int) (v119 : Int) (v120 : (List Int) × Int × Unit) (k0 : Int → Int → ((List Int) × Int × Unit) → Option α) : Option α :=
  let x121 := (decide (v117 = (32 : Int)))
  bif x121 then
    spec_l31Rd_pick N (256 : Int) v120
      (fun x122 x123 =>
        let x124 := (shlI .i64 x122 (23 : Int))
        spec_l31Rd_pick N (4 : Int) x123
          (fun x125 x126 =>
            let x127 := IntKind.i64.wrap (x124 + x125)
            let x128 := (IntKind.i64.wrap (x127 - (1 : Int)))
            k0 v118 x128 x126))
  else
    k0 v118 v119 v120
theorem spec_l31Rd_ord_J14.ex : ∃ f : ((α : Type) → Nat → Int → Int → Int → ((List Int) × Int × Unit) → (Int → Int → ((List Int) × Int × Unit) → Option α) → Option α), f = fun α => @spec_l31Rd_ord_J14.b α := ⟨_, rfl⟩
noncomputable def spec_l31Rd_ord_J14 {α : Type} : Nat → Int → Int → Int → ((List Int) × Int × Unit) → (Int → Int → ((List Int) × Int × Unit) → Option α) → Option α := Classical.choose spec_l31Rd_ord_J14.ex α
theorem spec_l31Rd_ord_J14.eq : @spec_l31Rd_ord_J14 = @spec_l31Rd_ord_J14.b := funext fun α => congrFun (Classical.choose_spec spec_l31Rd_ord_J14.ex) α
noncomputable def spec_l31Rd_ord_J5.b {α : Type} (N : Nat) (v155 : Int) (v156 : Int) (v157 : (List Int) × Int × Unit) (k0 : Int → Int → ((List Int) × Int × Unit) → Option α) : Option α :=
  let x158 := (decide ((0 : Int) < v155))
  bif x158 then
    let x159 := (IntKind.i64.wrap (v155 + (1 : Int)))
    bif (decide (x159 = (0 : Int))) then
      none
    else
      let x160 := Int.tmod v156 x159
      k0 v155 x160 v157
  else
    k0 v155 v156 v157
theorem spec_l31Rd_ord_J5.ex : ∃ f : ((α : Type) → Nat → Int → Int → ((List Int) × Int × Unit) → (Int → Int → ((List Int) × Int × Unit) → Option α) → Option α), f = fun α => @spec_l31Rd_ord_J5.b α := ⟨_, rfl⟩
noncomputable def spec_l31Rd_ord_J5 {α : Type} : Nat → Int → Int → ((List Int) × Int × Unit) → (Int → Int → ((List Int) × Int × Unit) → Option α) → Option α := Classical.choose spec_l31Rd_ord_J5.ex α
theorem spec_l31Rd_ord_J5.eq : @spec_l31Rd_ord_J5 = @spec_l31Rd_ord_J5.b := funext fun α => congrFun (Classical.choose_spec spec_l31Rd_ord_J5.ex) α
noncomputable def spec_l31Rd_ord_J16.b {α : Type} (N : Nat) (v132 : Int) (v133 : Int) (v134 : (List Int) × Int × Unit) (k0 : Int → Int → ((List Int) × Int × Unit) → Option α) : Option α :=
  let x135 := (decide (v133 = (4 : Int)))
  bif x135 then
    spec_l31Rd_pick N (1048576 : Int) v134
      (fun x136 x137 =>
        k0 v132 x136 x137)
  else
    spec_l31Rd_big N v134
      (fun x151 x152 =>
        let x153 := (shrI .u64 x151 (1 : Int))
        let x154 := IntKind.i64.wrap x153
        spec_l31Rd_ord_J5 N v132 x154 x152
          (fun x161 x162 x163 =>
            k0 x161 x162 x163))
theorem spec_l31Rd_ord_J16.ex : ∃ f : ((α : Type) → Nat → Int → Int → ((List Int) × Int × Unit) → (Int → Int → ((List Int) × Int × Unit) → Option α) → Option α), f = fun α => @spec_l31Rd_ord_J16.b α := ⟨_, rfl⟩
noncomputable def spec_l31Rd_ord_J16 {α : Type} : Nat → Int → Int → ((List Int) × Int × Unit) → (Int → Int → ((List Int) × Int × Unit) → Option α) → Option α := Classical.choose spec_l31Rd_ord_J16.ex α
theorem spec_l31Rd_ord_J16.eq : @spec_l31Rd_ord_J16 = @spec_l31Rd_ord_J16.b := funext fun α => congrFun (Classical.choose_spec spec_l31Rd_ord_J16.ex) α
noncomputable def spec_l31Rd_ord_J9.b {α : Type} (N : Nat) (v91 : Int) (v92 : Int) (v93 : Int) (v94 : (List Int) × Int × Unit) (k0 : Int → Int → ((List Int) × Int × Unit) → Option α) : Option α :=
  let x95 := (decide (v93 = (1 : Int)))
  bif x95 then
    spec_l31Rd_pick N (6 : Int) v94
      (fun x96 x97 =>
        let x98 := IntKind.i64.wrap (v92 - x96)
        k0 v92 x98 x97)
  else
    spec_l31Rd_ord_J11 N v91 v92 v93 v94
      (fun x105 x106 x107 x108 x109 =>
        bif x108 then
          spec_l31Rd_pick N (2048 : Int) x109
            (fun x110 x111 =>
              let x112 := (shlI .i64 x110 (52 : Int))
              spec_l31Rd_pick N (4 : Int) x111
                (fun x113 x114 =>
                  let x115 := IntKind.i64.wrap (x112 + x113)
                  let x116 := (IntKind.i64.wrap (x115 - (1 : Int)))
                  spec_l31Rd_ord_J14 N x105 x106 x116 x114
                    (fun x129 x130 x131 =>
                      k0 x129 x130 x131)))
        else
          spec_l31Rd_ord_J16 N x106 x107 x109
            (fun x164 x165 x166 =>
              k0 x164 x165 x166))
theorem spec_l31Rd_ord_J9.ex : ∃ f : ((α : Type) → Nat → Int → Int → Int → ((List Int) × Int × Unit) → (Int → Int → ((List Int) × Int × Unit) → Option α) → Option α), f = fun α => @spec_l31Rd_ord_J9.b α := ⟨_, rfl⟩
noncomputable def spec_l31Rd_ord_J9 {α : Type} : Nat → Int → Int → Int → ((List Int) × Int × Unit) → (Int → Int → ((List Int) × Int × Unit) → Option α) → Option α := Classical.choose spec_l31Rd_ord_J9.ex α
theorem spec_l31Rd_ord_J9.eq : @spec_l31Rd_ord_J9 = @spec_l31Rd_ord_J9.b := funext fun α => congrFun (Classical.choose_spec spec_l31Rd_ord_J9.ex) α
noncomputable def spec_l31Rd_ord_J7.b {α : Type} (N : Nat) (v84 : Int) (v85 : Int) (v86 : Int) (v87 : (List Int) × Int × Unit) (k0 : Int → Int → ((List Int) × Int × Unit) → Option α) : Option α :=
  let x88 := (decide (v86 = (0 : Int)))
  bif x88 then
    spec_l31Rd_pick N (6 : Int) v87
      (fun x89 x90 =>
        k0 v85 x89 x90)
  else
    spec_l31Rd_ord_J9 N v84 v85 v86 v87
      (fun x167 x168 x169 =>
        k0 x167 x168 x169)
theorem spec_l31Rd_ord_J7.ex : ∃ f : ((α : Type) → Nat → Int → Int → Int → ((List Int) × Int × Unit) → (Int → Int → ((List Int) × Int × Unit) → Option α) → Option α), f = fun α => @spec_l31Rd_ord_J7.b α := ⟨_, rfl⟩
noncomputable def spec_l31Rd_ord_J7 {α : Type} : Nat → Int → Int → Int → ((List Int) × Int × Unit) → (Int → Int → ((List Int) × Int × Unit) → Option α) → Option α := Classical.choose spec_l31Rd_ord_J7.ex α
theorem spec_l31Rd_ord_J7.eq : @spec_l31Rd_ord_J7 = @spec_l31Rd_ord_J7.b := funext fun α => congrFun (Classical.choose_spec spec_l31Rd_ord_J7.ex) α
noncomputable def spec_l31Rd_ord_J20.b {α : Type} (N : Nat) (v183 : Int) (v184 : Int) (v185 : (List Int) × Int × Unit) (k0 : Int → ((List Int) × Int × Unit) → Option α) : Option α :=
  let x186 := decide (v183 < v184)
  bif x186 then
    k0 v183 v185
  else
    k0 v184 v185
theorem spec_l31Rd_ord_J20.ex : ∃ f : ((α : Type) → Nat → Int → Int → ((List Int) × Int × Unit) → (Int → ((List Int) × Int × Unit) → Option α) → Option α), f = fun α => @spec_l31Rd_ord_J20.b α := ⟨_, rfl⟩
noncomputable def spec_l31Rd_ord_J20 {α : Type} : Nat → Int → Int → ((List Int) × Int × Unit) → (Int → ((List Int) × Int × Unit) → Option α) → Option α := Classical.choose spec_l31Rd_ord_J20.ex α
theorem spec_l31Rd_ord_J20.eq : @spec_l31Rd_ord_J20 = @spec_l31Rd_ord_J20.b := funext fun α => congrFun (Classical.choose_spec spec_l31Rd_ord_J20.ex) α
noncomputable def spec_l31Rd_ord_J18.b {α : Type} (N : Nat) (v173 : Int) (v174 : Int) (v175 : (List Int) × Int × Unit) (k0 : Int → ((List Int) × Int × Unit) → Option α) : Option α :=
  spec_l31Rd_pick N (40 : Int) v175
    (fun x176 x177 =>
      let x178 := (decide (x176 = (0 : Int)))
      bif x178 then
        let x179 := (IntKind.i64.wrap (v173 + (1 : Int)))
        spec_l31Rd_pick N (3 : Int) x177
          (fun x180 x181 =>
            let x182 := IntKind.i64.wrap (x179 + x180)
            k0 x182 x181)
      else
        spec_l31Rd_ord_J20 N v173 v174 x177
          (fun x187 x188 =>
            k0 x187 x188))
theorem spec_l31Rd_ord_J18.ex : ∃ f : ((α : Type) → Nat → Int → Int → ((List Int) × Int × Unit) → (Int → ((List Int) × Int × Unit) → Option α) → Option α), f = fun α => @spec_l31Rd_ord_J18.b α := ⟨_, rfl⟩
noncomputable def spec_l31Rd_ord_J18 {α : Type} : Nat → Int → Int → ((List Int) × Int × Unit) → (Int → ((List Int) × Int × Unit) → Option α) → Option α := Classical.choose spec_l31Rd_ord_J18.ex α
theorem spec_l31Rd_ord_J18.eq : @spec_l31Rd_ord_J18 = @spec_l31Rd_ord_J18.b := funext fun α => congrFun (Classical.choose_spec spec_l31Rd_ord_J18.ex) α
/-- (*loop.example/pinfold/spec.l31Rd).ord -/
noncomputable def spec_l31Rd_ord.b {α : Type} (N : Nat) (a76 : Int) (a77 : (List Int) × Int × Unit) (k0 : Int → ((List Int) × Int × Unit) → Option α) : Option α :=
  spec_BitTop N a76
    (fun x81 =>
      spec_l31Rd_pick N (10 : Int) a77
        (fun x82 x83 =>
          spec_l31Rd_ord_J7 N a76 x81 x82 x83
            (fun x170 x171 x172 =>
              spec_l31Rd_ord_J18 N x170 x171 x172
                (fun x189 x190 =>
                  spec_l31Rd_pick N (2 : Int) x190
                    (fun x191 x192 =>
                      let x193 := (decide (x191 = (0 : Int)))
                      bif x193 then
                        let x194 := IntKind.i64.wrap (0 - x189)
                        k0 x194 x192
                      else
                        k0 x189 x192)))))
theorem spec_l31Rd_ord.ex : ∃ f : ((α : Type) → Nat → Int → ((List Int) × Int × Unit) → (Int → ((List Int) × Int × Unit) → Option α) → Option α), f = fun α => @spec_l31Rd_ord.b α := ⟨_, rfl⟩
noncomputable def spec_l31Rd_ord {α : Type} : Nat → Int → ((List Int) × Int × Unit) → (Int → ((List Int) × Int × Unit) → Option α) → Option α := Classical.choose spec_l31Rd_ord.ex α
theorem spec_l31Rd_ord.eq : @spec_l31Rd_ord = @spec_l31Rd_ord.b := funext fun α => congrFun (Classical.choose_spec spec_l31Rd_ord.ex) α

/-- loop.example/pinfold/spec.l1Width -/
noncomputable def spec_l1Width.b {α : Type} (N : Nat) (a251 : Int) (k0 : Bool → Option α) : Option α :=
  let x252 := (decide (a251 = (32 : Int)))
  bif x252 then
    k0 true
  else
    let x253 := (decide (a251 = (64 : Int)))
    k0 x253
theorem spec_l1Width.ex : ∃ f : ((α : Type) → Nat → Int → (Bool → Option α) → Option α), f = fun α => @spec_l1Width.b α := ⟨_, rfl⟩
noncomputable def spec_l1Width {α : Type} : Nat → Int → (Bool → Option α) → Option α := Classical.choose spec_l1Width.ex α
theorem spec_l1Width.eq : @spec_l1Width = @spec_l1Width.b := funext fun α => congrFun (Classical.choose_spec spec_l1Width.ex) α

/-- loop.example/pinfold/spec.BitOk -/
noncomputable def spec_BitOk.b {α : Type} (N : Nat) (a249 : Int) (a250 : Int) (k0 : Bool → Option α) : Option α :=
  spec_l1Width N a249
    (fun x254 =>
      bif x254 then
        spec_BitTop N a249
          (fun x255 =>
            let x256 := IntKind.i64.wrap (0 - x255)
            let x257 := decide (x256 ≤ a250)
            bif x257 then
              spec_BitTop N a249
                (fun x258 =>
                  let x259 := decide (a250 ≤ x258)
                  k0 x259)
            else
              k0 false)
      else
        k0 false)
theorem spec_BitOk.ex : ∃ f : ((α : Type) → Nat → Int → Int → (Bool → Option α) → Option α), f = fun α => @spec_BitOk.b α := ⟨_, rfl⟩
noncomputable def spec_BitOk {α : Type} : Nat → Int → Int → (Bool → Option α) → Option α := Classical.choose spec_BitOk.ex α
theorem spec_BitOk.eq : @spec_BitOk = @spec_BitOk.b := funext fun α => congrFun (Classical.choose_spec spec_BitOk.ex) α

/-- loop.example/pinfold/spec.PairOk -/
noncomputable def spec_PairOk.b {α : Type} (N : Nat) (a246 : Int) (a247 : Int × Int × Unit) (k0 : Bool → Option α) : Option α :=
  spec_BitTop N a246
    (fun x248 =>
      spec_BitOk N a246 a247.1
        (fun x260 =>
          bif x260 then
            spec_BitOk N a246 a247.2.1
              (fun x261 =>
                bif x261 then
                  let x262 := decide (a247.1 ≤ a247.2.1)
                  bif x262 then
                    let x263 := decide (a247.1 < x248)
                    bif x263 then
                      let x264 := IntKind.i64.wrap (0 - x248)
                      let x265 := decide (x264 < a247.2.1)
                      k0 x265
                    else
                      k0 false
                  else
                    k0 false
                else
                  k0 false)
          else
            k0 false))
theorem spec_PairOk.ex : ∃ f : ((α : Type) → Nat → Int → (Int × Int × Unit) → (Bool → Option α) → Option α), f = fun α => @spec_PairOk.b α := ⟨_, rfl⟩
noncomputable def spec_PairOk {α : Type} : Nat → Int → (Int × Int × Unit) → (Bool → Option α) → Option α := Classical.choose spec_PairOk.ex α
theorem spec_PairOk.eq : @spec_PairOk = @spec_PairOk.b := funext fun α => congrFun (Classical.choose_spec spec_PairOk.ex) α

noncomputable def spec_l31Rd_few_J7.b {α : Type} (N : Nat) (v197 : Int) (v198 : Int) (v199 : Int) (v200 : Int) (v201 : (List Int) × Int × Unit) (v202 : List (Int × Int × Unit)) (v203 : List (Int × Int × Unit)) (k0 : Int → Int → Int → Int → ((List Int) × Int × Unit) → List (Int × Int × Unit) → List (Int × Int × Unit) → Option α) : Option α :=
  spec_BitTop N v197
    (fun x204 =>
      let x205 := (IntKind.i64.wrap (x204 - (20 : Int)))
      let x206 := decide (x205 ≤ v200)
      bif x206 then
        spec_BitTop N v197
          (fun x207 =>
            let x208 := (IntKind.i64.wrap (x207 - (20 : Int)))
            k0 v197 v198 v199 x208 v201 v202 v203)
      else
        k0 v197 v198 v199 v200 v201 v202 v203)
theorem spec_l31Rd_few_J7.ex : ∃ f : ((α : Type) → Nat → Int → Int → Int → Int → ((List Int) × Int × Unit) → List (Int × Int × Unit) → List (Int × Int × Unit) → (Int → Int → Int → Int → ((List Int) × Int × Unit) → List (Int × Int × Unit) → List (Int × Int × Unit) → Option α) → Option α), f = fun α => @spec_l31Rd_few_J7.b α := ⟨_, rfl⟩
noncomputable def spec_l31Rd_few_J7 {α : Type} : Nat → Int → Int → Int → Int → ((List Int) × Int × Unit) → List (Int × Int × Unit) → List (Int × Int × Unit) → (Int → Int → Int → Int → ((List Int) × Int × Unit) → List (Int × Int × Unit) → List (Int × Int × Unit) → Option α) → Option α := Classical.choose spec_l31Rd_few_J7.ex α
theorem spec_l31Rd_few_J7.eq : @spec_l31Rd_few_J7 = @spec_l31Rd_few_J7.b := funext fun α => congrFun (Classical.choose_spec spec_l31Rd_few_J7.ex) α
noncomputable def spec_l31Rd_few_J9.b {α : Type} (N : Nat) (v216 : Int) (v217 : Int) (v218 : Int) (v219 : Int) (v220 : (List Int) × Int × Unit) (v221 : List (Int × Int × Unit)) (v222 : List (Int × Int × Unit)) (k0 : Int → Int → Int → Int → ((List Int) × Int × Unit) → List (Int × Int × Unit) → List (Int × Int × Unit) → Option α) : Option α :=
  spec_BitTop N v216
    (fun x223 =>
      let x224 := IntKind.i64.wrap (0 - x223)
      let x225 := decide (v219 < x224)
      bif x225 then
        spec_BitTop N v216
          (fun x226 =>
            let x227 := IntKind.i64.wrap (0 - x226)
            k0 v216 v217 v218 x227 v220 v221 v222)
      else
        k0 v216 v217 v218 v219 v220 v221 v222)
theorem spec_l31Rd_few_J9.ex : ∃ f : ((α : Type) → Nat → Int → Int → Int → Int → ((List Int) × Int × Unit) → List (Int × Int × Unit) → List (Int × Int × Unit) → (Int → Int → Int → Int → ((List Int) × Int × Unit) → List (Int × Int × Unit) → List (Int × Int × Unit) → Option α) → Option α), f = fun α => @spec_l31Rd_few_J9.b α := ⟨_, rfl⟩
noncomputable def spec_l31Rd_few_J9 {α : Type} : Nat → Int → Int → Int → Int → ((List Int) × Int × Unit) → List (Int × Int × Unit) → List (Int × Int × Unit) → (Int → Int → Int → Int → ((List Int) × Int × Unit) → List (Int × Int × Unit) → List (Int × Int × Unit) → Option α) → Option α := Classical.choose spec_l31Rd_few_J9.ex α
theorem spec_l31Rd_few_J9.eq : @spec_l31Rd_few_J9 = @spec_l31Rd_few_J9.b := funext fun α => congrFun (Classical.choose_spec spec_l31Rd_few_J9.ex) α
noncomputable def spec_l31Rd_few_J12.b {α : Type} (N : Nat) (v238 : Int) (v239 : Int) (v240 : Int) (v241 : Int) (v242 : (List Int) × Int × Unit) (v243 : Int × Int × Unit) (v244 : List (Int × Int × Unit)) (v245 : List (Int × Int × Unit)) (k0 : Int → Int → Int → ((List Int) × Int × Unit) → (Int × Int × Unit) → List (Int × Int × Unit) → List (Int × Int × Unit) → Option α) : Option α :=
  spec_PairOk N v238 v243
    (fun x266 =>
      let x267 := !x266
      bif x267 then
        let x268 := (IntKind.i64.wrap (v241 + (1 : Int)))
        k0 v238 v239 v240 v242 (v243.1, (x268, ())) v244 v245
      else
        k0 v238 v239 v240 v242 v243 v244 v245)
theorem spec_l31Rd_few_J12.ex : ∃ f : ((α : Type) → Nat → Int → Int → Int → Int → ((List Int) × Int × Unit) → (Int × Int × Unit) → List (Int × Int × Unit) → List (Int × Int × Unit) → (Int → Int → Int → ((List Int) × Int × Unit) → (Int × Int × Unit) → List (Int × Int × Unit) → List (Int × Int × Unit) → Option α) → Option α), f = fun α => @spec_l31Rd_few_J12.b α := ⟨_, rfl⟩
noncomputable def spec_l31Rd_few_J12 {α : Type} : Nat → Int → Int → Int → Int → ((List Int) × Int × Unit) → (Int × Int × Unit) → List (Int × Int × Unit) → List (Int × Int × Unit) → (Int → Int → Int → ((List Int) × Int × Unit) → (Int × Int × Unit) → List (Int × Int × Unit) → List (Int × Int × Unit) → Option α) → Option α := Classical.choose spec_l31Rd_few_J12.ex α
theorem spec_l31Rd_few_J12.eq : @spec_l31Rd_few_J12 = @spec_l31Rd_few_J12.b := funext fun α => congrFun (Classical.choose_spec spec_l31Rd_few_J12.ex) α
noncomputable def spec_l31Rd_few_L0r {α : Type} (N : Nat) (next : Int → Int → Int → ((List Int) × Int × Unit) → List (Int × Int × Unit) → List (Int × Int × Unit) → Option α) (k0 : ((List Int) × Int × Unit) → List (Int × Int × Unit) → List (Int × Int × Unit) → Option α) (v69 : Int) (v70 : Int) (v71 : Int) (v72 : (List Int) × Int × Unit) (v73 : List (Int × Int × Unit)) (v74 : List (Int × Int × Unit)) : Option α :=
  let x75 := decide (v71 < v70)
  bif x75 then
    spec_l31Rd_ord N v69 v72
      (fun x195 x196 =>
        spec_l31Rd_few_J7 N v69 v70 v71 x195 x196 v73 v74
          (fun x209 x210 x211 x212 x213 x214 x215 =>
            spec_l31Rd_few_J9 N x209 x210 x211 x212 x213 x214 x215
              (fun x228 x229 x230 x231 x232 x233 x234 =>
                spec_l31Rd_pick N (9 : Int) x232
                  (fun x235 x236 =>
                    let x237 := IntKind.i64.wrap (x231 + x235)
                    spec_l31Rd_few_J12 N x228 x229 x230 x231 x236 (x231, (x237, ())) x233 x234
                      (fun x269 x270 x271 x272 x273 x274 x275 =>
                        let x276 := [x273]
                        bif decide (x275.length + x276.length ≤ 8796093022208) then
                          let x277 := x275 ++ x276
                          let x278 := (IntKind.i64.wrap (x271 + (1 : Int)))
                          next x269 x270 x278 x272 x274 x277
                        else
                          none)))))
  else
    k0 v72 v73 v74
noncomputable def spec_l31Rd_few_L0.b {α : Type} (N n : Nat) (v69 : Int) (v70 : Int) (v71 : Int) (v72 : (List Int) × Int × Unit) (v73 : List (Int × Int × Unit)) (v74 : List (Int × Int × Unit)) (k0 : ((List Int) × Int × Unit) → List (Int × Int × Unit) → List (Int × Int × Unit) → Option α) : Option α :=
  Nat.rec (motive := fun _ => Int → Int → Int → ((List Int) × Int × Unit) → List (Int × Int × Unit) → List (Int × Int × Unit) → Option α) (fun _ _ _ _ _ _ => none) (fun _ next => spec_l31Rd_few_L0r N next k0) n v69 v70 v71 v72 v73 v74
theorem spec_l31Rd_few_L0.ex : ∃ f : ((α : Type) → Nat → Nat → Int → Int → Int → ((List Int) × Int × Unit) → List (Int × Int × Unit) → List (Int × Int × Unit) → (((List Int) × Int × Unit) → List (Int × Int × Unit) → List (Int × Int × Unit) → Option α) → Option α), f = fun α => @spec_l31Rd_few_L0.b α := ⟨_, rfl⟩
noncomputable def spec_l31Rd_few_L0 {α : Type} : Nat → Nat → Int → Int → Int → ((List Int) × Int × Unit) → List (Int × Int × Unit) → List (Int × Int × Unit) → (((List Int) × Int × Unit) → List (Int × Int × Unit) → List (Int × Int × Unit) → Option α) → Option α := Classical.choose spec_l31Rd_few_L0.ex α
theorem spec_l31Rd_few_L0.eq : @spec_l31Rd_few_L0 = @spec_l31Rd_few_L0.b := funext fun α => congrFun (Classical.choose_spec spec_l31Rd_few_L0.ex) α
theorem spec_l31Rd_few_L0.zero {α : Type} (N : Nat) (v69 : Int) (v70 : Int) (v71 : Int) (v72 : (List Int) × Int × Unit) (v73 : List (Int × Int × Unit)) (v74 : List (Int × Int × Unit)) (k0 : ((List Int) × Int × Unit) → List (Int × Int × Unit) → List (Int × Int × Unit) → Option α) : spec_l31Rd_few_L0 N 0 v69 v70 v71 v72 v73 v74 k0 = none := by rw [spec_l31Rd_few_L0.eq]; rfl
theorem spec_l31Rd_few_L0.succ {α : Type} (N n : Nat) (v69 : Int) (v70 : Int) (v71 : Int) (v72 : (List Int) × Int × Unit) (v73 : List (Int × Int × Unit)) (v74 : List (Int × Int × Unit)) (k0 : ((List Int) × Int × Unit) → List (Int × Int × Unit) → List (Int × Int × Unit) → Option α) : spec_l31Rd_few_L0 N (n + 1) v69 v70 v71 v72 v73 v74 k0 = spec_l31Rd_few_L0r N (fun y0 y1 y2 y3 y4 y5 => spec_l31Rd_few_L0 N n y0 y1 y2 y3 y4 y5 k0) k0 v69 v70 v71 v72 v73 v74 := by rw [spec_l31Rd_few_L0.eq]; rfl
/-- (*loop.example/pinfold/spec.l31Rd).few -/
noncomputable def spec_l31Rd_few.b {α : Type} (N : Nat) (a64 : Int) (a65 : (List Int) × Int × Unit) (k0 : ((List Int) × Int × Unit) → List (Int × Int × Unit) → Option α) : Option α :=
  spec_l31Rd_pick N (3 : Int) a65
    (fun x66 x67 =>
      let x68 := (IntKind.i64.wrap ((1 : Int) + x66))
      spec_l31Rd_few_L0 N N a64 x68 (0 : Int) x67 [] []
        (fun x279 _ x281 =>
          k0 x279 x281))
theorem spec_l31Rd_few.ex : ∃ f : ((α : Type) → Nat → Int → ((List Int) × Int × Unit) → (((List Int) × Int × Unit) → List (Int × Int × Unit) → Option α) → Option α), f = fun α => @spec_l31Rd_few.b α := ⟨_, rfl⟩
noncomputable def spec_l31Rd_few {α : Type} : Nat → Int → ((List Int) × Int × Unit) → (((List Int) × Int × Unit) → List (Int × Int × Unit) → Option α) → Option α := Classical.choose spec_l31Rd_few.ex α
theorem spec_l31Rd_few.eq : @spec_l31Rd_few = @spec_l31Rd_few.b := funext fun α => congrFun (Classical.choose_spec spec_l31Rd_few.ex) α

noncomputable def spec_l31Rd_pair_J8.b {α : Type} (N : Nat) (v344 : Int) (v345 : Int) (v346 : Int) (v347 : (List Int) × Int × Unit) (v348 : Int × Int × Unit) (k0 : Int → Int → ((List Int) × Int × Unit) → (Int × Int × Unit) → Option α) : Option α :=
  let x349 := (decide (v346 = (2 : Int)))
  bif x349 then
    spec_l31Rd_pick N (1000 : Int) v347
      (fun x350 x351 =>
        let x352 := IntKind.i64.wrap (v344 + x350)
        k0 v344 x352 x351 v348)
  else
    k0 v344 v345 v347 v348
theorem spec_l31Rd_pair_J8.ex : ∃ f : ((α : Type) → Nat → Int → Int → Int → ((List Int) × Int × Unit) → (Int × Int × Unit) → (Int → Int → ((List Int) × Int × Unit) → (Int × Int × Unit) → Option α) → Option α), f = fun α => @spec_l31Rd_pair_J8.b α := ⟨_, rfl⟩
noncomputable def spec_l31Rd_pair_J8 {α : Type} : Nat → Int → Int → Int → ((List Int) × Int × Unit) → (Int × Int × Unit) → (Int → Int → ((List Int) × Int × Unit) → (Int × Int × Unit) → Option α) → Option α := Classical.choose spec_l31Rd_pair_J8.ex α
theorem spec_l31Rd_pair_J8.eq : @spec_l31Rd_pair_J8 = @spec_l31Rd_pair_J8.b := funext fun α => congrFun (Classical.choose_spec spec_l31Rd_pair_J8.ex) α
noncomputable def spec_l31Rd_pair_J6.b {α : Type} (N : Nat) (v334 : Int) (v335 : Int) (v336 : Int) (v337 : (List Int) × Int × Unit) (v338 : Int × Int × Unit) (k0 : Int → Int → ((List Int) × Int × Unit) → (Int × Int × Unit) → Option α) : Option α :=
  let x339 := (decide (v336 = (1 : Int)))
  bif x339 then
    let x340 := (IntKind.i64.wrap (v334 + (1 : Int)))
    spec_l31Rd_pick N (4 : Int) v337
      (fun x341 x342 =>
        let x343 := IntKind.i64.wrap (x340 + x341)
        k0 v334 x343 x342 v338)
  else
    spec_l31Rd_pair_J8 N v334 v335 v336 v337 v338
      (fun x353 x354 x355 x356 =>
        k0 x353 x354 x355 x356)
theorem spec_l31Rd_pair_J6.ex : ∃ f : ((α : Type) → Nat → Int → Int → Int → ((List Int) × Int × Unit) → (Int × Int × Unit) → (Int → Int → ((List Int) × Int × Unit) → (Int × Int × Unit) → Option α) → Option α), f = fun α => @spec_l31Rd_pair_J6.b α := ⟨_, rfl⟩
noncomputable def spec_l31Rd_pair_J6 {α : Type} : Nat → Int → Int → Int → ((List Int) × Int × Unit) → (Int × Int × Unit) → (Int → Int → ((List Int) × Int × Unit) → (Int × Int × Unit) → Option α) → Option α := Classical.choose spec_l31Rd_pair_J6.ex α
theorem spec_l31Rd_pair_J6.eq : @spec_l31Rd_pair_J6 = @spec_l31Rd_pair_J6.b := funext fun α => congrFun (Classical.choose_spec spec_l31Rd_pair_J6.ex) α
noncomputable def spec_l31Rd_pair_J4.b {α : Type} (N : Nat) (v328 : Int) (v329 : Int) (v330 : Int) (v331 : (List Int) × Int × Unit) (v332 : Int × Int × Unit) (k0 : Int → Int → ((List Int) × Int × Unit) → (Int × Int × Unit) → Option α) : Option α :=
  let x333 := (decide (v330 = (0 : Int)))
  bif x333 then
    k0 v328 v328 v331 v332
  else
    spec_l31Rd_pair_J6 N v328 v329 v330 v331 v332
      (fun x357 x358 x359 x360 =>
        k0 x357 x358 x359 x360)
theorem spec_l31Rd_pair_J4.ex : ∃ f : ((α : Type) → Nat → Int → Int → Int → ((List Int) × Int × Unit) → (Int × Int × Unit) → (Int → Int → ((List Int) × Int × Unit) → (Int × Int × Unit) → Option α) → Option α), f = fun α => @spec_l31Rd_pair_J4.b α := ⟨_, rfl⟩
noncomputable def spec_l31Rd_pair_J4 {α : Type} : Nat → Int → Int → Int → ((List Int) × Int × Unit) → (Int × Int × Unit) → (Int → Int → ((List Int) × Int × Unit) → (Int × Int × Unit) → Option α) → Option α := Classical.choose spec_l31Rd_pair_J4.ex α
theorem spec_l31Rd_pair_J4.eq : @spec_l31Rd_pair_J4 = @spec_l31Rd_pair_J4.b := funext fun α => congrFun (Classical.choose_spec spec_l31Rd_pair_J4.ex) α
noncomputable def spec_l31Rd_pair_J10.b {α : Type} (N : Nat) (v365 : Int) (v366 : Int) (v367 : (List Int) × Int × Unit) (v368 : Int × Int × Unit) (k0 : Int → Int → ((List Int) × Int × Unit) → (Int × Int × Unit) → Option α) : Option α :=
  let x369 := decide (v366 < v365)
  bif x369 then
    spec_l31Rd_pick N (24 : Int) v367
      (fun x370 x371 =>
        let x372 := (decide ((0 : Int) < x370))
        bif x372 then
          k0 v366 v365 x371 v368
        else
          k0 v365 v366 x371 v368)
  else
    k0 v365 v366 v367 v368
theorem spec_l31Rd_pair_J10.ex : ∃ f : ((α : Type) → Nat → Int → Int → ((List Int) × Int × Unit) → (Int × Int × Unit) → (Int → Int → ((List Int) × Int × Unit) → (Int × Int × Unit) → Option α) → Option α), f = fun α => @spec_l31Rd_pair_J10.b α := ⟨_, rfl⟩
noncomputable def spec_l31Rd_pair_J10 {α : Type} : Nat → Int → Int → ((List Int) × Int × Unit) → (Int × Int × Unit) → (Int → Int → ((List Int) × Int × Unit) → (Int × Int × Unit) → Option α) → Option α := Classical.choose spec_l31Rd_pair_J10.ex α
theorem spec_l31Rd_pair_J10.eq : @spec_l31Rd_pair_J10 = @spec_l31Rd_pair_J10.b := funext fun α => congrFun (Classical.choose_spec spec_l31Rd_pair_J10.ex) α
/-- (*loop.example/pinfold/spec.l31Rd).pair -/
noncomputable def spec_l31Rd_pair.b {α : Type} (N : Nat) (a320 : Int) (a321 : (List Int) × Int × Unit) (k0 : (Int × Int × Unit) → ((List Int) × Int × Unit) → Option α) : Option α :=
  spec_l31Rd_ord N a320 a321
    (fun x322 x323 =>
      spec_l31Rd_ord N a320 x323
        (fun x324 x325 =>
          spec_l31Rd_pick N (6 : Int) x325
            (fun x326 x327 =>
              spec_l31Rd_pair_J4 N x322 x324 x326 x327 ((0 : Int), ((0 : Int), ()))
                (fun x361 x362 x363 x364 =>
                  spec_l31Rd_pair_J10 N x361 x362 x363 x364
                    (fun x373 x374 x375 _ =>
                      k0 (x373, (x374, ())) x375)))))
theorem spec_l31Rd_pair.ex : ∃ f : ((α : Type) → Nat → Int → ((List Int) × Int × Unit) → ((Int × Int × Unit) → ((List Int) × Int × Unit) → Option α) → Option α), f = fun α => @spec_l31Rd_pair.b α := ⟨_, rfl⟩
noncomputable def spec_l31Rd_pair {α : Type} : Nat → Int → ((List Int) × Int × Unit) → ((Int × Int × Unit) → ((List Int) × Int × Unit) → Option α) → Option α := Classical.choose spec_l31Rd_pair.ex α
theorem spec_l31Rd_pair.eq : @spec_l31Rd_pair = @spec_l31Rd_pair.b := funext fun α => congrFun (Classical.choose_spec spec_l31Rd_pair.ex) α

noncomputable def spec_l31Rd_good_L0r {α : Type} (N : Nat) (next : Int → Int → ((List Int) × Int × Unit) → (Int × Int × Unit) → (Int × Int × Unit) → Option α) (k0 : ((List Int) × Int × Unit) → (Int × Int × Unit) → (Int × Int × Unit) → Option α) (v385 : Int) (v386 : Int) (v387 : (List Int) × Int × Unit) (v388 : Int × Int × Unit) (v389 : Int × Int × Unit) : Option α :=
  let x390 := (decide (v386 < (5 : Int)))
  bif x390 then
    spec_PairOk N v385 v389
      (fun x391 =>
        let x392 := !x391
        bif x392 then
          spec_l31Rd_pair N v385 v387
            (fun x393 x394 =>
              let x395 := (IntKind.i64.wrap (v386 + (1 : Int)))
              next v385 x395 x394 v388 x393)
        else
          k0 v387 v388 v389)
  else
    k0 v387 v388 v389
noncomputable def spec_l31Rd_good_L0.b {α : Type} (N n : Nat) (v385 : Int) (v386 : Int) (v387 : (List Int) × Int × Unit) (v388 : Int × Int × Unit) (v389 : Int × Int × Unit) (k0 : ((List Int) × Int × Unit) → (Int × Int × Unit) → (Int × Int × Unit) → Option α) : Option α :=
  Nat.rec (motive := fun _ => Int → Int → ((List Int) × Int × Unit) → (Int × Int × Unit) → (Int × Int × Unit) → Option α) (fun _ _ _ _ _ => none) (fun _ next => spec_l31Rd_good_L0r N next k0) n v385 v386 v387 v388 v389
theorem spec_l31Rd_good_L0.ex : ∃ f : ((α : Type) → Nat → Nat → Int → Int → ((List Int) × Int × Unit) → (Int × Int × Unit) → (Int × Int × Unit) → (((List Int) × Int × Unit) → (Int × Int × Unit) → (Int × Int × Unit) → Option α) → Option α), f = fun α => @spec_l31Rd_good_L0.b α := ⟨_, rfl⟩
noncomputable def spec_l31Rd_good_L0 {α : Type} : Nat → Nat → Int → Int → ((List Int) × Int × Unit) → (Int × Int × Unit) → (Int × Int × Unit) → (((List Int) × Int × Unit) → (Int × Int × Unit) → (Int × Int × Unit) → Option α) → Option α := Classical.choose spec_l31Rd_good_L0.ex α
theorem spec_l31Rd_good_L0.eq : @spec_l31Rd_good_L0 = @spec_l31Rd_good_L0.b := funext fun α => congrFun (Classical.choose_spec spec_l31Rd_good_L0.ex) α
theorem spec_l31Rd_good_L0.zero {α : Type} (N : Nat) (v385 : Int) (v386 : Int) (v387 : (List Int) × Int × Unit) (v388 : Int × Int × Unit) (v389 : Int × Int × Unit) (k0 : ((List Int) × Int × Unit) → (Int × Int × Unit) → (Int × Int × Unit) → Option α) : spec_l31Rd_good_L0 N 0 v385 v386 v387 v388 v389 k0 = none := by rw [spec_l31Rd_good_L0.eq]; rfl
theorem spec_l31Rd_good_L0.succ {α : Type} (N n : Nat) (v385 : Int) (v386 : Int) (v387 : (List Int) × Int × Unit) (v388 : Int × Int × Unit) (v389 : Int × Int × Unit) (k0 : ((List Int) × Int × Unit) → (Int × Int × Unit) → (Int × Int × Unit) → Option α) : spec_l31Rd_good_L0 N (n + 1) v385 v386 v387 v388 v389 k0 = spec_l31Rd_good_L0r N (fun y0 y1 y2 y3 y4 => spec_l31Rd_good_L0 N n y0 y1 y2 y3 y4 k0) k0 v385 v386 v387 v388 v389 := by rw [spec_l31Rd_good_L0.eq]; rfl
/-- (*loop.example/pinfold/spec.l31Rd).good -/
noncomputable def spec_l31Rd_good.b {α : Type} (N : Nat) (a381 : Int) (a382 : (List Int) × Int × Unit) (k0 : (Int × Int × Unit) → ((List Int) × Int × Unit) → Option α) : Option α :=
  spec_l31Rd_pair N a381 a382
    (fun x383 x384 =>
      spec_l31Rd_good_L0 N N a381 (0 : Int) x384 ((0 : Int), ((0 : Int), ())) x383
        (fun x396 _ x398 =>
          k0 x398 x396))
theorem spec_l31Rd_good.ex : ∃ f : ((α : Type) → Nat → Int → ((List Int) × Int × Unit) → ((Int × Int × Unit) → ((List Int) × Int × Unit) → Option α) → Option α), f = fun α => @spec_l31Rd_good.b α := ⟨_, rfl⟩
noncomputable def spec_l31Rd_good {α : Type} : Nat → Int → ((List Int) × Int × Unit) → ((Int × Int × Unit) → ((List Int) × Int × Unit) → Option α) → Option α := Classical.choose spec_l31Rd_good.ex α
theorem spec_l31Rd_good.eq : @spec_l31Rd_good = @spec_l31Rd_good.b := funext fun α => congrFun (Classical.choose_spec spec_l31Rd_good.ex) α

noncomputable def spec_l31Rd_box_J3.b {α : Type} (N : Nat) (v289 : Int) (v290 : Int) (v291 : (List Int) × Int × Unit) (v292 : List (Int × Int × Unit)) (v293 : List (Int × Int × Unit)) (k0 : Int → Int → ((List Int) × Int × Unit) → List (Int × Int × Unit) → List (Int × Int × Unit) → Option α) : Option α :=
  spec_l31Rd_pick N (12 : Int) v291
    (fun x294 x295 =>
      let x296 := (decide (x294 = (0 : Int)))
      bif x296 then
        spec_l31Rd_pick N (8 : Int) x295
          (fun x297 x298 =>
            k0 v289 x297 x298 v292 v293)
      else
        k0 v289 v290 x295 v292 v293)
theorem spec_l31Rd_box_J3.ex : ∃ f : ((α : Type) → Nat → Int → Int → ((List Int) × Int × Unit) → List (Int × Int × Unit) → List (Int × Int × Unit) → (Int → Int → ((List Int) × Int × Unit) → List (Int × Int × Unit) → List (Int × Int × Unit) → Option α) → Option α), f = fun α => @spec_l31Rd_box_J3.b α := ⟨_, rfl⟩
noncomputable def spec_l31Rd_box_J3 {α : Type} : Nat → Int → Int → ((List Int) × Int × Unit) → List (Int × Int × Unit) → List (Int × Int × Unit) → (Int → Int → ((List Int) × Int × Unit) → List (Int × Int × Unit) → List (Int × Int × Unit) → Option α) → Option α := Classical.choose spec_l31Rd_box_J3.ex α
theorem spec_l31Rd_box_J3.eq : @spec_l31Rd_box_J3 = @spec_l31Rd_box_J3.b := funext fun α => congrFun (Classical.choose_spec spec_l31Rd_box_J3.ex) α
noncomputable def spec_l31Rd_box_J8.b {α : Type} (N : Nat) (v311 : Int) (v312 : Int) (v313 : Int) (v314 : (List Int) × Int × Unit) (v315 : List (Int × Int × Unit)) (v316 : List (Int × Int × Unit)) (k0 : Int → Int → Int → ((List Int) × Int × Unit) → List (Int × Int × Unit) → List (Int × Int × Unit) → Option α) : Option α :=
  spec_l31Rd_pick N (24 : Int) v314
    (fun x317 x318 =>
      let x319 := (decide (x317 = (0 : Int)))
      bif x319 then
        spec_l31Rd_pair N v311 x318
          (fun x377 x378 =>
            let x379 := [x377]
            bif decide (v316.length + x379.length ≤ 8796093022208) then
              let x380 := v316 ++ x379
              k0 v311 v312 v313 x378 v315 x380
            else
              none)
      else
        spec_l31Rd_good N v311 x318
          (fun x399 x400 =>
            let x401 := [x399]
            bif decide (v316.length + x401.length ≤ 8796093022208) then
              let x402 := v316 ++ x401
              k0 v311 v312 v313 x400 v315 x402
            else
              none))
theorem spec_l31Rd_box_J8.ex : ∃ f : ((α : Type) → Nat → Int → Int → Int → ((List Int) × Int × Unit) → List (Int × Int × Unit) → List (Int × Int × Unit) → (Int → Int → Int → ((List Int) × Int × Unit) → List (Int × Int × Unit) → List (Int × Int × Unit) → Option α) → Option α), f = fun α => @spec_l31Rd_box_J8.b α := ⟨_, rfl⟩
noncomputable def spec_l31Rd_box_J8 {α : Type} : Nat → Int → Int → Int → ((List Int) × Int × Unit) → List (Int × Int × Unit) → List (Int × Int × Unit) → (Int → Int → Int → ((List Int) × Int × Unit) → List (Int × Int × Unit) → List (Int × Int × Unit) → Option α) → Option α := Classical.choose spec_l31Rd_box_J8.ex α
theorem spec_l31Rd_box_J8.eq : @spec_l31Rd_box_J8 = @spec_l31Rd_box_J8.b := funext fun α => congrFun (Classical.choose_spec spec_l31Rd_box_J8.ex) α
noncomputable def spec_l31Rd_box_L0r {α : Type} (N : Nat) (next : Int → Int → Int → ((List Int) × Int × Unit) → List (Int × Int × Unit) → List (Int × Int × Unit) → Option α) (k0 : ((List Int) × Int × Unit) → List (Int × Int × Unit) → List (Int × Int × Unit) → Option α) (v304 : Int) (v305 : Int) (v306 : Int) (v307 : (List Int) × Int × Unit) (v308 : List (Int × Int × Unit)) (v309 : List (Int × Int × Unit)) : Option α :=
  let x310 := decide (v306 < v305)
  bif x310 then
    spec_l31Rd_box_J8 N v304 v305 v306 v307 v308 v309
      (fun x403 x404 x405 x406 x407 x408 =>
        let x409 := (IntKind.i64.wrap (x405 + (1 : Int)))
        next x403 x404 x409 x406 x407 x408)
  else
    k0 v307 v308 v309
noncomputable def spec_l31Rd_box_L0.b {α : Type} (N n : Nat) (v304 : Int) (v305 : Int) (v306 : Int) (v307 : (List Int) × Int × Unit) (v308 : List (Int × Int × Unit)) (v309 : List (Int × Int × Unit)) (k0 : ((List Int) × Int × Unit) → List (Int × Int × Unit) → List (Int × Int × Unit) → Option α) : Option α :=
  Nat.rec (motive := fun _ => Int → Int → Int → ((List Int) × Int × Unit) → List (Int × Int × Unit) → List (Int × Int × Unit) → Option α) (fun _ _ _ _ _ _ => none) (fun _ next => spec_l31Rd_box_L0r N next k0) n v304 v305 v306 v307 v308 v309
theorem spec_l31Rd_box_L0.ex : ∃ f : ((α : Type) → Nat → Nat → Int → Int → Int → ((List Int) × Int × Unit) → List (Int × Int × Unit) → List (Int × Int × Unit) → (((List Int) × Int × Unit) → List (Int × Int × Unit) → List (Int × Int × Unit) → Option α) → Option α), f = fun α => @spec_l31Rd_box_L0.b α := ⟨_, rfl⟩
noncomputable def spec_l31Rd_box_L0 {α : Type} : Nat → Nat → Int → Int → Int → ((List Int) × Int × Unit) → List (Int × Int × Unit) → List (Int × Int × Unit) → (((List Int) × Int × Unit) → List (Int × Int × Unit) → List (Int × Int × Unit) → Option α) → Option α := Classical.choose spec_l31Rd_box_L0.ex α
theorem spec_l31Rd_box_L0.eq : @spec_l31Rd_box_L0 = @spec_l31Rd_box_L0.b := funext fun α => congrFun (Classical.choose_spec spec_l31Rd_box_L0.ex) α
theorem spec_l31Rd_box_L0.zero {α : Type} (N : Nat) (v304 : Int) (v305 : Int) (v306 : Int) (v307 : (List Int) × Int × Unit) (v308 : List (Int × Int × Unit)) (v309 : List (Int × Int × Unit)) (k0 : ((List Int) × Int × Unit) → List (Int × Int × Unit) → List (Int × Int × Unit) → Option α) : spec_l31Rd_box_L0 N 0 v304 v305 v306 v307 v308 v309 k0 = none := by rw [spec_l31Rd_box_L0.eq]; rfl
theorem spec_l31Rd_box_L0.succ {α : Type} (N n : Nat) (v304 : Int) (v305 : Int) (v306 : Int) (v307 : (List Int) × Int × Unit) (v308 : List (Int × Int × Unit)) (v309 : List (Int × Int × Unit)) (k0 : ((List Int) × Int × Unit) → List (Int × Int × Unit) → List (Int × Int × Unit) → Option α) : spec_l31Rd_box_L0 N (n + 1) v304 v305 v306 v307 v308 v309 k0 = spec_l31Rd_box_L0r N (fun y0 y1 y2 y3 y4 y5 => spec_l31Rd_box_L0 N n y0 y1 y2 y3 y4 y5 k0) k0 v304 v305 v306 v307 v308 v309 := by rw [spec_l31Rd_box_L0.eq]; rfl
/-- (*loop.example/pinfold/spec.l31Rd).box -/
noncomputable def spec_l31Rd_box.b {α : Type} (N : Nat) (a284 : Int) (a285 : (List Int) × Int × Unit) (k0 : ((List Int) × Int × Unit) → List (Int × Int × Unit) → Option α) : Option α :=
  spec_l31Rd_pick N (3 : Int) a285
    (fun x286 x287 =>
      let x288 := (IntKind.i64.wrap ((1 : Int) + x286))
      spec_l31Rd_box_J3 N a284 x288 x287 [] []
        (fun x299 x300 x301 x302 x303 =>
          spec_l31Rd_box_L0 N N x299 x300 (0 : Int) x301 x302 x303
            (fun x410 _ x412 =>
              k0 x410 x412)))
theorem spec_l31Rd_box.ex : ∃ f : ((α : Type) → Nat → Int → ((List Int) × Int × Unit) → (((List Int) × Int × Unit) → List (Int × Int × Unit) → Option α) → Option α), f = fun α => @spec_l31Rd_box.b α := ⟨_, rfl⟩
noncomputable def spec_l31Rd_box {α : Type} : Nat → Int → ((List Int) × Int × Unit) → (((List Int) × Int × Unit) → List (Int × Int × Unit) → Option α) → Option α := Classical.choose spec_l31Rd_box.ex α
theorem spec_l31Rd_box.eq : @spec_l31Rd_box = @spec_l31Rd_box.b := funext fun α => congrFun (Classical.choose_spec spec_l31Rd_box.ex) α

/-- loop.example/pinfold/spec.l31Box -/
noncomputable def spec_l31Box.b {α : Type} (N : Nat) (a8 : List Int) (k0 : Int → List (Int × Int × Unit) → Option α) : Option α :=
  spec_l31Open N a8
    (fun x15 =>
      spec_l31Rd_width N x15
        (fun x59 x60 =>
          spec_l31Rd_pick N (4 : Int) x60
            (fun x61 x62 =>
              let x63 := (decide (x61 = (0 : Int)))
              bif x63 then
                spec_l31Rd_few N x59 x62
                  (fun _ x283 =>
                    k0 x59 x283)
              else
                spec_l31Rd_box N x59 x62
                  (fun _ x414 =>
                    k0 x59 x414))))
theorem spec_l31Box.ex : ∃ f : ((α : Type) → Nat → List Int → (Int → List (Int × Int × Unit) → Option α) → Option α), f = fun α => @spec_l31Box.b α := ⟨_, rfl⟩
noncomputable def spec_l31Box {α : Type} : Nat → List Int → (Int → List (Int × Int × Unit) → Option α) → Option α := Classical.choose spec_l31Box.ex α
theorem spec_l31Box.eq : @spec_l31Box = @spec_l31Box.b := funext fun α => congrFun (Classical.choose_spec spec_l31Box.ex) α

/-- loop.example/pinfold/spec.DrawBoxBits -/
noncomputable def spec_DrawBoxBits.b {α : Type} (N : Nat) (a7 : List Int) (k0 : Int → List (Int × Int × Unit) → Option α) : Option α :=
  spec_l31Box N a7
    (fun x415 x416 =>
      k0 x415 x416)
theorem spec_DrawBoxBits.ex : ∃ f : ((α : Type) → Nat → List Int → (Int → List (Int × Int × Unit) → Option α) → Option α), f = fun α => @spec_DrawBoxBits.b α := ⟨_, rfl⟩
noncomputable def spec_DrawBoxBits {α : Type} : Nat → List Int → (Int → List (Int × Int × Unit) → Option α) → Option α := Classical.choose spec_DrawBoxBits.ex α
theorem spec_DrawBoxBits.eq : @spec_DrawBoxBits = @spec_DrawBoxBits.b := funext fun α => congrFun (Classical.choose_spec spec_DrawBoxBits.ex) α

/-- loop.example/pinfold/impl.in -/
noncomputable def impl_in.b {α : Type} (N : Nat) (a424 : Int) (a425 : Int) (a426 : Int) (k0 : Bool → Option α) : Option α :=
  let x427 := decide (a425 ≤ a424)
  bif x427 then
    let x428 := decide (a424 ≤ a426)
    k0 x428
  else
    k0 false
theorem impl_in.ex : ∃ f : ((α : Type) → Nat → Int → Int → Int → (Bool → Option α) → Option α), f = fun α => @impl_in.b α := ⟨_, rfl⟩
noncomputable def impl_in {α : Type} : Nat → Int → Int → Int → (Bool → Option α) → Option α := Classical.choose impl_in.ex α
theorem impl_in.eq : @impl_in = @impl_in.b := funext fun α => congrFun (Classical.choose_spec impl_in.ex) α

/-- loop.example/pinfold/impl.formatOf -/
noncomputable def impl_formatOf.b {α : Type} (N : Nat) (a446 : Int) (k0 : (Int × Int × Int × Int × Unit) → Bool → Option α) : Option α :=
  let x447 := (decide (a446 = (32 : Int)))
  bif x447 then
    k0 ((23 : Int), ((-149 : Int), ((127 : Int), ((2139095040 : Int), ())))) true
  else
    let x448 := (decide (a446 = (64 : Int)))
    bif x448 then
      k0 ((52 : Int), ((-1074 : Int), ((1023 : Int), ((9218868437227405312 : Int), ())))) true
    else
      k0 ((0 : Int), ((0 : Int), ((0 : Int), ((0 : Int), ())))) false
theorem impl_formatOf.ex : ∃ f : ((α : Type) → Nat → Int → ((Int × Int × Int × Int × Unit) → Bool → Option α) → Option α), f = fun α => @impl_formatOf.b α := ⟨_, rfl⟩
noncomputable def impl_formatOf {α : Type} : Nat → Int → ((Int × Int × Int × Int × Unit) → Bool → Option α) → Option α := Classical.choose impl_formatOf.ex α
theorem impl_formatOf.eq : @impl_formatOf = @impl_formatOf.b := funext fun α => congrFun (Classical.choose_spec impl_formatOf.ex) α

/-- loop.example/pinfold/impl.BitTop -/
noncomputable def impl_BitTop.b {α : Type} (N : Nat) (a445 : Int) (k0 : Int → Option α) : Option α :=
  impl_formatOf N a445
    (fun x449 _ =>
      k0 x449.2.2.2.1)
theorem impl_BitTop.ex : ∃ f : ((α : Type) → Nat → Int → (Int → Option α) → Option α), f = fun α => @impl_BitTop.b α := ⟨_, rfl⟩
noncomputable def impl_BitTop {α : Type} : Nat → Int → (Int → Option α) → Option α := Classical.choose impl_BitTop.ex α
theorem impl_BitTop.eq : @impl_BitTop = @impl_BitTop.b := funext fun α => congrFun (Classical.choose_spec impl_BitTop.ex) α

/-- loop.example/pinfold/impl.BitOk -/
noncomputable def impl_BitOk.b {α : Type} (N : Nat) (a452 : Int) (a453 : Int) (k0 : Bool → Option α) : Option α :=
  impl_formatOf N a452
    (fun x454 x455 =>
      bif x455 then
        let x456 := IntKind.i64.wrap (0 - x454.2.2.2.1)
        impl_in N a453 x456 x454.2.2.2.1
          (fun x457 =>
            k0 x457)
      else
        k0 false)
theorem impl_BitOk.ex : ∃ f : ((α : Type) → Nat → Int → Int → (Bool → Option α) → Option α), f = fun α => @impl_BitOk.b α := ⟨_, rfl⟩
noncomputable def impl_BitOk {α : Type} : Nat → Int → Int → (Bool → Option α) → Option α := Classical.choose impl_BitOk.ex α
theorem impl_BitOk.eq : @impl_BitOk = @impl_BitOk.b := funext fun α => congrFun (Classical.choose_spec impl_BitOk.ex) α

/-- loop.example/pinfold/impl.PairOk -/
noncomputable def impl_PairOk.b {α : Type} (N : Nat) (a443 : Int) (a444 : Int × Int × Unit) (k0 : Bool → Option α) : Option α :=
  impl_BitTop N a443
    (fun x451 =>
      impl_BitOk N a443 a444.1
        (fun x458 =>
          bif x458 then
            impl_BitOk N a443 a444.2.1
              (fun x459 =>
                bif x459 then
                  let x460 := decide (a444.1 ≤ a444.2.1)
                  bif x460 then
                    let x461 := !(decide (a444.1 = x451))
                    bif x461 then
                      let x462 := IntKind.i64.wrap (0 - x451)
                      let x463 := !(decide (a444.2.1 = x462))
                      k0 x463
                    else
                      k0 false
                  else
                    k0 false
                else
                  k0 false)
          else
            k0 false))
theorem impl_PairOk.ex : ∃ f : ((α : Type) → Nat → Int → (Int × Int × Unit) → (Bool → Option α) → Option α), f = fun α => @impl_PairOk.b α := ⟨_, rfl⟩
noncomputable def impl_PairOk {α : Type} : Nat → Int → (Int × Int × Unit) → (Bool → Option α) → Option α := Classical.choose impl_PairOk.ex α
theorem impl_PairOk.eq : @impl_PairOk = @impl_PairOk.b := funext fun α => congrFun (Classical.choose_spec impl_PairOk.ex) α

/-- loop.example/pinfold/impl.BoxOk$1 -/
noncomputable def impl_BoxOk_1.b {α : Type} (N : Nat) (a441 : Int × Int × Unit) (a442 : Int) (k0 : Bool → Option α) : Option α :=
  impl_PairOk N a442 a441
    (fun x464 =>
      let x465 := !x464
      k0 x465)
theorem impl_BoxOk_1.ex : ∃ f : ((α : Type) → Nat → (Int × Int × Unit) → Int → (Bool → Option α) → Option α), f = fun α => @impl_BoxOk_1.b α := ⟨_, rfl⟩
noncomputable def impl_BoxOk_1 {α : Type} : Nat → (Int × Int × Unit) → Int → (Bool → Option α) → Option α := Classical.choose impl_BoxOk_1.ex α
theorem impl_BoxOk_1.eq : @impl_BoxOk_1 = @impl_BoxOk_1.b := funext fun α => congrFun (Classical.choose_spec impl_BoxOk_1.ex) α

noncomputable def slices_IndexFunc_impl_Pair_impl_Pair__impl_BoxOk_1_L0r {α : Type} (N : Nat) (next : List (Int × Int × Unit) → Int → Int → Int → Option α) (k0 : Int → Option α) (k1 : Option α) (v435 : List (Int × Int × Unit)) (v436 : Int) (v437 : Int) (v438 : Int) : Option α :=
  let x439 := decide (v438 < v437)
  bif x439 then
    bif (decide (v438 < (0 : Int))) then
      none
    else
      match v435[v438.toNat]? with
      | some x440 =>
        impl_BoxOk_1 N x440 v436
          (fun x466 =>
            bif x466 then
              k0 v438
            else
              let x467 := (IntKind.i64.wrap (v438 + (1 : Int)))
              next v435 v436 v437 x467)
      | none => none
  else
    k1
noncomputable def slices_IndexFunc_impl_Pair_impl_Pair__impl_BoxOk_1_L0.b {α : Type} (N n : Nat) (v435 : List (Int × Int × Unit)) (v436 : Int) (v437 : Int) (v438 : Int) (k0 : Int → Option α) (k1 : Option α) : Option α :=
  Nat.rec (motive := fun _ => List (Int × Int × Unit) → Int → Int → Int → Option α) (fun _ _ _ _ => none) (fun _ next => slices_IndexFunc_impl_Pair_impl_Pair__impl_BoxOk_1_L0r N next k0 k1) n v435 v436 v437 v438
theorem slices_IndexFunc_impl_Pair_impl_Pair__impl_BoxOk_1_L0.ex : ∃ f : ((α : Type) → Nat → Nat → List (Int × Int × Unit) → Int → Int → Int → (Int → Option α) → (Option α) → Option α), f = fun α => @slices_IndexFunc_impl_Pair_impl_Pair__impl_BoxOk_1_L0.b α := ⟨_, rfl⟩
noncomputable def slices_IndexFunc_impl_Pair_impl_Pair__impl_BoxOk_1_L0 {α : Type} : Nat → Nat → List (Int × Int × Unit) → Int → Int → Int → (Int → Option α) → (Option α) → Option α := Classical.choose slices_IndexFunc_impl_Pair_impl_Pair__impl_BoxOk_1_L0.ex α
theorem slices_IndexFunc_impl_Pair_impl_Pair__impl_BoxOk_1_L0.eq : @slices_IndexFunc_impl_Pair_impl_Pair__impl_BoxOk_1_L0 = @slices_IndexFunc_impl_Pair_impl_Pair__impl_BoxOk_1_L0.b := funext fun α => congrFun (Classical.choose_spec slices_IndexFunc_impl_Pair_impl_Pair__impl_BoxOk_1_L0.ex) α
theorem slices_IndexFunc_impl_Pair_impl_Pair__impl_BoxOk_1_L0.zero {α : Type} (N : Nat) (v435 : List (Int × Int × Unit)) (v436 : Int) (v437 : Int) (v438 : Int) (k0 : Int → Option α) (k1 : Option α) : slices_IndexFunc_impl_Pair_impl_Pair__impl_BoxOk_1_L0 N 0 v435 v436 v437 v438 k0 k1 = none := by rw [slices_IndexFunc_impl_Pair_impl_Pair__impl_BoxOk_1_L0.eq]; rfl
theorem slices_IndexFunc_impl_Pair_impl_Pair__impl_BoxOk_1_L0.succ {α : Type} (N n : Nat) (v435 : List (Int × Int × Unit)) (v436 : Int) (v437 : Int) (v438 : Int) (k0 : Int → Option α) (k1 : Option α) : slices_IndexFunc_impl_Pair_impl_Pair__impl_BoxOk_1_L0 N (n + 1) v435 v436 v437 v438 k0 k1 = slices_IndexFunc_impl_Pair_impl_Pair__impl_BoxOk_1_L0r N (fun y0 y1 y2 y3 => slices_IndexFunc_impl_Pair_impl_Pair__impl_BoxOk_1_L0 N n y0 y1 y2 y3 k0 k1) k0 k1 v435 v436 v437 v438 := by rw [slices_IndexFunc_impl_Pair_impl_Pair__impl_BoxOk_1_L0.eq]; rfl
/-- slices.IndexFunc[[]loop.example/pinfold/impl.Pair,loop.example/pinfold/impl.Pair] -/
noncomputable def slices_IndexFunc_impl_Pair_impl_Pair__impl_BoxOk_1.b {α : Type} (N : Nat) (a432 : List (Int × Int × Unit)) (a433 : Int) (k0 : Int → Option α) : Option α :=
  let x434 := ((a432.length : Nat) : Int)
  slices_IndexFunc_impl_Pair_impl_Pair__impl_BoxOk_1_L0 N N a432 a433 x434 (0 : Int)
    (fun x468 =>
      k0 x468)
    (
      k0 (-1 : Int))
theorem slices_IndexFunc_impl_Pair_impl_Pair__impl_BoxOk_1.ex : ∃ f : ((α : Type) → Nat → List (Int × Int × Unit) → Int → (Int → Option α) → Option α), f = fun α => @slices_IndexFunc_impl_Pair_impl_Pair__impl_BoxOk_1.b α := ⟨_, rfl⟩
noncomputable def slices_IndexFunc_impl_Pair_impl_Pair__impl_BoxOk_1 {α : Type} : Nat → List (Int × Int × Unit) → Int → (Int → Option α) → Option α := Classical.choose slices_IndexFunc_impl_Pair_impl_Pair__impl_BoxOk_1.ex α
theorem slices_IndexFunc_impl_Pair_impl_Pair__impl_BoxOk_1.eq : @slices_IndexFunc_impl_Pair_impl_Pair__impl_BoxOk_1 = @slices_IndexFunc_impl_Pair_impl_Pair__impl_BoxOk_1.b := funext fun α => congrFun (Classical.choose_spec slices_IndexFunc_impl_Pair_impl_Pair__impl_BoxOk_1.ex) α

/-- slices.ContainsFunc[[]loop.example/pinfold/impl.Pair,loop.example/pinfold/impl.Pair] -/
noncomputable def slices_ContainsFunc_impl_Pair_impl_Pair__impl_BoxOk_1.b {α : Type} (N : Nat) (a430 : List (Int × Int × Unit)) (a431 : Int) (k0 : Bool → Option α) : Option α :=
  slices_IndexFunc_impl_Pair_impl_Pair__impl_BoxOk_1 N a430 a431
    (fun x469 =>
      let x470 := (decide ((0 : Int) ≤ x469))
      k0 x470)
theorem slices_ContainsFunc_impl_Pair_impl_Pair__impl_BoxOk_1.ex : ∃ f : ((α : Type) → Nat → List (Int × Int × Unit) → Int → (Bool → Option α) → Option α), f = fun α => @slices_ContainsFunc_impl_Pair_impl_Pair__impl_BoxOk_1.b α := ⟨_, rfl⟩
noncomputable def slices_ContainsFunc_impl_Pair_impl_Pair__impl_BoxOk_1 {α : Type} : Nat → List (Int × Int × Unit) → Int → (Bool → Option α) → Option α := Classical.choose slices_ContainsFunc_impl_Pair_impl_Pair__impl_BoxOk_1.ex α
theorem slices_ContainsFunc_impl_Pair_impl_Pair__impl_BoxOk_1.eq : @slices_ContainsFunc_impl_Pair_impl_Pair__impl_BoxOk_1 = @slices_ContainsFunc_impl_Pair_impl_Pair__impl_BoxOk_1.b := funext fun α => congrFun (Classical.choose_spec slices_ContainsFunc_impl_Pair_impl_Pair__impl_BoxOk_1.ex) α

/-- loop.example/pinfold/impl.BoxOk -/
noncomputable def impl_BoxOk.b {α : Type} (N : Nat) (a421 : Int) (a422 : (List (Int × Int × Unit)) × Unit) (k0 : Bool → Option α) : Option α :=
  let x423 := ((a422.1.length : Nat) : Int)
  impl_in N x423 (1 : Int) (6 : Int)
    (fun x429 =>
      bif x429 then
        slices_ContainsFunc_impl_Pair_impl_Pair__impl_BoxOk_1 N a422.1 a421
          (fun x471 =>
            let x472 := !x471
            k0 x472)
      else
        k0 false)
theorem impl_BoxOk.ex : ∃ f : ((α : Type) → Nat → Int → ((List (Int × Int × Unit)) × Unit) → (Bool → Option α) → Option α), f = fun α => @impl_BoxOk.b α := ⟨_, rfl⟩
noncomputable def impl_BoxOk {α : Type} : Nat → Int → ((List (Int × Int × Unit)) × Unit) → (Bool → Option α) → Option α := Classical.choose impl_BoxOk.ex α
theorem impl_BoxOk.eq : @impl_BoxOk = @impl_BoxOk.b := funext fun α => congrFun (Classical.choose_spec impl_BoxOk.ex) α

/-- loop.example/pinfold/impl.BitBits -/
noncomputable def impl_BitBits.b {α : Type} (N : Nat) (a486 : Int) (a487 : Int) (k0 : Int → Option α) : Option α :=
  impl_BitOk N a486 a487
    (fun x488 =>
      let x489 := !x488
      bif x489 then
        k0 (0 : Int)
      else
        let x490 := (decide (a487 < (0 : Int)))
        bif x490 then
          let x491 := IntKind.i64.wrap (0 - a487)
          let x492 := IntKind.u64.wrap x491
          let x493 := (IntKind.i64.wrap (a486 - (1 : Int)))
          bif (decide (x493 < (0 : Int))) then
            none
          else
            let x494 := (shlI .u64 (1 : Int) x493)
            let x495 := bitI .or .u64 x492 x494
            k0 x495
        else
          let x496 := IntKind.u64.wrap a487
          k0 x496)
theorem impl_BitBits.ex : ∃ f : ((α : Type) → Nat → Int → Int → (Int → Option α) → Option α), f = fun α => @impl_BitBits.b α := ⟨_, rfl⟩
noncomputable def impl_BitBits {α : Type} : Nat → Int → Int → (Int → Option α) → Option α := Classical.choose impl_BitBits.ex α
theorem impl_BitBits.eq : @impl_BitBits = @impl_BitBits.b := funext fun α => congrFun (Classical.choose_spec impl_BitBits.ex) α

noncomputable def impl_BoxBits_L0r {α : Type} (N : Nat) (next : Int → List (Int × Int × Unit) → Int → Int → List Int → Option α) (k0 : List Int → Option α) (v479 : Int) (v480 : List (Int × Int × Unit)) (v481 : Int) (v482 : Int) (v483 : List Int) : Option α :=
  let x484 := decide (v482 < v481)
  bif x484 then
    bif (decide (v482 < (0 : Int))) then
      none
    else
      match v480[v482.toNat]? with
      | some x485 =>
        impl_BitBits N v479 x485.1
          (fun x497 =>
            impl_BitBits N v479 x485.2.1
              (fun x498 =>
                let x499 := [x497, x498]
                bif decide (v483.length + x499.length ≤ 8796093022208) then
                  let x500 := v483 ++ x499
                  let x501 := (IntKind.i64.wrap (v482 + (1 : Int)))
                  next v479 v480 v481 x501 x500
                else
                  none))
      | none => none
  else
    k0 v483
noncomputable def impl_BoxBits_L0.b {α : Type} (N n : Nat) (v479 : Int) (v480 : List (Int × Int × Unit)) (v481 : Int) (v482 : Int) (v483 : List Int) (k0 : List Int → Option α) : Option α :=
  Nat.rec (motive := fun _ => Int → List (Int × Int × Unit) → Int → Int → List Int → Option α) (fun _ _ _ _ _ => none) (fun _ next => impl_BoxBits_L0r N next k0) n v479 v480 v481 v482 v483
theorem impl_BoxBits_L0.ex : ∃ f : ((α : Type) → Nat → Nat → Int → List (Int × Int × Unit) → Int → Int → List Int → (List Int → Option α) → Option α), f = fun α => @impl_BoxBits_L0.b α := ⟨_, rfl⟩
noncomputable def impl_BoxBits_L0 {α : Type} : Nat → Nat → Int → List (Int × Int × Unit) → Int → Int → List Int → (List Int → Option α) → Option α := Classical.choose impl_BoxBits_L0.ex α
theorem impl_BoxBits_L0.eq : @impl_BoxBits_L0 = @impl_BoxBits_L0.b := funext fun α => congrFun (Classical.choose_spec impl_BoxBits_L0.ex) α
theorem impl_BoxBits_L0.zero {α : Type} (N : Nat) (v479 : Int) (v480 : List (Int × Int × Unit)) (v481 : Int) (v482 : Int) (v483 : List Int) (k0 : List Int → Option α) : impl_BoxBits_L0 N 0 v479 v480 v481 v482 v483 k0 = none := by rw [impl_BoxBits_L0.eq]; rfl
theorem impl_BoxBits_L0.succ {α : Type} (N n : Nat) (v479 : Int) (v480 : List (Int × Int × Unit)) (v481 : Int) (v482 : Int) (v483 : List Int) (k0 : List Int → Option α) : impl_BoxBits_L0 N (n + 1) v479 v480 v481 v482 v483 k0 = impl_BoxBits_L0r N (fun y0 y1 y2 y3 y4 => impl_BoxBits_L0 N n y0 y1 y2 y3 y4 k0) k0 v479 v480 v481 v482 v483 := by rw [impl_BoxBits_L0.eq]; rfl
/-- loop.example/pinfold/impl.BoxBits -/
noncomputable def impl_BoxBits.b {α : Type} (N : Nat) (a419 : Int) (a420 : (List (Int × Int × Unit)) × Unit) (k0 : List Int → Option α) : Option α :=
  impl_BoxOk N a419 a420
    (fun x473 =>
      let x474 := !x473
      bif x474 then
        k0 []
      else
        let x475 := ((a420.1.length : Nat) : Int)
        let x476 := (IntKind.i64.wrap ((2 : Int) * x475))
        bif (decide ((0 : Int) ≤ x476)) then
          bif (decide (x476 ≤ ((8796093022208 : Nat) : Int))) then
            let x477 := (List.replicate 0 (0 : Int))
            let x478 := ((a420.1.length : Nat) : Int)
            impl_BoxBits_L0 N N a419 a420.1 x478 (0 : Int) x477
              (fun x502 =>
                k0 x502)
          else
            none
        else
          none)
theorem impl_BoxBits.ex : ∃ f : ((α : Type) → Nat → Int → ((List (Int × Int × Unit)) × Unit) → (List Int → Option α) → Option α), f = fun α => @impl_BoxBits.b α := ⟨_, rfl⟩
noncomputable def impl_BoxBits {α : Type} : Nat → Int → ((List (Int × Int × Unit)) × Unit) → (List Int → Option α) → Option α := Classical.choose impl_BoxBits.ex α
theorem impl_BoxBits.eq : @impl_BoxBits = @impl_BoxBits.b := funext fun α => congrFun (Classical.choose_spec impl_BoxBits.ex) α

/-- loop.example/pinfold/impl.BitOrd -/
noncomputable def impl_BitOrd.b {α : Type} (N : Nat) (a524 : Int) (a525 : Int) (k0 : Int → Bool → Option α) : Option α :=
  impl_formatOf N a524
    (fun x526 x527 =>
      let x528 := !x527
      bif x528 then
        k0 (0 : Int) false
      else
        let x529 := (decide (a524 = (32 : Int)))
        bif x529 then
          let x530 := (decide ((4294967296 : Int) ≤ a525))
          bif x530 then
            k0 (0 : Int) false
          else
            let x531 := (IntKind.i64.wrap (a524 - (1 : Int)))
            bif (decide (x531 < (0 : Int))) then
              none
            else
              let x532 := (shlI .u64 (1 : Int) x531)
              let x533 := bitI .andNot .u64 a525 x532
              let x534 := IntKind.u64.wrap x526.2.2.2.1
              let x535 := decide (x534 < x533)
              bif x535 then
                k0 (0 : Int) false
              else
                let x536 := bitI .and .u64 a525 x532
                let x537 := (!(decide (x536 = (0 : Int))))
                bif x537 then
                  let x538 := IntKind.i64.wrap x533
                  let x539 := IntKind.i64.wrap (0 - x538)
                  k0 x539 true
                else
                  let x540 := IntKind.i64.wrap x533
                  k0 x540 true
        else
          let x541 := (IntKind.i64.wrap (a524 - (1 : Int)))
          bif (decide (x541 < (0 : Int))) then
            none
          else
            let x542 := (shlI .u64 (1 : Int) x541)
            let x543 := bitI .andNot .u64 a525 x542
            let x544 := IntKind.u64.wrap x526.2.2.2.1
            let x545 := decide (x544 < x543)
            bif x545 then
              k0 (0 : Int) false
            else
              let x546 := bitI .and .u64 a525 x542
              let x547 := (!(decide (x546 = (0 : Int))))
              bif x547 then
                let x548 := IntKind.i64.wrap x543
                let x549 := IntKind.i64.wrap (0 - x548)
                k0 x549 true
              else
                let x550 := IntKind.i64.wrap x543
                k0 x550 true)
theorem impl_BitOrd.ex : ∃ f : ((α : Type) → Nat → Int → Int → (Int → Bool → Option α) → Option α), f = fun α => @impl_BitOrd.b α := ⟨_, rfl⟩
noncomputable def impl_BitOrd {α : Type} : Nat → Int → Int → (Int → Bool → Option α) → Option α := Classical.choose impl_BitOrd.ex α
theorem impl_BitOrd.eq : @impl_BitOrd = @impl_BitOrd.b := funext fun α => congrFun (Classical.choose_spec impl_BitOrd.ex) α

noncomputable def impl_BoxOf_L0r {α : Type} (N : Nat) (next : Int → List Int → Int → Int → List Int → List (Int × Int × Unit) → Option α) (k0 : Int → List (Int × Int × Unit) → Option α) (k1 : Int → List Int → List (Int × Int × Unit) → Option α) (v516 : Int) (v517 : List Int) (v518 : Int) (v519 : Int) (v520 : List Int) (v521 : List (Int × Int × Unit)) : Option α :=
  let x522 := decide (v519 < v518)
  bif x522 then
    bif (decide (v519 < (0 : Int))) then
      none
    else
      match v517[v519.toNat]? with
      | some x523 =>
        impl_BitOrd N v516 x523
          (fun x551 x552 =>
            let x553 := !x552
            bif x553 then
              k0 (2 : Int) []
            else
              let x554 := [x551]
              bif decide (v520.length + x554.length ≤ 8796093022208) then
                let x555 := v520 ++ x554
                let x556 := (IntKind.i64.wrap (v519 + (1 : Int)))
                next v516 v517 v518 x556 x555 v521
              else
                none)
      | none => none
  else
    k1 v516 v520 v521
noncomputable def impl_BoxOf_L0.b {α : Type} (N n : Nat) (v516 : Int) (v517 : List Int) (v518 : Int) (v519 : Int) (v520 : List Int) (v521 : List (Int × Int × Unit)) (k0 : Int → List (Int × Int × Unit) → Option α) (k1 : Int → List Int → List (Int × Int × Unit) → Option α) : Option α :=
  Nat.rec (motive := fun _ => Int → List Int → Int → Int → List Int → List (Int × Int × Unit) → Option α) (fun _ _ _ _ _ _ => none) (fun _ next => impl_BoxOf_L0r N next k0 k1) n v516 v517 v518 v519 v520 v521
theorem impl_BoxOf_L0.ex : ∃ f : ((α : Type) → Nat → Nat → Int → List Int → Int → Int → List Int → List (Int × Int × Unit) → (Int → List (Int × Int × Unit) → Option α) → (Int → List Int → List (Int × Int × Unit) → Option α) → Option α), f = fun α => @impl_BoxOf_L0.b α := ⟨_, rfl⟩
noncomputable def impl_BoxOf_L0 {α : Type} : Nat → Nat → Int → List Int → Int → Int → List Int → List (Int × Int × Unit) → (Int → List (Int × Int × Unit) → Option α) → (Int → List Int → List (Int × Int × Unit) → Option α) → Option α := Classical.choose impl_BoxOf_L0.ex α
theorem impl_BoxOf_L0.eq : @impl_BoxOf_L0 = @impl_BoxOf_L0.b := funext fun α => congrFun (Classical.choose_spec impl_BoxOf_L0.ex) α
theorem impl_BoxOf_L0.zero {α : Type} (N : Nat) (v516 : Int) (v517 : List Int) (v518 : Int) (v519 : Int) (v520 : List Int) (v521 : List (Int × Int × Unit)) (k0 : Int → List (Int × Int × Unit) → Option α) (k1 : Int → List Int → List (Int × Int × Unit) → Option α) : impl_BoxOf_L0 N 0 v516 v517 v518 v519 v520 v521 k0 k1 = none := by rw [impl_BoxOf_L0.eq]; rfl
theorem impl_BoxOf_L0.succ {α : Type} (N n : Nat) (v516 : Int) (v517 : List Int) (v518 : Int) (v519 : Int) (v520 : List Int) (v521 : List (Int × Int × Unit)) (k0 : Int → List (Int × Int × Unit) → Option α) (k1 : Int → List Int → List (Int × Int × Unit) → Option α) : impl_BoxOf_L0 N (n + 1) v516 v517 v518 v519 v520 v521 k0 k1 = impl_BoxOf_L0r N (fun y0 y1 y2 y3 y4 y5 => impl_BoxOf_L0 N n y0 y1 y2 y3 y4 y5 k0 k1) k0 k1 v516 v517 v518 v519 v520 v521 := by rw [impl_BoxOf_L0.eq]; rfl
noncomputable def impl_BoxOf_L2r {α : Type} (N : Nat) (next : Int → Int → Int → List Int → List (Int × Int × Unit) → List (Int × Int × Unit) → Option α) (k0 : Int → List (Int × Int × Unit) → List (Int × Int × Unit) → Option α) (v566 : Int) (v567 : Int) (v568 : Int) (v569 : List Int) (v570 : List (Int × Int × Unit)) (v571 : List (Int × Int × Unit)) : Option α :=
  let x572 := decide (v568 < v567)
  bif x572 then
    let x573 := (IntKind.i64.wrap ((2 : Int) * v568))
    bif (decide (x573 < (0 : Int))) then
      none
    else
      bif decide (x573.toNat < v569.length) then
        match v569[x573.toNat]? with
        | some x574 =>
          let x575 := (IntKind.i64.wrap ((2 : Int) * v568))
          let x576 := (IntKind.i64.wrap (x575 + (1 : Int)))
          bif (decide (x576 < (0 : Int))) then
            none
          else
            bif decide (x576.toNat < v569.length) then
              match v569[x576.toNat]? with
              | some x577 =>
                bif (decide (v568 < (0 : Int))) then
                  none
                else
                  bif decide (v568.toNat < v571.length) then
                    match v571[v568.toNat]? with
                    | some x578 =>
                      let x579 := v571.set v568.toNat (x574, (x577, ()))
                      let x580 := (IntKind.i64.wrap (v568 + (1 : Int)))
                      next v566 v567 x580 v569 v570 x579
                    | none => none
                  else
                    none
              | none => none
            else
              none
        | none => none
      else
        none
  else
    k0 v566 v570 v571
noncomputable def impl_BoxOf_L2.b {α : Type} (N n : Nat) (v566 : Int) (v567 : Int) (v568 : Int) (v569 : List Int) (v570 : List (Int × Int × Unit)) (v571 : List (Int × Int × Unit)) (k0 : Int → List (Int × Int × Unit) → List (Int × Int × Unit) → Option α) : Option α :=
  Nat.rec (motive := fun _ => Int → Int → Int → List Int → List (Int × Int × Unit) → List (Int × Int × Unit) → Option α) (fun _ _ _ _ _ _ => none) (fun _ next => impl_BoxOf_L2r N next k0) n v566 v567 v568 v569 v570 v571
theorem impl_BoxOf_L2.ex : ∃ f : ((α : Type) → Nat → Nat → Int → Int → Int → List Int → List (Int × Int × Unit) → List (Int × Int × Unit) → (Int → List (Int × Int × Unit) → List (Int × Int × Unit) → Option α) → Option α), f = fun α => @impl_BoxOf_L2.b α := ⟨_, rfl⟩
noncomputable def impl_BoxOf_L2 {α : Type} : Nat → Nat → Int → Int → Int → List Int → List (Int × Int × Unit) → List (Int × Int × Unit) → (Int → List (Int × Int × Unit) → List (Int × Int × Unit) → Option α) → Option α := Classical.choose impl_BoxOf_L2.ex α
theorem impl_BoxOf_L2.eq : @impl_BoxOf_L2 = @impl_BoxOf_L2.b := funext fun α => congrFun (Classical.choose_spec impl_BoxOf_L2.ex) α
theorem impl_BoxOf_L2.zero {α : Type} (N : Nat) (v566 : Int) (v567 : Int) (v568 : Int) (v569 : List Int) (v570 : List (Int × Int × Unit)) (v571 : List (Int × Int × Unit)) (k0 : Int → List (Int × Int × Unit) → List (Int × Int × Unit) → Option α) : impl_BoxOf_L2 N 0 v566 v567 v568 v569 v570 v571 k0 = none := by rw [impl_BoxOf_L2.eq]; rfl
theorem impl_BoxOf_L2.succ {α : Type} (N n : Nat) (v566 : Int) (v567 : Int) (v568 : Int) (v569 : List Int) (v570 : List (Int × Int × Unit)) (v571 : List (Int × Int × Unit)) (k0 : Int → List (Int × Int × Unit) → List (Int × Int × Unit) → Option α) : impl_BoxOf_L2 N (n + 1) v566 v567 v568 v569 v570 v571 k0 = impl_BoxOf_L2r N (fun y0 y1 y2 y3 y4 y5 => impl_BoxOf_L2 N n y0 y1 y2 y3 y4 y5 k0) k0 v566 v567 v568 v569 v570 v571 := by rw [impl_BoxOf_L2.eq]; rfl
/-- loop.example/pinfold/impl.BoxOf -/
noncomputable def impl_BoxOf.b {α : Type} (N : Nat) (a504 : Int) (a505 : List Int) (k0 : Int → List (Int × Int × Unit) → Option α) : Option α :=
  impl_formatOf N a504
    (fun _ x507 =>
      let x508 := !x507
      bif x508 then
        k0 (1 : Int) []
      else
        let x509 := ((a505.length : Nat) : Int)
        impl_in N x509 (2 : Int) (12 : Int)
          (fun x510 =>
            let x511 := !x510
            bif x511 then
              k0 (1 : Int) []
            else
              let x512 := ((a505.length : Nat) : Int)
              let x513 := (Int.tmod x512 (2 : Int))
              let x514 := (!(decide (x513 = (0 : Int))))
              bif x514 then
                k0 (1 : Int) []
              else
                let x515 := ((a505.length : Nat) : Int)
                impl_BoxOf_L0 N N a504 a505 x515 (0 : Int) [] []
                  (fun x557 x558 =>
                    k0 x557 x558)
                  (fun x559 x560 x561 =>
                    let x562 := ((x560.length : Nat) : Int)
                    let x563 := (IntKind.i64.wrap (Int.tdiv x562 (2 : Int)))
                    bif (decide ((0 : Int) ≤ x563)) then
                      bif decide (x563 ≤ x563) then
                        bif (decide (x563 ≤ ((8796093022208 : Nat) : Int))) then
                          let x564 := (List.replicate x563.toNat ((0 : Int), ((0 : Int), ())))
                          let x565 := ((x564.length : Nat) : Int)
                          impl_BoxOf_L2 N N x559 x565 (0 : Int) x560 x561 x564
                            (fun x581 _ x583 =>
                              impl_BoxOk N x581 (x583, ())
                                (fun x584 =>
                                  let x585 := !x584
                                  bif x585 then
                                    k0 (3 : Int) []
                                  else
                                    k0 (0 : Int) x583))
                        else
                          none
                      else
                        none
                    else
                      none)))
theorem impl_BoxOf.ex : ∃ f : ((α : Type) → Nat → Int → List Int → (Int → List (Int × Int × Unit) → Option α) → Option α), f = fun α => @impl_BoxOf.b α := ⟨_, rfl⟩
noncomputable def impl_BoxOf {α : Type} : Nat → Int → List Int → (Int → List (Int × Int × Unit) → Option α) → Option α := Classical.choose impl_BoxOf.ex α
theorem impl_BoxOf.eq : @impl_BoxOf = @impl_BoxOf.b := funext fun α => congrFun (Classical.choose_spec impl_BoxOf.ex) α

noncomputable def spec_BoxOk_L0r {α : Type} (N : Nat) (next : Int → Int → ((List (Int × Int × Unit)) × Unit) → Option α) (k0 : Bool → Option α) (k1 : Option α) (v600 : Int) (v601 : Int) (v602 : (List (Int × Int × Unit)) × Unit) : Option α :=
  let x603 := ((v602.1.length : Nat) : Int)
  let x604 := decide (v601 < x603)
  bif x604 then
    bif (decide (v601 < (0 : Int))) then
      none
    else
      match v602.1[v601.toNat]? with
      | some x605 =>
        spec_PairOk N v600 x605
          (fun x606 =>
            let x607 := !x606
            bif x607 then
              k0 false
            else
              let x608 := (IntKind.i64.wrap (v601 + (1 : Int)))
              next v600 x608 v602)
      | none => none
  else
    k1
noncomputable def spec_BoxOk_L0.b {α : Type} (N n : Nat) (v600 : Int) (v601 : Int) (v602 : (List (Int × Int × Unit)) × Unit) (k0 : Bool → Option α) (k1 : Option α) : Option α :=
  Nat.rec (motive := fun _ => Int → Int → ((List (Int × Int × Unit)) × Unit) → Option α) (fun _ _ _ => none) (fun _ next => spec_BoxOk_L0r N next k0 k1) n v600 v601 v602
theorem spec_BoxOk_L0.ex : ∃ f : ((α : Type) → Nat → Nat → Int → Int → ((List (Int × Int × Unit)) × Unit) → (Bool → Option α) → (Option α) → Option α), f = fun α => @spec_BoxOk_L0.b α := ⟨_, rfl⟩
noncomputable def spec_BoxOk_L0 {α : Type} : Nat → Nat → Int → Int → ((List (Int × Int × Unit)) × Unit) → (Bool → Option α) → (Option α) → Option α := Classical.choose spec_BoxOk_L0.ex α
theorem spec_BoxOk_L0.eq : @spec_BoxOk_L0 = @spec_BoxOk_L0.b := funext fun α => congrFun (Classical.choose_spec spec_BoxOk_L0.ex) α
theorem spec_BoxOk_L0.zero {α : Type} (N : Nat) (v600 : Int) (v601 : Int) (v602 : (List (Int × Int × Unit)) × Unit) (k0 : Bool → Option α) (k1 : Option α) : spec_BoxOk_L0 N 0 v600 v601 v602 k0 k1 = none := by rw [spec_BoxOk_L0.eq]; rfl
theorem spec_BoxOk_L0.succ {α : Type} (N n : Nat) (v600 : Int) (v601 : Int) (v602 : (List (Int × Int × Unit)) × Unit) (k0 : Bool → Option α) (k1 : Option α) : spec_BoxOk_L0 N (n + 1) v600 v601 v602 k0 k1 = spec_BoxOk_L0r N (fun y0 y1 y2 => spec_BoxOk_L0 N n y0 y1 y2 k0 k1) k0 k1 v600 v601 v602 := by rw [spec_BoxOk_L0.eq]; rfl
/-- loop.example/pinfold/spec.BoxOk -/
noncomputable def spec_BoxOk.b {α : Type} (N : Nat) (a594 : Int) (a595 : (List (Int × Int × Unit)) × Unit) (k0 : Bool → Option α) : Option α :=
  let x596 := ((a595.1.length : Nat) : Int)
  let x597 := (decide (x596 < (1 : Int)))
  bif x597 then
    k0 false
  else
    let x598 := ((a595.1.length : Nat) : Int)
    let x599 := (decide ((6 : Int) < x598))
    bif x599 then
      k0 false
    else
      spec_BoxOk_L0 N N a594 (0 : Int) a595
        (fun x609 =>
          k0 x609)
        (
          k0 true)
theorem spec_BoxOk.ex : ∃ f : ((α : Type) → Nat → Int → ((List (Int × Int × Unit)) × Unit) → (Bool → Option α) → Option α), f = fun α => @spec_BoxOk.b α := ⟨_, rfl⟩
noncomputable def spec_BoxOk {α : Type} : Nat → Int → ((List (Int × Int × Unit)) × Unit) → (Bool → Option α) → Option α := Classical.choose spec_BoxOk.ex α
theorem spec_BoxOk.eq : @spec_BoxOk = @spec_BoxOk.b := funext fun α => congrFun (Classical.choose_spec spec_BoxOk.ex) α

/-- loop.example/pinfold/impl.PairIs -/
noncomputable def impl_PairIs.b {α : Type} (N : Nat) (a631 : Int × Int × Unit) (a632 : Int × Int × Unit) (k0 : Bool → Option α) : Option α :=
  let x633 := decide (a632.1 ≤ a631.1)
  bif x633 then
    let x634 := decide (a631.2.1 ≤ a632.2.1)
    k0 x634
  else
    k0 false
theorem impl_PairIs.ex : ∃ f : ((α : Type) → Nat → (Int × Int × Unit) → (Int × Int × Unit) → (Bool → Option α) → Option α), f = fun α => @impl_PairIs.b α := ⟨_, rfl⟩
noncomputable def impl_PairIs {α : Type} : Nat → (Int × Int × Unit) → (Int × Int × Unit) → (Bool → Option α) → Option α := Classical.choose impl_PairIs.ex α
theorem impl_PairIs.eq : @impl_PairIs = @impl_PairIs.b := funext fun α => congrFun (Classical.choose_spec impl_PairIs.ex) α

noncomputable def slices_EqualFunc_impl_Pair_impl_Pair_impl_Pair_impl_Pair__impl_PairIs_L0r {α : Type} (N : Nat) (next : List (Int × Int × Unit) → List (Int × Int × Unit) → Int → Int → Option α) (k0 : Bool → Option α) (k1 : Option α) (v624 : List (Int × Int × Unit)) (v625 : List (Int × Int × Unit)) (v626 : Int) (v627 : Int) : Option α :=
  let x628 := decide (v627 < v626)
  bif x628 then
    bif (decide (v627 < (0 : Int))) then
      none
    else
      match v625[v627.toNat]? with
      | some x629 =>
        bif (decide (v627 < (0 : Int))) then
          none
        else
          match v624[v627.toNat]? with
          | some x630 =>
            impl_PairIs N x629 x630
              (fun x635 =>
                let x636 := !x635
                bif x636 then
                  k0 false
                else
                  let x637 := (IntKind.i64.wrap (v627 + (1 : Int)))
                  next v624 v625 v626 x637)
          | none => none
      | none => none
  else
    k1
noncomputable def slices_EqualFunc_impl_Pair_impl_Pair_impl_Pair_impl_Pair__impl_PairIs_L0.b {α : Type} (N n : Nat) (v624 : List (Int × Int × Unit)) (v625 : List (Int × Int × Unit)) (v626 : Int) (v627 : Int) (k0 : Bool → Option α) (k1 : Option α) : Option α :=
  Nat.rec (motive := fun _ => List (Int × Int × Unit) → List (Int × Int × Unit) → Int → Int → Option α) (fun _ _ _ _ => none) (fun _ next => slices_EqualFunc_impl_Pair_impl_Pair_impl_Pair_impl_Pair__impl_PairIs_L0r N next k0 k1) n v624 v625 v626 v627
theorem slices_EqualFunc_impl_Pair_impl_Pair_impl_Pair_impl_Pair__impl_PairIs_L0.ex : ∃ f : ((α : Type) → Nat → Nat → List (Int × Int × Unit) → List (Int × Int × Unit) → Int → Int → (Bool → Option α) → (Option α) → Option α), f = fun α => @slices_EqualFunc_impl_Pair_impl_Pair_impl_Pair_impl_Pair__impl_PairIs_L0.b α := ⟨_, rfl⟩
noncomputable def slices_EqualFunc_impl_Pair_impl_Pair_impl_Pair_impl_Pair__impl_PairIs_L0 {α : Type} : Nat → Nat → List (Int × Int × Unit) → List (Int × Int × Unit) → Int → Int → (Bool → Option α) → (Option α) → Option α := Classical.choose slices_EqualFunc_impl_Pair_impl_Pair_impl_Pair_impl_Pair__impl_PairIs_L0.ex α
theorem slices_EqualFunc_impl_Pair_impl_Pair_impl_Pair_impl_Pair__impl_PairIs_L0.eq : @slices_EqualFunc_impl_Pair_impl_Pair_impl_Pair_impl_Pair__impl_PairIs_L0 = @slices_EqualFunc_impl_Pair_impl_Pair_impl_Pair_impl_Pair__impl_PairIs_L0.b := funext fun α => congrFun (Classical.choose_spec slices_EqualFunc_impl_Pair_impl_Pair_impl_Pair_impl_Pair__impl_PairIs_L0.ex) α
theorem slices_EqualFunc_impl_Pair_impl_Pair_impl_Pair_impl_Pair__impl_PairIs_L0.zero {α : Type} (N : Nat) (v624 : List (Int × Int × Unit)) (v625 : List (Int × Int × Unit)) (v626 : Int) (v627 : Int) (k0 : Bool → Option α) (k1 : Option α) : slices_EqualFunc_impl_Pair_impl_Pair_impl_Pair_impl_Pair__impl_PairIs_L0 N 0 v624 v625 v626 v627 k0 k1 = none := by rw [slices_EqualFunc_impl_Pair_impl_Pair_impl_Pair_impl_Pair__impl_PairIs_L0.eq]; rfl
theorem slices_EqualFunc_impl_Pair_impl_Pair_impl_Pair_impl_Pair__impl_PairIs_L0.succ {α : Type} (N n : Nat) (v624 : List (Int × Int × Unit)) (v625 : List (Int × Int × Unit)) (v626 : Int) (v627 : Int) (k0 : Bool → Option α) (k1 : Option α) : slices_EqualFunc_impl_Pair_impl_Pair_impl_Pair_impl_Pair__impl_PairIs_L0 N (n + 1) v624 v625 v626 v627 k0 k1 = slices_EqualFunc_impl_Pair_impl_Pair_impl_Pair_impl_Pair__impl_PairIs_L0r N (fun y0 y1 y2 y3 => slices_EqualFunc_impl_Pair_impl_Pair_impl_Pair_impl_Pair__impl_PairIs_L0 N n y0 y1 y2 y3 k0 k1) k0 k1 v624 v625 v626 v627 := by rw [slices_EqualFunc_impl_Pair_impl_Pair_impl_Pair_impl_Pair__impl_PairIs_L0.eq]; rfl
/-- slices.EqualFunc[[]loop.example/pinfold/impl.Pair,[]loop.example/pinfold/impl.Pair,loop.example/pinfold/impl.Pair,loop.example/pinfold/impl.Pair] -/
noncomputable def slices_EqualFunc_impl_Pair_impl_Pair_impl_Pair_impl_Pair__impl_PairIs.b {α : Type} (N : Nat) (a618 : List (Int × Int × Unit)) (a619 : List (Int × Int × Unit)) (k0 : Bool → Option α) : Option α :=
  let x620 := ((a618.length : Nat) : Int)
  let x621 := ((a619.length : Nat) : Int)
  let x622 := !(decide (x620 = x621))
  bif x622 then
    k0 false
  else
    let x623 := ((a618.length : Nat) : Int)
    slices_EqualFunc_impl_Pair_impl_Pair_impl_Pair_impl_Pair__impl_PairIs_L0 N N a619 a618 x623 (0 : Int)
      (fun x638 =>
        k0 x638)
      (
        k0 true)
theorem slices_EqualFunc_impl_Pair_impl_Pair_impl_Pair_impl_Pair__impl_PairIs.ex : ∃ f : ((α : Type) → Nat → List (Int × Int × Unit) → List (Int × Int × Unit) → (Bool → Option α) → Option α), f = fun α => @slices_EqualFunc_impl_Pair_impl_Pair_impl_Pair_impl_Pair__impl_PairIs.b α := ⟨_, rfl⟩
noncomputable def slices_EqualFunc_impl_Pair_impl_Pair_impl_Pair_impl_Pair__impl_PairIs {α : Type} : Nat → List (Int × Int × Unit) → List (Int × Int × Unit) → (Bool → Option α) → Option α := Classical.choose slices_EqualFunc_impl_Pair_impl_Pair_impl_Pair_impl_Pair__impl_PairIs.ex α
theorem slices_EqualFunc_impl_Pair_impl_Pair_impl_Pair_impl_Pair__impl_PairIs.eq : @slices_EqualFunc_impl_Pair_impl_Pair_impl_Pair_impl_Pair__impl_PairIs = @slices_EqualFunc_impl_Pair_impl_Pair_impl_Pair_impl_Pair__impl_PairIs.b := funext fun α => congrFun (Classical.choose_spec slices_EqualFunc_impl_Pair_impl_Pair_impl_Pair_impl_Pair__impl_PairIs.ex) α

/-- loop.example/pinfold/impl.BoxIs -/
noncomputable def impl_BoxIs.b {α : Type} (N : Nat) (a616 : (List (Int × Int × Unit)) × Unit) (a617 : (List (Int × Int × Unit)) × Unit) (k0 : Bool → Option α) : Option α :=
  slices_EqualFunc_impl_Pair_impl_Pair_impl_Pair_impl_Pair__impl_PairIs N a616.1 a617.1
    (fun x639 =>
      k0 x639)
theorem impl_BoxIs.ex : ∃ f : ((α : Type) → Nat → ((List (Int × Int × Unit)) × Unit) → ((List (Int × Int × Unit)) × Unit) → (Bool → Option α) → Option α), f = fun α => @impl_BoxIs.b α := ⟨_, rfl⟩
noncomputable def impl_BoxIs {α : Type} : Nat → ((List (Int × Int × Unit)) × Unit) → ((List (Int × Int × Unit)) × Unit) → (Bool → Option α) → Option α := Classical.choose impl_BoxIs.ex α
theorem impl_BoxIs.eq : @impl_BoxIs = @impl_BoxIs.b := funext fun α => congrFun (Classical.choose_spec impl_BoxIs.ex) α

/-- loop.example/pinfold/spec.BitBits -/
noncomputable def spec_BitBits.b {α : Type} (N : Nat) (a666 : Int) (a667 : Int) (k0 : Int → Option α) : Option α :=
  spec_BitOk N a666 a667
    (fun x668 =>
      let x669 := !x668
      bif x669 then
        k0 (0 : Int)
      else
        let x670 := (decide (a667 < (0 : Int)))
        bif x670 then
          let x671 := (IntKind.i64.wrap (a666 - (1 : Int)))
          let x672 := IntKind.u64.wrap x671
          bif (decide (x672 < (0 : Int))) then
            none
          else
            let x673 := (shlI .u64 (1 : Int) x672)
            let x674 := IntKind.i64.wrap (0 - a667)
            let x675 := IntKind.u64.wrap x674
            let x676 := IntKind.u64.wrap (x673 + x675)
            k0 x676
        else
          let x677 := IntKind.u64.wrap a667
          k0 x677)
theorem spec_BitBits.ex : ∃ f : ((α : Type) → Nat → Int → Int → (Int → Option α) → Option α), f = fun α => @spec_BitBits.b α := ⟨_, rfl⟩
noncomputable def spec_BitBits {α : Type} : Nat → Int → Int → (Int → Option α) → Option α := Classical.choose spec_BitBits.ex α
theorem spec_BitBits.eq : @spec_BitBits = @spec_BitBits.b := funext fun α => congrFun (Classical.choose_spec spec_BitBits.ex) α

noncomputable def spec_BoxBits_L0r {α : Type} (N : Nat) (next : Int → Int → ((List (Int × Int × Unit)) × Unit) → List Int → Option α) (k0 : List Int → Option α) (v659 : Int) (v660 : Int) (v661 : (List (Int × Int × Unit)) × Unit) (v662 : List Int) : Option α :=
  let x663 := ((v661.1.length : Nat) : Int)
  let x664 := decide (v660 < x663)
  bif x664 then
    bif (decide (v660 < (0 : Int))) then
      none
    else
      match v661.1[v660.toNat]? with
      | some x665 =>
        spec_BitBits N v659 x665.1
          (fun x678 =>
            bif (decide (v660 < (0 : Int))) then
              none
            else
              match v661.1[v660.toNat]? with
              | some x679 =>
                spec_BitBits N v659 x679.2.1
                  (fun x680 =>
                    let x681 := [x678, x680]
                    bif decide (v662.length + x681.length ≤ 8796093022208) then
                      let x682 := v662 ++ x681
                      let x683 := (IntKind.i64.wrap (v660 + (1 : Int)))
                      next v659 x683 v661 x682
                    else
                      none)
              | none => none)
      | none => none
  else
    k0 v662
noncomputable def spec_BoxBits_L0.b {α : Type} (N n : Nat) (v659 : Int) (v660 : Int) (v661 : (List (Int × Int × Unit)) × Unit) (v662 : List Int) (k0 : List Int → Option α) : Option α :=
  Nat.rec (motive := fun _ => Int → Int → ((List (Int × Int × Unit)) × Unit) → List Int → Option α) (fun _ _ _ _ => none) (fun _ next => spec_BoxBits_L0r N next k0) n v659 v660 v661 v662
theorem spec_BoxBits_L0.ex : ∃ f : ((α : Type) → Nat → Nat → Int → Int → ((List (Int × Int × Unit)) × Unit) → List Int → (List Int → Option α) → Option α), f = fun α => @spec_BoxBits_L0.b α := ⟨_, rfl⟩
noncomputable def spec_BoxBits_L0 {α : Type} : Nat → Nat → Int → Int → ((List (Int × Int × Unit)) × Unit) → List Int → (List Int → Option α) → Option α := Classical.choose spec_BoxBits_L0.ex α
theorem spec_BoxBits_L0.eq : @spec_BoxBits_L0 = @spec_BoxBits_L0.b := funext fun α => congrFun (Classical.choose_spec spec_BoxBits_L0.ex) α
theorem spec_BoxBits_L0.zero {α : Type} (N : Nat) (v659 : Int) (v660 : Int) (v661 : (List (Int × Int × Unit)) × Unit) (v662 : List Int) (k0 : List Int → Option α) : spec_BoxBits_L0 N 0 v659 v660 v661 v662 k0 = none := by rw [spec_BoxBits_L0.eq]; rfl
theorem spec_BoxBits_L0.succ {α : Type} (N n : Nat) (v659 : Int) (v660 : Int) (v661 : (List (Int × Int × Unit)) × Unit) (v662 : List Int) (k0 : List Int → Option α) : spec_BoxBits_L0 N (n + 1) v659 v660 v661 v662 k0 = spec_BoxBits_L0r N (fun y0 y1 y2 y3 => spec_BoxBits_L0 N n y0 y1 y2 y3 k0) k0 v659 v660 v661 v662 := by rw [spec_BoxBits_L0.eq]; rfl
/-- loop.example/pinfold/spec.BoxBits -/
noncomputable def spec_BoxBits.b {α : Type} (N : Nat) (a655 : Int) (a656 : (List (Int × Int × Unit)) × Unit) (k0 : List Int → Option α) : Option α :=
  spec_BoxOk N a655 a656
    (fun x657 =>
      let x658 := !x657
      bif x658 then
        k0 []
      else
        spec_BoxBits_L0 N N a655 (0 : Int) a656 []
          (fun x684 =>
            k0 x684))
theorem spec_BoxBits.ex : ∃ f : ((α : Type) → Nat → Int → ((List (Int × Int × Unit)) × Unit) → (List Int → Option α) → Option α), f = fun α => @spec_BoxBits.b α := ⟨_, rfl⟩
noncomputable def spec_BoxBits {α : Type} : Nat → Int → ((List (Int × Int × Unit)) × Unit) → (List Int → Option α) → Option α := Classical.choose spec_BoxBits.ex α
theorem spec_BoxBits.eq : @spec_BoxBits = @spec_BoxBits.b := funext fun α => congrFun (Classical.choose_spec spec_BoxBits.ex) α

noncomputable def spec_DrawBoxOf_J4.b {α : Type} (N : Nat) (v686 : Int) (v687 : (List Int) × Int × Unit) (v688 : List Int) (k0 : Int → ((List Int) × Int × Unit) → List Int → Option α) : Option α :=
  let x689 := ((v688.length : Nat) : Int)
  let x690 := (decide ((0 : Int) < x689))
  bif x690 then
    spec_l31Rd_pick N (6 : Int) v687
      (fun x691 x692 =>
        let x693 := (decide (x691 = (0 : Int)))
        bif x693 then
          let x694 := ((v688.length : Nat) : Int)
          spec_l31Rd_pick N x694 x692
            (fun x695 x696 =>
              spec_l31Rd_big N x696
                (fun x697 x698 =>
                  bif (decide (x695 < (0 : Int))) then
                    none
                  else
                    bif decide (x695.toNat < v688.length) then
                      match v688[x695.toNat]? with
                      | some x699 =>
                        let x700 := v688.set x695.toNat x697
                        k0 v686 x698 x700
                      | none => none
                    else
                      none))
        else
          k0 v686 x692 v688)
  else
    k0 v686 v687 v688
theorem spec_DrawBoxOf_J4.ex : ∃ f : ((α : Type) → Nat → Int → ((List Int) × Int × Unit) → List Int → (Int → ((List Int) × Int × Unit) → List Int → Option α) → Option α), f = fun α => @spec_DrawBoxOf_J4.b α := ⟨_, rfl⟩
noncomputable def spec_DrawBoxOf_J4 {α : Type} : Nat → Int → ((List Int) × Int × Unit) → List Int → (Int → ((List Int) × Int × Unit) → List Int → Option α) → Option α := Classical.choose spec_DrawBoxOf_J4.ex α
theorem spec_DrawBoxOf_J4.eq : @spec_DrawBoxOf_J4 = @spec_DrawBoxOf_J4.b := funext fun α => congrFun (Classical.choose_spec spec_DrawBoxOf_J4.ex) α
noncomputable def spec_DrawBoxOf_J6.b {α : Type} (N : Nat) (v704 : Int) (v705 : (List Int) × Int × Unit) (v706 : List Int) (k0 : Int → ((List Int) × Int × Unit) → List Int → Option α) : Option α :=
  let x707 := ((v706.length : Nat) : Int)
  let x708 := (decide ((0 : Int) < x707))
  bif x708 then
    spec_l31Rd_pick N (8 : Int) v705
      (fun x709 x710 =>
        let x711 := (decide (x709 = (0 : Int)))
        bif x711 then
          let x712 := ((v706.length : Nat) : Int)
          spec_l31Rd_pick N x712 x710
            (fun x713 x714 =>
              bif (decide (x713 < (0 : Int))) then
                none
              else
                bif decide (x713.toNat < v706.length) then
                  match v706[x713.toNat]? with
                  | some x715 =>
                    spec_l31Rd_pick N (64 : Int) x714
                      (fun x716 x717 =>
                        let x718 := IntKind.u64.wrap x716
                        bif (decide (x718 < (0 : Int))) then
                          none
                        else
                          let x719 := (shlI .u64 (1 : Int) x718)
                          let x720 := IntKind.u64.wrap (x715 + x719)
                          bif (decide (x713 < (0 : Int))) then
                            none
                          else
                            bif decide (x713.toNat < v706.length) then
                              match v706[x713.toNat]? with
                              | some x721 =>
                                let x722 := v706.set x713.toNat x720
                                k0 v704 x717 x722
                              | none => none
                            else
                              none)
                  | none => none
                else
                  none)
        else
          k0 v704 x710 v706)
  else
    k0 v704 v705 v706
theorem spec_DrawBoxOf_J6.ex : ∃ f : ((α : Type) → Nat → Int → ((List Int) × Int × Unit) → List Int → (Int → ((List Int) × Int × Unit) → List Int → Option α) → Option α), f = fun α => @spec_DrawBoxOf_J6.b α := ⟨_, rfl⟩
noncomputable def spec_DrawBoxOf_J6 {α : Type} : Nat → Int → ((List Int) × Int × Unit) → List Int → (Int → ((List Int) × Int × Unit) → List Int → Option α) → Option α := Classical.choose spec_DrawBoxOf_J6.ex α
theorem spec_DrawBoxOf_J6.eq : @spec_DrawBoxOf_J6 = @spec_DrawBoxOf_J6.b := funext fun α => congrFun (Classical.choose_spec spec_DrawBoxOf_J6.ex) α
noncomputable def spec_DrawBoxOf_J9.b {α : Type} (N : Nat) (v726 : Int) (v727 : (List Int) × Int × Unit) (v728 : List Int) (k0 : Int → List Int → Option α) : Option α :=
  spec_l31Rd_pick N (20 : Int) v727
    (fun x729 _ =>
      let x731 := (decide (x729 = (0 : Int)))
      bif x731 then
        let x732 := [(0 : Int)]
        bif decide (v728.length + x732.length ≤ 8796093022208) then
          let x733 := v728 ++ x732
          k0 v726 x733
        else
          none
      else
        k0 v726 v728)
theorem spec_DrawBoxOf_J9.ex : ∃ f : ((α : Type) → Nat → Int → ((List Int) × Int × Unit) → List Int → (Int → List Int → Option α) → Option α), f = fun α => @spec_DrawBoxOf_J9.b α := ⟨_, rfl⟩
noncomputable def spec_DrawBoxOf_J9 {α : Type} : Nat → Int → ((List Int) × Int × Unit) → List Int → (Int → List Int → Option α) → Option α := Classical.choose spec_DrawBoxOf_J9.ex α
theorem spec_DrawBoxOf_J9.eq : @spec_DrawBoxOf_J9 = @spec_DrawBoxOf_J9.b := funext fun α => congrFun (Classical.choose_spec spec_DrawBoxOf_J9.ex) α
/-- loop.example/pinfold/spec.DrawBoxOf -/
noncomputable def spec_DrawBoxOf.b {α : Type} (N : Nat) (a649 : List Int) (k0 : Int → List Int → Option α) : Option α :=
  spec_l31Open N a649
    (fun x650 =>
      spec_l31Rd_width N x650
        (fun x651 x652 =>
          spec_l31Rd_box N x651 x652
            (fun x653 x654 =>
              spec_BoxBits N x651 (x654, ())
                (fun x685 =>
                  spec_DrawBoxOf_J4 N x651 x653 x685
                    (fun x701 x702 x703 =>
                      spec_DrawBoxOf_J6 N x701 x702 x703
                        (fun x723 x724 x725 =>
                          spec_DrawBoxOf_J9 N x723 x724 x725
                            (fun x734 x735 =>
                              k0 x734 x735)))))))
theorem spec_DrawBoxOf.ex : ∃ f : ((α : Type) → Nat → List Int → (Int → List Int → Option α) → Option α), f = fun α => @spec_DrawBoxOf.b α := ⟨_, rfl⟩
noncomputable def spec_DrawBoxOf {α : Type} : Nat → List Int → (Int → List Int → Option α) → Option α := Classical.choose spec_DrawBoxOf.ex α
theorem spec_DrawBoxOf.eq : @spec_DrawBoxOf = @spec_DrawBoxOf.b := funext fun α => congrFun (Classical.choose_spec spec_DrawBoxOf.ex) α

/-- loop.example/pinfold/spec.BitOrd -/
noncomputable def spec_BitOrd.b {α : Type} (N : Nat) (a759 : Int) (a760 : Int) (k0 : Int → Bool → Option α) : Option α :=
  spec_l1Width N a759
    (fun x761 =>
      let x762 := !x761
      bif x762 then
        k0 (0 : Int) false
      else
        let x763 := (decide (a759 = (32 : Int)))
        bif x763 then
          let x764 := (shrI .u64 a760 (32 : Int))
          let x765 := (decide ((0 : Int) < x764))
          bif x765 then
            k0 (0 : Int) false
          else
            let x766 := (IntKind.i64.wrap (a759 - (1 : Int)))
            let x767 := IntKind.u64.wrap x766
            bif (decide (x767 < (0 : Int))) then
              none
            else
              let x768 := (shlI .u64 (1 : Int) x767)
              bif (decide (x768 = (0 : Int))) then
                none
              else
                let x769 := Int.tmod a760 x768
                spec_BitTop N a759
                  (fun x770 =>
                    let x771 := IntKind.u64.wrap x770
                    let x772 := decide (x771 < x769)
                    bif x772 then
                      k0 (0 : Int) false
                    else
                      let x773 := decide (x768 ≤ a760)
                      bif x773 then
                        let x774 := IntKind.i64.wrap x769
                        let x775 := IntKind.i64.wrap (0 - x774)
                        k0 x775 true
                      else
                        let x776 := IntKind.i64.wrap x769
                        k0 x776 true)
        else
          let x777 := (IntKind.i64.wrap (a759 - (1 : Int)))
          let x778 := IntKind.u64.wrap x777
          bif (decide (x778 < (0 : Int))) then
            none
          else
            let x779 := (shlI .u64 (1 : Int) x778)
            bif (decide (x779 = (0 : Int))) then
              none
            else
              let x780 := Int.tmod a760 x779
              spec_BitTop N a759
                (fun x781 =>
                  let x782 := IntKind.u64.wrap x781
                  let x783 := decide (x782 < x780)
                  bif x783 then
                    k0 (0 : Int) false
                  else
                    let x784 := decide (x779 ≤ a760)
                    bif x784 then
                      let x785 := IntKind.i64.wrap x780
                      let x786 := IntKind.i64.wrap (0 - x785)
                      k0 x786 true
                    else
                      let x787 := IntKind.i64.wrap x780
                      k0 x787 true))
theorem spec_BitOrd.ex : ∃ f : ((α : Type) → Nat → Int → Int → (Int → Bool → Option α) → Option α), f = fun α => @spec_BitOrd.b α := ⟨_, rfl⟩
noncomputable def spec_BitOrd {α : Type} : Nat → Int → Int → (Int → Bool → Option α) → Option α := Classical.choose spec_BitOrd.ex α
theorem spec_BitOrd.eq : @spec_BitOrd = @spec_BitOrd.b := funext fun α => congrFun (Classical.choose_spec spec_BitOrd.ex) α

noncomputable def spec_BoxOf_L0r {α : Type} (N : Nat) (next : Int → List Int → Int → List (Int × Int × Unit) → List (Int × Int × Unit) → Option α) (k0 : Int → List (Int × Int × Unit) → Option α) (k1 : Int → List (Int × Int × Unit) → List (Int × Int × Unit) → Option α) (v751 : Int) (v752 : List Int) (v753 : Int) (v754 : List (Int × Int × Unit)) (v755 : List (Int × Int × Unit)) : Option α :=
  let x756 := ((v752.length : Nat) : Int)
  let x757 := decide (v753 < x756)
  bif x757 then
    bif (decide (v753 < (0 : Int))) then
      none
    else
      match v752[v753.toNat]? with
      | some x758 =>
        spec_BitOrd N v751 x758
          (fun x788 x789 =>
            let x790 := (IntKind.i64.wrap (v753 + (1 : Int)))
            bif (decide (x790 < (0 : Int))) then
              none
            else
              match v752[x790.toNat]? with
              | some x791 =>
                spec_BitOrd N v751 x791
                  (fun x792 x793 =>
                    let x794 := !x789
                    bif x794 then
                      k0 (2 : Int) []
                    else
                      let x795 := !x793
                      bif x795 then
                        k0 (2 : Int) []
                      else
                        let x796 := [(x788, (x792, ()))]
                        bif decide (v755.length + x796.length ≤ 8796093022208) then
                          let x797 := v755 ++ x796
                          let x798 := (IntKind.i64.wrap (v753 + (2 : Int)))
                          next v751 v752 x798 v754 x797
                        else
                          none)
              | none => none)
      | none => none
  else
    k1 v751 v754 v755
noncomputable def spec_BoxOf_L0.b {α : Type} (N n : Nat) (v751 : Int) (v752 : List Int) (v753 : Int) (v754 : List (Int × Int × Unit)) (v755 : List (Int × Int × Unit)) (k0 : Int → List (Int × Int × Unit) → Option α) (k1 : Int → List (Int × Int × Unit) → List (Int × Int × Unit) → Option α) : Option α :=
  Nat.rec (motive := fun _ => Int → List Int → Int → List (Int × Int × Unit) → List (Int × Int × Unit) → Option α) (fun _ _ _ _ _ => none) (fun _ next => spec_BoxOf_L0r N next k0 k1) n v751 v752 v753 v754 v755
theorem spec_BoxOf_L0.ex : ∃ f : ((α : Type) → Nat → Nat → Int → List Int → Int → List (Int × Int × Unit) → List (Int × Int × Unit) → (Int → List (Int × Int × Unit) → Option α) → (Int → List (Int × Int × Unit) → List (Int × Int × Unit) → Option α) → Option α), f = fun α => @spec_BoxOf_L0.b α := ⟨_, rfl⟩
noncomputable def spec_BoxOf_L0 {α : Type} : Nat → Nat → Int → List Int → Int → List (Int × Int × Unit) → List (Int × Int × Unit) → (Int → List (Int × Int × Unit) → Option α) → (Int → List (Int × Int × Unit) → List (Int × Int × Unit) → Option α) → Option α := Classical.choose spec_BoxOf_L0.ex α
theorem spec_BoxOf_L0.eq : @spec_BoxOf_L0 = @spec_BoxOf_L0.b := funext fun α => congrFun (Classical.choose_spec spec_BoxOf_L0.ex) α
theorem spec_BoxOf_L0.zero {α : Type} (N : Nat) (v751 : Int) (v752 : List Int) (v753 : Int) (v754 : List (Int × Int × Unit)) (v755 : List (Int × Int × Unit)) (k0 : Int → List (Int × Int × Unit) → Option α) (k1 : Int → List (Int × Int × Unit) → List (Int × Int × Unit) → Option α) : spec_BoxOf_L0 N 0 v751 v752 v753 v754 v755 k0 k1 = none := by rw [spec_BoxOf_L0.eq]; rfl
theorem spec_BoxOf_L0.succ {α : Type} (N n : Nat) (v751 : Int) (v752 : List Int) (v753 : Int) (v754 : List (Int × Int × Unit)) (v755 : List (Int × Int × Unit)) (k0 : Int → List (Int × Int × Unit) → Option α) (k1 : Int → List (Int × Int × Unit) → List (Int × Int × Unit) → Option α) : spec_BoxOf_L0 N (n + 1) v751 v752 v753 v754 v755 k0 k1 = spec_BoxOf_L0r N (fun y0 y1 y2 y3 y4 => spec_BoxOf_L0 N n y0 y1 y2 y3 y4 k0 k1) k0 k1 v751 v752 v753 v754 v755 := by rw [spec_BoxOf_L0.eq]; rfl
/-- loop.example/pinfold/spec.BoxOf -/
noncomputable def spec_BoxOf.b {α : Type} (N : Nat) (a740 : Int) (a741 : List Int) (k0 : Int → List (Int × Int × Unit) → Option α) : Option α :=
  spec_l1Width N a740
    (fun x742 =>
      let x743 := !x742
      bif x743 then
        k0 (1 : Int) []
      else
        let x744 := ((a741.length : Nat) : Int)
        let x745 := (decide (x744 < (2 : Int)))
        bif x745 then
          k0 (1 : Int) []
        else
          let x746 := ((a741.length : Nat) : Int)
          let x747 := (decide ((12 : Int) < x746))
          bif x747 then
            k0 (1 : Int) []
          else
            let x748 := ((a741.length : Nat) : Int)
            let x749 := (Int.tmod x748 (2 : Int))
            let x750 := (decide (x749 = (1 : Int)))
            bif x750 then
              k0 (1 : Int) []
            else
              spec_BoxOf_L0 N N a740 a741 (0 : Int) [] []
                (fun x799 x800 =>
                  k0 x799 x800)
                (fun x801 _ x803 =>
                  spec_BoxOk N x801 (x803, ())
                    (fun x804 =>
                      let x805 := !x804
                      bif x805 then
                        k0 (3 : Int) []
                      else
                        k0 (0 : Int) x803)))
theorem spec_BoxOf.ex : ∃ f : ((α : Type) → Nat → Int → List Int → (Int → List (Int × Int × Unit) → Option α) → Option α), f = fun α => @spec_BoxOf.b α := ⟨_, rfl⟩
noncomputable def spec_BoxOf {α : Type} : Nat → Int → List Int → (Int → List (Int × Int × Unit) → Option α) → Option α := Classical.choose spec_BoxOf.ex α
theorem spec_BoxOf.eq : @spec_BoxOf = @spec_BoxOf.b := funext fun α => congrFun (Classical.choose_spec spec_BoxOf.ex) α

noncomputable def laws_FnBoxBits_J6.b {α : Type} (N : Nat) (v588 : List Int) (v589 : Int) (v590 : Int) (v591 : List Int) (v592 : List (Int × Int × Unit)) (v593 : List (Int × Int × Unit)) (k0 : Bool → Option α) (k1 : List Int → Option α) : Option α :=
  spec_BoxOk N v589 (v592, ())
    (fun x610 =>
      bif x610 then
        let x611 := (!(decide (v590 = (0 : Int))))
        bif x611 then
          k0 false
        else
          let x612 := ((v591.length : Nat) : Int)
          let x613 := ((v592.length : Nat) : Int)
          let x614 := (IntKind.i64.wrap ((2 : Int) * x613))
          let x615 := !(decide (x612 = x614))
          bif x615 then
            k0 false
          else
            impl_BoxIs N (v592, ()) (v593, ())
              (fun x640 =>
                let x641 := !x640
                bif x641 then
                  k0 false
                else
                  impl_BoxIs N (v593, ()) (v592, ())
                    (fun x642 =>
                      let x643 := !x642
                      bif x643 then
                        k0 false
                      else
                        k1 v588))
      else
        let x644 := ((v591.length : Nat) : Int)
        let x645 := (!(decide (x644 = (0 : Int))))
        bif x645 then
          k0 false
        else
          let x646 := (!(decide (v590 = (1 : Int))))
          bif x646 then
            k0 false
          else
            k1 v588)
theorem laws_FnBoxBits_J6.ex : ∃ f : ((α : Type) → Nat → List Int → Int → Int → List Int → List (Int × Int × Unit) → List (Int × Int × Unit) → (Bool → Option α) → (List Int → Option α) → Option α), f = fun α => @laws_FnBoxBits_J6.b α := ⟨_, rfl⟩
noncomputable def laws_FnBoxBits_J6 {α : Type} : Nat → List Int → Int → Int → List Int → List (Int × Int × Unit) → List (Int × Int × Unit) → (Bool → Option α) → (List Int → Option α) → Option α := Classical.choose laws_FnBoxBits_J6.ex α
theorem laws_FnBoxBits_J6.eq : @laws_FnBoxBits_J6 = @laws_FnBoxBits_J6.b := funext fun α => congrFun (Classical.choose_spec laws_FnBoxBits_J6.ex) α
noncomputable def laws_FnBoxBits_L0r {α : Type} (N : Nat) (next : Int → Int → List Int → List (Int × Int × Unit) → Option α) (k0 : Bool → Option α) (k1 : Option α) (v812 : Int) (v813 : Int) (v814 : List Int) (v815 : List (Int × Int × Unit)) : Option α :=
  let x816 := ((v814.length : Nat) : Int)
  let x817 := decide (v813 < x816)
  bif x817 then
    bif (decide (v813 < (0 : Int))) then
      none
    else
      bif decide (v813.toNat < v814.length) then
        match v814[v813.toNat]? with
        | some x818 =>
          impl_BitOrd N v812 x818
            (fun x819 x820 =>
              let x821 := (IntKind.i64.wrap (Int.tdiv v813 (2 : Int)))
              bif (decide (x821 < (0 : Int))) then
                none
              else
                bif decide (x821.toNat < v815.length) then
                  match v815[x821.toNat]? with
                  | some x822 =>
                    let x823 := !x820
                    bif x823 then
                      k0 false
                    else
                      let x824 := (Int.tmod v813 (2 : Int))
                      let x825 := (decide (x824 = (0 : Int)))
                      bif x825 then
                        let x826 := !(decide (x822.1 = x819))
                        bif x826 then
                          k0 false
                        else
                          let x827 := (Int.tmod v813 (2 : Int))
                          let x828 := (decide (x827 = (1 : Int)))
                          bif x828 then
                            let x829 := !(decide (x822.2.1 = x819))
                            bif x829 then
                              k0 false
                            else
                              let x830 := (IntKind.i64.wrap (v813 + (1 : Int)))
                              next v812 x830 v814 v815
                          else
                            let x831 := (IntKind.i64.wrap (v813 + (1 : Int)))
                            next v812 x831 v814 v815
                      else
                        let x832 := (Int.tmod v813 (2 : Int))
                        let x833 := (decide (x832 = (1 : Int)))
                        bif x833 then
                          let x834 := !(decide (x822.2.1 = x819))
                          bif x834 then
                            k0 false
                          else
                            let x835 := (IntKind.i64.wrap (v813 + (1 : Int)))
                            next v812 x835 v814 v815
                        else
                          let x836 := (IntKind.i64.wrap (v813 + (1 : Int)))
                          next v812 x836 v814 v815
                  | none => none
                else
                  none)
        | none => none
      else
        none
  else
    k1
noncomputable def laws_FnBoxBits_L0.b {α : Type} (N n : Nat) (v812 : Int) (v813 : Int) (v814 : List Int) (v815 : List (Int × Int × Unit)) (k0 : Bool → Option α) (k1 : Option α) : Option α :=
  Nat.rec (motive := fun _ => Int → Int → List Int → List (Int × Int × Unit) → Option α) (fun _ _ _ _ => none) (fun _ next => laws_FnBoxBits_L0r N next k0 k1) n v812 v813 v814 v815
theorem laws_FnBoxBits_L0.ex : ∃ f : ((α : Type) → Nat → Nat → Int → Int → List Int → List (Int × Int × Unit) → (Bool → Option α) → (Option α) → Option α), f = fun α => @laws_FnBoxBits_L0.b α := ⟨_, rfl⟩
noncomputable def laws_FnBoxBits_L0 {α : Type} : Nat → Nat → Int → Int → List Int → List (Int × Int × Unit) → (Bool → Option α) → (Option α) → Option α := Classical.choose laws_FnBoxBits_L0.ex α
theorem laws_FnBoxBits_L0.eq : @laws_FnBoxBits_L0 = @laws_FnBoxBits_L0.b := funext fun α => congrFun (Classical.choose_spec laws_FnBoxBits_L0.ex) α
theorem laws_FnBoxBits_L0.zero {α : Type} (N : Nat) (v812 : Int) (v813 : Int) (v814 : List Int) (v815 : List (Int × Int × Unit)) (k0 : Bool → Option α) (k1 : Option α) : laws_FnBoxBits_L0 N 0 v812 v813 v814 v815 k0 k1 = none := by rw [laws_FnBoxBits_L0.eq]; rfl
theorem laws_FnBoxBits_L0.succ {α : Type} (N n : Nat) (v812 : Int) (v813 : Int) (v814 : List Int) (v815 : List (Int × Int × Unit)) (k0 : Bool → Option α) (k1 : Option α) : laws_FnBoxBits_L0 N (n + 1) v812 v813 v814 v815 k0 k1 = laws_FnBoxBits_L0r N (fun y0 y1 y2 y3 => laws_FnBoxBits_L0 N n y0 y1 y2 y3 k0 k1) k0 k1 v812 v813 v814 v815 := by rw [laws_FnBoxBits_L0.eq]; rfl
/-- loop.example/pinfold/laws.FnBoxBits -/
noncomputable def laws_FnBoxBits.b {α : Type} (N : Nat) (a1 : List Int) (a2 : List Int) (k0 : Bool → Option α) : Option α :=
  let x3 := ((a1.length : Nat) : Int)
  let x4 := (decide ((1048576 : Int) < x3))
  bif x4 then
    k0 true
  else
    let x5 := ((a2.length : Nat) : Int)
    let x6 := (decide ((1048576 : Int) < x5))
    bif x6 then
      k0 true
    else
      spec_DrawBoxBits N a1
        (fun x417 x418 =>
          impl_BoxBits N x417 (x418, ())
            (fun x503 =>
              impl_BoxOf N x417 x503
                (fun x586 x587 =>
                  laws_FnBoxBits_J6 N a2 x417 x586 x503 x418 x587
                    (fun x647 =>
                      k0 x647)
                    (fun x648 =>
                      spec_DrawBoxOf N x648
                        (fun x736 x737 =>
                          impl_BoxOf N x736 x737
                            (fun x738 x739 =>
                              spec_BoxOf N x736 x737
                                (fun x806 _ =>
                                  let x808 := !(decide (x738 = x806))
                                  bif x808 then
                                    k0 false
                                  else
                                    let x809 := (!(decide (x738 = (0 : Int))))
                                    bif x809 then
                                      let x810 := ((x739.length : Nat) : Int)
                                      let x811 := (decide (x810 = (0 : Int)))
                                      k0 x811
                                    else
                                      laws_FnBoxBits_L0 N N x736 (0 : Int) x737 x739
                                        (fun x837 =>
                                          k0 x837)
                                        (
                                          k0 true))))))))
theorem laws_FnBoxBits.ex : ∃ f : ((α : Type) → Nat → List Int → List Int → (Bool → Option α) → Option α), f = fun α => @laws_FnBoxBits.b α := ⟨_, rfl⟩
noncomputable def laws_FnBoxBits {α : Type} : Nat → List Int → List Int → (Bool → Option α) → Option α := Classical.choose laws_FnBoxBits.ex α
theorem laws_FnBoxBits.eq : @laws_FnBoxBits = @laws_FnBoxBits.b := funext fun α => congrFun (Classical.choose_spec laws_FnBoxBits.ex) α

end
end Go.Proofs.YtbaeipjjijdgiaaAm
