/-
  The functions that the program computes, as the abstract machine tells them. Printed by amp.py.
-/
import Derived.Test.YtaelbfbplamahaaAmb
namespace Go.Proofs.YtaelbfbplamahaaAm
open Go
noncomputable section
set_option linter.unusedVariables false
set_option linter.unusedSimpArgs false

noncomputable def spec_l31Open_J1.b {α : Type} (N : Nat) (v10 : List Int) (k0 : List Int → Option α) : Option α :=
  let x11 := ((v10.length : Nat) : Int)
  let x12 := (decide ((2000 : Int) < x11))
  bif x12 then
    bif (decide ((2000 : Int) ≤ ((v10.length : Nat) : Int))) then
      let x13 := v10.take 2000
      k0 x13
    else
      none
  else
    k0 v10
theorem spec_l31Open_J1.ex : ∃ f : ((α : Type) → Nat → List Int → (List Int → Option α) → Option α), f = fun α => @spec_l31Open_J1.b α := ⟨_, rfl⟩
noncomputable def spec_l31Open_J1 {α : Type} : Nat → List Int → (List Int → Option α) → Option α := Classical.choose spec_l31Open_J1.ex α
theorem spec_l31Open_J1.eq : @spec_l31Open_J1 = @spec_l31Open_J1.b := funext fun α => congrFun (Classical.choose_spec spec_l31Open_J1.ex) α
/-- loop.example/pinfold/spec.l31Open -/
noncomputable def spec_l31Open.b {α : Type} (N : Nat) (a9 : List Int) (k0 : ((List Int) × Int × Unit) → Option α) : Option α :=
  spec_l31Open_J1 N a9
    (fun x14 =>
      k0 (x14, ((0 : Int), ())))
theorem spec_l31Open.ex : ∃ f : ((α : Type) → Nat → List Int → (((List Int) × Int × Unit) → Option α) → Option α), f = fun α => @spec_l31Open.b α := ⟨_, rfl⟩
noncomputable def spec_l31Open {α : Type} : Nat → List Int → (((List Int) × Int × Unit) → Option α) → Option α := Classical.choose spec_l31Open.ex α
theorem spec_l31Open.eq : @spec_l31Open = @spec_l31Open.b := funext fun α => congrFun (Classical.choose_spec spec_l31Open.ex) α

/-- (*loop.example/pinfold/spec.l31Rd).pick -/
noncomputable def spec_l31Rd_pick.b {α : Type} (N : Nat) (a17 : Int) (a18 : (List Int) × Int × Unit) (k0 : Int → ((List Int) × Int × Unit) → Option α) : Option α :=
  let x19 := (IntKind.i64.wrap (a18.2.1 + (1 : Int)))
  let x20 := (decide (a17 < (1 : Int)))
  bif x20 then
    k0 (0 : Int) (a18.1, (x19, ()))
  else
    let x21 := ((a18.1.length : Nat) : Int)
    let x22 := (decide (x21 = (0 : Int)))
    bif x22 then
      k0 (0 : Int) (a18.1, (x19, ()))
    else
      let x23 := (IntKind.i64.wrap (x19 - (1 : Int)))
      let x24 := ((a18.1.length : Nat) : Int)
      let x25 := decide (x23 < x24)
      bif x25 then
        bif (decide (x23 < (0 : Int))) then
          none
        else
          match a18.1[x23.toNat]? with
          | some x26 =>
            let x27 := IntKind.i64.wrap x26
            bif (decide (a17 = (0 : Int))) then
              none
            else
              let x28 := Int.tmod x27 a17
              k0 x28 (a18.1, (x19, ()))
          | none => none
      else
        let x29 := ((a18.1.length : Nat) : Int)
        bif (decide (x29 = (0 : Int))) then
          none
        else
          let x30 := Int.tmod x23 x29
          bif (decide (x30 < (0 : Int))) then
            none
          else
            match a18.1[x30.toNat]? with
            | some x31 =>
              let x32 := IntKind.i64.wrap x31
              let x33 := (IntKind.i64.wrap (x32 * (131 : Int)))
              let x34 := (IntKind.i64.wrap (x23 * (7 : Int)))
              let x35 := (IntKind.i64.wrap (x34 + (3 : Int)))
              let x36 := ((a18.1.length : Nat) : Int)
              bif (decide (x36 = (0 : Int))) then
                none
              else
                let x37 := Int.tmod x35 x36
                bif (decide (x37 < (0 : Int))) then
                  none
                else
                  match a18.1[x37.toNat]? with
                  | some x38 =>
                    let x39 := IntKind.i64.wrap x38
                    let x40 := (IntKind.i64.wrap (x39 * (1117 : Int)))
                    let x41 := IntKind.i64.wrap (x33 + x40)
                    let x42 := (IntKind.i64.wrap (x23 * (29 : Int)))
                    let x43 := IntKind.i64.wrap (x41 + x42)
                    let x44 := ((a18.1.length : Nat) : Int)
                    bif (decide (x44 = (0 : Int))) then
                      none
                    else
                      let x45 := IntKind.i64.wrap (Int.tdiv x23 x44)
                      let x46 := (IntKind.i64.wrap (x45 * (53 : Int)))
                      let x47 := IntKind.i64.wrap (x43 + x46)
                      let x48 := (IntKind.i64.wrap (Int.tdiv x47 (64 : Int)))
                      let x49 := bitI .xor .i64 x47 x48
                      bif (decide (a17 = (0 : Int))) then
                        none
                      else
                        let x50 := Int.tmod x49 a17
                        k0 x50 (a18.1, (x19, ()))
                  | none => none
            | none => none
theorem spec_l31Rd_pick.ex : ∃ f : ((α : Type) → Nat → Int → ((List Int) × Int × Unit) → (Int → ((List Int) × Int × Unit) → Option α) → Option α), f = fun α => @spec_l31Rd_pick.b α := ⟨_, rfl⟩
noncomputable def spec_l31Rd_pick {α : Type} : Nat → Int → ((List Int) × Int × Unit) → (Int → ((List Int) × Int × Unit) → Option α) → Option α := Classical.choose spec_l31Rd_pick.ex α
theorem spec_l31Rd_pick.eq : @spec_l31Rd_pick = @spec_l31Rd_pick.b := funext fun α => congrFun (Classical.choose_spec spec_l31Rd_pick.ex) α

/-- (*loop.example/pinfold/spec.l31Rd).width -/
noncomputable def spec_l31Rd_width.b {α : Type} (N : Nat) (a16 : (List Int) × Int × Unit) (k0 : Int → ((List Int) × Int × Unit) → Option α) : Option α :=
  spec_l31Rd_pick N (32 : Int) a16
    (fun x51 x52 =>
      let x53 := (decide (x51 < (15 : Int)))
      bif x53 then
        k0 (32 : Int) x52
      else
        let x54 := (decide (x51 < (30 : Int)))
        bif x54 then
          k0 (64 : Int) x52
        else
          let x55 := [(0 : Int), (63 : Int), (16 : Int), (-64 : Int)]
          spec_l31Rd_pick N (4 : Int) x52
            (fun x56 x57 =>
              bif (decide (x56 < (0 : Int))) then
                none
              else
                bif decide (x56.toNat < x55.length) then
                  match x55[x56.toNat]? with
                  | some x58 =>
                    k0 x58 x57
                  | none => none
                else
                  none))
theorem spec_l31Rd_width.ex : ∃ f : ((α : Type) → Nat → ((List Int) × Int × Unit) → (Int → ((List Int) × Int × Unit) → Option α) → Option α), f = fun α => @spec_l31Rd_width.b α := ⟨_, rfl⟩
noncomputable def spec_l31Rd_width {α : Type} : Nat → ((List Int) × Int × Unit) → (Int → ((List Int) × Int × Unit) → Option α) → Option α := Classical.choose spec_l31Rd_width.ex α
theorem spec_l31Rd_width.eq : @spec_l31Rd_width = @spec_l31Rd_width.b := funext fun α => congrFun (Classical.choose_spec spec_l31Rd_width.ex) α

/-- loop.example/pinfold/spec.BitTop -/
noncomputable def spec_BitTop.b {α : Type} (N : Nat) (a67 : Int) (k0 : Int → Option α) : Option α :=
  let x68 := (decide (a67 = (32 : Int)))
  bif x68 then
    k0 (2139095040 : Int)
  else
    let x69 := (decide (a67 = (64 : Int)))
    bif x69 then
      k0 (9218868437227405312 : Int)
    else
      k0 (0 : Int)
theorem spec_BitTop.ex : ∃ f : ((α : Type) → Nat → Int → (Int → Option α) → Option α), f = fun α => @spec_BitTop.b α := ⟨_, rfl⟩
noncomputable def spec_BitTop {α : Type} : Nat → Int → (Int → Option α) → Option α := Classical.choose spec_BitTop.ex α
theorem spec_BitTop.eq : @spec_BitTop = @spec_BitTop.b := funext fun α => congrFun (Classical.choose_spec spec_BitTop.ex) α

noncomputable def spec_l31Rd_big_L0r {α : Type} (N : Nat) (next : Int → Int → ((List Int) × Int × Unit) → Option α) (k0 : Int → ((List Int) × Int × Unit) → Option α) (v128 : Int) (v129 : Int) (v130 : (List Int) × Int × Unit) : Option α :=
  let x131 := (decide (v129 < (8 : Int)))
  bif x131 then
    let x132 := (IntKind.u64.wrap (v128 * (256 : Int)))
    spec_l31Rd_pick N (256 : Int) v130
      (fun x133 x134 =>
        let x135 := IntKind.u64.wrap x133
        let x136 := IntKind.u64.wrap (x132 + x135)
        let x137 := (IntKind.i64.wrap (v129 + (1 : Int)))
        next x136 x137 x134)
  else
    k0 v128 v130
noncomputable def spec_l31Rd_big_L0.b {α : Type} (N n : Nat) (v128 : Int) (v129 : Int) (v130 : (List Int) × Int × Unit) (k0 : Int → ((List Int) × Int × Unit) → Option α) : Option α :=
  Nat.rec (motive := fun _ => Int → Int → ((List Int) × Int × Unit) → Option α) (fun _ _ _ => none) (fun _ next => spec_l31Rd_big_L0r N next k0) n v128 v129 v130
theorem spec_l31Rd_big_L0.ex : ∃ f : ((α : Type) → Nat → Nat → Int → Int → ((List Int) × Int × Unit) → (Int → ((List Int) × Int × Unit) → Option α) → Option α), f = fun α => @spec_l31Rd_big_L0.b α := ⟨_, rfl⟩
noncomputable def spec_l31Rd_big_L0 {α : Type} : Nat → Nat → Int → Int → ((List Int) × Int × Unit) → (Int → ((List Int) × Int × Unit) → Option α) → Option α := Classical.choose spec_l31Rd_big_L0.ex α
theorem spec_l31Rd_big_L0.eq : @spec_l31Rd_big_L0 = @spec_l31Rd_big_L0.b := funext fun α => congrFun (Classical.choose_spec spec_l31Rd_big_L0.ex) α
theorem spec_l31Rd_big_L0.zero {α : Type} (N : Nat) (v128 : Int) (v129 : Int) (v130 : (List Int) × Int × Unit) (k0 : Int → ((List Int) × Int × Unit) → Option α) : spec_l31Rd_big_L0 N 0 v128 v129 v130 k0 = none := by rw [spec_l31Rd_big_L0.eq]; rfl
theorem spec_l31Rd_big_L0.succ {α : Type} (N n : Nat) (v128 : Int) (v129 : Int) (v130 : (List Int) × Int × Unit) (k0 : Int → ((List Int) × Int × Unit) → Option α) : spec_l31Rd_big_L0 N (n + 1) v128 v129 v130 k0 = spec_l31Rd_big_L0r N (fun y0 y1 y2 => spec_l31Rd_big_L0 N n y0 y1 y2 k0) k0 v128 v129 v130 := by rw [spec_l31Rd_big_L0.eq]; rfl
/-- (*loop.example/pinfold/spec.l31Rd).big -/
noncomputable def spec_l31Rd_big.b {α : Type} (N : Nat) (a127 : (List Int) × Int × Unit) (k0 : Int → ((List Int) × Int × Unit) → Option α) : Option α :=
  spec_l31Rd_big_L0 N N (0 : Int) (0 : Int) a127
    (fun x138 x139 =>
      k0 x138 x139)
theorem spec_l31Rd_big.ex : ∃ f : ((α : Type) → Nat → ((List Int) × Int × Unit) → (Int → ((List Int) × Int × Unit) → Option α) → Option α), f = fun α => @spec_l31Rd_big.b α := ⟨_, rfl⟩
noncomputable def spec_l31Rd_big {α : Type} : Nat → ((List Int) × Int × Unit) → (Int → ((List Int) × Int × Unit) → Option α) → Option α := Classical.choose spec_l31Rd_big.ex α
theorem spec_l31Rd_big.eq : @spec_l31Rd_big = @spec_l31Rd_big.b := funext fun α => congrFun (Classical.choose_spec spec_l31Rd_big.ex) α

noncomputable def spec_l31Rd_ord_J11.b {α : Type} (N : Nat) (v88 : Int) (v89 : Int) (v90 : Int) (v91 : (List Int) × Int × Unit) (k0 : Int → Int → Int → Bool → ((List Int) × Int × Unit) → Option α) : Option α :=
  let x92 := (decide (v90 = (2 : Int)))
  bif x92 then
    k0 v88 v89 v90 x92 v91
  else
    let x93 := (decide (v90 = (3 : Int)))
    k0 v88 v89 v90 x93 v91
theorem spec_l31Rd_ord_J11.ex : ∃ f : ((α : Type) → Nat → Int → Int → Int → ((List Int) × Int × Unit) → (Int → Int → Int → Bool → ((List Int) × Int × Unit) → Option α) → Option α), f = fun α => @spec_l31Rd_ord_J11.b α := ⟨_, rfl⟩
noncomputable def spec_l31Rd_ord_J11 {α : Type} : Nat → Int → Int → Int → ((List Int) × Int × Unit) → (Int → Int → Int → Bool → ((List Int) × Int × Unit) → Option α) → Option α := Classical.choose spec_l31Rd_ord_J11.ex α
theorem spec_l31Rd_ord_J11.eq : @spec_l31Rd_ord_J11 = @spec_l31Rd_ord_J11.b := funext fun α => congrFun (Classical.choose_spec spec_l31Rd_ord_J11.ex) α
noncomputable def spec_l31Rd_ord_J14.b {α : Type} (N : Nat) (v106 : Int) (v107 : Int) (v108 : Int) (v109 : (List Int) × Int × Unit) (k0 : Int → Int → ((List Int) × Int × Unit) → Option α) : Option α :=
  let x110 := (decide (v106 = (32 : Int)))
  bif x110 then
    spec_l31Rd_pick N (256 : Int) v109
      (fun x111 x112 =>
        let x113 := (shlI .i64 x111 (23 : Int))
        spec_l31Rd_pick N (4 : Int) x112
          (fun x114 x115 =>
            let x116 := IntKind.i64.wrap (x113 + x114)
            let x117 := (IntKind.i64.wrap (x116 - (1 : Int)))
            k0 v107 x117 x115))
  else
    k0 v107 v108 v109
theorem spec_l31Rd_ord_J14.ex : ∃ f : ((α : Type) → Nat → Int → Int → Int → ((List Int) × Int × Unit) → (Int → Int → ((List Int) × Int × Unit) → Option α) → Option α), f = fun α => @spec_l31Rd_ord_J14.b α := ⟨_, rfl⟩
noncomputable def spec_l31Rd_ord_J14 {α : Type} : Nat → Int → Int → Int → ((List Int) × Int × Unit) → (Int → Int → ((List Int) × Int × Unit) → Option α) → Option α := Classical.choose spec_l31Rd_ord_J14.ex α
theorem spec_l31Rd_ord_J14.eq : @spec_l31Rd_ord_J14 = @spec_l31Rd_ord_J14.b := funext fun α => congrFun (Classical.choose_spec spec_l31Rd_ord_J14.ex) α
noncomputable def spec_l31Rd_ord_J5.b {α : Type} (N : Nat) (v144 : Int) (v145 : Int) (v146 : (List Int) × Int × Unit) (k0 : Int → Int → ((List Int) × Int × Unit) → Option α) : Option α :=
  let x147 := (decide ((0 : Int) < v144))
  bif x147 then
    let x148 := (IntKind.i64.wrap (v144 + (1 : Int)))
    bif (decide (x148 = (0 : Int))) then
      none
    else
      let x149 := Int.tmod v145 x148
      k0 v144 x149 v146
  else
    k0 v144 v145 v146
theorem spec_l31Rd_ord_J5.ex : ∃ f : ((α : Type) → Nat → Int → Int → ((List Int) × Int × Unit) → (Int → Int → ((List Int) × Int × Unit) → Option α) → Option α), f = fun α => @spec_l31Rd_ord_J5.b α := ⟨_, rfl⟩
noncomputable def spec_l31Rd_ord_J5 {α : Type} : Nat → Int → Int → ((List Int) × Int × Unit) → (Int → Int → ((List Int) × Int × Unit) → Option α) → Option α := Classical.choose spec_l31Rd_ord_J5.ex α
theorem spec_l31Rd_ord_J5.eq : @spec_l31Rd_ord_J5 = @spec_l31Rd_ord_J5.b := funext fun α => congrFun (Classical.choose_spec spec_l31Rd_ord_J5.ex) α
noncomputable def spec_l31Rd_ord_J16.b {α : Type} (N : Nat) (v121 : Int) (v122 : Int) (v123 : (List Int) × Int × Unit) (k0 : Int → Int → ((List Int) × Int × Unit) → Option α) : Option α :=
  let x124 := (decide (v122 = (4 : Int)))
  bif x124 then
    spec_l31Rd_pick N (1048576 : Int) v123
      (fun x125 x126 =>
        k0 v121 x125 x126)
  else
    spec_l31Rd_big N v123
      (fun x140 x141 =>
        let x142 := (shrI .u64 x140 (1 : Int))
        let x143 := IntKind.i64.wrap x142
        spec_l31Rd_ord_J5 N v121 x143 x141
          (fun x150 x151 x152 =>
            k0 x150 x151 x152))
theorem spec_l31Rd_ord_J16.ex : ∃ f : ((α : Type) → Nat → Int → Int → ((List Int) × Int × Unit) → (Int → Int → ((List Int) × Int × Unit) → Option α) → Option α), f = fun α => @spec_l31Rd_ord_J16.b α := ⟨_, rfl⟩
noncomputable def spec_l31Rd_ord_J16 {α : Type} : Nat → Int → Int → ((List Int) × Int × Unit) → (Int → Int → ((List Int) × Int × Unit) → Option α) → Option α := Classical.choose spec_l31Rd_ord_J16.ex α
theorem spec_l31Rd_ord_J16.eq : @spec_l31Rd_ord_J16 = @spec_l31Rd_ord_J16.b := funext fun α => congrFun (Classical.choose_spec spec_l31Rd_ord_J16.ex) α
noncomputable def spec_l31Rd_ord_J9.b {α : Type} (N : Nat) (v80 : Int) (v81 : Int) (v82 : Int) (v83 : (List Int) × Int × Unit) (k0 : Int → Int → ((List Int) × Int × Unit) → Option α) : Option α :=
  let x84 := (decide (v82 = (1 : Int)))
  bif x84 then
    spec_l31Rd_pick N (6 : Int) v83
      (fun x85 x86 =>
        let x87 := IntKind.i64.wrap (v81 - x85)
        k0 v81 x87 x86)
  else
    spec_l31Rd_ord_J11 N v80 v81 v82 v83
      (fun x94 x95 x96 x97 x98 =>
        bif x97 then
          spec_l31Rd_pick N (2048 : Int) x98
            (fun x99 x100 =>
              let x101 := (shlI .i64 x99 (52 : Int))
              spec_l31Rd_pick N (4 : Int) x100
                (fun x102 x103 =>
                  let x104 := IntKind.i64.wrap (x101 + x102)
                  let x105 := (IntKind.i64.wrap (x104 - (1 : Int)))
                  spec_l31Rd_ord_J14 N x94 x95 x105 x103
                    (fun x118 x119 x120 =>
                      k0 x118 x119 x120)))
        else
          spec_l31Rd_ord_J16 N x95 x96 x98
            (fun x153 x154 x155 =>
              k0 x153 x154 x155))
theorem spec_l31Rd_ord_J9.ex : ∃ f : ((α : Type) → Nat → Int → Int → Int → ((List Int) × Int × Unit) → (Int → Int → ((List Int) × Int × Unit) → Option α) → Option α), f = fun α => @spec_l31Rd_ord_J9.b α := ⟨_, rfl⟩
noncomputable def spec_l31Rd_ord_J9 {α : Type} : Nat → Int → Int → Int → ((List Int) × Int × Unit) → (Int → Int → ((List Int) × Int × Unit) → Option α) → Option α := Classical.choose spec_l31Rd_ord_J9.ex α
theorem spec_l31Rd_ord_J9.eq : @spec_l31Rd_ord_J9 = @spec_l31Rd_ord_J9.b := funext fun α => congrFun (Classical.choose_spec spec_l31Rd_ord_J9.ex) α
noncomputable def spec_l31Rd_ord_J7.b {α : Type} (N : Nat) (v73 : Int) (v74 : Int) (v75 : Int) (v76 : (List Int) × Int × Unit) (k0 : Int → Int → ((List Int) × Int × Unit) → Option α) : Option α :=
  let x77 := (decide (v75 = (0 : Int)))
  bif x77 then
    spec_l31Rd_pick N (6 : Int) v76
      (fun x78 x79 =>
        k0 v74 x78 x79)
  else
    spec_l31Rd_ord_J9 N v73 v74 v75 v76
      (fun x156 x157 x158 =>
        k0 x156 x157 x158)
theorem spec_l31Rd_ord_J7.ex : ∃ f : ((α : Type) → Nat → Int → Int → Int → ((List Int) × Int × Unit) → (Int → Int → ((List Int) × Int × Unit) → Option α) → Option α), f = fun α => @spec_l31Rd_ord_J7.b α := ⟨_, rfl⟩
noncomputable def spec_l31Rd_ord_J7 {α : Type} : Nat → Int → Int → Int → ((List Int) × Int × Unit) → (Int → Int → ((List Int) × Int × Unit) → Option α) → Option α := Classical.choose spec_l31Rd_ord_J7.ex α
theorem spec_l31Rd_ord_J7.eq : @spec_l31Rd_ord_J7 = @spec_l31Rd_ord_J7.b := funext fun α => congrFun (Classical.choose_spec spec_l31Rd_ord_J7.ex) α
noncomputable def spec_l31Rd_ord_J20.b {α : Type} (N : Nat) (v172 : Int) (v173 : Int) (v174 : (List Int) × Int × Unit) (k0 : Int → ((List Int) × Int × Unit) → Option α) : Option α :=
  let x175 := decide (v172 < v173)
  bif x175 then
    k0 v172 v174
  else
    k0 v173 v174
theorem spec_l31Rd_ord_J20.ex : ∃ f : ((α : Type) → Nat → Int → Int → ((List Int) × Int × Unit) → (Int → ((List Int) × Int × Unit) → Option α) → Option α), f = fun α => @spec_l31Rd_ord_J20.b α := ⟨_, rfl⟩
noncomputable def spec_l31Rd_ord_J20 {α : Type} : Nat → Int → Int → ((List Int) × Int × Unit) → (Int → ((List Int) × Int × Unit) → Option α) → Option α := Classical.choose spec_l31Rd_ord_J20.ex α
theorem spec_l31Rd_ord_J20.eq : @spec_l31Rd_ord_J20 = @spec_l31Rd_ord_J20.b := funext fun α => congrFun (Classical.choose_spec spec_l31Rd_ord_J20.ex) α
noncomputable def spec_l31Rd_ord_J18.b {α : Type} (N : Nat) (v162 : Int) (v163 : Int) (v164 : (List Int) × Int × Unit) (k0 : Int → ((List Int) × Int × Unit) → Option α) : Option α :=
  spec_l31Rd_pick N (40 : Int) v164
    (fun x165 x166 =>
      let x167 := (decide (x165 = (0 : Int)))
      bif x167 then
        let x168 := (IntKind.i64.wrap (v162 + (1 : Int)))
        spec_l31Rd_pick N (3 : Int) x166
          (fun x169 x170 =>
            let x171 := IntKind.i64.wrap (x168 + x169)
            k0 x171 x170)
      else
        spec_l31Rd_ord_J20 N v162 v163 x166
          (fun x176 x177 =>
            k0 x176 x177))
theorem spec_l31Rd_ord_J18.ex : ∃ f : ((α : Type) → Nat → Int → Int → ((List Int) × Int × Unit) → (Int → ((List Int) × Int × Unit) → Option α) → Option α), f = fun α => @spec_l31Rd_ord_J18.b α := ⟨_, rfl⟩
noncomputable def spec_l31Rd_ord_J18 {α : Type} : Nat → Int → Int → ((List Int) × Int × Unit) → (Int → ((List Int) × Int × Unit) → Option α) → Option α := Classical.choose spec_l31Rd_ord_J18.ex α
theorem spec_l31Rd_ord_J18.eq : @spec_l31Rd_ord_J18 = @spec_l31Rd_ord_J18.b := funext fun α => congrFun (Classical.choose_spec spec_l31Rd_ord_J18.ex) α
/-- (*loop.example/pinfold/spec.l31Rd).ord -/
noncomputable def spec_l31Rd_ord.b {α : Type} (N : Nat) (a65 : Int) (a66 : (List Int) × Int × Unit) (k0 : Int → ((List Int) × Int × Unit) → Option α) : Option α :=
  spec_BitTop N a65
    (fun x70 =>
      spec_l31Rd_pick N (10 : Int) a66
        (fun x71 x72 =>
          spec_l31Rd_ord_J7 N a65 x70 x71 x72
            (fun x159 x160 x161 =>
              spec_l31Rd_ord_J18 N x159 x160 x161
                (fun x178 x179 =>
                  spec_l31Rd_pick N (2 : Int) x179
                    (fun x180 x181 =>
                      let x182 := (decide (x180 = (0 : Int)))
                      bif x182 then
                        let x183 := IntKind.i64.wrap (0 - x178)
                        k0 x183 x181
                      else
                        k0 x178 x181)))))
theorem spec_l31Rd_ord.ex : ∃ f : ((α : Type) → Nat → Int → ((List Int) × Int × Unit) → (Int → ((List Int) × Int × Unit) → Option α) → Option α), f = fun α => @spec_l31Rd_ord.b α := ⟨_, rfl⟩
noncomputable def spec_l31Rd_ord {α : Type} : Nat → Int → ((List Int) × Int × Unit) → (Int → ((List Int) × Int × Unit) → Option α) → Option α := Classical.choose spec_l31Rd_ord.ex α
theorem spec_l31Rd_ord.eq : @spec_l31Rd_ord = @spec_l31Rd_ord.b := funext fun α => congrFun (Classical.choose_spec spec_l31Rd_ord.ex) α

noncomputable def spec_l31Rd_pair_J8.b {α : Type} (N : Nat) (v206 : Int) (v207 : Int) (v208 : Int) (v209 : (List Int) × Int × Unit) (v210 : Int × Int × Unit) (k0 : Int → Int → ((List Int) × Int × Unit) → (Int × Int × Unit) → Option α) : Option α :=
  let x211 := (decide (v208 = (2 : Int)))
  bif x211 then
    spec_l31Rd_pick N (1000 : Int) v209
      (fun x212 x213 =>
        let x214 := IntKind.i64.wrap (v206 + x212)
        k0 v206 x214 x213 v210)
  else
    k0 v206 v207 v209 v210
theorem spec_l31Rd_pair_J8.ex : ∃ f : ((α : Type) → Nat → Int → Int → Int → ((List Int) × Int × Unit) → (Int × Int × Unit) → (Int → Int → ((List Int) × Int × Unit) → (Int × Int × Unit) → Option α) → Option α), f = fun α => @spec_l31Rd_pair_J8.b α := ⟨_, rfl⟩
noncomputable def spec_l31Rd_pair_J8 {α : Type} : Nat → Int → Int → Int → ((List Int) × Int × Unit) → (Int × Int × Unit) → (Int → Int → ((List Int) × Int × Unit) → (Int × Int × Unit) → Option α) → Option α := Classical.choose spec_l31Rd_pair_J8.ex α
theorem spec_l31Rd_pair_J8.eq : @spec_l31Rd_pair_J8 = @spec_l31Rd_pair_J8.b := funext fun α => congrFun (Classical.choose_spec spec_l31Rd_pair_J8.ex) α
noncomputable def spec_l31Rd_pair_J6.b {α : Type} (N : Nat) (v196 : Int) (v197 : Int) (v198 : Int) (v199 : (List Int) × Int × Unit) (v200 : Int × Int × Unit) (k0 : Int → Int → ((List Int) × Int × Unit) → (Int × Int × Unit) → Option α) : Option α :=
  let x201 := (decide (v198 = (1 : Int)))
  bif x201 then
    let x202 := (IntKind.i64.wrap (v196 + (1 : Int)))
    spec_l31Rd_pick N (4 : Int) v199
      (fun x203 x204 =>
        let x205 := IntKind.i64.wrap (x202 + x203)
        k0 v196 x205 x204 v200)
  else
    spec_l31Rd_pair_J8 N v196 v197 v198 v199 v200
      (fun x215 x216 x217 x218 =>
        k0 x215 x216 x217 x218)
theorem spec_l31Rd_pair_J6.ex : ∃ f : ((α : Type) → Nat → Int → Int → Int → ((List Int) × Int × Unit) → (Int × Int × Unit) → (Int → Int → ((List Int) × Int × Unit) → (Int × Int × Unit) → Option α) → Option α), f = fun α => @spec_l31Rd_pair_J6.b α := ⟨_, rfl⟩
noncomputable def spec_l31Rd_pair_J6 {α : Type} : Nat → Int → Int → Int → ((List Int) × Int × Unit) → (Int × Int × Unit) → (Int → Int → ((List Int) × Int × Unit) → (Int × Int × Unit) → Option α) → Option α := Classical.choose spec_l31Rd_pair_J6.ex α
theorem spec_l31Rd_pair_J6.eq : @spec_l31Rd_pair_J6 = @spec_l31Rd_pair_J6.b := funext fun α => congrFun (Classical.choose_spec spec_l31Rd_pair_J6.ex) α
noncomputable def spec_l31Rd_pair_J4.b {α : Type} (N : Nat) (v190 : Int) (v191 : Int) (v192 : Int) (v193 : (List Int) × Int × Unit) (v194 : Int × Int × Unit) (k0 : Int → Int → ((List Int) × Int × Unit) → (Int × Int × Unit) → Option α) : Option α :=
  let x195 := (decide (v192 = (0 : Int)))
  bif x195 then
    k0 v190 v190 v193 v194
  else
    spec_l31Rd_pair_J6 N v190 v191 v192 v193 v194
      (fun x219 x220 x221 x222 =>
        k0 x219 x220 x221 x222)
theorem spec_l31Rd_pair_J4.ex : ∃ f : ((α : Type) → Nat → Int → Int → Int → ((List Int) × Int × Unit) → (Int × Int × Unit) → (Int → Int → ((List Int) × Int × Unit) → (Int × Int × Unit) → Option α) → Option α), f = fun α => @spec_l31Rd_pair_J4.b α := ⟨_, rfl⟩
noncomputable def spec_l31Rd_pair_J4 {α : Type} : Nat → Int → Int → Int → ((List Int) × Int × Unit) → (Int × Int × Unit) → (Int → Int → ((List Int) × Int × Unit) → (Int × Int × Unit) → Option α) → Option α := Classical.choose spec_l31Rd_pair_J4.ex α
theorem spec_l31Rd_pair_J4.eq : @spec_l31Rd_pair_J4 = @spec_l31Rd_pair_J4.b := funext fun α => congrFun (Classical.choose_spec spec_l31Rd_pair_J4.ex) α
noncomputable def spec_l31Rd_pair_J10.b {α : Type} (N : Nat) (v227 : Int) (v228 : Int) (v229 : (List Int) × Int × Unit) (v230 : Int × Int × Unit) (k0 : Int → Int → ((List Int) × Int × Unit) → (Int × Int × Unit) → Option α) : Option α :=
  let x231 := decide (v228 < v227)
  bif x231 then
    spec_l31Rd_pick N (24 : Int) v229
      (fun x232 x233 =>
        let x234 := (decide ((0 : Int) < x232))
        bif x234 then
          k0 v228 v227 x233 v230
        else
          k0 v227 v228 x233 v230)
  else
    k0 v227 v228 v229 v230
theorem spec_l31Rd_pair_J10.ex : ∃ f : ((α : Type) → Nat → Int → Int → ((List Int) × Int × Unit) → (Int × Int × Unit) → (Int → Int → ((List Int) × Int × Unit) → (Int × Int × Unit) → Option α) → Option α), f = fun α => @spec_l31Rd_pair_J10.b α := ⟨_, rfl⟩
noncomputable def spec_l31Rd_pair_J10 {α : Type} : Nat → Int → Int → ((List Int) × Int × Unit) → (Int × Int × Unit) → (Int → Int → ((List Int) × Int × Unit) → (Int × Int × Unit) → Option α) → Option α := Classical.choose spec_l31Rd_pair_J10.ex α
theorem spec_l31Rd_pair_J10.eq : @spec_l31Rd_pair_J10 = @spec_l31Rd_pair_J10.b := funext fun α => congrFun (Classical.choose_spec spec_l31Rd_pair_J10.ex) α
/-- (*loop.example/pinfold/spec.l31Rd).pair -/
noncomputable def spec_l31Rd_pair.b {α : Type} (N : Nat) (a63 : Int) (a64 : (List Int) × Int × Unit) (k0 : (Int × Int × Unit) → ((List Int) × Int × Unit) → Option α) : Option α :=
  spec_l31Rd_ord N a63 a64
    (fun x184 x185 =>
      spec_l31Rd_ord N a63 x185
        (fun x186 x187 =>
          spec_l31Rd_pick N (6 : Int) x187
            (fun x188 x189 =>
              spec_l31Rd_pair_J4 N x184 x186 x188 x189 ((0 : Int), ((0 : Int), ()))
                (fun x223 x224 x225 x226 =>
                  spec_l31Rd_pair_J10 N x223 x224 x225 x226
                    (fun x235 x236 x237 _ =>
                      k0 (x235, (x236, ())) x237)))))
theorem spec_l31Rd_pair.ex : ∃ f : ((α : Type) → Nat → Int → ((List Int) × Int × Unit) → ((Int × Int × Unit) → ((List Int) × Int × Unit) → Option α) → Option α), f = fun α => @spec_l31Rd_pair.b α := ⟨_, rfl⟩
noncomputable def spec_l31Rd_pair {α : Type} : Nat → Int → ((List Int) × Int × Unit) → ((Int × Int × Unit) → ((List Int) × Int × Unit) → Option α) → Option α := Classical.choose spec_l31Rd_pair.ex α
theorem spec_l31Rd_pair.eq : @spec_l31Rd_pair = @spec_l31Rd_pair.b := funext fun α => congrFun (Classical.choose_spec spec_l31Rd_pair.ex) α

/-- loop.example/pinfold/spec.l1Width -/
noncomputable def spec_l1Width.b {α : Type} (N : Nat) (a252 : Int) (k0 : Bool → Option α) : Option α :=
  let x253 := (decide (a252 = (32 : Int)))
  bif x253 then
    k0 true
  else
    let x254 := (decide (a252 = (64 : Int)))
    k0 x254
theorem spec_l1Width.ex : ∃ f : ((α : Type) → Nat → Int → (Bool → Option α) → Option α), f = fun α => @spec_l1Width.b α := ⟨_, rfl⟩
noncomputable def spec_l1Width {α : Type} : Nat → Int → (Bool → Option α) → Option α := Classical.choose spec_l1Width.ex α
theorem spec_l1Width.eq : @spec_l1Width = @spec_l1Width.b := funext fun α => congrFun (Classical.choose_spec spec_l1Width.ex) α

/-- loop.example/pinfold/spec.BitOk -/
noncomputable def spec_BitOk.b {α : Type} (N : Nat) (a250 : Int) (a251 : Int) (k0 : Bool → Option α) : Option α :=
  spec_l1Width N a250
    (fun x255 =>
      bif x255 then
        spec_BitTop N a250
          (fun x256 =>
            let x257 := IntKind.i64.wrap (0 - x256)
            let x258 := decide (x257 ≤ a251)
            bif x258 then
              spec_BitTop N a250
                (fun x259 =>
                  let x260 := decide (a251 ≤ x259)
                  k0 x260)
            else
              k0 false)
      else
        k0 false)
theorem spec_BitOk.ex : ∃ f : ((α : Type) → Nat → Int → Int → (Bool → Option α) → Option α), f = fun α => @spec_BitOk.b α := ⟨_, rfl⟩
noncomputable def spec_BitOk {α : Type} : Nat → Int → Int → (Bool → Option α) → Option α := Classical.choose spec_BitOk.ex α
theorem spec_BitOk.eq : @spec_BitOk = @spec_BitOk.b := funext fun α => congrFun (Classical.choose_spec spec_BitOk.ex) α

/-- loop.example/pinfold/spec.PairOk -/
noncomputable def spec_PairOk.b {α : Type} (N : Nat) (a247 : Int) (a248 : Int × Int × Unit) (k0 : Bool → Option α) : Option α :=
  spec_BitTop N a247
    (fun x249 =>
      spec_BitOk N a247 a248.1
        (fun x261 =>
          bif x261 then
            spec_BitOk N a247 a248.2.1
              (fun x262 =>
                bif x262 then
                  let x263 := decide (a248.1 ≤ a248.2.1)
                  bif x263 then
                    let x264 := decide (a248.1 < x249)
                    bif x264 then
                      let x265 := IntKind.i64.wrap (0 - x249)
                      let x266 := decide (x265 < a248.2.1)
                      k0 x266
                    else
                      k0 false
                  else
                    k0 false
                else
                  k0 false)
          else
            k0 false))
theorem spec_PairOk.ex : ∃ f : ((α : Type) → Nat → Int → (Int × Int × Unit) → (Bool → Option α) → Option α), f = fun α => @spec_PairOk.b α := ⟨_, rfl⟩
noncomputable def spec_PairOk {α : Type} : Nat → Int → (Int × Int × Unit) → (Bool → Option α) → Option α := Classical.choose spec_PairOk.ex α
theorem spec_PairOk.eq : @spec_PairOk = @spec_PairOk.b := funext fun α => congrFun (Classical.choose_spec spec_PairOk.ex) α

noncomputable def spec_l31Rd_good_L0r {α : Type} (N : Nat) (next : Int → Int → ((List Int) × Int × Unit) → (Int × Int × Unit) → (Int × Int × Unit) → Option α) (k0 : ((List Int) × Int × Unit) → (Int × Int × Unit) → (Int × Int × Unit) → Option α) (v241 : Int) (v242 : Int) (v243 : (List Int) × Int × Unit) (v244 : Int × Int × Unit) (v245 : Int × Int × Unit) : Option α :=
  let x246 := (decide (v242 < (5 : Int)))
  bif x246 then
    spec_PairOk N v241 v245
      (fun x267 =>
        let x268 := !x267
        bif x268 then
          spec_l31Rd_pair N v241 v243
            (fun x269 x270 =>
              let x271 := (IntKind.i64.wrap (v242 + (1 : Int)))
              next v241 x271 x270 v244 x269)
        else
          k0 v243 v244 v245)
  else
    k0 v243 v244 v245
noncomputable def spec_l31Rd_good_L0.b {α : Type} (N n : Nat) (v241 : Int) (v242 : Int) (v243 : (List Int) × Int × Unit) (v244 : Int × Int × Unit) (v245 : Int × Int × Unit) (k0 : ((List Int) × Int × Unit) → (Int × Int × Unit) → (Int × Int × Unit) → Option α) : Option α :=
  Nat.rec (motive := fun _ => Int → Int → ((List Int) × Int × Unit) → (Int × Int × Unit) → (Int × Int × Unit) → Option α) (fun _ _ _ _ _ => none) (fun _ next => spec_l31Rd_good_L0r N next k0) n v241 v242 v243 v244 v245
theorem spec_l31Rd_good_L0.ex : ∃ f : ((α : Type) → Nat → Nat → Int → Int → ((List Int) × Int × Unit) → (Int × Int × Unit) → (Int × Int × Unit) → (((List Int) × Int × Unit) → (Int × Int × Unit) → (Int × Int × Unit) → Option α) → Option α), f = fun α => @spec_l31Rd_good_L0.b α := ⟨_, rfl⟩
noncomputable def spec_l31Rd_good_L0 {α : Type} : Nat → Nat → Int → Int → ((List Int) × Int × Unit) → (Int × Int × Unit) → (Int × Int × Unit) → (((List Int) × Int × Unit) → (Int × Int × Unit) → (Int × Int × Unit) → Option α) → Option α := Classical.choose spec_l31Rd_good_L0.ex α
theorem spec_l31Rd_good_L0.eq : @spec_l31Rd_good_L0 = @spec_l31Rd_good_L0.b := funext fun α => congrFun (Classical.choose_spec spec_l31Rd_good_L0.ex) α
theorem spec_l31Rd_good_L0.zero {α : Type} (N : Nat) (v241 : Int) (v242 : Int) (v243 : (List Int) × Int × Unit) (v244 : Int × Int × Unit) (v245 : Int × Int × Unit) (k0 : ((List Int) × Int × Unit) → (Int × Int × Unit) → (Int × Int × Unit) → Option α) : spec_l31Rd_good_L0 N 0 v241 v242 v243 v244 v245 k0 = none := by rw [spec_l31Rd_good_L0.eq]; rfl
theorem spec_l31Rd_good_L0.succ {α : Type} (N n : Nat) (v241 : Int) (v242 : Int) (v243 : (List Int) × Int × Unit) (v244 : Int × Int × Unit) (v245 : Int × Int × Unit) (k0 : ((List Int) × Int × Unit) → (Int × Int × Unit) → (Int × Int × Unit) → Option α) : spec_l31Rd_good_L0 N (n + 1) v241 v242 v243 v244 v245 k0 = spec_l31Rd_good_L0r N (fun y0 y1 y2 y3 y4 => spec_l31Rd_good_L0 N n y0 y1 y2 y3 y4 k0) k0 v241 v242 v243 v244 v245 := by rw [spec_l31Rd_good_L0.eq]; rfl
/-- (*loop.example/pinfold/spec.l31Rd).good -/
noncomputable def spec_l31Rd_good.b {α : Type} (N : Nat) (a61 : Int) (a62 : (List Int) × Int × Unit) (k0 : (Int × Int × Unit) → ((List Int) × Int × Unit) → Option α) : Option α :=
  spec_l31Rd_pair N a61 a62
    (fun x239 x240 =>
      spec_l31Rd_good_L0 N N a61 (0 : Int) x240 ((0 : Int), ((0 : Int), ())) x239
        (fun x272 _ x274 =>
          k0 x274 x272))
theorem spec_l31Rd_good.ex : ∃ f : ((α : Type) → Nat → Int → ((List Int) × Int × Unit) → ((Int × Int × Unit) → ((List Int) × Int × Unit) → Option α) → Option α), f = fun α => @spec_l31Rd_good.b α := ⟨_, rfl⟩
noncomputable def spec_l31Rd_good {α : Type} : Nat → Int → ((List Int) × Int × Unit) → ((Int × Int × Unit) → ((List Int) × Int × Unit) → Option α) → Option α := Classical.choose spec_l31Rd_good.ex α
theorem spec_l31Rd_good.eq : @spec_l31Rd_good = @spec_l31Rd_good.b := funext fun α => congrFun (Classical.choose_spec spec_l31Rd_good.ex) α

/-- loop.example/pinfold/spec.BitGap -/
noncomputable def spec_BitGap.b {α : Type} (N : Nat) (a283 : Int) (a284 : Int) (k0 : Int → Option α) : Option α :=
  let x285 := decide (a284 < a283)
  bif x285 then
    k0 (0 : Int)
  else
    let x286 := IntKind.u64.wrap a284
    let x287 := IntKind.u64.wrap a283
    let x288 := IntKind.u64.wrap (x286 - x287)
    k0 x288
theorem spec_BitGap.ex : ∃ f : ((α : Type) → Nat → Int → Int → (Int → Option α) → Option α), f = fun α => @spec_BitGap.b α := ⟨_, rfl⟩
noncomputable def spec_BitGap {α : Type} : Nat → Int → Int → (Int → Option α) → Option α := Classical.choose spec_BitGap.ex α
theorem spec_BitGap.eq : @spec_BitGap = @spec_BitGap.b := funext fun α => congrFun (Classical.choose_spec spec_BitGap.ex) α

noncomputable def spec_l31Rd_within_J11.b {α : Type} (N : Nat) (v335 : Int) (v336 : Int) (v337 : Int) (v338 : (List Int) × Int × Unit) (v339 : Int × Int × Unit) (v340 : Int × Int × Unit) (k0 : Int → Int → ((List Int) × Int × Unit) → (Int × Int × Unit) → (Int × Int × Unit) → Option α) : Option α :=
  let x341 := (decide (v337 = (2 : Int)))
  bif x341 then
    let x342 := (IntKind.u64.wrap (v335 + (1 : Int)))
    k0 v335 x342 v338 v339 v340
  else
    k0 v335 v336 v338 v339 v340
theorem spec_l31Rd_within_J11.ex : ∃ f : ((α : Type) → Nat → Int → Int → Int → ((List Int) × Int × Unit) → (Int × Int × Unit) → (Int × Int × Unit) → (Int → Int → ((List Int) × Int × Unit) → (Int × Int × Unit) → (Int × Int × Unit) → Option α) → Option α), f = fun α => @spec_l31Rd_within_J11.b α := ⟨_, rfl⟩
noncomputable def spec_l31Rd_within_J11 {α : Type} : Nat → Int → Int → Int → ((List Int) × Int × Unit) → (Int × Int × Unit) → (Int × Int × Unit) → (Int → Int → ((List Int) × Int × Unit) → (Int × Int × Unit) → (Int × Int × Unit) → Option α) → Option α := Classical.choose spec_l31Rd_within_J11.ex α
theorem spec_l31Rd_within_J11.eq : @spec_l31Rd_within_J11 = @spec_l31Rd_within_J11.b := funext fun α => congrFun (Classical.choose_spec spec_l31Rd_within_J11.ex) α
noncomputable def spec_l31Rd_within_J9.b {α : Type} (N : Nat) (v321 : Int) (v322 : Int) (v323 : Int) (v324 : Int) (v325 : (List Int) × Int × Unit) (v326 : Int × Int × Unit) (v327 : Int × Int × Unit) (k0 : Int → Int → ((List Int) × Int × Unit) → (Int × Int × Unit) → (Int × Int × Unit) → Option α) : Option α :=
  let x328 := (decide (v324 = (1 : Int)))
  bif x328 then
    spec_l31Rd_pick N (3 : Int) v325
      (fun x329 x330 =>
        let x331 := IntKind.u64.wrap x329
        let x332 := (IntKind.u64.wrap (v321 + (1 : Int)))
        bif (decide (x332 = (0 : Int))) then
          none
        else
          let x333 := Int.tmod x331 x332
          let x334 := IntKind.u64.wrap (v321 - x333)
          k0 v322 x334 x330 v326 v327)
  else
    spec_l31Rd_within_J11 N v322 v323 v324 v325 v326 v327
      (fun x343 x344 x345 x346 x347 =>
        k0 x343 x344 x345 x346 x347)
theorem spec_l31Rd_within_J9.ex : ∃ f : ((α : Type) → Nat → Int → Int → Int → Int → ((List Int) × Int × Unit) → (Int × Int × Unit) → (Int × Int × Unit) → (Int → Int → ((List Int) × Int × Unit) → (Int × Int × Unit) → (Int × Int × Unit) → Option α) → Option α), f = fun α => @spec_l31Rd_within_J9.b α := ⟨_, rfl⟩
noncomputable def spec_l31Rd_within_J9 {α : Type} : Nat → Int → Int → Int → Int → ((List Int) × Int × Unit) → (Int × Int × Unit) → (Int × Int × Unit) → (Int → Int → ((List Int) × Int × Unit) → (Int × Int × Unit) → (Int × Int × Unit) → Option α) → Option α := Classical.choose spec_l31Rd_within_J9.ex α
theorem spec_l31Rd_within_J9.eq : @spec_l31Rd_within_J9 = @spec_l31Rd_within_J9.b := funext fun α => congrFun (Classical.choose_spec spec_l31Rd_within_J9.ex) α
noncomputable def spec_l31Rd_within_J7.b {α : Type} (N : Nat) (v308 : Int) (v309 : Int) (v310 : Int) (v311 : Int) (v312 : (List Int) × Int × Unit) (v313 : Int × Int × Unit) (v314 : Int × Int × Unit) (k0 : Int → Int → ((List Int) × Int × Unit) → (Int × Int × Unit) → (Int × Int × Unit) → Option α) : Option α :=
  let x315 := (decide (v311 = (0 : Int)))
  bif x315 then
    spec_l31Rd_pick N (3 : Int) v312
      (fun x316 x317 =>
        let x318 := IntKind.u64.wrap x316
        let x319 := (IntKind.u64.wrap (v308 + (1 : Int)))
        bif (decide (x319 = (0 : Int))) then
          none
        else
          let x320 := Int.tmod x318 x319
          k0 x320 v310 x317 v313 v314)
  else
    spec_l31Rd_within_J9 N v308 v309 v310 v311 v312 v313 v314
      (fun x348 x349 x350 x351 x352 =>
        k0 x348 x349 x350 x351 x352)
theorem spec_l31Rd_within_J7.ex : ∃ f : ((α : Type) → Nat → Int → Int → Int → Int → ((List Int) × Int × Unit) → (Int × Int × Unit) → (Int × Int × Unit) → (Int → Int → ((List Int) × Int × Unit) → (Int × Int × Unit) → (Int × Int × Unit) → Option α) → Option α), f = fun α => @spec_l31Rd_within_J7.b α := ⟨_, rfl⟩
noncomputable def spec_l31Rd_within_J7 {α : Type} : Nat → Int → Int → Int → Int → ((List Int) × Int × Unit) → (Int × Int × Unit) → (Int × Int × Unit) → (Int → Int → ((List Int) × Int × Unit) → (Int × Int × Unit) → (Int × Int × Unit) → Option α) → Option α := Classical.choose spec_l31Rd_within_J7.ex α
theorem spec_l31Rd_within_J7.eq : @spec_l31Rd_within_J7 = @spec_l31Rd_within_J7.b := funext fun α => congrFun (Classical.choose_spec spec_l31Rd_within_J7.ex) α
noncomputable def spec_l31Rd_within_J13.b {α : Type} (N : Nat) (v358 : Int) (v359 : Int) (v360 : (List Int) × Int × Unit) (v361 : Int × Int × Unit) (v362 : Int × Int × Unit) (k0 : Int → Int → ((List Int) × Int × Unit) → (Int × Int × Unit) → (Int × Int × Unit) → Option α) : Option α :=
  let x363 := decide (v359 < v358)
  bif x363 then
    spec_l31Rd_pick N (12 : Int) v360
      (fun x364 x365 =>
        let x366 := (decide ((0 : Int) < x364))
        bif x366 then
          k0 v359 v358 x365 v361 v362
        else
          k0 v358 v359 x365 v361 v362)
  else
    k0 v358 v359 v360 v361 v362
theorem spec_l31Rd_within_J13.ex : ∃ f : ((α : Type) → Nat → Int → Int → ((List Int) × Int × Unit) → (Int × Int × Unit) → (Int × Int × Unit) → (Int → Int → ((List Int) × Int × Unit) → (Int × Int × Unit) → (Int × Int × Unit) → Option α) → Option α), f = fun α => @spec_l31Rd_within_J13.b α := ⟨_, rfl⟩
noncomputable def spec_l31Rd_within_J13 {α : Type} : Nat → Int → Int → ((List Int) × Int × Unit) → (Int × Int × Unit) → (Int × Int × Unit) → (Int → Int → ((List Int) × Int × Unit) → (Int × Int × Unit) → (Int × Int × Unit) → Option α) → Option α := Classical.choose spec_l31Rd_within_J13.ex α
theorem spec_l31Rd_within_J13.eq : @spec_l31Rd_within_J13 = @spec_l31Rd_within_J13.b := funext fun α => congrFun (Classical.choose_spec spec_l31Rd_within_J13.ex) α
/-- (*loop.example/pinfold/spec.l31Rd).within -/
noncomputable def spec_l31Rd_within.b {α : Type} (N : Nat) (a280 : Int) (a281 : Int × Int × Unit) (a282 : (List Int) × Int × Unit) (k0 : (Int × Int × Unit) → ((List Int) × Int × Unit) → Option α) : Option α :=
  spec_BitGap N a281.1 a281.2.1
    (fun x289 =>
      let x290 := (decide (x289 = (0 : Int)))
      bif x290 then
        spec_l31Rd_pair N a280 a282
          (fun x291 x292 =>
            k0 x291 x292)
      else
        spec_l31Rd_pick N (16 : Int) a282
          (fun x293 x294 =>
            let x295 := (decide (x293 = (0 : Int)))
            bif x295 then
              spec_l31Rd_pair N a280 x294
                (fun x296 x297 =>
                  k0 x296 x297)
            else
              spec_l31Rd_big N x294
                (fun x298 x299 =>
                  let x300 := (IntKind.u64.wrap (x289 + (1 : Int)))
                  bif (decide (x300 = (0 : Int))) then
                    none
                  else
                    let x301 := Int.tmod x298 x300
                    spec_l31Rd_big N x299
                      (fun x302 x303 =>
                        let x304 := (IntKind.u64.wrap (x289 + (1 : Int)))
                        bif (decide (x304 = (0 : Int))) then
                          none
                        else
                          let x305 := Int.tmod x302 x304
                          spec_l31Rd_pick N (5 : Int) x303
                            (fun x306 x307 =>
                              spec_l31Rd_within_J7 N x289 x301 x305 x306 x307 a281 ((0 : Int), ((0 : Int), ()))
                                (fun x353 x354 x355 x356 x357 =>
                                  spec_l31Rd_within_J13 N x353 x354 x355 x356 x357
                                    (fun x367 x368 x369 x370 _ =>
                                      let x372 := IntKind.u64.wrap x370.1
                                      let x373 := IntKind.u64.wrap (x372 + x367)
                                      let x374 := IntKind.i64.wrap x373
                                      let x375 := IntKind.u64.wrap x370.1
                                      let x376 := IntKind.u64.wrap (x375 + x368)
                                      let x377 := IntKind.i64.wrap x376
                                      k0 (x374, (x377, ())) x369)))))))
theorem spec_l31Rd_within.ex : ∃ f : ((α : Type) → Nat → Int → (Int × Int × Unit) → ((List Int) × Int × Unit) → ((Int × Int × Unit) → ((List Int) × Int × Unit) → Option α) → Option α), f = fun α => @spec_l31Rd_within.b α := ⟨_, rfl⟩
noncomputable def spec_l31Rd_within {α : Type} : Nat → Int → (Int × Int × Unit) → ((List Int) × Int × Unit) → ((Int × Int × Unit) → ((List Int) × Int × Unit) → Option α) → Option α := Classical.choose spec_l31Rd_within.ex α
theorem spec_l31Rd_within.eq : @spec_l31Rd_within = @spec_l31Rd_within.b := funext fun α => congrFun (Classical.choose_spec spec_l31Rd_within.ex) α

/-- loop.example/pinfold/spec.l31Pairs -/
noncomputable def spec_l31Pairs.b {α : Type} (N : Nat) (a8 : List Int) (k0 : Int → (Int × Int × Unit) → (Int × Int × Unit) → Option α) : Option α :=
  spec_l31Open N a8
    (fun x15 =>
      spec_l31Rd_width N x15
        (fun x59 x60 =>
          spec_l31Rd_good N x59 x60
            (fun x275 x276 =>
              spec_l31Rd_pick N (2 : Int) x276
                (fun x277 x278 =>
                  let x279 := (decide (x277 = (0 : Int)))
                  bif x279 then
                    spec_l31Rd_within N x59 x275 x278
                      (fun x378 _ =>
                        k0 x59 x378 x275)
                  else
                    spec_l31Rd_good N x59 x278
                      (fun x380 _ =>
                        k0 x59 x275 x380)))))
theorem spec_l31Pairs.ex : ∃ f : ((α : Type) → Nat → List Int → (Int → (Int × Int × Unit) → (Int × Int × Unit) → Option α) → Option α), f = fun α => @spec_l31Pairs.b α := ⟨_, rfl⟩
noncomputable def spec_l31Pairs {α : Type} : Nat → List Int → (Int → (Int × Int × Unit) → (Int × Int × Unit) → Option α) → Option α := Classical.choose spec_l31Pairs.ex α
theorem spec_l31Pairs.eq : @spec_l31Pairs = @spec_l31Pairs.b := funext fun α => congrFun (Classical.choose_spec spec_l31Pairs.ex) α

/-- loop.example/pinfold/spec.DrawPairCut -/
noncomputable def spec_DrawPairCut.b {α : Type} (N : Nat) (a7 : List Int) (k0 : Int → (Int × Int × Unit) → (Int × Int × Unit) → Option α) : Option α :=
  spec_l31Pairs N a7
    (fun x382 x383 x384 =>
      k0 x382 x384 x383)
theorem spec_DrawPairCut.ex : ∃ f : ((α : Type) → Nat → List Int → (Int → (Int × Int × Unit) → (Int × Int × Unit) → Option α) → Option α), f = fun α => @spec_DrawPairCut.b α := ⟨_, rfl⟩
noncomputable def spec_DrawPairCut {α : Type} : Nat → List Int → (Int → (Int × Int × Unit) → (Int × Int × Unit) → Option α) → Option α := Classical.choose spec_DrawPairCut.ex α
theorem spec_DrawPairCut.eq : @spec_DrawPairCut = @spec_DrawPairCut.b := funext fun α => congrFun (Classical.choose_spec spec_DrawPairCut.ex) α

/-- loop.example/pinfold/impl.formatOf -/
noncomputable def impl_formatOf.b {α : Type} (N : Nat) (a394 : Int) (k0 : (Int × Int × Int × Int × Unit) → Bool → Option α) : Option α :=
  let x395 := (decide (a394 = (32 : Int)))
  bif x395 then
    k0 ((23 : Int), ((-149 : Int), ((127 : Int), ((2139095040 : Int), ())))) true
  else
    let x396 := (decide (a394 = (64 : Int)))
    bif x396 then
      k0 ((52 : Int), ((-1074 : Int), ((1023 : Int), ((9218868437227405312 : Int), ())))) true
    else
      k0 ((0 : Int), ((0 : Int), ((0 : Int), ((0 : Int), ())))) false
theorem impl_formatOf.ex : ∃ f : ((α : Type) → Nat → Int → ((Int × Int × Int × Int × Unit) → Bool → Option α) → Option α), f = fun α => @impl_formatOf.b α := ⟨_, rfl⟩
noncomputable def impl_formatOf {α : Type} : Nat → Int → ((Int × Int × Int × Int × Unit) → Bool → Option α) → Option α := Classical.choose impl_formatOf.ex α
theorem impl_formatOf.eq : @impl_formatOf = @impl_formatOf.b := funext fun α => congrFun (Classical.choose_spec impl_formatOf.ex) α

/-- loop.example/pinfold/impl.BitTop -/
noncomputable def impl_BitTop.b {α : Type} (N : Nat) (a393 : Int) (k0 : Int → Option α) : Option α :=
  impl_formatOf N a393
    (fun x397 _ =>
      k0 x397.2.2.2.1)
theorem impl_BitTop.ex : ∃ f : ((α : Type) → Nat → Int → (Int → Option α) → Option α), f = fun α => @impl_BitTop.b α := ⟨_, rfl⟩
noncomputable def impl_BitTop {α : Type} : Nat → Int → (Int → Option α) → Option α := Classical.choose impl_BitTop.ex α
theorem impl_BitTop.eq : @impl_BitTop = @impl_BitTop.b := funext fun α => congrFun (Classical.choose_spec impl_BitTop.ex) α

/-- loop.example/pinfold/impl.in -/
noncomputable def impl_in.b {α : Type} (N : Nat) (a405 : Int) (a406 : Int) (a407 : Int) (k0 : Bool → Option α) : Option α :=
  let x408 := decide (a406 ≤ a405)
  bif x408 then
    let x409 := decide (a405 ≤ a407)
    k0 x409
  else
    k0 false
theorem impl_in.ex : ∃ f : ((α : Type) → Nat → Int → Int → Int → (Bool → Option α) → Option α), f = fun α => @impl_in.b α := ⟨_, rfl⟩
noncomputable def impl_in {α : Type} : Nat → Int → Int → Int → (Bool → Option α) → Option α := Classical.choose impl_in.ex α
theorem impl_in.eq : @impl_in = @impl_in.b := funext fun α => congrFun (Classical.choose_spec impl_in.ex) α

/-- loop.example/pinfold/impl.BitOk -/
noncomputable def impl_BitOk.b {α : Type} (N : Nat) (a400 : Int) (a401 : Int) (k0 : Bool → Option α) : Option α :=
  impl_formatOf N a400
    (fun x402 x403 =>
      bif x403 then
        let x404 := IntKind.i64.wrap (0 - x402.2.2.2.1)
        impl_in N a401 x404 x402.2.2.2.1
          (fun x410 =>
            k0 x410)
      else
        k0 false)
theorem impl_BitOk.ex : ∃ f : ((α : Type) → Nat → Int → Int → (Bool → Option α) → Option α), f = fun α => @impl_BitOk.b α := ⟨_, rfl⟩
noncomputable def impl_BitOk {α : Type} : Nat → Int → Int → (Bool → Option α) → Option α := Classical.choose impl_BitOk.ex α
theorem impl_BitOk.eq : @impl_BitOk = @impl_BitOk.b := funext fun α => congrFun (Classical.choose_spec impl_BitOk.ex) α

/-- loop.example/pinfold/impl.PairOk -/
noncomputable def impl_PairOk.b {α : Type} (N : Nat) (a391 : Int) (a392 : Int × Int × Unit) (k0 : Bool → Option α) : Option α :=
  impl_BitTop N a391
    (fun x399 =>
      impl_BitOk N a391 a392.1
        (fun x411 =>
          bif x411 then
            impl_BitOk N a391 a392.2.1
              (fun x412 =>
                bif x412 then
                  let x413 := decide (a392.1 ≤ a392.2.1)
                  bif x413 then
                    let x414 := !(decide (a392.1 = x399))
                    bif x414 then
                      let x415 := IntKind.i64.wrap (0 - x399)
                      let x416 := !(decide (a392.2.1 = x415))
                      k0 x416
                    else
                      k0 false
                  else
                    k0 false
                else
                  k0 false)
          else
            k0 false))
theorem impl_PairOk.ex : ∃ f : ((α : Type) → Nat → Int → (Int × Int × Unit) → (Bool → Option α) → Option α), f = fun α => @impl_PairOk.b α := ⟨_, rfl⟩
noncomputable def impl_PairOk {α : Type} : Nat → Int → (Int × Int × Unit) → (Bool → Option α) → Option α := Classical.choose impl_PairOk.ex α
theorem impl_PairOk.eq : @impl_PairOk = @impl_PairOk.b := funext fun α => congrFun (Classical.choose_spec impl_PairOk.ex) α

/-- loop.example/pinfold/impl.BitGap -/
noncomputable def impl_BitGap.b {α : Type} (N : Nat) (a425 : Int) (a426 : Int) (k0 : Int → Option α) : Option α :=
  let x427 := decide (a426 < a425)
  bif x427 then
    k0 (0 : Int)
  else
    let x428 := IntKind.u64.wrap a426
    let x429 := IntKind.u64.wrap a425
    let x430 := IntKind.u64.wrap (x428 - x429)
    k0 x430
theorem impl_BitGap.ex : ∃ f : ((α : Type) → Nat → Int → Int → (Int → Option α) → Option α), f = fun α => @impl_BitGap.b α := ⟨_, rfl⟩
noncomputable def impl_BitGap {α : Type} : Nat → Int → Int → (Int → Option α) → Option α := Classical.choose impl_BitGap.ex α
theorem impl_BitGap.eq : @impl_BitGap = @impl_BitGap.b := funext fun α => congrFun (Classical.choose_spec impl_BitGap.ex) α

/-- (loop.example/pinfold/impl.Pair).steps -/
noncomputable def impl_Pair_steps.b {α : Type} (N : Nat) (a424 : Int × Int × Unit) (k0 : Int → Option α) : Option α :=
  impl_BitGap N a424.1 a424.2.1
    (fun x431 =>
      k0 x431)
theorem impl_Pair_steps.ex : ∃ f : ((α : Type) → Nat → (Int × Int × Unit) → (Int → Option α) → Option α), f = fun α => @impl_Pair_steps.b α := ⟨_, rfl⟩
noncomputable def impl_Pair_steps {α : Type} : Nat → (Int × Int × Unit) → (Int → Option α) → Option α := Classical.choose impl_Pair_steps.ex α
theorem impl_Pair_steps.eq : @impl_Pair_steps = @impl_Pair_steps.b := funext fun α => congrFun (Classical.choose_spec impl_Pair_steps.ex) α

/-- loop.example/pinfold/impl.PairCut -/
noncomputable def impl_PairCut.b {α : Type} (N : Nat) (a388 : Int) (a389 : Int × Int × Unit) (a390 : Int × Int × Unit) (k0 : (Int × Int × Unit) → (Int × Int × Unit) → Bool → Option α) : Option α :=
  impl_PairOk N a388 a389
    (fun x417 =>
      let x418 := !x417
      bif x418 then
        k0 ((0 : Int), ((0 : Int), ())) ((0 : Int), ((0 : Int), ())) false
      else
        let x419 := decide (a390.2.1 ≤ a390.1)
        bif x419 then
          k0 ((0 : Int), ((0 : Int), ())) ((0 : Int), ((0 : Int), ())) false
        else
          impl_PairOk N a388 (a389.1, (a390.1, ()))
            (fun x420 =>
              let x421 := !x420
              bif x421 then
                k0 ((0 : Int), ((0 : Int), ())) ((0 : Int), ((0 : Int), ())) false
              else
                impl_PairOk N a388 (a390.2.1, (a389.2.1, ()))
                  (fun x422 =>
                    let x423 := !x422
                    bif x423 then
                      k0 ((0 : Int), ((0 : Int), ())) ((0 : Int), ((0 : Int), ())) false
                    else
                      impl_Pair_steps N (a390.2.1, (a389.2.1, ()))
                        (fun x432 =>
                          impl_Pair_steps N (a389.1, (a390.1, ()))
                            (fun x433 =>
                              let x434 := decide (x432 < x433)
                              bif x434 then
                                k0 (a390.2.1, (a389.2.1, ())) (a389.1, (a390.1, ())) true
                              else
                                k0 (a389.1, (a390.1, ())) (a390.2.1, (a389.2.1, ())) true)))))
theorem impl_PairCut.ex : ∃ f : ((α : Type) → Nat → Int → (Int × Int × Unit) → (Int × Int × Unit) → ((Int × Int × Unit) → (Int × Int × Unit) → Bool → Option α) → Option α), f = fun α => @impl_PairCut.b α := ⟨_, rfl⟩
noncomputable def impl_PairCut {α : Type} : Nat → Int → (Int × Int × Unit) → (Int × Int × Unit) → ((Int × Int × Unit) → (Int × Int × Unit) → Bool → Option α) → Option α := Classical.choose impl_PairCut.ex α
theorem impl_PairCut.eq : @impl_PairCut = @impl_PairCut.b := funext fun α => congrFun (Classical.choose_spec impl_PairCut.ex) α

/-- loop.example/pinfold/spec.l3Gap -/
noncomputable def spec_l3Gap.b {α : Type} (N : Nat) (a448 : Int × Int × Unit) (k0 : Int → Option α) : Option α :=
  spec_BitGap N a448.1 a448.2.1
    (fun x449 =>
      k0 x449)
theorem spec_l3Gap.ex : ∃ f : ((α : Type) → Nat → (Int × Int × Unit) → (Int → Option α) → Option α), f = fun α => @spec_l3Gap.b α := ⟨_, rfl⟩
noncomputable def spec_l3Gap {α : Type} : Nat → (Int × Int × Unit) → (Int → Option α) → Option α := Classical.choose spec_l3Gap.ex α
theorem spec_l3Gap.eq : @spec_l3Gap = @spec_l3Gap.b := funext fun α => congrFun (Classical.choose_spec spec_l3Gap.ex) α

/-- loop.example/pinfold/spec.PairCut -/
noncomputable def spec_PairCut.b {α : Type} (N : Nat) (a438 : Int) (a439 : Int × Int × Unit) (a440 : Int × Int × Unit) (k0 : (Int × Int × Unit) → (Int × Int × Unit) → Bool → Option α) : Option α :=
  spec_PairOk N a438 a439
    (fun x441 =>
      let x442 := !x441
      bif x442 then
        k0 ((0 : Int), ((0 : Int), ())) ((0 : Int), ((0 : Int), ())) false
      else
        let x443 := decide (a440.2.1 ≤ a440.1)
        bif x443 then
          k0 ((0 : Int), ((0 : Int), ())) ((0 : Int), ((0 : Int), ())) false
        else
          spec_PairOk N a438 (a439.1, (a440.1, ()))
            (fun x444 =>
              let x445 := !x444
              bif x445 then
                k0 ((0 : Int), ((0 : Int), ())) ((0 : Int), ((0 : Int), ())) false
              else
                spec_PairOk N a438 (a440.2.1, (a439.2.1, ()))
                  (fun x446 =>
                    let x447 := !x446
                    bif x447 then
                      k0 ((0 : Int), ((0 : Int), ())) ((0 : Int), ((0 : Int), ())) false
                    else
                      spec_l3Gap N (a440.2.1, (a439.2.1, ()))
                        (fun x450 =>
                          spec_l3Gap N (a439.1, (a440.1, ()))
                            (fun x451 =>
                              let x452 := decide (x450 < x451)
                              bif x452 then
                                k0 (a440.2.1, (a439.2.1, ())) (a439.1, (a440.1, ())) true
                              else
                                k0 (a439.1, (a440.1, ())) (a440.2.1, (a439.2.1, ())) true)))))
theorem spec_PairCut.ex : ∃ f : ((α : Type) → Nat → Int → (Int × Int × Unit) → (Int × Int × Unit) → ((Int × Int × Unit) → (Int × Int × Unit) → Bool → Option α) → Option α), f = fun α => @spec_PairCut.b α := ⟨_, rfl⟩
noncomputable def spec_PairCut {α : Type} : Nat → Int → (Int × Int × Unit) → (Int × Int × Unit) → ((Int × Int × Unit) → (Int × Int × Unit) → Bool → Option α) → Option α := Classical.choose spec_PairCut.ex α
theorem spec_PairCut.eq : @spec_PairCut = @spec_PairCut.b := funext fun α => congrFun (Classical.choose_spec spec_PairCut.ex) α

/-- loop.example/pinfold/impl.PairIs -/
noncomputable def impl_PairIs.b {α : Type} (N : Nat) (a467 : Int × Int × Unit) (a468 : Int × Int × Unit) (k0 : Bool → Option α) : Option α :=
  let x469 := decide (a468.1 ≤ a467.1)
  bif x469 then
    let x470 := decide (a467.2.1 ≤ a468.2.1)
    k0 x470
  else
    k0 false
theorem impl_PairIs.ex : ∃ f : ((α : Type) → Nat → (Int × Int × Unit) → (Int × Int × Unit) → (Bool → Option α) → Option α), f = fun α => @impl_PairIs.b α := ⟨_, rfl⟩
noncomputable def impl_PairIs {α : Type} : Nat → (Int × Int × Unit) → (Int × Int × Unit) → (Bool → Option α) → Option α := Classical.choose impl_PairIs.ex α
theorem impl_PairIs.eq : @impl_PairIs = @impl_PairIs.b := funext fun α => congrFun (Classical.choose_spec impl_PairIs.ex) α

noncomputable def spec_GoodPair_J4.b {α : Type} (N : Nat) (v486 : Int) (v487 : Int × Int × Unit) (v488 : Int × Int × Unit) (k0 : Int → (Int × Int × Unit) → (Int × Int × Unit) → Option α) : Option α :=
  spec_PairOk N v486 v488
    (fun x489 =>
      let x490 := !x489
      bif x490 then
        k0 v486 v487 ((-5 : Int), ((9 : Int), ()))
      else
        k0 v486 v487 v488)
theorem spec_GoodPair_J4.ex : ∃ f : ((α : Type) → Nat → Int → (Int × Int × Unit) → (Int × Int × Unit) → (Int → (Int × Int × Unit) → (Int × Int × Unit) → Option α) → Option α), f = fun α => @spec_GoodPair_J4.b α := ⟨_, rfl⟩
noncomputable def spec_GoodPair_J4 {α : Type} : Nat → Int → (Int × Int × Unit) → (Int × Int × Unit) → (Int → (Int × Int × Unit) → (Int × Int × Unit) → Option α) → Option α := Classical.choose spec_GoodPair_J4.ex α
theorem spec_GoodPair_J4.eq : @spec_GoodPair_J4 = @spec_GoodPair_J4.b := funext fun α => congrFun (Classical.choose_spec spec_GoodPair_J4.ex) α
/-- loop.example/pinfold/spec.GoodPair -/
noncomputable def spec_GoodPair.b {α : Type} (N : Nat) (a478 : List Int) (k0 : Int → (Int × Int × Unit) → Option α) : Option α :=
  spec_l31Open N a478
    (fun x479 =>
      let x480 := [(32 : Int), (64 : Int)]
      spec_l31Rd_pick N (2 : Int) x479
        (fun x481 x482 =>
          bif (decide (x481 < (0 : Int))) then
            none
          else
            bif decide (x481.toNat < x480.length) then
              match x480[x481.toNat]? with
              | some x483 =>
                spec_l31Rd_good N x483 x482
                  (fun x484 _ =>
                    spec_GoodPair_J4 N x483 ((0 : Int), ((0 : Int), ())) x484
                      (fun x491 _ x493 =>
                        k0 x491 x493))
              | none => none
            else
              none))
theorem spec_GoodPair.ex : ∃ f : ((α : Type) → Nat → List Int → (Int → (Int × Int × Unit) → Option α) → Option α), f = fun α => @spec_GoodPair.b α := ⟨_, rfl⟩
noncomputable def spec_GoodPair {α : Type} : Nat → List Int → (Int → (Int × Int × Unit) → Option α) → Option α := Classical.choose spec_GoodPair.ex α
theorem spec_GoodPair.eq : @spec_GoodPair = @spec_GoodPair.b := funext fun α => congrFun (Classical.choose_spec spec_GoodPair.ex) α

noncomputable def laws_FnPairCut_J20.b {α : Type} (N : Nat) (v503 : Int) (v504 : Int) (v505 : Int × Int × Unit) (v506 : Int × Int × Unit) (v507 : Int × Int × Unit) (v508 : Int × Int × Unit) (v509 : Int × Int × Unit) (k0 : Int → Int → (Int × Int × Unit) → (Int × Int × Unit) → (Int × Int × Unit) → (Int × Int × Unit) → (Int × Int × Unit) → Option α) : Option α :=
  let x510 := (decide (v503 = (1 : Int)))
  bif x510 then
    k0 v503 v506.1 v505 v506 v507 v508 v509
  else
    k0 v503 v504 v505 v506 v507 v508 v509
theorem laws_FnPairCut_J20.ex : ∃ f : ((α : Type) → Nat → Int → Int → (Int × Int × Unit) → (Int × Int × Unit) → (Int × Int × Unit) → (Int × Int × Unit) → (Int × Int × Unit) → (Int → Int → (Int × Int × Unit) → (Int × Int × Unit) → (Int × Int × Unit) → (Int × Int × Unit) → (Int × Int × Unit) → Option α) → Option α), f = fun α => @laws_FnPairCut_J20.b α := ⟨_, rfl⟩
noncomputable def laws_FnPairCut_J20 {α : Type} : Nat → Int → Int → (Int × Int × Unit) → (Int × Int × Unit) → (Int × Int × Unit) → (Int × Int × Unit) → (Int × Int × Unit) → (Int → Int → (Int × Int × Unit) → (Int × Int × Unit) → (Int × Int × Unit) → (Int × Int × Unit) → (Int × Int × Unit) → Option α) → Option α := Classical.choose laws_FnPairCut_J20.ex α
theorem laws_FnPairCut_J20.eq : @laws_FnPairCut_J20 = @laws_FnPairCut_J20.b := funext fun α => congrFun (Classical.choose_spec laws_FnPairCut_J20.ex) α
noncomputable def laws_FnPairCut_J22.b {α : Type} (N : Nat) (v518 : Int) (v519 : Int) (v520 : Int × Int × Unit) (v521 : Int × Int × Unit) (v522 : Int × Int × Unit) (v523 : Int × Int × Unit) (v524 : Int × Int × Unit) (k0 : Int → Int → (Int × Int × Unit) → (Int × Int × Unit) → (Int × Int × Unit) → (Int × Int × Unit) → (Int × Int × Unit) → Option α) : Option α :=
  let x525 := (decide (v518 = (2 : Int)))
  bif x525 then
    k0 v518 v521.2.1 v520 v521 v522 v523 v524
  else
    k0 v518 v519 v520 v521 v522 v523 v524
theorem laws_FnPairCut_J22.ex : ∃ f : ((α : Type) → Nat → Int → Int → (Int × Int × Unit) → (Int × Int × Unit) → (Int × Int × Unit) → (Int × Int × Unit) → (Int × Int × Unit) → (Int → Int → (Int × Int × Unit) → (Int × Int × Unit) → (Int × Int × Unit) → (Int × Int × Unit) → (Int × Int × Unit) → Option α) → Option α), f = fun α => @laws_FnPairCut_J22.b α := ⟨_, rfl⟩
noncomputable def laws_FnPairCut_J22 {α : Type} : Nat → Int → Int → (Int × Int × Unit) → (Int × Int × Unit) → (Int × Int × Unit) → (Int × Int × Unit) → (Int × Int × Unit) → (Int → Int → (Int × Int × Unit) → (Int × Int × Unit) → (Int × Int × Unit) → (Int × Int × Unit) → (Int × Int × Unit) → Option α) → Option α := Classical.choose laws_FnPairCut_J22.ex α
theorem laws_FnPairCut_J22.eq : @laws_FnPairCut_J22 = @laws_FnPairCut_J22.b := funext fun α => congrFun (Classical.choose_spec laws_FnPairCut_J22.ex) α
noncomputable def laws_FnPairCut_L0r {α : Type} (N : Nat) (next : Int → (Int × Int × Unit) → (Int × Int × Unit) → (Int × Int × Unit) → (Int × Int × Unit) → (Int × Int × Unit) → Option α) (k0 : Bool → Option α) (k1 : Option α) (v496 : Int) (v497 : Int × Int × Unit) (v498 : Int × Int × Unit) (v499 : Int × Int × Unit) (v500 : Int × Int × Unit) (v501 : Int × Int × Unit) : Option α :=
  let x502 := (decide (v496 < (3 : Int)))
  bif x502 then
    laws_FnPairCut_J20 N v496 v501.1 v497 v498 v499 v500 v501
      (fun x511 x512 x513 x514 x515 x516 x517 =>
        laws_FnPairCut_J22 N x511 x512 x513 x514 x515 x516 x517
          (fun x526 x527 x528 x529 x530 x531 x532 =>
            impl_PairIs N (x527, (x527, ())) x530
              (fun x533 =>
                bif x533 then
                  impl_PairIs N (x527, (x527, ())) x528
                    (fun x534 =>
                      bif x534 then
                        let x535 := decide (x527 ≤ x529.1)
                        bif x535 then
                          let x536 := !(true == true)
                          bif x536 then
                            k0 false
                          else
                            let x537 := (IntKind.i64.wrap (x526 + (1 : Int)))
                            next x537 x528 x529 x530 x531 x532
                        else
                          let x538 := decide (x529.2.1 ≤ x527)
                          let x539 := !(true == x538)
                          bif x539 then
                            k0 false
                          else
                            let x540 := (IntKind.i64.wrap (x526 + (1 : Int)))
                            next x540 x528 x529 x530 x531 x532
                      else
                        let x541 := !(true == false)
                        bif x541 then
                          k0 false
                        else
                          let x542 := (IntKind.i64.wrap (x526 + (1 : Int)))
                          next x542 x528 x529 x530 x531 x532)
                else
                  impl_PairIs N (x527, (x527, ())) x531
                    (fun x543 =>
                      impl_PairIs N (x527, (x527, ())) x528
                        (fun x544 =>
                          bif x544 then
                            let x545 := decide (x527 ≤ x529.1)
                            bif x545 then
                              let x546 := !(x543 == true)
                              bif x546 then
                                k0 false
                              else
                                let x547 := (IntKind.i64.wrap (x526 + (1 : Int)))
                                next x547 x528 x529 x530 x531 x532
                            else
                              let x548 := decide (x529.2.1 ≤ x527)
                              let x549 := !(x543 == x548)
                              bif x549 then
                                k0 false
                              else
                                let x550 := (IntKind.i64.wrap (x526 + (1 : Int)))
                                next x550 x528 x529 x530 x531 x532
                          else
                            let x551 := !(x543 == false)
                            bif x551 then
                              k0 false
                            else
                              let x552 := (IntKind.i64.wrap (x526 + (1 : Int)))
                              next x552 x528 x529 x530 x531 x532)))))
  else
    k1
noncomputable def laws_FnPairCut_L0.b {α : Type} (N n : Nat) (v496 : Int) (v497 : Int × Int × Unit) (v498 : Int × Int × Unit) (v499 : Int × Int × Unit) (v500 : Int × Int × Unit) (v501 : Int × Int × Unit) (k0 : Bool → Option α) (k1 : Option α) : Option α :=
  Nat.rec (motive := fun _ => Int → (Int × Int × Unit) → (Int × Int × Unit) → (Int × Int × Unit) → (Int × Int × Unit) → (Int × Int × Unit) → Option α) (fun _ _ _ _ _ _ => none) (fun _ next => laws_FnPairCut_L0r N next k0 k1) n v496 v497 v498 v499 v500 v501
theorem laws_FnPairCut_L0.ex : ∃ f : ((α : Type) → Nat → Nat → Int → (Int × Int × Unit) → (Int × Int × Unit) → (Int × Int × Unit) → (Int × Int × Unit) → (Int × Int × Unit) → (Bool → Option α) → (Option α) → Option α), f = fun α => @laws_FnPairCut_L0.b α := ⟨_, rfl⟩
noncomputable def laws_FnPairCut_L0 {α : Type} : Nat → Nat → Int → (Int × Int × Unit) → (Int × Int × Unit) → (Int × Int × Unit) → (Int × Int × Unit) → (Int × Int × Unit) → (Bool → Option α) → (Option α) → Option α := Classical.choose laws_FnPairCut_L0.ex α
theorem laws_FnPairCut_L0.eq : @laws_FnPairCut_L0 = @laws_FnPairCut_L0.b := funext fun α => congrFun (Classical.choose_spec laws_FnPairCut_L0.ex) α
theorem laws_FnPairCut_L0.zero {α : Type} (N : Nat) (v496 : Int) (v497 : Int × Int × Unit) (v498 : Int × Int × Unit) (v499 : Int × Int × Unit) (v500 : Int × Int × Unit) (v501 : Int × Int × Unit) (k0 : Bool → Option α) (k1 : Option α) : laws_FnPairCut_L0 N 0 v496 v497 v498 v499 v500 v501 k0 k1 = none := by rw [laws_FnPairCut_L0.eq]; rfl
theorem laws_FnPairCut_L0.succ {α : Type} (N n : Nat) (v496 : Int) (v497 : Int × Int × Unit) (v498 : Int × Int × Unit) (v499 : Int × Int × Unit) (v500 : Int × Int × Unit) (v501 : Int × Int × Unit) (k0 : Bool → Option α) (k1 : Option α) : laws_FnPairCut_L0 N (n + 1) v496 v497 v498 v499 v500 v501 k0 k1 = laws_FnPairCut_L0r N (fun y0 y1 y2 y3 y4 y5 => laws_FnPairCut_L0 N n y0 y1 y2 y3 y4 y5 k0 k1) k0 k1 v496 v497 v498 v499 v500 v501 := by rw [laws_FnPairCut_L0.eq]; rfl
/-- loop.example/pinfold/laws.FnPairCut -/
noncomputable def laws_FnPairCut.b {α : Type} (N : Nat) (a1 : List Int) (a2 : List Int) (k0 : Bool → Option α) : Option α :=
  let x3 := ((a1.length : Nat) : Int)
  let x4 := (decide ((1048576 : Int) < x3))
  bif x4 then
    k0 true
  else
    let x5 := ((a2.length : Nat) : Int)
    let x6 := (decide ((1048576 : Int) < x5))
    bif x6 then
      k0 true
    else
      spec_DrawPairCut N a1
        (fun x385 x386 x387 =>
          impl_PairCut N x385 x386 x387
            (fun x435 x436 x437 =>
              spec_PairCut N x385 x386 x387
                (fun _ _ x455 =>
                  let x456 := !(x437 == x455)
                  bif x456 then
                    k0 false
                  else
                    let x457 := !x437
                    bif x457 then
                      let x458 := ((decide (x435.1 = (0 : Int))) && ((decide (x435.2.1 = (0 : Int))) && true))
                      bif x458 then
                        let x459 := ((decide (x436.1 = (0 : Int))) && ((decide (x436.2.1 = (0 : Int))) && true))
                        k0 x459
                      else
                        k0 false
                    else
                      impl_BitGap N x386.1 x386.2.1
                        (fun x460 =>
                          impl_BitGap N x435.1 x435.2.1
                            (fun x461 =>
                              impl_BitGap N x436.1 x436.2.1
                                (fun x462 =>
                                  impl_PairOk N x385 x435
                                    (fun x463 =>
                                      let x464 := !x463
                                      bif x464 then
                                        k0 false
                                      else
                                        impl_PairOk N x385 x436
                                          (fun x465 =>
                                            let x466 := !x465
                                            bif x466 then
                                              k0 false
                                            else
                                              impl_PairIs N x435 x386
                                                (fun x471 =>
                                                  let x472 := !x471
                                                  bif x472 then
                                                    k0 false
                                                  else
                                                    impl_PairIs N x436 x386
                                                      (fun x473 =>
                                                        let x474 := !x473
                                                        bif x474 then
                                                          k0 false
                                                        else
                                                          let x475 := decide (x462 < x461)
                                                          bif x475 then
                                                            k0 false
                                                          else
                                                            let x476 := decide (x460 ≤ x461)
                                                            bif x476 then
                                                              k0 false
                                                            else
                                                              let x477 := decide (x460 ≤ x462)
                                                              bif x477 then
                                                                k0 false
                                                              else
                                                                spec_GoodPair N a2
                                                                  (fun _ x495 =>
                                                                    laws_FnPairCut_L0 N N (0 : Int) x386 x387 x435 x436 x495
                                                                      (fun x553 =>
                                                                        k0 x553)
                                                                      (
                                                                        k0 true))))))))))))
theorem laws_FnPairCut.ex : ∃ f : ((α : Type) → Nat → List Int → List Int → (Bool → Option α) → Option α), f = fun α => @laws_FnPairCut.b α := ⟨_, rfl⟩
noncomputable def laws_FnPairCut {α : Type} : Nat → List Int → List Int → (Bool → Option α) → Option α := Classical.choose laws_FnPairCut.ex α
theorem laws_FnPairCut.eq : @laws_FnPairCut = @laws_FnPairCut.b := funext fun α => congrFun (Classical.choose_spec laws_FnPairCut.ex) α

end
end Go.Proofs.YtaelbfbplamahaaAm
