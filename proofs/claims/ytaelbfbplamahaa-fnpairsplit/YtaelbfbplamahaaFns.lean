/-
  The functions that the program computes, as the abstract machine tells them. Printed by amp.py.
-/
import Derived.Test.YtaelbfbplamahaaAmb
namespace Go.Proofs.YtaelbfbplamahaaAm
open Go
noncomputable section
set_option linter.unusedVariables false
set_option linter.unusedSimpArgs false

noncomputable def spec_l31Open_J1.b {α : Type} (N : Nat) (v9 : List Int) (k0 : List Int → Option α) : Option α :=
  let x10 := ((v9.length : Nat) : Int)
  let x11 := (decide ((2000 : Int) < x10))
  bif x11 then
    bif (decide ((2000 : Int) ≤ ((v9.length : Nat) : Int))) then
      let x12 := v9.take 2000
      k0 x12
    else
      none
  else
    k0 v9
theorem spec_l31Open_J1.ex : ∃ f : ((α : Type) → Nat → List Int → (List Int → Option α) → Option α), f = fun α => @spec_l31Open_J1.b α := ⟨_, rfl⟩
noncomputable def spec_l31Open_J1 {α : Type} : Nat → List Int → (List Int → Option α) → Option α := Classical.choose spec_l31Open_J1.ex α
theorem spec_l31Open_J1.eq : @spec_l31Open_J1 = @spec_l31Open_J1.b := funext fun α => congrFun (Classical.choose_spec spec_l31Open_J1.ex) α
/-- loop.example/pinfold/spec.l31Open -/
noncomputable def spec_l31Open.b {α : Type} (N : Nat) (a8 : List Int) (k0 : ((List Int) × Int × Unit) → Option α) : Option α :=
  spec_l31Open_J1 N a8
    (fun x13 =>
      k0 (x13, ((0 : Int), ())))
theorem spec_l31Open.ex : ∃ f : ((α : Type) → Nat → List Int → (((List Int) × Int × Unit) → Option α) → Option α), f = fun α => @spec_l31Open.b α := ⟨_, rfl⟩
noncomputable def spec_l31Open {α : Type} : Nat → List Int → (((List Int) × Int × Unit) → Option α) → Option α := Classical.choose spec_l31Open.ex α
theorem spec_l31Open.eq : @spec_l31Open = @spec_l31Open.b := funext fun α => congrFun (Classical.choose_spec spec_l31Open.ex) α

/-- (*loop.example/pinfold/spec.l31Rd).pick -/
noncomputable def spec_l31Rd_pick.b {α : Type} (N : Nat) (a16 : Int) (a17 : (List Int) × Int × Unit) (k0 : Int → ((List Int) × Int × Unit) → Option α) : Option α :=
  let x18 := (IntKind.i64.wrap (a17.2.1 + (1 : Int)))
  let x19 := (decide (a16 < (1 : Int)))
  bif x19 then
    k0 (0 : Int) (a17.1, (x18, ()))
  else
    let x20 := ((a17.1.length : Nat) : Int)
    let x21 := (decide (x20 = (0 : Int)))
    bif x21 then
      k0 (0 : Int) (a17.1, (x18, ()))
    else
      let x22 := (IntKind.i64.wrap (x18 - (1 : Int)))
      let x23 := ((a17.1.length : Nat) : Int)
      let x24 := decide (x22 < x23)
      bif x24 then
        bif (decide (x22 < (0 : Int))) then
          none
        else
          match a17.1[x22.toNat]? with
          | some x25 =>
            let x26 := IntKind.i64.wrap x25
            bif (decide (a16 = (0 : Int))) then
              none
            else
              let x27 := Int.tmod x26 a16
              k0 x27 (a17.1, (x18, ()))
          | none => none
      else
        let x28 := ((a17.1.length : Nat) : Int)
        bif (decide (x28 = (0 : Int))) then
          none
        else
          let x29 := Int.tmod x22 x28
          bif (decide (x29 < (0 : Int))) then
            none
          else
            match a17.1[x29.toNat]? with
            | some x30 =>
              let x31 := IntKind.i64.wrap x30
              let x32 := (IntKind.i64.wrap (x31 * (131 : Int)))
              let x33 := (IntKind.i64.wrap (x22 * (7 : Int)))
              let x34 := (IntKind.i64.wrap (x33 + (3 : Int)))
              let x35 := ((a17.1.length : Nat) : Int)
              bif (decide (x35 = (0 : Int))) then
                none
              else
                let x36 := Int.tmod x34 x35
                bif (decide (x36 < (0 : Int))) then
                  none
                else
                  match a17.1[x36.toNat]? with
                  | some x37 =>
                    let x38 := IntKind.i64.wrap x37
                    let x39 := (IntKind.i64.wrap (x38 * (1117 : Int)))
                    let x40 := IntKind.i64.wrap (x32 + x39)
                    let x41 := (IntKind.i64.wrap (x22 * (29 : Int)))
                    let x42 := IntKind.i64.wrap (x40 + x41)
                    let x43 := ((a17.1.length : Nat) : Int)
                    bif (decide (x43 = (0 : Int))) then
                      none
                    else
                      let x44 := IntKind.i64.wrap (Int.tdiv x22 x43)
                      let x45 := (IntKind.i64.wrap (x44 * (53 : Int)))
                      let x46 := IntKind.i64.wrap (x42 + x45)
                      let x47 := (IntKind.i64.wrap (Int.tdiv x46 (64 : Int)))
                      let x48 := bitI .xor .i64 x46 x47
                      bif (decide (a16 = (0 : Int))) then
                        none
                      else
                        let x49 := Int.tmod x48 a16
                        k0 x49 (a17.1, (x18, ()))
                  | none => none
            | none => none
theorem spec_l31Rd_pick.ex : ∃ f : ((α : Type) → Nat → Int → ((List Int) × Int × Unit) → (Int → ((List Int) × Int × Unit) → Option α) → Option α), f = fun α => @spec_l31Rd_pick.b α := ⟨_, rfl⟩
noncomputable def spec_l31Rd_pick {α : Type} : Nat → Int → ((List Int) × Int × Unit) → (Int → ((List Int) × Int × Unit) → Option α) → Option α := Classical.choose spec_l31Rd_pick.ex α
theorem spec_l31Rd_pick.eq : @spec_l31Rd_pick = @spec_l31Rd_pick.b := funext fun α => congrFun (Classical.choose_spec spec_l31Rd_pick.ex) α

/-- loop.example/pinfold/spec.BitTop -/
noncomputable def spec_BitTop.b {α : Type} (N : Nat) (a59 : Int) (k0 : Int → Option α) : Option α :=
  let x60 := (decide (a59 = (32 : Int)))
  bif x60 then
    k0 (2139095040 : Int)
  else
    let x61 := (decide (a59 = (64 : Int)))
    bif x61 then
      k0 (9218868437227405312 : Int)
    else
      k0 (0 : Int)
theorem spec_BitTop.ex : ∃ f : ((α : Type) → Nat → Int → (Int → Option α) → Option α), f = fun α => @spec_BitTop.b α := ⟨_, rfl⟩
noncomputable def spec_BitTop {α : Type} : Nat → Int → (Int → Option α) → Option α := Classical.choose spec_BitTop.ex α
theorem spec_BitTop.eq : @spec_BitTop = @spec_BitTop.b := funext fun α => congrFun (Classical.choose_spec spec_BitTop.ex) α

noncomputable def spec_l31Rd_big_L0r {α : Type} (N : Nat) (next : Int → Int → ((List Int) × Int × Unit) → Option α) (k0 : Int → ((List Int) × Int × Unit) → Option α) (v120 : Int) (v121 : Int) (v122 : (List Int) × Int × Unit) : Option α :=
  let x123 := (decide (v121 < (8 : Int)))
  bif x123 then
    let x124 := (IntKind.u64.wrap (v120 * (256 : Int)))
    spec_l31Rd_pick N (256 : Int) v122
      (fun x125 x126 =>
        let x127 := IntKind.u64.wrap x125
        let x128 := IntKind.u64.wrap (x124 + x127)
        let x129 := (IntKind.i64.wrap (v121 + (1 : Int)))
        next x128 x129 x126)
  else
    k0 v120 v122
noncomputable def spec_l31Rd_big_L0.b {α : Type} (N n : Nat) (v120 : Int) (v121 : Int) (v122 : (List Int) × Int × Unit) (k0 : Int → ((List Int) × Int × Unit) → Option α) : Option α :=
  Nat.rec (motive := fun _ => Int → Int → ((List Int) × Int × Unit) → Option α) (fun _ _ _ => none) (fun _ next => spec_l31Rd_big_L0r N next k0) n v120 v121 v122
theorem spec_l31Rd_big_L0.ex : ∃ f : ((α : Type) → Nat → Nat → Int → Int → ((List Int) × Int × Unit) → (Int → ((List Int) × Int × Unit) → Option α) → Option α), f = fun α => @spec_l31Rd_big_L0.b α := ⟨_, rfl⟩
noncomputable def spec_l31Rd_big_L0 {α : Type} : Nat → Nat → Int → Int → ((List Int) × Int × Unit) → (Int → ((List Int) × Int × Unit) → Option α) → Option α := Classical.choose spec_l31Rd_big_L0.ex α
theorem spec_l31Rd_big_L0.eq : @spec_l31Rd_big_L0 = @spec_l31Rd_big_L0.b := funext fun α => congrFun (Classical.choose_spec spec_l31Rd_big_L0.ex) α
theorem spec_l31Rd_big_L0.zero {α : Type} (N : Nat) (v120 : Int) (v121 : Int) (v122 : (List Int) × Int × Unit) (k0 : Int → ((List Int) × Int × Unit) → Option α) : spec_l31Rd_big_L0 N 0 v120 v121 v122 k0 = none := by rw [spec_l31Rd_big_L0.eq]; rfl
theorem spec_l31Rd_big_L0.succ {α : Type} (N n : Nat) (v120 : Int) (v121 : Int) (v122 : (List Int) × Int × Unit) (k0 : Int → ((List Int) × Int × Unit) → Option α) : spec_l31Rd_big_L0 N (n + 1) v120 v121 v122 k0 = spec_l31Rd_big_L0r N (fun y0 y1 y2 => spec_l31Rd_big_L0 N n y0 y1 y2 k0) k0 v120 v121 v122 := by rw [spec_l31Rd_big_L0.eq]; rfl
/-- (*loop.example/pinfold/spec.l31Rd).big -/
noncomputable def spec_l31Rd_big.b {α : Type} (N : Nat) (a119 : (List Int) × Int × Unit) (k0 : Int → ((List Int) × Int × Unit) → Option α) : Option α :=
  spec_l31Rd_big_L0 N N (0 : Int) (0 : Int) a119
    (fun x130 x131 =>
      k0 x130 x131)
theorem spec_l31Rd_big.ex : ∃ f : ((α : Type) → Nat → ((List Int) × Int × Unit) → (Int → ((List Int) × Int × Unit) → Option α) → Option α), f = fun α => @spec_l31Rd_big.b α := ⟨_, rfl⟩
noncomputable def spec_l31Rd_big {α : Type} : Nat → ((List Int) × Int × Unit) → (Int → ((List Int) × Int × Unit) → Option α) → Option α := Classical.choose spec_l31Rd_big.ex α
theorem spec_l31Rd_big.eq : @spec_l31Rd_big = @spec_l31Rd_big.b := funext fun α => congrFun (Classical.choose_spec spec_l31Rd_big.ex) α

noncomputable def spec_l31Rd_ord_J11.b {α : Type} (N : Nat) (v80 : Int) (v81 : Int) (v82 : Int) (v83 : (List Int) × Int × Unit) (k0 : Int → Int → Int → Bool → ((List Int) × Int × Unit) → Option α) : Option α :=
  let x84 := (decide (v82 = (2 : Int)))
  bif x84 then
    k0 v80 v81 v82 x84 v83
  else
    let x85 := (decide (v82 = (3 : Int)))
    k0 v80 v81 v82 x85 v83
theorem spec_l31Rd_ord_J11.ex : ∃ f : ((α : Type) → Nat → Int → Int → Int → ((List Int) × Int × Unit) → (Int → Int → Int → Bool → ((List Int) × Int × Unit) → Option α) → Option α), f = fun α => @spec_l31Rd_ord_J11.b α := ⟨_, rfl⟩
noncomputable def spec_l31Rd_ord_J11 {α : Type} : Nat → Int → Int → Int → ((List Int) × Int × Unit) → (Int → Int → Int → Bool → ((List Int) × Int × Unit) → Option α) → Option α := Classical.choose spec_l31Rd_ord_J11.ex α
theorem spec_l31Rd_ord_J11.eq : @spec_l31Rd_ord_J11 = @spec_l31Rd_ord_J11.b := funext fun α => congrFun (Classical.choose_spec spec_l31Rd_ord_J11.ex) α
noncomputable def spec_l31Rd_ord_J14.b {α : Type} (N : Nat) (v98 : Int) (v99 : Int) (v100 : Int) (v101 : (List Int) × Int × Unit) (k0 : Int → Int → ((List Int) × Int × Unit) → Option α) : Option α :=
  let x102 := (decide (v98 = (32 : Int)))
  bif x102 then
    spec_l31Rd_pick N (256 : Int) v101
      (fun x103 x104 =>
        let x105 := (shlI .i64 x103 (23 : Int))
        spec_l31Rd_pick N (4 : Int) x104
          (fun x106 x107 =>
            let x108 := IntKind.i64.wrap (x105 + x106)
            let x109 := (IntKind.i64.wrap (x108 - (1 : Int)))
            k0 v99 x109 x107))
  else
    k0 v99 v100 v101
theorem spec_l31Rd_ord_J14.ex : ∃ f : ((α : Type) → Nat → Int → Int → Int → ((List Int) × Int × Unit) → (Int → Int → ((List Int) × Int × Unit) → Option α) → Option α), f = fun α => @spec_l31Rd_ord_J14.b α := ⟨_, rfl⟩
noncomputable def spec_l31Rd_ord_J14 {α : Type} : Nat → Int → Int → Int → ((List Int) × Int × Unit) → (Int → Int → ((List Int) × Int × Unit) → Option α) → Option α := Classical.choose spec_l31Rd_ord_J14.ex α
theorem spec_l31Rd_ord_J14.eq : @spec_l31Rd_ord_J14 = @spec_l31Rd_ord_J14.b := funext fun α => congrFun (Classical.choose_spec spec_l31Rd_ord_J14.ex) α
noncomputable def spec_l31Rd_ord_J5.b {α : Type} (N : Nat) (v136 : Int) (v137 : Int) (v138 : (List Int) × Int × Unit) (k0 : Int → Int → ((List Int) × Int × Unit) → Option α) : Option α :=
  let x139 := (decide ((0 : Int) < v136))
  bif x139 then
    let x140 := (IntKind.i64.wrap (v136 + (1 : Int)))
    bif (decide (x140 = (0 : Int))) then
      none
    else
      let x141 := Int.tmod v137 x140
      k0 v136 x141 v138
  else
    k0 v136 v137 v138
theorem spec_l31Rd_ord_J5.ex : ∃ f : ((α : Type) → Nat → Int → Int → ((List Int) × Int × Unit) → (Int → Int → ((List Int) × Int × Unit) → Option α) → Option α), f = fun α => @spec_l31Rd_ord_J5.b α := ⟨_, rfl⟩
noncomputable def spec_l31Rd_ord_J5 {α : Type} : Nat → Int → Int → ((List Int) × Int × Unit) → (Int → Int → ((List Int) × Int × Unit) → Option α) → Option α := Classical.choose spec_l31Rd_ord_J5.ex α
theorem spec_l31Rd_ord_J5.eq : @spec_l31Rd_ord_J5 = @spec_l31Rd_ord_J5.b := funext fun α => congrFun (Classical.choose_spec spec_l31Rd_ord_J5.ex) α
noncomputable def spec_l31Rd_ord_J16.b {α : Type} (N : Nat) (v113 : Int) (v114 : Int) (v115 : (List Int) × Int × Unit) (k0 : Int → Int → ((List Int) × Int × Unit) → Option α) : Option α :=
  let x116 := (decide (v114 = (4 : Int)))
  bif x116 then
    spec_l31Rd_pick N (1048576 : Int) v115
      (fun x117 x118 =>
        k0 v113 x117 x118)
  else
    spec_l31Rd_big N v115
      (fun x132 x133 =>
        let x134 := (shrI .u64 x132 (1 : Int))
        let x135 := IntKind.i64.wrap x134
        spec_l31Rd_ord_J5 N v113 x135 x133
          (fun x142 x143 x144 =>
            k0 x142 x143 x144))
theorem spec_l31Rd_ord_J16.ex : ∃ f : ((α : Type) → Nat → Int → Int → ((List Int) × Int × Unit) → (Int → Int → ((List Int) × Int × Unit) → Option α) → Option α), f = fun α => @spec_l31Rd_ord_J16.b α := ⟨_, rfl⟩
noncomputable def spec_l31Rd_ord_J16 {α : Type} : Nat → Int → Int → ((List Int) × Int × Unit) → (Int → Int → ((List Int) × Int × Unit) → Option α) → Option α := Classical.choose spec_l31Rd_ord_J16.ex α
theorem spec_l31Rd_ord_J16.eq : @spec_l31Rd_ord_J16 = @spec_l31Rd_ord_J16.b := funext fun α => congrFun (Classical.choose_spec spec_l31Rd_ord_J16.ex) α
noncomputable def spec_l31Rd_ord_J9.b {α : Type} (N : Nat) (v72 : Int) (v73 : Int) (v74 : Int) (v75 : (List Int) × Int × Unit) (k0 : Int → Int → ((List Int) × Int × Unit) → Option α) : Option α :=
  let x76 := (decide (v74 = (1 : Int)))
  bif x76 then
    spec_l31Rd_pick N (6 : Int) v75
      (fun x77 x78 =>
        let x79 := IntKind.i64.wrap (v73 - x77)
        k0 v73 x79 x78)
  else
    spec_l31Rd_ord_J11 N v72 v73 v74 v75
      (fun x86 x87 x88 x89 x90 =>
        bif x89 then
          spec_l31Rd_pick N (2048 : Int) x90
            (fun x91 x92 =>
              let x93 := (shlI .i64 x91 (52 : Int))
              spec_l31Rd_pick N (4 : Int) x92
                (fun x94 x95 =>
                  let x96 := IntKind.i64.wrap (x93 + x94)
                  let x97 := (IntKind.i64.wrap (x96 - (1 : Int)))
                  spec_l31Rd_ord_J14 N x86 x87 x97 x95
                    (fun x110 x111 x112 =>
                      k0 x110 x111 x112)))
        else
          spec_l31Rd_ord_J16 N x87 x88 x90
            (fun x145 x146 x147 =>
              k0 x145 x146 x147))
theorem spec_l31Rd_ord_J9.ex : ∃ f : ((α : Type) → Nat → Int → Int → Int → ((List Int) × Int × Unit) → (Int → Int → ((List Int) × Int × Unit) → Option α) → Option α), f = fun α => @spec_l31Rd_ord_J9.b α := ⟨_, rfl⟩
noncomputable def spec_l31Rd_ord_J9 {α : Type} : Nat → Int → Int → Int → ((List Int) × Int × Unit) → (Int → Int → ((List Int) × Int × Unit) → Option α) → Option α := Classical.choose spec_l31Rd_ord_J9.ex α
theorem spec_l31Rd_ord_J9.eq : @spec_l31Rd_ord_J9 = @spec_l31Rd_ord_J9.b := funext fun α => congrFun (Classical.choose_spec spec_l31Rd_ord_J9.ex) α
noncomputable def spec_l31Rd_ord_J7.b {α : Type} (N : Nat) (v65 : Int) (v66 : Int) (v67 : Int) (v68 : (List Int) × Int × Unit) (k0 : Int → Int → ((List Int) × Int × Unit) → Option α) : Option α :=
  let x69 := (decide (v67 = (0 : Int)))
  bif x69 then
    spec_l31Rd_pick N (6 : Int) v68
      (fun x70 x71 =>
        k0 v66 x70 x71)
  else
    spec_l31Rd_ord_J9 N v65 v66 v67 v68
      (fun x148 x149 x150 =>
        k0 x148 x149 x150)
theorem spec_l31Rd_ord_J7.ex : ∃ f : ((α : Type) → Nat → Int → Int → Int → ((List Int) × Int × Unit) → (Int → Int → ((List Int) × Int × Unit) → Option α) → Option α), f = fun α => @spec_l31Rd_ord_J7.b α := ⟨_, rfl⟩
noncomputable def spec_l31Rd_ord_J7 {α : Type} : Nat → Int → Int → Int → ((List Int) × Int × Unit) → (Int → Int → ((List Int) × Int × Unit) → Option α) → Option α := Classical.choose spec_l31Rd_ord_J7.ex α
theorem spec_l31Rd_ord_J7.eq : @spec_l31Rd_ord_J7 = @spec_l31Rd_ord_J7.b := funext fun α => congrFun (Classical.choose_spec spec_l31Rd_ord_J7.ex) α
noncomputable def spec_l31Rd_ord_J20.b {α : Type} (N : Nat) (v164 : Int) (v165 : Int) (v166 : (List Int) × Int × Unit) (k0 : Int → ((List Int) × Int × Unit) → Option α) : Option α :=
  let x167 := decide (v164 < v165)
  bif x167 then
    k0 v164 v166
  else
    k0 v165 v166
theorem spec_l31Rd_ord_J20.ex : ∃ f : ((α : Type) → Nat → Int → Int → ((List Int) × Int × Unit) → (Int → ((List Int) × Int × Unit) → Option α) → Option α), f = fun α => @spec_l31Rd_ord_J20.b α := ⟨_, rfl⟩
noncomputable def spec_l31Rd_ord_J20 {α : Type} : Nat → Int → Int → ((List Int) × Int × Unit) → (Int → ((List Int) × Int × Unit) → Option α) → Option α := Classical.choose spec_l31Rd_ord_J20.ex α
theorem spec_l31Rd_ord_J20.eq : @spec_l31Rd_ord_J20 = @spec_l31Rd_ord_J20.b := funext fun α => congrFun (Classical.choose_spec spec_l31Rd_ord_J20.ex) α
noncomputable def spec_l31Rd_ord_J18.b {α : Type} (N : Nat) (v154 : Int) (v155 : Int) (v156 : (List Int) × Int × Unit) (k0 : Int → ((List Int) × Int × Unit) → Option α) : Option α :=
  spec_l31Rd_pick N (40 : Int) v156
    (fun x157 x158 =>
      let x159 := (decide (x157 = (0 : Int)))
      bif x159 then
        let x160 := (IntKind.i64.wrap (v154 + (1 : Int)))
        spec_l31Rd_pick N (3 : Int) x158
          (fun x161 x162 =>
            let x163 := IntKind.i64.wrap (x160 + x161)
            k0 x163 x162)
      else
        spec_l31Rd_ord_J20 N v154 v155 x158
          (fun x168 x169 =>
            k0 x168 x169))
theorem spec_l31Rd_ord_J18.ex : ∃ f : ((α : Type) → Nat → Int → Int → ((List Int) × Int × Unit) → (Int → ((List Int) × Int × Unit) → Option α) → Option α), f = fun α => @spec_l31Rd_ord_J18.b α := ⟨_, rfl⟩
noncomputable def spec_l31Rd_ord_J18 {α : Type} : Nat → Int → Int → ((List Int) × Int × Unit) → (Int → ((List Int) × Int × Unit) → Option α) → Option α := Classical.choose spec_l31Rd_ord_J18.ex α
theorem spec_l31Rd_ord_J18.eq : @spec_l31Rd_ord_J18 = @spec_l31Rd_ord_J18.b := funext fun α => congrFun (Classical.choose_spec spec_l31Rd_ord_J18.ex) α
/-- (*loop.example/pinfold/spec.l31Rd).ord -/
noncomputable def spec_l31Rd_ord.b {α : Type} (N : Nat) (a57 : Int) (a58 : (List Int) × Int × Unit) (k0 : Int → ((List Int) × Int × Unit) → Option α) : Option α :=
  spec_BitTop N a57
    (fun x62 =>
      spec_l31Rd_pick N (10 : Int) a58
        (fun x63 x64 =>
          spec_l31Rd_ord_J7 N a57 x62 x63 x64
            (fun x151 x152 x153 =>
              spec_l31Rd_ord_J18 N x151 x152 x153
                (fun x170 x171 =>
                  spec_l31Rd_pick N (2 : Int) x171
                    (fun x172 x173 =>
                      let x174 := (decide (x172 = (0 : Int)))
                      bif x174 then
                        let x175 := IntKind.i64.wrap (0 - x170)
                        k0 x175 x173
                      else
                        k0 x170 x173)))))
theorem spec_l31Rd_ord.ex : ∃ f : ((α : Type) → Nat → Int → ((List Int) × Int × Unit) → (Int → ((List Int) × Int × Unit) → Option α) → Option α), f = fun α => @spec_l31Rd_ord.b α := ⟨_, rfl⟩
noncomputable def spec_l31Rd_ord {α : Type} : Nat → Int → ((List Int) × Int × Unit) → (Int → ((List Int) × Int × Unit) → Option α) → Option α := Classical.choose spec_l31Rd_ord.ex α
theorem spec_l31Rd_ord.eq : @spec_l31Rd_ord = @spec_l31Rd_ord.b := funext fun α => congrFun (Classical.choose_spec spec_l31Rd_ord.ex) α

noncomputable def spec_l31Rd_pair_J8.b {α : Type} (N : Nat) (v198 : Int) (v199 : Int) (v200 : Int) (v201 : (List Int) × Int × Unit) (v202 : Int × Int × Unit) (k0 : Int → Int → ((List Int) × Int × Unit) → (Int × Int × Unit) → Option α) : Option α :=
  let x203 := (decide (v200 = (2 : Int)))
  bif x203 then
    spec_l31Rd_pick N (1000 : Int) v201
      (fun x204 x205 =>
        let x206 := IntKind.i64.wrap (v198 + x204)
        k0 v198 x206 x205 v202)
  else
    k0 v198 v199 v201 v202
theorem spec_l31Rd_pair_J8.ex : ∃ f : ((α : Type) → Nat → Int → Int → Int → ((List Int) × Int × Unit) → (Int × Int × Unit) → (Int → Int → ((List Int) × Int × Unit) → (Int × Int × Unit) → Option α) → Option α), f = fun α => @spec_l31Rd_pair_J8.b α := ⟨_, rfl⟩
noncomputable def spec_l31Rd_pair_J8 {α : Type} : Nat → Int → Int → Int → ((List Int) × Int × Unit) → (Int × Int × Unit) → (Int → Int → ((List Int) × Int × Unit) → (Int × Int × Unit) → Option α) → Option α := Classical.choose spec_l31Rd_pair_J8.ex α
theorem spec_l31Rd_pair_J8.eq : @spec_l31Rd_pair_J8 = @spec_l31Rd_pair_J8.b := funext fun α => congrFun (Classical.choose_spec spec_l31Rd_pair_J8.ex) α
noncomputable def spec_l31Rd_pair_J6.b {α : Type} (N : Nat) (v188 : Int) (v189 : Int) (v190 : Int) (v191 : (List Int) × Int × Unit) (v192 : Int × Int × Unit) (k0 : Int → Int → ((List Int) × Int × Unit) → (Int × Int × Unit) → Option α) : Option α :=
  let x193 := (decide (v190 = (1 : Int)))
  bif x193 then
    let x194 := (IntKind.i64.wrap (v188 + (1 : Int)))
    spec_l31Rd_pick N (4 : Int) v191
      (fun x195 x196 =>
        let x197 := IntKind.i64.wrap (x194 + x195)
        k0 v188 x197 x196 v192)
  else
    spec_l31Rd_pair_J8 N v188 v189 v190 v191 v192
      (fun x207 x208 x209 x210 =>
        k0 x207 x208 x209 x210)
theorem spec_l31Rd_pair_J6.ex : ∃ f : ((α : Type) → Nat → Int → Int → Int → ((List Int) × Int × Unit) → (Int × Int × Unit) → (Int → Int → ((List Int) × Int × Unit) → (Int × Int × Unit) → Option α) → Option α), f = fun α => @spec_l31Rd_pair_J6.b α := ⟨_, rfl⟩
noncomputable def spec_l31Rd_pair_J6 {α : Type} : Nat → Int → Int → Int → ((List Int) × Int × Unit) → (Int × Int × Unit) → (Int → Int → ((List Int) × Int × Unit) → (Int × Int × Unit) → Option α) → Option α := Classical.choose spec_l31Rd_pair_J6.ex α
theorem spec_l31Rd_pair_J6.eq : @spec_l31Rd_pair_J6 = @spec_l31Rd_pair_J6.b := funext fun α => congrFun (Classical.choose_spec spec_l31Rd_pair_J6.ex) α
noncomputable def spec_l31Rd_pair_J4.b {α : Type} (N : Nat) (v182 : Int) (v183 : Int) (v184 : Int) (v185 : (List Int) × Int × Unit) (v186 : Int × Int × Unit) (k0 : Int → Int → ((List Int) × Int × Unit) → (Int × Int × Unit) → Option α) : Option α :=
  let x187 := (decide (v184 = (0 : Int)))
  bif x187 then
    k0 v182 v182 v185 v186
  else
    spec_l31Rd_pair_J6 N v182 v183 v184 v185 v186
      (fun x211 x212 x213 x214 =>
        k0 x211 x212 x213 x214)
theorem spec_l31Rd_pair_J4.ex : ∃ f : ((α : Type) → Nat → Int → Int → Int → ((List Int) × Int × Unit) → (Int × Int × Unit) → (Int → Int → ((List Int) × Int × Unit) → (Int × Int × Unit) → Option α) → Option α), f = fun α => @spec_l31Rd_pair_J4.b α := ⟨_, rfl⟩
noncomputable def spec_l31Rd_pair_J4 {α : Type} : Nat → Int → Int → Int → ((List Int) × Int × Unit) → (Int × Int × Unit) → (Int → Int → ((List Int) × Int × Unit) → (Int × Int × Unit) → Option α) → Option α := Classical.choose spec_l31Rd_pair_J4.ex α
theorem spec_l31Rd_pair_J4.eq : @spec_l31Rd_pair_J4 = @spec_l31Rd_pair_J4.b := funext fun α => congrFun (Classical.choose_spec spec_l31Rd_pair_J4.ex) α
noncomputable def spec_l31Rd_pair_J10.b {α : Type} (N : Nat) (v219 : Int) (v220 : Int) (v221 : (List Int) × Int × Unit) (v222 : Int × Int × Unit) (k0 : Int → Int → ((List Int) × Int × Unit) → (Int × Int × Unit) → Option α) : Option α :=
  let x223 := decide (v220 < v219)
  bif x223 then
    spec_l31Rd_pick N (24 : Int) v221
      (fun x224 x225 =>
        let x226 := (decide ((0 : Int) < x224))
        bif x226 then
          k0 v220 v219 x225 v222
        else
          k0 v219 v220 x225 v222)
  else
    k0 v219 v220 v221 v222
theorem spec_l31Rd_pair_J10.ex : ∃ f : ((α : Type) → Nat → Int → Int → ((List Int) × Int × Unit) → (Int × Int × Unit) → (Int → Int → ((List Int) × Int × Unit) → (Int × Int × Unit) → Option α) → Option α), f = fun α => @spec_l31Rd_pair_J10.b α := ⟨_, rfl⟩
noncomputable def spec_l31Rd_pair_J10 {α : Type} : Nat → Int → Int → ((List Int) × Int × Unit) → (Int × Int × Unit) → (Int → Int → ((List Int) × Int × Unit) → (Int × Int × Unit) → Option α) → Option α := Classical.choose spec_l31Rd_pair_J10.ex α
theorem spec_l31Rd_pair_J10.eq : @spec_l31Rd_pair_J10 = @spec_l31Rd_pair_J10.b := funext fun α => congrFun (Classical.choose_spec spec_l31Rd_pair_J10.ex) α
/-- (*loop.example/pinfold/spec.l31Rd).pair -/
noncomputable def spec_l31Rd_pair.b {α : Type} (N : Nat) (a55 : Int) (a56 : (List Int) × Int × Unit) (k0 : (Int × Int × Unit) → ((List Int) × Int × Unit) → Option α) : Option α :=
  spec_l31Rd_ord N a55 a56
    (fun x176 x177 =>
      spec_l31Rd_ord N a55 x177
        (fun x178 x179 =>
          spec_l31Rd_pick N (6 : Int) x179
            (fun x180 x181 =>
              spec_l31Rd_pair_J4 N x176 x178 x180 x181 ((0 : Int), ((0 : Int), ()))
                (fun x215 x216 x217 x218 =>
                  spec_l31Rd_pair_J10 N x215 x216 x217 x218
                    (fun x227 x228 x229 _ =>
                      k0 (x227, (x228, ())) x229)))))
theorem spec_l31Rd_pair.ex : ∃ f : ((α : Type) → Nat → Int → ((List Int) × Int × Unit) → ((Int × Int × Unit) → ((List Int) × Int × Unit) → Option α) → Option α), f = fun α => @spec_l31Rd_pair.b α := ⟨_, rfl⟩
noncomputable def spec_l31Rd_pair {α : Type} : Nat → Int → ((List Int) × Int × Unit) → ((Int × Int × Unit) → ((List Int) × Int × Unit) → Option α) → Option α := Classical.choose spec_l31Rd_pair.ex α
theorem spec_l31Rd_pair.eq : @spec_l31Rd_pair = @spec_l31Rd_pair.b := funext fun α => congrFun (Classical.choose_spec spec_l31Rd_pair.ex) α

/-- loop.example/pinfold/spec.l1Width -/
noncomputable def spec_l1Width.b {α : Type} (N : Nat) (a244 : Int) (k0 : Bool → Option α) : Option α :=
  let x245 := (decide (a244 = (32 : Int)))
  bif x245 then
    k0 true
  else
    let x246 := (decide (a244 = (64 : Int)))
    k0 x246
theorem spec_l1Width.ex : ∃ f : ((α : Type) → Nat → Int → (Bool → Option α) → Option α), f = fun α => @spec_l1Width.b α := ⟨_, rfl⟩
noncomputable def spec_l1Width {α : Type} : Nat → Int → (Bool → Option α) → Option α := Classical.choose spec_l1Width.ex α
theorem spec_l1Width.eq : @spec_l1Width = @spec_l1Width.b := funext fun α => congrFun (Classical.choose_spec spec_l1Width.ex) α

/-- loop.example/pinfold/spec.BitOk -/
noncomputable def spec_BitOk.b {α : Type} (N : Nat) (a242 : Int) (a243 : Int) (k0 : Bool → Option α) : Option α :=
  spec_l1Width N a242
    (fun x247 =>
      bif x247 then
        spec_BitTop N a242
          (fun x248 =>
            let x249 := IntKind.i64.wrap (0 - x248)
            let x250 := decide (x249 ≤ a243)
            bif x250 then
              spec_BitTop N a242
                (fun x251 =>
                  let x252 := decide (a243 ≤ x251)
                  k0 x252)
            else
              k0 false)
      else
        k0 false)
theorem spec_BitOk.ex : ∃ f : ((α : Type) → Nat → Int → Int → (Bool → Option α) → Option α), f = fun α => @spec_BitOk.b α := ⟨_, rfl⟩
noncomputable def spec_BitOk {α : Type} : Nat → Int → Int → (Bool → Option α) → Option α := Classical.choose spec_BitOk.ex α
theorem spec_BitOk.eq : @spec_BitOk = @spec_BitOk.b := funext fun α => congrFun (Classical.choose_spec spec_BitOk.ex) α

/-- loop.example/pinfold/spec.PairOk -/
noncomputable def spec_PairOk.b {α : Type} (N : Nat) (a239 : Int) (a240 : Int × Int × Unit) (k0 : Bool → Option α) : Option α :=
  spec_BitTop N a239
    (fun x241 =>
      spec_BitOk N a239 a240.1
        (fun x253 =>
          bif x253 then
            spec_BitOk N a239 a240.2.1
              (fun x254 =>
                bif x254 then
                  let x255 := decide (a240.1 ≤ a240.2.1)
                  bif x255 then
                    let x256 := decide (a240.1 < x241)
                    bif x256 then
                      let x257 := IntKind.i64.wrap (0 - x241)
                      let x258 := decide (x257 < a240.2.1)
                      k0 x258
                    else
                      k0 false
                  else
                    k0 false
                else
                  k0 false)
          else
            k0 false))
theorem spec_PairOk.ex : ∃ f : ((α : Type) → Nat → Int → (Int × Int × Unit) → (Bool → Option α) → Option α), f = fun α => @spec_PairOk.b α := ⟨_, rfl⟩
noncomputable def spec_PairOk {α : Type} : Nat → Int → (Int × Int × Unit) → (Bool → Option α) → Option α := Classical.choose spec_PairOk.ex α
theorem spec_PairOk.eq : @spec_PairOk = @spec_PairOk.b := funext fun α => congrFun (Classical.choose_spec spec_PairOk.ex) α

noncomputable def spec_l31Rd_good_L0r {α : Type} (N : Nat) (next : Int → Int → ((List Int) × Int × Unit) → (Int × Int × Unit) → (Int × Int × Unit) → Option α) (k0 : ((List Int) × Int × Unit) → (Int × Int × Unit) → (Int × Int × Unit) → Option α) (v233 : Int) (v234 : Int) (v235 : (List Int) × Int × Unit) (v236 : Int × Int × Unit) (v237 : Int × Int × Unit) : Option α :=
  let x238 := (decide (v234 < (5 : Int)))
  bif x238 then
    spec_PairOk N v233 v237
      (fun x259 =>
        let x260 := !x259
        bif x260 then
          spec_l31Rd_pair N v233 v235
            (fun x261 x262 =>
              let x263 := (IntKind.i64.wrap (v234 + (1 : Int)))
              next v233 x263 x262 v236 x261)
        else
          k0 v235 v236 v237)
  else
    k0 v235 v236 v237
noncomputable def spec_l31Rd_good_L0.b {α : Type} (N n : Nat) (v233 : Int) (v234 : Int) (v235 : (List Int) × Int × Unit) (v236 : Int × Int × Unit) (v237 : Int × Int × Unit) (k0 : ((List Int) × Int × Unit) → (Int × Int × Unit) → (Int × Int × Unit) → Option α) : Option α :=
  Nat.rec (motive := fun _ => Int → Int → ((List Int) × Int × Unit) → (Int × Int × Unit) → (Int × Int × Unit) → Option α) (fun _ _ _ _ _ => none) (fun _ next => spec_l31Rd_good_L0r N next k0) n v233 v234 v235 v236 v237
theorem spec_l31Rd_good_L0.ex : ∃ f : ((α : Type) → Nat → Nat → Int → Int → ((List Int) × Int × Unit) → (Int × Int × Unit) → (Int × Int × Unit) → (((List Int) × Int × Unit) → (Int × Int × Unit) → (Int × Int × Unit) → Option α) → Option α), f = fun α => @spec_l31Rd_good_L0.b α := ⟨_, rfl⟩
noncomputable def spec_l31Rd_good_L0 {α : Type} : Nat → Nat → Int → Int → ((List Int) × Int × Unit) → (Int × Int × Unit) → (Int × Int × Unit) → (((List Int) × Int × Unit) → (Int × Int × Unit) → (Int × Int × Unit) → Option α) → Option α := Classical.choose spec_l31Rd_good_L0.ex α
theorem spec_l31Rd_good_L0.eq : @spec_l31Rd_good_L0 = @spec_l31Rd_good_L0.b := funext fun α => congrFun (Classical.choose_spec spec_l31Rd_good_L0.ex) α
theorem spec_l31Rd_good_L0.zero {α : Type} (N : Nat) (v233 : Int) (v234 : Int) (v235 : (List Int) × Int × Unit) (v236 : Int × Int × Unit) (v237 : Int × Int × Unit) (k0 : ((List Int) × Int × Unit) → (Int × Int × Unit) → (Int × Int × Unit) → Option α) : spec_l31Rd_good_L0 N 0 v233 v234 v235 v236 v237 k0 = none := by rw [spec_l31Rd_good_L0.eq]; rfl
theorem spec_l31Rd_good_L0.succ {α : Type} (N n : Nat) (v233 : Int) (v234 : Int) (v235 : (List Int) × Int × Unit) (v236 : Int × Int × Unit) (v237 : Int × Int × Unit) (k0 : ((List Int) × Int × Unit) → (Int × Int × Unit) → (Int × Int × Unit) → Option α) : spec_l31Rd_good_L0 N (n + 1) v233 v234 v235 v236 v237 k0 = spec_l31Rd_good_L0r N (fun y0 y1 y2 y3 y4 => spec_l31Rd_good_L0 N n y0 y1 y2 y3 y4 k0) k0 v233 v234 v235 v236 v237 := by rw [spec_l31Rd_good_L0.eq]; rfl
/-- (*loop.example/pinfold/spec.l31Rd).good -/
noncomputable def spec_l31Rd_good.b {α : Type} (N : Nat) (a53 : Int) (a54 : (List Int) × Int × Unit) (k0 : (Int × Int × Unit) → ((List Int) × Int × Unit) → Option α) : Option α :=
  spec_l31Rd_pair N a53 a54
    (fun x231 x232 =>
      spec_l31Rd_good_L0 N N a53 (0 : Int) x232 ((0 : Int), ((0 : Int), ())) x231
        (fun x264 _ x266 =>
          k0 x266 x264))
theorem spec_l31Rd_good.ex : ∃ f : ((α : Type) → Nat → Int → ((List Int) × Int × Unit) → ((Int × Int × Unit) → ((List Int) × Int × Unit) → Option α) → Option α), f = fun α => @spec_l31Rd_good.b α := ⟨_, rfl⟩
noncomputable def spec_l31Rd_good {α : Type} : Nat → Int → ((List Int) × Int × Unit) → ((Int × Int × Unit) → ((List Int) × Int × Unit) → Option α) → Option α := Classical.choose spec_l31Rd_good.ex α
theorem spec_l31Rd_good.eq : @spec_l31Rd_good = @spec_l31Rd_good.b := funext fun α => congrFun (Classical.choose_spec spec_l31Rd_good.ex) α

noncomputable def spec_GoodPair_J4.b {α : Type} (N : Nat) (v269 : Int) (v270 : Int × Int × Unit) (v271 : Int × Int × Unit) (k0 : Int → (Int × Int × Unit) → (Int × Int × Unit) → Option α) : Option α :=
  spec_PairOk N v269 v271
    (fun x272 =>
      let x273 := !x272
      bif x273 then
        k0 v269 v270 ((-5 : Int), ((9 : Int), ()))
      else
        k0 v269 v270 v271)
theorem spec_GoodPair_J4.ex : ∃ f : ((α : Type) → Nat → Int → (Int × Int × Unit) → (Int × Int × Unit) → (Int → (Int × Int × Unit) → (Int × Int × Unit) → Option α) → Option α), f = fun α => @spec_GoodPair_J4.b α := ⟨_, rfl⟩
noncomputable def spec_GoodPair_J4 {α : Type} : Nat → Int → (Int × Int × Unit) → (Int × Int × Unit) → (Int → (Int × Int × Unit) → (Int × Int × Unit) → Option α) → Option α := Classical.choose spec_GoodPair_J4.ex α
theorem spec_GoodPair_J4.eq : @spec_GoodPair_J4 = @spec_GoodPair_J4.b := funext fun α => congrFun (Classical.choose_spec spec_GoodPair_J4.ex) α
/-- loop.example/pinfold/spec.GoodPair -/
noncomputable def spec_GoodPair.b {α : Type} (N : Nat) (a7 : List Int) (k0 : Int → (Int × Int × Unit) → Option α) : Option α :=
  spec_l31Open N a7
    (fun x14 =>
      let x15 := [(32 : Int), (64 : Int)]
      spec_l31Rd_pick N (2 : Int) x14
        (fun x50 x51 =>
          bif (decide (x50 < (0 : Int))) then
            none
          else
            bif decide (x50.toNat < x15.length) then
              match x15[x50.toNat]? with
              | some x52 =>
                spec_l31Rd_good N x52 x51
                  (fun x267 _ =>
                    spec_GoodPair_J4 N x52 ((0 : Int), ((0 : Int), ())) x267
                      (fun x274 _ x276 =>
                        k0 x274 x276))
              | none => none
            else
              none))
theorem spec_GoodPair.ex : ∃ f : ((α : Type) → Nat → List Int → (Int → (Int × Int × Unit) → Option α) → Option α), f = fun α => @spec_GoodPair.b α := ⟨_, rfl⟩
noncomputable def spec_GoodPair {α : Type} : Nat → List Int → (Int → (Int × Int × Unit) → Option α) → Option α := Classical.choose spec_GoodPair.ex α
theorem spec_GoodPair.eq : @spec_GoodPair = @spec_GoodPair.b := funext fun α => congrFun (Classical.choose_spec spec_GoodPair.ex) α

/-- loop.example/pinfold/impl.formatOf -/
noncomputable def impl_formatOf.b {α : Type} (N : Nat) (a284 : Int) (k0 : (Int × Int × Int × Int × Unit) → Bool → Option α) : Option α :=
  let x285 := (decide (a284 = (32 : Int)))
  bif x285 then
    k0 ((23 : Int), ((-149 : Int), ((127 : Int), ((2139095040 : Int), ())))) true
  else
    let x286 := (decide (a284 = (64 : Int)))
    bif x286 then
      k0 ((52 : Int), ((-1074 : Int), ((1023 : Int), ((9218868437227405312 : Int), ())))) true
    else
      k0 ((0 : Int), ((0 : Int), ((0 : Int), ((0 : Int), ())))) false
theorem impl_formatOf.ex : ∃ f : ((α : Type) → Nat → Int → ((Int × Int × Int × Int × Unit) → Bool → Option α) → Option α), f = fun α => @impl_formatOf.b α := ⟨_, rfl⟩
noncomputable def impl_formatOf {α : Type} : Nat → Int → ((Int × Int × Int × Int × Unit) → Bool → Option α) → Option α := Classical.choose impl_formatOf.ex α
theorem impl_formatOf.eq : @impl_formatOf = @impl_formatOf.b := funext fun α => congrFun (Classical.choose_spec impl_formatOf.ex) α

/-- loop.example/pinfold/impl.BitTop -/
noncomputable def impl_BitTop.b {α : Type} (N : Nat) (a283 : Int) (k0 : Int → Option α) : Option α :=
  impl_formatOf N a283
    (fun x287 _ =>
      k0 x287.2.2.2.1)
theorem impl_BitTop.ex : ∃ f : ((α : Type) → Nat → Int → (Int → Option α) → Option α), f = fun α => @impl_BitTop.b α := ⟨_, rfl⟩
noncomputable def impl_BitTop {α : Type} : Nat → Int → (Int → Option α) → Option α := Classical.choose impl_BitTop.ex α
theorem impl_BitTop.eq : @impl_BitTop = @impl_BitTop.b := funext fun α => congrFun (Classical.choose_spec impl_BitTop.ex) α

/-- loop.example/pinfold/impl.in -/
noncomputable def impl_in.b {α : Type} (N : Nat) (a295 : Int) (a296 : Int) (a297 : Int) (k0 : Bool → Option α) : Option α :=
  let x298 := decide (a296 ≤ a295)
  bif x298 then
    let x299 := decide (a295 ≤ a297)
    k0 x299
  else
    k0 false
theorem impl_in.ex : ∃ f : ((α : Type) → Nat → Int → Int → Int → (Bool → Option α) → Option α), f = fun α => @impl_in.b α := ⟨_, rfl⟩
noncomputable def impl_in {α : Type} : Nat → Int → Int → Int → (Bool → Option α) → Option α := Classical.choose impl_in.ex α
theorem impl_in.eq : @impl_in = @impl_in.b := funext fun α => congrFun (Classical.choose_spec impl_in.ex) α

/-- loop.example/pinfold/impl.BitOk -/
noncomputable def impl_BitOk.b {α : Type} (N : Nat) (a290 : Int) (a291 : Int) (k0 : Bool → Option α) : Option α :=
  impl_formatOf N a290
    (fun x292 x293 =>
      bif x293 then
        let x294 := IntKind.i64.wrap (0 - x292.2.2.2.1)
        impl_in N a291 x294 x292.2.2.2.1
          (fun x300 =>
            k0 x300)
      else
        k0 false)
theorem impl_BitOk.ex : ∃ f : ((α : Type) → Nat → Int → Int → (Bool → Option α) → Option α), f = fun α => @impl_BitOk.b α := ⟨_, rfl⟩
noncomputable def impl_BitOk {α : Type} : Nat → Int → Int → (Bool → Option α) → Option α := Classical.choose impl_BitOk.ex α
theorem impl_BitOk.eq : @impl_BitOk = @impl_BitOk.b := funext fun α => congrFun (Classical.choose_spec impl_BitOk.ex) α

/-- loop.example/pinfold/impl.PairOk -/
noncomputable def impl_PairOk.b {α : Type} (N : Nat) (a281 : Int) (a282 : Int × Int × Unit) (k0 : Bool → Option α) : Option α :=
  impl_BitTop N a281
    (fun x289 =>
      impl_BitOk N a281 a282.1
        (fun x301 =>
          bif x301 then
            impl_BitOk N a281 a282.2.1
              (fun x302 =>
                bif x302 then
                  let x303 := decide (a282.1 ≤ a282.2.1)
                  bif x303 then
                    let x304 := !(decide (a282.1 = x289))
                    bif x304 then
                      let x305 := IntKind.i64.wrap (0 - x289)
                      let x306 := !(decide (a282.2.1 = x305))
                      k0 x306
                    else
                      k0 false
                  else
                    k0 false
                else
                  k0 false)
          else
            k0 false))
theorem impl_PairOk.ex : ∃ f : ((α : Type) → Nat → Int → (Int × Int × Unit) → (Bool → Option α) → Option α), f = fun α => @impl_PairOk.b α := ⟨_, rfl⟩
noncomputable def impl_PairOk {α : Type} : Nat → Int → (Int × Int × Unit) → (Bool → Option α) → Option α := Classical.choose impl_PairOk.ex α
theorem impl_PairOk.eq : @impl_PairOk = @impl_PairOk.b := funext fun α => congrFun (Classical.choose_spec impl_PairOk.ex) α

/-- loop.example/pinfold/impl.BitGap -/
noncomputable def impl_BitGap.b {α : Type} (N : Nat) (a310 : Int) (a311 : Int) (k0 : Int → Option α) : Option α :=
  let x312 := decide (a311 < a310)
  bif x312 then
    k0 (0 : Int)
  else
    let x313 := IntKind.u64.wrap a311
    let x314 := IntKind.u64.wrap a310
    let x315 := IntKind.u64.wrap (x313 - x314)
    k0 x315
theorem impl_BitGap.ex : ∃ f : ((α : Type) → Nat → Int → Int → (Int → Option α) → Option α), f = fun α => @impl_BitGap.b α := ⟨_, rfl⟩
noncomputable def impl_BitGap {α : Type} : Nat → Int → Int → (Int → Option α) → Option α := Classical.choose impl_BitGap.ex α
theorem impl_BitGap.eq : @impl_BitGap = @impl_BitGap.b := funext fun α => congrFun (Classical.choose_spec impl_BitGap.ex) α

/-- (loop.example/pinfold/impl.Pair).steps -/
noncomputable def impl_Pair_steps.b {α : Type} (N : Nat) (a309 : Int × Int × Unit) (k0 : Int → Option α) : Option α :=
  impl_BitGap N a309.1 a309.2.1
    (fun x316 =>
      k0 x316)
theorem impl_Pair_steps.ex : ∃ f : ((α : Type) → Nat → (Int × Int × Unit) → (Int → Option α) → Option α), f = fun α => @impl_Pair_steps.b α := ⟨_, rfl⟩
noncomputable def impl_Pair_steps {α : Type} : Nat → (Int × Int × Unit) → (Int → Option α) → Option α := Classical.choose impl_Pair_steps.ex α
theorem impl_Pair_steps.eq : @impl_Pair_steps = @impl_Pair_steps.b := funext fun α => congrFun (Classical.choose_spec impl_Pair_steps.ex) α

/-- loop.example/pinfold/impl.BitMiddle -/
noncomputable def impl_BitMiddle.b {α : Type} (N : Nat) (a319 : Int) (a320 : Int) (k0 : Int → Option α) : Option α :=
  impl_BitGap N a319 a320
    (fun x321 =>
      let x322 := (IntKind.u64.wrap (Int.tdiv x321 (2 : Int)))
      let x323 := IntKind.i64.wrap x322
      let x324 := IntKind.i64.wrap (a319 + x323)
      k0 x324)
theorem impl_BitMiddle.ex : ∃ f : ((α : Type) → Nat → Int → Int → (Int → Option α) → Option α), f = fun α => @impl_BitMiddle.b α := ⟨_, rfl⟩
noncomputable def impl_BitMiddle {α : Type} : Nat → Int → Int → (Int → Option α) → Option α := Classical.choose impl_BitMiddle.ex α
theorem impl_BitMiddle.eq : @impl_BitMiddle = @impl_BitMiddle.b := funext fun α => congrFun (Classical.choose_spec impl_BitMiddle.ex) α

/-- loop.example/pinfold/impl.PairSplit -/
noncomputable def impl_PairSplit.b {α : Type} (N : Nat) (a279 : Int) (a280 : Int × Int × Unit) (k0 : (Int × Int × Unit) → (Int × Int × Unit) → Bool → Option α) : Option α :=
  impl_PairOk N a279 a280
    (fun x307 =>
      let x308 := !x307
      bif x308 then
        k0 ((0 : Int), ((0 : Int), ())) ((0 : Int), ((0 : Int), ())) false
      else
        impl_Pair_steps N a280
          (fun x317 =>
            let x318 := (decide (x317 < (2 : Int)))
            bif x318 then
              k0 ((0 : Int), ((0 : Int), ())) ((0 : Int), ((0 : Int), ())) false
            else
              impl_BitMiddle N a280.1 a280.2.1
                (fun x325 =>
                  k0 (a280.1, (x325, ())) (x325, (a280.2.1, ())) true)))
theorem impl_PairSplit.ex : ∃ f : ((α : Type) → Nat → Int → (Int × Int × Unit) → ((Int × Int × Unit) → (Int × Int × Unit) → Bool → Option α) → Option α), f = fun α => @impl_PairSplit.b α := ⟨_, rfl⟩
noncomputable def impl_PairSplit {α : Type} : Nat → Int → (Int × Int × Unit) → ((Int × Int × Unit) → (Int × Int × Unit) → Bool → Option α) → Option α := Classical.choose impl_PairSplit.ex α
theorem impl_PairSplit.eq : @impl_PairSplit = @impl_PairSplit.b := funext fun α => congrFun (Classical.choose_spec impl_PairSplit.ex) α

/-- loop.example/pinfold/spec.BitGap -/
noncomputable def spec_BitGap.b {α : Type} (N : Nat) (a329 : Int) (a330 : Int) (k0 : Int → Option α) : Option α :=
  let x331 := decide (a330 < a329)
  bif x331 then
    k0 (0 : Int)
  else
    let x332 := IntKind.u64.wrap a330
    let x333 := IntKind.u64.wrap a329
    let x334 := IntKind.u64.wrap (x332 - x333)
    k0 x334
theorem spec_BitGap.ex : ∃ f : ((α : Type) → Nat → Int → Int → (Int → Option α) → Option α), f = fun α => @spec_BitGap.b α := ⟨_, rfl⟩
noncomputable def spec_BitGap {α : Type} : Nat → Int → Int → (Int → Option α) → Option α := Classical.choose spec_BitGap.ex α
theorem spec_BitGap.eq : @spec_BitGap = @spec_BitGap.b := funext fun α => congrFun (Classical.choose_spec spec_BitGap.ex) α

/-- loop.example/pinfold/impl.PairIs -/
noncomputable def impl_PairIs.b {α : Type} (N : Nat) (a345 : Int × Int × Unit) (a346 : Int × Int × Unit) (k0 : Bool → Option α) : Option α :=
  let x347 := decide (a346.1 ≤ a345.1)
  bif x347 then
    let x348 := decide (a345.2.1 ≤ a346.2.1)
    k0 x348
  else
    k0 false
theorem impl_PairIs.ex : ∃ f : ((α : Type) → Nat → (Int × Int × Unit) → (Int × Int × Unit) → (Bool → Option α) → Option α), f = fun α => @impl_PairIs.b α := ⟨_, rfl⟩
noncomputable def impl_PairIs {α : Type} : Nat → (Int × Int × Unit) → (Int × Int × Unit) → (Bool → Option α) → Option α := Classical.choose impl_PairIs.ex α
theorem impl_PairIs.eq : @impl_PairIs = @impl_PairIs.b := funext fun α => congrFun (Classical.choose_spec impl_PairIs.ex) α

/-- loop.example/pinfold/laws.FnPairSplit -/
noncomputable def laws_FnPairSplit.b {α : Type} (N : Nat) (a1 : List Int) (a2 : List Int) (k0 : Bool → Option α) : Option α :=
  let x3 := ((a1.length : Nat) : Int)
  let x4 := (decide ((1048576 : Int) < x3))
  bif x4 then
    k0 true
  else
    let x5 := ((a2.length : Nat) : Int)
    let x6 := (decide ((1048576 : Int) < x5))
    bif x6 then
      k0 true
    else
      spec_GoodPair N a1
        (fun x277 x278 =>
          impl_PairSplit N x277 x278
            (fun x326 x327 x328 =>
              spec_BitGap N x278.1 x278.2.1
                (fun x335 =>
                  let x336 := (decide ((2 : Int) ≤ x335))
                  let x337 := !(x328 == x336)
                  bif x337 then
                    k0 false
                  else
                    impl_BitGap N x278.1 x278.2.1
                      (fun x338 =>
                        let x339 := !(decide (x335 = x338))
                        bif x339 then
                          k0 false
                        else
                          let x340 := !x328
                          bif x340 then
                            k0 true
                          else
                            impl_PairOk N x277 x326
                              (fun x341 =>
                                let x342 := !x341
                                bif x342 then
                                  k0 false
                                else
                                  impl_PairOk N x277 x327
                                    (fun x343 =>
                                      let x344 := !x343
                                      bif x344 then
                                        k0 false
                                      else
                                        impl_PairIs N x326 x278
                                          (fun x349 =>
                                            let x350 := !x349
                                            bif x350 then
                                              k0 false
                                            else
                                              impl_PairIs N x327 x278
                                                (fun x351 =>
                                                  let x352 := !x351
                                                  bif x352 then
                                                    k0 false
                                                  else
                                                    let x353 := !(decide (x326.2.1 = x327.1))
                                                    bif x353 then
                                                      k0 false
                                                    else
                                                      let x354 := !(decide (x326.1 = x278.1))
                                                      bif x354 then
                                                        k0 false
                                                      else
                                                        let x355 := !(decide (x327.2.1 = x278.2.1))
                                                        bif x355 then
                                                          k0 false
                                                        else
                                                          impl_BitGap N x326.1 x326.2.1
                                                            (fun x356 =>
                                                              impl_BitGap N x327.1 x327.2.1
                                                                (fun x357 =>
                                                                  let x358 := (IntKind.u64.wrap (Int.tdiv x335 (2 : Int)))
                                                                  let x359 := decide (x358 < x356)
                                                                  bif x359 then
                                                                    k0 false
                                                                  else
                                                                    let x360 := decide (x335 ≤ x356)
                                                                    bif x360 then
                                                                      k0 false
                                                                    else
                                                                      let x361 := decide (x335 ≤ x357)
                                                                      bif x361 then
                                                                        k0 false
                                                                      else
                                                                        let x362 := IntKind.u64.wrap (x356 + x357)
                                                                        let x363 := !(decide (x362 = x335))
                                                                        bif x363 then
                                                                          k0 false
                                                                        else
                                                                          spec_GoodPair N a2
                                                                            (fun _ x365 =>
                                                                              impl_PairIs N (x365.1, (x365.1, ())) x278
                                                                                (fun x366 =>
                                                                                  impl_PairIs N (x365.1, (x365.1, ())) x326
                                                                                    (fun x367 =>
                                                                                      bif x367 then
                                                                                        let x368 := x366 == true
                                                                                        k0 x368
                                                                                      else
                                                                                        impl_PairIs N (x365.1, (x365.1, ())) x327
                                                                                          (fun x369 =>
                                                                                            let x370 := x366 == x369
                                                                                            k0 x370))))))))))))))
theorem laws_FnPairSplit.ex : ∃ f : ((α : Type) → Nat → List Int → List Int → (Bool → Option α) → Option α), f = fun α => @laws_FnPairSplit.b α := ⟨_, rfl⟩
noncomputable def laws_FnPairSplit {α : Type} : Nat → List Int → List Int → (Bool → Option α) → Option α := Classical.choose laws_FnPairSplit.ex α
theorem laws_FnPairSplit.eq : @laws_FnPairSplit = @laws_FnPairSplit.b := funext fun α => congrFun (Classical.choose_spec laws_FnPairSplit.ex) α

end
end Go.Proofs.YtaelbfbplamahaaAm
