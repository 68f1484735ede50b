/-
  The functions that the program computes, as the abstract machine tells them. Printed by amp.py.
-/
import Derived.Test.YtbaeipjjijdgiaaDoorAmc
namespace Go.Proofs.YtbaeipjjijdgiaaDoorAm
open Go
noncomputable section
set_option linter.unusedVariables false
set_option linter.unusedSimpArgs false

noncomputable def spec_l31Open_J1.b {α : Type} (N : Nat) (v6 : List Int) (k0 : List Int → Option α) : Option α :=
  let x7 := ((v6.length : Nat) : Int)
  let x8 := (decide ((2000 : Int) < x7))
  bif x8 then
    bif (decide ((2000 : Int) ≤ ((v6.length : Nat) : Int))) then
      let x9 := v6.take 2000
      k0 x9
    else
      none
  else
    k0 v6
theorem spec_l31Open_J1.ex : ∃ f : ((α : Type) → Nat → List Int → (List Int → Option α) → Option α), f = fun α => @spec_l31Open_J1.b α := ⟨_, rfl⟩
noncomputable def spec_l31Open_J1 {α : Type} : Nat → List Int → (List Int → Option α) → Option α := Classical.choose spec_l31Open_J1.ex α
theorem spec_l31Open_J1.eq : @spec_l31Open_J1 = @spec_l31Open_J1.b := funext fun α => congrFun (Classical.choose_spec spec_l31Open_J1.ex) α
/-- loop.example/pinfold/spec.l31Open -/
noncomputable def spec_l31Open.b {α : Type} (N : Nat) (a5 : List Int) (k0 : ((List Int) × Int × Unit) → Option α) : Option α :=
  spec_l31Open_J1 N a5
    (fun x10 =>
      k0 (x10, ((0 : Int), ())))
theorem spec_l31Open.ex : ∃ f : ((α : Type) → Nat → List Int → (((List Int) × Int × Unit) → Option α) → Option α), f = fun α => @spec_l31Open.b α := ⟨_, rfl⟩
noncomputable def spec_l31Open {α : Type} : Nat → List Int → (((List Int) × Int × Unit) → Option α) → Option α := Classical.choose spec_l31Open.ex α
theorem spec_l31Open.eq : @spec_l31Open = @spec_l31Open.b := funext fun α => congrFun (Classical.choose_spec spec_l31Open.ex) α

/-- (*loop.example/pinfold/spec.l31Rd).pick -/
noncomputable def spec_l31Rd_pick.b {α : Type} (N : Nat) (a12 : Int) (a13 : (List Int) × Int × Unit) (k0 : Int → ((List Int) × Int × Unit) → Option α) : Option α :=
  let x14 := (IntKind.i64.wrap (a13.2.1 + (1 : Int)))
  let x15 := (decide (a12 < (1 : Int)))
  bif x15 then
    k0 (0 : Int) (a13.1, (x14, ()))
  else
    let x16 := ((a13.1.length : Nat) : Int)
    let x17 := (decide (x16 = (0 : Int)))
    bif x17 then
      k0 (0 : Int) (a13.1, (x14, ()))
    else
      let x18 := (IntKind.i64.wrap (x14 - (1 : Int)))
      let x19 := ((a13.1.length : Nat) : Int)
      let x20 := decide (x18 < x19)
      bif x20 then
        bif (decide (x18 < (0 : Int))) then
          none
        else
          match a13.1[x18.toNat]? with
          | some x21 =>
            let x22 := IntKind.i64.wrap x21
            bif (decide (a12 = (0 : Int))) then
              none
            else
              let x23 := Int.tmod x22 a12
              k0 x23 (a13.1, (x14, ()))
          | none => none
      else
        let x24 := ((a13.1.length : Nat) : Int)
        bif (decide (x24 = (0 : Int))) then
          none
        else
          let x25 := Int.tmod x18 x24
          bif (decide (x25 < (0 : Int))) then
            none
          else
            match a13.1[x25.toNat]? with
            | some x26 =>
              let x27 := IntKind.i64.wrap x26
              let x28 := (IntKind.i64.wrap (x27 * (131 : Int)))
              let x29 := (IntKind.i64.wrap (x18 * (7 : Int)))
              let x30 := (IntKind.i64.wrap (x29 + (3 : Int)))
              let x31 := ((a13.1.length : Nat) : Int)
              bif (decide (x31 = (0 : Int))) then
                none
              else
                let x32 := Int.tmod x30 x31
                bif (decide (x32 < (0 : Int))) then
                  none
                else
                  match a13.1[x32.toNat]? with
                  | some x33 =>
                    let x34 := IntKind.i64.wrap x33
                    let x35 := (IntKind.i64.wrap (x34 * (1117 : Int)))
                    let x36 := IntKind.i64.wrap (x28 + x35)
                    let x37 := (IntKind.i64.wrap (x18 * (29 : Int)))
                    let x38 := IntKind.i64.wrap (x36 + x37)
                    let x39 := ((a13.1.length : Nat) : Int)
                    bif (decide (x39 = (0 : Int))) then
                      none
                    else
                      let x40 := IntKind.i64.wrap (Int.tdiv x18 x39)
                      let x41 := (IntKind.i64.wrap (x40 * (53 : Int)))
                      let x42 := IntKind.i64.wrap (x38 + x41)
                      let x43 := (IntKind.i64.wrap (Int.tdiv x42 (64 : Int)))
                      let x44 := bitI .xor .i64 x42 x43
                      bif (decide (a12 = (0 : Int))) then
                        none
                      else
                        let x45 := Int.tmod x44 a12
                        k0 x45 (a13.1, (x14, ()))
                  | none => none
            | none => none
theorem spec_l31Rd_pick.ex : ∃ f : ((α : Type) → Nat → Int → ((List Int) × Int × Unit) → (Int → ((List Int) × Int × Unit) → Option α) → Option α), f = fun α => @spec_l31Rd_pick.b α := ⟨_, rfl⟩
noncomputable def spec_l31Rd_pick {α : Type} : Nat → Int → ((List Int) × Int × Unit) → (Int → ((List Int) × Int × Unit) → Option α) → Option α := Classical.choose spec_l31Rd_pick.ex α
theorem spec_l31Rd_pick.eq : @spec_l31Rd_pick = @spec_l31Rd_pick.b := funext fun α => congrFun (Classical.choose_spec spec_l31Rd_pick.ex) α

/-- loop.example/pinfold/spec.BitTop -/
noncomputable def spec_BitTop.b {α : Type} (N : Nat) (a62 : Int) (k0 : Int → Option α) : Option α :=
  let x63 := (decide (a62 = (32 : Int)))
  bif x63 then
    k0 (2139095040 : Int)
  else
    let x64 := (decide (a62 = (64 : Int)))
    bif x64 then
      k0 (9218868437227405312 : Int)
    else
      k0 (0 : Int)
theorem spec_BitTop.ex : ∃ f : ((α : Type) → Nat → Int → (Int → Option α) → Option α), f = fun α => @spec_BitTop.b α := ⟨_, rfl⟩
noncomputable def spec_BitTop {α : Type} : Nat → Int → (Int → Option α) → Option α := Classical.choose spec_BitTop.ex α
theorem spec_BitTop.eq : @spec_BitTop = @spec_BitTop.b := funext fun α => congrFun (Classical.choose_spec spec_BitTop.ex) α

noncomputable def spec_l31Rd_big_L0r {α : Type} (N : Nat) (next : Int → Int → ((List Int) × Int × Unit) → Option α) (k0 : Int → ((List Int) × Int × Unit) → Option α) (v123 : Int) (v124 : Int) (v125 : (List Int) × Int × Unit) : Option α :=
  let x126 := (decide (v124 < (8 : Int)))
  bif x126 then
    let x127 := (IntKind.u64.wrap (v123 * (256 : Int)))
    spec_l31Rd_pick N (256 : Int) v125
      (fun x128 x129 =>
        let x130 := IntKind.u64.wrap x128
        let x131 := IntKind.u64.wrap (x127 + x130)
        let x132 := (IntKind.i64.wrap (v124 + (1 : Int)))
        next x131 x132 x129)
  else
    k0 v123 v125
noncomputable def spec_l31Rd_big_L0.b {α : Type} (N n : Nat) (v123 : Int) (v124 : Int) (v125 : (List Int) × Int × Unit) (k0 : Int → ((List Int) × Int × Unit) → Option α) : Option α :=
  Nat.rec (motive := fun _ => Int → Int → ((List Int) × Int × Unit) → Option α) (fun _ _ _ => none) (fun _ next => spec_l31Rd_big_L0r N next k0) n v123 v124 v125
theorem spec_l31Rd_big_L0.ex : ∃ f : ((α : Type) → Nat → Nat → Int → Int → ((List Int) × Int × Unit) → (Int → ((List Int) × Int × Unit) → Option α) → Option α), f = fun α => @spec_l31Rd_big_L0.b α := ⟨_, rfl⟩
noncomputable def spec_l31Rd_big_L0 {α : Type} : Nat → Nat → Int → Int → ((List Int) × Int × Unit) → (Int → ((List Int) × Int × Unit) → Option α) → Option α := Classical.choose spec_l31Rd_big_L0.ex α
theorem spec_l31Rd_big_L0.eq : @spec_l31Rd_big_L0 = @spec_l31Rd_big_L0.b := funext fun α => congrFun (Classical.choose_spec spec_l31Rd_big_L0.ex) α
theorem spec_l31Rd_big_L0.zero {α : Type} (N : Nat) (v123 : Int) (v124 : Int) (v125 : (List Int) × Int × Unit) (k0 : Int → ((List Int) × Int × Unit) → Option α) : spec_l31Rd_big_L0 N 0 v123 v124 v125 k0 = none := by rw [spec_l31Rd_big_L0.eq]; rfl
theorem spec_l31Rd_big_L0.succ {α : Type} (N n : Nat) (v123 : Int) (v124 : Int) (v125 : (List Int) × Int × Unit) (k0 : Int → ((List Int) × Int × Unit) → Option α) : spec_l31Rd_big_L0 N (n + 1) v123 v124 v125 k0 = spec_l31Rd_big_L0r N (fun y0 y1 y2 => spec_l31Rd_big_L0 N n y0 y1 y2 k0) k0 v123 v124 v125 := by rw [spec_l31Rd_big_L0.eq]; rfl
/-- (*loop.example/pinfold/spec.l31Rd).big -/
noncomputable def spec_l31Rd_big.b {α : Type} (N : Nat) (a122 : (List Int) × Int × Unit) (k0 : Int → ((List Int) × Int × Unit) → Option α) : Option α :=
  spec_l31Rd_big_L0 N N (0 : Int) (0 : Int) a122
    (fun x133 x134 =>
      k0 x133 x134)
theorem spec_l31Rd_big.ex : ∃ f : ((α : Type) → Nat → ((List Int) × Int × Unit) → (Int → ((List Int) × Int × Unit) → Option α) → Option α), f = fun α => @spec_l31Rd_big.b α := ⟨_, rfl⟩
noncomputable def spec_l31Rd_big {α : Type} : Nat → ((List Int) × Int × Unit) → (Int → ((List Int) × Int × Unit) → Option α) → Option α := Classical.choose spec_l31Rd_big.ex α
theorem spec_l31Rd_big.eq : @spec_l31Rd_big = @spec_l31Rd_big.b := funext fun α => congrFun (Classical.choose_spec spec_l31Rd_big.ex) α

noncomputable def spec_l31Rd_ord_J11.b {α : Type} (N : Nat) (v83 : Int) (v84 : Int) (v85 : Int) (v86 : (List Int) × Int × Unit) (k0 : Int → Int → Int → Bool → ((List Int) × Int × Unit) → Option α) : Option α :=
  let x87 := (decide (v85 = (2 : Int)))
  bif x87 then
    k0 v83 v84 v85 x87 v86
  else
    let x88 := (decide (v85 = (3 : Int)))
    k0 v83 v84 v85 x88 v86
theorem spec_l31Rd_ord_J11.ex : ∃ f : ((α : Type) → Nat → Int → Int → Int → ((List Int) × Int × Unit) → (Int → Int → Int → Bool → ((List Int) × Int × Unit) → Option α) → Option α), f = fun α => @spec_l31Rd_ord_J11.b α := ⟨_, rfl⟩
noncomputable def spec_l31Rd_ord_J11 {α : Type} : Nat → Int → Int → Int → ((List Int) × Int × Unit) → (Int → Int → Int → Bool → ((List Int) × Int × Unit) → Option α) → Option α := Classical.choose spec_l31Rd_ord_J11.ex α
theorem spec_l31Rd_ord_J11.eq : @spec_l31Rd_ord_J11 = @spec_l31Rd_ord_J11.b := funext fun α => congrFun (Classical.choose_spec spec_l31Rd_ord_J11.ex) α
noncomputable def spec_l31Rd_ord_J14.b {α : Type} (N : Nat) (v101 : Int) (v102 : Int) (v103 : Int) (v104 : (List Int) × Int × Unit) (k0 : Int → Int → ((List Int) × Int × Unit) → Option α) : Option α :=
  let x105 := (decide (v101 = (32 : Int)))
  bif x105 then
    spec_l31Rd_pick N (256 : Int) v104
      (fun x106 x107 =>
        let x108 := (shlI .i64 x106 (23 : Int))
        spec_l31Rd_pick N (4 : Int) x107
          (fun x109 x110 =>
            let x111 := IntKind.i64.wrap (x108 + x109)
            let x112 := (IntKind.i64.wrap (x111 - (1 : Int)))
            k0 v102 x112 x110))
  else
    k0 v102 v103 v104
theorem spec_l31Rd_ord_J14.ex : ∃ f : ((α : Type) → Nat → Int → Int → Int → ((List Int) × Int × Unit) → (Int → Int → ((List Int) × Int × Unit) → Option α) → Option α), f = fun α => @spec_l31Rd_ord_J14.b α := ⟨_, rfl⟩
noncomputable def spec_l31Rd_ord_J14 {α : Type} : Nat → Int → Int → Int → ((List Int) × Int × Unit) → (Int → Int → ((List Int) × Int × Unit) → Option α) → Option α := Classical.choose spec_l31Rd_ord_J14.ex α
theorem spec_l31Rd_ord_J14.eq : @spec_l31Rd_ord_J14 = @spec_l31Rd_ord_J14.b := funext fun α => congrFun (Classical.choose_spec spec_l31Rd_ord_J14.ex) α
noncomputable def spec_l31Rd_ord_J5.b {α : Type} (N : Nat) (v139 : Int) (v140 : Int) (v141 : (List Int) × Int × Unit) (k0 : Int → Int → ((List Int) × Int × Unit) → Option α) : Option α :=
  let x142 := (decide ((0 : Int) < v139))
  bif x142 then
    let x143 := (IntKind.i64.wrap (v139 + (1 : Int)))
    bif (decide (x143 = (0 : Int))) then
      none
    else
      let x144 := Int.tmod v140 x143
      k0 v139 x144 v141
  else
    k0 v139 v140 v141
theorem spec_l31Rd_ord_J5.ex : ∃ f : ((α : Type) → Nat → Int → Int → ((List Int) × Int × Unit) → (Int → Int → ((List Int) × Int × Unit) → Option α) → Option α), f = fun α => @spec_l31Rd_ord_J5.b α := ⟨_, rfl⟩
noncomputable def spec_l31Rd_ord_J5 {α : Type} : Nat → Int → Int → ((List Int) × Int × Unit) → (Int → Int → ((List Int) × Int × Unit) → Option α) → Option α := Classical.choose spec_l31Rd_ord_J5.ex α
theorem spec_l31Rd_ord_J5.eq : @spec_l31Rd_ord_J5 = @spec_l31Rd_ord_J5.b := funext fun α => congrFun (Classical.choose_spec spec_l31Rd_ord_J5.ex) α
noncomputable def spec_l31Rd_ord_J16.b {α : Type} (N : Nat) (v116 : Int) (v117 : Int) (v118 : (List Int) × Int × Unit) (k0 : Int → Int → ((List Int) × Int × Unit) → Option α) : Option α :=
  let x119 := (decide (v117 = (4 : Int)))
  bif x119 then
    spec_l31Rd_pick N (1048576 : Int) v118
      (fun x120 x121 =>
        k0 v116 x120 x121)
  else
    spec_l31Rd_big N v118
      (fun x135 x136 =>
        let x137 := (shrI .u64 x135 (1 : Int))
        let x138 := IntKind.i64.wrap x137
        spec_l31Rd_ord_J5 N v116 x138 x136
          (fun x145 x146 x147 =>
            k0 x145 x146 x147))
theorem spec_l31Rd_ord_J16.ex : ∃ f : ((α : Type) → Nat → Int → Int → ((List Int) × Int × Unit) → (Int → Int → ((List Int) × Int × Unit) → Option α) → Option α), f = fun α => @spec_l31Rd_ord_J16.b α := ⟨_, rfl⟩
noncomputable def spec_l31Rd_ord_J16 {α : Type} : Nat → Int → Int → ((List Int) × Int × Unit) → (Int → Int → ((List Int) × Int × Unit) → Option α) → Option α := Classical.choose spec_l31Rd_ord_J16.ex α
theorem spec_l31Rd_ord_J16.eq : @spec_l31Rd_ord_J16 = @spec_l31Rd_ord_J16.b := funext fun α => congrFun (Classical.choose_spec spec_l31Rd_ord_J16.ex) α
noncomputable def spec_l31Rd_ord_J9.b {α : Type} (N : Nat) (v75 : Int) (v76 : Int) (v77 : Int) (v78 : (List Int) × Int × Unit) (k0 : Int → Int → ((List Int) × Int × Unit) → Option α) : Option α :=
  let x79 := (decide (v77 = (1 : Int)))
  bif x79 then
    spec_l31Rd_pick N (6 : Int) v78
      (fun x80 x81 =>
        let x82 := IntKind.i64.wrap (v76 - x80)
        k0 v76 x82 x81)
  else
    spec_l31Rd_ord_J11 N v75 v76 v77 v78
      (fun x89 x90 x91 x92 x93 =>
        bif x92 then
          spec_l31Rd_pick N (2048 : Int) x93
            (fun x94 x95 =>
              let x96 := (shlI .i64 x94 (52 : Int))
              spec_l31Rd_pick N (4 : Int) x95
                (fun x97 x98 =>
                  let x99 := IntKind.i64.wrap (x96 + x97)
                  let x100 := (IntKind.i64.wrap (x99 - (1 : Int)))
                  spec_l31Rd_ord_J14 N x89 x90 x100 x98
                    (fun x113 x114 x115 =>
                      k0 x113 x114 x115)))
        else
          spec_l31Rd_ord_J16 N x90 x91 x93
            (fun x148 x149 x150 =>
              k0 x148 x149 x150))
theorem spec_l31Rd_ord_J9.ex : ∃ f : ((α : Type) → Nat → Int → Int → Int → ((List Int) × Int × Unit) → (Int → Int → ((List Int) × Int × Unit) → Option α) → Option α), f = fun α => @spec_l31Rd_ord_J9.b α := ⟨_, rfl⟩
noncomputable def spec_l31Rd_ord_J9 {α : Type} : Nat → Int → Int → Int → ((List Int) × Int × Unit) → (Int → Int → ((List Int) × Int × Unit) → Option α) → Option α := Classical.choose spec_l31Rd_ord_J9.ex α
theorem spec_l31Rd_ord_J9.eq : @spec_l31Rd_ord_J9 = @spec_l31Rd_ord_J9.b := funext fun α => congrFun (Classical.choose_spec spec_l31Rd_ord_J9.ex) α
noncomputable def spec_l31Rd_ord_J7.b {α : Type} (N : Nat) (v68 : Int) (v69 : Int) (v70 : Int) (v71 : (List Int) × Int × Unit) (k0 : Int → Int → ((List Int) × Int × Unit) → Option α) : Option α :=
  let x72 := (decide (v70 = (0 : Int)))
  bif x72 then
    spec_l31Rd_pick N (6 : Int) v71
      (fun x73 x74 =>
        k0 v69 x73 x74)
  else
    spec_l31Rd_ord_J9 N v68 v69 v70 v71
      (fun x151 x152 x153 =>
        k0 x151 x152 x153)
theorem spec_l31Rd_ord_J7.ex : ∃ f : ((α : Type) → Nat → Int → Int → Int → ((List Int) × Int × Unit) → (Int → Int → ((List Int) × Int × Unit) → Option α) → Option α), f = fun α => @spec_l31Rd_ord_J7.b α := ⟨_, rfl⟩
noncomputable def spec_l31Rd_ord_J7 {α : Type} : Nat → Int → Int → Int → ((List Int) × Int × Unit) → (Int → Int → ((List Int) × Int × Unit) → Option α) → Option α := Classical.choose spec_l31Rd_ord_J7.ex α
theorem spec_l31Rd_ord_J7.eq : @spec_l31Rd_ord_J7 = @spec_l31Rd_ord_J7.b := funext fun α => congrFun (Classical.choose_spec spec_l31Rd_ord_J7.ex) α
noncomputable def spec_l31Rd_ord_J20.b {α : Type} (N : Nat) (v167 : Int) (v168 : Int) (v169 : (List Int) × Int × Unit) (k0 : Int → ((List Int) × Int × Unit) → Option α) : Option α :=
  let x170 := decide (v167 < v168)
  bif x170 then
    k0 v167 v169
  else
    k0 v168 v169
theorem spec_l31Rd_ord_J20.ex : ∃ f : ((α : Type) → Nat → Int → Int → ((List Int) × Int × Unit) → (Int → ((List Int) × Int × Unit) → Option α) → Option α), f = fun α => @spec_l31Rd_ord_J20.b α := ⟨_, rfl⟩
noncomputable def spec_l31Rd_ord_J20 {α : Type} : Nat → Int → Int → ((List Int) × Int × Unit) → (Int → ((List Int) × Int × Unit) → Option α) → Option α := Classical.choose spec_l31Rd_ord_J20.ex α
theorem spec_l31Rd_ord_J20.eq : @spec_l31Rd_ord_J20 = @spec_l31Rd_ord_J20.b := funext fun α => congrFun (Classical.choose_spec spec_l31Rd_ord_J20.ex) α
noncomputable def spec_l31Rd_ord_J18.b {α : Type} (N : Nat) (v157 : Int) (v158 : Int) (v159 : (List Int) × Int × Unit) (k0 : Int → ((List Int) × Int × Unit) → Option α) : Option α :=
  spec_l31Rd_pick N (40 : Int) v159
    (fun x160 x161 =>
      let x162 := (decide (x160 = (0 : Int)))
      bif x162 then
        let x163 := (IntKind.i64.wrap (v157 + (1 : Int)))
        spec_l31Rd_pick N (3 : Int) x161
          (fun x164 x165 =>
            let x166 := IntKind.i64.wrap (x163 + x164)
            k0 x166 x165)
      else
        spec_l31Rd_ord_J20 N v157 v158 x161
          (fun x171 x172 =>
            k0 x171 x172))
theorem spec_l31Rd_ord_J18.ex : ∃ f : ((α : Type) → Nat → Int → Int → ((List Int) × Int × Unit) → (Int → ((List Int) × Int × Unit) → Option α) → Option α), f = fun α => @spec_l31Rd_ord_J18.b α := ⟨_, rfl⟩
noncomputable def spec_l31Rd_ord_J18 {α : Type} : Nat → Int → Int → ((List Int) × Int × Unit) → (Int → ((List Int) × Int × Unit) → Option α) → Option α := Classical.choose spec_l31Rd_ord_J18.ex α
theorem spec_l31Rd_ord_J18.eq : @spec_l31Rd_ord_J18 = @spec_l31Rd_ord_J18.b := funext fun α => congrFun (Classical.choose_spec spec_l31Rd_ord_J18.ex) α
/-- (*loop.example/pinfold/spec.l31Rd).ord -/
noncomputable def spec_l31Rd_ord.b {α : Type} (N : Nat) (a60 : Int) (a61 : (List Int) × Int × Unit) (k0 : Int → ((List Int) × Int × Unit) → Option α) : Option α :=
  spec_BitTop N a60
    (fun x65 =>
      spec_l31Rd_pick N (10 : Int) a61
        (fun x66 x67 =>
          spec_l31Rd_ord_J7 N a60 x65 x66 x67
            (fun x154 x155 x156 =>
              spec_l31Rd_ord_J18 N x154 x155 x156
                (fun x173 x174 =>
                  spec_l31Rd_pick N (2 : Int) x174
                    (fun x175 x176 =>
                      let x177 := (decide (x175 = (0 : Int)))
                      bif x177 then
                        let x178 := IntKind.i64.wrap (0 - x173)
                        k0 x178 x176
                      else
                        k0 x173 x176)))))
theorem spec_l31Rd_ord.ex : ∃ f : ((α : Type) → Nat → Int → ((List Int) × Int × Unit) → (Int → ((List Int) × Int × Unit) → Option α) → Option α), f = fun α => @spec_l31Rd_ord.b α := ⟨_, rfl⟩
noncomputable def spec_l31Rd_ord {α : Type} : Nat → Int → ((List Int) × Int × Unit) → (Int → ((List Int) × Int × Unit) → Option α) → Option α := Classical.choose spec_l31Rd_ord.ex α
theorem spec_l31Rd_ord.eq : @spec_l31Rd_ord = @spec_l31Rd_ord.b := funext fun α => congrFun (Classical.choose_spec spec_l31Rd_ord.ex) α

/-- loop.example/pinfold/spec.l1Width -/
noncomputable def spec_l1Width.b {α : Type} (N : Nat) (a184 : Int) (k0 : Bool → Option α) : Option α :=
  let x185 := (decide (a184 = (32 : Int)))
  bif x185 then
    k0 true
  else
    let x186 := (decide (a184 = (64 : Int)))
    k0 x186
theorem spec_l1Width.ex : ∃ f : ((α : Type) → Nat → Int → (Bool → Option α) → Option α), f = fun α => @spec_l1Width.b α := ⟨_, rfl⟩
noncomputable def spec_l1Width {α : Type} : Nat → Int → (Bool → Option α) → Option α := Classical.choose spec_l1Width.ex α
theorem spec_l1Width.eq : @spec_l1Width = @spec_l1Width.b := funext fun α => congrFun (Classical.choose_spec spec_l1Width.ex) α

/-- loop.example/pinfold/spec.BitOk -/
noncomputable def spec_BitOk.b {α : Type} (N : Nat) (a182 : Int) (a183 : Int) (k0 : Bool → Option α) : Option α :=
  spec_l1Width N a182
    (fun x187 =>
      bif x187 then
        spec_BitTop N a182
          (fun x188 =>
            let x189 := IntKind.i64.wrap (0 - x188)
            let x190 := decide (x189 ≤ a183)
            bif x190 then
              spec_BitTop N a182
                (fun x191 =>
                  let x192 := decide (a183 ≤ x191)
                  k0 x192)
            else
              k0 false)
      else
        k0 false)
theorem spec_BitOk.ex : ∃ f : ((α : Type) → Nat → Int → Int → (Bool → Option α) → Option α), f = fun α => @spec_BitOk.b α := ⟨_, rfl⟩
noncomputable def spec_BitOk {α : Type} : Nat → Int → Int → (Bool → Option α) → Option α := Classical.choose spec_BitOk.ex α
theorem spec_BitOk.eq : @spec_BitOk = @spec_BitOk.b := funext fun α => congrFun (Classical.choose_spec spec_BitOk.ex) α

/-- loop.example/pinfold/spec.l1Least -/
noncomputable def spec_l1Least.b {α : Type} (N : Nat) (a205 : Int) (k0 : Int → Option α) : Option α :=
  let x206 := (decide (a205 = (32 : Int)))
  bif x206 then
    k0 (-149 : Int)
  else
    k0 (-1074 : Int)
theorem spec_l1Least.ex : ∃ f : ((α : Type) → Nat → Int → (Int → Option α) → Option α), f = fun α => @spec_l1Least.b α := ⟨_, rfl⟩
noncomputable def spec_l1Least {α : Type} : Nat → Int → (Int → Option α) → Option α := Classical.choose spec_l1Least.ex α
theorem spec_l1Least.eq : @spec_l1Least = @spec_l1Least.b := funext fun α => congrFun (Classical.choose_spec spec_l1Least.ex) α

/-- loop.example/pinfold/spec.l1Frac -/
noncomputable def spec_l1Frac.b {α : Type} (N : Nat) (a218 : Int) (k0 : Int → Option α) : Option α :=
  let x219 := (decide (a218 = (32 : Int)))
  bif x219 then
    k0 (23 : Int)
  else
    k0 (52 : Int)
theorem spec_l1Frac.ex : ∃ f : ((α : Type) → Nat → Int → (Int → Option α) → Option α), f = fun α => @spec_l1Frac.b α := ⟨_, rfl⟩
noncomputable def spec_l1Frac {α : Type} : Nat → Int → (Int → Option α) → Option α := Classical.choose spec_l1Frac.ex α
theorem spec_l1Frac.eq : @spec_l1Frac = @spec_l1Frac.b := funext fun α => congrFun (Classical.choose_spec spec_l1Frac.ex) α

noncomputable def spec_BitPartOf_J5.b {α : Type} (N : Nat) (v208 : Int) (v209 : Int) (v210 : Bool × Int × Int × Unit) (v211 : Bool × Int × Int × Unit) (k0 : Int → Int → (Bool × Int × Int × Unit) → (Bool × Int × Int × Unit) → Option α) : Option α :=
  let x212 := (decide (v209 < (0 : Int)))
  bif x212 then
    let x213 := IntKind.i64.wrap (0 - v209)
    k0 v208 x213 v210 v211
  else
    k0 v208 v209 v210 v211
theorem spec_BitPartOf_J5.ex : ∃ f : ((α : Type) → Nat → Int → Int → (Bool × Int × Int × Unit) → (Bool × Int × Int × Unit) → (Int → Int → (Bool × Int × Int × Unit) → (Bool × Int × Int × Unit) → Option α) → Option α), f = fun α => @spec_BitPartOf_J5.b α := ⟨_, rfl⟩
noncomputable def spec_BitPartOf_J5 {α : Type} : Nat → Int → Int → (Bool × Int × Int × Unit) → (Bool × Int × Int × Unit) → (Int → Int → (Bool × Int × Int × Unit) → (Bool × Int × Int × Unit) → Option α) → Option α := Classical.choose spec_BitPartOf_J5.ex α
theorem spec_BitPartOf_J5.eq : @spec_BitPartOf_J5 = @spec_BitPartOf_J5.b := funext fun α => congrFun (Classical.choose_spec spec_BitPartOf_J5.ex) α
noncomputable def spec_BitPartOf_J10.b {α : Type} (N : Nat) (v226 : Int) (v227 : Int) (v228 : Bool × Int × Int × Unit) (v229 : Bool × Int × Int × Unit) (k0 : (Bool × Int × Int × Unit) → (Bool × Int × Int × Unit) → Option α) : Option α :=
  let x230 := (decide ((0 : Int) < v227))
  bif x230 then
    let x231 := IntKind.u64.wrap v226
    let x232 := IntKind.u64.wrap (v229.2.1 + x231)
    let x233 := IntKind.i64.wrap (v229.2.2.1 + v227)
    let x234 := (IntKind.i64.wrap (x233 - (1 : Int)))
    k0 v228 (v229.1, (x232, (x234, ())))
  else
    k0 v228 v229
theorem spec_BitPartOf_J10.ex : ∃ f : ((α : Type) → Nat → Int → Int → (Bool × Int × Int × Unit) → (Bool × Int × Int × Unit) → ((Bool × Int × Int × Unit) → (Bool × Int × Int × Unit) → Option α) → Option α), f = fun α => @spec_BitPartOf_J10.b α := ⟨_, rfl⟩
noncomputable def spec_BitPartOf_J10 {α : Type} : Nat → Int → Int → (Bool × Int × Int × Unit) → (Bool × Int × Int × Unit) → ((Bool × Int × Int × Unit) → (Bool × Int × Int × Unit) → Option α) → Option α := Classical.choose spec_BitPartOf_J10.ex α
theorem spec_BitPartOf_J10.eq : @spec_BitPartOf_J10 = @spec_BitPartOf_J10.b := funext fun α => congrFun (Classical.choose_spec spec_BitPartOf_J10.ex) α
/-- loop.example/pinfold/spec.BitPartOf -/
noncomputable def spec_BitPartOf.b {α : Type} (N : Nat) (a195 : Int) (a196 : Int) (k0 : (Bool × Int × Int × Unit) → Bool → Option α) : Option α :=
  spec_BitOk N a195 a196
    (fun x197 =>
      let x198 := !x197
      bif x198 then
        k0 (false, ((0 : Int), ((0 : Int), ()))) false
      else
        spec_BitTop N a195
          (fun x199 =>
            let x200 := decide (a196 = x199)
            bif x200 then
              k0 (false, ((0 : Int), ((0 : Int), ()))) false
            else
              spec_BitTop N a195
                (fun x201 =>
                  let x202 := IntKind.i64.wrap (0 - x201)
                  let x203 := decide (a196 = x202)
                  bif x203 then
                    k0 (false, ((0 : Int), ((0 : Int), ()))) false
                  else
                    let x204 := (decide (a196 < (0 : Int)))
                    spec_l1Least N a195
                      (fun x207 =>
                        spec_BitPartOf_J5 N a195 a196 (false, ((0 : Int), ((0 : Int), ()))) (x204, ((0 : Int), (x207, ())))
                          (fun x214 x215 x216 x217 =>
                            spec_l1Frac N x214
                              (fun x220 =>
                                let x221 := IntKind.u64.wrap x220
                                bif (decide (x221 < (0 : Int))) then
                                  none
                                else
                                  let x222 := (shlI .i64 (1 : Int) x221)
                                  bif (decide (x222 = (0 : Int))) then
                                    none
                                  else
                                    let x223 := IntKind.i64.wrap (Int.tdiv x215 x222)
                                    bif (decide (x222 = (0 : Int))) then
                                      none
                                    else
                                      let x224 := Int.tmod x215 x222
                                      let x225 := IntKind.u64.wrap x224
                                      spec_BitPartOf_J10 N x222 x223 x216 (x217.1, (x225, (x217.2.2.1, ())))
                                        (fun _ x236 =>
                                          k0 x236 true)))))))
theorem spec_BitPartOf.ex : ∃ f : ((α : Type) → Nat → Int → Int → ((Bool × Int × Int × Unit) → Bool → Option α) → Option α), f = fun α => @spec_BitPartOf.b α := ⟨_, rfl⟩
noncomputable def spec_BitPartOf {α : Type} : Nat → Int → Int → ((Bool × Int × Int × Unit) → Bool → Option α) → Option α := Classical.choose spec_BitPartOf.ex α
theorem spec_BitPartOf.eq : @spec_BitPartOf = @spec_BitPartOf.b := funext fun α => congrFun (Classical.choose_spec spec_BitPartOf.ex) α

noncomputable def spec_BitMake_L0r {α : Type} (N : Nat) (next : Int → Int → Int → Int → (Bool × Int × Int × Unit) → Option α) (k0 : Int → Int → Int → Int → (Bool × Int × Int × Unit) → Option α) (v254 : Int) (v255 : Int) (v256 : Int) (v257 : Int) (v258 : Bool × Int × Int × Unit) : Option α :=
  let x259 := (Int.tmod v255 (2 : Int))
  let x260 := (decide (x259 = (0 : Int)))
  bif x260 then
    let x261 := (IntKind.u64.wrap ((2 : Int) * v257))
    let x262 := decide (x261 ≤ v255)
    bif x262 then
      let x263 := (IntKind.u64.wrap (Int.tdiv v255 (2 : Int)))
      let x264 := (IntKind.i64.wrap (v256 + (1 : Int)))
      next v254 x263 x264 v257 v258
    else
      spec_l1Least N v254
        (fun x265 =>
          let x266 := decide (v256 < x265)
          bif x266 then
            let x267 := (IntKind.u64.wrap (Int.tdiv v255 (2 : Int)))
            let x268 := (IntKind.i64.wrap (v256 + (1 : Int)))
            next v254 x267 x268 v257 v258
          else
            k0 v254 v255 v256 v257 v258)
  else
    k0 v254 v255 v256 v257 v258
noncomputable def spec_BitMake_L0.b {α : Type} (N n : Nat) (v254 : Int) (v255 : Int) (v256 : Int) (v257 : Int) (v258 : Bool × Int × Int × Unit) (k0 : Int → Int → Int → Int → (Bool × Int × Int × Unit) → Option α) : Option α :=
  Nat.rec (motive := fun _ => Int → Int → Int → Int → (Bool × Int × Int × Unit) → Option α) (fun _ _ _ _ _ => none) (fun _ next => spec_BitMake_L0r N next k0) n v254 v255 v256 v257 v258
theorem spec_BitMake_L0.ex : ∃ f : ((α : Type) → Nat → Nat → Int → Int → Int → Int → (Bool × Int × Int × Unit) → (Int → Int → Int → Int → (Bool × Int × Int × Unit) → Option α) → Option α), f = fun α => @spec_BitMake_L0.b α := ⟨_, rfl⟩
noncomputable def spec_BitMake_L0 {α : Type} : Nat → Nat → Int → Int → Int → Int → (Bool × Int × Int × Unit) → (Int → Int → Int → Int → (Bool × Int × Int × Unit) → Option α) → Option α := Classical.choose spec_BitMake_L0.ex α
theorem spec_BitMake_L0.eq : @spec_BitMake_L0 = @spec_BitMake_L0.b := funext fun α => congrFun (Classical.choose_spec spec_BitMake_L0.ex) α
theorem spec_BitMake_L0.zero {α : Type} (N : Nat) (v254 : Int) (v255 : Int) (v256 : Int) (v257 : Int) (v258 : Bool × Int × Int × Unit) (k0 : Int → Int → Int → Int → (Bool × Int × Int × Unit) → Option α) : spec_BitMake_L0 N 0 v254 v255 v256 v257 v258 k0 = none := by rw [spec_BitMake_L0.eq]; rfl
theorem spec_BitMake_L0.succ {α : Type} (N n : Nat) (v254 : Int) (v255 : Int) (v256 : Int) (v257 : Int) (v258 : Bool × Int × Int × Unit) (k0 : Int → Int → Int → Int → (Bool × Int × Int × Unit) → Option α) : spec_BitMake_L0 N (n + 1) v254 v255 v256 v257 v258 k0 = spec_BitMake_L0r N (fun y0 y1 y2 y3 y4 => spec_BitMake_L0 N n y0 y1 y2 y3 y4 k0) k0 v254 v255 v256 v257 v258 := by rw [spec_BitMake_L0.eq]; rfl
noncomputable def spec_BitMake_L2r {α : Type} (N : Nat) (next : Int → Int → Int → Int → (Bool × Int × Int × Unit) → Option α) (k0 : Int → Int → Int → Int → (Bool × Int × Int × Unit) → Option α) (v274 : Int) (v275 : Int) (v276 : Int) (v277 : Int) (v278 : Bool × Int × Int × Unit) : Option α :=
  let x279 := decide (v275 < v277)
  bif x279 then
    spec_l1Least N v274
      (fun x280 =>
        let x281 := decide (x280 < v276)
        bif x281 then
          let x282 := (IntKind.u64.wrap (v275 * (2 : Int)))
          let x283 := (IntKind.i64.wrap (v276 - (1 : Int)))
          next v274 x282 x283 v277 v278
        else
          k0 v274 v275 v276 v277 v278)
  else
    k0 v274 v275 v276 v277 v278
noncomputable def spec_BitMake_L2.b {α : Type} (N n : Nat) (v274 : Int) (v275 : Int) (v276 : Int) (v277 : Int) (v278 : Bool × Int × Int × Unit) (k0 : Int → Int → Int → Int → (Bool × Int × Int × Unit) → Option α) : Option α :=
  Nat.rec (motive := fun _ => Int → Int → Int → Int → (Bool × Int × Int × Unit) → Option α) (fun _ _ _ _ _ => none) (fun _ next => spec_BitMake_L2r N next k0) n v274 v275 v276 v277 v278
theorem spec_BitMake_L2.ex : ∃ f : ((α : Type) → Nat → Nat → Int → Int → Int → Int → (Bool × Int × Int × Unit) → (Int → Int → Int → Int → (Bool × Int × Int × Unit) → Option α) → Option α), f = fun α => @spec_BitMake_L2.b α := ⟨_, rfl⟩
noncomputable def spec_BitMake_L2 {α : Type} : Nat → Nat → Int → Int → Int → Int → (Bool × Int × Int × Unit) → (Int → Int → Int → Int → (Bool × Int × Int × Unit) → Option α) → Option α := Classical.choose spec_BitMake_L2.ex α
theorem spec_BitMake_L2.eq : @spec_BitMake_L2 = @spec_BitMake_L2.b := funext fun α => congrFun (Classical.choose_spec spec_BitMake_L2.ex) α
theorem spec_BitMake_L2.zero {α : Type} (N : Nat) (v274 : Int) (v275 : Int) (v276 : Int) (v277 : Int) (v278 : Bool × Int × Int × Unit) (k0 : Int → Int → Int → Int → (Bool × Int × Int × Unit) → Option α) : spec_BitMake_L2 N 0 v274 v275 v276 v277 v278 k0 = none := by rw [spec_BitMake_L2.eq]; rfl
theorem spec_BitMake_L2.succ {α : Type} (N n : Nat) (v274 : Int) (v275 : Int) (v276 : Int) (v277 : Int) (v278 : Bool × Int × Int × Unit) (k0 : Int → Int → Int → Int → (Bool × Int × Int × Unit) → Option α) : spec_BitMake_L2 N (n + 1) v274 v275 v276 v277 v278 k0 = spec_BitMake_L2r N (fun y0 y1 y2 y3 y4 => spec_BitMake_L2 N n y0 y1 y2 y3 y4 k0) k0 v274 v275 v276 v277 v278 := by rw [spec_BitMake_L2.eq]; rfl
noncomputable def spec_BitMake_J17.b {α : Type} (N : Nat) (v294 : Int) (v295 : Int) (v296 : Int) (v297 : Int) (v298 : Int) (v299 : Bool × Int × Int × Unit) (k0 : Int → Bool → Option α) (k1 : Int → (Bool × Int × Int × Unit) → Option α) : Option α :=
  let x300 := decide (v297 ≤ v295)
  bif x300 then
    spec_l1Least N v294
      (fun x301 =>
        let x302 := IntKind.i64.wrap (v296 - x301)
        let x303 := (IntKind.i64.wrap (x302 + (1 : Int)))
        spec_BitTop N v294
          (fun x304 =>
            let x305 := IntKind.i64.wrap v297
            bif (decide (x305 = (0 : Int))) then
              none
            else
              let x306 := IntKind.i64.wrap (Int.tdiv x304 x305)
              let x307 := (IntKind.i64.wrap (x306 - (1 : Int)))
              let x308 := decide (x307 < x303)
              bif x308 then
                k0 (0 : Int) false
              else
                let x309 := IntKind.i64.wrap v297
                let x310 := IntKind.i64.wrap (x303 * x309)
                let x311 := IntKind.u64.wrap (v295 - v297)
                let x312 := IntKind.i64.wrap x311
                let x313 := IntKind.i64.wrap (x310 + x312)
                k1 x313 v299))
  else
    k1 v298 v299
theorem spec_BitMake_J17.ex : ∃ f : ((α : Type) → Nat → Int → Int → Int → Int → Int → (Bool × Int × Int × Unit) → (Int → Bool → Option α) → (Int → (Bool × Int × Int × Unit) → Option α) → Option α), f = fun α => @spec_BitMake_J17.b α := ⟨_, rfl⟩
noncomputable def spec_BitMake_J17 {α : Type} : Nat → Int → Int → Int → Int → Int → (Bool × Int × Int × Unit) → (Int → Bool → Option α) → (Int → (Bool × Int × Int × Unit) → Option α) → Option α := Classical.choose spec_BitMake_J17.ex α
theorem spec_BitMake_J17.eq : @spec_BitMake_J17 = @spec_BitMake_J17.b := funext fun α => congrFun (Classical.choose_spec spec_BitMake_J17.ex) α
/-- loop.example/pinfold/spec.BitMake -/
noncomputable def spec_BitMake.b {α : Type} (N : Nat) (a244 : Int) (a245 : Bool × Int × Int × Unit) (k0 : Int → Bool → Option α) : Option α :=
  spec_l1Width N a244
    (fun x246 =>
      let x247 := !x246
      bif x247 then
        k0 (0 : Int) false
      else
        let x248 := (decide (a245.2.2.1 < (-2000 : Int)))
        bif x248 then
          k0 (0 : Int) false
        else
          let x249 := (decide ((2000 : Int) < a245.2.2.1))
          bif x249 then
            k0 (0 : Int) false
          else
            let x250 := (decide (a245.2.1 = (0 : Int)))
            bif x250 then
              k0 (0 : Int) true
            else
              spec_l1Frac N a244
                (fun x251 =>
                  let x252 := IntKind.u64.wrap x251
                  bif (decide (x252 < (0 : Int))) then
                    none
                  else
                    let x253 := (shlI .u64 (1 : Int) x252)
                    spec_BitMake_L0 N N a244 a245.2.1 a245.2.2.1 x253 a245
                      (fun x269 x270 x271 x272 x273 =>
                        spec_BitMake_L2 N N x269 x270 x271 x272 x273
                          (fun x284 x285 x286 x287 x288 =>
                            let x289 := (IntKind.u64.wrap ((2 : Int) * x287))
                            let x290 := decide (x289 ≤ x285)
                            bif x290 then
                              k0 (0 : Int) false
                            else
                              spec_l1Least N x284
                                (fun x291 =>
                                  let x292 := decide (x286 < x291)
                                  bif x292 then
                                    k0 (0 : Int) false
                                  else
                                    let x293 := IntKind.i64.wrap x285
                                    spec_BitMake_J17 N x284 x285 x286 x287 x293 x288
                                      (fun x314 x315 =>
                                        k0 x314 x315)
                                      (fun x316 x317 =>
                                        bif x317.1 then
                                          let x318 := IntKind.i64.wrap (0 - x316)
                                          k0 x318 true
                                        else
                                          k0 x316 true))))))
theorem spec_BitMake.ex : ∃ f : ((α : Type) → Nat → Int → (Bool × Int × Int × Unit) → (Int → Bool → Option α) → Option α), f = fun α => @spec_BitMake.b α := ⟨_, rfl⟩
noncomputable def spec_BitMake {α : Type} : Nat → Int → (Bool × Int × Int × Unit) → (Int → Bool → Option α) → Option α := Classical.choose spec_BitMake.ex α
theorem spec_BitMake.eq : @spec_BitMake = @spec_BitMake.b := funext fun α => congrFun (Classical.choose_spec spec_BitMake.ex) α

/-- loop.example/pinfold/spec.BitWiden -/
noncomputable def spec_BitWiden.b {α : Type} (N : Nat) (a181 : Int) (k0 : Int → Bool → Option α) : Option α :=
  spec_BitOk N (32 : Int) a181
    (fun x193 =>
      let x194 := !x193
      bif x194 then
        k0 (0 : Int) false
      else
        spec_BitPartOf N (32 : Int) a181
          (fun x237 x238 =>
            let x239 := !x238
            bif x239 then
              let x240 := (decide (a181 < (0 : Int)))
              bif x240 then
                spec_BitTop N (64 : Int)
                  (fun x241 =>
                    let x242 := IntKind.i64.wrap (0 - x241)
                    k0 x242 true)
              else
                spec_BitTop N (64 : Int)
                  (fun x243 =>
                    k0 x243 true)
            else
              spec_BitMake N (64 : Int) x237
                (fun x319 x320 =>
                  k0 x319 x320)))
theorem spec_BitWiden.ex : ∃ f : ((α : Type) → Nat → Int → (Int → Bool → Option α) → Option α), f = fun α => @spec_BitWiden.b α := ⟨_, rfl⟩
noncomputable def spec_BitWiden {α : Type} : Nat → Int → (Int → Bool → Option α) → Option α := Classical.choose spec_BitWiden.ex α
theorem spec_BitWiden.eq : @spec_BitWiden = @spec_BitWiden.b := funext fun α => congrFun (Classical.choose_spec spec_BitWiden.ex) α

/-- (*loop.example/pinfold/spec.l31Rd).wide -/
noncomputable def spec_l31Rd_wide.b {α : Type} (N : Nat) (a56 : (List Int) × Int × Unit) (k0 : Int → ((List Int) × Int × Unit) → Option α) : Option α :=
  spec_l31Rd_pick N (3 : Int) a56
    (fun x57 x58 =>
      let x59 := (decide ((0 : Int) < x57))
      bif x59 then
        spec_l31Rd_ord N (32 : Int) x58
          (fun x179 x180 =>
            spec_BitWiden N x179
              (fun x321 _ =>
                spec_l31Rd_pick N (5 : Int) x180
                  (fun x323 x324 =>
                    let x325 := IntKind.i64.wrap (x321 + x323)
                    let x326 := (IntKind.i64.wrap (x325 - (2 : Int)))
                    k0 x326 x324)))
      else
        spec_l31Rd_ord N (64 : Int) x58
          (fun x327 x328 =>
            k0 x327 x328))
theorem spec_l31Rd_wide.ex : ∃ f : ((α : Type) → Nat → ((List Int) × Int × Unit) → (Int → ((List Int) × Int × Unit) → Option α) → Option α), f = fun α => @spec_l31Rd_wide.b α := ⟨_, rfl⟩
noncomputable def spec_l31Rd_wide {α : Type} : Nat → ((List Int) × Int × Unit) → (Int → ((List Int) × Int × Unit) → Option α) → Option α := Classical.choose spec_l31Rd_wide.ex α
theorem spec_l31Rd_wide.eq : @spec_l31Rd_wide = @spec_l31Rd_wide.b := funext fun α => congrFun (Classical.choose_spec spec_l31Rd_wide.ex) α

noncomputable def spec_l31Rd_widePair_J2.b {α : Type} (N : Nat) (v333 : (List Int) × Int × Unit) (v334 : Int × Int × Unit) (v335 : Int × Int × Unit) (k0 : ((List Int) × Int × Unit) → (Int × Int × Unit) → (Int × Int × Unit) → Option α) : Option α :=
  let x336 := decide (v335.2.1 < v335.1)
  bif x336 then
    spec_l31Rd_pick N (12 : Int) v333
      (fun x337 x338 =>
        let x339 := (decide ((0 : Int) < x337))
        bif x339 then
          k0 x338 v334 (v335.2.1, (v335.1, ()))
        else
          k0 x338 v334 v335)
  else
    k0 v333 v334 v335
theorem spec_l31Rd_widePair_J2.ex : ∃ f : ((α : Type) → Nat → ((List Int) × Int × Unit) → (Int × Int × Unit) → (Int × Int × Unit) → (((List Int) × Int × Unit) → (Int × Int × Unit) → (Int × Int × Unit) → Option α) → Option α), f = fun α => @spec_l31Rd_widePair_J2.b α := ⟨_, rfl⟩
noncomputable def spec_l31Rd_widePair_J2 {α : Type} : Nat → ((List Int) × Int × Unit) → (Int × Int × Unit) → (Int × Int × Unit) → (((List Int) × Int × Unit) → (Int × Int × Unit) → (Int × Int × Unit) → Option α) → Option α := Classical.choose spec_l31Rd_widePair_J2.ex α
theorem spec_l31Rd_widePair_J2.eq : @spec_l31Rd_widePair_J2 = @spec_l31Rd_widePair_J2.b := funext fun α => congrFun (Classical.choose_spec spec_l31Rd_widePair_J2.ex) α
/-- (*loop.example/pinfold/spec.l31Rd).widePair -/
noncomputable def spec_l31Rd_widePair.b {α : Type} (N : Nat) (a55 : (List Int) × Int × Unit) (k0 : (Int × Int × Unit) → ((List Int) × Int × Unit) → Option α) : Option α :=
  spec_l31Rd_wide N a55
    (fun x329 x330 =>
      spec_l31Rd_wide N x330
        (fun x331 x332 =>
          spec_l31Rd_widePair_J2 N x332 ((0 : Int), ((0 : Int), ())) (x329, (x331, ()))
            (fun x340 _ x342 =>
              k0 x342 x340)))
theorem spec_l31Rd_widePair.ex : ∃ f : ((α : Type) → Nat → ((List Int) × Int × Unit) → ((Int × Int × Unit) → ((List Int) × Int × Unit) → Option α) → Option α), f = fun α => @spec_l31Rd_widePair.b α := ⟨_, rfl⟩
noncomputable def spec_l31Rd_widePair {α : Type} : Nat → ((List Int) × Int × Unit) → ((Int × Int × Unit) → ((List Int) × Int × Unit) → Option α) → Option α := Classical.choose spec_l31Rd_widePair.ex α
theorem spec_l31Rd_widePair.eq : @spec_l31Rd_widePair = @spec_l31Rd_widePair.b := funext fun α => congrFun (Classical.choose_spec spec_l31Rd_widePair.ex) α

noncomputable def spec_DrawBoxLess_L0r {α : Type} (N : Nat) (next : Int → Int → ((List Int) × Int × Unit) → List (Int × Int × Unit) → List (Int × Int × Unit) → Option α) (k0 : List (Int × Int × Unit) → List (Int × Int × Unit) → Option α) (v49 : Int) (v50 : Int) (v51 : (List Int) × Int × Unit) (v52 : List (Int × Int × Unit)) (v53 : List (Int × Int × Unit)) : Option α :=
  let x54 := decide (v50 < v49)
  bif x54 then
    spec_l31Rd_widePair N v51
      (fun x343 x344 =>
        let x345 := [x343]
        bif decide (v53.length + x345.length ≤ 8796093022208) then
          let x346 := v53 ++ x345
          let x347 := (IntKind.i64.wrap (v50 + (1 : Int)))
          next v49 x347 x344 v52 x346
        else
          none)
  else
    k0 v52 v53
noncomputable def spec_DrawBoxLess_L0.b {α : Type} (N n : Nat) (v49 : Int) (v50 : Int) (v51 : (List Int) × Int × Unit) (v52 : List (Int × Int × Unit)) (v53 : List (Int × Int × Unit)) (k0 : List (Int × Int × Unit) → List (Int × Int × Unit) → Option α) : Option α :=
  Nat.rec (motive := fun _ => Int → Int → ((List Int) × Int × Unit) → List (Int × Int × Unit) → List (Int × Int × Unit) → Option α) (fun _ _ _ _ _ => none) (fun _ next => spec_DrawBoxLess_L0r N next k0) n v49 v50 v51 v52 v53
theorem spec_DrawBoxLess_L0.ex : ∃ f : ((α : Type) → Nat → Nat → Int → Int → ((List Int) × Int × Unit) → List (Int × Int × Unit) → List (Int × Int × Unit) → (List (Int × Int × Unit) → List (Int × Int × Unit) → Option α) → Option α), f = fun α => @spec_DrawBoxLess_L0.b α := ⟨_, rfl⟩
noncomputable def spec_DrawBoxLess_L0 {α : Type} : Nat → Nat → Int → Int → ((List Int) × Int × Unit) → List (Int × Int × Unit) → List (Int × Int × Unit) → (List (Int × Int × Unit) → List (Int × Int × Unit) → Option α) → Option α := Classical.choose spec_DrawBoxLess_L0.ex α
theorem spec_DrawBoxLess_L0.eq : @spec_DrawBoxLess_L0 = @spec_DrawBoxLess_L0.b := funext fun α => congrFun (Classical.choose_spec spec_DrawBoxLess_L0.ex) α
theorem spec_DrawBoxLess_L0.zero {α : Type} (N : Nat) (v49 : Int) (v50 : Int) (v51 : (List Int) × Int × Unit) (v52 : List (Int × Int × Unit)) (v53 : List (Int × Int × Unit)) (k0 : List (Int × Int × Unit) → List (Int × Int × Unit) → Option α) : spec_DrawBoxLess_L0 N 0 v49 v50 v51 v52 v53 k0 = none := by rw [spec_DrawBoxLess_L0.eq]; rfl
theorem spec_DrawBoxLess_L0.succ {α : Type} (N n : Nat) (v49 : Int) (v50 : Int) (v51 : (List Int) × Int × Unit) (v52 : List (Int × Int × Unit)) (v53 : List (Int × Int × Unit)) (k0 : List (Int × Int × Unit) → List (Int × Int × Unit) → Option α) : spec_DrawBoxLess_L0 N (n + 1) v49 v50 v51 v52 v53 k0 = spec_DrawBoxLess_L0r N (fun y0 y1 y2 y3 y4 => spec_DrawBoxLess_L0 N n y0 y1 y2 y3 y4 k0) k0 v49 v50 v51 v52 v53 := by rw [spec_DrawBoxLess_L0.eq]; rfl
/-- loop.example/pinfold/spec.DrawBoxLess -/
noncomputable def spec_DrawBoxLess.b {α : Type} (N : Nat) (a4 : List Int) (k0 : List (Int × Int × Unit) → Option α) : Option α :=
  spec_l31Open N a4
    (fun x11 =>
      spec_l31Rd_pick N (3 : Int) x11
        (fun x46 x47 =>
          let x48 := (IntKind.i64.wrap ((1 : Int) + x46))
          spec_DrawBoxLess_L0 N N x48 (0 : Int) x47 [] []
            (fun _ x349 =>
              k0 x349)))
theorem spec_DrawBoxLess.ex : ∃ f : ((α : Type) → Nat → List Int → (List (Int × Int × Unit) → Option α) → Option α), f = fun α => @spec_DrawBoxLess.b α := ⟨_, rfl⟩
noncomputable def spec_DrawBoxLess {α : Type} : Nat → List Int → (List (Int × Int × Unit) → Option α) → Option α := Classical.choose spec_DrawBoxLess.ex α
theorem spec_DrawBoxLess.eq : @spec_DrawBoxLess = @spec_DrawBoxLess.b := funext fun α => congrFun (Classical.choose_spec spec_DrawBoxLess.ex) α

/-- loop.example/pinfold/impl.in -/
noncomputable def impl_in.b {α : Type} (N : Nat) (a355 : Int) (a356 : Int) (a357 : Int) (k0 : Bool → Option α) : Option α :=
  let x358 := decide (a356 ≤ a355)
  bif x358 then
    let x359 := decide (a355 ≤ a357)
    k0 x359
  else
    k0 false
theorem impl_in.ex : ∃ f : ((α : Type) → Nat → Int → Int → Int → (Bool → Option α) → Option α), f = fun α => @impl_in.b α := ⟨_, rfl⟩
noncomputable def impl_in {α : Type} : Nat → Int → Int → Int → (Bool → Option α) → Option α := Classical.choose impl_in.ex α
theorem impl_in.eq : @impl_in = @impl_in.b := funext fun α => congrFun (Classical.choose_spec impl_in.ex) α

/-- loop.example/pinfold/impl.formatOf -/
noncomputable def impl_formatOf.b {α : Type} (N : Nat) (a377 : Int) (k0 : (Int × Int × Int × Int × Unit) → Bool → Option α) : Option α :=
  let x378 := (decide (a377 = (32 : Int)))
  bif x378 then
    k0 ((23 : Int), ((-149 : Int), ((127 : Int), ((2139095040 : Int), ())))) true
  else
    let x379 := (decide (a377 = (64 : Int)))
    bif x379 then
      k0 ((52 : Int), ((-1074 : Int), ((1023 : Int), ((9218868437227405312 : Int), ())))) true
    else
      k0 ((0 : Int), ((0 : Int), ((0 : Int), ((0 : Int), ())))) false
theorem impl_formatOf.ex : ∃ f : ((α : Type) → Nat → Int → ((Int × Int × Int × Int × Unit) → Bool → Option α) → Option α), f = fun α => @impl_formatOf.b α := ⟨_, rfl⟩
noncomputable def impl_formatOf {α : Type} : Nat → Int → ((Int × Int × Int × Int × Unit) → Bool → Option α) → Option α := Classical.choose impl_formatOf.ex α
theorem impl_formatOf.eq : @impl_formatOf = @impl_formatOf.b := funext fun α => congrFun (Classical.choose_spec impl_formatOf.ex) α

/-- loop.example/pinfold/impl.BitTop -/
noncomputable def impl_BitTop.b {α : Type} (N : Nat) (a376 : Int) (k0 : Int → Option α) : Option α :=
  impl_formatOf N a376
    (fun x380 _ =>
      k0 x380.2.2.2.1)
theorem impl_BitTop.ex : ∃ f : ((α : Type) → Nat → Int → (Int → Option α) → Option α), f = fun α => @impl_BitTop.b α := ⟨_, rfl⟩
noncomputable def impl_BitTop {α : Type} : Nat → Int → (Int → Option α) → Option α := Classical.choose impl_BitTop.ex α
theorem impl_BitTop.eq : @impl_BitTop = @impl_BitTop.b := funext fun α => congrFun (Classical.choose_spec impl_BitTop.ex) α

/-- loop.example/pinfold/impl.BitOk -/
noncomputable def impl_BitOk.b {α : Type} (N : Nat) (a383 : Int) (a384 : Int) (k0 : Bool → Option α) : Option α :=
  impl_formatOf N a383
    (fun x385 x386 =>
      bif x386 then
        let x387 := IntKind.i64.wrap (0 - x385.2.2.2.1)
        impl_in N a384 x387 x385.2.2.2.1
          (fun x388 =>
            k0 x388)
      else
        k0 false)
theorem impl_BitOk.ex : ∃ f : ((α : Type) → Nat → Int → Int → (Bool → Option α) → Option α), f = fun α => @impl_BitOk.b α := ⟨_, rfl⟩
noncomputable def impl_BitOk {α : Type} : Nat → Int → Int → (Bool → Option α) → Option α := Classical.choose impl_BitOk.ex α
theorem impl_BitOk.eq : @impl_BitOk = @impl_BitOk.b := funext fun α => congrFun (Classical.choose_spec impl_BitOk.ex) α

/-- loop.example/pinfold/impl.PairOk -/
noncomputable def impl_PairOk.b {α : Type} (N : Nat) (a374 : Int) (a375 : Int × Int × Unit) (k0 : Bool → Option α) : Option α :=
  impl_BitTop N a374
    (fun x382 =>
      impl_BitOk N a374 a375.1
        (fun x389 =>
          bif x389 then
            impl_BitOk N a374 a375.2.1
              (fun x390 =>
                bif x390 then
                  let x391 := decide (a375.1 ≤ a375.2.1)
                  bif x391 then
                    let x392 := !(decide (a375.1 = x382))
                    bif x392 then
                      let x393 := IntKind.i64.wrap (0 - x382)
                      let x394 := !(decide (a375.2.1 = x393))
                      k0 x394
                    else
                      k0 false
                  else
                    k0 false
                else
                  k0 false)
          else
            k0 false))
theorem impl_PairOk.ex : ∃ f : ((α : Type) → Nat → Int → (Int × Int × Unit) → (Bool → Option α) → Option α), f = fun α => @impl_PairOk.b α := ⟨_, rfl⟩
noncomputable def impl_PairOk {α : Type} : Nat → Int → (Int × Int × Unit) → (Bool → Option α) → Option α := Classical.choose impl_PairOk.ex α
theorem impl_PairOk.eq : @impl_PairOk = @impl_PairOk.b := funext fun α => congrFun (Classical.choose_spec impl_PairOk.ex) α

/-- loop.example/pinfold/impl.BoxOk$1 -/
noncomputable def impl_BoxOk_1.b {α : Type} (N : Nat) (a372 : Int × Int × Unit) (a373 : Int) (k0 : Bool → Option α) : Option α :=
  impl_PairOk N a373 a372
    (fun x395 =>
      let x396 := !x395
      k0 x396)
theorem impl_BoxOk_1.ex : ∃ f : ((α : Type) → Nat → (Int × Int × Unit) → Int → (Bool → Option α) → Option α), f = fun α => @impl_BoxOk_1.b α := ⟨_, rfl⟩
noncomputable def impl_BoxOk_1 {α : Type} : Nat → (Int × Int × Unit) → Int → (Bool → Option α) → Option α := Classical.choose impl_BoxOk_1.ex α
theorem impl_BoxOk_1.eq : @impl_BoxOk_1 = @impl_BoxOk_1.b := funext fun α => congrFun (Classical.choose_spec impl_BoxOk_1.ex) α

noncomputable def slices_IndexFunc_impl_Pair_impl_Pair__impl_BoxOk_1_L0r {α : Type} (N : Nat) (next : List (Int × Int × Unit) → Int → Int → Int → Option α) (k0 : Int → Option α) (k1 : Option α) (v366 : List (Int × Int × Unit)) (v367 : Int) (v368 : Int) (v369 : Int) : Option α :=
  let x370 := decide (v369 < v368)
  bif x370 then
    bif (decide (v369 < (0 : Int))) then
      none
    else
      match v366[v369.toNat]? with
      | some x371 =>
        impl_BoxOk_1 N x371 v367
          (fun x397 =>
            bif x397 then
              k0 v369
            else
              let x398 := (IntKind.i64.wrap (v369 + (1 : Int)))
              next v366 v367 v368 x398)
      | none => none
  else
    k1
noncomputable def slices_IndexFunc_impl_Pair_impl_Pair__impl_BoxOk_1_L0.b {α : Type} (N n : Nat) (v366 : List (Int × Int × Unit)) (v367 : Int) (v368 : Int) (v369 : Int) (k0 : Int → Option α) (k1 : Option α) : Option α :=
  Nat.rec (motive := fun _ => List (Int × Int × Unit) → Int → Int → Int → Option α) (fun _ _ _ _ => none) (fun _ next => slices_IndexFunc_impl_Pair_impl_Pair__impl_BoxOk_1_L0r N next k0 k1) n v366 v367 v368 v369
theorem slices_IndexFunc_impl_Pair_impl_Pair__impl_BoxOk_1_L0.ex : ∃ f : ((α : Type) → Nat → Nat → List (Int × Int × Unit) → Int → Int → Int → (Int → Option α) → (Option α) → Option α), f = fun α => @slices_IndexFunc_impl_Pair_impl_Pair__impl_BoxOk_1_L0.b α := ⟨_, rfl⟩
noncomputable def slices_IndexFunc_impl_Pair_impl_Pair__impl_BoxOk_1_L0 {α : Type} : Nat → Nat → List (Int × Int × Unit) → Int → Int → Int → (Int → Option α) → (Option α) → Option α := Classical.choose slices_IndexFunc_impl_Pair_impl_Pair__impl_BoxOk_1_L0.ex α
theorem slices_IndexFunc_impl_Pair_impl_Pair__impl_BoxOk_1_L0.eq : @slices_IndexFunc_impl_Pair_impl_Pair__impl_BoxOk_1_L0 = @slices_IndexFunc_impl_Pair_impl_Pair__impl_BoxOk_1_L0.b := funext fun α => congrFun (Classical.choose_spec slices_IndexFunc_impl_Pair_impl_Pair__impl_BoxOk_1_L0.ex) α
theorem slices_IndexFunc_impl_Pair_impl_Pair__impl_BoxOk_1_L0.zero {α : Type} (N : Nat) (v366 : List (Int × Int × Unit)) (v367 : Int) (v368 : Int) (v369 : Int) (k0 : Int → Option α) (k1 : Option α) : slices_IndexFunc_impl_Pair_impl_Pair__impl_BoxOk_1_L0 N 0 v366 v367 v368 v369 k0 k1 = none := by rw [slices_IndexFunc_impl_Pair_impl_Pair__impl_BoxOk_1_L0.eq]; rfl
theorem slices_IndexFunc_impl_Pair_impl_Pair__impl_BoxOk_1_L0.succ {α : Type} (N n : Nat) (v366 : List (Int × Int × Unit)) (v367 : Int) (v368 : Int) (v369 : Int) (k0 : Int → Option α) (k1 : Option α) : slices_IndexFunc_impl_Pair_impl_Pair__impl_BoxOk_1_L0 N (n + 1) v366 v367 v368 v369 k0 k1 = slices_IndexFunc_impl_Pair_impl_Pair__impl_BoxOk_1_L0r N (fun y0 y1 y2 y3 => slices_IndexFunc_impl_Pair_impl_Pair__impl_BoxOk_1_L0 N n y0 y1 y2 y3 k0 k1) k0 k1 v366 v367 v368 v369 := by rw [slices_IndexFunc_impl_Pair_impl_Pair__impl_BoxOk_1_L0.eq]; rfl
/-- slices.IndexFunc[[]loop.example/pinfold/impl.Pair,loop.example/pinfold/impl.Pair] -/
noncomputable def slices_IndexFunc_impl_Pair_impl_Pair__impl_BoxOk_1.b {α : Type} (N : Nat) (a363 : List (Int × Int × Unit)) (a364 : Int) (k0 : Int → Option α) : Option α :=
  let x365 := ((a363.length : Nat) : Int)
  slices_IndexFunc_impl_Pair_impl_Pair__impl_BoxOk_1_L0 N N a363 a364 x365 (0 : Int)
    (fun x399 =>
      k0 x399)
    (
      k0 (-1 : Int))
theorem slices_IndexFunc_impl_Pair_impl_Pair__impl_BoxOk_1.ex : ∃ f : ((α : Type) → Nat → List (Int × Int × Unit) → Int → (Int → Option α) → Option α), f = fun α => @slices_IndexFunc_impl_Pair_impl_Pair__impl_BoxOk_1.b α := ⟨_, rfl⟩
noncomputable def slices_IndexFunc_impl_Pair_impl_Pair__impl_BoxOk_1 {α : Type} : Nat → List (Int × Int × Unit) → Int → (Int → Option α) → Option α := Classical.choose slices_IndexFunc_impl_Pair_impl_Pair__impl_BoxOk_1.ex α
theorem slices_IndexFunc_impl_Pair_impl_Pair__impl_BoxOk_1.eq : @slices_IndexFunc_impl_Pair_impl_Pair__impl_BoxOk_1 = @slices_IndexFunc_impl_Pair_impl_Pair__impl_BoxOk_1.b := funext fun α => congrFun (Classical.choose_spec slices_IndexFunc_impl_Pair_impl_Pair__impl_BoxOk_1.ex) α

/-- slices.ContainsFunc[[]loop.example/pinfold/impl.Pair,loop.example/pinfold/impl.Pair] -/
noncomputable def slices_ContainsFunc_impl_Pair_impl_Pair__impl_BoxOk_1.b {α : Type} (N : Nat) (a361 : List (Int × Int × Unit)) (a362 : Int) (k0 : Bool → Option α) : Option α :=
  slices_IndexFunc_impl_Pair_impl_Pair__impl_BoxOk_1 N a361 a362
    (fun x400 =>
      let x401 := (decide ((0 : Int) ≤ x400))
      k0 x401)
theorem slices_ContainsFunc_impl_Pair_impl_Pair__impl_BoxOk_1.ex : ∃ f : ((α : Type) → Nat → List (Int × Int × Unit) → Int → (Bool → Option α) → Option α), f = fun α => @slices_ContainsFunc_impl_Pair_impl_Pair__impl_BoxOk_1.b α := ⟨_, rfl⟩
noncomputable def slices_ContainsFunc_impl_Pair_impl_Pair__impl_BoxOk_1 {α : Type} : Nat → List (Int × Int × Unit) → Int → (Bool → Option α) → Option α := Classical.choose slices_ContainsFunc_impl_Pair_impl_Pair__impl_BoxOk_1.ex α
theorem slices_ContainsFunc_impl_Pair_impl_Pair__impl_BoxOk_1.eq : @slices_ContainsFunc_impl_Pair_impl_Pair__impl_BoxOk_1 = @slices_ContainsFunc_impl_Pair_impl_Pair__impl_BoxOk_1.b := funext fun α => congrFun (Classical.choose_spec slices_ContainsFunc_impl_Pair_impl_Pair__impl_BoxOk_1.ex) α

/-- loop.example/pinfold/impl.BoxOk -/
noncomputable def impl_BoxOk.b {α : Type} (N : Nat) (a352 : Int) (a353 : (List (Int × Int × Unit)) × Unit) (k0 : Bool → Option α) : Option α :=
  let x354 := ((a353.1.length : Nat) : Int)
  impl_in N x354 (1 : Int) (6 : Int)
    (fun x360 =>
      bif x360 then
        slices_ContainsFunc_impl_Pair_impl_Pair__impl_BoxOk_1 N a353.1 a352
          (fun x402 =>
            let x403 := !x402
            k0 x403)
      else
        k0 false)
theorem impl_BoxOk.ex : ∃ f : ((α : Type) → Nat → Int → ((List (Int × Int × Unit)) × Unit) → (Bool → Option α) → Option α), f = fun α => @impl_BoxOk.b α := ⟨_, rfl⟩
noncomputable def impl_BoxOk {α : Type} : Nat → Int → ((List (Int × Int × Unit)) × Unit) → (Bool → Option α) → Option α := Classical.choose impl_BoxOk.ex α
theorem impl_BoxOk.eq : @impl_BoxOk = @impl_BoxOk.b := funext fun α => congrFun (Classical.choose_spec impl_BoxOk.ex) α

/-- loop.example/pinfold/impl.size -/
noncomputable def impl_size.b {α : Type} (N : Nat) (a445 : Int) (k0 : Int → Option α) : Option α :=
  let x446 := IntKind.i64.wrap (0 - a445)
  let x447 := maxI a445 x446
  k0 x447
theorem impl_size.ex : ∃ f : ((α : Type) → Nat → Int → (Int → Option α) → Option α), f = fun α => @impl_size.b α := ⟨_, rfl⟩
noncomputable def impl_size {α : Type} : Nat → Int → (Int → Option α) → Option α := Classical.choose impl_size.ex α
theorem impl_size.eq : @impl_size = @impl_size.b := funext fun α => congrFun (Classical.choose_spec impl_size.ex) α

/-- loop.example/pinfold/impl.BitPartOf -/
noncomputable def impl_BitPartOf.b {α : Type} (N : Nat) (a439 : Int) (a440 : Int) (k0 : (Bool × Int × Int × Unit) → Bool → Option α) : Option α :=
  impl_formatOf N a439
    (fun x441 _ =>
      impl_BitOk N a439 a440
        (fun x443 =>
          let x444 := !x443
          bif x444 then
            k0 (false, ((0 : Int), ((0 : Int), ()))) false
          else
            impl_size N a440
              (fun x448 =>
                let x449 := decide (x448 = x441.2.2.2.1)
                bif x449 then
                  k0 (false, ((0 : Int), ((0 : Int), ()))) false
                else
                  impl_size N a440
                    (fun x450 =>
                      bif (decide (x441.1 < (0 : Int))) then
                        none
                      else
                        let x451 := (shlI .i64 (1 : Int) x441.1)
                        let x452 := (IntKind.i64.wrap (x451 - (1 : Int)))
                        let x453 := bitI .and .i64 x450 x452
                        impl_size N a440
                          (fun x454 =>
                            bif (decide (x441.1 < (0 : Int))) then
                              none
                            else
                              let x455 := shrI .i64 x454 x441.1
                              let x456 := (decide (x455 = (0 : Int)))
                              bif x456 then
                                let x457 := (decide (a440 < (0 : Int)))
                                let x458 := IntKind.u64.wrap x453
                                k0 (x457, (x458, (x441.2.1, ()))) true
                              else
                                let x459 := (decide (a440 < (0 : Int)))
                                bif (decide (x441.1 < (0 : Int))) then
                                  none
                                else
                                  let x460 := (shlI .i64 (1 : Int) x441.1)
                                  let x461 := bitI .or .i64 x453 x460
                                  let x462 := IntKind.u64.wrap x461
                                  let x463 := IntKind.i64.wrap (x441.2.1 + x455)
                                  let x464 := (IntKind.i64.wrap (x463 - (1 : Int)))
                                  k0 (x459, (x462, (x464, ()))) true)))))
theorem impl_BitPartOf.ex : ∃ f : ((α : Type) → Nat → Int → Int → ((Bool × Int × Int × Unit) → Bool → Option α) → Option α), f = fun α => @impl_BitPartOf.b α := ⟨_, rfl⟩
noncomputable def impl_BitPartOf {α : Type} : Nat → Int → Int → ((Bool × Int × Int × Unit) → Bool → Option α) → Option α := Classical.choose impl_BitPartOf.ex α
theorem impl_BitPartOf.eq : @impl_BitPartOf = @impl_BitPartOf.b := funext fun α => congrFun (Classical.choose_spec impl_BitPartOf.ex) α

-- prim math_bits_TrailingZeros64
noncomputable def math_bits_Len64_J1.b {α : Type} (N : Nat) (v479 : Int) (v480 : Int) (k0 : Int → Int → Option α) : Option α :=
  let x481 := (decide ((4294967296 : Int) ≤ v479))
  bif x481 then
    let x482 := (shrI .u64 v479 (32 : Int))
    k0 x482 (32 : Int)
  else
    k0 v479 v480
theorem math_bits_Len64_J1.ex : ∃ f : ((α : Type) → Nat → Int → Int → (Int → Int → Option α) → Option α), f = fun α => @math_bits_Len64_J1.b α := ⟨_, rfl⟩
noncomputable def math_bits_Len64_J1 {α : Type} : Nat → Int → Int → (Int → Int → Option α) → Option α := Classical.choose math_bits_Len64_J1.ex α
theorem math_bits_Len64_J1.eq : @math_bits_Len64_J1 = @math_bits_Len64_J1.b := funext fun α => congrFun (Classical.choose_spec math_bits_Len64_J1.ex) α
noncomputable def math_bits_Len64_J4.b {α : Type} (N : Nat) (v485 : Int) (v486 : Int) (k0 : Int → Int → Option α) : Option α :=
  let x487 := (decide ((65536 : Int) ≤ v485))
  bif x487 then
    let x488 := (shrI .u64 v485 (16 : Int))
    let x489 := (IntKind.i64.wrap (v486 + (16 : Int)))
    k0 x488 x489
  else
    k0 v485 v486
theorem math_bits_Len64_J4.ex : ∃ f : ((α : Type) → Nat → Int → Int → (Int → Int → Option α) → Option α), f = fun α => @math_bits_Len64_J4.b α := ⟨_, rfl⟩
noncomputable def math_bits_Len64_J4 {α : Type} : Nat → Int → Int → (Int → Int → Option α) → Option α := Classical.choose math_bits_Len64_J4.ex α
theorem math_bits_Len64_J4.eq : @math_bits_Len64_J4 = @math_bits_Len64_J4.b := funext fun α => congrFun (Classical.choose_spec math_bits_Len64_J4.ex) α
noncomputable def math_bits_Len64_J7.b {α : Type} (N : Nat) (v492 : Int) (v493 : Int) (k0 : Int → Int → Option α) : Option α :=
  let x494 := (decide ((256 : Int) ≤ v492))
  bif x494 then
    let x495 := (shrI .u64 v492 (8 : Int))
    let x496 := (IntKind.i64.wrap (v493 + (8 : Int)))
    k0 x495 x496
  else
    k0 v492 v493
theorem math_bits_Len64_J7.ex : ∃ f : ((α : Type) → Nat → Int → Int → (Int → Int → Option α) → Option α), f = fun α => @math_bits_Len64_J7.b α := ⟨_, rfl⟩
noncomputable def math_bits_Len64_J7 {α : Type} : Nat → Int → Int → (Int → Int → Option α) → Option α := Classical.choose math_bits_Len64_J7.ex α
theorem math_bits_Len64_J7.eq : @math_bits_Len64_J7 = @math_bits_Len64_J7.b := funext fun α => congrFun (Classical.choose_spec math_bits_Len64_J7.ex) α
/-- math/bits.Len64 -/
noncomputable def math_bits_Len64.b {α : Type} (N : Nat) (a478 : Int) (k0 : Int → Option α) : Option α :=
  math_bits_Len64_J1 N a478 (0 : Int)
    (fun x483 x484 =>
      math_bits_Len64_J4 N x483 x484
        (fun x490 x491 =>
          math_bits_Len64_J7 N x490 x491
            (fun x497 x498 =>
              let x499 := IntKind.u8.wrap x497
              bif (decide (x499 < (0 : Int))) then
                none
              else
                match ((⟨#[0, 1, 2, 2, 3, 3, 3, 3, 4, 4, 4, 4, 4, 4, 4, 4, 5, 5, 5, 5, 5, 5, 5, 5, 5, 5, 5, 5, 5, 5, 5, 5, 6, 6, 6, 6, 6, 6, 6, 6, 6, 6, 6, 6, 6, 6, 6, 6, 6, 6, 6, 6, 6, 6, 6, 6, 6, 6, 6, 6, 6, 6, 6, 6, 7, 7, 7, 7, 7, 7, 7, 7, 7, 7, 7, 7, 7, 7, 7, 7, 7, 7, 7, 7, 7, 7, 7, 7, 7, 7, 7, 7, 7, 7, 7, 7, 7, 7, 7, 7, 7, 7, 7, 7, 7, 7, 7, 7, 7, 7, 7, 7, 7, 7, 7, 7, 7, 7, 7, 7, 7, 7, 7, 7, 7, 7, 7, 7, 8, 8, 8, 8, 8, 8, 8, 8, 8, 8, 8, 8, 8, 8, 8, 8, 8, 8, 8, 8, 8, 8, 8, 8, 8, 8, 8, 8, 8, 8, 8, 8, 8, 8, 8, 8, 8, 8, 8, 8, 8, 8, 8, 8, 8, 8, 8, 8, 8, 8, 8, 8, 8, 8, 8, 8, 8, 8, 8, 8, 8, 8, 8, 8, 8, 8, 8, 8, 8, 8, 8, 8, 8, 8, 8, 8, 8, 8, 8, 8, 8, 8, 8, 8, 8, 8, 8, 8, 8, 8, 8, 8, 8, 8, 8, 8, 8, 8, 8, 8, 8, 8, 8, 8, 8, 8, 8, 8, 8, 8, 8, 8, 8, 8, 8, 8, 8, 8, 8, 8, 8, 8, 8, 8, 8, 8, 8, 8]⟩ : ByteArray)[x499.toNat]? : Option UInt8) with
                | some x500 =>
                  let x501 := ((x500.toNat : Nat) : Int)
                  let x502 := IntKind.i64.wrap x501
                  let x503 := IntKind.i64.wrap (x498 + x502)
                  k0 x503
                | none => none)))
theorem math_bits_Len64.ex : ∃ f : ((α : Type) → Nat → Int → (Int → Option α) → Option α), f = fun α => @math_bits_Len64.b α := ⟨_, rfl⟩
noncomputable def math_bits_Len64 {α : Type} : Nat → Int → (Int → Option α) → Option α := Classical.choose math_bits_Len64.ex α
theorem math_bits_Len64.eq : @math_bits_Len64 = @math_bits_Len64.b := funext fun α => congrFun (Classical.choose_spec math_bits_Len64.ex) α

noncomputable def impl_BitMake_J14.b {α : Type} (N : Nat) (v512 : Int) (v513 : Int) (v514 : Int) (v515 : Int) (v516 : Bool × Int × Int × Unit) (v517 : Int × Int × Int × Int × Unit) (k0 : Int → (Bool × Int × Int × Unit) → Option α) : Option α :=
  let x518 := (decide ((1 : Int) ≤ v515))
  bif x518 then
    bif (decide (v517.1 < (0 : Int))) then
      none
    else
      let x519 := shlI .i64 v515 v517.1
      let x520 := (IntKind.i64.wrap (v517.1 + (1 : Int)))
      let x521 := IntKind.i64.wrap (x520 - v514)
      bif (decide (x521 < (0 : Int))) then
        none
      else
        let x522 := shlI .u64 v512 x521
        let x523 := IntKind.i64.wrap x522
        bif (decide (v517.1 < (0 : Int))) then
          none
        else
          let x524 := (shlI .i64 (1 : Int) v517.1)
          let x525 := (IntKind.i64.wrap (x524 - (1 : Int)))
          let x526 := bitI .and .i64 x523 x525
          let x527 := bitI .or .i64 x519 x526
          k0 x527 v516
  else
    let x528 := IntKind.i64.wrap (v513 - v517.2.1)
    bif (decide (x528 < (0 : Int))) then
      none
    else
      let x529 := shlI .u64 v512 x528
      let x530 := IntKind.i64.wrap x529
      k0 x530 v516
theorem impl_BitMake_J14.ex : ∃ f : ((α : Type) → Nat → Int → Int → Int → Int → (Bool × Int × Int × Unit) → (Int × Int × Int × Int × Unit) → (Int → (Bool × Int × Int × Unit) → Option α) → Option α), f = fun α => @impl_BitMake_J14.b α := ⟨_, rfl⟩
noncomputable def impl_BitMake_J14 {α : Type} : Nat → Int → Int → Int → Int → (Bool × Int × Int × Unit) → (Int × Int × Int × Int × Unit) → (Int → (Bool × Int × Int × Unit) → Option α) → Option α := Classical.choose impl_BitMake_J14.ex α
theorem impl_BitMake_J14.eq : @impl_BitMake_J14 = @impl_BitMake_J14.b := funext fun α => congrFun (Classical.choose_spec impl_BitMake_J14.ex) α
noncomputable def impl_BitMake_J17.b {α : Type} (N : Nat) (v533 : Int) (v534 : Bool × Int × Int × Unit) (k0 : Int → Option α) : Option α :=
  bif v534.1 then
    let x535 := IntKind.i64.wrap (0 - v533)
    k0 x535
  else
    k0 v533
theorem impl_BitMake_J17.ex : ∃ f : ((α : Type) → Nat → Int → (Bool × Int × Int × Unit) → (Int → Option α) → Option α), f = fun α => @impl_BitMake_J17.b α := ⟨_, rfl⟩
noncomputable def impl_BitMake_J17 {α : Type} : Nat → Int → (Bool × Int × Int × Unit) → (Int → Option α) → Option α := Classical.choose impl_BitMake_J17.ex α
theorem impl_BitMake_J17.eq : @impl_BitMake_J17 = @impl_BitMake_J17.b := funext fun α => congrFun (Classical.choose_spec impl_BitMake_J17.ex) α
/-- loop.example/pinfold/impl.BitMake -/
noncomputable def impl_BitMake.b {α : Type} (N : Nat) (a467 : Int) (a468 : Bool × Int × Int × Unit) (k0 : Int → Bool → Option α) : Option α :=
  impl_formatOf N a467
    (fun x469 x470 =>
      let x471 := !x470
      bif x471 then
        k0 (0 : Int) false
      else
        impl_in N a468.2.2.1 (-2000 : Int) (2000 : Int)
          (fun x472 =>
            let x473 := !x472
            bif x473 then
              k0 (0 : Int) false
            else
              let x474 := (decide (a468.2.1 = (0 : Int)))
              bif x474 then
                k0 (0 : Int) true
              else
                math_bits_TrailingZeros64 N a468.2.1
                  (fun x475 =>
                    bif (decide (x475 < (0 : Int))) then
                      none
                    else
                      let x476 := shrI .u64 a468.2.1 x475
                      let x477 := IntKind.i64.wrap (a468.2.2.1 + x475)
                      math_bits_Len64 N x476
                        (fun x504 =>
                          let x505 := IntKind.i64.wrap (x477 + x504)
                          let x506 := (IntKind.i64.wrap (x505 - (1 : Int)))
                          let x507 := (IntKind.i64.wrap (x469.1 + (1 : Int)))
                          let x508 := decide (x507 < x504)
                          bif x508 then
                            k0 (0 : Int) false
                          else
                            let x509 := decide (x477 < x469.2.1)
                            bif x509 then
                              k0 (0 : Int) false
                            else
                              let x510 := decide (x469.2.2.1 < x506)
                              bif x510 then
                                k0 (0 : Int) false
                              else
                                let x511 := IntKind.i64.wrap (x506 + x469.2.2.1)
                                impl_BitMake_J14 N x476 x477 x504 x511 a468 x469
                                  (fun x531 x532 =>
                                    impl_BitMake_J17 N x531 x532
                                      (fun x536 =>
                                        k0 x536 true))))))
theorem impl_BitMake.ex : ∃ f : ((α : Type) → Nat → Int → (Bool × Int × Int × Unit) → (Int → Bool → Option α) → Option α), f = fun α => @impl_BitMake.b α := ⟨_, rfl⟩
noncomputable def impl_BitMake {α : Type} : Nat → Int → (Bool × Int × Int × Unit) → (Int → Bool → Option α) → Option α := Classical.choose impl_BitMake.ex α
theorem impl_BitMake.eq : @impl_BitMake = @impl_BitMake.b := funext fun α => congrFun (Classical.choose_spec impl_BitMake.ex) α

/-- loop.example/pinfold/impl.widen -/
noncomputable def impl_widen.b {α : Type} (N : Nat) (a438 : Int) (k0 : Int → Option α) : Option α :=
  impl_BitPartOf N (32 : Int) a438
    (fun x465 x466 =>
      bif x466 then
        impl_BitMake N (64 : Int) x465
          (fun x537 _ =>
            k0 x537)
      else
        let x539 := (decide (a438 < (0 : Int)))
        bif x539 then
          impl_BitTop N (64 : Int)
            (fun x540 =>
              let x541 := IntKind.i64.wrap (0 - x540)
              k0 x541)
        else
          impl_BitTop N (64 : Int)
            (fun x542 =>
              k0 x542))
theorem impl_widen.ex : ∃ f : ((α : Type) → Nat → Int → (Int → Option α) → Option α), f = fun α => @impl_widen.b α := ⟨_, rfl⟩
noncomputable def impl_widen {α : Type} : Nat → Int → (Int → Option α) → Option α := Classical.choose impl_widen.ex α
theorem impl_widen.eq : @impl_widen = @impl_widen.b := funext fun α => congrFun (Classical.choose_spec impl_widen.ex) α

noncomputable def impl_BitBelow_J6.b {α : Type} (N : Nat) (v434 : Int) (v435 : Int) (v436 : Int) (v437 : Int) (k0 : Int → Int → Int → Option α) : Option α :=
  impl_widen N v437
    (fun x543 =>
      let x544 := decide (x543 ≤ v434)
      bif x544 then
        k0 v434 v437 v436
      else
        let x545 := (IntKind.i64.wrap (v437 - (1 : Int)))
        k0 v434 v435 x545)
theorem impl_BitBelow_J6.ex : ∃ f : ((α : Type) → Nat → Int → Int → Int → Int → (Int → Int → Int → Option α) → Option α), f = fun α => @impl_BitBelow_J6.b α := ⟨_, rfl⟩
noncomputable def impl_BitBelow_J6 {α : Type} : Nat → Int → Int → Int → Int → (Int → Int → Int → Option α) → Option α := Classical.choose impl_BitBelow_J6.ex α
theorem impl_BitBelow_J6.eq : @impl_BitBelow_J6 = @impl_BitBelow_J6.b := funext fun α => congrFun (Classical.choose_spec impl_BitBelow_J6.ex) α
noncomputable def impl_BitBelow_L0r {α : Type} (N : Nat) (next : Int → Int → Int → Option α) (k0 : Int → Option α) (v426 : Int) (v427 : Int) (v428 : Int) : Option α :=
  let x429 := decide (v427 < v428)
  bif x429 then
    let x430 := IntKind.i64.wrap (v428 - v427)
    let x431 := (IntKind.i64.wrap (x430 + (1 : Int)))
    let x432 := (IntKind.i64.wrap (Int.tdiv x431 (2 : Int)))
    let x433 := IntKind.i64.wrap (v427 + x432)
    impl_BitBelow_J6 N v426 v427 v428 x433
      (fun x546 x547 x548 =>
        next x546 x547 x548)
  else
    k0 v427
noncomputable def impl_BitBelow_L0.b {α : Type} (N n : Nat) (v426 : Int) (v427 : Int) (v428 : Int) (k0 : Int → Option α) : Option α :=
  Nat.rec (motive := fun _ => Int → Int → Int → Option α) (fun _ _ _ => none) (fun _ next => impl_BitBelow_L0r N next k0) n v426 v427 v428
theorem impl_BitBelow_L0.ex : ∃ f : ((α : Type) → Nat → Nat → Int → Int → Int → (Int → Option α) → Option α), f = fun α => @impl_BitBelow_L0.b α := ⟨_, rfl⟩
noncomputable def impl_BitBelow_L0 {α : Type} : Nat → Nat → Int → Int → Int → (Int → Option α) → Option α := Classical.choose impl_BitBelow_L0.ex α
theorem impl_BitBelow_L0.eq : @impl_BitBelow_L0 = @impl_BitBelow_L0.b := funext fun α => congrFun (Classical.choose_spec impl_BitBelow_L0.ex) α
theorem impl_BitBelow_L0.zero {α : Type} (N : Nat) (v426 : Int) (v427 : Int) (v428 : Int) (k0 : Int → Option α) : impl_BitBelow_L0 N 0 v426 v427 v428 k0 = none := by rw [impl_BitBelow_L0.eq]; rfl
theorem impl_BitBelow_L0.succ {α : Type} (N n : Nat) (v426 : Int) (v427 : Int) (v428 : Int) (k0 : Int → Option α) : impl_BitBelow_L0 N (n + 1) v426 v427 v428 k0 = impl_BitBelow_L0r N (fun y0 y1 y2 => impl_BitBelow_L0 N n y0 y1 y2 k0) k0 v426 v427 v428 := by rw [impl_BitBelow_L0.eq]; rfl
/-- loop.example/pinfold/impl.BitBelow -/
noncomputable def impl_BitBelow.b {α : Type} (N : Nat) (a420 : Int) (k0 : Int → Bool → Option α) : Option α :=
  impl_BitOk N (64 : Int) a420
    (fun x421 =>
      let x422 := !x421
      bif x422 then
        k0 (0 : Int) false
      else
        impl_BitTop N (32 : Int)
          (fun x423 =>
            let x424 := IntKind.i64.wrap (0 - x423)
            impl_BitTop N (32 : Int)
              (fun x425 =>
                impl_BitBelow_L0 N N a420 x424 x425
                  (fun x549 =>
                    k0 x549 true))))
theorem impl_BitBelow.ex : ∃ f : ((α : Type) → Nat → Int → (Int → Bool → Option α) → Option α), f = fun α => @impl_BitBelow.b α := ⟨_, rfl⟩
noncomputable def impl_BitBelow {α : Type} : Nat → Int → (Int → Bool → Option α) → Option α := Classical.choose impl_BitBelow.ex α
theorem impl_BitBelow.eq : @impl_BitBelow = @impl_BitBelow.b := funext fun α => congrFun (Classical.choose_spec impl_BitBelow.ex) α

/-- loop.example/pinfold/impl.BitAbove -/
noncomputable def impl_BitAbove.b {α : Type} (N : Nat) (a552 : Int) (k0 : Int → Bool → Option α) : Option α :=
  let x553 := IntKind.i64.wrap (0 - a552)
  impl_BitBelow N x553
    (fun x554 x555 =>
      let x556 := IntKind.i64.wrap (0 - x554)
      k0 x556 x555)
theorem impl_BitAbove.ex : ∃ f : ((α : Type) → Nat → Int → (Int → Bool → Option α) → Option α), f = fun α => @impl_BitAbove.b α := ⟨_, rfl⟩
noncomputable def impl_BitAbove {α : Type} : Nat → Int → (Int → Bool → Option α) → Option α := Classical.choose impl_BitAbove.ex α
theorem impl_BitAbove.eq : @impl_BitAbove = @impl_BitAbove.b := funext fun α => congrFun (Classical.choose_spec impl_BitAbove.ex) α

/-- loop.example/pinfold/impl.PairLess -/
noncomputable def impl_PairLess.b {α : Type} (N : Nat) (a417 : Int × Int × Unit) (k0 : (Int × Int × Unit) → Bool → Option α) : Option α :=
  impl_PairOk N (64 : Int) a417
    (fun x418 =>
      let x419 := !x418
      bif x419 then
        k0 ((0 : Int), ((0 : Int), ())) false
      else
        impl_BitBelow N a417.1
          (fun x550 _ =>
            impl_BitAbove N a417.2.1
              (fun x557 _ =>
                k0 (x550, (x557, ())) true)))
theorem impl_PairLess.ex : ∃ f : ((α : Type) → Nat → (Int × Int × Unit) → ((Int × Int × Unit) → Bool → Option α) → Option α), f = fun α => @impl_PairLess.b α := ⟨_, rfl⟩
noncomputable def impl_PairLess {α : Type} : Nat → (Int × Int × Unit) → ((Int × Int × Unit) → Bool → Option α) → Option α := Classical.choose impl_PairLess.ex α
theorem impl_PairLess.eq : @impl_PairLess = @impl_PairLess.b := funext fun α => congrFun (Classical.choose_spec impl_PairLess.ex) α

noncomputable def impl_Box_mapped__impl_PairLess_L0r {α : Type} (N : Nat) (next : List (Int × Int × Unit) → Int → Int → List (Int × Int × Unit) → List (Int × Int × Unit) → Option α) (k0 : List (Int × Int × Unit) → List (Int × Int × Unit) → Option α) (v410 : List (Int × Int × Unit)) (v411 : Int) (v412 : Int) (v413 : List (Int × Int × Unit)) (v414 : List (Int × Int × Unit)) : Option α :=
  let x415 := decide (v412 < v411)
  bif x415 then
    bif (decide (v412 < (0 : Int))) then
      none
    else
      match v410[v412.toNat]? with
      | some x416 =>
        impl_PairLess N x416
          (fun x559 _ =>
            bif (decide (v412 < (0 : Int))) then
              none
            else
              bif decide (v412.toNat < v414.length) then
                match v414[v412.toNat]? with
                | some x561 =>
                  let x562 := v414.set v412.toNat x559
                  let x563 := (IntKind.i64.wrap (v412 + (1 : Int)))
                  next v410 v411 x563 v413 x562
                | none => none
              else
                none)
      | none => none
  else
    k0 v413 v414
noncomputable def impl_Box_mapped__impl_PairLess_L0.b {α : Type} (N n : Nat) (v410 : List (Int × Int × Unit)) (v411 : Int) (v412 : Int) (v413 : List (Int × Int × Unit)) (v414 : List (Int × Int × Unit)) (k0 : List (Int × Int × Unit) → List (Int × Int × Unit) → Option α) : Option α :=
  Nat.rec (motive := fun _ => List (Int × Int × Unit) → Int → Int → List (Int × Int × Unit) → List (Int × Int × Unit) → Option α) (fun _ _ _ _ _ => none) (fun _ next => impl_Box_mapped__impl_PairLess_L0r N next k0) n v410 v411 v412 v413 v414
theorem impl_Box_mapped__impl_PairLess_L0.ex : ∃ f : ((α : Type) → Nat → Nat → List (Int × Int × Unit) → Int → Int → List (Int × Int × Unit) → List (Int × Int × Unit) → (List (Int × Int × Unit) → List (Int × Int × Unit) → Option α) → Option α), f = fun α => @impl_Box_mapped__impl_PairLess_L0.b α := ⟨_, rfl⟩
noncomputable def impl_Box_mapped__impl_PairLess_L0 {α : Type} : Nat → Nat → List (Int × Int × Unit) → Int → Int → List (Int × Int × Unit) → List (Int × Int × Unit) → (List (Int × Int × Unit) → List (Int × Int × Unit) → Option α) → Option α := Classical.choose impl_Box_mapped__impl_PairLess_L0.ex α
theorem impl_Box_mapped__impl_PairLess_L0.eq : @impl_Box_mapped__impl_PairLess_L0 = @impl_Box_mapped__impl_PairLess_L0.b := funext fun α => congrFun (Classical.choose_spec impl_Box_mapped__impl_PairLess_L0.ex) α
theorem impl_Box_mapped__impl_PairLess_L0.zero {α : Type} (N : Nat) (v410 : List (Int × Int × Unit)) (v411 : Int) (v412 : Int) (v413 : List (Int × Int × Unit)) (v414 : List (Int × Int × Unit)) (k0 : List (Int × Int × Unit) → List (Int × Int × Unit) → Option α) : impl_Box_mapped__impl_PairLess_L0 N 0 v410 v411 v412 v413 v414 k0 = none := by rw [impl_Box_mapped__impl_PairLess_L0.eq]; rfl
theorem impl_Box_mapped__impl_PairLess_L0.succ {α : Type} (N n : Nat) (v410 : List (Int × Int × Unit)) (v411 : Int) (v412 : Int) (v413 : List (Int × Int × Unit)) (v414 : List (Int × Int × Unit)) (k0 : List (Int × Int × Unit) → List (Int × Int × Unit) → Option α) : impl_Box_mapped__impl_PairLess_L0 N (n + 1) v410 v411 v412 v413 v414 k0 = impl_Box_mapped__impl_PairLess_L0r N (fun y0 y1 y2 y3 y4 => impl_Box_mapped__impl_PairLess_L0 N n y0 y1 y2 y3 y4 k0) k0 v410 v411 v412 v413 v414 := by rw [impl_Box_mapped__impl_PairLess_L0.eq]; rfl
/-- (loop.example/pinfold/impl.Box).mapped -/
noncomputable def impl_Box_mapped__impl_PairLess.b {α : Type} (N : Nat) (a406 : (List (Int × Int × Unit)) × Unit) (k0 : List (Int × Int × Unit) → Option α) : Option α :=
  let x407 := ((a406.1.length : Nat) : Int)
  bif (decide ((0 : Int) ≤ x407)) then
    bif decide (x407 ≤ x407) then
      bif (decide (x407 ≤ ((8796093022208 : Nat) : Int))) then
        let x408 := (List.replicate x407.toNat ((0 : Int), ((0 : Int), ())))
        let x409 := ((a406.1.length : Nat) : Int)
        impl_Box_mapped__impl_PairLess_L0 N N a406.1 x409 (0 : Int) [] x408
          (fun _ x565 =>
            k0 x565)
      else
        none
    else
      none
  else
    none
theorem impl_Box_mapped__impl_PairLess.ex : ∃ f : ((α : Type) → Nat → ((List (Int × Int × Unit)) × Unit) → (List (Int × Int × Unit) → Option α) → Option α), f = fun α => @impl_Box_mapped__impl_PairLess.b α := ⟨_, rfl⟩
noncomputable def impl_Box_mapped__impl_PairLess {α : Type} : Nat → ((List (Int × Int × Unit)) × Unit) → (List (Int × Int × Unit) → Option α) → Option α := Classical.choose impl_Box_mapped__impl_PairLess.ex α
theorem impl_Box_mapped__impl_PairLess.eq : @impl_Box_mapped__impl_PairLess = @impl_Box_mapped__impl_PairLess.b := funext fun α => congrFun (Classical.choose_spec impl_Box_mapped__impl_PairLess.ex) α

/-- loop.example/pinfold/impl.BoxLess -/
noncomputable def impl_BoxLess.b {α : Type} (N : Nat) (a351 : (List (Int × Int × Unit)) × Unit) (k0 : Bool → List (Int × Int × Unit) → Option α) : Option α :=
  impl_BoxOk N (64 : Int) a351
    (fun x404 =>
      let x405 := !x404
      bif x405 then
        k0 false []
      else
        impl_Box_mapped__impl_PairLess N a351
          (fun x566 =>
            k0 true x566))
theorem impl_BoxLess.ex : ∃ f : ((α : Type) → Nat → ((List (Int × Int × Unit)) × Unit) → (Bool → List (Int × Int × Unit) → Option α) → Option α), f = fun α => @impl_BoxLess.b α := ⟨_, rfl⟩
noncomputable def impl_BoxLess {α : Type} : Nat → ((List (Int × Int × Unit)) × Unit) → (Bool → List (Int × Int × Unit) → Option α) → Option α := Classical.choose impl_BoxLess.ex α
theorem impl_BoxLess.eq : @impl_BoxLess = @impl_BoxLess.b := funext fun α => congrFun (Classical.choose_spec impl_BoxLess.ex) α

/-- loop.example/pinfold/spec.PairOk -/
noncomputable def spec_PairOk.b {α : Type} (N : Nat) (a581 : Int) (a582 : Int × Int × Unit) (k0 : Bool → Option α) : Option α :=
  spec_BitTop N a581
    (fun x583 =>
      spec_BitOk N a581 a582.1
        (fun x584 =>
          bif x584 then
            spec_BitOk N a581 a582.2.1
              (fun x585 =>
                bif x585 then
                  let x586 := decide (a582.1 ≤ a582.2.1)
                  bif x586 then
                    let x587 := decide (a582.1 < x583)
                    bif x587 then
                      let x588 := IntKind.i64.wrap (0 - x583)
                      let x589 := decide (x588 < a582.2.1)
                      k0 x589
                    else
                      k0 false
                  else
                    k0 false
                else
                  k0 false)
          else
            k0 false))
theorem spec_PairOk.ex : ∃ f : ((α : Type) → Nat → Int → (Int × Int × Unit) → (Bool → Option α) → Option α), f = fun α => @spec_PairOk.b α := ⟨_, rfl⟩
noncomputable def spec_PairOk {α : Type} : Nat → Int → (Int × Int × Unit) → (Bool → Option α) → Option α := Classical.choose spec_PairOk.ex α
theorem spec_PairOk.eq : @spec_PairOk = @spec_PairOk.b := funext fun α => congrFun (Classical.choose_spec spec_PairOk.ex) α

noncomputable def spec_BoxOk_L0r {α : Type} (N : Nat) (next : Int → Int → ((List (Int × Int × Unit)) × Unit) → Option α) (k0 : Bool → Option α) (k1 : Option α) (v575 : Int) (v576 : Int) (v577 : (List (Int × Int × Unit)) × Unit) : Option α :=
  let x578 := ((v577.1.length : Nat) : Int)
  let x579 := decide (v576 < x578)
  bif x579 then
    bif (decide (v576 < (0 : Int))) then
      none
    else
      match v577.1[v576.toNat]? with
      | some x580 =>
        spec_PairOk N v575 x580
          (fun x590 =>
            let x591 := !x590
            bif x591 then
              k0 false
            else
              let x592 := (IntKind.i64.wrap (v576 + (1 : Int)))
              next v575 x592 v577)
      | none => none
  else
    k1
noncomputable def spec_BoxOk_L0.b {α : Type} (N n : Nat) (v575 : Int) (v576 : Int) (v577 : (List (Int × Int × Unit)) × Unit) (k0 : Bool → Option α) (k1 : Option α) : Option α :=
  Nat.rec (motive := fun _ => Int → Int → ((List (Int × Int × Unit)) × Unit) → Option α) (fun _ _ _ => none) (fun _ next => spec_BoxOk_L0r N next k0 k1) n v575 v576 v577
theorem spec_BoxOk_L0.ex : ∃ f : ((α : Type) → Nat → Nat → Int → Int → ((List (Int × Int × Unit)) × Unit) → (Bool → Option α) → (Option α) → Option α), f = fun α => @spec_BoxOk_L0.b α := ⟨_, rfl⟩
noncomputable def spec_BoxOk_L0 {α : Type} : Nat → Nat → Int → Int → ((List (Int × Int × Unit)) × Unit) → (Bool → Option α) → (Option α) → Option α := Classical.choose spec_BoxOk_L0.ex α
theorem spec_BoxOk_L0.eq : @spec_BoxOk_L0 = @spec_BoxOk_L0.b := funext fun α => congrFun (Classical.choose_spec spec_BoxOk_L0.ex) α
theorem spec_BoxOk_L0.zero {α : Type} (N : Nat) (v575 : Int) (v576 : Int) (v577 : (List (Int × Int × Unit)) × Unit) (k0 : Bool → Option α) (k1 : Option α) : spec_BoxOk_L0 N 0 v575 v576 v577 k0 k1 = none := by rw [spec_BoxOk_L0.eq]; rfl
theorem spec_BoxOk_L0.succ {α : Type} (N n : Nat) (v575 : Int) (v576 : Int) (v577 : (List (Int × Int × Unit)) × Unit) (k0 : Bool → Option α) (k1 : Option α) : spec_BoxOk_L0 N (n + 1) v575 v576 v577 k0 k1 = spec_BoxOk_L0r N (fun y0 y1 y2 => spec_BoxOk_L0 N n y0 y1 y2 k0 k1) k0 k1 v575 v576 v577 := by rw [spec_BoxOk_L0.eq]; rfl
/-- loop.example/pinfold/spec.BoxOk -/
noncomputable def spec_BoxOk.b {α : Type} (N : Nat) (a569 : Int) (a570 : (List (Int × Int × Unit)) × Unit) (k0 : Bool → Option α) : Option α :=
  let x571 := ((a570.1.length : Nat) : Int)
  let x572 := (decide (x571 < (1 : Int)))
  bif x572 then
    k0 false
  else
    let x573 := ((a570.1.length : Nat) : Int)
    let x574 := (decide ((6 : Int) < x573))
    bif x574 then
      k0 false
    else
      spec_BoxOk_L0 N N a569 (0 : Int) a570
        (fun x593 =>
          k0 x593)
        (
          k0 true)
theorem spec_BoxOk.ex : ∃ f : ((α : Type) → Nat → Int → ((List (Int × Int × Unit)) × Unit) → (Bool → Option α) → Option α), f = fun α => @spec_BoxOk.b α := ⟨_, rfl⟩
noncomputable def spec_BoxOk {α : Type} : Nat → Int → ((List (Int × Int × Unit)) × Unit) → (Bool → Option α) → Option α := Classical.choose spec_BoxOk.ex α
theorem spec_BoxOk.eq : @spec_BoxOk = @spec_BoxOk.b := funext fun α => congrFun (Classical.choose_spec spec_BoxOk.ex) α

/-- loop.example/pinfold/impl.PairMore -/
noncomputable def impl_PairMore.b {α : Type} (N : Nat) (a614 : Int × Int × Unit) (k0 : (Int × Int × Unit) → Bool → Option α) : Option α :=
  impl_PairOk N (32 : Int) a614
    (fun x615 =>
      let x616 := !x615
      bif x616 then
        k0 ((0 : Int), ((0 : Int), ())) false
      else
        impl_widen N a614.1
          (fun x617 =>
            impl_widen N a614.2.1
              (fun x618 =>
                k0 (x617, (x618, ())) true)))
theorem impl_PairMore.ex : ∃ f : ((α : Type) → Nat → (Int × Int × Unit) → ((Int × Int × Unit) → Bool → Option α) → Option α), f = fun α => @impl_PairMore.b α := ⟨_, rfl⟩
noncomputable def impl_PairMore {α : Type} : Nat → (Int × Int × Unit) → ((Int × Int × Unit) → Bool → Option α) → Option α := Classical.choose impl_PairMore.ex α
theorem impl_PairMore.eq : @impl_PairMore = @impl_PairMore.b := funext fun α => congrFun (Classical.choose_spec impl_PairMore.ex) α

noncomputable def impl_Box_mapped__impl_PairMore_L0r {α : Type} (N : Nat) (next : List (Int × Int × Unit) → Int → Int → List (Int × Int × Unit) → List (Int × Int × Unit) → Option α) (k0 : List (Int × Int × Unit) → List (Int × Int × Unit) → Option α) (v607 : List (Int × Int × Unit)) (v608 : Int) (v609 : Int) (v610 : List (Int × Int × Unit)) (v611 : List (Int × Int × Unit)) : Option α :=
  let x612 := decide (v609 < v608)
  bif x612 then
    bif (decide (v609 < (0 : Int))) then
      none
    else
      match v607[v609.toNat]? with
      | some x613 =>
        impl_PairMore N x613
          (fun x619 _ =>
            bif (decide (v609 < (0 : Int))) then
              none
            else
              bif decide (v609.toNat < v611.length) then
                match v611[v609.toNat]? with
                | some x621 =>
                  let x622 := v611.set v609.toNat x619
                  let x623 := (IntKind.i64.wrap (v609 + (1 : Int)))
                  next v607 v608 x623 v610 x622
                | none => none
              else
                none)
      | none => none
  else
    k0 v610 v611
noncomputable def impl_Box_mapped__impl_PairMore_L0.b {α : Type} (N n : Nat) (v607 : List (Int × Int × Unit)) (v608 : Int) (v609 : Int) (v610 : List (Int × Int × Unit)) (v611 : List (Int × Int × Unit)) (k0 : List (Int × Int × Unit) → List (Int × Int × Unit) → Option α) : Option α :=
  Nat.rec (motive := fun _ => List (Int × Int × Unit) → Int → Int → List (Int × Int × Unit) → List (Int × Int × Unit) → Option α) (fun _ _ _ _ _ => none) (fun _ next => impl_Box_mapped__impl_PairMore_L0r N next k0) n v607 v608 v609 v610 v611
theorem impl_Box_mapped__impl_PairMore_L0.ex : ∃ f : ((α : Type) → Nat → Nat → List (Int × Int × Unit) → Int → Int → List (Int × Int × Unit) → List (Int × Int × Unit) → (List (Int × Int × Unit) → List (Int × Int × Unit) → Option α) → Option α), f = fun α => @impl_Box_mapped__impl_PairMore_L0.b α := ⟨_, rfl⟩
noncomputable def impl_Box_mapped__impl_PairMore_L0 {α : Type} : Nat → Nat → List (Int × Int × Unit) → Int → Int → List (Int × Int × Unit) → List (Int × Int × Unit) → (List (Int × Int × Unit) → List (Int × Int × Unit) → Option α) → Option α := Classical.choose impl_Box_mapped__impl_PairMore_L0.ex α
theorem impl_Box_mapped__impl_PairMore_L0.eq : @impl_Box_mapped__impl_PairMore_L0 = @impl_Box_mapped__impl_PairMore_L0.b := funext fun α => congrFun (Classical.choose_spec impl_Box_mapped__impl_PairMore_L0.ex) α
theorem impl_Box_mapped__impl_PairMore_L0.zero {α : Type} (N : Nat) (v607 : List (Int × Int × Unit)) (v608 : Int) (v609 : Int) (v610 : List (Int × Int × Unit)) (v611 : List (Int × Int × Unit)) (k0 : List (Int × Int × Unit) → List (Int × Int × Unit) → Option α) : impl_Box_mapped__impl_PairMore_L0 N 0 v607 v608 v609 v610 v611 k0 = none := by rw [impl_Box_mapped__impl_PairMore_L0.eq]; rfl
theorem impl_Box_mapped__impl_PairMore_L0.succ {α : Type} (N n : Nat) (v607 : List (Int × Int × Unit)) (v608 : Int) (v609 : Int) (v610 : List (Int × Int × Unit)) (v611 : List (Int × Int × Unit)) (k0 : List (Int × Int × Unit) → List (Int × Int × Unit) → Option α) : impl_Box_mapped__impl_PairMore_L0 N (n + 1) v607 v608 v609 v610 v611 k0 = impl_Box_mapped__impl_PairMore_L0r N (fun y0 y1 y2 y3 y4 => impl_Box_mapped__impl_PairMore_L0 N n y0 y1 y2 y3 y4 k0) k0 v607 v608 v609 v610 v611 := by rw [impl_Box_mapped__impl_PairMore_L0.eq]; rfl
/-- (loop.example/pinfold/impl.Box).mapped -/
noncomputable def impl_Box_mapped__impl_PairMore.b {α : Type} (N : Nat) (a603 : (List (Int × Int × Unit)) × Unit) (k0 : List (Int × Int × Unit) → Option α) : Option α :=
  let x604 := ((a603.1.length : Nat) : Int)
  bif (decide ((0 : Int) ≤ x604)) then
    bif decide (x604 ≤ x604) then
      bif (decide (x604 ≤ ((8796093022208 : Nat) : Int))) then
        let x605 := (List.replicate x604.toNat ((0 : Int), ((0 : Int), ())))
        let x606 := ((a603.1.length : Nat) : Int)
        impl_Box_mapped__impl_PairMore_L0 N N a603.1 x606 (0 : Int) [] x605
          (fun _ x625 =>
            k0 x625)
      else
        none
    else
      none
  else
    none
theorem impl_Box_mapped__impl_PairMore.ex : ∃ f : ((α : Type) → Nat → ((List (Int × Int × Unit)) × Unit) → (List (Int × Int × Unit) → Option α) → Option α), f = fun α => @impl_Box_mapped__impl_PairMore.b α := ⟨_, rfl⟩
noncomputable def impl_Box_mapped__impl_PairMore {α : Type} : Nat → ((List (Int × Int × Unit)) × Unit) → (List (Int × Int × Unit) → Option α) → Option α := Classical.choose impl_Box_mapped__impl_PairMore.ex α
theorem impl_Box_mapped__impl_PairMore.eq : @impl_Box_mapped__impl_PairMore = @impl_Box_mapped__impl_PairMore.b := funext fun α => congrFun (Classical.choose_spec impl_Box_mapped__impl_PairMore.ex) α

/-- loop.example/pinfold/impl.BoxMore -/
noncomputable def impl_BoxMore.b {α : Type} (N : Nat) (a600 : (List (Int × Int × Unit)) × Unit) (k0 : Bool → List (Int × Int × Unit) → Option α) : Option α :=
  impl_BoxOk N (32 : Int) a600
    (fun x601 =>
      let x602 := !x601
      bif x602 then
        k0 false []
      else
        impl_Box_mapped__impl_PairMore N a600
          (fun x626 =>
            k0 true x626))
theorem impl_BoxMore.ex : ∃ f : ((α : Type) → Nat → ((List (Int × Int × Unit)) × Unit) → (Bool → List (Int × Int × Unit) → Option α) → Option α), f = fun α => @impl_BoxMore.b α := ⟨_, rfl⟩
noncomputable def impl_BoxMore {α : Type} : Nat → ((List (Int × Int × Unit)) × Unit) → (Bool → List (Int × Int × Unit) → Option α) → Option α := Classical.choose impl_BoxMore.ex α
theorem impl_BoxMore.eq : @impl_BoxMore = @impl_BoxMore.b := funext fun α => congrFun (Classical.choose_spec impl_BoxMore.ex) α

/-- loop.example/pinfold/impl.PairIs -/
noncomputable def impl_PairIs.b {α : Type} (N : Nat) (a647 : Int × Int × Unit) (a648 : Int × Int × Unit) (k0 : Bool → Option α) : Option α :=
  let x649 := decide (a648.1 ≤ a647.1)
  bif x649 then
    let x650 := decide (a647.2.1 ≤ a648.2.1)
    k0 x650
  else
    k0 false
theorem impl_PairIs.ex : ∃ f : ((α : Type) → Nat → (Int × Int × Unit) → (Int × Int × Unit) → (Bool → Option α) → Option α), f = fun α => @impl_PairIs.b α := ⟨_, rfl⟩
noncomputable def impl_PairIs {α : Type} : Nat → (Int × Int × Unit) → (Int × Int × Unit) → (Bool → Option α) → Option α := Classical.choose impl_PairIs.ex α
theorem impl_PairIs.eq : @impl_PairIs = @impl_PairIs.b := funext fun α => congrFun (Classical.choose_spec impl_PairIs.ex) α

noncomputable def slices_EqualFunc_impl_Pair_impl_Pair_impl_Pair_impl_Pair__impl_PairIs_L0r {α : Type} (N : Nat) (next : List (Int × Int × Unit) → List (Int × Int × Unit) → Int → Int → Option α) (k0 : Bool → Option α) (k1 : Option α) (v640 : List (Int × Int × Unit)) (v641 : List (Int × Int × Unit)) (v642 : Int) (v643 : Int) : Option α :=
  let x644 := decide (v643 < v642)
  bif x644 then
    bif (decide (v643 < (0 : Int))) then
      none
    else
      match v641[v643.toNat]? with
      | some x645 =>
        bif (decide (v643 < (0 : Int))) then
          none
        else
          match v640[v643.toNat]? with
          | some x646 =>
            impl_PairIs N x645 x646
              (fun x651 =>
                let x652 := !x651
                bif x652 then
                  k0 false
                else
                  let x653 := (IntKind.i64.wrap (v643 + (1 : Int)))
                  next v640 v641 v642 x653)
          | none => none
      | none => none
  else
    k1
noncomputable def slices_EqualFunc_impl_Pair_impl_Pair_impl_Pair_impl_Pair__impl_PairIs_L0.b {α : Type} (N n : Nat) (v640 : List (Int × Int × Unit)) (v641 : List (Int × Int × Unit)) (v642 : Int) (v643 : Int) (k0 : Bool → Option α) (k1 : Option α) : Option α :=
  Nat.rec (motive := fun _ => List (Int × Int × Unit) → List (Int × Int × Unit) → Int → Int → Option α) (fun _ _ _ _ => none) (fun _ next => slices_EqualFunc_impl_Pair_impl_Pair_impl_Pair_impl_Pair__impl_PairIs_L0r N next k0 k1) n v640 v641 v642 v643
theorem slices_EqualFunc_impl_Pair_impl_Pair_impl_Pair_impl_Pair__impl_PairIs_L0.ex : ∃ f : ((α : Type) → Nat → Nat → List (Int × Int × Unit) → List (Int × Int × Unit) → Int → Int → (Bool → Option α) → (Option α) → Option α), f = fun α => @slices_EqualFunc_impl_Pair_impl_Pair_impl_Pair_impl_Pair__impl_PairIs_L0.b α := ⟨_, rfl⟩
noncomputable def slices_EqualFunc_impl_Pair_impl_Pair_impl_Pair_impl_Pair__impl_PairIs_L0 {α : Type} : Nat → Nat → List (Int × Int × Unit) → List (Int × Int × Unit) → Int → Int → (Bool → Option α) → (Option α) → Option α := Classical.choose slices_EqualFunc_impl_Pair_impl_Pair_impl_Pair_impl_Pair__impl_PairIs_L0.ex α
theorem slices_EqualFunc_impl_Pair_impl_Pair_impl_Pair_impl_Pair__impl_PairIs_L0.eq : @slices_EqualFunc_impl_Pair_impl_Pair_impl_Pair_impl_Pair__impl_PairIs_L0 = @slices_EqualFunc_impl_Pair_impl_Pair_impl_Pair_impl_Pair__impl_PairIs_L0.b := funext fun α => congrFun (Classical.choose_spec slices_EqualFunc_impl_Pair_impl_Pair_impl_Pair_impl_Pair__impl_PairIs_L0.ex) α
theorem slices_EqualFunc_impl_Pair_impl_Pair_impl_Pair_impl_Pair__impl_PairIs_L0.zero {α : Type} (N : Nat) (v640 : List (Int × Int × Unit)) (v641 : List (Int × Int × Unit)) (v642 : Int) (v643 : Int) (k0 : Bool → Option α) (k1 : Option α) : slices_EqualFunc_impl_Pair_impl_Pair_impl_Pair_impl_Pair__impl_PairIs_L0 N 0 v640 v641 v642 v643 k0 k1 = none := by rw [slices_EqualFunc_impl_Pair_impl_Pair_impl_Pair_impl_Pair__impl_PairIs_L0.eq]; rfl
theorem slices_EqualFunc_impl_Pair_impl_Pair_impl_Pair_impl_Pair__impl_PairIs_L0.succ {α : Type} (N n : Nat) (v640 : List (Int × Int × Unit)) (v641 : List (Int × Int × Unit)) (v642 : Int) (v643 : Int) (k0 : Bool → Option α) (k1 : Option α) : slices_EqualFunc_impl_Pair_impl_Pair_impl_Pair_impl_Pair__impl_PairIs_L0 N (n + 1) v640 v641 v642 v643 k0 k1 = slices_EqualFunc_impl_Pair_impl_Pair_impl_Pair_impl_Pair__impl_PairIs_L0r N (fun y0 y1 y2 y3 => slices_EqualFunc_impl_Pair_impl_Pair_impl_Pair_impl_Pair__impl_PairIs_L0 N n y0 y1 y2 y3 k0 k1) k0 k1 v640 v641 v642 v643 := by rw [slices_EqualFunc_impl_Pair_impl_Pair_impl_Pair_impl_Pair__impl_PairIs_L0.eq]; rfl
/-- slices.EqualFunc[[]loop.example/pinfold/impl.Pair,[]loop.example/pinfold/impl.Pair,loop.example/pinfold/impl.Pair,loop.example/pinfold/impl.Pair] -/
noncomputable def slices_EqualFunc_impl_Pair_impl_Pair_impl_Pair_impl_Pair__impl_PairIs.b {α : Type} (N : Nat) (a634 : List (Int × Int × Unit)) (a635 : List (Int × Int × Unit)) (k0 : Bool → Option α) : Option α :=
  let x636 := ((a634.length : Nat) : Int)
  let x637 := ((a635.length : Nat) : Int)
  let x638 := !(decide (x636 = x637))
  bif x638 then
    k0 false
  else
    let x639 := ((a634.length : Nat) : Int)
    slices_EqualFunc_impl_Pair_impl_Pair_impl_Pair_impl_Pair__impl_PairIs_L0 N N a635 a634 x639 (0 : Int)
      (fun x654 =>
        k0 x654)
      (
        k0 true)
theorem slices_EqualFunc_impl_Pair_impl_Pair_impl_Pair_impl_Pair__impl_PairIs.ex : ∃ f : ((α : Type) → Nat → List (Int × Int × Unit) → List (Int × Int × Unit) → (Bool → Option α) → Option α), f = fun α => @slices_EqualFunc_impl_Pair_impl_Pair_impl_Pair_impl_Pair__impl_PairIs.b α := ⟨_, rfl⟩
noncomputable def slices_EqualFunc_impl_Pair_impl_Pair_impl_Pair_impl_Pair__impl_PairIs {α : Type} : Nat → List (Int × Int × Unit) → List (Int × Int × Unit) → (Bool → Option α) → Option α := Classical.choose slices_EqualFunc_impl_Pair_impl_Pair_impl_Pair_impl_Pair__impl_PairIs.ex α
theorem slices_EqualFunc_impl_Pair_impl_Pair_impl_Pair_impl_Pair__impl_PairIs.eq : @slices_EqualFunc_impl_Pair_impl_Pair_impl_Pair_impl_Pair__impl_PairIs = @slices_EqualFunc_impl_Pair_impl_Pair_impl_Pair_impl_Pair__impl_PairIs.b := funext fun α => congrFun (Classical.choose_spec slices_EqualFunc_impl_Pair_impl_Pair_impl_Pair_impl_Pair__impl_PairIs.ex) α

/-- loop.example/pinfold/impl.BoxIs -/
noncomputable def impl_BoxIs.b {α : Type} (N : Nat) (a632 : (List (Int × Int × Unit)) × Unit) (a633 : (List (Int × Int × Unit)) × Unit) (k0 : Bool → Option α) : Option α :=
  slices_EqualFunc_impl_Pair_impl_Pair_impl_Pair_impl_Pair__impl_PairIs N a632.1 a633.1
    (fun x655 =>
      k0 x655)
theorem impl_BoxIs.ex : ∃ f : ((α : Type) → Nat → ((List (Int × Int × Unit)) × Unit) → ((List (Int × Int × Unit)) × Unit) → (Bool → Option α) → Option α), f = fun α => @impl_BoxIs.b α := ⟨_, rfl⟩
noncomputable def impl_BoxIs {α : Type} : Nat → ((List (Int × Int × Unit)) × Unit) → ((List (Int × Int × Unit)) × Unit) → (Bool → Option α) → Option α := Classical.choose impl_BoxIs.ex α
theorem impl_BoxIs.eq : @impl_BoxIs = @impl_BoxIs.b := funext fun α => congrFun (Classical.choose_spec impl_BoxIs.ex) α

noncomputable def spec_l31Rd_pair_J8.b {α : Type} (N : Nat) (v722 : Int) (v723 : Int) (v724 : Int) (v725 : (List Int) × Int × Unit) (v726 : Int × Int × Unit) (k0 : Int → Int → ((List Int) × Int × Unit) → (Int × Int × Unit) → Option α) : Option α :=
  let x727 := (decide (v724 = (2 : Int)))
  bif x727 then
    spec_l31Rd_pick N (1000 : Int) v725
      (fun x728 x729 =>
        let x730 := IntKind.i64.wrap (v722 + x728)
        k0 v722 x730 x729 v726)
  else
    k0 v722 v723 v725 v726
theorem spec_l31Rd_pair_J8.ex : ∃ f : ((α : Type) → Nat → Int → Int → Int → ((List Int) × Int × Unit) → (Int × Int × Unit) → (Int → Int → ((List Int) × Int × Unit) → (Int × Int × Unit) → Option α) → Option α), f = fun α => @spec_l31Rd_pair_J8.b α := ⟨_, rfl⟩
noncomputable def spec_l31Rd_pair_J8 {α : Type} : Nat → Int → Int → Int → ((List Int) × Int × Unit) → (Int × Int × Unit) → (Int → Int → ((List Int) × Int × Unit) → (Int × Int × Unit) → Option α) → Option α := Classical.choose spec_l31Rd_pair_J8.ex α
theorem spec_l31Rd_pair_J8.eq : @spec_l31Rd_pair_J8 = @spec_l31Rd_pair_J8.b := funext fun α => congrFun (Classical.choose_spec spec_l31Rd_pair_J8.ex) α
noncomputable def spec_l31Rd_pair_J6.b {α : Type} (N : Nat) (v712 : Int) (v713 : Int) (v714 : Int) (v715 : (List Int) × Int × Unit) (v716 : Int × Int × Unit) (k0 : Int → Int → ((List Int) × Int × Unit) → (Int × Int × Unit) → Option α) : Option α :=
  let x717 := (decide (v714 = (1 : Int)))
  bif x717 then
    let x718 := (IntKind.i64.wrap (v712 + (1 : Int)))
    spec_l31Rd_pick N (4 : Int) v715
      (fun x719 x720 =>
        let x721 := IntKind.i64.wrap (x718 + x719)
        k0 v712 x721 x720 v716)
  else
    spec_l31Rd_pair_J8 N v712 v713 v714 v715 v716
      (fun x731 x732 x733 x734 =>
        k0 x731 x732 x733 x734)
theorem spec_l31Rd_pair_J6.ex : ∃ f : ((α : Type) → Nat → Int → Int → Int → ((List Int) × Int × Unit) → (Int × Int × Unit) → (Int → Int → ((List Int) × Int × Unit) → (Int × Int × Unit) → Option α) → Option α), f = fun α => @spec_l31Rd_pair_J6.b α := ⟨_, rfl⟩
noncomputable def spec_l31Rd_pair_J6 {α : Type} : Nat → Int → Int → Int → ((List Int) × Int × Unit) → (Int × Int × Unit) → (Int → Int → ((List Int) × Int × Unit) → (Int × Int × Unit) → Option α) → Option α := Classical.choose spec_l31Rd_pair_J6.ex α
theorem spec_l31Rd_pair_J6.eq : @spec_l31Rd_pair_J6 = @spec_l31Rd_pair_J6.b := funext fun α => congrFun (Classical.choose_spec spec_l31Rd_pair_J6.ex) α
noncomputable def spec_l31Rd_pair_J4.b {α : Type} (N : Nat) (v706 : Int) (v707 : Int) (v708 : Int) (v709 : (List Int) × Int × Unit) (v710 : Int × Int × Unit) (k0 : Int → Int → ((List Int) × Int × Unit) → (Int × Int × Unit) → Option α) : Option α :=
  let x711 := (decide (v708 = (0 : Int)))
  bif x711 then
    k0 v706 v706 v709 v710
  else
    spec_l31Rd_pair_J6 N v706 v707 v708 v709 v710
      (fun x735 x736 x737 x738 =>
        k0 x735 x736 x737 x738)
theorem spec_l31Rd_pair_J4.ex : ∃ f : ((α : Type) → Nat → Int → Int → Int → ((List Int) × Int × Unit) → (Int × Int × Unit) → (Int → Int → ((List Int) × Int × Unit) → (Int × Int × Unit) → Option α) → Option α), f = fun α => @spec_l31Rd_pair_J4.b α := ⟨_, rfl⟩
noncomputable def spec_l31Rd_pair_J4 {α : Type} : Nat → Int → Int → Int → ((List Int) × Int × Unit) → (Int × Int × Unit) → (Int → Int → ((List Int) × Int × Unit) → (Int × Int × Unit) → Option α) → Option α := Classical.choose spec_l31Rd_pair_J4.ex α
theorem spec_l31Rd_pair_J4.eq : @spec_l31Rd_pair_J4 = @spec_l31Rd_pair_J4.b := funext fun α => congrFun (Classical.choose_spec spec_l31Rd_pair_J4.ex) α
noncomputable def spec_l31Rd_pair_J10.b {α : Type} (N : Nat) (v743 : Int) (v744 : Int) (v745 : (List Int) × Int × Unit) (v746 : Int × Int × Unit) (k0 : Int → Int → ((List Int) × Int × Unit) → (Int × Int × Unit) → Option α) : Option α :=
  let x747 := decide (v744 < v743)
  bif x747 then
    spec_l31Rd_pick N (24 : Int) v745
      (fun x748 x749 =>
        let x750 := (decide ((0 : Int) < x748))
        bif x750 then
          k0 v744 v743 x749 v746
        else
          k0 v743 v744 x749 v746)
  else
    k0 v743 v744 v745 v746
theorem spec_l31Rd_pair_J10.ex : ∃ f : ((α : Type) → Nat → Int → Int → ((List Int) × Int × Unit) → (Int × Int × Unit) → (Int → Int → ((List Int) × Int × Unit) → (Int × Int × Unit) → Option α) → Option α), f = fun α => @spec_l31Rd_pair_J10.b α := ⟨_, rfl⟩
noncomputable def spec_l31Rd_pair_J10 {α : Type} : Nat → Int → Int → ((List Int) × Int × Unit) → (Int × Int × Unit) → (Int → Int → ((List Int) × Int × Unit) → (Int × Int × Unit) → Option α) → Option α := Classical.choose spec_l31Rd_pair_J10.ex α
theorem spec_l31Rd_pair_J10.eq : @spec_l31Rd_pair_J10 = @spec_l31Rd_pair_J10.b := funext fun α => congrFun (Classical.choose_spec spec_l31Rd_pair_J10.ex) α
/-- (*loop.example/pinfold/spec.l31Rd).pair -/
noncomputable def spec_l31Rd_pair.b {α : Type} (N : Nat) (a698 : Int) (a699 : (List Int) × Int × Unit) (k0 : (Int × Int × Unit) → ((List Int) × Int × Unit) → Option α) : Option α :=
  spec_l31Rd_ord N a698 a699
    (fun x700 x701 =>
      spec_l31Rd_ord N a698 x701
        (fun x702 x703 =>
          spec_l31Rd_pick N (6 : Int) x703
            (fun x704 x705 =>
              spec_l31Rd_pair_J4 N x700 x702 x704 x705 ((0 : Int), ((0 : Int), ()))
                (fun x739 x740 x741 x742 =>
                  spec_l31Rd_pair_J10 N x739 x740 x741 x742
                    (fun x751 x752 x753 _ =>
                      k0 (x751, (x752, ())) x753)))))
theorem spec_l31Rd_pair.ex : ∃ f : ((α : Type) → Nat → Int → ((List Int) × Int × Unit) → ((Int × Int × Unit) → ((List Int) × Int × Unit) → Option α) → Option α), f = fun α => @spec_l31Rd_pair.b α := ⟨_, rfl⟩
noncomputable def spec_l31Rd_pair {α : Type} : Nat → Int → ((List Int) × Int × Unit) → ((Int × Int × Unit) → ((List Int) × Int × Unit) → Option α) → Option α := Classical.choose spec_l31Rd_pair.ex α
theorem spec_l31Rd_pair.eq : @spec_l31Rd_pair = @spec_l31Rd_pair.b := funext fun α => congrFun (Classical.choose_spec spec_l31Rd_pair.ex) α

noncomputable def spec_l31Rd_good_L0r {α : Type} (N : Nat) (next : Int → Int → ((List Int) × Int × Unit) → (Int × Int × Unit) → (Int × Int × Unit) → Option α) (k0 : ((List Int) × Int × Unit) → (Int × Int × Unit) → (Int × Int × Unit) → Option α) (v763 : Int) (v764 : Int) (v765 : (List Int) × Int × Unit) (v766 : Int × Int × Unit) (v767 : Int × Int × Unit) : Option α :=
  let x768 := (decide (v764 < (5 : Int)))
  bif x768 then
    spec_PairOk N v763 v767
      (fun x769 =>
        let x770 := !x769
        bif x770 then
          spec_l31Rd_pair N v763 v765
            (fun x771 x772 =>
              let x773 := (IntKind.i64.wrap (v764 + (1 : Int)))
              next v763 x773 x772 v766 x771)
        else
          k0 v765 v766 v767)
  else
    k0 v765 v766 v767
noncomputable def spec_l31Rd_good_L0.b {α : Type} (N n : Nat) (v763 : Int) (v764 : Int) (v765 : (List Int) × Int × Unit) (v766 : Int × Int × Unit) (v767 : Int × Int × Unit) (k0 : ((List Int) × Int × Unit) → (Int × Int × Unit) → (Int × Int × Unit) → Option α) : Option α :=
  Nat.rec (motive := fun _ => Int → Int → ((List Int) × Int × Unit) → (Int × Int × Unit) → (Int × Int × Unit) → Option α) (fun _ _ _ _ _ => none) (fun _ next => spec_l31Rd_good_L0r N next k0) n v763 v764 v765 v766 v767
theorem spec_l31Rd_good_L0.ex : ∃ f : ((α : Type) → Nat → Nat → Int → Int → ((List Int) × Int × Unit) → (Int × Int × Unit) → (Int × Int × Unit) → (((List Int) × Int × Unit) → (Int × Int × Unit) → (Int × Int × Unit) → Option α) → Option α), f = fun α => @spec_l31Rd_good_L0.b α := ⟨_, rfl⟩
noncomputable def spec_l31Rd_good_L0 {α : Type} : Nat → Nat → Int → Int → ((List Int) × Int × Unit) → (Int × Int × Unit) → (Int × Int × Unit) → (((List Int) × Int × Unit) → (Int × Int × Unit) → (Int × Int × Unit) → Option α) → Option α := Classical.choose spec_l31Rd_good_L0.ex α
theorem spec_l31Rd_good_L0.eq : @spec_l31Rd_good_L0 = @spec_l31Rd_good_L0.b := funext fun α => congrFun (Classical.choose_spec spec_l31Rd_good_L0.ex) α
theorem spec_l31Rd_good_L0.zero {α : Type} (N : Nat) (v763 : Int) (v764 : Int) (v765 : (List Int) × Int × Unit) (v766 : Int × Int × Unit) (v767 : Int × Int × Unit) (k0 : ((List Int) × Int × Unit) → (Int × Int × Unit) → (Int × Int × Unit) → Option α) : spec_l31Rd_good_L0 N 0 v763 v764 v765 v766 v767 k0 = none := by rw [spec_l31Rd_good_L0.eq]; rfl
theorem spec_l31Rd_good_L0.succ {α : Type} (N n : Nat) (v763 : Int) (v764 : Int) (v765 : (List Int) × Int × Unit) (v766 : Int × Int × Unit) (v767 : Int × Int × Unit) (k0 : ((List Int) × Int × Unit) → (Int × Int × Unit) → (Int × Int × Unit) → Option α) : spec_l31Rd_good_L0 N (n + 1) v763 v764 v765 v766 v767 k0 = spec_l31Rd_good_L0r N (fun y0 y1 y2 y3 y4 => spec_l31Rd_good_L0 N n y0 y1 y2 y3 y4 k0) k0 v763 v764 v765 v766 v767 := by rw [spec_l31Rd_good_L0.eq]; rfl
/-- (*loop.example/pinfold/spec.l31Rd).good -/
noncomputable def spec_l31Rd_good.b {α : Type} (N : Nat) (a759 : Int) (a760 : (List Int) × Int × Unit) (k0 : (Int × Int × Unit) → ((List Int) × Int × Unit) → Option α) : Option α :=
  spec_l31Rd_pair N a759 a760
    (fun x761 x762 =>
      spec_l31Rd_good_L0 N N a759 (0 : Int) x762 ((0 : Int), ((0 : Int), ())) x761
        (fun x774 _ x776 =>
          k0 x776 x774))
theorem spec_l31Rd_good.ex : ∃ f : ((α : Type) → Nat → Int → ((List Int) × Int × Unit) → ((Int × Int × Unit) → ((List Int) × Int × Unit) → Option α) → Option α), f = fun α => @spec_l31Rd_good.b α := ⟨_, rfl⟩
noncomputable def spec_l31Rd_good {α : Type} : Nat → Int → ((List Int) × Int × Unit) → ((Int × Int × Unit) → ((List Int) × Int × Unit) → Option α) → Option α := Classical.choose spec_l31Rd_good.ex α
theorem spec_l31Rd_good.eq : @spec_l31Rd_good = @spec_l31Rd_good.b := funext fun α => congrFun (Classical.choose_spec spec_l31Rd_good.ex) α

noncomputable def spec_l31Rd_box_J3.b {α : Type} (N : Nat) (v667 : Int) (v668 : Int) (v669 : (List Int) × Int × Unit) (v670 : List (Int × Int × Unit)) (v671 : List (Int × Int × Unit)) (k0 : Int → Int → ((List Int) × Int × Unit) → List (Int × Int × Unit) → List (Int × Int × Unit) → Option α) : Option α :=
  spec_l31Rd_pick N (12 : Int) v669
    (fun x672 x673 =>
      let x674 := (decide (x672 = (0 : Int)))
      bif x674 then
        spec_l31Rd_pick N (8 : Int) x673
          (fun x675 x676 =>
            k0 v667 x675 x676 v670 v671)
      else
        k0 v667 v668 x673 v670 v671)
theorem spec_l31Rd_box_J3.ex : ∃ f : ((α : Type) → Nat → Int → Int → ((List Int) × Int × Unit) → List (Int × Int × Unit) → List (Int × Int × Unit) → (Int → Int → ((List Int) × Int × Unit) → List (Int × Int × Unit) → List (Int × Int × Unit) → Option α) → Option α), f = fun α => @spec_l31Rd_box_J3.b α := ⟨_, rfl⟩
noncomputable def spec_l31Rd_box_J3 {α : Type} : Nat → Int → Int → ((List Int) × Int × Unit) → List (Int × Int × Unit) → List (Int × Int × Unit) → (Int → Int → ((List Int) × Int × Unit) → List (Int × Int × Unit) → List (Int × Int × Unit) → Option α) → Option α := Classical.choose spec_l31Rd_box_J3.ex α
theorem spec_l31Rd_box_J3.eq : @spec_l31Rd_box_J3 = @spec_l31Rd_box_J3.b := funext fun α => congrFun (Classical.choose_spec spec_l31Rd_box_J3.ex) α
noncomputable def spec_l31Rd_box_J8.b {α : Type} (N : Nat) (v689 : Int) (v690 : Int) (v691 : Int) (v692 : (List Int) × Int × Unit) (v693 : List (Int × Int × Unit)) (v694 : List (Int × Int × Unit)) (k0 : Int → Int → Int → ((List Int) × Int × Unit) → List (Int × Int × Unit) → List (Int × Int × Unit) → Option α) : Option α :=
  spec_l31Rd_pick N (24 : Int) v692
    (fun x695 x696 =>
      let x697 := (decide (x695 = (0 : Int)))
      bif x697 then
        spec_l31Rd_pair N v689 x696
          (fun x755 x756 =>
            let x757 := [x755]
            bif decide (v694.length + x757.length ≤ 8796093022208) then
              let x758 := v694 ++ x757
              k0 v689 v690 v691 x756 v693 x758
            else
              none)
      else
        spec_l31Rd_good N v689 x696
          (fun x777 x778 =>
            let x779 := [x777]
            bif decide (v694.length + x779.length ≤ 8796093022208) then
              let x780 := v694 ++ x779
              k0 v689 v690 v691 x778 v693 x780
            else
              none))
theorem spec_l31Rd_box_J8.ex : ∃ f : ((α : Type) → Nat → Int → Int → Int → ((List Int) × Int × Unit) → List (Int × Int × Unit) → List (Int × Int × Unit) → (Int → Int → Int → ((List Int) × Int × Unit) → List (Int × Int × Unit) → List (Int × Int × Unit) → Option α) → Option α), f = fun α => @spec_l31Rd_box_J8.b α := ⟨_, rfl⟩
noncomputable def spec_l31Rd_box_J8 {α : Type} : Nat → Int → Int → Int → ((List Int) × Int × Unit) → List (Int × Int × Unit) → List (Int × Int × Unit) → (Int → Int → Int → ((List Int) × Int × Unit) → List (Int × Int × Unit) → List (Int × Int × Unit) → Option α) → Option α := Classical.choose spec_l31Rd_box_J8.ex α
theorem spec_l31Rd_box_J8.eq : @spec_l31Rd_box_J8 = @spec_l31Rd_box_J8.b := funext fun α => congrFun (Classical.choose_spec spec_l31Rd_box_J8.ex) α
noncomputable def spec_l31Rd_box_L0r {α : Type} (N : Nat) (next : Int → Int → Int → ((List Int) × Int × Unit) → List (Int × Int × Unit) → List (Int × Int × Unit) → Option α) (k0 : ((List Int) × Int × Unit) → List (Int × Int × Unit) → List (Int × Int × Unit) → Option α) (v682 : Int) (v683 : Int) (v684 : Int) (v685 : (List Int) × Int × Unit) (v686 : List (Int × Int × Unit)) (v687 : List (Int × Int × Unit)) : Option α :=
  let x688 := decide (v684 < v683)
  bif x688 then
    spec_l31Rd_box_J8 N v682 v683 v684 v685 v686 v687
      (fun x781 x782 x783 x784 x785 x786 =>
        let x787 := (IntKind.i64.wrap (x783 + (1 : Int)))
        next x781 x782 x787 x784 x785 x786)
  else
    k0 v685 v686 v687
noncomputable def spec_l31Rd_box_L0.b {α : Type} (N n : Nat) (v682 : Int) (v683 : Int) (v684 : Int) (v685 : (List Int) × Int × Unit) (v686 : List (Int × Int × Unit)) (v687 : List (Int × Int × Unit)) (k0 : ((List Int) × Int × Unit) → List (Int × Int × Unit) → List (Int × Int × Unit) → Option α) : Option α :=
  Nat.rec (motive := fun _ => Int → Int → Int → ((List Int) × Int × Unit) → List (Int × Int × Unit) → List (Int × Int × Unit) → Option α) (fun _ _ _ _ _ _ => none) (fun _ next => spec_l31Rd_box_L0r N next k0) n v682 v683 v684 v685 v686 v687
theorem spec_l31Rd_box_L0.ex : ∃ f : ((α : Type) → Nat → Nat → Int → Int → Int → ((List Int) × Int × Unit) → List (Int × Int × Unit) → List (Int × Int × Unit) → (((List Int) × Int × Unit) → List (Int × Int × Unit) → List (Int × Int × Unit) → Option α) → Option α), f = fun α => @spec_l31Rd_box_L0.b α := ⟨_, rfl⟩
noncomputable def spec_l31Rd_box_L0 {α : Type} : Nat → Nat → Int → Int → Int → ((List Int) × Int × Unit) → List (Int × Int × Unit) → List (Int × Int × Unit) → (((List Int) × Int × Unit) → List (Int × Int × Unit) → List (Int × Int × Unit) → Option α) → Option α := Classical.choose spec_l31Rd_box_L0.ex α
theorem spec_l31Rd_box_L0.eq : @spec_l31Rd_box_L0 = @spec_l31Rd_box_L0.b := funext fun α => congrFun (Classical.choose_spec spec_l31Rd_box_L0.ex) α
theorem spec_l31Rd_box_L0.zero {α : Type} (N : Nat) (v682 : Int) (v683 : Int) (v684 : Int) (v685 : (List Int) × Int × Unit) (v686 : List (Int × Int × Unit)) (v687 : List (Int × Int × Unit)) (k0 : ((List Int) × Int × Unit) → List (Int × Int × Unit) → List (Int × Int × Unit) → Option α) : spec_l31Rd_box_L0 N 0 v682 v683 v684 v685 v686 v687 k0 = none := by rw [spec_l31Rd_box_L0.eq]; rfl
theorem spec_l31Rd_box_L0.succ {α : Type} (N n : Nat) (v682 : Int) (v683 : Int) (v684 : Int) (v685 : (List Int) × Int × Unit) (v686 : List (Int × Int × Unit)) (v687 : List (Int × Int × Unit)) (k0 : ((List Int) × Int × Unit) → List (Int × Int × Unit) → List (Int × Int × Unit) → Option α) : spec_l31Rd_box_L0 N (n + 1) v682 v683 v684 v685 v686 v687 k0 = spec_l31Rd_box_L0r N (fun y0 y1 y2 y3 y4 y5 => spec_l31Rd_box_L0 N n y0 y1 y2 y3 y4 y5 k0) k0 v682 v683 v684 v685 v686 v687 := by rw [spec_l31Rd_box_L0.eq]; rfl
/-- (*loop.example/pinfold/spec.l31Rd).box -/
noncomputable def spec_l31Rd_box.b {α : Type} (N : Nat) (a662 : Int) (a663 : (List Int) × Int × Unit) (k0 : ((List Int) × Int × Unit) → List (Int × Int × Unit) → Option α) : Option α :=
  spec_l31Rd_pick N (3 : Int) a663
    (fun x664 x665 =>
      let x666 := (IntKind.i64.wrap ((1 : Int) + x664))
      spec_l31Rd_box_J3 N a662 x666 x665 [] []
        (fun x677 x678 x679 x680 x681 =>
          spec_l31Rd_box_L0 N N x677 x678 (0 : Int) x679 x680 x681
            (fun x788 _ x790 =>
              k0 x788 x790)))
theorem spec_l31Rd_box.ex : ∃ f : ((α : Type) → Nat → Int → ((List Int) × Int × Unit) → (((List Int) × Int × Unit) → List (Int × Int × Unit) → Option α) → Option α), f = fun α => @spec_l31Rd_box.b α := ⟨_, rfl⟩
noncomputable def spec_l31Rd_box {α : Type} : Nat → Int → ((List Int) × Int × Unit) → (((List Int) × Int × Unit) → List (Int × Int × Unit) → Option α) → Option α := Classical.choose spec_l31Rd_box.ex α
theorem spec_l31Rd_box.eq : @spec_l31Rd_box = @spec_l31Rd_box.b := funext fun α => congrFun (Classical.choose_spec spec_l31Rd_box.ex) α

/-- loop.example/pinfold/spec.DrawBoxMore -/
noncomputable def spec_DrawBoxMore.b {α : Type} (N : Nat) (a660 : List Int) (k0 : List (Int × Int × Unit) → Option α) : Option α :=
  spec_l31Open N a660
    (fun x661 =>
      spec_l31Rd_box N (32 : Int) x661
        (fun _ x792 =>
          k0 x792))
theorem spec_DrawBoxMore.ex : ∃ f : ((α : Type) → Nat → List Int → (List (Int × Int × Unit) → Option α) → Option α), f = fun α => @spec_DrawBoxMore.b α := ⟨_, rfl⟩
noncomputable def spec_DrawBoxMore {α : Type} : Nat → List Int → (List (Int × Int × Unit) → Option α) → Option α := Classical.choose spec_DrawBoxMore.ex α
theorem spec_DrawBoxMore.eq : @spec_DrawBoxMore = @spec_DrawBoxMore.b := funext fun α => congrFun (Classical.choose_spec spec_DrawBoxMore.ex) α

noncomputable def laws_FnBoxNarrow_J7.b {α : Type} (N : Nat) (v596 : List Int) (v597 : Bool) (v598 : List (Int × Int × Unit)) (v599 : List (Int × Int × Unit)) (k0 : Bool → Option α) (k1 : List Int → Option α) : Option α :=
  bif v597 then
    impl_BoxMore N (v599, ())
      (fun x627 x628 =>
        let x629 := !x627
        bif x629 then
          k0 false
        else
          impl_BoxOk N (32 : Int) (v599, ())
            (fun x630 =>
              let x631 := !x630
              bif x631 then
                k0 false
              else
                impl_BoxIs N (v598, ()) (x628, ())
                  (fun x656 =>
                    let x657 := !x656
                    bif x657 then
                      k0 false
                    else
                      k1 v596)))
  else
    k1 v596
theorem laws_FnBoxNarrow_J7.ex : ∃ f : ((α : Type) → Nat → List Int → Bool → List (Int × Int × Unit) → List (Int × Int × Unit) → (Bool → Option α) → (List Int → Option α) → Option α), f = fun α => @laws_FnBoxNarrow_J7.b α := ⟨_, rfl⟩
noncomputable def laws_FnBoxNarrow_J7 {α : Type} : Nat → List Int → Bool → List (Int × Int × Unit) → List (Int × Int × Unit) → (Bool → Option α) → (List Int → Option α) → Option α := Classical.choose laws_FnBoxNarrow_J7.ex α
theorem laws_FnBoxNarrow_J7.eq : @laws_FnBoxNarrow_J7 = @laws_FnBoxNarrow_J7.b := funext fun α => congrFun (Classical.choose_spec laws_FnBoxNarrow_J7.ex) α
/-- loop.example/pinfold/laws.FnBoxNarrow -/
noncomputable def laws_FnBoxNarrow.b {α : Type} (N : Nat) (a1 : List Int) (k0 : Bool → Option α) : Option α :=
  let x2 := ((a1.length : Nat) : Int)
  let x3 := (decide ((1048576 : Int) < x2))
  bif x3 then
    k0 true
  else
    spec_DrawBoxLess N a1
      (fun x350 =>
        impl_BoxLess N (x350, ())
          (fun x567 x568 =>
            spec_BoxOk N (64 : Int) (x350, ())
              (fun x594 =>
                let x595 := !(x567 == x594)
                bif x595 then
                  k0 false
                else
                  laws_FnBoxNarrow_J7 N a1 x567 x350 x568
                    (fun x658 =>
                      k0 x658)
                    (fun x659 =>
                      spec_DrawBoxMore N x659
                        (fun x793 =>
                          impl_BoxMore N (x793, ())
                            (fun x794 x795 =>
                              spec_BoxOk N (32 : Int) (x793, ())
                                (fun x796 =>
                                  let x797 := !(x794 == x796)
                                  bif x797 then
                                    k0 false
                                  else
                                    let x798 := !x794
                                    bif x798 then
                                      k0 true
                                    else
                                      impl_BoxLess N (x795, ())
                                        (fun x799 x800 =>
                                          bif x799 then
                                            impl_BoxIs N (x800, ()) (x793, ())
                                              (fun x801 =>
                                                bif x801 then
                                                  impl_BoxIs N (x793, ()) (x800, ())
                                                    (fun x802 =>
                                                      k0 x802)
                                                else
                                                  k0 false)
                                          else
                                            k0 false))))))))
theorem laws_FnBoxNarrow.ex : ∃ f : ((α : Type) → Nat → List Int → (Bool → Option α) → Option α), f = fun α => @laws_FnBoxNarrow.b α := ⟨_, rfl⟩
noncomputable def laws_FnBoxNarrow {α : Type} : Nat → List Int → (Bool → Option α) → Option α := Classical.choose laws_FnBoxNarrow.ex α
theorem laws_FnBoxNarrow.eq : @laws_FnBoxNarrow = @laws_FnBoxNarrow.b := funext fun α => congrFun (Classical.choose_spec laws_FnBoxNarrow.ex) α

end
end Go.Proofs.YtbaeipjjijdgiaaDoorAm
