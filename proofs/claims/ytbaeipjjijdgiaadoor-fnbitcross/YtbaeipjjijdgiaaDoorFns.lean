/-
  The functions that the program computes, as the abstract machine tells them. Printed by amp.py.
-/
import Derived.Test.YtbaeipjjijdgiaaDoorAmc
namespace Go.Proofs.YtbaeipjjijdgiaaDoorAm
open Go
noncomputable section
set_option linter.unusedVariables false
set_option linter.unusedSimpArgs false

noncomputable def spec_l31Open_J1.b {α : Type} (N : Nat) (v9 : List Int) (k0 : List Int → Option α) : Option α :=
  let x10 := ((v9.length : Nat) : Int)
  let x11 := (decide ((2000 : Int) < x10))
  bif x11 then
    bif (decide ((2000 : Int) ≤ ((v9.length : Nat) : Int))) then
      let x12 := v9.take 2000
      k0 x12
    else
      none
  else
    k0 v9
theorem spec_l31Open_J1.ex : ∃ f : ((α : Type) → Nat → List Int → (List Int → Option α) → Option α), f = fun α => @spec_l31Open_J1.b α := ⟨_, rfl⟩
noncomputable def spec_l31Open_J1 {α : Type} : Nat → List Int → (List Int → Option α) → Option α := Classical.choose spec_l31Open_J1.ex α
theorem spec_l31Open_J1.eq : @spec_l31Open_J1 = @spec_l31Open_J1.b := funext fun α => congrFun (Classical.choose_spec spec_l31Open_J1.ex) α
/-- loop.example/pinfold/spec.l31Open -/
noncomputable def spec_l31Open.b {α : Type} (N : Nat) (a8 : List Int) (k0 : ((List Int) × Int × Unit) → Option α) : Option α :=
  spec_l31Open_J1 N a8
    (fun x13 =>
      k0 (x13, ((0 : Int), ())))
theorem spec_l31Open.ex : ∃ f : ((α : Type) → Nat → List Int → (((List Int) × Int × Unit) → Option α) → Option α), f = fun α => @spec_l31Open.b α := ⟨_, rfl⟩
noncomputable def spec_l31Open {α : Type} : Nat → List Int → (((List Int) × Int × Unit) → Option α) → Option α := Classical.choose spec_l31Open.ex α
theorem spec_l31Open.eq : @spec_l31Open = @spec_l31Open.b := funext fun α => congrFun (Classical.choose_spec spec_l31Open.ex) α

/-- (*loop.example/pinfold/spec.l31Rd).pick -/
noncomputable def spec_l31Rd_pick.b {α : Type} (N : Nat) (a16 : Int) (a17 : (List Int) × Int × Unit) (k0 : Int → ((List Int) × Int × Unit) → Option α) : Option α :=
  let x18 := (IntKind.i64.wrap (a17.2.1 + (1 : Int)))
  let x19 := (decide (a16 < (1 : Int)))
  bif x19 then
    k0 (0 : Int) (a17.1, (x18, ()))
  else
    let x20 := ((a17.1.length : Nat) : Int)
    let x21 := (decide (x20 = (0 : Int)))
    bif x21 then
      k0 (0 : Int) (a17.1, (x18, ()))
    else
      let x22 := (IntKind.i64.wrap (x18 - (1 : Int)))
      let x23 := ((a17.1.length : Nat) : Int)
      let x24 := decide (x22 < x23)
      bif x24 then
        bif (decide (x22 < (0 : Int))) then
          none
        else
          match a17.1[x22.toNat]? with
          | some x25 =>
            let x26 := IntKind.i64.wrap x25
            bif (decide (a16 = (0 : Int))) then
              none
            else
              let x27 := Int.tmod x26 a16
              k0 x27 (a17.1, (x18, ()))
          | none => none
      else
        let x28 := ((a17.1.length : Nat) : Int)
        bif (decide (x28 = (0 : Int))) then
          none
        else
          let x29 := Int.tmod x22 x28
          bif (decide (x29 < (0 : Int))) then
            none
          else
            match a17.1[x29.toNat]? with
            | some x30 =>
              let x31 := IntKind.i64.wrap x30
              let x32 := (IntKind.i64.wrap (x31 * (131 : Int)))
              let x33 := (IntKind.i64.wrap (x22 * (7 : Int)))
              let x34 := (IntKind.i64.wrap (x33 + (3 : Int)))
              let x35 := ((a17.1.length : Nat) : Int)
              bif (decide (x35 = (0 : Int))) then
                none
              else
                let x36 := Int.tmod x34 x35
                bif (decide (x36 < (0 : Int))) then
                  none
                else
                  match a17.1[x36.toNat]? with
                  | some x37 =>
                    let x38 := IntKind.i64.wrap x37
                    let x39 := (IntKind.i64.wrap (x38 * (1117 : Int)))
                    let x40 := IntKind.i64.wrap (x32 + x39)
                    let x41 := (IntKind.i64.wrap (x22 * (29 : Int)))
                    let x42 := IntKind.i64.wrap (x40 + x41)
                    let x43 := ((a17.1.length : Nat) : Int)
                    bif (decide (x43 = (0 : Int))) then
                      none
                    else
                      let x44 := IntKind.i64.wrap (Int.tdiv x22 x43)
                      let x45 := (IntKind.i64.wrap (x44 * (53 : Int)))
                      let x46 := IntKind.i64.wrap (x42 + x45)
                      let x47 := (IntKind.i64.wrap (Int.tdiv x46 (64 : Int)))
                      let x48 := bitI .xor .i64 x46 x47
                      bif (decide (a16 = (0 : Int))) then
                        none
                      else
                        let x49 := Int.tmod x48 a16
                        k0 x49 (a17.1, (x18, ()))
                  | none => none
            | none => none
theorem spec_l31Rd_pick.ex : ∃ f : ((α : Type) → Nat → Int → ((List Int) × Int × Unit) → (Int → ((List Int) × Int × Unit) → Option α) → Option α), f = fun α => @spec_l31Rd_pick.b α := ⟨_, rfl⟩
noncomputable def spec_l31Rd_pick {α : Type} : Nat → Int → ((List Int) × Int × Unit) → (Int → ((List Int) × Int × Unit) → Option α) → Option α := Classical.choose spec_l31Rd_pick.ex α
theorem spec_l31Rd_pick.eq : @spec_l31Rd_pick = @spec_l31Rd_pick.b := funext fun α => congrFun (Classical.choose_spec spec_l31Rd_pick.ex) α

/-- loop.example/pinfold/spec.BitTop -/
noncomputable def spec_BitTop.b {α : Type} (N : Nat) (a55 : Int) (k0 : Int → Option α) : Option α :=
  let x56 := (decide (a55 = (32 : Int)))
  bif x56 then
    k0 (2139095040 : Int)
  else
    let x57 := (decide (a55 = (64 : Int)))
    bif x57 then
      k0 (9218868437227405312 : Int)
    else
      k0 (0 : Int)
theorem spec_BitTop.ex : ∃ f : ((α : Type) → Nat → Int → (Int → Option α) → Option α), f = fun α => @spec_BitTop.b α := ⟨_, rfl⟩
noncomputable def spec_BitTop {α : Type} : Nat → Int → (Int → Option α) → Option α := Classical.choose spec_BitTop.ex α
theorem spec_BitTop.eq : @spec_BitTop = @spec_BitTop.b := funext fun α => congrFun (Classical.choose_spec spec_BitTop.ex) α

noncomputable def spec_l31Rd_big_L0r {α : Type} (N : Nat) (next : Int → Int → ((List Int) × Int × Unit) → Option α) (k0 : Int → ((List Int) × Int × Unit) → Option α) (v116 : Int) (v117 : Int) (v118 : (List Int) × Int × Unit) : Option α :=
  let x119 := (decide (v117 < (8 : Int)))
  bif x119 then
    let x120 := (IntKind.u64.wrap (v116 * (256 : Int)))
    spec_l31Rd_pick N (256 : Int) v118
      (fun x121 x122 =>
        let x123 := IntKind.u64.wrap x121
        let x124 := IntKind.u64.wrap (x120 + x123)
        let x125 := (IntKind.i64.wrap (v117 + (1 : Int)))
        next x124 x125 x122)
  else
    k0 v116 v118
noncomputable def spec_l31Rd_big_L0.b {α : Type} (N n : Nat) (v116 : Int) (v117 : Int) (v118 : (List Int) × Int × Unit) (k0 : Int → ((List Int) × Int × Unit) → Option α) : Option α :=
  Nat.rec (motive := fun _ => Int → Int → ((List Int) × Int × Unit) → Option α) (fun _ _ _ => none) (fun _ next => spec_l31Rd_big_L0r N next k0) n v116 v117 v118
theorem spec_l31Rd_big_L0.ex : ∃ f : ((α : Type) → Nat → Nat → Int → Int → ((List Int) × Int × Unit) → (Int → ((List Int) × Int × Unit) → Option α) → Option α), f = fun α => @spec_l31Rd_big_L0.b α := ⟨_, rfl⟩
noncomputable def spec_l31Rd_big_L0 {α : Type} : Nat → Nat → Int → Int → ((List Int) × Int × Unit) → (Int → ((List Int) × Int × Unit) → Option α) → Option α := Classical.choose spec_l31Rd_big_L0.ex α
theorem spec_l31Rd_big_L0.eq : @spec_l31Rd_big_L0 = @spec_l31Rd_big_L0.b := funext fun α => congrFun (Classical.choose_spec spec_l31Rd_big_L0.ex) α
theorem spec_l31Rd_big_L0.zero {α : Type} (N : Nat) (v116 : Int) (v117 : Int) (v118 : (List Int) × Int × Unit) (k0 : Int → ((List Int) × Int × Unit) → Option α) : spec_l31Rd_big_L0 N 0 v116 v117 v118 k0 = none := by rw [spec_l31Rd_big_L0.eq]; rfl
theorem spec_l31Rd_big_L0.succ {α : Type} (N n : Nat) (v116 : Int) (v117 : Int) (v118 : (List Int) × Int × Unit) (k0 : Int → ((List Int) × Int × Unit) → Option α) : spec_l31Rd_big_L0 N (n + 1) v116 v117 v118 k0 = spec_l31Rd_big_L0r N (fun y0 y1 y2 => spec_l31Rd_big_L0 N n y0 y1 y2 k0) k0 v116 v117 v118 := by rw [spec_l31Rd_big_L0.eq]; rfl
/-- (*loop.example/pinfold/spec.l31Rd).big -/
noncomputable def spec_l31Rd_big.b {α : Type} (N : Nat) (a115 : (List Int) × Int × Unit) (k0 : Int → ((List Int) × Int × Unit) → Option α) : Option α :=
  spec_l31Rd_big_L0 N N (0 : Int) (0 : Int) a115
    (fun x126 x127 =>
      k0 x126 x127)
theorem spec_l31Rd_big.ex : ∃ f : ((α : Type) → Nat → ((List Int) × Int × Unit) → (Int → ((List Int) × Int × Unit) → Option α) → Option α), f = fun α => @spec_l31Rd_big.b α := ⟨_, rfl⟩
noncomputable def spec_l31Rd_big {α : Type} : Nat → ((List Int) × Int × Unit) → (Int → ((List Int) × Int × Unit) → Option α) → Option α := Classical.choose spec_l31Rd_big.ex α
theorem spec_l31Rd_big.eq : @spec_l31Rd_big = @spec_l31Rd_big.b := funext fun α => congrFun (Classical.choose_spec spec_l31Rd_big.ex) α

noncomputable def spec_l31Rd_ord_J11.b {α : Type} (N : Nat) (v76 : Int) (v77 : Int) (v78 : Int) (v79 : (List Int) × Int × Unit) (k0 : Int → Int → Int → Bool → ((List Int) × Int × Unit) → Option α) : Option α :=
  let x80 := (decide (v78 = (2 : Int)))
  bif x80 then
    k0 v76 v77 v78 x80 v79
  else
    let x81 := (decide (v78 = (3 : Int)))
    k0 v76 v77 v78 x81 v79
theorem spec_l31Rd_ord_J11.ex : ∃ f : ((α : Type) → Nat → Int → Int → Int → ((List Int) × Int × Unit) → (Int → Int → Int → Bool → ((List Int) × Int × Unit) → Option α) → Option α), f = fun α => @spec_l31Rd_ord_J11.b α := ⟨_, rfl⟩
noncomputable def spec_l31Rd_ord_J11 {α : Type} : Nat → Int → Int → Int → ((List Int) × Int × Unit) → (Int → Int → Int → Bool → ((List Int) × Int × Unit) → Option α) → Option α := Classical.choose spec_l31Rd_ord_J11.ex α
theorem spec_l31Rd_ord_J11.eq : @spec_l31Rd_ord_J11 = @spec_l31Rd_ord_J11.b := funext fun α => congrFun (Classical.choose_spec spec_l31Rd_ord_J11.ex) α
noncomputable def spec_l31Rd_ord_J14.b {α : Type} (N : Nat) (v94 : Int) (v95 : Int) (v96 : Int) (v97 : (List Int) × Int × Unit) (k0 : Int → Int → ((List Int) × Int × Unit) → Option α) : Option α :=
  let x98 := (decide (v94 = (32 : Int)))
  bif x98 then
    spec_l31Rd_pick N (256 : Int) v97
      (fun x99 x100 =>
        let x101 := (shlI .i64 x99 (23 : Int))
        spec_l31Rd_pick N (4 : Int) x100
          (fun x102 x103 =>
            let x104 := IntKind.i64.wrap (x101 + x102)
            let x105 := (IntKind.i64.wrap (x104 - (1 : Int)))
            k0 v95 x105 x103))
  else
    k0 v95 v96 v97
theorem spec_l31Rd_ord_J14.ex : ∃ f : ((α : Type) → Nat → Int → Int → Int → ((List Int) × Int × Unit) → (Int → Int → ((List Int) × Int × Unit) → Option α) → Option α), f = fun α => @spec_l31Rd_ord_J14.b α := ⟨_, rfl⟩
noncomputable def spec_l31Rd_ord_J14 {α : Type} : Nat → Int → Int → Int → ((List Int) × Int × Unit) → (Int → Int → ((List Int) × Int × Unit) → Option α) → Option α := Classical.choose spec_l31Rd_ord_J14.ex α
theorem spec_l31Rd_ord_J14.eq : @spec_l31Rd_ord_J14 = @spec_l31Rd_ord_J14.b := funext fun α => congrFun (Classical.choose_spec spec_l31Rd_ord_J14.ex) α
noncomputable def spec_l31Rd_ord_J5.b {α : Type} (N : Nat) (v132 : Int) (v133 : Int) (v134 : (List Int) × Int × Unit) (k0 : Int → Int → ((List Int) × Int × Unit) → Option α) : Option α :=
  let x135 := (decide ((0 : Int) < v132))
  bif x135 then
    let x136 := (IntKind.i64.wrap (v132 + (1 : Int)))
    bif (decide (x136 = (0 : Int))) then
      none
    else
      let x137 := Int.tmod v133 x136
      k0 v132 x137 v134
  else
    k0 v132 v133 v134
theorem spec_l31Rd_ord_J5.ex : ∃ f : ((α : Type) → Nat → Int → Int → ((List Int) × Int × Unit) → (Int → Int → ((List Int) × Int × Unit) → Option α) → Option α), f = fun α => @spec_l31Rd_ord_J5.b α := ⟨_, rfl⟩
noncomputable def spec_l31Rd_ord_J5 {α : Type} : Nat → Int → Int → ((List Int) × Int × Unit) → (Int → Int → ((List Int) × Int × Unit) → Option α) → Option α := Classical.choose spec_l31Rd_ord_J5.ex α
theorem spec_l31Rd_ord_J5.eq : @spec_l31Rd_ord_J5 = @spec_l31Rd_ord_J5.b := funext fun α => congrFun (Classical.choose_spec spec_l31Rd_ord_J5.ex) α
noncomputable def spec_l31Rd_ord_J16.b {α : Type} (N : Nat) (v109 : Int) (v110 : Int) (v111 : (List Int) × Int × Unit) (k0 : Int → Int → ((List Int) × Int × Unit) → Option α) : Option α :=
  let x112 := (decide (v110 = (4 : Int)))
  bif x112 then
    spec_l31Rd_pick N (1048576 : Int) v111
      (fun x113 x114 =>
        k0 v109 x113 x114)
  else
    spec_l31Rd_big N v111
      (fun x128 x129 =>
        let x130 := (shrI .u64 x128 (1 : Int))
        let x131 := IntKind.i64.wrap x130
        spec_l31Rd_ord_J5 N v109 x131 x129
          (fun x138 x139 x140 =>
            k0 x138 x139 x140))
theorem spec_l31Rd_ord_J16.ex : ∃ f : ((α : Type) → Nat → Int → Int → ((List Int) × Int × Unit) → (Int → Int → ((List Int) × Int × Unit) → Option α) → Option α), f = fun α => @spec_l31Rd_ord_J16.b α := ⟨_, rfl⟩
noncomputable def spec_l31Rd_ord_J16 {α : Type} : Nat → Int → Int → ((List Int) × Int × Unit) → (Int → Int → ((List Int) × Int × Unit) → Option α) → Option α := Classical.choose spec_l31Rd_ord_J16.ex α
theorem spec_l31Rd_ord_J16.eq : @spec_l31Rd_ord_J16 = @spec_l31Rd_ord_J16.b := funext fun α => congrFun (Classical.choose_spec spec_l31Rd_ord_J16.ex) α
noncomputable def spec_l31Rd_ord_J9.b {α : Type} (N : Nat) (v68 : Int) (v69 : Int) (v70 : Int) (v71 : (List Int) × Int × Unit) (k0 : Int → Int → ((List Int) × Int × Unit) → Option α) : Option α :=
  let x72 := (decide (v70 = (1 : Int)))
  bif x72 then
    spec_l31Rd_pick N (6 : Int) v71
      (fun x73 x74 =>
        let x75 := IntKind.i64.wrap (v69 - x73)
        k0 v69 x75 x74)
  else
    spec_l31Rd_ord_J11 N v68 v69 v70 v71
      (fun x82 x83 x84 x85 x86 =>
        bif x85 then
          spec_l31Rd_pick N (2048 : Int) x86
            (fun x87 x88 =>
              let x89 := (shlI .i64 x87 (52 : Int))
              spec_l31Rd_pick N (4 : Int) x88
                (fun x90 x91 =>
                  let x92 := IntKind.i64.wrap (x89 + x90)
                  let x93 := (IntKind.i64.wrap (x92 - (1 : Int)))
                  spec_l31Rd_ord_J14 N x82 x83 x93 x91
                    (fun x106 x107 x108 =>
                      k0 x106 x107 x108)))
        else
          spec_l31Rd_ord_J16 N x83 x84 x86
            (fun x141 x142 x143 =>
              k0 x141 x142 x143))
theorem spec_l31Rd_ord_J9.ex : ∃ f : ((α : Type) → Nat → Int → Int → Int → ((List Int) × Int × Unit) → (Int → Int → ((List Int) × Int × Unit) → Option α) → Option α), f = fun α => @spec_l31Rd_ord_J9.b α := ⟨_, rfl⟩
noncomputable def spec_l31Rd_ord_J9 {α : Type} : Nat → Int → Int → Int → ((List Int) × Int × Unit) → (Int → Int → ((List Int) × Int × Unit) → Option α) → Option α := Classical.choose spec_l31Rd_ord_J9.ex α
theorem spec_l31Rd_ord_J9.eq : @spec_l31Rd_ord_J9 = @spec_l31Rd_ord_J9.b := funext fun α => congrFun (Classical.choose_spec spec_l31Rd_ord_J9.ex) α
noncomputable def spec_l31Rd_ord_J7.b {α : Type} (N : Nat) (v61 : Int) (v62 : Int) (v63 : Int) (v64 : (List Int) × Int × Unit) (k0 : Int → Int → ((List Int) × Int × Unit) → Option α) : Option α :=
  let x65 := (decide (v63 = (0 : Int)))
  bif x65 then
    spec_l31Rd_pick N (6 : Int) v64
      (fun x66 x67 =>
        k0 v62 x66 x67)
  else
    spec_l31Rd_ord_J9 N v61 v62 v63 v64
      (fun x144 x145 x146 =>
        k0 x144 x145 x146)
theorem spec_l31Rd_ord_J7.ex : ∃ f : ((α : Type) → Nat → Int → Int → Int → ((List Int) × Int × Unit) → (Int → Int → ((List Int) × Int × Unit) → Option α) → Option α), f = fun α => @spec_l31Rd_ord_J7.b α := ⟨_, rfl⟩
noncomputable def spec_l31Rd_ord_J7 {α : Type} : Nat → Int → Int → Int → ((List Int) × Int × Unit) → (Int → Int → ((List Int) × Int × Unit) → Option α) → Option α := Classical.choose spec_l31Rd_ord_J7.ex α
theorem spec_l31Rd_ord_J7.eq : @spec_l31Rd_ord_J7 = @spec_l31Rd_ord_J7.b := funext fun α => congrFun (Classical.choose_spec spec_l31Rd_ord_J7.ex) α
noncomputable def spec_l31Rd_ord_J20.b {α : Type} (N : Nat) (v160 : Int) (v161 : Int) (v162 : (List Int) × Int × Unit) (k0 : Int → ((List Int) × Int × Unit) → Option α) : Option α :=
  let x163 := decide (v160 < v161)
  bif x163 then
    k0 v160 v162
  else
    k0 v161 v162
theorem spec_l31Rd_ord_J20.ex : ∃ f : ((α : Type) → Nat → Int → Int → ((List Int) × Int × Unit) → (Int → ((List Int) × Int × Unit) → Option α) → Option α), f = fun α => @spec_l31Rd_ord_J20.b α := ⟨_, rfl⟩
noncomputable def spec_l31Rd_ord_J20 {α : Type} : Nat → Int → Int → ((List Int) × Int × Unit) → (Int → ((List Int) × Int × Unit) → Option α) → Option α := Classical.choose spec_l31Rd_ord_J20.ex α
theorem spec_l31Rd_ord_J20.eq : @spec_l31Rd_ord_J20 = @spec_l31Rd_ord_J20.b := funext fun α => congrFun (Classical.choose_spec spec_l31Rd_ord_J20.ex) α
noncomputable def spec_l31Rd_ord_J18.b {α : Type} (N : Nat) (v150 : Int) (v151 : Int) (v152 : (List Int) × Int × Unit) (k0 : Int → ((List Int) × Int × Unit) → Option α) : Option α :=
  spec_l31Rd_pick N (40 : Int) v152
    (fun x153 x154 =>
      let x155 := (decide (x153 = (0 : Int)))
      bif x155 then
        let x156 := (IntKind.i64.wrap (v150 + (1 : Int)))
        spec_l31Rd_pick N (3 : Int) x154
          (fun x157 x158 =>
            let x159 := IntKind.i64.wrap (x156 + x157)
            k0 x159 x158)
      else
        spec_l31Rd_ord_J20 N v150 v151 x154
          (fun x164 x165 =>
            k0 x164 x165))
theorem spec_l31Rd_ord_J18.ex : ∃ f : ((α : Type) → Nat → Int → Int → ((List Int) × Int × Unit) → (Int → ((List Int) × Int × Unit) → Option α) → Option α), f = fun α => @spec_l31Rd_ord_J18.b α := ⟨_, rfl⟩
noncomputable def spec_l31Rd_ord_J18 {α : Type} : Nat → Int → Int → ((List Int) × Int × Unit) → (Int → ((List Int) × Int × Unit) → Option α) → Option α := Classical.choose spec_l31Rd_ord_J18.ex α
theorem spec_l31Rd_ord_J18.eq : @spec_l31Rd_ord_J18 = @spec_l31Rd_ord_J18.b := funext fun α => congrFun (Classical.choose_spec spec_l31Rd_ord_J18.ex) α
/-- (*loop.example/pinfold/spec.l31Rd).ord -/
noncomputable def spec_l31Rd_ord.b {α : Type} (N : Nat) (a53 : Int) (a54 : (List Int) × Int × Unit) (k0 : Int → ((List Int) × Int × Unit) → Option α) : Option α :=
  spec_BitTop N a53
    (fun x58 =>
      spec_l31Rd_pick N (10 : Int) a54
        (fun x59 x60 =>
          spec_l31Rd_ord_J7 N a53 x58 x59 x60
            (fun x147 x148 x149 =>
              spec_l31Rd_ord_J18 N x147 x148 x149
                (fun x166 x167 =>
                  spec_l31Rd_pick N (2 : Int) x167
                    (fun x168 x169 =>
                      let x170 := (decide (x168 = (0 : Int)))
                      bif x170 then
                        let x171 := IntKind.i64.wrap (0 - x166)
                        k0 x171 x169
                      else
                        k0 x166 x169)))))
theorem spec_l31Rd_ord.ex : ∃ f : ((α : Type) → Nat → Int → ((List Int) × Int × Unit) → (Int → ((List Int) × Int × Unit) → Option α) → Option α), f = fun α => @spec_l31Rd_ord.b α := ⟨_, rfl⟩
noncomputable def spec_l31Rd_ord {α : Type} : Nat → Int → ((List Int) × Int × Unit) → (Int → ((List Int) × Int × Unit) → Option α) → Option α := Classical.choose spec_l31Rd_ord.ex α
theorem spec_l31Rd_ord.eq : @spec_l31Rd_ord = @spec_l31Rd_ord.b := funext fun α => congrFun (Classical.choose_spec spec_l31Rd_ord.ex) α

/-- loop.example/pinfold/spec.l1Width -/
noncomputable def spec_l1Width.b {α : Type} (N : Nat) (a177 : Int) (k0 : Bool → Option α) : Option α :=
  let x178 := (decide (a177 = (32 : Int)))
  bif x178 then
    k0 true
  else
    let x179 := (decide (a177 = (64 : Int)))
    k0 x179
theorem spec_l1Width.ex : ∃ f : ((α : Type) → Nat → Int → (Bool → Option α) → Option α), f = fun α => @spec_l1Width.b α := ⟨_, rfl⟩
noncomputable def spec_l1Width {α : Type} : Nat → Int → (Bool → Option α) → Option α := Classical.choose spec_l1Width.ex α
theorem spec_l1Width.eq : @spec_l1Width = @spec_l1Width.b := funext fun α => congrFun (Classical.choose_spec spec_l1Width.ex) α

/-- loop.example/pinfold/spec.BitOk -/
noncomputable def spec_BitOk.b {α : Type} (N : Nat) (a175 : Int) (a176 : Int) (k0 : Bool → Option α) : Option α :=
  spec_l1Width N a175
    (fun x180 =>
      bif x180 then
        spec_BitTop N a175
          (fun x181 =>
            let x182 := IntKind.i64.wrap (0 - x181)
            let x183 := decide (x182 ≤ a176)
            bif x183 then
              spec_BitTop N a175
                (fun x184 =>
                  let x185 := decide (a176 ≤ x184)
                  k0 x185)
            else
              k0 false)
      else
        k0 false)
theorem spec_BitOk.ex : ∃ f : ((α : Type) → Nat → Int → Int → (Bool → Option α) → Option α), f = fun α => @spec_BitOk.b α := ⟨_, rfl⟩
noncomputable def spec_BitOk {α : Type} : Nat → Int → Int → (Bool → Option α) → Option α := Classical.choose spec_BitOk.ex α
theorem spec_BitOk.eq : @spec_BitOk = @spec_BitOk.b := funext fun α => congrFun (Classical.choose_spec spec_BitOk.ex) α

/-- loop.example/pinfold/spec.l1Least -/
noncomputable def spec_l1Least.b {α : Type} (N : Nat) (a198 : Int) (k0 : Int → Option α) : Option α :=
  let x199 := (decide (a198 = (32 : Int)))
  bif x199 then
    k0 (-149 : Int)
  else
    k0 (-1074 : Int)
theorem spec_l1Least.ex : ∃ f : ((α : Type) → Nat → Int → (Int → Option α) → Option α), f = fun α => @spec_l1Least.b α := ⟨_, rfl⟩
noncomputable def spec_l1Least {α : Type} : Nat → Int → (Int → Option α) → Option α := Classical.choose spec_l1Least.ex α
theorem spec_l1Least.eq : @spec_l1Least = @spec_l1Least.b := funext fun α => congrFun (Classical.choose_spec spec_l1Least.ex) α

/-- loop.example/pinfold/spec.l1Frac -/
noncomputable def spec_l1Frac.b {α : Type} (N : Nat) (a211 : Int) (k0 : Int → Option α) : Option α :=
  let x212 := (decide (a211 = (32 : Int)))
  bif x212 then
    k0 (23 : Int)
  else
    k0 (52 : Int)
theorem spec_l1Frac.ex : ∃ f : ((α : Type) → Nat → Int → (Int → Option α) → Option α), f = fun α => @spec_l1Frac.b α := ⟨_, rfl⟩
noncomputable def spec_l1Frac {α : Type} : Nat → Int → (Int → Option α) → Option α := Classical.choose spec_l1Frac.ex α
theorem spec_l1Frac.eq : @spec_l1Frac = @spec_l1Frac.b := funext fun α => congrFun (Classical.choose_spec spec_l1Frac.ex) α

noncomputable def spec_BitPartOf_J5.b {α : Type} (N : Nat) (v201 : Int) (v202 : Int) (v203 : Bool × Int × Int × Unit) (v204 : Bool × Int × Int × Unit) (k0 : Int → Int → (Bool × Int × Int × Unit) → (Bool × Int × Int × Unit) → Option α) : Option α :=
  let x205 := (decide (v202 < (0 : Int)))
  bif x205 then
    let x206 := IntKind.i64.wrap (0 - v202)
    k0 v201 x206 v203 v204
  else
    k0 v201 v202 v203 v204
theorem spec_BitPartOf_J5.ex : ∃ f : ((α : Type) → Nat → Int → Int → (Bool × Int × Int × Unit) → (Bool × Int × Int × Unit) → (Int → Int → (Bool × Int × Int × Unit) → (Bool × Int × Int × Unit) → Option α) → Option α), f = fun α => @spec_BitPartOf_J5.b α := ⟨_, rfl⟩
noncomputable def spec_BitPartOf_J5 {α : Type} : Nat → Int → Int → (Bool × Int × Int × Unit) → (Bool × Int × Int × Unit) → (Int → Int → (Bool × Int × Int × Unit) → (Bool × Int × Int × Unit) → Option α) → Option α := Classical.choose spec_BitPartOf_J5.ex α
theorem spec_BitPartOf_J5.eq : @spec_BitPartOf_J5 = @spec_BitPartOf_J5.b := funext fun α => congrFun (Classical.choose_spec spec_BitPartOf_J5.ex) α
noncomputable def spec_BitPartOf_J10.b {α : Type} (N : Nat) (v219 : Int) (v220 : Int) (v221 : Bool × Int × Int × Unit) (v222 : Bool × Int × Int × Unit) (k0 : (Bool × Int × Int × Unit) → (Bool × Int × Int × Unit) → Option α) : Option α :=
  let x223 := (decide ((0 : Int) < v220))
  bif x223 then
    let x224 := IntKind.u64.wrap v219
    let x225 := IntKind.u64.wrap (v222.2.1 + x224)
    let x226 := IntKind.i64.wrap (v222.2.2.1 + v220)
    let x227 := (IntKind.i64.wrap (x226 - (1 : Int)))
    k0 v221 (v222.1, (x225, (x227, ())))
  else
    k0 v221 v222
theorem spec_BitPartOf_J10.ex : ∃ f : ((α : Type) → Nat → Int → Int → (Bool × Int × Int × Unit) → (Bool × Int × Int × Unit) → ((Bool × Int × Int × Unit) → (Bool × Int × Int × Unit) → Option α) → Option α), f = fun α => @spec_BitPartOf_J10.b α := ⟨_, rfl⟩
noncomputable def spec_BitPartOf_J10 {α : Type} : Nat → Int → Int → (Bool × Int × Int × Unit) → (Bool × Int × Int × Unit) → ((Bool × Int × Int × Unit) → (Bool × Int × Int × Unit) → Option α) → Option α := Classical.choose spec_BitPartOf_J10.ex α
theorem spec_BitPartOf_J10.eq : @spec_BitPartOf_J10 = @spec_BitPartOf_J10.b := funext fun α => congrFun (Classical.choose_spec spec_BitPartOf_J10.ex) α
/-- loop.example/pinfold/spec.BitPartOf -/
noncomputable def spec_BitPartOf.b {α : Type} (N : Nat) (a188 : Int) (a189 : Int) (k0 : (Bool × Int × Int × Unit) → Bool → Option α) : Option α :=
  spec_BitOk N a188 a189
    (fun x190 =>
      let x191 := !x190
      bif x191 then
        k0 (false, ((0 : Int), ((0 : Int), ()))) false
      else
        spec_BitTop N a188
          (fun x192 =>
            let x193 := decide (a189 = x192)
            bif x193 then
              k0 (false, ((0 : Int), ((0 : Int), ()))) false
            else
              spec_BitTop N a188
                (fun x194 =>
                  let x195 := IntKind.i64.wrap (0 - x194)
                  let x196 := decide (a189 = x195)
                  bif x196 then
                    k0 (false, ((0 : Int), ((0 : Int), ()))) false
                  else
                    let x197 := (decide (a189 < (0 : Int)))
                    spec_l1Least N a188
                      (fun x200 =>
                        spec_BitPartOf_J5 N a188 a189 (false, ((0 : Int), ((0 : Int), ()))) (x197, ((0 : Int), (x200, ())))
                          (fun x207 x208 x209 x210 =>
                            spec_l1Frac N x207
                              (fun x213 =>
                                let x214 := IntKind.u64.wrap x213
                                bif (decide (x214 < (0 : Int))) then
                                  none
                                else
                                  let x215 := (shlI .i64 (1 : Int) x214)
                                  bif (decide (x215 = (0 : Int))) then
                                    none
                                  else
                                    let x216 := IntKind.i64.wrap (Int.tdiv x208 x215)
                                    bif (decide (x215 = (0 : Int))) then
                                      none
                                    else
                                      let x217 := Int.tmod x208 x215
                                      let x218 := IntKind.u64.wrap x217
                                      spec_BitPartOf_J10 N x215 x216 x209 (x210.1, (x218, (x210.2.2.1, ())))
                                        (fun _ x229 =>
                                          k0 x229 true)))))))
theorem spec_BitPartOf.ex : ∃ f : ((α : Type) → Nat → Int → Int → ((Bool × Int × Int × Unit) → Bool → Option α) → Option α), f = fun α => @spec_BitPartOf.b α := ⟨_, rfl⟩
noncomputable def spec_BitPartOf {α : Type} : Nat → Int → Int → ((Bool × Int × Int × Unit) → Bool → Option α) → Option α := Classical.choose spec_BitPartOf.ex α
theorem spec_BitPartOf.eq : @spec_BitPartOf = @spec_BitPartOf.b := funext fun α => congrFun (Classical.choose_spec spec_BitPartOf.ex) α

noncomputable def spec_BitMake_L0r {α : Type} (N : Nat) (next : Int → Int → Int → Int → (Bool × Int × Int × Unit) → Option α) (k0 : Int → Int → Int → Int → (Bool × Int × Int × Unit) → Option α) (v247 : Int) (v248 : Int) (v249 : Int) (v250 : Int) (v251 : Bool × Int × Int × Unit) : Option α :=
  let x252 := (Int.tmod v248 (2 : Int))
  let x253 := (decide (x252 = (0 : Int)))
  bif x253 then
    let x254 := (IntKind.u64.wrap ((2 : Int) * v250))
    let x255 := decide (x254 ≤ v248)
    bif x255 then
      let x256 := (IntKind.u64.wrap (Int.tdiv v248 (2 : Int)))
      let x257 := (IntKind.i64.wrap (v249 + (1 : Int)))
      next v247 x256 x257 v250 v251
    else
      spec_l1Least N v247
        (fun x258 =>
          let x259 := decide (v249 < x258)
          bif x259 then
            let x260 := (IntKind.u64.wrap (Int.tdiv v248 (2 : Int)))
            let x261 := (IntKind.i64.wrap (v249 + (1 : Int)))
            next v247 x260 x261 v250 v251
          else
            k0 v247 v248 v249 v250 v251)
  else
    k0 v247 v248 v249 v250 v251
noncomputable def spec_BitMake_L0.b {α : Type} (N n : Nat) (v247 : Int) (v248 : Int) (v249 : Int) (v250 : Int) (v251 : Bool × Int × Int × Unit) (k0 : Int → Int → Int → Int → (Bool × Int × Int × Unit) → Option α) : Option α :=
  Nat.rec (motive := fun _ => Int → Int → Int → Int → (Bool × Int × Int × Unit) → Option α) (fun _ _ _ _ _ => none) (fun _ next => spec_BitMake_L0r N next k0) n v247 v248 v249 v250 v251
theorem spec_BitMake_L0.ex : ∃ f : ((α : Type) → Nat → Nat → Int → Int → Int → Int → (Bool × Int × Int × Unit) → (Int → Int → Int → Int → (Bool × Int × Int × Unit) → Option α) → Option α), f = fun α => @spec_BitMake_L0.b α := ⟨_, rfl⟩
noncomputable def spec_BitMake_L0 {α : Type} : Nat → Nat → Int → Int → Int → Int → (Bool × Int × Int × Unit) → (Int → Int → Int → Int → (Bool × Int × Int × Unit) → Option α) → Option α := Classical.choose spec_BitMake_L0.ex α
theorem spec_BitMake_L0.eq : @spec_BitMake_L0 = @spec_BitMake_L0.b := funext fun α => congrFun (Classical.choose_spec spec_BitMake_L0.ex) α
theorem spec_BitMake_L0.zero {α : Type} (N : Nat) (v247 : Int) (v248 : Int) (v249 : Int) (v250 : Int) (v251 : Bool × Int × Int × Unit) (k0 : Int → Int → Int → Int → (Bool × Int × Int × Unit) → Option α) : spec_BitMake_L0 N 0 v247 v248 v249 v250 v251 k0 = none := by rw [spec_BitMake_L0.eq]; rfl
theorem spec_BitMake_L0.succ {α : Type} (N n : Nat) (v247 : Int) (v248 : Int) (v249 : Int) (v250 : Int) (v251 : Bool × Int × Int × Unit) (k0 : Int → Int → Int → Int → (Bool × Int × Int × Unit) → Option α) : spec_BitMake_L0 N (n + 1) v247 v248 v249 v250 v251 k0 = spec_BitMake_L0r N (fun y0 y1 y2 y3 y4 => spec_BitMake_L0 N n y0 y1 y2 y3 y4 k0) k0 v247 v248 v249 v250 v251 := by rw [spec_BitMake_L0.eq]; rfl
noncomputable def spec_BitMake_L2r {α : Type} (N : Nat) (next : Int → Int → Int → Int → (Bool × Int × Int × Unit) → Option α) (k0 : Int → Int → Int → Int → (Bool × Int × Int × Unit) → Option α) (v267 : Int) (v268 : Int) (v269 : Int) (v270 : Int) (v271 : Bool × Int × Int × Unit) : Option α :=
  let x272 := decide (v268 < v270)
  bif x272 then
    spec_l1Least N v267
      (fun x273 =>
        let x274 := decide (x273 < v269)
        bif x274 then
          let x275 := (IntKind.u64.wrap (v268 * (2 : Int)))
          let x276 := (IntKind.i64.wrap (v269 - (1 : Int)))
          next v267 x275 x276 v270 v271
        else
          k0 v267 v268 v269 v270 v271)
  else
    k0 v267 v268 v269 v270 v271
noncomputable def spec_BitMake_L2.b {α : Type} (N n : Nat) (v267 : Int) (v268 : Int) (v269 : Int) (v270 : Int) (v271 : Bool × Int × Int × Unit) (k0 : Int → Int → Int → Int → (Bool × Int × Int × Unit) → Option α) : Option α :=
  Nat.rec (motive := fun _ => Int → Int → Int → Int → (Bool × Int × Int × Unit) → Option α) (fun _ _ _ _ _ => none) (fun _ next => spec_BitMake_L2r N next k0) n v267 v268 v269 v270 v271
theorem spec_BitMake_L2.ex : ∃ f : ((α : Type) → Nat → Nat → Int → Int → Int → Int → (Bool × Int × Int × Unit) → (Int → Int → Int → Int → (Bool × Int × Int × Unit) → Option α) → Option α), f = fun α => @spec_BitMake_L2.b α := ⟨_, rfl⟩
noncomputable def spec_BitMake_L2 {α : Type} : Nat → Nat → Int → Int → Int → Int → (Bool × Int × Int × Unit) → (Int → Int → Int → Int → (Bool × Int × Int × Unit) → Option α) → Option α := Classical.choose spec_BitMake_L2.ex α
theorem spec_BitMake_L2.eq : @spec_BitMake_L2 = @spec_BitMake_L2.b := funext fun α => congrFun (Classical.choose_spec spec_BitMake_L2.ex) α
theorem spec_BitMake_L2.zero {α : Type} (N : Nat) (v267 : Int) (v268 : Int) (v269 : Int) (v270 : Int) (v271 : Bool × Int × Int × Unit) (k0 : Int → Int → Int → Int → (Bool × Int × Int × Unit) → Option α) : spec_BitMake_L2 N 0 v267 v268 v269 v270 v271 k0 = none := by rw [spec_BitMake_L2.eq]; rfl
theorem spec_BitMake_L2.succ {α : Type} (N n : Nat) (v267 : Int) (v268 : Int) (v269 : Int) (v270 : Int) (v271 : Bool × Int × Int × Unit) (k0 : Int → Int → Int → Int → (Bool × Int × Int × Unit) → Option α) : spec_BitMake_L2 N (n + 1) v267 v268 v269 v270 v271 k0 = spec_BitMake_L2r N (fun y0 y1 y2 y3 y4 => spec_BitMake_L2 N n y0 y1 y2 y3 y4 k0) k0 v267 v268 v269 v270 v271 := by rw [spec_BitMake_L2.eq]; rfl
noncomputable def spec_BitMake_J17.b {α : Type} (N : Nat) (v287 : Int) (v288 : Int) (v289 : Int) (v290 : Int) (v291 : Int) (v292 : Bool × Int × Int × Unit) (k0 : Int → Bool → Option α) (k1 : Int → (Bool × Int × Int × Unit) → Option α) : Option α :=
  let x293 := decide (v290 ≤ v288)
  bif x293 then
    spec_l1Least N v287
      (fun x294 =>
        let x295 := IntKind.i64.wrap (v289 - x294)
        let x296 := (IntKind.i64.wrap (x295 + (1 : Int)))
        spec_BitTop N v287
          (fun x297 =>
            let x298 := IntKind.i64.wrap v290
            bif (decide (x298 = (0 : Int))) then
              none
            else
              let x299 := IntKind.i64.wrap (Int.tdiv x297 x298)
              let x300 := (IntKind.i64.wrap (x299 - (1 : Int)))
              let x301 := decide (x300 < x296)
              bif x301 then
                k0 (0 : Int) false
              else
                let x302 := IntKind.i64.wrap v290
                let x303 := IntKind.i64.wrap (x296 * x302)
                let x304 := IntKind.u64.wrap (v288 - v290)
                let x305 := IntKind.i64.wrap x304
                let x306 := IntKind.i64.wrap (x303 + x305)
                k1 x306 v292))
  else
    k1 v291 v292
theorem spec_BitMake_J17.ex : ∃ f : ((α : Type) → Nat → Int → Int → Int → Int → Int → (Bool × Int × Int × Unit) → (Int → Bool → Option α) → (Int → (Bool × Int × Int × Unit) → Option α) → Option α), f = fun α => @spec_BitMake_J17.b α := ⟨_, rfl⟩
noncomputable def spec_BitMake_J17 {α : Type} : Nat → Int → Int → Int → Int → Int → (Bool × Int × Int × Unit) → (Int → Bool → Option α) → (Int → (Bool × Int × Int × Unit) → Option α) → Option α := Classical.choose spec_BitMake_J17.ex α
theorem spec_BitMake_J17.eq : @spec_BitMake_J17 = @spec_BitMake_J17.b := funext fun α => congrFun (Classical.choose_spec spec_BitMake_J17.ex) α
/-- loop.example/pinfold/spec.BitMake -/
noncomputable def spec_BitMake.b {α : Type} (N : Nat) (a237 : Int) (a238 : Bool × Int × Int × Unit) (k0 : Int → Bool → Option α) : Option α :=
  spec_l1Width N a237
    (fun x239 =>
      let x240 := !x239
      bif x240 then
        k0 (0 : Int) false
      else
        let x241 := (decide (a238.2.2.1 < (-2000 : Int)))
        bif x241 then
          k0 (0 : Int) false
        else
          let x242 := (decide ((2000 : Int) < a238.2.2.1))
          bif x242 then
            k0 (0 : Int) false
          else
            let x243 := (decide (a238.2.1 = (0 : Int)))
            bif x243 then
              k0 (0 : Int) true
            else
              spec_l1Frac N a237
                (fun x244 =>
                  let x245 := IntKind.u64.wrap x244
                  bif (decide (x245 < (0 : Int))) then
                    none
                  else
                    let x246 := (shlI .u64 (1 : Int) x245)
                    spec_BitMake_L0 N N a237 a238.2.1 a238.2.2.1 x246 a238
                      (fun x262 x263 x264 x265 x266 =>
                        spec_BitMake_L2 N N x262 x263 x264 x265 x266
                          (fun x277 x278 x279 x280 x281 =>
                            let x282 := (IntKind.u64.wrap ((2 : Int) * x280))
                            let x283 := decide (x282 ≤ x278)
                            bif x283 then
                              k0 (0 : Int) false
                            else
                              spec_l1Least N x277
                                (fun x284 =>
                                  let x285 := decide (x279 < x284)
                                  bif x285 then
                                    k0 (0 : Int) false
                                  else
                                    let x286 := IntKind.i64.wrap x278
                                    spec_BitMake_J17 N x277 x278 x279 x280 x286 x281
                                      (fun x307 x308 =>
                                        k0 x307 x308)
                                      (fun x309 x310 =>
                                        bif x310.1 then
                                          let x311 := IntKind.i64.wrap (0 - x309)
                                          k0 x311 true
                                        else
                                          k0 x309 true))))))
theorem spec_BitMake.ex : ∃ f : ((α : Type) → Nat → Int → (Bool × Int × Int × Unit) → (Int → Bool → Option α) → Option α), f = fun α => @spec_BitMake.b α := ⟨_, rfl⟩
noncomputable def spec_BitMake {α : Type} : Nat → Int → (Bool × Int × Int × Unit) → (Int → Bool → Option α) → Option α := Classical.choose spec_BitMake.ex α
theorem spec_BitMake.eq : @spec_BitMake = @spec_BitMake.b := funext fun α => congrFun (Classical.choose_spec spec_BitMake.ex) α

/-- loop.example/pinfold/spec.BitWiden -/
noncomputable def spec_BitWiden.b {α : Type} (N : Nat) (a174 : Int) (k0 : Int → Bool → Option α) : Option α :=
  spec_BitOk N (32 : Int) a174
    (fun x186 =>
      let x187 := !x186
      bif x187 then
        k0 (0 : Int) false
      else
        spec_BitPartOf N (32 : Int) a174
          (fun x230 x231 =>
            let x232 := !x231
            bif x232 then
              let x233 := (decide (a174 < (0 : Int)))
              bif x233 then
                spec_BitTop N (64 : Int)
                  (fun x234 =>
                    let x235 := IntKind.i64.wrap (0 - x234)
                    k0 x235 true)
              else
                spec_BitTop N (64 : Int)
                  (fun x236 =>
                    k0 x236 true)
            else
              spec_BitMake N (64 : Int) x230
                (fun x312 x313 =>
                  k0 x312 x313)))
theorem spec_BitWiden.ex : ∃ f : ((α : Type) → Nat → Int → (Int → Bool → Option α) → Option α), f = fun α => @spec_BitWiden.b α := ⟨_, rfl⟩
noncomputable def spec_BitWiden {α : Type} : Nat → Int → (Int → Bool → Option α) → Option α := Classical.choose spec_BitWiden.ex α
theorem spec_BitWiden.eq : @spec_BitWiden = @spec_BitWiden.b := funext fun α => congrFun (Classical.choose_spec spec_BitWiden.ex) α

/-- (*loop.example/pinfold/spec.l31Rd).wide -/
noncomputable def spec_l31Rd_wide.b {α : Type} (N : Nat) (a15 : (List Int) × Int × Unit) (k0 : Int → ((List Int) × Int × Unit) → Option α) : Option α :=
  spec_l31Rd_pick N (3 : Int) a15
    (fun x50 x51 =>
      let x52 := (decide ((0 : Int) < x50))
      bif x52 then
        spec_l31Rd_ord N (32 : Int) x51
          (fun x172 x173 =>
            spec_BitWiden N x172
              (fun x314 _ =>
                spec_l31Rd_pick N (5 : Int) x173
                  (fun x316 x317 =>
                    let x318 := IntKind.i64.wrap (x314 + x316)
                    let x319 := (IntKind.i64.wrap (x318 - (2 : Int)))
                    k0 x319 x317)))
      else
        spec_l31Rd_ord N (64 : Int) x51
          (fun x320 x321 =>
            k0 x320 x321))
theorem spec_l31Rd_wide.ex : ∃ f : ((α : Type) → Nat → ((List Int) × Int × Unit) → (Int → ((List Int) × Int × Unit) → Option α) → Option α), f = fun α => @spec_l31Rd_wide.b α := ⟨_, rfl⟩
noncomputable def spec_l31Rd_wide {α : Type} : Nat → ((List Int) × Int × Unit) → (Int → ((List Int) × Int × Unit) → Option α) → Option α := Classical.choose spec_l31Rd_wide.ex α
theorem spec_l31Rd_wide.eq : @spec_l31Rd_wide = @spec_l31Rd_wide.b := funext fun α => congrFun (Classical.choose_spec spec_l31Rd_wide.ex) α

/-- loop.example/pinfold/spec.DrawBitBelow -/
noncomputable def spec_DrawBitBelow.b {α : Type} (N : Nat) (a7 : List Int) (k0 : Int → Option α) : Option α :=
  spec_l31Open N a7
    (fun x14 =>
      spec_l31Rd_wide N x14
        (fun x322 _ =>
          k0 x322))
theorem spec_DrawBitBelow.ex : ∃ f : ((α : Type) → Nat → List Int → (Int → Option α) → Option α), f = fun α => @spec_DrawBitBelow.b α := ⟨_, rfl⟩
noncomputable def spec_DrawBitBelow {α : Type} : Nat → List Int → (Int → Option α) → Option α := Classical.choose spec_DrawBitBelow.ex α
theorem spec_DrawBitBelow.eq : @spec_DrawBitBelow = @spec_DrawBitBelow.b := funext fun α => congrFun (Classical.choose_spec spec_DrawBitBelow.ex) α

/-- loop.example/pinfold/impl.formatOf -/
noncomputable def impl_formatOf.b {α : Type} (N : Nat) (a328 : Int) (k0 : (Int × Int × Int × Int × Unit) → Bool → Option α) : Option α :=
  let x329 := (decide (a328 = (32 : Int)))
  bif x329 then
    k0 ((23 : Int), ((-149 : Int), ((127 : Int), ((2139095040 : Int), ())))) true
  else
    let x330 := (decide (a328 = (64 : Int)))
    bif x330 then
      k0 ((52 : Int), ((-1074 : Int), ((1023 : Int), ((9218868437227405312 : Int), ())))) true
    else
      k0 ((0 : Int), ((0 : Int), ((0 : Int), ((0 : Int), ())))) false
theorem impl_formatOf.ex : ∃ f : ((α : Type) → Nat → Int → ((Int × Int × Int × Int × Unit) → Bool → Option α) → Option α), f = fun α => @impl_formatOf.b α := ⟨_, rfl⟩
noncomputable def impl_formatOf {α : Type} : Nat → Int → ((Int × Int × Int × Int × Unit) → Bool → Option α) → Option α := Classical.choose impl_formatOf.ex α
theorem impl_formatOf.eq : @impl_formatOf = @impl_formatOf.b := funext fun α => congrFun (Classical.choose_spec impl_formatOf.ex) α

/-- loop.example/pinfold/impl.in -/
noncomputable def impl_in.b {α : Type} (N : Nat) (a334 : Int) (a335 : Int) (a336 : Int) (k0 : Bool → Option α) : Option α :=
  let x337 := decide (a335 ≤ a334)
  bif x337 then
    let x338 := decide (a334 ≤ a336)
    k0 x338
  else
    k0 false
theorem impl_in.ex : ∃ f : ((α : Type) → Nat → Int → Int → Int → (Bool → Option α) → Option α), f = fun α => @impl_in.b α := ⟨_, rfl⟩
noncomputable def impl_in {α : Type} : Nat → Int → Int → Int → (Bool → Option α) → Option α := Classical.choose impl_in.ex α
theorem impl_in.eq : @impl_in = @impl_in.b := funext fun α => congrFun (Classical.choose_spec impl_in.ex) α

/-- loop.example/pinfold/impl.BitOk -/
noncomputable def impl_BitOk.b {α : Type} (N : Nat) (a326 : Int) (a327 : Int) (k0 : Bool → Option α) : Option α :=
  impl_formatOf N a326
    (fun x331 x332 =>
      bif x332 then
        let x333 := IntKind.i64.wrap (0 - x331.2.2.2.1)
        impl_in N a327 x333 x331.2.2.2.1
          (fun x339 =>
            k0 x339)
      else
        k0 false)
theorem impl_BitOk.ex : ∃ f : ((α : Type) → Nat → Int → Int → (Bool → Option α) → Option α), f = fun α => @impl_BitOk.b α := ⟨_, rfl⟩
noncomputable def impl_BitOk {α : Type} : Nat → Int → Int → (Bool → Option α) → Option α := Classical.choose impl_BitOk.ex α
theorem impl_BitOk.eq : @impl_BitOk = @impl_BitOk.b := funext fun α => congrFun (Classical.choose_spec impl_BitOk.ex) α

/-- loop.example/pinfold/impl.BitTop -/
noncomputable def impl_BitTop.b {α : Type} (N : Nat) (a342 : Int) (k0 : Int → Option α) : Option α :=
  impl_formatOf N a342
    (fun x343 _ =>
      k0 x343.2.2.2.1)
theorem impl_BitTop.ex : ∃ f : ((α : Type) → Nat → Int → (Int → Option α) → Option α), f = fun α => @impl_BitTop.b α := ⟨_, rfl⟩
noncomputable def impl_BitTop {α : Type} : Nat → Int → (Int → Option α) → Option α := Classical.choose impl_BitTop.ex α
theorem impl_BitTop.eq : @impl_BitTop = @impl_BitTop.b := funext fun α => congrFun (Classical.choose_spec impl_BitTop.ex) α

/-- loop.example/pinfold/impl.size -/
noncomputable def impl_size.b {α : Type} (N : Nat) (a367 : Int) (k0 : Int → Option α) : Option α :=
  let x368 := IntKind.i64.wrap (0 - a367)
  let x369 := maxI a367 x368
  k0 x369
theorem impl_size.ex : ∃ f : ((α : Type) → Nat → Int → (Int → Option α) → Option α), f = fun α => @impl_size.b α := ⟨_, rfl⟩
noncomputable def impl_size {α : Type} : Nat → Int → (Int → Option α) → Option α := Classical.choose impl_size.ex α
theorem impl_size.eq : @impl_size = @impl_size.b := funext fun α => congrFun (Classical.choose_spec impl_size.ex) α

/-- loop.example/pinfold/impl.BitPartOf -/
noncomputable def impl_BitPartOf.b {α : Type} (N : Nat) (a361 : Int) (a362 : Int) (k0 : (Bool × Int × Int × Unit) → Bool → Option α) : Option α :=
  impl_formatOf N a361
    (fun x363 _ =>
      impl_BitOk N a361 a362
        (fun x365 =>
          let x366 := !x365
          bif x366 then
            k0 (false, ((0 : Int), ((0 : Int), ()))) false
          else
            impl_size N a362
              (fun x370 =>
                let x371 := decide (x370 = x363.2.2.2.1)
                bif x371 then
                  k0 (false, ((0 : Int), ((0 : Int), ()))) false
                else
                  impl_size N a362
                    (fun x372 =>
                      bif (decide (x363.1 < (0 : Int))) then
                        none
                      else
                        let x373 := (shlI .i64 (1 : Int) x363.1)
                        let x374 := (IntKind.i64.wrap (x373 - (1 : Int)))
                        let x375 := bitI .and .i64 x372 x374
                        impl_size N a362
                          (fun x376 =>
                            bif (decide (x363.1 < (0 : Int))) then
                              none
                            else
                              let x377 := shrI .i64 x376 x363.1
                              let x378 := (decide (x377 = (0 : Int)))
                              bif x378 then
                                let x379 := (decide (a362 < (0 : Int)))
                                let x380 := IntKind.u64.wrap x375
                                k0 (x379, (x380, (x363.2.1, ()))) true
                              else
                                let x381 := (decide (a362 < (0 : Int)))
                                bif (decide (x363.1 < (0 : Int))) then
                                  none
                                else
                                  let x382 := (shlI .i64 (1 : Int) x363.1)
                                  let x383 := bitI .or .i64 x375 x382
                                  let x384 := IntKind.u64.wrap x383
                                  let x385 := IntKind.i64.wrap (x363.2.1 + x377)
                                  let x386 := (IntKind.i64.wrap (x385 - (1 : Int)))
                                  k0 (x381, (x384, (x386, ()))) true)))))
theorem impl_BitPartOf.ex : ∃ f : ((α : Type) → Nat → Int → Int → ((Bool × Int × Int × Unit) → Bool → Option α) → Option α), f = fun α => @impl_BitPartOf.b α := ⟨_, rfl⟩
noncomputable def impl_BitPartOf {α : Type} : Nat → Int → Int → ((Bool × Int × Int × Unit) → Bool → Option α) → Option α := Classical.choose impl_BitPartOf.ex α
theorem impl_BitPartOf.eq : @impl_BitPartOf = @impl_BitPartOf.b := funext fun α => congrFun (Classical.choose_spec impl_BitPartOf.ex) α

-- prim math_bits_TrailingZeros64
noncomputable def math_bits_Len64_J1.b {α : Type} (N : Nat) (v401 : Int) (v402 : Int) (k0 : Int → Int → Option α) : Option α :=
  let x403 := (decide ((4294967296 : Int) ≤ v401))
  bif x403 then
    let x404 := (shrI .u64 v401 (32 : Int))
    k0 x404 (32 : Int)
  else
    k0 v401 v402
theorem math_bits_Len64_J1.ex : ∃ f : ((α : Type) → Nat → Int → Int → (Int → Int → Option α) → Option α), f = fun α => @math_bits_Len64_J1.b α := ⟨_, rfl⟩
noncomputable def math_bits_Len64_J1 {α : Type} : Nat → Int → Int → (Int → Int → Option α) → Option α := Classical.choose math_bits_Len64_J1.ex α
theorem math_bits_Len64_J1.eq : @math_bits_Len64_J1 = @math_bits_Len64_J1.b := funext fun α => congrFun (Classical.choose_spec math_bits_Len64_J1.ex) α
noncomputable def math_bits_Len64_J4.b {α : Type} (N : Nat) (v407 : Int) (v408 : Int) (k0 : Int → Int → Option α) : Option α :=
  let x409 := (decide ((65536 : Int) ≤ v407))
  bif x409 then
    let x410 := (shrI .u64 v407 (16 : Int))
    let x411 := (IntKind.i64.wrap (v408 + (16 : Int)))
    k0 x410 x411
  else
    k0 v407 v408
theorem math_bits_Len64_J4.ex : ∃ f : ((α : Type) → Nat → Int → Int → (Int → Int → Option α) → Option α), f = fun α => @math_bits_Len64_J4.b α := ⟨_, rfl⟩
noncomputable def math_bits_Len64_J4 {α : Type} : Nat → Int → Int → (Int → Int → Option α) → Option α := Classical.choose math_bits_Len64_J4.ex α
theorem math_bits_Len64_J4.eq : @math_bits_Len64_J4 = @math_bits_Len64_J4.b := funext fun α => congrFun (Classical.choose_spec math_bits_Len64_J4.ex) α
noncomputable def math_bits_Len64_J7.b {α : Type} (N : Nat) (v414 : Int) (v415 : Int) (k0 : Int → Int → Option α) : Option α :=
  let x416 := (decide ((256 : Int) ≤ v414))
  bif x416 then
    let x417 := (shrI .u64 v414 (8 : Int))
    let x418 := (IntKind.i64.wrap (v415 + (8 : Int)))
    k0 x417 x418
  else
    k0 v414 v415
theorem math_bits_Len64_J7.ex : ∃ f : ((α : Type) → Nat → Int → Int → (Int → Int → Option α) → Option α), f = fun α => @math_bits_Len64_J7.b α := ⟨_, rfl⟩
noncomputable def math_bits_Len64_J7 {α : Type} : Nat → Int → Int → (Int → Int → Option α) → Option α := Classical.choose math_bits_Len64_J7.ex α
theorem math_bits_Len64_J7.eq : @math_bits_Len64_J7 = @math_bits_Len64_J7.b := funext fun α => congrFun (Classical.choose_spec math_bits_Len64_J7.ex) α
/-- math/bits.Len64 -/
noncomputable def math_bits_Len64.b {α : Type} (N : Nat) (a400 : Int) (k0 : Int → Option α) : Option α :=
  math_bits_Len64_J1 N a400 (0 : Int)
    (fun x405 x406 =>
      math_bits_Len64_J4 N x405 x406
        (fun x412 x413 =>
          math_bits_Len64_J7 N x412 x413
            (fun x419 x420 =>
              let x421 := IntKind.u8.wrap x419
              bif (decide (x421 < (0 : Int))) then
                none
              else
                match ((⟨#[0, 1, 2, 2, 3, 3, 3, 3, 4, 4, 4, 4, 4, 4, 4, 4, 5, 5, 5, 5, 5, 5, 5, 5, 5, 5, 5, 5, 5, 5, 5, 5, 6, 6, 6, 6, 6, 6, 6, 6, 6, 6, 6, 6, 6, 6, 6, 6, 6, 6, 6, 6, 6, 6, 6, 6, 6, 6, 6, 6, 6, 6, 6, 6, 7, 7, 7, 7, 7, 7, 7, 7, 7, 7, 7, 7, 7, 7, 7, 7, 7, 7, 7, 7, 7, 7, 7, 7, 7, 7, 7, 7, 7, 7, 7, 7, 7, 7, 7, 7, 7, 7, 7, 7, 7, 7, 7, 7, 7, 7, 7, 7, 7, 7, 7, 7, 7, 7, 7, 7, 7, 7, 7, 7, 7, 7, 7, 7, 8, 8, 8, 8, 8, 8, 8, 8, 8, 8, 8, 8, 8, 8, 8, 8, 8, 8, 8, 8, 8, 8, 8, 8, 8, 8, 8, 8, 8, 8, 8, 8, 8, 8, 8, 8, 8, 8, 8, 8, 8, 8, 8, 8, 8, 8, 8, 8, 8, 8, 8, 8, 8, 8, 8, 8, 8, 8, 8, 8, 8, 8, 8, 8, 8, 8, 8, 8, 8, 8, 8, 8, 8, 8, 8, 8, 8, 8, 8, 8, 8, 8, 8, 8, 8, 8, 8, 8, 8, 8, 8, 8, 8, 8, 8, 8, 8, 8, 8, 8, 8, 8, 8, 8, 8, 8, 8, 8, 8, 8, 8, 8, 8, 8, 8, 8, 8, 8, 8, 8, 8, 8, 8, 8, 8, 8, 8, 8]⟩ : ByteArray)[x421.toNat]? : Option UInt8) with
                | some x422 =>
                  let x423 := ((x422.toNat : Nat) : Int)
                  let x424 := IntKind.i64.wrap x423
                  let x425 := IntKind.i64.wrap (x420 + x424)
                  k0 x425
                | none => none)))
theorem math_bits_Len64.ex : ∃ f : ((α : Type) → Nat → Int → (Int → Option α) → Option α), f = fun α => @math_bits_Len64.b α := ⟨_, rfl⟩
noncomputable def math_bits_Len64 {α : Type} : Nat → Int → (Int → Option α) → Option α := Classical.choose math_bits_Len64.ex α
theorem math_bits_Len64.eq : @math_bits_Len64 = @math_bits_Len64.b := funext fun α => congrFun (Classical.choose_spec math_bits_Len64.ex) α

noncomputable def impl_BitMake_J14.b {α : Type} (N : Nat) (v434 : Int) (v435 : Int) (v436 : Int) (v437 : Int) (v438 : Bool × Int × Int × Unit) (v439 : Int × Int × Int × Int × Unit) (k0 : Int → (Bool × Int × Int × Unit) → Option α) : Option α :=
  let x440 := (decide ((1 : Int) ≤ v437))
  bif x440 then
    bif (decide (v439.1 < (0 : Int))) then
      none
    else
      let x441 := shlI .i64 v437 v439.1
      let x442 := (IntKind.i64.wrap (v439.1 + (1 : Int)))
      let x443 := IntKind.i64.wrap (x442 - v436)
      bif (decide (x443 < (0 : Int))) then
        none
      else
        let x444 := shlI .u64 v434 x443
        let x445 := IntKind.i64.wrap x444
        bif (decide (v439.1 < (0 : Int))) then
          none
        else
          let x446 := (shlI .i64 (1 : Int) v439.1)
          let x447 := (IntKind.i64.wrap (x446 - (1 : Int)))
          let x448 := bitI .and .i64 x445 x447
          let x449 := bitI .or .i64 x441 x448
          k0 x449 v438
  else
    let x450 := IntKind.i64.wrap (v435 - v439.2.1)
    bif (decide (x450 < (0 : Int))) then
      none
    else
      let x451 := shlI .u64 v434 x450
      let x452 := IntKind.i64.wrap x451
      k0 x452 v438
theorem impl_BitMake_J14.ex : ∃ f : ((α : Type) → Nat → Int → Int → Int → Int → (Bool × Int × Int × Unit) → (Int × Int × Int × Int × Unit) → (Int → (Bool × Int × Int × Unit) → Option α) → Option α), f = fun α => @impl_BitMake_J14.b α := ⟨_, rfl⟩
noncomputable def impl_BitMake_J14 {α : Type} : Nat → Int → Int → Int → Int → (Bool × Int × Int × Unit) → (Int × Int × Int × Int × Unit) → (Int → (Bool × Int × Int × Unit) → Option α) → Option α := Classical.choose impl_BitMake_J14.ex α
theorem impl_BitMake_J14.eq : @impl_BitMake_J14 = @impl_BitMake_J14.b := funext fun α => congrFun (Classical.choose_spec impl_BitMake_J14.ex) α
noncomputable def impl_BitMake_J17.b {α : Type} (N : Nat) (v455 : Int) (v456 : Bool × Int × Int × Unit) (k0 : Int → Option α) : Option α :=
  bif v456.1 then
    let x457 := IntKind.i64.wrap (0 - v455)
    k0 x457
  else
    k0 v455
theorem impl_BitMake_J17.ex : ∃ f : ((α : Type) → Nat → Int → (Bool × Int × Int × Unit) → (Int → Option α) → Option α), f = fun α => @impl_BitMake_J17.b α := ⟨_, rfl⟩
noncomputable def impl_BitMake_J17 {α : Type} : Nat → Int → (Bool × Int × Int × Unit) → (Int → Option α) → Option α := Classical.choose impl_BitMake_J17.ex α
theorem impl_BitMake_J17.eq : @impl_BitMake_J17 = @impl_BitMake_J17.b := funext fun α => congrFun (Classical.choose_spec impl_BitMake_J17.ex) α
/-- loop.example/pinfold/impl.BitMake -/
noncomputable def impl_BitMake.b {α : Type} (N : Nat) (a389 : Int) (a390 : Bool × Int × Int × Unit) (k0 : Int → Bool → Option α) : Option α :=
  impl_formatOf N a389
    (fun x391 x392 =>
      let x393 := !x392
      bif x393 then
        k0 (0 : Int) false
      else
        impl_in N a390.2.2.1 (-2000 : Int) (2000 : Int)
          (fun x394 =>
            let x395 := !x394
            bif x395 then
              k0 (0 : Int) false
            else
              let x396 := (decide (a390.2.1 = (0 : Int)))
              bif x396 then
                k0 (0 : Int) true
              else
                math_bits_TrailingZeros64 N a390.2.1
                  (fun x397 =>
                    bif (decide (x397 < (0 : Int))) then
                      none
                    else
                      let x398 := shrI .u64 a390.2.1 x397
                      let x399 := IntKind.i64.wrap (a390.2.2.1 + x397)
                      math_bits_Len64 N x398
                        (fun x426 =>
                          let x427 := IntKind.i64.wrap (x399 + x426)
                          let x428 := (IntKind.i64.wrap (x427 - (1 : Int)))
                          let x429 := (IntKind.i64.wrap (x391.1 + (1 : Int)))
                          let x430 := decide (x429 < x426)
                          bif x430 then
                            k0 (0 : Int) false
                          else
                            let x431 := decide (x399 < x391.2.1)
                            bif x431 then
                              k0 (0 : Int) false
                            else
                              let x432 := decide (x391.2.2.1 < x428)
                              bif x432 then
                                k0 (0 : Int) false
                              else
                                let x433 := IntKind.i64.wrap (x428 + x391.2.2.1)
                                impl_BitMake_J14 N x398 x399 x426 x433 a390 x391
                                  (fun x453 x454 =>
                                    impl_BitMake_J17 N x453 x454
                                      (fun x458 =>
                                        k0 x458 true))))))
theorem impl_BitMake.ex : ∃ f : ((α : Type) → Nat → Int → (Bool × Int × Int × Unit) → (Int → Bool → Option α) → Option α), f = fun α => @impl_BitMake.b α := ⟨_, rfl⟩
noncomputable def impl_BitMake {α : Type} : Nat → Int → (Bool × Int × Int × Unit) → (Int → Bool → Option α) → Option α := Classical.choose impl_BitMake.ex α
theorem impl_BitMake.eq : @impl_BitMake = @impl_BitMake.b := funext fun α => congrFun (Classical.choose_spec impl_BitMake.ex) α

/-- loop.example/pinfold/impl.widen -/
noncomputable def impl_widen.b {α : Type} (N : Nat) (a360 : Int) (k0 : Int → Option α) : Option α :=
  impl_BitPartOf N (32 : Int) a360
    (fun x387 x388 =>
      bif x388 then
        impl_BitMake N (64 : Int) x387
          (fun x459 _ =>
            k0 x459)
      else
        let x461 := (decide (a360 < (0 : Int)))
        bif x461 then
          impl_BitTop N (64 : Int)
            (fun x462 =>
              let x463 := IntKind.i64.wrap (0 - x462)
              k0 x463)
        else
          impl_BitTop N (64 : Int)
            (fun x464 =>
              k0 x464))
theorem impl_widen.ex : ∃ f : ((α : Type) → Nat → Int → (Int → Option α) → Option α), f = fun α => @impl_widen.b α := ⟨_, rfl⟩
noncomputable def impl_widen {α : Type} : Nat → Int → (Int → Option α) → Option α := Classical.choose impl_widen.ex α
theorem impl_widen.eq : @impl_widen = @impl_widen.b := funext fun α => congrFun (Classical.choose_spec impl_widen.ex) α

noncomputable def impl_BitBelow_J6.b {α : Type} (N : Nat) (v356 : Int) (v357 : Int) (v358 : Int) (v359 : Int) (k0 : Int → Int → Int → Option α) : Option α :=
  impl_widen N v359
    (fun x465 =>
      let x466 := decide (x465 ≤ v356)
      bif x466 then
        k0 v356 v359 v358
      else
        let x467 := (IntKind.i64.wrap (v359 - (1 : Int)))
        k0 v356 v357 x467)
theorem impl_BitBelow_J6.ex : ∃ f : ((α : Type) → Nat → Int → Int → Int → Int → (Int → Int → Int → Option α) → Option α), f = fun α => @impl_BitBelow_J6.b α := ⟨_, rfl⟩
noncomputable def impl_BitBelow_J6 {α : Type} : Nat → Int → Int → Int → Int → (Int → Int → Int → Option α) → Option α := Classical.choose impl_BitBelow_J6.ex α
theorem impl_BitBelow_J6.eq : @impl_BitBelow_J6 = @impl_BitBelow_J6.b := funext fun α => congrFun (Classical.choose_spec impl_BitBelow_J6.ex) α
noncomputable def impl_BitBelow_L0r {α : Type} (N : Nat) (next : Int → Int → Int → Option α) (k0 : Int → Option α) (v348 : Int) (v349 : Int) (v350 : Int) : Option α :=
  let x351 := decide (v349 < v350)
  bif x351 then
    let x352 := IntKind.i64.wrap (v350 - v349)
    let x353 := (IntKind.i64.wrap (x352 + (1 : Int)))
    let x354 := (IntKind.i64.wrap (Int.tdiv x353 (2 : Int)))
    let x355 := IntKind.i64.wrap (v349 + x354)
    impl_BitBelow_J6 N v348 v349 v350 x355
      (fun x468 x469 x470 =>
        next x468 x469 x470)
  else
    k0 v349
noncomputable def impl_BitBelow_L0.b {α : Type} (N n : Nat) (v348 : Int) (v349 : Int) (v350 : Int) (k0 : Int → Option α) : Option α :=
  Nat.rec (motive := fun _ => Int → Int → Int → Option α) (fun _ _ _ => none) (fun _ next => impl_BitBelow_L0r N next k0) n v348 v349 v350
theorem impl_BitBelow_L0.ex : ∃ f : ((α : Type) → Nat → Nat → Int → Int → Int → (Int → Option α) → Option α), f = fun α => @impl_BitBelow_L0.b α := ⟨_, rfl⟩
noncomputable def impl_BitBelow_L0 {α : Type} : Nat → Nat → Int → Int → Int → (Int → Option α) → Option α := Classical.choose impl_BitBelow_L0.ex α
theorem impl_BitBelow_L0.eq : @impl_BitBelow_L0 = @impl_BitBelow_L0.b := funext fun α => congrFun (Classical.choose_spec impl_BitBelow_L0.ex) α
theorem impl_BitBelow_L0.zero {α : Type} (N : Nat) (v348 : Int) (v349 : Int) (v350 : Int) (k0 : Int → Option α) : impl_BitBelow_L0 N 0 v348 v349 v350 k0 = none := by rw [impl_BitBelow_L0.eq]; rfl
theorem impl_BitBelow_L0.succ {α : Type} (N n : Nat) (v348 : Int) (v349 : Int) (v350 : Int) (k0 : Int → Option α) : impl_BitBelow_L0 N (n + 1) v348 v349 v350 k0 = impl_BitBelow_L0r N (fun y0 y1 y2 => impl_BitBelow_L0 N n y0 y1 y2 k0) k0 v348 v349 v350 := by rw [impl_BitBelow_L0.eq]; rfl
/-- loop.example/pinfold/impl.BitBelow -/
noncomputable def impl_BitBelow.b {α : Type} (N : Nat) (a325 : Int) (k0 : Int → Bool → Option α) : Option α :=
  impl_BitOk N (64 : Int) a325
    (fun x340 =>
      let x341 := !x340
      bif x341 then
        k0 (0 : Int) false
      else
        impl_BitTop N (32 : Int)
          (fun x345 =>
            let x346 := IntKind.i64.wrap (0 - x345)
            impl_BitTop N (32 : Int)
              (fun x347 =>
                impl_BitBelow_L0 N N a325 x346 x347
                  (fun x471 =>
                    k0 x471 true))))
theorem impl_BitBelow.ex : ∃ f : ((α : Type) → Nat → Int → (Int → Bool → Option α) → Option α), f = fun α => @impl_BitBelow.b α := ⟨_, rfl⟩
noncomputable def impl_BitBelow {α : Type} : Nat → Int → (Int → Bool → Option α) → Option α := Classical.choose impl_BitBelow.ex α
theorem impl_BitBelow.eq : @impl_BitBelow = @impl_BitBelow.b := funext fun α => congrFun (Classical.choose_spec impl_BitBelow.ex) α

/-- loop.example/pinfold/impl.BitAbove -/
noncomputable def impl_BitAbove.b {α : Type} (N : Nat) (a474 : Int) (k0 : Int → Bool → Option α) : Option α :=
  let x475 := IntKind.i64.wrap (0 - a474)
  impl_BitBelow N x475
    (fun x476 x477 =>
      let x478 := IntKind.i64.wrap (0 - x476)
      k0 x478 x477)
theorem impl_BitAbove.ex : ∃ f : ((α : Type) → Nat → Int → (Int → Bool → Option α) → Option α), f = fun α => @impl_BitAbove.b α := ⟨_, rfl⟩
noncomputable def impl_BitAbove {α : Type} : Nat → Int → (Int → Bool → Option α) → Option α := Classical.choose impl_BitAbove.ex α
theorem impl_BitAbove.eq : @impl_BitAbove = @impl_BitAbove.b := funext fun α => congrFun (Classical.choose_spec impl_BitAbove.ex) α

/-- loop.example/pinfold/impl.BitWiden -/
noncomputable def impl_BitWiden.b {α : Type} (N : Nat) (a490 : Int) (k0 : Int → Bool → Option α) : Option α :=
  impl_BitOk N (32 : Int) a490
    (fun x491 =>
      let x492 := !x491
      bif x492 then
        k0 (0 : Int) false
      else
        impl_widen N a490
          (fun x493 =>
            k0 x493 true))
theorem impl_BitWiden.ex : ∃ f : ((α : Type) → Nat → Int → (Int → Bool → Option α) → Option α), f = fun α => @impl_BitWiden.b α := ⟨_, rfl⟩
noncomputable def impl_BitWiden {α : Type} : Nat → Int → (Int → Bool → Option α) → Option α := Classical.choose impl_BitWiden.ex α
theorem impl_BitWiden.eq : @impl_BitWiden = @impl_BitWiden.b := funext fun α => congrFun (Classical.choose_spec impl_BitWiden.ex) α

/-- loop.example/pinfold/spec.DrawBitWiden -/
noncomputable def spec_DrawBitWiden.b {α : Type} (N : Nat) (a513 : List Int) (k0 : Int → Option α) : Option α :=
  spec_l31Open N a513
    (fun x514 =>
      spec_l31Rd_ord N (32 : Int) x514
        (fun x515 _ =>
          k0 x515))
theorem spec_DrawBitWiden.ex : ∃ f : ((α : Type) → Nat → List Int → (Int → Option α) → Option α), f = fun α => @spec_DrawBitWiden.b α := ⟨_, rfl⟩
noncomputable def spec_DrawBitWiden {α : Type} : Nat → List Int → (Int → Option α) → Option α := Classical.choose spec_DrawBitWiden.ex α
theorem spec_DrawBitWiden.eq : @spec_DrawBitWiden = @spec_DrawBitWiden.b := funext fun α => congrFun (Classical.choose_spec spec_DrawBitWiden.ex) α

noncomputable def laws_FnBitCross_J8.b {α : Type} (N : Nat) (v484 : List Int) (v485 : List Int) (v486 : Int) (v487 : Int) (v488 : Bool) (v489 : Int) (k0 : Bool → Option α) (k1 : List Int → List Int → Option α) : Option α :=
  bif v488 then
    impl_BitWiden N v487
      (fun x494 x495 =>
        impl_BitWiden N v489
          (fun x496 x497 =>
            let x498 := !x495
            bif x498 then
              k0 false
            else
              let x499 := !x497
              bif x499 then
                k0 false
              else
                let x500 := decide (v486 < x494)
                bif x500 then
                  k0 false
                else
                  let x501 := decide (x496 < v486)
                  bif x501 then
                    k0 false
                  else
                    let x502 := decide (x494 = v486)
                    bif x502 then
                      let x503 := !(decide (v487 = v489))
                      bif x503 then
                        k0 false
                      else
                        let x504 := IntKind.i64.wrap (v489 - v487)
                        let x505 := (decide ((1 : Int) < x504))
                        bif x505 then
                          k0 false
                        else
                          let x506 := decide (v489 < v487)
                          bif x506 then
                            k0 false
                          else
                            k1 v484 v485
                    else
                      let x507 := IntKind.i64.wrap (v489 - v487)
                      let x508 := (decide ((1 : Int) < x507))
                      bif x508 then
                        k0 false
                      else
                        let x509 := decide (v489 < v487)
                        bif x509 then
                          k0 false
                        else
                          k1 v484 v485))
  else
    k1 v484 v485
theorem laws_FnBitCross_J8.ex : ∃ f : ((α : Type) → Nat → List Int → List Int → Int → Int → Bool → Int → (Bool → Option α) → (List Int → List Int → Option α) → Option α), f = fun α => @laws_FnBitCross_J8.b α := ⟨_, rfl⟩
noncomputable def laws_FnBitCross_J8 {α : Type} : Nat → List Int → List Int → Int → Int → Bool → Int → (Bool → Option α) → (List Int → List Int → Option α) → Option α := Classical.choose laws_FnBitCross_J8.ex α
theorem laws_FnBitCross_J8.eq : @laws_FnBitCross_J8 = @laws_FnBitCross_J8.b := funext fun α => congrFun (Classical.choose_spec laws_FnBitCross_J8.ex) α
noncomputable def laws_FnBitCross_J19.b {α : Type} (N : Nat) (v527 : Int) (v528 : Int) (v529 : Int) (v530 : Bool) (v531 : Int) (v532 : Bool) (k0 : Bool → Option α) (k1 : Int → Int → Int → Bool → Int → Bool → Option α) : Option α :=
  bif v530 then
    impl_BitBelow N v529
      (fun x533 x534 =>
        impl_BitAbove N v529
          (fun x535 x536 =>
            let x537 := !x534
            bif x537 then
              k0 false
            else
              let x538 := !x536
              bif x538 then
                k0 false
              else
                let x539 := !(decide (x533 = v527))
                bif x539 then
                  k0 false
                else
                  let x540 := !(decide (x535 = v527))
                  bif x540 then
                    k0 false
                  else
                    k1 v527 v528 v529 v530 v531 v532))
  else
    k1 v527 v528 v529 v530 v531 v532
theorem laws_FnBitCross_J19.ex : ∃ f : ((α : Type) → Nat → Int → Int → Int → Bool → Int → Bool → (Bool → Option α) → (Int → Int → Int → Bool → Int → Bool → Option α) → Option α), f = fun α => @laws_FnBitCross_J19.b α := ⟨_, rfl⟩
noncomputable def laws_FnBitCross_J19 {α : Type} : Nat → Int → Int → Int → Bool → Int → Bool → (Bool → Option α) → (Int → Int → Int → Bool → Int → Bool → Option α) → Option α := Classical.choose laws_FnBitCross_J19.ex α
theorem laws_FnBitCross_J19.eq : @laws_FnBitCross_J19 = @laws_FnBitCross_J19.b := funext fun α => congrFun (Classical.choose_spec laws_FnBitCross_J19.ex) α
/-- loop.example/pinfold/laws.FnBitCross -/
noncomputable def laws_FnBitCross.b {α : Type} (N : Nat) (a1 : List Int) (a2 : List Int) (k0 : Bool → Option α) : Option α :=
  let x3 := ((a1.length : Nat) : Int)
  let x4 := (decide ((1048576 : Int) < x3))
  bif x4 then
    k0 true
  else
    let x5 := ((a2.length : Nat) : Int)
    let x6 := (decide ((1048576 : Int) < x5))
    bif x6 then
      k0 true
    else
      spec_DrawBitBelow N a1
        (fun x324 =>
          impl_BitBelow N x324
            (fun x472 x473 =>
              impl_BitAbove N x324
                (fun x479 x480 =>
                  spec_BitOk N (64 : Int) x324
                    (fun x481 =>
                      let x482 := !(x473 == x481)
                      bif x482 then
                        k0 false
                      else
                        let x483 := !(x480 == x473)
                        bif x483 then
                          k0 false
                        else
                          laws_FnBitCross_J8 N a1 a2 x324 x472 x473 x479
                            (fun x510 =>
                              k0 x510)
                            (fun x511 x512 =>
                              spec_DrawBitWiden N x511
                                (fun x517 =>
                                  spec_DrawBitWiden N x512
                                    (fun x518 =>
                                      impl_BitWiden N x517
                                        (fun x519 x520 =>
                                          impl_BitWiden N x518
                                            (fun x521 x522 =>
                                              spec_BitOk N (32 : Int) x517
                                                (fun x523 =>
                                                  let x524 := !(x520 == x523)
                                                  bif x524 then
                                                    k0 false
                                                  else
                                                    spec_BitOk N (32 : Int) x518
                                                      (fun x525 =>
                                                        let x526 := !(x522 == x525)
                                                        bif x526 then
                                                          k0 false
                                                        else
                                                          laws_FnBitCross_J19 N x517 x518 x519 x520 x521 x522
                                                            (fun x541 =>
                                                              k0 x541)
                                                            (fun x542 x543 x544 x545 x546 x547 =>
                                                              let x548 := !x545
                                                              bif x548 then
                                                                k0 true
                                                              else
                                                                let x549 := !x547
                                                                bif x549 then
                                                                  k0 true
                                                                else
                                                                  let x550 := decide (x542 < x543)
                                                                  let x551 := decide (x544 < x546)
                                                                  let x552 := x550 == x551
                                                                  k0 x552))))))))))))
theorem laws_FnBitCross.ex : ∃ f : ((α : Type) → Nat → List Int → List Int → (Bool → Option α) → Option α), f = fun α => @laws_FnBitCross.b α := ⟨_, rfl⟩
noncomputable def laws_FnBitCross {α : Type} : Nat → List Int → List Int → (Bool → Option α) → Option α := Classical.choose laws_FnBitCross.ex α
theorem laws_FnBitCross.eq : @laws_FnBitCross = @laws_FnBitCross.b := funext fun α => congrFun (Classical.choose_spec laws_FnBitCross.ex) α

end
end Go.Proofs.YtbaeipjjijdgiaaDoorAm
