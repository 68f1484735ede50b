/-
  The functions that the program computes, as the abstract machine tells them. Printed by amp.py.
-/
import Derived.Test.YtbaeipjjijdgiaaDoorAmc
namespace Go.Proofs.YtbaeipjjijdgiaaDoorAm
open Go
noncomputable section
set_option linter.unusedVariables false
set_option linter.unusedSimpArgs false

/-- loop.example/pinfold/laws.toPair -/
noncomputable def laws_toPair.b {α : Type} (N : Nat) (a2 : Int × Int × Unit) (k0 : (Int × Int × Unit) → Option α) : Option α :=
  k0 (a2.1, (a2.2.1, ()))
theorem laws_toPair.ex : ∃ f : ((α : Type) → Nat → (Int × Int × Unit) → ((Int × Int × Unit) → Option α) → Option α), f = fun α => @laws_toPair.b α := ⟨_, rfl⟩
noncomputable def laws_toPair {α : Type} : Nat → (Int × Int × Unit) → ((Int × Int × Unit) → Option α) → Option α := Classical.choose laws_toPair.ex α
theorem laws_toPair.eq : @laws_toPair = @laws_toPair.b := funext fun α => congrFun (Classical.choose_spec laws_toPair.ex) α

/-- loop.example/pinfold/spec.BitTop -/
noncomputable def spec_BitTop.b {α : Type} (N : Nat) (a7 : Int) (k0 : Int → Option α) : Option α :=
  let x8 := (decide (a7 = (32 : Int)))
  bif x8 then
    k0 (2139095040 : Int)
  else
    let x9 := (decide (a7 = (64 : Int)))
    bif x9 then
      k0 (9218868437227405312 : Int)
    else
      k0 (0 : Int)
theorem spec_BitTop.ex : ∃ f : ((α : Type) → Nat → Int → (Int → Option α) → Option α), f = fun α => @spec_BitTop.b α := ⟨_, rfl⟩
noncomputable def spec_BitTop {α : Type} : Nat → Int → (Int → Option α) → Option α := Classical.choose spec_BitTop.ex α
theorem spec_BitTop.eq : @spec_BitTop = @spec_BitTop.b := funext fun α => congrFun (Classical.choose_spec spec_BitTop.ex) α

/-- loop.example/pinfold/spec.l1Width -/
noncomputable def spec_l1Width.b {α : Type} (N : Nat) (a13 : Int) (k0 : Bool → Option α) : Option α :=
  let x14 := (decide (a13 = (32 : Int)))
  bif x14 then
    k0 true
  else
    let x15 := (decide (a13 = (64 : Int)))
    k0 x15
theorem spec_l1Width.ex : ∃ f : ((α : Type) → Nat → Int → (Bool → Option α) → Option α), f = fun α => @spec_l1Width.b α := ⟨_, rfl⟩
noncomputable def spec_l1Width {α : Type} : Nat → Int → (Bool → Option α) → Option α := Classical.choose spec_l1Width.ex α
theorem spec_l1Width.eq : @spec_l1Width = @spec_l1Width.b := funext fun α => congrFun (Classical.choose_spec spec_l1Width.ex) α

/-- loop.example/pinfold/spec.BitOk -/
noncomputable def spec_BitOk.b {α : Type} (N : Nat) (a11 : Int) (a12 : Int) (k0 : Bool → Option α) : Option α :=
  spec_l1Width N a11
    (fun x16 =>
      bif x16 then
        spec_BitTop N a11
          (fun x17 =>
            let x18 := IntKind.i64.wrap (0 - x17)
            let x19 := decide (x18 ≤ a12)
            bif x19 then
              spec_BitTop N a11
                (fun x20 =>
                  let x21 := decide (a12 ≤ x20)
                  k0 x21)
            else
              k0 false)
      else
        k0 false)
theorem spec_BitOk.ex : ∃ f : ((α : Type) → Nat → Int → Int → (Bool → Option α) → Option α), f = fun α => @spec_BitOk.b α := ⟨_, rfl⟩
noncomputable def spec_BitOk {α : Type} : Nat → Int → Int → (Bool → Option α) → Option α := Classical.choose spec_BitOk.ex α
theorem spec_BitOk.eq : @spec_BitOk = @spec_BitOk.b := funext fun α => congrFun (Classical.choose_spec spec_BitOk.ex) α

/-- loop.example/pinfold/spec.PairOk -/
noncomputable def spec_PairOk.b {α : Type} (N : Nat) (a5 : Int) (a6 : Int × Int × Unit) (k0 : Bool → Option α) : Option α :=
  spec_BitTop N a5
    (fun x10 =>
      spec_BitOk N a5 a6.1
        (fun x22 =>
          bif x22 then
            spec_BitOk N a5 a6.2.1
              (fun x23 =>
                bif x23 then
                  let x24 := decide (a6.1 ≤ a6.2.1)
                  bif x24 then
                    let x25 := decide (a6.1 < x10)
                    bif x25 then
                      let x26 := IntKind.i64.wrap (0 - x10)
                      let x27 := decide (x26 < a6.2.1)
                      k0 x27
                    else
                      k0 false
                  else
                    k0 false
                else
                  k0 false)
          else
            k0 false))
theorem spec_PairOk.ex : ∃ f : ((α : Type) → Nat → Int → (Int × Int × Unit) → (Bool → Option α) → Option α), f = fun α => @spec_PairOk.b α := ⟨_, rfl⟩
noncomputable def spec_PairOk {α : Type} : Nat → Int → (Int × Int × Unit) → (Bool → Option α) → Option α := Classical.choose spec_PairOk.ex α
theorem spec_PairOk.eq : @spec_PairOk = @spec_PairOk.b := funext fun α => congrFun (Classical.choose_spec spec_PairOk.ex) α

/-- loop.example/pinfold/spec.l1Least -/
noncomputable def spec_l1Least.b {α : Type} (N : Nat) (a61 : Int) (k0 : Int → Option α) : Option α :=
  let x62 := (decide (a61 = (32 : Int)))
  bif x62 then
    k0 (-149 : Int)
  else
    k0 (-1074 : Int)
theorem spec_l1Least.ex : ∃ f : ((α : Type) → Nat → Int → (Int → Option α) → Option α), f = fun α => @spec_l1Least.b α := ⟨_, rfl⟩
noncomputable def spec_l1Least {α : Type} : Nat → Int → (Int → Option α) → Option α := Classical.choose spec_l1Least.ex α
theorem spec_l1Least.eq : @spec_l1Least = @spec_l1Least.b := funext fun α => congrFun (Classical.choose_spec spec_l1Least.ex) α

/-- loop.example/pinfold/spec.l1Frac -/
noncomputable def spec_l1Frac.b {α : Type} (N : Nat) (a74 : Int) (k0 : Int → Option α) : Option α :=
  let x75 := (decide (a74 = (32 : Int)))
  bif x75 then
    k0 (23 : Int)
  else
    k0 (52 : Int)
theorem spec_l1Frac.ex : ∃ f : ((α : Type) → Nat → Int → (Int → Option α) → Option α), f = fun α => @spec_l1Frac.b α := ⟨_, rfl⟩
noncomputable def spec_l1Frac {α : Type} : Nat → Int → (Int → Option α) → Option α := Classical.choose spec_l1Frac.ex α
theorem spec_l1Frac.eq : @spec_l1Frac = @spec_l1Frac.b := funext fun α => congrFun (Classical.choose_spec spec_l1Frac.ex) α

noncomputable def spec_BitPartOf_J5.b {α : Type} (N : Nat) (v64 : Int) (v65 : Int) (v66 : Bool × Int × Int × Unit) (v67 : Bool × Int × Int × Unit) (k0 : Int → Int → (Bool × Int × Int × Unit) → (Bool × Int × Int × Unit) → Option α) : Option α :=
  let x68 := (decide (v65 < (0 : Int)))
  bif x68 then
    let x69 := IntKind.i64.wrap (0 - v65)
    k0 v64 x69 v66 v67
  else
    k0 v64 v65 v66 v67
theorem spec_BitPartOf_J5.ex : ∃ f : ((α : Type) → Nat → Int → Int → (Bool × Int × Int × Unit) → (Bool × Int × Int × Unit) → (Int → Int → (Bool × Int × Int × Unit) → (Bool × Int × Int × Unit) → Option α) → Option α), f = fun α => @spec_BitPartOf_J5.b α := ⟨_, rfl⟩
noncomputable def spec_BitPartOf_J5 {α : Type} : Nat → Int → Int → (Bool × Int × Int × Unit) → (Bool × Int × Int × Unit) → (Int → Int → (Bool × Int × Int × Unit) → (Bool × Int × Int × Unit) → Option α) → Option α := Classical.choose spec_BitPartOf_J5.ex α
theorem spec_BitPartOf_J5.eq : @spec_BitPartOf_J5 = @spec_BitPartOf_J5.b := funext fun α => congrFun (Classical.choose_spec spec_BitPartOf_J5.ex) α
noncomputable def spec_BitPartOf_J10.b {α : Type} (N : Nat) (v82 : Int) (v83 : Int) (v84 : Bool × Int × Int × Unit) (v85 : Bool × Int × Int × Unit) (k0 : (Bool × Int × Int × Unit) → (Bool × Int × Int × Unit) → Option α) : Option α :=
  let x86 := (decide ((0 : Int) < v83))
  bif x86 then
    let x87 := IntKind.u64.wrap v82
    let x88 := IntKind.u64.wrap (v85.2.1 + x87)
    let x89 := IntKind.i64.wrap (v85.2.2.1 + v83)
    let x90 := (IntKind.i64.wrap (x89 - (1 : Int)))
    k0 v84 (v85.1, (x88, (x90, ())))
  else
    k0 v84 v85
theorem spec_BitPartOf_J10.ex : ∃ f : ((α : Type) → Nat → Int → Int → (Bool × Int × Int × Unit) → (Bool × Int × Int × Unit) → ((Bool × Int × Int × Unit) → (Bool × Int × Int × Unit) → Option α) → Option α), f = fun α => @spec_BitPartOf_J10.b α := ⟨_, rfl⟩
noncomputable def spec_BitPartOf_J10 {α : Type} : Nat → Int → Int → (Bool × Int × Int × Unit) → (Bool × Int × Int × Unit) → ((Bool × Int × Int × Unit) → (Bool × Int × Int × Unit) → Option α) → Option α := Classical.choose spec_BitPartOf_J10.ex α
theorem spec_BitPartOf_J10.eq : @spec_BitPartOf_J10 = @spec_BitPartOf_J10.b := funext fun α => congrFun (Classical.choose_spec spec_BitPartOf_J10.ex) α
/-- loop.example/pinfold/spec.BitPartOf -/
noncomputable def spec_BitPartOf.b {α : Type} (N : Nat) (a51 : Int) (a52 : Int) (k0 : (Bool × Int × Int × Unit) → Bool → Option α) : Option α :=
  spec_BitOk N a51 a52
    (fun x53 =>
      let x54 := !x53
      bif x54 then
        k0 (false, ((0 : Int), ((0 : Int), ()))) false
      else
        spec_BitTop N a51
          (fun x55 =>
            let x56 := decide (a52 = x55)
            bif x56 then
              k0 (false, ((0 : Int), ((0 : Int), ()))) false
            else
              spec_BitTop N a51
                (fun x57 =>
                  let x58 := IntKind.i64.wrap (0 - x57)
                  let x59 := decide (a52 = x58)
                  bif x59 then
                    k0 (false, ((0 : Int), ((0 : Int), ()))) false
                  else
                    let x60 := (decide (a52 < (0 : Int)))
                    spec_l1Least N a51
                      (fun x63 =>
                        spec_BitPartOf_J5 N a51 a52 (false, ((0 : Int), ((0 : Int), ()))) (x60, ((0 : Int), (x63, ())))
                          (fun x70 x71 x72 x73 =>
                            spec_l1Frac N x70
                              (fun x76 =>
                                let x77 := IntKind.u64.wrap x76
                                bif (decide (x77 < (0 : Int))) then
                                  none
                                else
                                  let x78 := (shlI .i64 (1 : Int) x77)
                                  bif (decide (x78 = (0 : Int))) then
                                    none
                                  else
                                    let x79 := IntKind.i64.wrap (Int.tdiv x71 x78)
                                    bif (decide (x78 = (0 : Int))) then
                                      none
                                    else
                                      let x80 := Int.tmod x71 x78
                                      let x81 := IntKind.u64.wrap x80
                                      spec_BitPartOf_J10 N x78 x79 x72 (x73.1, (x81, (x73.2.2.1, ())))
                                        (fun _ x92 =>
                                          k0 x92 true)))))))
theorem spec_BitPartOf.ex : ∃ f : ((α : Type) → Nat → Int → Int → ((Bool × Int × Int × Unit) → Bool → Option α) → Option α), f = fun α => @spec_BitPartOf.b α := ⟨_, rfl⟩
noncomputable def spec_BitPartOf {α : Type} : Nat → Int → Int → ((Bool × Int × Int × Unit) → Bool → Option α) → Option α := Classical.choose spec_BitPartOf.ex α
theorem spec_BitPartOf.eq : @spec_BitPartOf = @spec_BitPartOf.b := funext fun α => congrFun (Classical.choose_spec spec_BitPartOf.ex) α

noncomputable def spec_BitMake_L0r {α : Type} (N : Nat) (next : Int → Int → Int → Int → (Bool × Int × Int × Unit) → Option α) (k0 : Int → Int → Int → Int → (Bool × Int × Int × Unit) → Option α) (v110 : Int) (v111 : Int) (v112 : Int) (v113 : Int) (v114 : Bool × Int × Int × Unit) : Option α :=
  let x115 := (Int.tmod v111 (2 : Int))
  let x116 := (decide (x115 = (0 : Int)))
  bif x116 then
    let x117 := (IntKind.u64.wrap ((2 : Int) * v113))
    let x118 := decide (x117 ≤ v111)
    bif x118 then
      let x119 := (IntKind.u64.wrap (Int.tdiv v111 (2 : Int)))
      let x120 := (IntKind.i64.wrap (v112 + (1 : Int)))
      next v110 x119 x120 v113 v114
    else
      spec_l1Least N v110
        (fun x121 =>
          let x122 := decide (v112 < x121)
          bif x122 then
            let x123 := (IntKind.u64.wrap (Int.tdiv v111 (2 : Int)))
            let x124 := (IntKind.i64.wrap (v112 + (1 : Int)))
            next v110 x123 x124 v113 v114
          else
            k0 v110 v111 v112 v113 v114)
  else
    k0 v110 v111 v112 v113 v114
noncomputable def spec_BitMake_L0.b {α : Type} (N n : Nat) (v110 : Int) (v111 : Int) (v112 : Int) (v113 : Int) (v114 : Bool × Int × Int × Unit) (k0 : Int → Int → Int → Int → (Bool × Int × Int × Unit) → Option α) : Option α :=
  Nat.rec (motive := fun _ => Int → Int → Int → Int → (Bool × Int × Int × Unit) → Option α) (fun _ _ _ _ _ => none) (fun _ next => spec_BitMake_L0r N next k0) n v110 v111 v112 v113 v114
theorem spec_BitMake_L0.ex : ∃ f : ((α : Type) → Nat → Nat → Int → Int → Int → Int → (Bool × Int × Int × Unit) → (Int → Int → Int → Int → (Bool × Int × Int × Unit) → Option α) → Option α), f = fun α => @spec_BitMake_L0.b α := ⟨_, rfl⟩
noncomputable def spec_BitMake_L0 {α : Type} : Nat → Nat → Int → Int → Int → Int → (Bool × Int × Int × Unit) → (Int → Int → Int → Int → (Bool × Int × Int × Unit) → Option α) → Option α := Classical.choose spec_BitMake_L0.ex α
theorem spec_BitMake_L0.eq : @spec_BitMake_L0 = @spec_BitMake_L0.b := funext fun α => congrFun (Classical.choose_spec spec_BitMake_L0.ex) α
theorem spec_BitMake_L0.zero {α : Type} (N : Nat) (v110 : Int) (v111 : Int) (v112 : Int) (v113 : Int) (v114 : Bool × Int × Int × Unit) (k0 : Int → Int → Int → Int → (Bool × Int × Int × Unit) → Option α) : spec_BitMake_L0 N 0 v110 v111 v112 v113 v114 k0 = none := by rw [spec_BitMake_L0.eq]; rfl
theorem spec_BitMake_L0.succ {α : Type} (N n : Nat) (v110 : Int) (v111 : Int) (v112 : Int) (v113 : Int) (v114 : Bool × Int × Int × Unit) (k0 : Int → Int → Int → Int → (Bool × Int × Int × Unit) → Option α) : spec_BitMake_L0 N (n + 1) v110 v111 v112 v113 v114 k0 = spec_BitMake_L0r N (fun y0 y1 y2 y3 y4 => spec_BitMake_L0 N n y0 y1 y2 y3 y4 k0) k0 v110 v111 v112 v113 v114 := by rw [spec_BitMake_L0.eq]; rfl
noncomputable def spec_BitMake_L2r {α : Type} (N : Nat) (next : Int → Int → Int → Int → (Bool × Int × Int × Unit) → Option α) (k0 : Int → Int → Int → Int → (Bool × Int × Int × Unit) → Option α) (v130 : Int) (v131 : Int) (v132 : Int) (v133 : Int) (v134 : Bool × Int × Int × Unit) : Option α :=
  let x135 := decide (v131 < v133)
  bif x135 then
    spec_l1Least N v130
      (fun x136 =>
        let x137 := decide (x136 < v132)
        bif x137 then
          let x138 := (IntKind.u64.wrap (v131 * (2 : Int)))
          let x139 := (IntKind.i64.wrap (v132 - (1 : Int)))
          next v130 x138 x139 v133 v134
        else
          k0 v130 v131 v132 v133 v134)
  else
    k0 v130 v131 v132 v133 v134
noncomputable def spec_BitMake_L2.b {α : Type} (N n : Nat) (v130 : Int) (v131 : Int) (v132 : Int) (v133 : Int) (v134 : Bool × Int × Int × Unit) (k0 : Int → Int → Int → Int → (Bool × Int × Int × Unit) → Option α) : Option α :=
  Nat.rec (motive := fun _ => Int → Int → Int → Int → (Bool × Int × Int × Unit) → Option α) (fun _ _ _ _ _ => none) (fun _ next => spec_BitMake_L2r N next k0) n v130 v131 v132 v133 v134
theorem spec_BitMake_L2.ex : ∃ f : ((α : Type) → Nat → Nat → Int → Int → Int → Int → (Bool × Int × Int × Unit) → (Int → Int → Int → Int → (Bool × Int × Int × Unit) → Option α) → Option α), f = fun α => @spec_BitMake_L2.b α := ⟨_, rfl⟩
noncomputable def spec_BitMake_L2 {α : Type} : Nat → Nat → Int → Int → Int → Int → (Bool × Int × Int × Unit) → (Int → Int → Int → Int → (Bool × Int × Int × Unit) → Option α) → Option α := Classical.choose spec_BitMake_L2.ex α
theorem spec_BitMake_L2.eq : @spec_BitMake_L2 = @spec_BitMake_L2.b := funext fun α => congrFun (Classical.choose_spec spec_BitMake_L2.ex) α
theorem spec_BitMake_L2.zero {α : Type} (N : Nat) (v130 : Int) (v131 : Int) (v132 : Int) (v133 : Int) (v134 : Bool × Int × Int × Unit) (k0 : Int → Int → Int → Int → (Bool × Int × Int × Unit) → Option α) : spec_BitMake_L2 N 0 v130 v131 v132 v133 v134 k0 = none := by rw [spec_BitMake_L2.eq]; rfl
theorem spec_BitMake_L2.succ {α : Type} (N n : Nat) (v130 : Int) (v131 : Int) (v132 : Int) (v133 : Int) (v134 : Bool × Int × Int × Unit) (k0 : Int → Int → Int → Int → (Bool × Int × Int × Unit) → Option α) : spec_BitMake_L2 N (n + 1) v130 v131 v132 v133 v134 k0 = spec_BitMake_L2r N (fun y0 y1 y2 y3 y4 => spec_BitMake_L2 N n y0 y1 y2 y3 y4 k0) k0 v130 v131 v132 v133 v134 := by rw [spec_BitMake_L2.eq]; rfl
noncomputable def spec_BitMake_J17.b {α : Type} (N : Nat) (v150 : Int) (v151 : Int) (v152 : Int) (v153 : Int) (v154 : Int) (v155 : Bool × Int × Int × Unit) (k0 : Int → Bool → Option α) (k1 : Int → (Bool × Int × Int × Unit) → Option α) : Option α :=
  let x156 := decide (v153 ≤ v151)
  bif x156 then
    spec_l1Least N v150
      (fun x157 =>
        let x158 := IntKind.i64.wrap (v152 - x157)
        let x159 := (IntKind.i64.wrap (x158 + (1 : Int)))
        spec_BitTop N v150
          (fun x160 =>
            let x161 := IntKind.i64.wrap v153
            bif (decide (x161 = (0 : Int))) then
              none
            else
              let x162 := IntKind.i64.wrap (Int.tdiv x160 x161)
              let x163 := (IntKind.i64.wrap (x162 - (1 : Int)))
              let x164 := decide (x163 < x159)
              bif x164 then
                k0 (0 : Int) false
              else
                let x165 := IntKind.i64.wrap v153
                let x166 := IntKind.i64.wrap (x159 * x165)
                let x167 := IntKind.u64.wrap (v151 - v153)
                let x168 := IntKind.i64.wrap x167
                let x169 := IntKind.i64.wrap (x166 + x168)
                k1 x169 v155))
  else
    k1 v154 v155
theorem spec_BitMake_J17.ex : ∃ f : ((α : Type) → Nat → Int → Int → Int → Int → Int → (Bool × Int × Int × Unit) → (Int → Bool → Option α) → (Int → (Bool × Int × Int × Unit) → Option α) → Option α), f = fun α => @spec_BitMake_J17.b α := ⟨_, rfl⟩
noncomputable def spec_BitMake_J17 {α : Type} : Nat → Int → Int → Int → Int → Int → (Bool × Int × Int × Unit) → (Int → Bool → Option α) → (Int → (Bool × Int × Int × Unit) → Option α) → Option α := Classical.choose spec_BitMake_J17.ex α
theorem spec_BitMake_J17.eq : @spec_BitMake_J17 = @spec_BitMake_J17.b := funext fun α => congrFun (Classical.choose_spec spec_BitMake_J17.ex) α
/-- loop.example/pinfold/spec.BitMake -/
noncomputable def spec_BitMake.b {α : Type} (N : Nat) (a100 : Int) (a101 : Bool × Int × Int × Unit) (k0 : Int → Bool → Option α) : Option α :=
  spec_l1Width N a100
    (fun x102 =>
      let x103 := !x102
      bif x103 then
        k0 (0 : Int) false
      else
        let x104 := (decide (a101.2.2.1 < (-2000 : Int)))
        bif x104 then
          k0 (0 : Int) false
        else
          let x105 := (decide ((2000 : Int) < a101.2.2.1))
          bif x105 then
            k0 (0 : Int) false
          else
            let x106 := (decide (a101.2.1 = (0 : Int)))
            bif x106 then
              k0 (0 : Int) true
            else
              spec_l1Frac N a100
                (fun x107 =>
                  let x108 := IntKind.u64.wrap x107
                  bif (decide (x108 < (0 : Int))) then
                    none
                  else
                    let x109 := (shlI .u64 (1 : Int) x108)
                    spec_BitMake_L0 N N a100 a101.2.1 a101.2.2.1 x109 a101
                      (fun x125 x126 x127 x128 x129 =>
                        spec_BitMake_L2 N N x125 x126 x127 x128 x129
                          (fun x140 x141 x142 x143 x144 =>
                            let x145 := (IntKind.u64.wrap ((2 : Int) * x143))
                            let x146 := decide (x145 ≤ x141)
                            bif x146 then
                              k0 (0 : Int) false
                            else
                              spec_l1Least N x140
                                (fun x147 =>
                                  let x148 := decide (x142 < x147)
                                  bif x148 then
                                    k0 (0 : Int) false
                                  else
                                    let x149 := IntKind.i64.wrap x141
                                    spec_BitMake_J17 N x140 x141 x142 x143 x149 x144
                                      (fun x170 x171 =>
                                        k0 x170 x171)
                                      (fun x172 x173 =>
                                        bif x173.1 then
                                          let x174 := IntKind.i64.wrap (0 - x172)
                                          k0 x174 true
                                        else
                                          k0 x172 true))))))
theorem spec_BitMake.ex : ∃ f : ((α : Type) → Nat → Int → (Bool × Int × Int × Unit) → (Int → Bool → Option α) → Option α), f = fun α => @spec_BitMake.b α := ⟨_, rfl⟩
noncomputable def spec_BitMake {α : Type} : Nat → Int → (Bool × Int × Int × Unit) → (Int → Bool → Option α) → Option α := Classical.choose spec_BitMake.ex α
theorem spec_BitMake.eq : @spec_BitMake = @spec_BitMake.b := funext fun α => congrFun (Classical.choose_spec spec_BitMake.ex) α

/-- loop.example/pinfold/spec.BitWiden -/
noncomputable def spec_BitWiden.b {α : Type} (N : Nat) (a48 : Int) (k0 : Int → Bool → Option α) : Option α :=
  spec_BitOk N (32 : Int) a48
    (fun x49 =>
      let x50 := !x49
      bif x50 then
        k0 (0 : Int) false
      else
        spec_BitPartOf N (32 : Int) a48
          (fun x93 x94 =>
            let x95 := !x94
            bif x95 then
              let x96 := (decide (a48 < (0 : Int)))
              bif x96 then
                spec_BitTop N (64 : Int)
                  (fun x97 =>
                    let x98 := IntKind.i64.wrap (0 - x97)
                    k0 x98 true)
              else
                spec_BitTop N (64 : Int)
                  (fun x99 =>
                    k0 x99 true)
            else
              spec_BitMake N (64 : Int) x93
                (fun x175 x176 =>
                  k0 x175 x176)))
theorem spec_BitWiden.ex : ∃ f : ((α : Type) → Nat → Int → (Int → Bool → Option α) → Option α), f = fun α => @spec_BitWiden.b α := ⟨_, rfl⟩
noncomputable def spec_BitWiden {α : Type} : Nat → Int → (Int → Bool → Option α) → Option α := Classical.choose spec_BitWiden.ex α
theorem spec_BitWiden.eq : @spec_BitWiden = @spec_BitWiden.b := funext fun α => congrFun (Classical.choose_spec spec_BitWiden.ex) α

/-- loop.example/pinfold/spec.l2Wide -/
noncomputable def spec_l2Wide.b {α : Type} (N : Nat) (a47 : Int) (k0 : Int → Option α) : Option α :=
  spec_BitWiden N a47
    (fun x177 _ =>
      k0 x177)
theorem spec_l2Wide.ex : ∃ f : ((α : Type) → Nat → Int → (Int → Option α) → Option α), f = fun α => @spec_l2Wide.b α := ⟨_, rfl⟩
noncomputable def spec_l2Wide {α : Type} : Nat → Int → (Int → Option α) → Option α := Classical.choose spec_l2Wide.ex α
theorem spec_l2Wide.eq : @spec_l2Wide = @spec_l2Wide.b := funext fun α => congrFun (Classical.choose_spec spec_l2Wide.ex) α

noncomputable def spec_BitBelow_J7.b {α : Type} (N : Nat) (v43 : Int) (v44 : Int) (v45 : Int) (v46 : Int) (k0 : Int → Int → Int → Option α) : Option α :=
  spec_l2Wide N v46
    (fun x179 =>
      let x180 := decide (x179 ≤ v43)
      bif x180 then
        k0 v43 v46 v45
      else
        let x181 := (IntKind.i64.wrap (v46 - (1 : Int)))
        k0 v43 v44 x181)
theorem spec_BitBelow_J7.ex : ∃ f : ((α : Type) → Nat → Int → Int → Int → Int → (Int → Int → Int → Option α) → Option α), f = fun α => @spec_BitBelow_J7.b α := ⟨_, rfl⟩
noncomputable def spec_BitBelow_J7 {α : Type} : Nat → Int → Int → Int → Int → (Int → Int → Int → Option α) → Option α := Classical.choose spec_BitBelow_J7.ex α
theorem spec_BitBelow_J7.eq : @spec_BitBelow_J7 = @spec_BitBelow_J7.b := funext fun α => congrFun (Classical.choose_spec spec_BitBelow_J7.ex) α
noncomputable def spec_BitBelow_L0r {α : Type} (N : Nat) (next : Int → Int → Int → Option α) (k0 : Int → Option α) (v36 : Int) (v37 : Int) (v38 : Int) : Option α :=
  let x39 := decide (v37 < v38)
  bif x39 then
    let x40 := IntKind.i64.wrap (v38 - v37)
    let x41 := (IntKind.i64.wrap (Int.tdiv x40 (2 : Int)))
    let x42 := IntKind.i64.wrap (v38 - x41)
    spec_BitBelow_J7 N v36 v37 v38 x42
      (fun x182 x183 x184 =>
        next x182 x183 x184)
  else
    k0 v37
noncomputable def spec_BitBelow_L0.b {α : Type} (N n : Nat) (v36 : Int) (v37 : Int) (v38 : Int) (k0 : Int → Option α) : Option α :=
  Nat.rec (motive := fun _ => Int → Int → Int → Option α) (fun _ _ _ => none) (fun _ next => spec_BitBelow_L0r N next k0) n v36 v37 v38
theorem spec_BitBelow_L0.ex : ∃ f : ((α : Type) → Nat → Nat → Int → Int → Int → (Int → Option α) → Option α), f = fun α => @spec_BitBelow_L0.b α := ⟨_, rfl⟩
noncomputable def spec_BitBelow_L0 {α : Type} : Nat → Nat → Int → Int → Int → (Int → Option α) → Option α := Classical.choose spec_BitBelow_L0.ex α
theorem spec_BitBelow_L0.eq : @spec_BitBelow_L0 = @spec_BitBelow_L0.b := funext fun α => congrFun (Classical.choose_spec spec_BitBelow_L0.ex) α
theorem spec_BitBelow_L0.zero {α : Type} (N : Nat) (v36 : Int) (v37 : Int) (v38 : Int) (k0 : Int → Option α) : spec_BitBelow_L0 N 0 v36 v37 v38 k0 = none := by rw [spec_BitBelow_L0.eq]; rfl
theorem spec_BitBelow_L0.succ {α : Type} (N n : Nat) (v36 : Int) (v37 : Int) (v38 : Int) (k0 : Int → Option α) : spec_BitBelow_L0 N (n + 1) v36 v37 v38 k0 = spec_BitBelow_L0r N (fun y0 y1 y2 => spec_BitBelow_L0 N n y0 y1 y2 k0) k0 v36 v37 v38 := by rw [spec_BitBelow_L0.eq]; rfl
/-- loop.example/pinfold/spec.BitBelow -/
noncomputable def spec_BitBelow.b {α : Type} (N : Nat) (a30 : Int) (k0 : Int → Bool → Option α) : Option α :=
  spec_BitOk N (64 : Int) a30
    (fun x31 =>
      let x32 := !x31
      bif x32 then
        k0 (0 : Int) false
      else
        spec_BitTop N (32 : Int)
          (fun x33 =>
            let x34 := IntKind.i64.wrap (0 - x33)
            spec_BitTop N (32 : Int)
              (fun x35 =>
                spec_BitBelow_L0 N N a30 x34 x35
                  (fun x185 =>
                    k0 x185 true))))
theorem spec_BitBelow.ex : ∃ f : ((α : Type) → Nat → Int → (Int → Bool → Option α) → Option α), f = fun α => @spec_BitBelow.b α := ⟨_, rfl⟩
noncomputable def spec_BitBelow {α : Type} : Nat → Int → (Int → Bool → Option α) → Option α := Classical.choose spec_BitBelow.ex α
theorem spec_BitBelow.eq : @spec_BitBelow = @spec_BitBelow.b := funext fun α => congrFun (Classical.choose_spec spec_BitBelow.ex) α

/-- loop.example/pinfold/spec.BitAbove -/
noncomputable def spec_BitAbove.b {α : Type} (N : Nat) (a188 : Int) (k0 : Int → Bool → Option α) : Option α :=
  let x189 := IntKind.i64.wrap (0 - a188)
  spec_BitBelow N x189
    (fun x190 x191 =>
      let x192 := IntKind.i64.wrap (0 - x190)
      k0 x192 x191)
theorem spec_BitAbove.ex : ∃ f : ((α : Type) → Nat → Int → (Int → Bool → Option α) → Option α), f = fun α => @spec_BitAbove.b α := ⟨_, rfl⟩
noncomputable def spec_BitAbove {α : Type} : Nat → Int → (Int → Bool → Option α) → Option α := Classical.choose spec_BitAbove.ex α
theorem spec_BitAbove.eq : @spec_BitAbove = @spec_BitAbove.b := funext fun α => congrFun (Classical.choose_spec spec_BitAbove.ex) α

/-- loop.example/pinfold/spec.PairLess -/
noncomputable def spec_PairLess.b {α : Type} (N : Nat) (a4 : Int × Int × Unit) (k0 : (Int × Int × Unit) → Bool → Option α) : Option α :=
  spec_PairOk N (64 : Int) a4
    (fun x28 =>
      let x29 := !x28
      bif x29 then
        k0 ((0 : Int), ((0 : Int), ())) false
      else
        spec_BitBelow N a4.1
          (fun x186 _ =>
            spec_BitAbove N a4.2.1
              (fun x193 _ =>
                k0 (x186, (x193, ())) true)))
theorem spec_PairLess.ex : ∃ f : ((α : Type) → Nat → (Int × Int × Unit) → ((Int × Int × Unit) → Bool → Option α) → Option α), f = fun α => @spec_PairLess.b α := ⟨_, rfl⟩
noncomputable def spec_PairLess {α : Type} : Nat → (Int × Int × Unit) → ((Int × Int × Unit) → Bool → Option α) → Option α := Classical.choose spec_PairLess.ex α
theorem spec_PairLess.eq : @spec_PairLess = @spec_PairLess.b := funext fun α => congrFun (Classical.choose_spec spec_PairLess.ex) α

/-- loop.example/pinfold/impl.formatOf -/
noncomputable def impl_formatOf.b {α : Type} (N : Nat) (a202 : Int) (k0 : (Int × Int × Int × Int × Unit) → Bool → Option α) : Option α :=
  let x203 := (decide (a202 = (32 : Int)))
  bif x203 then
    k0 ((23 : Int), ((-149 : Int), ((127 : Int), ((2139095040 : Int), ())))) true
  else
    let x204 := (decide (a202 = (64 : Int)))
    bif x204 then
      k0 ((52 : Int), ((-1074 : Int), ((1023 : Int), ((9218868437227405312 : Int), ())))) true
    else
      k0 ((0 : Int), ((0 : Int), ((0 : Int), ((0 : Int), ())))) false
theorem impl_formatOf.ex : ∃ f : ((α : Type) → Nat → Int → ((Int × Int × Int × Int × Unit) → Bool → Option α) → Option α), f = fun α => @impl_formatOf.b α := ⟨_, rfl⟩
noncomputable def impl_formatOf {α : Type} : Nat → Int → ((Int × Int × Int × Int × Unit) → Bool → Option α) → Option α := Classical.choose impl_formatOf.ex α
theorem impl_formatOf.eq : @impl_formatOf = @impl_formatOf.b := funext fun α => congrFun (Classical.choose_spec impl_formatOf.ex) α

/-- loop.example/pinfold/impl.BitTop -/
noncomputable def impl_BitTop.b {α : Type} (N : Nat) (a201 : Int) (k0 : Int → Option α) : Option α :=
  impl_formatOf N a201
    (fun x205 _ =>
      k0 x205.2.2.2.1)
theorem impl_BitTop.ex : ∃ f : ((α : Type) → Nat → Int → (Int → Option α) → Option α), f = fun α => @impl_BitTop.b α := ⟨_, rfl⟩
noncomputable def impl_BitTop {α : Type} : Nat → Int → (Int → Option α) → Option α := Classical.choose impl_BitTop.ex α
theorem impl_BitTop.eq : @impl_BitTop = @impl_BitTop.b := funext fun α => congrFun (Classical.choose_spec impl_BitTop.ex) α

/-- loop.example/pinfold/impl.in -/
noncomputable def impl_in.b {α : Type} (N : Nat) (a213 : Int) (a214 : Int) (a215 : Int) (k0 : Bool → Option α) : Option α :=
  let x216 := decide (a214 ≤ a213)
  bif x216 then
    let x217 := decide (a213 ≤ a215)
    k0 x217
  else
    k0 false
theorem impl_in.ex : ∃ f : ((α : Type) → Nat → Int → Int → Int → (Bool → Option α) → Option α), f = fun α => @impl_in.b α := ⟨_, rfl⟩
noncomputable def impl_in {α : Type} : Nat → Int → Int → Int → (Bool → Option α) → Option α := Classical.choose impl_in.ex α
theorem impl_in.eq : @impl_in = @impl_in.b := funext fun α => congrFun (Classical.choose_spec impl_in.ex) α

/-- loop.example/pinfold/impl.BitOk -/
noncomputable def impl_BitOk.b {α : Type} (N : Nat) (a208 : Int) (a209 : Int) (k0 : Bool → Option α) : Option α :=
  impl_formatOf N a208
    (fun x210 x211 =>
      bif x211 then
        let x212 := IntKind.i64.wrap (0 - x210.2.2.2.1)
        impl_in N a209 x212 x210.2.2.2.1
          (fun x218 =>
            k0 x218)
      else
        k0 false)
theorem impl_BitOk.ex : ∃ f : ((α : Type) → Nat → Int → Int → (Bool → Option α) → Option α), f = fun α => @impl_BitOk.b α := ⟨_, rfl⟩
noncomputable def impl_BitOk {α : Type} : Nat → Int → Int → (Bool → Option α) → Option α := Classical.choose impl_BitOk.ex α
theorem impl_BitOk.eq : @impl_BitOk = @impl_BitOk.b := funext fun α => congrFun (Classical.choose_spec impl_BitOk.ex) α

/-- loop.example/pinfold/impl.PairOk -/
noncomputable def impl_PairOk.b {α : Type} (N : Nat) (a199 : Int) (a200 : Int × Int × Unit) (k0 : Bool → Option α) : Option α :=
  impl_BitTop N a199
    (fun x207 =>
      impl_BitOk N a199 a200.1
        (fun x219 =>
          bif x219 then
            impl_BitOk N a199 a200.2.1
              (fun x220 =>
                bif x220 then
                  let x221 := decide (a200.1 ≤ a200.2.1)
                  bif x221 then
                    let x222 := !(decide (a200.1 = x207))
                    bif x222 then
                      let x223 := IntKind.i64.wrap (0 - x207)
                      let x224 := !(decide (a200.2.1 = x223))
                      k0 x224
                    else
                      k0 false
                  else
                    k0 false
                else
                  k0 false)
          else
            k0 false))
theorem impl_PairOk.ex : ∃ f : ((α : Type) → Nat → Int → (Int × Int × Unit) → (Bool → Option α) → Option α), f = fun α => @impl_PairOk.b α := ⟨_, rfl⟩
noncomputable def impl_PairOk {α : Type} : Nat → Int → (Int × Int × Unit) → (Bool → Option α) → Option α := Classical.choose impl_PairOk.ex α
theorem impl_PairOk.eq : @impl_PairOk = @impl_PairOk.b := funext fun α => congrFun (Classical.choose_spec impl_PairOk.ex) α

/-- loop.example/pinfold/impl.size -/
noncomputable def impl_size.b {α : Type} (N : Nat) (a252 : Int) (k0 : Int → Option α) : Option α :=
  let x253 := IntKind.i64.wrap (0 - a252)
  let x254 := maxI a252 x253
  k0 x254
theorem impl_size.ex : ∃ f : ((α : Type) → Nat → Int → (Int → Option α) → Option α), f = fun α => @impl_size.b α := ⟨_, rfl⟩
noncomputable def impl_size {α : Type} : Nat → Int → (Int → Option α) → Option α := Classical.choose impl_size.ex α
theorem impl_size.eq : @impl_size = @impl_size.b := funext fun α => congrFun (Classical.choose_spec impl_size.ex) α

/-- loop.example/pinfold/impl.BitPartOf -/
noncomputable def impl_BitPartOf.b {α : Type} (N : Nat) (a246 : Int) (a247 : Int) (k0 : (Bool × Int × Int × Unit) → Bool → Option α) : Option α :=
  impl_formatOf N a246
    (fun x248 _ =>
      impl_BitOk N a246 a247
        (fun x250 =>
          let x251 := !x250
          bif x251 then
            k0 (false, ((0 : Int), ((0 : Int), ()))) false
          else
            impl_size N a247
              (fun x255 =>
                let x256 := decide (x255 = x248.2.2.2.1)
                bif x256 then
                  k0 (false, ((0 : Int), ((0 : Int), ()))) false
                else
                  impl_size N a247
                    (fun x257 =>
                      bif (decide (x248.1 < (0 : Int))) then
                        none
                      else
                        let x258 := (shlI .i64 (1 : Int) x248.1)
                        let x259 := (IntKind.i64.wrap (x258 - (1 : Int)))
                        let x260 := bitI .and .i64 x257 x259
                        impl_size N a247
                          (fun x261 =>
                            bif (decide (x248.1 < (0 : Int))) then
                              none
                            else
                              let x262 := shrI .i64 x261 x248.1
                              let x263 := (decide (x262 = (0 : Int)))
                              bif x263 then
                                let x264 := (decide (a247 < (0 : Int)))
                                let x265 := IntKind.u64.wrap x260
                                k0 (x264, (x265, (x248.2.1, ()))) true
                              else
                                let x266 := (decide (a247 < (0 : Int)))
                                bif (decide (x248.1 < (0 : Int))) then
                                  none
                                else
                                  let x267 := (shlI .i64 (1 : Int) x248.1)
                                  let x268 := bitI .or .i64 x260 x267
                                  let x269 := IntKind.u64.wrap x268
                                  let x270 := IntKind.i64.wrap (x248.2.1 + x262)
                                  let x271 := (IntKind.i64.wrap (x270 - (1 : Int)))
                                  k0 (x266, (x269, (x271, ()))) true)))))
theorem impl_BitPartOf.ex : ∃ f : ((α : Type) → Nat → Int → Int → ((Bool × Int × Int × Unit) → Bool → Option α) → Option α), f = fun α => @impl_BitPartOf.b α := ⟨_, rfl⟩
noncomputable def impl_BitPartOf {α : Type} : Nat → Int → Int → ((Bool × Int × Int × Unit) → Bool → Option α) → Option α := Classical.choose impl_BitPartOf.ex α
theorem impl_BitPartOf.eq : @impl_BitPartOf = @impl_BitPartOf.b := funext fun α => congrFun (Classical.choose_spec impl_BitPartOf.ex) α

-- prim math_bits_TrailingZeros64
noncomputable def math_bits_Len64_J1.b {α : Type} (N : Nat) (v286 : Int) (v287 : Int) (k0 : Int → Int → Option α) : Option α :=
  let x288 := (decide ((4294967296 : Int) ≤ v286))
  bif x288 then
    let x289 := (shrI .u64 v286 (32 : Int))
    k0 x289 (32 : Int)
  else
    k0 v286 v287
theorem math_bits_Len64_J1.ex : ∃ f : ((α : Type) → Nat → Int → Int → (Int → Int → Option α) → Option α), f = fun α => @math_bits_Len64_J1.b α := ⟨_, rfl⟩
noncomputable def math_bits_Len64_J1 {α : Type} : Nat → Int → Int → (Int → Int → Option α) → Option α := Classical.choose math_bits_Len64_J1.ex α
theorem math_bits_Len64_J1.eq : @math_bits_Len64_J1 = @math_bits_Len64_J1.b := funext fun α => congrFun (Classical.choose_spec math_bits_Len64_J1.ex) α
noncomputable def math_bits_Len64_J4.b {α : Type} (N : Nat) (v292 : Int) (v293 : Int) (k0 : Int → Int → Option α) : Option α :=
  let x294 := (decide ((65536 : Int) ≤ v292))
  bif x294 then
    let x295 := (shrI .u64 v292 (16 : Int))
    let x296 := (IntKind.i64.wrap (v293 + (16 : Int)))
    k0 x295 x296
  else
    k0 v292 v293
theorem math_bits_Len64_J4.ex : ∃ f : ((α : Type) → Nat → Int → Int → (Int → Int → Option α) → Option α), f = fun α => @math_bits_Len64_J4.b α := ⟨_, rfl⟩
noncomputable def math_bits_Len64_J4 {α : Type} : Nat → Int → Int → (Int → Int → Option α) → Option α := Classical.choose math_bits_Len64_J4.ex α
theorem math_bits_Len64_J4.eq : @math_bits_Len64_J4 = @math_bits_Len64_J4.b := funext fun α => congrFun (Classical.choose_spec math_bits_Len64_J4.ex) α
noncomputable def math_bits_Len64_J7.b {α : Type} (N : Nat) (v299 : Int) (v300 : Int) (k0 : Int → Int → Option α) : Option α :=
  let x301 := (decide ((256 : Int) ≤ v299))
  bif x301 then
    let x302 := (shrI .u64 v299 (8 : Int))
    let x303 := (IntKind.i64.wrap (v300 + (8 : Int)))
    k0 x302 x303
  else
    k0 v299 v300
theorem math_bits_Len64_J7.ex : ∃ f : ((α : Type) → Nat → Int → Int → (Int → Int → Option α) → Option α), f = fun α => @math_bits_Len64_J7.b α := ⟨_, rfl⟩
noncomputable def math_bits_Len64_J7 {α : Type} : Nat → Int → Int → (Int → Int → Option α) → Option α := Classical.choose math_bits_Len64_J7.ex α
theorem math_bits_Len64_J7.eq : @math_bits_Len64_J7 = @math_bits_Len64_J7.b := funext fun α => congrFun (Classical.choose_spec math_bits_Len64_J7.ex) α
/-- math/bits.Len64 -/
noncomputable def math_bits_Len64.b {α : Type} (N : Nat) (a285 : Int) (k0 : Int → Option α) : Option α :=
  math_bits_Len64_J1 N a285 (0 : Int)
    (fun x290 x291 =>
      math_bits_Len64_J4 N x290 x291
        (fun x297 x298 =>
          math_bits_Len64_J7 N x297 x298
            (fun x304 x305 =>
              let x306 := IntKind.u8.wrap x304
              bif (decide (x306 < (0 : Int))) then
                none
              else
                match ((⟨#[0, 1, 2, 2, 3, 3, 3, 3, 4, 4, 4, 4, 4, 4, 4, 4, 5, 5, 5, 5, 5, 5, 5, 5, 5, 5, 5, 5, 5, 5, 5, 5, 6, 6, 6, 6, 6, 6, 6, 6, 6, 6, 6, 6, 6, 6, 6, 6, 6, 6, 6, 6, 6, 6, 6, 6, 6, 6, 6, 6, 6, 6, 6, 6, 7, 7, 7, 7, 7, 7, 7, 7, 7, 7, 7, 7, 7, 7, 7, 7, 7, 7, 7, 7, 7, 7, 7, 7, 7, 7, 7, 7, 7, 7, 7, 7, 7, 7, 7, 7, 7, 7, 7, 7, 7, 7, 7, 7, 7, 7, 7, 7, 7, 7, 7, 7, 7, 7, 7, 7, 7, 7, 7, 7, 7, 7, 7, 7, 8, 8, 8, 8, 8, 8, 8, 8, 8, 8, 8, 8, 8, 8, 8, 8, 8, 8, 8, 8, 8, 8, 8, 8, 8, 8, 8, 8, 8, 8, 8, 8, 8, 8, 8, 8, 8, 8, 8, 8, 8, 8, 8, 8, 8, 8, 8, 8, 8, 8, 8, 8, 8, 8, 8, 8, 8, 8, 8, 8, 8, 8, 8, 8, 8, 8, 8, 8, 8, 8, 8, 8, 8, 8, 8, 8, 8, 8, 8, 8, 8, 8, 8, 8, 8, 8, 8, 8, 8, 8, 8, 8, 8, 8, 8, 8, 8, 8, 8, 8, 8, 8, 8, 8, 8, 8, 8, 8, 8, 8, 8, 8, 8, 8, 8, 8, 8, 8, 8, 8, 8, 8, 8, 8, 8, 8, 8, 8]⟩ : ByteArray)[x306.toNat]? : Option UInt8) with
                | some x307 =>
                  let x308 := ((x307.toNat : Nat) : Int)
                  let x309 := IntKind.i64.wrap x308
                  let x310 := IntKind.i64.wrap (x305 + x309)
                  k0 x310
                | none => none)))
theorem math_bits_Len64.ex : ∃ f : ((α : Type) → Nat → Int → (Int → Option α) → Option α), f = fun α => @math_bits_Len64.b α := ⟨_, rfl⟩
noncomputable def math_bits_Len64 {α : Type} : Nat → Int → (Int → Option α) → Option α := Classical.choose math_bits_Len64.ex α
theorem math_bits_Len64.eq : @math_bits_Len64 = @math_bits_Len64.b := funext fun α => congrFun (Classical.choose_spec math_bits_Len64.ex) α

noncomputable def impl_BitMake_J14.b {α : Type} (N : Nat) (v319 : Int) (v320 : Int) (v321 : Int) (v322 : Int) (v323 : Bool × Int × Int × Unit) (v324 : Int × Int × Int × Int × Unit) (k0 : Int → (Bool × Int × Int × Unit) → Option α) : Option α :=
  let x325 := (decide ((1 : Int) ≤ v322))
  bif x325 then
    bif (decide (v324.1 < (0 : Int))) then
      none
    else
      let x326 := shlI .i64 v322 v324.1
      let x327 := (IntKind.i64.wrap (v324.1 + (1 : Int)))
      let x328 := IntKind.i64.wrap (x327 - v321)
      bif (decide (x328 < (0 : Int))) then
        none
      else
        let x329 := shlI .u64 v319 x328
        let x330 := IntKind.i64.wrap x329
        bif (decide (v324.1 < (0 : Int))) then
          none
        else
          let x331 := (shlI .i64 (1 : Int) v324.1)
          let x332 := (IntKind.i64.wrap (x331 - (1 : Int)))
          let x333 := bitI .and .i64 x330 x332
          let x334 := bitI .or .i64 x326 x333
          k0 x334 v323
  else
    let x335 := IntKind.i64.wrap (v320 - v324.2.1)
    bif (decide (x335 < (0 : Int))) then
      none
    else
      let x336 := shlI .u64 v319 x335
      let x337 := IntKind.i64.wrap x336
      k0 x337 v323
theorem impl_BitMake_J14.ex : ∃ f : ((α : Type) → Nat → Int → Int → Int → Int → (Bool × Int × Int × Unit) → (Int × Int × Int × Int × Unit) → (Int → (Bool × Int × Int × Unit) → Option α) → Option α), f = fun α => @impl_BitMake_J14.b α := ⟨_, rfl⟩
noncomputable def impl_BitMake_J14 {α : Type} : Nat → Int → Int → Int → Int → (Bool × Int × Int × Unit) → (Int × Int × Int × Int × Unit) → (Int → (Bool × Int × Int × Unit) → Option α) → Option α := Classical.choose impl_BitMake_J14.ex α
theorem impl_BitMake_J14.eq : @impl_BitMake_J14 = @impl_BitMake_J14.b := funext fun α => congrFun (Classical.choose_spec impl_BitMake_J14.ex) α
noncomputable def impl_BitMake_J17.b {α : Type} (N : Nat) (v340 : Int) (v341 : Bool × Int × Int × Unit) (k0 : Int → Option α) : Option α :=
  bif v341.1 then
    let x342 := IntKind.i64.wrap (0 - v340)
    k0 x342
  else
    k0 v340
theorem impl_BitMake_J17.ex : ∃ f : ((α : Type) → Nat → Int → (Bool × Int × Int × Unit) → (Int → Option α) → Option α), f = fun α => @impl_BitMake_J17.b α := ⟨_, rfl⟩
noncomputable def impl_BitMake_J17 {α : Type} : Nat → Int → (Bool × Int × Int × Unit) → (Int → Option α) → Option α := Classical.choose impl_BitMake_J17.ex α
theorem impl_BitMake_J17.eq : @impl_BitMake_J17 = @impl_BitMake_J17.b := funext fun α => congrFun (Classical.choose_spec impl_BitMake_J17.ex) α
/-- loop.example/pinfold/impl.BitMake -/
noncomputable def impl_BitMake.b {α : Type} (N : Nat) (a274 : Int) (a275 : Bool × Int × Int × Unit) (k0 : Int → Bool → Option α) : Option α :=
  impl_formatOf N a274
    (fun x276 x277 =>
      let x278 := !x277
      bif x278 then
        k0 (0 : Int) false
      else
        impl_in N a275.2.2.1 (-2000 : Int) (2000 : Int)
          (fun x279 =>
            let x280 := !x279
            bif x280 then
              k0 (0 : Int) false
            else
              let x281 := (decide (a275.2.1 = (0 : Int)))
              bif x281 then
                k0 (0 : Int) true
              else
                math_bits_TrailingZeros64 N a275.2.1
                  (fun x282 =>
                    bif (decide (x282 < (0 : Int))) then
                      none
                    else
                      let x283 := shrI .u64 a275.2.1 x282
                      let x284 := IntKind.i64.wrap (a275.2.2.1 + x282)
                      math_bits_Len64 N x283
                        (fun x311 =>
                          let x312 := IntKind.i64.wrap (x284 + x311)
                          let x313 := (IntKind.i64.wrap (x312 - (1 : Int)))
                          let x314 := (IntKind.i64.wrap (x276.1 + (1 : Int)))
                          let x315 := decide (x314 < x311)
                          bif x315 then
                            k0 (0 : Int) false
                          else
                            let x316 := decide (x284 < x276.2.1)
                            bif x316 then
                              k0 (0 : Int) false
                            else
                              let x317 := decide (x276.2.2.1 < x313)
                              bif x317 then
                                k0 (0 : Int) false
                              else
                                let x318 := IntKind.i64.wrap (x313 + x276.2.2.1)
                                impl_BitMake_J14 N x283 x284 x311 x318 a275 x276
                                  (fun x338 x339 =>
                                    impl_BitMake_J17 N x338 x339
                                      (fun x343 =>
                                        k0 x343 true))))))
theorem impl_BitMake.ex : ∃ f : ((α : Type) → Nat → Int → (Bool × Int × Int × Unit) → (Int → Bool → Option α) → Option α), f = fun α => @impl_BitMake.b α := ⟨_, rfl⟩
noncomputable def impl_BitMake {α : Type} : Nat → Int → (Bool × Int × Int × Unit) → (Int → Bool → Option α) → Option α := Classical.choose impl_BitMake.ex α
theorem impl_BitMake.eq : @impl_BitMake = @impl_BitMake.b := funext fun α => congrFun (Classical.choose_spec impl_BitMake.ex) α

/-- loop.example/pinfold/impl.widen -/
noncomputable def impl_widen.b {α : Type} (N : Nat) (a245 : Int) (k0 : Int → Option α) : Option α :=
  impl_BitPartOf N (32 : Int) a245
    (fun x272 x273 =>
      bif x273 then
        impl_BitMake N (64 : Int) x272
          (fun x344 _ =>
            k0 x344)
      else
        let x346 := (decide (a245 < (0 : Int)))
        bif x346 then
          impl_BitTop N (64 : Int)
            (fun x347 =>
              let x348 := IntKind.i64.wrap (0 - x347)
              k0 x348)
        else
          impl_BitTop N (64 : Int)
            (fun x349 =>
              k0 x349))
theorem impl_widen.ex : ∃ f : ((α : Type) → Nat → Int → (Int → Option α) → Option α), f = fun α => @impl_widen.b α := ⟨_, rfl⟩
noncomputable def impl_widen {α : Type} : Nat → Int → (Int → Option α) → Option α := Classical.choose impl_widen.ex α
theorem impl_widen.eq : @impl_widen = @impl_widen.b := funext fun α => congrFun (Classical.choose_spec impl_widen.ex) α

noncomputable def impl_BitBelow_J6.b {α : Type} (N : Nat) (v241 : Int) (v242 : Int) (v243 : Int) (v244 : Int) (k0 : Int → Int → Int → Option α) : Option α :=
  impl_widen N v244
    (fun x350 =>
      let x351 := decide (x350 ≤ v241)
      bif x351 then
        k0 v241 v244 v243
      else
        let x352 := (IntKind.i64.wrap (v244 - (1 : Int)))
        k0 v241 v242 x352)
theorem impl_BitBelow_J6.ex : ∃ f : ((α : Type) → Nat → Int → Int → Int → Int → (Int → Int → Int → Option α) → Option α), f = fun α => @impl_BitBelow_J6.b α := ⟨_, rfl⟩
noncomputable def impl_BitBelow_J6 {α : Type} : Nat → Int → Int → Int → Int → (Int → Int → Int → Option α) → Option α := Classical.choose impl_BitBelow_J6.ex α
theorem impl_BitBelow_J6.eq : @impl_BitBelow_J6 = @impl_BitBelow_J6.b := funext fun α => congrFun (Classical.choose_spec impl_BitBelow_J6.ex) α
noncomputable def impl_BitBelow_L0r {α : Type} (N : Nat) (next : Int → Int → Int → Option α) (k0 : Int → Option α) (v233 : Int) (v234 : Int) (v235 : Int) : Option α :=
  let x236 := decide (v234 < v235)
  bif x236 then
    let x237 := IntKind.i64.wrap (v235 - v234)
    let x238 := (IntKind.i64.wrap (x237 + (1 : Int)))
    let x239 := (IntKind.i64.wrap (Int.tdiv x238 (2 : Int)))
    let x240 := IntKind.i64.wrap (v234 + x239)
    impl_BitBelow_J6 N v233 v234 v235 x240
      (fun x353 x354 x355 =>
        next x353 x354 x355)
  else
    k0 v234
noncomputable def impl_BitBelow_L0.b {α : Type} (N n : Nat) (v233 : Int) (v234 : Int) (v235 : Int) (k0 : Int → Option α) : Option α :=
  Nat.rec (motive := fun _ => Int → Int → Int → Option α) (fun _ _ _ => none) (fun _ next => impl_BitBelow_L0r N next k0) n v233 v234 v235
theorem impl_BitBelow_L0.ex : ∃ f : ((α : Type) → Nat → Nat → Int → Int → Int → (Int → Option α) → Option α), f = fun α => @impl_BitBelow_L0.b α := ⟨_, rfl⟩
noncomputable def impl_BitBelow_L0 {α : Type} : Nat → Nat → Int → Int → Int → (Int → Option α) → Option α := Classical.choose impl_BitBelow_L0.ex α
theorem impl_BitBelow_L0.eq : @impl_BitBelow_L0 = @impl_BitBelow_L0.b := funext fun α => congrFun (Classical.choose_spec impl_BitBelow_L0.ex) α
theorem impl_BitBelow_L0.zero {α : Type} (N : Nat) (v233 : Int) (v234 : Int) (v235 : Int) (k0 : Int → Option α) : impl_BitBelow_L0 N 0 v233 v234 v235 k0 = none := by rw [impl_BitBelow_L0.eq]; rfl
theorem impl_BitBelow_L0.succ {α : Type} (N n : Nat) (v233 : Int) (v234 : Int) (v235 : Int) (k0 : Int → Option α) : impl_BitBelow_L0 N (n + 1) v233 v234 v235 k0 = impl_BitBelow_L0r N (fun y0 y1 y2 => impl_BitBelow_L0 N n y0 y1 y2 k0) k0 v233 v234 v235 := by rw [impl_BitBelow_L0.eq]; rfl
/-- loop.example/pinfold/impl.BitBelow -/
noncomputable def impl_BitBelow.b {α : Type} (N : Nat) (a227 : Int) (k0 : Int → Bool → Option α) : Option α :=
  impl_BitOk N (64 : Int) a227
    (fun x228 =>
      let x229 := !x228
      bif x229 then
        k0 (0 : Int) false
      else
        impl_BitTop N (32 : Int)
          (fun x230 =>
            let x231 := IntKind.i64.wrap (0 - x230)
            impl_BitTop N (32 : Int)
              (fun x232 =>
                impl_BitBelow_L0 N N a227 x231 x232
                  (fun x356 =>
                    k0 x356 true))))
theorem impl_BitBelow.ex : ∃ f : ((α : Type) → Nat → Int → (Int → Bool → Option α) → Option α), f = fun α => @impl_BitBelow.b α := ⟨_, rfl⟩
noncomputable def impl_BitBelow {α : Type} : Nat → Int → (Int → Bool → Option α) → Option α := Classical.choose impl_BitBelow.ex α
theorem impl_BitBelow.eq : @impl_BitBelow = @impl_BitBelow.b := funext fun α => congrFun (Classical.choose_spec impl_BitBelow.ex) α

/-- loop.example/pinfold/impl.BitAbove -/
noncomputable def impl_BitAbove.b {α : Type} (N : Nat) (a359 : Int) (k0 : Int → Bool → Option α) : Option α :=
  let x360 := IntKind.i64.wrap (0 - a359)
  impl_BitBelow N x360
    (fun x361 x362 =>
      let x363 := IntKind.i64.wrap (0 - x361)
      k0 x363 x362)
theorem impl_BitAbove.ex : ∃ f : ((α : Type) → Nat → Int → (Int → Bool → Option α) → Option α), f = fun α => @impl_BitAbove.b α := ⟨_, rfl⟩
noncomputable def impl_BitAbove {α : Type} : Nat → Int → (Int → Bool → Option α) → Option α := Classical.choose impl_BitAbove.ex α
theorem impl_BitAbove.eq : @impl_BitAbove = @impl_BitAbove.b := funext fun α => congrFun (Classical.choose_spec impl_BitAbove.ex) α

/-- loop.example/pinfold/impl.PairLess -/
noncomputable def impl_PairLess.b {α : Type} (N : Nat) (a198 : Int × Int × Unit) (k0 : (Int × Int × Unit) → Bool → Option α) : Option α :=
  impl_PairOk N (64 : Int) a198
    (fun x225 =>
      let x226 := !x225
      bif x226 then
        k0 ((0 : Int), ((0 : Int), ())) false
      else
        impl_BitBelow N a198.1
          (fun x357 _ =>
            impl_BitAbove N a198.2.1
              (fun x364 _ =>
                k0 (x357, (x364, ())) true)))
theorem impl_PairLess.ex : ∃ f : ((α : Type) → Nat → (Int × Int × Unit) → ((Int × Int × Unit) → Bool → Option α) → Option α), f = fun α => @impl_PairLess.b α := ⟨_, rfl⟩
noncomputable def impl_PairLess {α : Type} : Nat → (Int × Int × Unit) → ((Int × Int × Unit) → Bool → Option α) → Option α := Classical.choose impl_PairLess.ex α
theorem impl_PairLess.eq : @impl_PairLess = @impl_PairLess.b := funext fun α => congrFun (Classical.choose_spec impl_PairLess.ex) α

/-- loop.example/pinfold/laws.eqPair -/
noncomputable def laws_eqPair.b {α : Type} (N : Nat) (a368 : Int × Int × Unit) (a369 : Int × Int × Unit) (k0 : Bool → Option α) : Option α :=
  let x370 := !(decide (a368.1 = a369.1))
  bif x370 then
    k0 false
  else
    let x371 := !(decide (a368.2.1 = a369.2.1))
    bif x371 then
      k0 false
    else
      k0 true
theorem laws_eqPair.ex : ∃ f : ((α : Type) → Nat → (Int × Int × Unit) → (Int × Int × Unit) → (Bool → Option α) → Option α), f = fun α => @laws_eqPair.b α := ⟨_, rfl⟩
noncomputable def laws_eqPair {α : Type} : Nat → (Int × Int × Unit) → (Int × Int × Unit) → (Bool → Option α) → Option α := Classical.choose laws_eqPair.ex α
theorem laws_eqPair.eq : @laws_eqPair = @laws_eqPair.b := funext fun α => congrFun (Classical.choose_spec laws_eqPair.ex) α

/-- loop.example/pinfold/laws.FnExactPairLess -/
noncomputable def laws_FnExactPairLess.b {α : Type} (N : Nat) (a1 : Int × Int × Unit) (k0 : Bool → Option α) : Option α :=
  laws_toPair N a1
    (fun x3 =>
      spec_PairLess N x3
        (fun x195 x196 =>
          laws_toPair N a1
            (fun x197 =>
              impl_PairLess N x197
                (fun x366 x367 =>
                  laws_eqPair N x366 x195
                    (fun x372 =>
                      let x373 := !x372
                      bif x373 then
                        k0 false
                      else
                        let x374 := !(x367 == x196)
                        bif x374 then
                          k0 false
                        else
                          k0 true)))))
theorem laws_FnExactPairLess.ex : ∃ f : ((α : Type) → Nat → (Int × Int × Unit) → (Bool → Option α) → Option α), f = fun α => @laws_FnExactPairLess.b α := ⟨_, rfl⟩
noncomputable def laws_FnExactPairLess {α : Type} : Nat → (Int × Int × Unit) → (Bool → Option α) → Option α := Classical.choose laws_FnExactPairLess.ex α
theorem laws_FnExactPairLess.eq : @laws_FnExactPairLess = @laws_FnExactPairLess.b := funext fun α => congrFun (Classical.choose_spec laws_FnExactPairLess.ex) α

end
end Go.Proofs.YtbaeipjjijdgiaaDoorAm
