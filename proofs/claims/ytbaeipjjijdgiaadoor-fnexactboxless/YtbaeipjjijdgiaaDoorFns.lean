/-
  The functions that the program computes, as the abstract machine tells them. Printed by amp.py.
-/
import Derived.Test.YtbaeipjjijdgiaaDoorAmc
namespace Go.Proofs.YtbaeipjjijdgiaaDoorAm
open Go
noncomputable section
set_option linter.unusedVariables false
set_option linter.unusedSimpArgs false

/-- loop.example/pinfold/laws.szPairS -/
noncomputable def laws_szPairS.b {α : Type} (N : Nat) (a4 : List (Int × Int × Unit)) (a5 : Int) (k0 : Int → Option α) : Option α :=
  let x6 := ((a4.length : Nat) : Int)
  let x7 := IntKind.i64.wrap (a5 - x6)
  let x8 := (decide (x7 < (0 : Int)))
  bif x8 then
    k0 (-1 : Int)
  else
    k0 x7
theorem laws_szPairS.ex : ∃ f : ((α : Type) → Nat → List (Int × Int × Unit) → Int → (Int → Option α) → Option α), f = fun α => @laws_szPairS.b α := ⟨_, rfl⟩
noncomputable def laws_szPairS {α : Type} : Nat → List (Int × Int × Unit) → Int → (Int → Option α) → Option α := Classical.choose laws_szPairS.ex α
theorem laws_szPairS.eq : @laws_szPairS = @laws_szPairS.b := funext fun α => congrFun (Classical.choose_spec laws_szPairS.ex) α

/-- loop.example/pinfold/laws.szBox -/
noncomputable def laws_szBox.b {α : Type} (N : Nat) (a2 : (List (Int × Int × Unit)) × Unit) (a3 : Int) (k0 : Int → Option α) : Option α :=
  laws_szPairS N a2.1 a3
    (fun x9 =>
      let x10 := (decide (x9 < (0 : Int)))
      bif x10 then
        k0 (-1 : Int)
      else
        k0 x9)
theorem laws_szBox.ex : ∃ f : ((α : Type) → Nat → ((List (Int × Int × Unit)) × Unit) → Int → (Int → Option α) → Option α), f = fun α => @laws_szBox.b α := ⟨_, rfl⟩
noncomputable def laws_szBox {α : Type} : Nat → ((List (Int × Int × Unit)) × Unit) → Int → (Int → Option α) → Option α := Classical.choose laws_szBox.ex α
theorem laws_szBox.eq : @laws_szBox = @laws_szBox.b := funext fun α => congrFun (Classical.choose_spec laws_szBox.ex) α

/-- loop.example/pinfold/laws.toPair -/
noncomputable def laws_toPair.b {α : Type} (N : Nat) (a23 : Int × Int × Unit) (k0 : (Int × Int × Unit) → Option α) : Option α :=
  k0 (a23.1, (a23.2.1, ()))
theorem laws_toPair.ex : ∃ f : ((α : Type) → Nat → (Int × Int × Unit) → ((Int × Int × Unit) → Option α) → Option α), f = fun α => @laws_toPair.b α := ⟨_, rfl⟩
noncomputable def laws_toPair {α : Type} : Nat → (Int × Int × Unit) → ((Int × Int × Unit) → Option α) → Option α := Classical.choose laws_toPair.ex α
theorem laws_toPair.eq : @laws_toPair = @laws_toPair.b := funext fun α => congrFun (Classical.choose_spec laws_toPair.ex) α

noncomputable def laws_toPairS_L0r {α : Type} (N : Nat) (next : List (Int × Int × Unit) → Int → List (Int × Int × Unit) → Option α) (k0 : List (Int × Int × Unit) → Option α) (v17 : List (Int × Int × Unit)) (v18 : Int) (v19 : List (Int × Int × Unit)) : Option α :=
  let x20 := ((v17.length : Nat) : Int)
  let x21 := decide (v18 < x20)
  bif x21 then
    bif (decide (v18 < (0 : Int))) then
      none
    else
      match v17[v18.toNat]? with
      | some x22 =>
        laws_toPair N x22
          (fun x24 =>
            bif (decide (v18 < (0 : Int))) then
              none
            else
              bif decide (v18.toNat < v19.length) then
                match v19[v18.toNat]? with
                | some x25 =>
                  let x26 := v19.set v18.toNat x24
                  let x27 := (IntKind.i64.wrap (v18 + (1 : Int)))
                  next v17 x27 x26
                | none => none
              else
                none)
      | none => none
  else
    k0 v19
noncomputable def laws_toPairS_L0.b {α : Type} (N n : Nat) (v17 : List (Int × Int × Unit)) (v18 : Int) (v19 : List (Int × Int × Unit)) (k0 : List (Int × Int × Unit) → Option α) : Option α :=
  Nat.rec (motive := fun _ => List (Int × Int × Unit) → Int → List (Int × Int × Unit) → Option α) (fun _ _ _ => none) (fun _ next => laws_toPairS_L0r N next k0) n v17 v18 v19
theorem laws_toPairS_L0.ex : ∃ f : ((α : Type) → Nat → Nat → List (Int × Int × Unit) → Int → List (Int × Int × Unit) → (List (Int × Int × Unit) → Option α) → Option α), f = fun α => @laws_toPairS_L0.b α := ⟨_, rfl⟩
noncomputable def laws_toPairS_L0 {α : Type} : Nat → Nat → List (Int × Int × Unit) → Int → List (Int × Int × Unit) → (List (Int × Int × Unit) → Option α) → Option α := Classical.choose laws_toPairS_L0.ex α
theorem laws_toPairS_L0.eq : @laws_toPairS_L0 = @laws_toPairS_L0.b := funext fun α => congrFun (Classical.choose_spec laws_toPairS_L0.ex) α
theorem laws_toPairS_L0.zero {α : Type} (N : Nat) (v17 : List (Int × Int × Unit)) (v18 : Int) (v19 : List (Int × Int × Unit)) (k0 : List (Int × Int × Unit) → Option α) : laws_toPairS_L0 N 0 v17 v18 v19 k0 = none := by rw [laws_toPairS_L0.eq]; rfl
theorem laws_toPairS_L0.succ {α : Type} (N n : Nat) (v17 : List (Int × Int × Unit)) (v18 : Int) (v19 : List (Int × Int × Unit)) (k0 : List (Int × Int × Unit) → Option α) : laws_toPairS_L0 N (n + 1) v17 v18 v19 k0 = laws_toPairS_L0r N (fun y0 y1 y2 => laws_toPairS_L0 N n y0 y1 y2 k0) k0 v17 v18 v19 := by rw [laws_toPairS_L0.eq]; rfl
/-- loop.example/pinfold/laws.toPairS -/
noncomputable def laws_toPairS.b {α : Type} (N : Nat) (a14 : List (Int × Int × Unit)) (k0 : List (Int × Int × Unit) → Option α) : Option α :=
  let x15 := ((a14.length : Nat) : Int)
  bif (decide ((0 : Int) ≤ x15)) then
    bif decide (x15 ≤ x15) then
      bif (decide (x15 ≤ ((8796093022208 : Nat) : Int))) then
        let x16 := (List.replicate x15.toNat ((0 : Int), ((0 : Int), ())))
        laws_toPairS_L0 N N a14 (0 : Int) x16
          (fun x28 =>
            k0 x28)
      else
        none
    else
      none
  else
    none
theorem laws_toPairS.ex : ∃ f : ((α : Type) → Nat → List (Int × Int × Unit) → (List (Int × Int × Unit) → Option α) → Option α), f = fun α => @laws_toPairS.b α := ⟨_, rfl⟩
noncomputable def laws_toPairS {α : Type} : Nat → List (Int × Int × Unit) → (List (Int × Int × Unit) → Option α) → Option α := Classical.choose laws_toPairS.ex α
theorem laws_toPairS.eq : @laws_toPairS = @laws_toPairS.b := funext fun α => congrFun (Classical.choose_spec laws_toPairS.ex) α

/-- loop.example/pinfold/laws.toBox -/
noncomputable def laws_toBox.b {α : Type} (N : Nat) (a13 : (List (Int × Int × Unit)) × Unit) (k0 : List (Int × Int × Unit) → Option α) : Option α :=
  laws_toPairS N a13.1
    (fun x29 =>
      k0 x29)
theorem laws_toBox.ex : ∃ f : ((α : Type) → Nat → ((List (Int × Int × Unit)) × Unit) → (List (Int × Int × Unit) → Option α) → Option α), f = fun α => @laws_toBox.b α := ⟨_, rfl⟩
noncomputable def laws_toBox {α : Type} : Nat → ((List (Int × Int × Unit)) × Unit) → (List (Int × Int × Unit) → Option α) → Option α := Classical.choose laws_toBox.ex α
theorem laws_toBox.eq : @laws_toBox = @laws_toBox.b := funext fun α => congrFun (Classical.choose_spec laws_toBox.ex) α

/-- loop.example/pinfold/spec.BitTop -/
noncomputable def spec_BitTop.b {α : Type} (N : Nat) (a46 : Int) (k0 : Int → Option α) : Option α :=
  let x47 := (decide (a46 = (32 : Int)))
  bif x47 then
    k0 (2139095040 : Int)
  else
    let x48 := (decide (a46 = (64 : Int)))
    bif x48 then
      k0 (9218868437227405312 : Int)
    else
      k0 (0 : Int)
theorem spec_BitTop.ex : ∃ f : ((α : Type) → Nat → Int → (Int → Option α) → Option α), f = fun α => @spec_BitTop.b α := ⟨_, rfl⟩
noncomputable def spec_BitTop {α : Type} : Nat → Int → (Int → Option α) → Option α := Classical.choose spec_BitTop.ex α
theorem spec_BitTop.eq : @spec_BitTop = @spec_BitTop.b := funext fun α => congrFun (Classical.choose_spec spec_BitTop.ex) α

/-- loop.example/pinfold/spec.l1Width -/
noncomputable def spec_l1Width.b {α : Type} (N : Nat) (a52 : Int) (k0 : Bool → Option α) : Option α :=
  let x53 := (decide (a52 = (32 : Int)))
  bif x53 then
    k0 true
  else
    let x54 := (decide (a52 = (64 : Int)))
    k0 x54
theorem spec_l1Width.ex : ∃ f : ((α : Type) → Nat → Int → (Bool → Option α) → Option α), f = fun α => @spec_l1Width.b α := ⟨_, rfl⟩
noncomputable def spec_l1Width {α : Type} : Nat → Int → (Bool → Option α) → Option α := Classical.choose spec_l1Width.ex α
theorem spec_l1Width.eq : @spec_l1Width = @spec_l1Width.b := funext fun α => congrFun (Classical.choose_spec spec_l1Width.ex) α

/-- loop.example/pinfold/spec.BitOk -/
noncomputable def spec_BitOk.b {α : Type} (N : Nat) (a50 : Int) (a51 : Int) (k0 : Bool → Option α) : Option α :=
  spec_l1Width N a50
    (fun x55 =>
      bif x55 then
        spec_BitTop N a50
          (fun x56 =>
            let x57 := IntKind.i64.wrap (0 - x56)
            let x58 := decide (x57 ≤ a51)
            bif x58 then
              spec_BitTop N a50
                (fun x59 =>
                  let x60 := decide (a51 ≤ x59)
                  k0 x60)
            else
              k0 false)
      else
        k0 false)
theorem spec_BitOk.ex : ∃ f : ((α : Type) → Nat → Int → Int → (Bool → Option α) → Option α), f = fun α => @spec_BitOk.b α := ⟨_, rfl⟩
noncomputable def spec_BitOk {α : Type} : Nat → Int → Int → (Bool → Option α) → Option α := Classical.choose spec_BitOk.ex α
theorem spec_BitOk.eq : @spec_BitOk = @spec_BitOk.b := funext fun α => congrFun (Classical.choose_spec spec_BitOk.ex) α

/-- loop.example/pinfold/spec.PairOk -/
noncomputable def spec_PairOk.b {α : Type} (N : Nat) (a44 : Int) (a45 : Int × Int × Unit) (k0 : Bool → Option α) : Option α :=
  spec_BitTop N a44
    (fun x49 =>
      spec_BitOk N a44 a45.1
        (fun x61 =>
          bif x61 then
            spec_BitOk N a44 a45.2.1
              (fun x62 =>
                bif x62 then
                  let x63 := decide (a45.1 ≤ a45.2.1)
                  bif x63 then
                    let x64 := decide (a45.1 < x49)
                    bif x64 then
                      let x65 := IntKind.i64.wrap (0 - x49)
                      let x66 := decide (x65 < a45.2.1)
                      k0 x66
                    else
                      k0 false
                  else
                    k0 false
                else
                  k0 false)
          else
            k0 false))
theorem spec_PairOk.ex : ∃ f : ((α : Type) → Nat → Int → (Int × Int × Unit) → (Bool → Option α) → Option α), f = fun α => @spec_PairOk.b α := ⟨_, rfl⟩
noncomputable def spec_PairOk {α : Type} : Nat → Int → (Int × Int × Unit) → (Bool → Option α) → Option α := Classical.choose spec_PairOk.ex α
theorem spec_PairOk.eq : @spec_PairOk = @spec_PairOk.b := funext fun α => congrFun (Classical.choose_spec spec_PairOk.ex) α

noncomputable def spec_BoxOk_L0r {α : Type} (N : Nat) (next : Int → Int → ((List (Int × Int × Unit)) × Unit) → Option α) (k0 : Bool → Option α) (k1 : Option α) (v38 : Int) (v39 : Int) (v40 : (List (Int × Int × Unit)) × Unit) : Option α :=
  let x41 := ((v40.1.length : Nat) : Int)
  let x42 := decide (v39 < x41)
  bif x42 then
    bif (decide (v39 < (0 : Int))) then
      none
    else
      match v40.1[v39.toNat]? with
      | some x43 =>
        spec_PairOk N v38 x43
          (fun x67 =>
            let x68 := !x67
            bif x68 then
              k0 false
            else
              let x69 := (IntKind.i64.wrap (v39 + (1 : Int)))
              next v38 x69 v40)
      | none => none
  else
    k1
noncomputable def spec_BoxOk_L0.b {α : Type} (N n : Nat) (v38 : Int) (v39 : Int) (v40 : (List (Int × Int × Unit)) × Unit) (k0 : Bool → Option α) (k1 : Option α) : Option α :=
  Nat.rec (motive := fun _ => Int → Int → ((List (Int × Int × Unit)) × Unit) → Option α) (fun _ _ _ => none) (fun _ next => spec_BoxOk_L0r N next k0 k1) n v38 v39 v40
theorem spec_BoxOk_L0.ex : ∃ f : ((α : Type) → Nat → Nat → Int → Int → ((List (Int × Int × Unit)) × Unit) → (Bool → Option α) → (Option α) → Option α), f = fun α => @spec_BoxOk_L0.b α := ⟨_, rfl⟩
noncomputable def spec_BoxOk_L0 {α : Type} : Nat → Nat → Int → Int → ((List (Int × Int × Unit)) × Unit) → (Bool → Option α) → (Option α) → Option α := Classical.choose spec_BoxOk_L0.ex α
theorem spec_BoxOk_L0.eq : @spec_BoxOk_L0 = @spec_BoxOk_L0.b := funext fun α => congrFun (Classical.choose_spec spec_BoxOk_L0.ex) α
theorem spec_BoxOk_L0.zero {α : Type} (N : Nat) (v38 : Int) (v39 : Int) (v40 : (List (Int × Int × Unit)) × Unit) (k0 : Bool → Option α) (k1 : Option α) : spec_BoxOk_L0 N 0 v38 v39 v40 k0 k1 = none := by rw [spec_BoxOk_L0.eq]; rfl
theorem spec_BoxOk_L0.succ {α : Type} (N n : Nat) (v38 : Int) (v39 : Int) (v40 : (List (Int × Int × Unit)) × Unit) (k0 : Bool → Option α) (k1 : Option α) : spec_BoxOk_L0 N (n + 1) v38 v39 v40 k0 k1 = spec_BoxOk_L0r N (fun y0 y1 y2 => spec_BoxOk_L0 N n y0 y1 y2 k0 k1) k0 k1 v38 v39 v40 := by rw [spec_BoxOk_L0.eq]; rfl
/-- loop.example/pinfold/spec.BoxOk -/
noncomputable def spec_BoxOk.b {α : Type} (N : Nat) (a32 : Int) (a33 : (List (Int × Int × Unit)) × Unit) (k0 : Bool → Option α) : Option α :=
  let x34 := ((a33.1.length : Nat) : Int)
  let x35 := (decide (x34 < (1 : Int)))
  bif x35 then
    k0 false
  else
    let x36 := ((a33.1.length : Nat) : Int)
    let x37 := (decide ((6 : Int) < x36))
    bif x37 then
      k0 false
    else
      spec_BoxOk_L0 N N a32 (0 : Int) a33
        (fun x70 =>
          k0 x70)
        (
          k0 true)
theorem spec_BoxOk.ex : ∃ f : ((α : Type) → Nat → Int → ((List (Int × Int × Unit)) × Unit) → (Bool → Option α) → Option α), f = fun α => @spec_BoxOk.b α := ⟨_, rfl⟩
noncomputable def spec_BoxOk {α : Type} : Nat → Int → ((List (Int × Int × Unit)) × Unit) → (Bool → Option α) → Option α := Classical.choose spec_BoxOk.ex α
theorem spec_BoxOk.eq : @spec_BoxOk = @spec_BoxOk.b := funext fun α => congrFun (Classical.choose_spec spec_BoxOk.ex) α

/-- loop.example/pinfold/spec.l1Least -/
noncomputable def spec_l1Least.b {α : Type} (N : Nat) (a114 : Int) (k0 : Int → Option α) : Option α :=
  let x115 := (decide (a114 = (32 : Int)))
  bif x115 then
    k0 (-149 : Int)
  else
    k0 (-1074 : Int)
theorem spec_l1Least.ex : ∃ f : ((α : Type) → Nat → Int → (Int → Option α) → Option α), f = fun α => @spec_l1Least.b α := ⟨_, rfl⟩
noncomputable def spec_l1Least {α : Type} : Nat → Int → (Int → Option α) → Option α := Classical.choose spec_l1Least.ex α
theorem spec_l1Least.eq : @spec_l1Least = @spec_l1Least.b := funext fun α => congrFun (Classical.choose_spec spec_l1Least.ex) α

/-- loop.example/pinfold/spec.l1Frac -/
noncomputable def spec_l1Frac.b {α : Type} (N : Nat) (a127 : Int) (k0 : Int → Option α) : Option α :=
  let x128 := (decide (a127 = (32 : Int)))
  bif x128 then
    k0 (23 : Int)
  else
    k0 (52 : Int)
theorem spec_l1Frac.ex : ∃ f : ((α : Type) → Nat → Int → (Int → Option α) → Option α), f = fun α => @spec_l1Frac.b α := ⟨_, rfl⟩
noncomputable def spec_l1Frac {α : Type} : Nat → Int → (Int → Option α) → Option α := Classical.choose spec_l1Frac.ex α
theorem spec_l1Frac.eq : @spec_l1Frac = @spec_l1Frac.b := funext fun α => congrFun (Classical.choose_spec spec_l1Frac.ex) α

noncomputable def spec_BitPartOf_J5.b {α : Type} (N : Nat) (v117 : Int) (v118 : Int) (v119 : Bool × Int × Int × Unit) (v120 : Bool × Int × Int × Unit) (k0 : Int → Int → (Bool × Int × Int × Unit) → (Bool × Int × Int × Unit) → Option α) : Option α :=
  let x121 := (decide (v118 < (0 : Int)))
  bif x121 then
    let x122 := IntKind.i64.wrap (0 - v118)
    k0 v117 x122 v119 v120
  else
    k0 v117 v118 v119 v120
theorem spec_BitPartOf_J5.ex : ∃ f : ((α : Type) → Nat → Int → Int → (Bool × Int × Int × Unit) → (Bool × Int × Int × Unit) → (Int → Int → (Bool × Int × Int × Unit) → (Bool × Int × Int × Unit) → Option α) → Option α), f = fun α => @spec_BitPartOf_J5.b α := ⟨_, rfl⟩
noncomputable def spec_BitPartOf_J5 {α : Type} : Nat → Int → Int → (Bool × Int × Int × Unit) → (Bool × Int × Int × Unit) → (Int → Int → (Bool × Int × Int × Unit) → (Bool × Int × Int × Unit) → Option α) → Option α := Classical.choose spec_BitPartOf_J5.ex α
theorem spec_BitPartOf_J5.eq : @spec_BitPartOf_J5 = @spec_BitPartOf_J5.b := funext fun α => congrFun (Classical.choose_spec spec_BitPartOf_J5.ex) α
noncomputable def spec_BitPartOf_J10.b {α : Type} (N : Nat) (v135 : Int) (v136 : Int) (v137 : Bool × Int × Int × Unit) (v138 : Bool × Int × Int × Unit) (k0 : (Bool × Int × Int × Unit) → (Bool × Int × Int × Unit) → Option α) : Option α :=
  let x139 := (decide ((0 : Int) < v136))
  bif x139 then
    let x140 := IntKind.u64.wrap v135
    let x141 := IntKind.u64.wrap (v138.2.1 + x140)
    let x142 := IntKind.i64.wrap (v138.2.2.1 + v136)
    let x143 := (IntKind.i64.wrap (x142 - (1 : Int)))
    k0 v137 (v138.1, (x141, (x143, ())))
  else
    k0 v137 v138
theorem spec_BitPartOf_J10.ex : ∃ f : ((α : Type) → Nat → Int → Int → (Bool × Int × Int × Unit) → (Bool × Int × Int × Unit) → ((Bool × Int × Int × Unit) → (Bool × Int × Int × Unit) → Option α) → Option α), f = fun α => @spec_BitPartOf_J10.b α := ⟨_, rfl⟩
noncomputable def spec_BitPartOf_J10 {α : Type} : Nat → Int → Int → (Bool × Int × Int × Unit) → (Bool × Int × Int × Unit) → ((Bool × Int × Int × Unit) → (Bool × Int × Int × Unit) → Option α) → Option α := Classical.choose spec_BitPartOf_J10.ex α
theorem spec_BitPartOf_J10.eq : @spec_BitPartOf_J10 = @spec_BitPartOf_J10.b := funext fun α => congrFun (Classical.choose_spec spec_BitPartOf_J10.ex) α
/-- loop.example/pinfold/spec.BitPartOf -/
noncomputable def spec_BitPartOf.b {α : Type} (N : Nat) (a104 : Int) (a105 : Int) (k0 : (Bool × Int × Int × Unit) → Bool → Option α) : Option α :=
  spec_BitOk N a104 a105
    (fun x106 =>
      let x107 := !x106
      bif x107 then
        k0 (false, ((0 : Int), ((0 : Int), ()))) false
      else
        spec_BitTop N a104
          (fun x108 =>
            let x109 := decide (a105 = x108)
            bif x109 then
              k0 (false, ((0 : Int), ((0 : Int), ()))) false
            else
              spec_BitTop N a104
                (fun x110 =>
                  let x111 := IntKind.i64.wrap (0 - x110)
                  let x112 := decide (a105 = x111)
                  bif x112 then
                    k0 (false, ((0 : Int), ((0 : Int), ()))) false
                  else
                    let x113 := (decide (a105 < (0 : Int)))
                    spec_l1Least N a104
                      (fun x116 =>
                        spec_BitPartOf_J5 N a104 a105 (false, ((0 : Int), ((0 : Int), ()))) (x113, ((0 : Int), (x116, ())))
                          (fun x123 x124 x125 x126 =>
                            spec_l1Frac N x123
                              (fun x129 =>
                                let x130 := IntKind.u64.wrap x129
                                bif (decide (x130 < (0 : Int))) then
                                  none
                                else
                                  let x131 := (shlI .i64 (1 : Int) x130)
                                  bif (decide (x131 = (0 : Int))) then
                                    none
                                  else
                                    let x132 := IntKind.i64.wrap (Int.tdiv x124 x131)
                                    bif (decide (x131 = (0 : Int))) then
                                      none
                                    else
                                      let x133 := Int.tmod x124 x131
                                      let x134 := IntKind.u64.wrap x133
                                      spec_BitPartOf_J10 N x131 x132 x125 (x126.1, (x134, (x126.2.2.1, ())))
                                        (fun _ x145 =>
                                          k0 x145 true)))))))
theorem spec_BitPartOf.ex : ∃ f : ((α : Type) → Nat → Int → Int → ((Bool × Int × Int × Unit) → Bool → Option α) → Option α), f = fun α => @spec_BitPartOf.b α := ⟨_, rfl⟩
noncomputable def spec_BitPartOf {α : Type} : Nat → Int → Int → ((Bool × Int × Int × Unit) → Bool → Option α) → Option α := Classical.choose spec_BitPartOf.ex α
theorem spec_BitPartOf.eq : @spec_BitPartOf = @spec_BitPartOf.b := funext fun α => congrFun (Classical.choose_spec spec_BitPartOf.ex) α

noncomputable def spec_BitMake_L0r {α : Type} (N : Nat) (next : Int → Int → Int → Int → (Bool × Int × Int × Unit) → Option α) (k0 : Int → Int → Int → Int → (Bool × Int × Int × Unit) → Option α) (v163 : Int) (v164 : Int) (v165 : Int) (v166 : Int) (v167 : Bool × Int × Int × Unit) : Option α :=
  let x168 := (Int.tmod v164 (2 : Int))
  let x169 := (decide (x168 = (0 : Int)))
  bif x169 then
    let x170 := (IntKind.u64.wrap ((2 : Int) * v166))
    let x171 := decide (x170 ≤ v164)
    bif x171 then
      let x172 := (IntKind.u64.wrap (Int.tdiv v164 (2 : Int)))
      let x173 := (IntKind.i64.wrap (v165 + (1 : Int)))
      next v163 x172 x173 v166 v167
    else
      spec_l1Least N v163
        (fun x174 =>
          let x175 := decide (v165 < x174)
          bif x175 then
            let x176 := (IntKind.u64.wrap (Int.tdiv v164 (2 : Int)))
            let x177 := (IntKind.i64.wrap (v165 + (1 : Int)))
            next v163 x176 x177 v166 v167
          else
            k0 v163 v164 v165 v166 v167)
  else
    k0 v163 v164 v165 v166 v167
noncomputable def spec_BitMake_L0.b {α : Type} (N n : Nat) (v163 : Int) (v164 : Int) (v165 : Int) (v166 : Int) (v167 : Bool × Int × Int × Unit) (k0 : Int → Int → Int → Int → (Bool × Int × Int × Unit) → Option α) : Option α :=
  Nat.rec (motive := fun _ => Int → Int → Int → Int → (Bool × Int × Int × Unit) → Option α) (fun _ _ _ _ _ => none) (fun _ next => spec_BitMake_L0r N next k0) n v163 v164 v165 v166 v167
theorem spec_BitMake_L0.ex : ∃ f : ((α : Type) → Nat → Nat → Int → Int → Int → Int → (Bool × Int × Int × Unit) → (Int → Int → Int → Int → (Bool × Int × Int × Unit) → Option α) → Option α), f = fun α => @spec_BitMake_L0.b α := ⟨_, rfl⟩
noncomputable def spec_BitMake_L0 {α : Type} : Nat → Nat → Int → Int → Int → Int → (Bool × Int × Int × Unit) → (Int → Int → Int → Int → (Bool × Int × Int × Unit) → Option α) → Option α := Classical.choose spec_BitMake_L0.ex α
theorem spec_BitMake_L0.eq : @spec_BitMake_L0 = @spec_BitMake_L0.b := funext fun α => congrFun (Classical.choose_spec spec_BitMake_L0.ex) α
theorem spec_BitMake_L0.zero {α : Type} (N : Nat) (v163 : Int) (v164 : Int) (v165 : Int) (v166 : Int) (v167 : Bool × Int × Int × Unit) (k0 : Int → Int → Int → Int → (Bool × Int × Int × Unit) → Option α) : spec_BitMake_L0 N 0 v163 v164 v165 v166 v167 k0 = none := by rw [spec_BitMake_L0.eq]; rfl
theorem spec_BitMake_L0.succ {α : Type} (N n : Nat) (v163 : Int) (v164 : Int) (v165 : Int) (v166 : Int) (v167 : Bool × Int × Int × Unit) (k0 : Int → Int → Int → Int → (Bool × Int × Int × Unit) → Option α) : spec_BitMake_L0 N (n + 1) v163 v164 v165 v166 v167 k0 = spec_BitMake_L0r N (fun y0 y1 y2 y3 y4 => spec_BitMake_L0 N n y0 y1 y2 y3 y4 k0) k0 v163 v164 v165 v166 v167 := by rw [spec_BitMake_L0.eq]; rfl
noncomputable def spec_BitMake_L2r {α : Type} (N : Nat) (next : Int → Int → Int → Int → (Bool × Int × Int × Unit) → Option α) (k0 : Int → Int → Int → Int → (Bool × Int × Int × Unit) → Option α) (v183 : Int) (v184 : Int) (v185 : Int) (v186 : Int) (v187 : Bool × Int × Int × Unit) : Option α :=
  let x188 := decide (v184 < v186)
  bif x188 then
    spec_l1Least N v183
      (fun x189 =>
        let x190 := decide (x189 < v185)
        bif x190 then
          let x191 := (IntKind.u64.wrap (v184 * (2 : Int)))
          let x192 := (IntKind.i64.wrap (v185 - (1 : Int)))
          next v183 x191 x192 v186 v187
        else
          k0 v183 v184 v185 v186 v187)
  else
    k0 v183 v184 v185 v186 v187
noncomputable def spec_BitMake_L2.b {α : Type} (N n : Nat) (v183 : Int) (v184 : Int) (v185 : Int) (v186 : Int) (v187 : Bool × Int × Int × Unit) (k0 : Int → Int → Int → Int → (Bool × Int × Int × Unit) → Option α) : Option α :=
  Nat.rec (motive := fun _ => Int → Int → Int → Int → (Bool × Int × Int × Unit) → Option α) (fun _ _ _ _ _ => none) (fun _ next => spec_BitMake_L2r N next k0) n v183 v184 v185 v186 v187
theorem spec_BitMake_L2.ex : ∃ f : ((α : Type) → Nat → Nat → Int → Int → Int → Int → (Bool × Int × Int × Unit) → (Int → Int → Int → Int → (Bool × Int × Int × Unit) → Option α) → Option α), f = fun α => @spec_BitMake_L2.b α := ⟨_, rfl⟩
noncomputable def spec_BitMake_L2 {α : Type} : Nat → Nat → Int → Int → Int → Int → (Bool × Int × Int × Unit) → (Int → Int → Int → Int → (Bool × Int × Int × Unit) → Option α) → Option α := Classical.choose spec_BitMake_L2.ex α
theorem spec_BitMake_L2.eq : @spec_BitMake_L2 = @spec_BitMake_L2.b := funext fun α => congrFun (Classical.choose_spec spec_BitMake_L2.ex) α
theorem spec_BitMake_L2.zero {α : Type} (N : Nat) (v183 : Int) (v184 : Int) (v185 : Int) (v186 : Int) (v187 : Bool × Int × Int × Unit) (k0 : Int → Int → Int → Int → (Bool × Int × Int × Unit) → Option α) : spec_BitMake_L2 N 0 v183 v184 v185 v186 v187 k0 = none := by rw [spec_BitMake_L2.eq]; rfl
theorem spec_BitMake_L2.succ {α : Type} (N n : Nat) (v183 : Int) (v184 : Int) (v185 : Int) (v186 : Int) (v187 : Bool × Int × Int × Unit) (k0 : Int → Int → Int → Int → (Bool × Int × Int × Unit) → Option α) : spec_BitMake_L2 N (n + 1) v183 v184 v185 v186 v187 k0 = spec_BitMake_L2r N (fun y0 y1 y2 y3 y4 => spec_BitMake_L2 N n y0 y1 y2 y3 y4 k0) k0 v183 v184 v185 v186 v187 := by rw [spec_BitMake_L2.eq]; rfl
noncomputable def spec_BitMake_J17.b {α : Type} (N : Nat) (v203 : Int) (v204 : Int) (v205 : Int) (v206 : Int) (v207 : Int) (v208 : Bool × Int × Int × Unit) (k0 : Int → Bool → Option α) (k1 : Int → (Bool × Int × Int × Unit) → Option α) : Option α :=
  let x209 := decide (v206 ≤ v204)
  bif x209 then
    spec_l1Least N v203
      (fun x210 =>
        let x211 := IntKind.i64.wrap (v205 - x210)
        let x212 := (IntKind.i64.wrap (x211 + (1 : Int)))
        spec_BitTop N v203
          (fun x213 =>
            let x214 := IntKind.i64.wrap v206
            bif (decide (x214 = (0 : Int))) then
              none
            else
              let x215 := IntKind.i64.wrap (Int.tdiv x213 x214)
              let x216 := (IntKind.i64.wrap (x215 - (1 : Int)))
              let x217 := decide (x216 < x212)
              bif x217 then
                k0 (0 : Int) false
              else
                let x218 := IntKind.i64.wrap v206
                let x219 := IntKind.i64.wrap (x212 * x218)
                let x220 := IntKind.u64.wrap (v204 - v206)
                let x221 := IntKind.i64.wrap x220
                let x222 := IntKind.i64.wrap (x219 + x221)
                k1 x222 v208))
  else
    k1 v207 v208
theorem spec_BitMake_J17.ex : ∃ f : ((α : Type) → Nat → Int → Int → Int → Int → Int → (Bool × Int × Int × Unit) → (Int → Bool → Option α) → (Int → (Bool × Int × Int × Unit) → Option α) → Option α), f = fun α => @spec_BitMake_J17.b α := ⟨_, rfl⟩
noncomputable def spec_BitMake_J17 {α : Type} : Nat → Int → Int → Int → Int → Int → (Bool × Int × Int × Unit) → (Int → Bool → Option α) → (Int → (Bool × Int × Int × Unit) → Option α) → Option α := Classical.choose spec_BitMake_J17.ex α
theorem spec_BitMake_J17.eq : @spec_BitMake_J17 = @spec_BitMake_J17.b := funext fun α => congrFun (Classical.choose_spec spec_BitMake_J17.ex) α
/-- loop.example/pinfold/spec.BitMake -/
noncomputable def spec_BitMake.b {α : Type} (N : Nat) (a153 : Int) (a154 : Bool × Int × Int × Unit) (k0 : Int → Bool → Option α) : Option α :=
  spec_l1Width N a153
    (fun x155 =>
      let x156 := !x155
      bif x156 then
        k0 (0 : Int) false
      else
        let x157 := (decide (a154.2.2.1 < (-2000 : Int)))
        bif x157 then
          k0 (0 : Int) false
        else
          let x158 := (decide ((2000 : Int) < a154.2.2.1))
          bif x158 then
            k0 (0 : Int) false
          else
            let x159 := (decide (a154.2.1 = (0 : Int)))
            bif x159 then
              k0 (0 : Int) true
            else
              spec_l1Frac N a153
                (fun x160 =>
                  let x161 := IntKind.u64.wrap x160
                  bif (decide (x161 < (0 : Int))) then
                    none
                  else
                    let x162 := (shlI .u64 (1 : Int) x161)
                    spec_BitMake_L0 N N a153 a154.2.1 a154.2.2.1 x162 a154
                      (fun x178 x179 x180 x181 x182 =>
                        spec_BitMake_L2 N N x178 x179 x180 x181 x182
                          (fun x193 x194 x195 x196 x197 =>
                            let x198 := (IntKind.u64.wrap ((2 : Int) * x196))
                            let x199 := decide (x198 ≤ x194)
                            bif x199 then
                              k0 (0 : Int) false
                            else
                              spec_l1Least N x193
                                (fun x200 =>
                                  let x201 := decide (x195 < x200)
                                  bif x201 then
                                    k0 (0 : Int) false
                                  else
                                    let x202 := IntKind.i64.wrap x194
                                    spec_BitMake_J17 N x193 x194 x195 x196 x202 x197
                                      (fun x223 x224 =>
                                        k0 x223 x224)
                                      (fun x225 x226 =>
                                        bif x226.1 then
                                          let x227 := IntKind.i64.wrap (0 - x225)
                                          k0 x227 true
                                        else
                                          k0 x225 true))))))
theorem spec_BitMake.ex : ∃ f : ((α : Type) → Nat → Int → (Bool × Int × Int × Unit) → (Int → Bool → Option α) → Option α), f = fun α => @spec_BitMake.b α := ⟨_, rfl⟩
noncomputable def spec_BitMake {α : Type} : Nat → Int → (Bool × Int × Int × Unit) → (Int → Bool → Option α) → Option α := Classical.choose spec_BitMake.ex α
theorem spec_BitMake.eq : @spec_BitMake = @spec_BitMake.b := funext fun α => congrFun (Classical.choose_spec spec_BitMake.ex) α

/-- loop.example/pinfold/spec.BitWiden -/
noncomputable def spec_BitWiden.b {α : Type} (N : Nat) (a101 : Int) (k0 : Int → Bool → Option α) : Option α :=
  spec_BitOk N (32 : Int) a101
    (fun x102 =>
      let x103 := !x102
      bif x103 then
        k0 (0 : Int) false
      else
        spec_BitPartOf N (32 : Int) a101
          (fun x146 x147 =>
            let x148 := !x147
            bif x148 then
              let x149 := (decide (a101 < (0 : Int)))
              bif x149 then
                spec_BitTop N (64 : Int)
                  (fun x150 =>
                    let x151 := IntKind.i64.wrap (0 - x150)
                    k0 x151 true)
              else
                spec_BitTop N (64 : Int)
                  (fun x152 =>
                    k0 x152 true)
            else
              spec_BitMake N (64 : Int) x146
                (fun x228 x229 =>
                  k0 x228 x229)))
theorem spec_BitWiden.ex : ∃ f : ((α : Type) → Nat → Int → (Int → Bool → Option α) → Option α), f = fun α => @spec_BitWiden.b α := ⟨_, rfl⟩
noncomputable def spec_BitWiden {α : Type} : Nat → Int → (Int → Bool → Option α) → Option α := Classical.choose spec_BitWiden.ex α
theorem spec_BitWiden.eq : @spec_BitWiden = @spec_BitWiden.b := funext fun α => congrFun (Classical.choose_spec spec_BitWiden.ex) α

/-- loop.example/pinfold/spec.l2Wide -/
noncomputable def spec_l2Wide.b {α : Type} (N : Nat) (a100 : Int) (k0 : Int → Option α) : Option α :=
  spec_BitWiden N a100
    (fun x230 _ =>
      k0 x230)
theorem spec_l2Wide.ex : ∃ f : ((α : Type) → Nat → Int → (Int → Option α) → Option α), f = fun α => @spec_l2Wide.b α := ⟨_, rfl⟩
noncomputable def spec_l2Wide {α : Type} : Nat → Int → (Int → Option α) → Option α := Classical.choose spec_l2Wide.ex α
theorem spec_l2Wide.eq : @spec_l2Wide = @spec_l2Wide.b := funext fun α => congrFun (Classical.choose_spec spec_l2Wide.ex) α

noncomputable def spec_BitBelow_J7.b {α : Type} (N : Nat) (v96 : Int) (v97 : Int) (v98 : Int) (v99 : Int) (k0 : Int → Int → Int → Option α) : Option α :=
  spec_l2Wide N v99
    (fun x232 =>
      let x233 := decide (x232 ≤ v96)
      bif x233 then
        k0 v96 v99 v98
      else
        let x234 := (IntKind.i64.wrap (v99 - (1 : Int)))
        k0 v96 v97 x234)
theorem spec_BitBelow_J7.ex : ∃ f : ((α : Type) → Nat → Int → Int → Int → Int → (Int → Int → Int → Option α) → Option α), f = fun α => @spec_BitBelow_J7.b α := ⟨_, rfl⟩
noncomputable def spec_BitBelow_J7 {α : Type} : Nat → Int → Int → Int → Int → (Int → Int → Int → Option α) → Option α := Classical.choose spec_BitBelow_J7.ex α
theorem spec_BitBelow_J7.eq : @spec_BitBelow_J7 = @spec_BitBelow_J7.b := funext fun α => congrFun (Classical.choose_spec spec_BitBelow_J7.ex) α
noncomputable def spec_BitBelow_L0r {α : Type} (N : Nat) (next : Int → Int → Int → Option α) (k0 : Int → Option α) (v89 : Int) (v90 : Int) (v91 : Int) : Option α :=
  let x92 := decide (v90 < v91)
  bif x92 then
    let x93 := IntKind.i64.wrap (v91 - v90)
    let x94 := (IntKind.i64.wrap (Int.tdiv x93 (2 : Int)))
    let x95 := IntKind.i64.wrap (v91 - x94)
    spec_BitBelow_J7 N v89 v90 v91 x95
      (fun x235 x236 x237 =>
        next x235 x236 x237)
  else
    k0 v90
noncomputable def spec_BitBelow_L0.b {α : Type} (N n : Nat) (v89 : Int) (v90 : Int) (v91 : Int) (k0 : Int → Option α) : Option α :=
  Nat.rec (motive := fun _ => Int → Int → Int → Option α) (fun _ _ _ => none) (fun _ next => spec_BitBelow_L0r N next k0) n v89 v90 v91
theorem spec_BitBelow_L0.ex : ∃ f : ((α : Type) → Nat → Nat → Int → Int → Int → (Int → Option α) → Option α), f = fun α => @spec_BitBelow_L0.b α := ⟨_, rfl⟩
noncomputable def spec_BitBelow_L0 {α : Type} : Nat → Nat → Int → Int → Int → (Int → Option α) → Option α := Classical.choose spec_BitBelow_L0.ex α
theorem spec_BitBelow_L0.eq : @spec_BitBelow_L0 = @spec_BitBelow_L0.b := funext fun α => congrFun (Classical.choose_spec spec_BitBelow_L0.ex) α
theorem spec_BitBelow_L0.zero {α : Type} (N : Nat) (v89 : Int) (v90 : Int) (v91 : Int) (k0 : Int → Option α) : spec_BitBelow_L0 N 0 v89 v90 v91 k0 = none := by rw [spec_BitBelow_L0.eq]; rfl
theorem spec_BitBelow_L0.succ {α : Type} (N n : Nat) (v89 : Int) (v90 : Int) (v91 : Int) (k0 : Int → Option α) : spec_BitBelow_L0 N (n + 1) v89 v90 v91 k0 = spec_BitBelow_L0r N (fun y0 y1 y2 => spec_BitBelow_L0 N n y0 y1 y2 k0) k0 v89 v90 v91 := by rw [spec_BitBelow_L0.eq]; rfl
/-- loop.example/pinfold/spec.BitBelow -/
noncomputable def spec_BitBelow.b {α : Type} (N : Nat) (a83 : Int) (k0 : Int → Bool → Option α) : Option α :=
  spec_BitOk N (64 : Int) a83
    (fun x84 =>
      let x85 := !x84
      bif x85 then
        k0 (0 : Int) false
      else
        spec_BitTop N (32 : Int)
          (fun x86 =>
            let x87 := IntKind.i64.wrap (0 - x86)
            spec_BitTop N (32 : Int)
              (fun x88 =>
                spec_BitBelow_L0 N N a83 x87 x88
                  (fun x238 =>
                    k0 x238 true))))
theorem spec_BitBelow.ex : ∃ f : ((α : Type) → Nat → Int → (Int → Bool → Option α) → Option α), f = fun α => @spec_BitBelow.b α := ⟨_, rfl⟩
noncomputable def spec_BitBelow {α : Type} : Nat → Int → (Int → Bool → Option α) → Option α := Classical.choose spec_BitBelow.ex α
theorem spec_BitBelow.eq : @spec_BitBelow = @spec_BitBelow.b := funext fun α => congrFun (Classical.choose_spec spec_BitBelow.ex) α

/-- loop.example/pinfold/spec.BitAbove -/
noncomputable def spec_BitAbove.b {α : Type} (N : Nat) (a241 : Int) (k0 : Int → Bool → Option α) : Option α :=
  let x242 := IntKind.i64.wrap (0 - a241)
  spec_BitBelow N x242
    (fun x243 x244 =>
      let x245 := IntKind.i64.wrap (0 - x243)
      k0 x245 x244)
theorem spec_BitAbove.ex : ∃ f : ((α : Type) → Nat → Int → (Int → Bool → Option α) → Option α), f = fun α => @spec_BitAbove.b α := ⟨_, rfl⟩
noncomputable def spec_BitAbove {α : Type} : Nat → Int → (Int → Bool → Option α) → Option α := Classical.choose spec_BitAbove.ex α
theorem spec_BitAbove.eq : @spec_BitAbove = @spec_BitAbove.b := funext fun α => congrFun (Classical.choose_spec spec_BitAbove.ex) α

/-- loop.example/pinfold/spec.PairLess -/
noncomputable def spec_PairLess.b {α : Type} (N : Nat) (a80 : Int × Int × Unit) (k0 : (Int × Int × Unit) → Bool → Option α) : Option α :=
  spec_PairOk N (64 : Int) a80
    (fun x81 =>
      let x82 := !x81
      bif x82 then
        k0 ((0 : Int), ((0 : Int), ())) false
      else
        spec_BitBelow N a80.1
          (fun x239 _ =>
            spec_BitAbove N a80.2.1
              (fun x246 _ =>
                k0 (x239, (x246, ())) true)))
theorem spec_PairLess.ex : ∃ f : ((α : Type) → Nat → (Int × Int × Unit) → ((Int × Int × Unit) → Bool → Option α) → Option α), f = fun α => @spec_PairLess.b α := ⟨_, rfl⟩
noncomputable def spec_PairLess {α : Type} : Nat → (Int × Int × Unit) → ((Int × Int × Unit) → Bool → Option α) → Option α := Classical.choose spec_PairLess.ex α
theorem spec_PairLess.eq : @spec_PairLess = @spec_PairLess.b := funext fun α => congrFun (Classical.choose_spec spec_PairLess.ex) α

noncomputable def spec_BoxLess_L0r {α : Type} (N : Nat) (next : Int → ((List (Int × Int × Unit)) × Unit) → List (Int × Int × Unit) → List (Int × Int × Unit) → Option α) (k0 : List (Int × Int × Unit) → List (Int × Int × Unit) → Option α) (v73 : Int) (v74 : (List (Int × Int × Unit)) × Unit) (v75 : List (Int × Int × Unit)) (v76 : List (Int × Int × Unit)) : Option α :=
  let x77 := ((v74.1.length : Nat) : Int)
  let x78 := decide (v73 < x77)
  bif x78 then
    bif (decide (v73 < (0 : Int))) then
      none
    else
      match v74.1[v73.toNat]? with
      | some x79 =>
        spec_PairLess N x79
          (fun x248 _ =>
            let x250 := [x248]
            bif decide (v76.length + x250.length ≤ 8796093022208) then
              let x251 := v76 ++ x250
              let x252 := (IntKind.i64.wrap (v73 + (1 : Int)))
              next x252 v74 v75 x251
            else
              none)
      | none => none
  else
    k0 v75 v76
noncomputable def spec_BoxLess_L0.b {α : Type} (N n : Nat) (v73 : Int) (v74 : (List (Int × Int × Unit)) × Unit) (v75 : List (Int × Int × Unit)) (v76 : List (Int × Int × Unit)) (k0 : List (Int × Int × Unit) → List (Int × Int × Unit) → Option α) : Option α :=
  Nat.rec (motive := fun _ => Int → ((List (Int × Int × Unit)) × Unit) → List (Int × Int × Unit) → List (Int × Int × Unit) → Option α) (fun _ _ _ _ => none) (fun _ next => spec_BoxLess_L0r N next k0) n v73 v74 v75 v76
theorem spec_BoxLess_L0.ex : ∃ f : ((α : Type) → Nat → Nat → Int → ((List (Int × Int × Unit)) × Unit) → List (Int × Int × Unit) → List (Int × Int × Unit) → (List (Int × Int × Unit) → List (Int × Int × Unit) → Option α) → Option α), f = fun α => @spec_BoxLess_L0.b α := ⟨_, rfl⟩
noncomputable def spec_BoxLess_L0 {α : Type} : Nat → Nat → Int → ((List (Int × Int × Unit)) × Unit) → List (Int × Int × Unit) → List (Int × Int × Unit) → (List (Int × Int × Unit) → List (Int × Int × Unit) → Option α) → Option α := Classical.choose spec_BoxLess_L0.ex α
theorem spec_BoxLess_L0.eq : @spec_BoxLess_L0 = @spec_BoxLess_L0.b := funext fun α => congrFun (Classical.choose_spec spec_BoxLess_L0.ex) α
theorem spec_BoxLess_L0.zero {α : Type} (N : Nat) (v73 : Int) (v74 : (List (Int × Int × Unit)) × Unit) (v75 : List (Int × Int × Unit)) (v76 : List (Int × Int × Unit)) (k0 : List (Int × Int × Unit) → List (Int × Int × Unit) → Option α) : spec_BoxLess_L0 N 0 v73 v74 v75 v76 k0 = none := by rw [spec_BoxLess_L0.eq]; rfl
theorem spec_BoxLess_L0.succ {α : Type} (N n : Nat) (v73 : Int) (v74 : (List (Int × Int × Unit)) × Unit) (v75 : List (Int × Int × Unit)) (v76 : List (Int × Int × Unit)) (k0 : List (Int × Int × Unit) → List (Int × Int × Unit) → Option α) : spec_BoxLess_L0 N (n + 1) v73 v74 v75 v76 k0 = spec_BoxLess_L0r N (fun y0 y1 y2 y3 => spec_BoxLess_L0 N n y0 y1 y2 y3 k0) k0 v73 v74 v75 v76 := by rw [spec_BoxLess_L0.eq]; rfl
/-- loop.example/pinfold/spec.BoxLess -/
noncomputable def spec_BoxLess.b {α : Type} (N : Nat) (a31 : (List (Int × Int × Unit)) × Unit) (k0 : Bool → List (Int × Int × Unit) → Option α) : Option α :=
  spec_BoxOk N (64 : Int) a31
    (fun x71 =>
      let x72 := !x71
      bif x72 then
        k0 false []
      else
        spec_BoxLess_L0 N N (0 : Int) a31 [] []
          (fun _ x254 =>
            k0 true x254))
theorem spec_BoxLess.ex : ∃ f : ((α : Type) → Nat → ((List (Int × Int × Unit)) × Unit) → (Bool → List (Int × Int × Unit) → Option α) → Option α), f = fun α => @spec_BoxLess.b α := ⟨_, rfl⟩
noncomputable def spec_BoxLess {α : Type} : Nat → ((List (Int × Int × Unit)) × Unit) → (Bool → List (Int × Int × Unit) → Option α) → Option α := Classical.choose spec_BoxLess.ex α
theorem spec_BoxLess.eq : @spec_BoxLess = @spec_BoxLess.b := funext fun α => congrFun (Classical.choose_spec spec_BoxLess.ex) α

/-- loop.example/pinfold/impl.in -/
noncomputable def impl_in.b {α : Type} (N : Nat) (a262 : Int) (a263 : Int) (a264 : Int) (k0 : Bool → Option α) : Option α :=
  let x265 := decide (a263 ≤ a262)
  bif x265 then
    let x266 := decide (a262 ≤ a264)
    k0 x266
  else
    k0 false
theorem impl_in.ex : ∃ f : ((α : Type) → Nat → Int → Int → Int → (Bool → Option α) → Option α), f = fun α => @impl_in.b α := ⟨_, rfl⟩
noncomputable def impl_in {α : Type} : Nat → Int → Int → Int → (Bool → Option α) → Option α := Classical.choose impl_in.ex α
theorem impl_in.eq : @impl_in = @impl_in.b := funext fun α => congrFun (Classical.choose_spec impl_in.ex) α

/-- loop.example/pinfold/impl.formatOf -/
noncomputable def impl_formatOf.b {α : Type} (N : Nat) (a284 : Int) (k0 : (Int × Int × Int × Int × Unit) → Bool → Option α) : Option α :=
  let x285 := (decide (a284 = (32 : Int)))
  bif x285 then
    k0 ((23 : Int), ((-149 : Int), ((127 : Int), ((2139095040 : Int), ())))) true
  else
    let x286 := (decide (a284 = (64 : Int)))
    bif x286 then
      k0 ((52 : Int), ((-1074 : Int), ((1023 : Int), ((9218868437227405312 : Int), ())))) true
    else
      k0 ((0 : Int), ((0 : Int), ((0 : Int), ((0 : Int), ())))) false
theorem impl_formatOf.ex : ∃ f : ((α : Type) → Nat → Int → ((Int × Int × Int × Int × Unit) → Bool → Option α) → Option α), f = fun α => @impl_formatOf.b α := ⟨_, rfl⟩
noncomputable def impl_formatOf {α : Type} : Nat → Int → ((Int × Int × Int × Int × Unit) → Bool → Option α) → Option α := Classical.choose impl_formatOf.ex α
theorem impl_formatOf.eq : @impl_formatOf = @impl_formatOf.b := funext fun α => congrFun (Classical.choose_spec impl_formatOf.ex) α

/-- loop.example/pinfold/impl.BitTop -/
noncomputable def impl_BitTop.b {α : Type} (N : Nat) (a283 : Int) (k0 : Int → Option α) : Option α :=
  impl_formatOf N a283
    (fun x287 _ =>
      k0 x287.2.2.2.1)
theorem impl_BitTop.ex : ∃ f : ((α : Type) → Nat → Int → (Int → Option α) → Option α), f = fun α => @impl_BitTop.b α := ⟨_, rfl⟩
noncomputable def impl_BitTop {α : Type} : Nat → Int → (Int → Option α) → Option α := Classical.choose impl_BitTop.ex α
theorem impl_BitTop.eq : @impl_BitTop = @impl_BitTop.b := funext fun α => congrFun (Classical.choose_spec impl_BitTop.ex) α

/-- loop.example/pinfold/impl.BitOk -/
noncomputable def impl_BitOk.b {α : Type} (N : Nat) (a290 : Int) (a291 : Int) (k0 : Bool → Option α) : Option α :=
  impl_formatOf N a290
    (fun x292 x293 =>
      bif x293 then
        let x294 := IntKind.i64.wrap (0 - x292.2.2.2.1)
        impl_in N a291 x294 x292.2.2.2.1
          (fun x295 =>
            k0 x295)
      else
        k0 false)
theorem impl_BitOk.ex : ∃ f : ((α : Type) → Nat → Int → Int → (Bool → Option α) → Option α), f = fun α => @impl_BitOk.b α := ⟨_, rfl⟩
noncomputable def impl_BitOk {α : Type} : Nat → Int → Int → (Bool → Option α) → Option α := Classical.choose impl_BitOk.ex α
theorem impl_BitOk.eq : @impl_BitOk = @impl_BitOk.b := funext fun α => congrFun (Classical.choose_spec impl_BitOk.ex) α

/-- loop.example/pinfold/impl.PairOk -/
noncomputable def impl_PairOk.b {α : Type} (N : Nat) (a281 : Int) (a282 : Int × Int × Unit) (k0 : Bool → Option α) : Option α :=
  impl_BitTop N a281
    (fun x289 =>
      impl_BitOk N a281 a282.1
        (fun x296 =>
          bif x296 then
            impl_BitOk N a281 a282.2.1
              (fun x297 =>
                bif x297 then
                  let x298 := decide (a282.1 ≤ a282.2.1)
                  bif x298 then
                    let x299 := !(decide (a282.1 = x289))
                    bif x299 then
                      let x300 := IntKind.i64.wrap (0 - x289)
                      let x301 := !(decide (a282.2.1 = x300))
                      k0 x301
                    else
                      k0 false
                  else
                    k0 false
                else
                  k0 false)
          else
            k0 false))
theorem impl_PairOk.ex : ∃ f : ((α : Type) → Nat → Int → (Int × Int × Unit) → (Bool → Option α) → Option α), f = fun α => @impl_PairOk.b α := ⟨_, rfl⟩
noncomputable def impl_PairOk {α : Type} : Nat → Int → (Int × Int × Unit) → (Bool → Option α) → Option α := Classical.choose impl_PairOk.ex α
theorem impl_PairOk.eq : @impl_PairOk = @impl_PairOk.b := funext fun α => congrFun (Classical.choose_spec impl_PairOk.ex) α

/-- loop.example/pinfold/impl.BoxOk$1 -/
noncomputable def impl_BoxOk_1.b {α : Type} (N : Nat) (a279 : Int × Int × Unit) (a280 : Int) (k0 : Bool → Option α) : Option α :=
  impl_PairOk N a280 a279
    (fun x302 =>
      let x303 := !x302
      k0 x303)
theorem impl_BoxOk_1.ex : ∃ f : ((α : Type) → Nat → (Int × Int × Unit) → Int → (Bool → Option α) → Option α), f = fun α => @impl_BoxOk_1.b α := ⟨_, rfl⟩
noncomputable def impl_BoxOk_1 {α : Type} : Nat → (Int × Int × Unit) → Int → (Bool → Option α) → Option α := Classical.choose impl_BoxOk_1.ex α
theorem impl_BoxOk_1.eq : @impl_BoxOk_1 = @impl_BoxOk_1.b := funext fun α => congrFun (Classical.choose_spec impl_BoxOk_1.ex) α

noncomputable def slices_IndexFunc_impl_Pair_impl_Pair__impl_BoxOk_1_L0r {α : Type} (N : Nat) (next : List (Int × Int × Unit) → Int → Int → Int → Option α) (k0 : Int → Option α) (k1 : Option α) (v273 : List (Int × Int × Unit)) (v274 : Int) (v275 : Int) (v276 : Int) : Option α :=
  let x277 := decide (v276 < v275)
  bif x277 then
    bif (decide (v276 < (0 : Int))) then
      none
    else
      match v273[v276.toNat]? with
      | some x278 =>
        impl_BoxOk_1 N x278 v274
          (fun x304 =>
            bif x304 then
              k0 v276
            else
              let x305 := (IntKind.i64.wrap (v276 + (1 : Int)))
              next v273 v274 v275 x305)
      | none => none
  else
    k1
noncomputable def slices_IndexFunc_impl_Pair_impl_Pair__impl_BoxOk_1_L0.b {α : Type} (N n : Nat) (v273 : List (Int × Int × Unit)) (v274 : Int) (v275 : Int) (v276 : Int) (k0 : Int → Option α) (k1 : Option α) : Option α :=
  Nat.rec (motive := fun _ => List (Int × Int × Unit) → Int → Int → Int → Option α) (fun _ _ _ _ => none) (fun _ next => slices_IndexFunc_impl_Pair_impl_Pair__impl_BoxOk_1_L0r N next k0 k1) n v273 v274 v275 v276
theorem slices_IndexFunc_impl_Pair_impl_Pair__impl_BoxOk_1_L0.ex : ∃ f : ((α : Type) → Nat → Nat → List (Int × Int × Unit) → Int → Int → Int → (Int → Option α) → (Option α) → Option α), f = fun α => @slices_IndexFunc_impl_Pair_impl_Pair__impl_BoxOk_1_L0.b α := ⟨_, rfl⟩
noncomputable def slices_IndexFunc_impl_Pair_impl_Pair__impl_BoxOk_1_L0 {α : Type} : Nat → Nat → List (Int × Int × Unit) → Int → Int → Int → (Int → Option α) → (Option α) → Option α := Classical.choose slices_IndexFunc_impl_Pair_impl_Pair__impl_BoxOk_1_L0.ex α
theorem slices_IndexFunc_impl_Pair_impl_Pair__impl_BoxOk_1_L0.eq : @slices_IndexFunc_impl_Pair_impl_Pair__impl_BoxOk_1_L0 = @slices_IndexFunc_impl_Pair_impl_Pair__impl_BoxOk_1_L0.b := funext fun α => congrFun (Classical.choose_spec slices_IndexFunc_impl_Pair_impl_Pair__impl_BoxOk_1_L0.ex) α
theorem slices_IndexFunc_impl_Pair_impl_Pair__impl_BoxOk_1_L0.zero {α : Type} (N : Nat) (v273 : List (Int × Int × Unit)) (v274 : Int) (v275 : Int) (v276 : Int) (k0 : Int → Option α) (k1 : Option α) : slices_IndexFunc_impl_Pair_impl_Pair__impl_BoxOk_1_L0 N 0 v273 v274 v275 v276 k0 k1 = none := by rw [slices_IndexFunc_impl_Pair_impl_Pair__impl_BoxOk_1_L0.eq]; rfl
theorem slices_IndexFunc_impl_Pair_impl_Pair__impl_BoxOk_1_L0.succ {α : Type} (N n : Nat) (v273 : List (Int × Int × Unit)) (v274 : Int) (v275 : Int) (v276 : Int) (k0 : Int → Option α) (k1 : Option α) : slices_IndexFunc_impl_Pair_impl_Pair__impl_BoxOk_1_L0 N (n + 1) v273 v274 v275 v276 k0 k1 = slices_IndexFunc_impl_Pair_impl_Pair__impl_BoxOk_1_L0r N (fun y0 y1 y2 y3 => slices_IndexFunc_impl_Pair_impl_Pair__impl_BoxOk_1_L0 N n y0 y1 y2 y3 k0 k1) k0 k1 v273 v274 v275 v276 := by rw [slices_IndexFunc_impl_Pair_impl_Pair__impl_BoxOk_1_L0.eq]; rfl
/-- slices.IndexFunc[[]loop.example/pinfold/impl.Pair,loop.example/pinfold/impl.Pair] -/
noncomputable def slices_IndexFunc_impl_Pair_impl_Pair__impl_BoxOk_1.b {α : Type} (N : Nat) (a270 : List (Int × Int × Unit)) (a271 : Int) (k0 : Int → Option α) : Option α :=
  let x272 := ((a270.length : Nat) : Int)
  slices_IndexFunc_impl_Pair_impl_Pair__impl_BoxOk_1_L0 N N a270 a271 x272 (0 : Int)
    (fun x306 =>
      k0 x306)
    (
      k0 (-1 : Int))
theorem slices_IndexFunc_impl_Pair_impl_Pair__impl_BoxOk_1.ex : ∃ f : ((α : Type) → Nat → List (Int × Int × Unit) → Int → (Int → Option α) → Option α), f = fun α => @slices_IndexFunc_impl_Pair_impl_Pair__impl_BoxOk_1.b α := ⟨_, rfl⟩
noncomputable def slices_IndexFunc_impl_Pair_impl_Pair__impl_BoxOk_1 {α : Type} : Nat → List (Int × Int × Unit) → Int → (Int → Option α) → Option α := Classical.choose slices_IndexFunc_impl_Pair_impl_Pair__impl_BoxOk_1.ex α
theorem slices_IndexFunc_impl_Pair_impl_Pair__impl_BoxOk_1.eq : @slices_IndexFunc_impl_Pair_impl_Pair__impl_BoxOk_1 = @slices_IndexFunc_impl_Pair_impl_Pair__impl_BoxOk_1.b := funext fun α => congrFun (Classical.choose_spec slices_IndexFunc_impl_Pair_impl_Pair__impl_BoxOk_1.ex) α

/-- slices.ContainsFunc[[]loop.example/pinfold/impl.Pair,loop.example/pinfold/impl.Pair] -/
noncomputable def slices_ContainsFunc_impl_Pair_impl_Pair__impl_BoxOk_1.b {α : Type} (N : Nat) (a268 : List (Int × Int × Unit)) (a269 : Int) (k0 : Bool → Option α) : Option α :=
  slices_IndexFunc_impl_Pair_impl_Pair__impl_BoxOk_1 N a268 a269
    (fun x307 =>
      let x308 := (decide ((0 : Int) ≤ x307))
      k0 x308)
theorem slices_ContainsFunc_impl_Pair_impl_Pair__impl_BoxOk_1.ex : ∃ f : ((α : Type) → Nat → List (Int × Int × Unit) → Int → (Bool → Option α) → Option α), f = fun α => @slices_ContainsFunc_impl_Pair_impl_Pair__impl_BoxOk_1.b α := ⟨_, rfl⟩
noncomputable def slices_ContainsFunc_impl_Pair_impl_Pair__impl_BoxOk_1 {α : Type} : Nat → List (Int × Int × Unit) → Int → (Bool → Option α) → Option α := Classical.choose slices_ContainsFunc_impl_Pair_impl_Pair__impl_BoxOk_1.ex α
theorem slices_ContainsFunc_impl_Pair_impl_Pair__impl_BoxOk_1.eq : @slices_ContainsFunc_impl_Pair_impl_Pair__impl_BoxOk_1 = @slices_ContainsFunc_impl_Pair_impl_Pair__impl_BoxOk_1.b := funext fun α => congrFun (Classical.choose_spec slices_ContainsFunc_impl_Pair_impl_Pair__impl_BoxOk_1.ex) α

/-- loop.example/pinfold/impl.BoxOk -/
noncomputable def impl_BoxOk.b {α : Type} (N : Nat) (a259 : Int) (a260 : (List (Int × Int × Unit)) × Unit) (k0 : Bool → Option α) : Option α :=
  let x261 := ((a260.1.length : Nat) : Int)
  impl_in N x261 (1 : Int) (6 : Int)
    (fun x267 =>
      bif x267 then
        slices_ContainsFunc_impl_Pair_impl_Pair__impl_BoxOk_1 N a260.1 a259
          (fun x309 =>
            let x310 := !x309
            k0 x310)
      else
        k0 false)
theorem impl_BoxOk.ex : ∃ f : ((α : Type) → Nat → Int → ((List (Int × Int × Unit)) × Unit) → (Bool → Option α) → Option α), f = fun α => @impl_BoxOk.b α := ⟨_, rfl⟩
noncomputable def impl_BoxOk {α : Type} : Nat → Int → ((List (Int × Int × Unit)) × Unit) → (Bool → Option α) → Option α := Classical.choose impl_BoxOk.ex α
theorem impl_BoxOk.eq : @impl_BoxOk = @impl_BoxOk.b := funext fun α => congrFun (Classical.choose_spec impl_BoxOk.ex) α

/-- loop.example/pinfold/impl.size -/
noncomputable def impl_size.b {α : Type} (N : Nat) (a352 : Int) (k0 : Int → Option α) : Option α :=
  let x353 := IntKind.i64.wrap (0 - a352)
  let x354 := maxI a352 x353
  k0 x354
theorem impl_size.ex : ∃ f : ((α : Type) → Nat → Int → (Int → Option α) → Option α), f = fun α => @impl_size.b α := ⟨_, rfl⟩
noncomputable def impl_size {α : Type} : Nat → Int → (Int → Option α) → Option α := Classical.choose impl_size.ex α
theorem impl_size.eq : @impl_size = @impl_size.b := funext fun α => congrFun (Classical.choose_spec impl_size.ex) α

/-- loop.example/pinfold/impl.BitPartOf -/
noncomputable def impl_BitPartOf.b {α : Type} (N : Nat) (a346 : Int) (a347 : Int) (k0 : (Bool × Int × Int × Unit) → Bool → Option α) : Option α :=
  impl_formatOf N a346
    (fun x348 _ =>
      impl_BitOk N a346 a347
        (fun x350 =>
          let x351 := !x350
          bif x351 then
            k0 (false, ((0 : Int), ((0 : Int), ()))) false
          else
            impl_size N a347
              (fun x355 =>
                let x356 := decide (x355 = x348.2.2.2.1)
                bif x356 then
                  k0 (false, ((0 : Int), ((0 : Int), ()))) false
                else
                  impl_size N a347
                    (fun x357 =>
                      bif (decide (x348.1 < (0 : Int))) then
                        none
                      else
                        let x358 := (shlI .i64 (1 : Int) x348.1)
                        let x359 := (IntKind.i64.wrap (x358 - (1 : Int)))
                        let x360 := bitI .and .i64 x357 x359
                        impl_size N a347
                          (fun x361 =>
                            bif (decide (x348.1 < (0 : Int))) then
                              none
                            else
                              let x362 := shrI .i64 x361 x348.1
                              let x363 := (decide (x362 = (0 : Int)))
                              bif x363 then
                                let x364 := (decide (a347 < (0 : Int)))
                                let x365 := IntKind.u64.wrap x360
                                k0 (x364, (x365, (x348.2.1, ()))) true
                              else
                                let x366 := (decide (a347 < (0 : Int)))
                                bif (decide (x348.1 < (0 : Int))) then
                                  none
                                else
                                  let x367 := (shlI .i64 (1 : Int) x348.1)
                                  let x368 := bitI .or .i64 x360 x367
                                  let x369 := IntKind.u64.wrap x368
                                  let x370 := IntKind.i64.wrap (x348.2.1 + x362)
                                  let x371 := (IntKind.i64.wrap (x370 - (1 : Int)))
                                  k0 (x366, (x369, (x371, ()))) true)))))
theorem impl_BitPartOf.ex : ∃ f : ((α : Type) → Nat → Int → Int → ((Bool × Int × Int × Unit) → Bool → Option α) → Option α), f = fun α => @impl_BitPartOf.b α := ⟨_, rfl⟩
noncomputable def impl_BitPartOf {α : Type} : Nat → Int → Int → ((Bool × Int × Int × Unit) → Bool → Option α) → Option α := Classical.choose impl_BitPartOf.ex α
theorem impl_BitPartOf.eq : @impl_BitPartOf = @impl_BitPartOf.b := funext fun α => congrFun (Classical.choose_spec impl_BitPartOf.ex) α

-- prim math_bits_TrailingZeros64
noncomputable def math_bits_Len64_J1.b {α : Type} (N : Nat) (v386 : Int) (v387 : Int) (k0 : Int → Int → Option α) : Option α :=
  let x388 := (decide ((4294967296 : Int) ≤ v386))
  bif x388 then
    let x389 := (shrI .u64 v386 (32 : Int))
    k0 x389 (32 : Int)
  else
    k0 v386 v387
theorem math_bits_Len64_J1.ex : ∃ f : ((α : Type) → Nat → Int → Int → (Int → Int → Option α) → Option α), f = fun α => @math_bits_Len64_J1.b α := ⟨_, rfl⟩
noncomputable def math_bits_Len64_J1 {α : Type} : Nat → Int → Int → (Int → Int → Option α) → Option α := Classical.choose math_bits_Len64_J1.ex α
theorem math_bits_Len64_J1.eq : @math_bits_Len64_J1 = @math_bits_Len64_J1.b := funext fun α => congrFun (Classical.choose_spec math_bits_Len64_J1.ex) α
noncomputable def math_bits_Len64_J4.b {α : Type} (N : Nat) (v392 : Int) (v393 : Int) (k0 : Int → Int → Option α) : Option α :=
  let x394 := (decide ((65536 : Int) ≤ v392))
  bif x394 then
    let x395 := (shrI .u64 v392 (16 : Int))
    let x396 := (IntKind.i64.wrap (v393 + (16 : Int)))
    k0 x395 x396
  else
    k0 v392 v393
theorem math_bits_Len64_J4.ex : ∃ f : ((α : Type) → Nat → Int → Int → (Int → Int → Option α) → Option α), f = fun α => @math_bits_Len64_J4.b α := ⟨_, rfl⟩
noncomputable def math_bits_Len64_J4 {α : Type} : Nat → Int → Int → (Int → Int → Option α) → Option α := Classical.choose math_bits_Len64_J4.ex α
theorem math_bits_Len64_J4.eq : @math_bits_Len64_J4 = @math_bits_Len64_J4.b := funext fun α => congrFun (Classical.choose_spec math_bits_Len64_J4.ex) α
noncomputable def math_bits_Len64_J7.b {α : Type} (N : Nat) (v399 : Int) (v400 : Int) (k0 : Int → Int → Option α) : Option α :=
  let x401 := (decide ((256 : Int) ≤ v399))
  bif x401 then
    let x402 := (shrI .u64 v399 (8 : Int))
    let x403 := (IntKind.i64.wrap (v400 + (8 : Int)))
    k0 x402 x403
  else
    k0 v399 v400
theorem math_bits_Len64_J7.ex : ∃ f : ((α : Type) → Nat → Int → Int → (Int → Int → Option α) → Option α), f = fun α => @math_bits_Len64_J7.b α := ⟨_, rfl⟩
noncomputable def math_bits_Len64_J7 {α : Type} : Nat → Int → Int → (Int → Int → Option α) → Option α := Classical.choose math_bits_Len64_J7.ex α
theorem math_bits_Len64_J7.eq : @math_bits_Len64_J7 = @math_bits_Len64_J7.b := funext fun α => congrFun (Classical.choose_spec math_bits_Len64_J7.ex) α
/-- math/bits.Len64 -/
noncomputable def math_bits_Len64.b {α : Type} (N : Nat) (a385 : Int) (k0 : Int → Option α) : Option α :=
  math_bits_Len64_J1 N a385 (0 : Int)
    (fun x390 x391 =>
      math_bits_Len64_J4 N x390 x391
        (fun x397 x398 =>
          math_bits_Len64_J7 N x397 x398
            (fun x404 x405 =>
              let x406 := IntKind.u8.wrap x404
              bif (decide (x406 < (0 : Int))) then
                none
              else
                match ((⟨#[0, 1, 2, 2, 3, 3, 3, 3, 4, 4, 4, 4, 4, 4, 4, 4, 5, 5, 5, 5, 5, 5, 5, 5, 5, 5, 5, 5, 5, 5, 5, 5, 6, 6, 6, 6, 6, 6, 6, 6, 6, 6, 6, 6, 6, 6, 6, 6, 6, 6, 6, 6, 6, 6, 6, 6, 6, 6, 6, 6, 6, 6, 6, 6, 7, 7, 7, 7, 7, 7, 7, 7, 7, 7, 7, 7, 7, 7, 7, 7, 7, 7, 7, 7, 7, 7, 7, 7, 7, 7, 7, 7, 7, 7, 7, 7, 7, 7, 7, 7, 7, 7, 7, 7, 7, 7, 7, 7, 7, 7, 7, 7, 7, 7, 7, 7, 7, 7, 7, 7, 7, 7, 7, 7, 7, 7, 7, 7, 8, 8, 8, 8, 8, 8, 8, 8, 8, 8, 8, 8, 8, 8, 8, 8, 8, 8, 8, 8, 8, 8, 8, 8, 8, 8, 8, 8, 8, 8, 8, 8, 8, 8, 8, 8, 8, 8, 8, 8, 8, 8, 8, 8, 8, 8, 8, 8, 8, 8, 8, 8, 8, 8, 8, 8, 8, 8, 8, 8, 8, 8, 8, 8, 8, 8, 8, 8, 8, 8, 8, 8, 8, 8, 8, 8, 8, 8, 8, 8, 8, 8, 8, 8, 8, 8, 8, 8, 8, 8, 8, 8, 8, 8, 8, 8, 8, 8, 8, 8, 8, 8, 8, 8, 8, 8, 8, 8, 8, 8, 8, 8, 8, 8, 8, 8, 8, 8, 8, 8, 8, 8, 8, 8, 8, 8, 8, 8]⟩ : ByteArray)[x406.toNat]? : Option UInt8) with
                | some x407 =>
                  let x408 := ((x407.toNat : Nat) : Int)
                  let x409 := IntKind.i64.wrap x408
                  let x410 := IntKind.i64.wrap (x405 + x409)
                  k0 x410
                | none => none)))
theorem math_bits_Len64.ex : ∃ f : ((α : Type) → Nat → Int → (Int → Option α) → Option α), f = fun α => @math_bits_Len64.b α := ⟨_, rfl⟩
noncomputable def math_bits_Len64 {α : Type} : Nat → Int → (Int → Option α) → Option α := Classical.choose math_bits_Len64.ex α
theorem math_bits_Len64.eq : @math_bits_Len64 = @math_bits_Len64.b := funext fun α => congrFun (Classical.choose_spec math_bits_Len64.ex) α

noncomputable def impl_BitMake_J14.b {α : Type} (N : Nat) (v419 : Int) (v420 : Int) (v421 : Int) (v422 : Int) (v423 : Bool × Int × Int × Unit) (v424 : Int × Int × Int × Int × Unit) (k0 : Int → (Bool × Int × Int × Unit) → Option α) : Option α :=
  let x425 := (decide ((1 : Int) ≤ v422))
  bif x425 then
    bif (decide (v424.1 < (0 : Int))) then
      none
    else
      let x426 := shlI .i64 v422 v424.1
      let x427 := (IntKind.i64.wrap (v424.1 + (1 : Int)))
      let x428 := IntKind.i64.wrap (x427 - v421)
      bif (decide (x428 < (0 : Int))) then
        none
      else
        let x429 := shlI .u64 v419 x428
        let x430 := IntKind.i64.wrap x429
        bif (decide (v424.1 < (0 : Int))) then
          none
        else
          let x431 := (shlI .i64 (1 : Int) v424.1)
          let x432 := (IntKind.i64.wrap (x431 - (1 : Int)))
          let x433 := bitI .and .i64 x430 x432
          let x434 := bitI .or .i64 x426 x433
          k0 x434 v423
  else
    let x435 := IntKind.i64.wrap (v420 - v424.2.1)
    bif (decide (x435 < (0 : Int))) then
      none
    else
      let x436 := shlI .u64 v419 x435
      let x437 := IntKind.i64.wrap x436
      k0 x437 v423
theorem impl_BitMake_J14.ex : ∃ f : ((α : Type) → Nat → Int → Int → Int → Int → (Bool × Int × Int × Unit) → (Int × Int × Int × Int × Unit) → (Int → (Bool × Int × Int × Unit) → Option α) → Option α), f = fun α => @impl_BitMake_J14.b α := ⟨_, rfl⟩
noncomputable def impl_BitMake_J14 {α : Type} : Nat → Int → Int → Int → Int → (Bool × Int × Int × Unit) → (Int × Int × Int × Int × Unit) → (Int → (Bool × Int × Int × Unit) → Option α) → Option α := Classical.choose impl_BitMake_J14.ex α
theorem impl_BitMake_J14.eq : @impl_BitMake_J14 = @impl_BitMake_J14.b := funext fun α => congrFun (Classical.choose_spec impl_BitMake_J14.ex) α
noncomputable def impl_BitMake_J17.b {α : Type} (N : Nat) (v440 : Int) (v441 : Bool × Int × Int × Unit) (k0 : Int → Option α) : Option α :=
  bif v441.1 then
    let x442 := IntKind.i64.wrap (0 - v440)
    k0 x442
  else
    k0 v440
theorem impl_BitMake_J17.ex : ∃ f : ((α : Type) → Nat → Int → (Bool × Int × Int × Unit) → (Int → Option α) → Option α), f = fun α => @impl_BitMake_J17.b α := ⟨_, rfl⟩
noncomputable def impl_BitMake_J17 {α : Type} : Nat → Int → (Bool × Int × Int × Unit) → (Int → Option α) → Option α := Classical.choose impl_BitMake_J17.ex α
theorem impl_BitMake_J17.eq : @impl_BitMake_J17 = @impl_BitMake_J17.b := funext fun α => congrFun (Classical.choose_spec impl_BitMake_J17.ex) α
/-- loop.example/pinfold/impl.BitMake -/
noncomputable def impl_BitMake.b {α : Type} (N : Nat) (a374 : Int) (a375 : Bool × Int × Int × Unit) (k0 : Int → Bool → Option α) : Option α :=
  impl_formatOf N a374
    (fun x376 x377 =>
      let x378 := !x377
      bif x378 then
        k0 (0 : Int) false
      else
        impl_in N a375.2.2.1 (-2000 : Int) (2000 : Int)
          (fun x379 =>
            let x380 := !x379
            bif x380 then
              k0 (0 : Int) false
            else
              let x381 := (decide (a375.2.1 = (0 : Int)))
              bif x381 then
                k0 (0 : Int) true
              else
                math_bits_TrailingZeros64 N a375.2.1
                  (fun x382 =>
                    bif (decide (x382 < (0 : Int))) then
                      none
                    else
                      let x383 := shrI .u64 a375.2.1 x382
                      let x384 := IntKind.i64.wrap (a375.2.2.1 + x382)
                      math_bits_Len64 N x383
                        (fun x411 =>
                          let x412 := IntKind.i64.wrap (x384 + x411)
                          let x413 := (IntKind.i64.wrap (x412 - (1 : Int)))
                          let x414 := (IntKind.i64.wrap (x376.1 + (1 : Int)))
                          let x415 := decide (x414 < x411)
                          bif x415 then
                            k0 (0 : Int) false
                          else
                            let x416 := decide (x384 < x376.2.1)
                            bif x416 then
                              k0 (0 : Int) false
                            else
                              let x417 := decide (x376.2.2.1 < x413)
                              bif x417 then
                                k0 (0 : Int) false
                              else
                                let x418 := IntKind.i64.wrap (x413 + x376.2.2.1)
                                impl_BitMake_J14 N x383 x384 x411 x418 a375 x376
                                  (fun x438 x439 =>
                                    impl_BitMake_J17 N x438 x439
                                      (fun x443 =>
                                        k0 x443 true))))))
theorem impl_BitMake.ex : ∃ f : ((α : Type) → Nat → Int → (Bool × Int × Int × Unit) → (Int → Bool → Option α) → Option α), f = fun α => @impl_BitMake.b α := ⟨_, rfl⟩
noncomputable def impl_BitMake {α : Type} : Nat → Int → (Bool × Int × Int × Unit) → (Int → Bool → Option α) → Option α := Classical.choose impl_BitMake.ex α
theorem impl_BitMake.eq : @impl_BitMake = @impl_BitMake.b := funext fun α => congrFun (Classical.choose_spec impl_BitMake.ex) α

/-- loop.example/pinfold/impl.widen -/
noncomputable def impl_widen.b {α : Type} (N : Nat) (a345 : Int) (k0 : Int → Option α) : Option α :=
  impl_BitPartOf N (32 : Int) a345
    (fun x372 x373 =>
      bif x373 then
        impl_BitMake N (64 : Int) x372
          (fun x444 _ =>
            k0 x444)
      else
        let x446 := (decide (a345 < (0 : Int)))
        bif x446 then
          impl_BitTop N (64 : Int)
            (fun x447 =>
              let x448 := IntKind.i64.wrap (0 - x447)
              k0 x448)
        else
          impl_BitTop N (64 : Int)
            (fun x449 =>
              k0 x449))
theorem impl_widen.ex : ∃ f : ((α : Type) → Nat → Int → (Int → Option α) → Option α), f = fun α => @impl_widen.b α := ⟨_, rfl⟩
noncomputable def impl_widen {α : Type} : Nat → Int → (Int → Option α) → Option α := Classical.choose impl_widen.ex α
theorem impl_widen.eq : @impl_widen = @impl_widen.b := funext fun α => congrFun (Classical.choose_spec impl_widen.ex) α

noncomputable def impl_BitBelow_J6.b {α : Type} (N : Nat) (v341 : Int) (v342 : Int) (v343 : Int) (v344 : Int) (k0 : Int → Int → Int → Option α) : Option α :=
  impl_widen N v344
    (fun x450 =>
      let x451 := decide (x450 ≤ v341)
      bif x451 then
        k0 v341 v344 v343
      else
        let x452 := (IntKind.i64.wrap (v344 - (1 : Int)))
        k0 v341 v342 x452)
theorem impl_BitBelow_J6.ex : ∃ f : ((α : Type) → Nat → Int → Int → Int → Int → (Int → Int → Int → Option α) → Option α), f = fun α => @impl_BitBelow_J6.b α := ⟨_, rfl⟩
noncomputable def impl_BitBelow_J6 {α : Type} : Nat → Int → Int → Int → Int → (Int → Int → Int → Option α) → Option α := Classical.choose impl_BitBelow_J6.ex α
theorem impl_BitBelow_J6.eq : @impl_BitBelow_J6 = @impl_BitBelow_J6.b := funext fun α => congrFun (Classical.choose_spec impl_BitBelow_J6.ex) α
noncomputable def impl_BitBelow_L0r {α : Type} (N : Nat) (next : Int → Int → Int → Option α) (k0 : Int → Option α) (v333 : Int) (v334 : Int) (v335 : Int) : Option α :=
  let x336 := decide (v334 < v335)
  bif x336 then
    let x337 := IntKind.i64.wrap (v335 - v334)
    let x338 := (IntKind.i64.wrap (x337 + (1 : Int)))
    let x339 := (IntKind.i64.wrap (Int.tdiv x338 (2 : Int)))
    let x340 := IntKind.i64.wrap (v334 + x339)
    impl_BitBelow_J6 N v333 v334 v335 x340
      (fun x453 x454 x455 =>
        next x453 x454 x455)
  else
    k0 v334
noncomputable def impl_BitBelow_L0.b {α : Type} (N n : Nat) (v333 : Int) (v334 : Int) (v335 : Int) (k0 : Int → Option α) : Option α :=
  Nat.rec (motive := fun _ => Int → Int → Int → Option α) (fun _ _ _ => none) (fun _ next => impl_BitBelow_L0r N next k0) n v333 v334 v335
theorem impl_BitBelow_L0.ex : ∃ f : ((α : Type) → Nat → Nat → Int → Int → Int → (Int → Option α) → Option α), f = fun α => @impl_BitBelow_L0.b α := ⟨_, rfl⟩
noncomputable def impl_BitBelow_L0 {α : Type} : Nat → Nat → Int → Int → Int → (Int → Option α) → Option α := Classical.choose impl_BitBelow_L0.ex α
theorem impl_BitBelow_L0.eq : @impl_BitBelow_L0 = @impl_BitBelow_L0.b := funext fun α => congrFun (Classical.choose_spec impl_BitBelow_L0.ex) α
theorem impl_BitBelow_L0.zero {α : Type} (N : Nat) (v333 : Int) (v334 : Int) (v335 : Int) (k0 : Int → Option α) : impl_BitBelow_L0 N 0 v333 v334 v335 k0 = none := by rw [impl_BitBelow_L0.eq]; rfl
theorem impl_BitBelow_L0.succ {α : Type} (N n : Nat) (v333 : Int) (v334 : Int) (v335 : Int) (k0 : Int → Option α) : impl_BitBelow_L0 N (n + 1) v333 v334 v335 k0 = impl_BitBelow_L0r N (fun y0 y1 y2 => impl_BitBelow_L0 N n y0 y1 y2 k0) k0 v333 v334 v335 := by rw [impl_BitBelow_L0.eq]; rfl
/-- loop.example/pinfold/impl.BitBelow -/
noncomputable def impl_BitBelow.b {α : Type} (N : Nat) (a327 : Int) (k0 : Int → Bool → Option α) : Option α :=
  impl_BitOk N (64 : Int) a327
    (fun x328 =>
      let x329 := !x328
      bif x329 then
        k0 (0 : Int) false
      else
        impl_BitTop N (32 : Int)
          (fun x330 =>
            let x331 := IntKind.i64.wrap (0 - x330)
            impl_BitTop N (32 : Int)
              (fun x332 =>
                impl_BitBelow_L0 N N a327 x331 x332
                  (fun x456 =>
                    k0 x456 true))))
theorem impl_BitBelow.ex : ∃ f : ((α : Type) → Nat → Int → (Int → Bool → Option α) → Option α), f = fun α => @impl_BitBelow.b α := ⟨_, rfl⟩
noncomputable def impl_BitBelow {α : Type} : Nat → Int → (Int → Bool → Option α) → Option α := Classical.choose impl_BitBelow.ex α
theorem impl_BitBelow.eq : @impl_BitBelow = @impl_BitBelow.b := funext fun α => congrFun (Classical.choose_spec impl_BitBelow.ex) α

/-- loop.example/pinfold/impl.BitAbove -/
noncomputable def impl_BitAbove.b {α : Type} (N : Nat) (a459 : Int) (k0 : Int → Bool → Option α) : Option α :=
  let x460 := IntKind.i64.wrap (0 - a459)
  impl_BitBelow N x460
    (fun x461 x462 =>
      let x463 := IntKind.i64.wrap (0 - x461)
      k0 x463 x462)
theorem impl_BitAbove.ex : ∃ f : ((α : Type) → Nat → Int → (Int → Bool → Option α) → Option α), f = fun α => @impl_BitAbove.b α := ⟨_, rfl⟩
noncomputable def impl_BitAbove {α : Type} : Nat → Int → (Int → Bool → Option α) → Option α := Classical.choose impl_BitAbove.ex α
theorem impl_BitAbove.eq : @impl_BitAbove = @impl_BitAbove.b := funext fun α => congrFun (Classical.choose_spec impl_BitAbove.ex) α

/-- loop.example/pinfold/impl.PairLess -/
noncomputable def impl_PairLess.b {α : Type} (N : Nat) (a324 : Int × Int × Unit) (k0 : (Int × Int × Unit) → Bool → Option α) : Option α :=
  impl_PairOk N (64 : Int) a324
    (fun x325 =>
      let x326 := !x325
      bif x326 then
        k0 ((0 : Int), ((0 : Int), ())) false
      else
        impl_BitBelow N a324.1
          (fun x457 _ =>
            impl_BitAbove N a324.2.1
              (fun x464 _ =>
                k0 (x457, (x464, ())) true)))
theorem impl_PairLess.ex : ∃ f : ((α : Type) → Nat → (Int × Int × Unit) → ((Int × Int × Unit) → Bool → Option α) → Option α), f = fun α => @impl_PairLess.b α := ⟨_, rfl⟩
noncomputable def impl_PairLess {α : Type} : Nat → (Int × Int × Unit) → ((Int × Int × Unit) → Bool → Option α) → Option α := Classical.choose impl_PairLess.ex α
theorem impl_PairLess.eq : @impl_PairLess = @impl_PairLess.b := funext fun α => congrFun (Classical.choose_spec impl_PairLess.ex) α

noncomputable def impl_Box_mapped__impl_PairLess_L0r {α : Type} (N : Nat) (next : List (Int × Int × Unit) → Int → Int → List (Int × Int × Unit) → List (Int × Int × Unit) → Option α) (k0 : List (Int × Int × Unit) → List (Int × Int × Unit) → Option α) (v317 : List (Int × Int × Unit)) (v318 : Int) (v319 : Int) (v320 : List (Int × Int × Unit)) (v321 : List (Int × Int × Unit)) : Option α :=
  let x322 := decide (v319 < v318)
  bif x322 then
    bif (decide (v319 < (0 : Int))) then
      none
    else
      match v317[v319.toNat]? with
      | some x323 =>
        impl_PairLess N x323
          (fun x466 _ =>
            bif (decide (v319 < (0 : Int))) then
              none
            else
              bif decide (v319.toNat < v321.length) then
                match v321[v319.toNat]? with
                | some x468 =>
                  let x469 := v321.set v319.toNat x466
                  let x470 := (IntKind.i64.wrap (v319 + (1 : Int)))
                  next v317 v318 x470 v320 x469
                | none => none
              else
                none)
      | none => none
  else
    k0 v320 v321
noncomputable def impl_Box_mapped__impl_PairLess_L0.b {α : Type} (N n : Nat) (v317 : List (Int × Int × Unit)) (v318 : Int) (v319 : Int) (v320 : List (Int × Int × Unit)) (v321 : List (Int × Int × Unit)) (k0 : List (Int × Int × Unit) → List (Int × Int × Unit) → Option α) : Option α :=
  Nat.rec (motive := fun _ => List (Int × Int × Unit) → Int → Int → List (Int × Int × Unit) → List (Int × Int × Unit) → Option α) (fun _ _ _ _ _ => none) (fun _ next => impl_Box_mapped__impl_PairLess_L0r N next k0) n v317 v318 v319 v320 v321
theorem impl_Box_mapped__impl_PairLess_L0.ex : ∃ f : ((α : Type) → Nat → Nat → List (Int × Int × Unit) → Int → Int → List (Int × Int × Unit) → List (Int × Int × Unit) → (List (Int × Int × Unit) → List (Int × Int × Unit) → Option α) → Option α), f = fun α => @impl_Box_mapped__impl_PairLess_L0.b α := ⟨_, rfl⟩
noncomputable def impl_Box_mapped__impl_PairLess_L0 {α : Type} : Nat → Nat → List (Int × Int × Unit) → Int → Int → List (Int × Int × Unit) → List (Int × Int × Unit) → (List (Int × Int × Unit) → List (Int × Int × Unit) → Option α) → Option α := Classical.choose impl_Box_mapped__impl_PairLess_L0.ex α
theorem impl_Box_mapped__impl_PairLess_L0.eq : @impl_Box_mapped__impl_PairLess_L0 = @impl_Box_mapped__impl_PairLess_L0.b := funext fun α => congrFun (Classical.choose_spec impl_Box_mapped__impl_PairLess_L0.ex) α
theorem impl_Box_mapped__impl_PairLess_L0.zero {α : Type} (N : Nat) (v317 : List (Int × Int × Unit)) (v318 : Int) (v319 : Int) (v320 : List (Int × Int × Unit)) (v321 : List (Int × Int × Unit)) (k0 : List (Int × Int × Unit) → List (Int × Int × Unit) → Option α) : impl_Box_mapped__impl_PairLess_L0 N 0 v317 v318 v319 v320 v321 k0 = none := by rw [impl_Box_mapped__impl_PairLess_L0.eq]; rfl
theorem impl_Box_mapped__impl_PairLess_L0.succ {α : Type} (N n : Nat) (v317 : List (Int × Int × Unit)) (v318 : Int) (v319 : Int) (v320 : List (Int × Int × Unit)) (v321 : List (Int × Int × Unit)) (k0 : List (Int × Int × Unit) → List (Int × Int × Unit) → Option α) : impl_Box_mapped__impl_PairLess_L0 N (n + 1) v317 v318 v319 v320 v321 k0 = impl_Box_mapped__impl_PairLess_L0r N (fun y0 y1 y2 y3 y4 => impl_Box_mapped__impl_PairLess_L0 N n y0 y1 y2 y3 y4 k0) k0 v317 v318 v319 v320 v321 := by rw [impl_Box_mapped__impl_PairLess_L0.eq]; rfl
/-- (loop.example/pinfold/impl.Box).mapped -/
noncomputable def impl_Box_mapped__impl_PairLess.b {α : Type} (N : Nat) (a313 : (List (Int × Int × Unit)) × Unit) (k0 : List (Int × Int × Unit) → Option α) : Option α :=
  let x314 := ((a313.1.length : Nat) : Int)
  bif (decide ((0 : Int) ≤ x314)) then
    bif decide (x314 ≤ x314) then
      bif (decide (x314 ≤ ((8796093022208 : Nat) : Int))) then
        let x315 := (List.replicate x314.toNat ((0 : Int), ((0 : Int), ())))
        let x316 := ((a313.1.length : Nat) : Int)
        impl_Box_mapped__impl_PairLess_L0 N N a313.1 x316 (0 : Int) [] x315
          (fun _ x472 =>
            k0 x472)
      else
        none
    else
      none
  else
    none
theorem impl_Box_mapped__impl_PairLess.ex : ∃ f : ((α : Type) → Nat → ((List (Int × Int × Unit)) × Unit) → (List (Int × Int × Unit) → Option α) → Option α), f = fun α => @impl_Box_mapped__impl_PairLess.b α := ⟨_, rfl⟩
noncomputable def impl_Box_mapped__impl_PairLess {α : Type} : Nat → ((List (Int × Int × Unit)) × Unit) → (List (Int × Int × Unit) → Option α) → Option α := Classical.choose impl_Box_mapped__impl_PairLess.ex α
theorem impl_Box_mapped__impl_PairLess.eq : @impl_Box_mapped__impl_PairLess = @impl_Box_mapped__impl_PairLess.b := funext fun α => congrFun (Classical.choose_spec impl_Box_mapped__impl_PairLess.ex) α

/-- loop.example/pinfold/impl.BoxLess -/
noncomputable def impl_BoxLess.b {α : Type} (N : Nat) (a258 : (List (Int × Int × Unit)) × Unit) (k0 : Bool → List (Int × Int × Unit) → Option α) : Option α :=
  impl_BoxOk N (64 : Int) a258
    (fun x311 =>
      let x312 := !x311
      bif x312 then
        k0 false []
      else
        impl_Box_mapped__impl_PairLess N a258
          (fun x473 =>
            k0 true x473))
theorem impl_BoxLess.ex : ∃ f : ((α : Type) → Nat → ((List (Int × Int × Unit)) × Unit) → (Bool → List (Int × Int × Unit) → Option α) → Option α), f = fun α => @impl_BoxLess.b α := ⟨_, rfl⟩
noncomputable def impl_BoxLess {α : Type} : Nat → ((List (Int × Int × Unit)) × Unit) → (Bool → List (Int × Int × Unit) → Option α) → Option α := Classical.choose impl_BoxLess.ex α
theorem impl_BoxLess.eq : @impl_BoxLess = @impl_BoxLess.b := funext fun α => congrFun (Classical.choose_spec impl_BoxLess.ex) α

/-- loop.example/pinfold/laws.eqPair -/
noncomputable def laws_eqPair.b {α : Type} (N : Nat) (a490 : Int × Int × Unit) (a491 : Int × Int × Unit) (k0 : Bool → Option α) : Option α :=
  let x492 := !(decide (a490.1 = a491.1))
  bif x492 then
    k0 false
  else
    let x493 := !(decide (a490.2.1 = a491.2.1))
    bif x493 then
      k0 false
    else
      k0 true
theorem laws_eqPair.ex : ∃ f : ((α : Type) → Nat → (Int × Int × Unit) → (Int × Int × Unit) → (Bool → Option α) → Option α), f = fun α => @laws_eqPair.b α := ⟨_, rfl⟩
noncomputable def laws_eqPair {α : Type} : Nat → (Int × Int × Unit) → (Int × Int × Unit) → (Bool → Option α) → Option α := Classical.choose laws_eqPair.ex α
theorem laws_eqPair.eq : @laws_eqPair = @laws_eqPair.b := funext fun α => congrFun (Classical.choose_spec laws_eqPair.ex) α

noncomputable def laws_eqPairS_L0r {α : Type} (N : Nat) (next : List (Int × Int × Unit) → List (Int × Int × Unit) → Int → Option α) (k0 : Bool → Option α) (k1 : Option α) (v483 : List (Int × Int × Unit)) (v484 : List (Int × Int × Unit)) (v485 : Int) : Option α :=
  let x486 := ((v483.length : Nat) : Int)
  let x487 := decide (v485 < x486)
  bif x487 then
    bif (decide (v485 < (0 : Int))) then
      none
    else
      match v483[v485.toNat]? with
      | some x488 =>
        bif (decide (v485 < (0 : Int))) then
          none
        else
          match v484[v485.toNat]? with
          | some x489 =>
            laws_eqPair N x488 x489
              (fun x494 =>
                let x495 := !x494
                bif x495 then
                  k0 false
                else
                  let x496 := (IntKind.i64.wrap (v485 + (1 : Int)))
                  next v483 v484 x496)
          | none => none
      | none => none
  else
    k1
noncomputable def laws_eqPairS_L0.b {α : Type} (N n : Nat) (v483 : List (Int × Int × Unit)) (v484 : List (Int × Int × Unit)) (v485 : Int) (k0 : Bool → Option α) (k1 : Option α) : Option α :=
  Nat.rec (motive := fun _ => List (Int × Int × Unit) → List (Int × Int × Unit) → Int → Option α) (fun _ _ _ => none) (fun _ next => laws_eqPairS_L0r N next k0 k1) n v483 v484 v485
theorem laws_eqPairS_L0.ex : ∃ f : ((α : Type) → Nat → Nat → List (Int × Int × Unit) → List (Int × Int × Unit) → Int → (Bool → Option α) → (Option α) → Option α), f = fun α => @laws_eqPairS_L0.b α := ⟨_, rfl⟩
noncomputable def laws_eqPairS_L0 {α : Type} : Nat → Nat → List (Int × Int × Unit) → List (Int × Int × Unit) → Int → (Bool → Option α) → (Option α) → Option α := Classical.choose laws_eqPairS_L0.ex α
theorem laws_eqPairS_L0.eq : @laws_eqPairS_L0 = @laws_eqPairS_L0.b := funext fun α => congrFun (Classical.choose_spec laws_eqPairS_L0.ex) α
theorem laws_eqPairS_L0.zero {α : Type} (N : Nat) (v483 : List (Int × Int × Unit)) (v484 : List (Int × Int × Unit)) (v485 : Int) (k0 : Bool → Option α) (k1 : Option α) : laws_eqPairS_L0 N 0 v483 v484 v485 k0 k1 = none := by rw [laws_eqPairS_L0.eq]; rfl
theorem laws_eqPairS_L0.succ {α : Type} (N n : Nat) (v483 : List (Int × Int × Unit)) (v484 : List (Int × Int × Unit)) (v485 : Int) (k0 : Bool → Option α) (k1 : Option α) : laws_eqPairS_L0 N (n + 1) v483 v484 v485 k0 k1 = laws_eqPairS_L0r N (fun y0 y1 y2 => laws_eqPairS_L0 N n y0 y1 y2 k0 k1) k0 k1 v483 v484 v485 := by rw [laws_eqPairS_L0.eq]; rfl
/-- loop.example/pinfold/laws.eqPairS -/
noncomputable def laws_eqPairS.b {α : Type} (N : Nat) (a478 : List (Int × Int × Unit)) (a479 : List (Int × Int × Unit)) (k0 : Bool → Option α) : Option α :=
  let x480 := ((a478.length : Nat) : Int)
  let x481 := ((a479.length : Nat) : Int)
  let x482 := !(decide (x480 = x481))
  bif x482 then
    k0 false
  else
    laws_eqPairS_L0 N N a478 a479 (0 : Int)
      (fun x497 =>
        k0 x497)
      (
        k0 true)
theorem laws_eqPairS.ex : ∃ f : ((α : Type) → Nat → List (Int × Int × Unit) → List (Int × Int × Unit) → (Bool → Option α) → Option α), f = fun α => @laws_eqPairS.b α := ⟨_, rfl⟩
noncomputable def laws_eqPairS {α : Type} : Nat → List (Int × Int × Unit) → List (Int × Int × Unit) → (Bool → Option α) → Option α := Classical.choose laws_eqPairS.ex α
theorem laws_eqPairS.eq : @laws_eqPairS = @laws_eqPairS.b := funext fun α => congrFun (Classical.choose_spec laws_eqPairS.ex) α

/-- loop.example/pinfold/laws.eqBox -/
noncomputable def laws_eqBox.b {α : Type} (N : Nat) (a476 : (List (Int × Int × Unit)) × Unit) (a477 : (List (Int × Int × Unit)) × Unit) (k0 : Bool → Option α) : Option α :=
  laws_eqPairS N a476.1 a477.1
    (fun x498 =>
      let x499 := !x498
      bif x499 then
        k0 false
      else
        k0 true)
theorem laws_eqBox.ex : ∃ f : ((α : Type) → Nat → ((List (Int × Int × Unit)) × Unit) → ((List (Int × Int × Unit)) × Unit) → (Bool → Option α) → Option α), f = fun α => @laws_eqBox.b α := ⟨_, rfl⟩
noncomputable def laws_eqBox {α : Type} : Nat → ((List (Int × Int × Unit)) × Unit) → ((List (Int × Int × Unit)) × Unit) → (Bool → Option α) → Option α := Classical.choose laws_eqBox.ex α
theorem laws_eqBox.eq : @laws_eqBox = @laws_eqBox.b := funext fun α => congrFun (Classical.choose_spec laws_eqBox.ex) α

noncomputable def laws_markPairS_L0r {α : Type} (N : Nat) (next : Int → Int → List (Int × Int × Unit) → Option α) (k0 : Int → List (Int × Int × Unit) → Option α) (v510 : Int) (v511 : Int) (v512 : List (Int × Int × Unit)) : Option α :=
  let x513 := ((v512.length : Nat) : Int)
  let x514 := decide (v511 < x513)
  bif x514 then
    bif (decide (v511 < (0 : Int))) then
      none
    else
      bif decide (v511.toNat < v512.length) then
        match v512[v511.toNat]? with
        | some x515 =>
          let x516 := v512.set v511.toNat (v510, (x515.2.1, ()))
          let x517 := (IntKind.i64.wrap (v510 + (1 : Int)))
          bif (decide (v511 < (0 : Int))) then
            none
          else
            bif decide (v511.toNat < x516.length) then
              match x516[v511.toNat]? with
              | some x518 =>
                let x519 := x516.set v511.toNat (x518.1, (x517, ()))
                let x520 := (IntKind.i64.wrap (x517 + (1 : Int)))
                let x521 := (IntKind.i64.wrap (v511 + (1 : Int)))
                next x520 x521 x519
              | none => none
            else
              none
        | none => none
      else
        none
  else
    k0 v510 v512
noncomputable def laws_markPairS_L0.b {α : Type} (N n : Nat) (v510 : Int) (v511 : Int) (v512 : List (Int × Int × Unit)) (k0 : Int → List (Int × Int × Unit) → Option α) : Option α :=
  Nat.rec (motive := fun _ => Int → Int → List (Int × Int × Unit) → Option α) (fun _ _ _ => none) (fun _ next => laws_markPairS_L0r N next k0) n v510 v511 v512
theorem laws_markPairS_L0.ex : ∃ f : ((α : Type) → Nat → Nat → Int → Int → List (Int × Int × Unit) → (Int → List (Int × Int × Unit) → Option α) → Option α), f = fun α => @laws_markPairS_L0.b α := ⟨_, rfl⟩
noncomputable def laws_markPairS_L0 {α : Type} : Nat → Nat → Int → Int → List (Int × Int × Unit) → (Int → List (Int × Int × Unit) → Option α) → Option α := Classical.choose laws_markPairS_L0.ex α
theorem laws_markPairS_L0.eq : @laws_markPairS_L0 = @laws_markPairS_L0.b := funext fun α => congrFun (Classical.choose_spec laws_markPairS_L0.ex) α
theorem laws_markPairS_L0.zero {α : Type} (N : Nat) (v510 : Int) (v511 : Int) (v512 : List (Int × Int × Unit)) (k0 : Int → List (Int × Int × Unit) → Option α) : laws_markPairS_L0 N 0 v510 v511 v512 k0 = none := by rw [laws_markPairS_L0.eq]; rfl
theorem laws_markPairS_L0.succ {α : Type} (N n : Nat) (v510 : Int) (v511 : Int) (v512 : List (Int × Int × Unit)) (k0 : Int → List (Int × Int × Unit) → Option α) : laws_markPairS_L0 N (n + 1) v510 v511 v512 k0 = laws_markPairS_L0r N (fun y0 y1 y2 => laws_markPairS_L0 N n y0 y1 y2 k0) k0 v510 v511 v512 := by rw [laws_markPairS_L0.eq]; rfl
/-- loop.example/pinfold/laws.markPairS -/
noncomputable def laws_markPairS.b {α : Type} (N : Nat) (a508 : Int) (a509 : List (Int × Int × Unit)) (k0 : Int → List (Int × Int × Unit) → Option α) : Option α :=
  laws_markPairS_L0 N N a508 (0 : Int) a509
    (fun x522 x523 =>
      k0 x522 x523)
theorem laws_markPairS.ex : ∃ f : ((α : Type) → Nat → Int → List (Int × Int × Unit) → (Int → List (Int × Int × Unit) → Option α) → Option α), f = fun α => @laws_markPairS.b α := ⟨_, rfl⟩
noncomputable def laws_markPairS {α : Type} : Nat → Int → List (Int × Int × Unit) → (Int → List (Int × Int × Unit) → Option α) → Option α := Classical.choose laws_markPairS.ex α
theorem laws_markPairS.eq : @laws_markPairS = @laws_markPairS.b := funext fun α => congrFun (Classical.choose_spec laws_markPairS.ex) α

/-- loop.example/pinfold/laws.markBox -/
noncomputable def laws_markBox.b {α : Type} (N : Nat) (a506 : Int) (a507 : List (Int × Int × Unit)) (k0 : Int → List (Int × Int × Unit) → Option α) : Option α :=
  laws_markPairS N a506 a507
    (fun x524 x525 =>
      k0 x524 x525)
theorem laws_markBox.ex : ∃ f : ((α : Type) → Nat → Int → List (Int × Int × Unit) → (Int → List (Int × Int × Unit) → Option α) → Option α), f = fun α => @laws_markBox.b α := ⟨_, rfl⟩
noncomputable def laws_markBox {α : Type} : Nat → Int → List (Int × Int × Unit) → (Int → List (Int × Int × Unit) → Option α) → Option α := Classical.choose laws_markBox.ex α
theorem laws_markBox.eq : @laws_markBox = @laws_markBox.b := funext fun α => congrFun (Classical.choose_spec laws_markBox.ex) α

noncomputable def laws_heldPairS_L0r {α : Type} (N : Nat) (next : List (Int × Int × Unit) → Int → Int → Option α) (k0 : Int → Option α) (k1 : Int → Option α) (v538 : List (Int × Int × Unit)) (v539 : Int) (v540 : Int) : Option α :=
  let x541 := ((v538.length : Nat) : Int)
  let x542 := decide (v540 < x541)
  bif x542 then
    bif (decide (v540 < (0 : Int))) then
      none
    else
      match v538[v540.toNat]? with
      | some x543 =>
        let x544 := !(decide (x543.1 = v539))
        bif x544 then
          k0 (-1 : Int)
        else
          let x545 := (IntKind.i64.wrap (v539 + (1 : Int)))
          bif (decide (v540 < (0 : Int))) then
            none
          else
            match v538[v540.toNat]? with
            | some x546 =>
              let x547 := !(decide (x546.2.1 = x545))
              bif x547 then
                k0 (-1 : Int)
              else
                let x548 := (IntKind.i64.wrap (x545 + (1 : Int)))
                let x549 := (IntKind.i64.wrap (v540 + (1 : Int)))
                next v538 x548 x549
            | none => none
      | none => none
  else
    k1 v539
noncomputable def laws_heldPairS_L0.b {α : Type} (N n : Nat) (v538 : List (Int × Int × Unit)) (v539 : Int) (v540 : Int) (k0 : Int → Option α) (k1 : Int → Option α) : Option α :=
  Nat.rec (motive := fun _ => List (Int × Int × Unit) → Int → Int → Option α) (fun _ _ _ => none) (fun _ next => laws_heldPairS_L0r N next k0 k1) n v538 v539 v540
theorem laws_heldPairS_L0.ex : ∃ f : ((α : Type) → Nat → Nat → List (Int × Int × Unit) → Int → Int → (Int → Option α) → (Int → Option α) → Option α), f = fun α => @laws_heldPairS_L0.b α := ⟨_, rfl⟩
noncomputable def laws_heldPairS_L0 {α : Type} : Nat → Nat → List (Int × Int × Unit) → Int → Int → (Int → Option α) → (Int → Option α) → Option α := Classical.choose laws_heldPairS_L0.ex α
theorem laws_heldPairS_L0.eq : @laws_heldPairS_L0 = @laws_heldPairS_L0.b := funext fun α => congrFun (Classical.choose_spec laws_heldPairS_L0.ex) α
theorem laws_heldPairS_L0.zero {α : Type} (N : Nat) (v538 : List (Int × Int × Unit)) (v539 : Int) (v540 : Int) (k0 : Int → Option α) (k1 : Int → Option α) : laws_heldPairS_L0 N 0 v538 v539 v540 k0 k1 = none := by rw [laws_heldPairS_L0.eq]; rfl
theorem laws_heldPairS_L0.succ {α : Type} (N n : Nat) (v538 : List (Int × Int × Unit)) (v539 : Int) (v540 : Int) (k0 : Int → Option α) (k1 : Int → Option α) : laws_heldPairS_L0 N (n + 1) v538 v539 v540 k0 k1 = laws_heldPairS_L0r N (fun y0 y1 y2 => laws_heldPairS_L0 N n y0 y1 y2 k0 k1) k0 k1 v538 v539 v540 := by rw [laws_heldPairS_L0.eq]; rfl
/-- loop.example/pinfold/laws.heldPairS -/
noncomputable def laws_heldPairS.b {α : Type} (N : Nat) (a536 : List (Int × Int × Unit)) (a537 : Int) (k0 : Int → Option α) : Option α :=
  laws_heldPairS_L0 N N a536 a537 (0 : Int)
    (fun x550 =>
      k0 x550)
    (fun x551 =>
      k0 x551)
theorem laws_heldPairS.ex : ∃ f : ((α : Type) → Nat → List (Int × Int × Unit) → Int → (Int → Option α) → Option α), f = fun α => @laws_heldPairS.b α := ⟨_, rfl⟩
noncomputable def laws_heldPairS {α : Type} : Nat → List (Int × Int × Unit) → Int → (Int → Option α) → Option α := Classical.choose laws_heldPairS.ex α
theorem laws_heldPairS.eq : @laws_heldPairS = @laws_heldPairS.b := funext fun α => congrFun (Classical.choose_spec laws_heldPairS.ex) α

/-- loop.example/pinfold/laws.heldBox -/
noncomputable def laws_heldBox.b {α : Type} (N : Nat) (a534 : (List (Int × Int × Unit)) × Unit) (a535 : Int) (k0 : Int → Option α) : Option α :=
  laws_heldPairS N a534.1 a535
    (fun x552 =>
      let x553 := (decide (x552 < (0 : Int)))
      bif x553 then
        k0 (-1 : Int)
      else
        k0 x552)
theorem laws_heldBox.ex : ∃ f : ((α : Type) → Nat → ((List (Int × Int × Unit)) × Unit) → Int → (Int → Option α) → Option α), f = fun α => @laws_heldBox.b α := ⟨_, rfl⟩
noncomputable def laws_heldBox {α : Type} : Nat → ((List (Int × Int × Unit)) × Unit) → Int → (Int → Option α) → Option α := Classical.choose laws_heldBox.ex α
theorem laws_heldBox.eq : @laws_heldBox = @laws_heldBox.b := funext fun α => congrFun (Classical.choose_spec laws_heldBox.ex) α

/-- loop.example/pinfold/laws.FnExactBoxLess -/
noncomputable def laws_FnExactBoxLess.b {α : Type} (N : Nat) (a1 : (List (Int × Int × Unit)) × Unit) (k0 : Bool → Option α) : Option α :=
  laws_szBox N a1 (1048576 : Int)
    (fun x11 =>
      let x12 := (decide (x11 < (0 : Int)))
      bif x12 then
        k0 true
      else
        laws_toBox N a1
          (fun x30 =>
            spec_BoxLess N (x30, ())
              (fun x255 x256 =>
                laws_toBox N a1
                  (fun x257 =>
                    impl_BoxLess N (x257, ())
                      (fun x474 x475 =>
                        laws_eqBox N (x475, ()) (x256, ())
                          (fun x500 =>
                            let x501 := !x500
                            bif x501 then
                              k0 false
                            else
                              let x502 := !(x474 == x255)
                              bif x502 then
                                k0 false
                              else
                                laws_toBox N a1
                                  (fun x503 =>
                                    laws_eqBox N (x257, ()) (x503, ())
                                      (fun x504 =>
                                        let x505 := !x504
                                        bif x505 then
                                          k0 false
                                        else
                                          laws_markBox N (1 : Int) x257
                                            (fun x526 _ =>
                                              let x528 := (decide (x526 < (0 : Int)))
                                              bif x528 then
                                                k0 false
                                              else
                                                laws_eqBox N (x475, ()) (x256, ())
                                                  (fun x529 =>
                                                    let x530 := !x529
                                                    bif x530 then
                                                      k0 false
                                                    else
                                                      let x531 := !(x474 == x255)
                                                      bif x531 then
                                                        k0 false
                                                      else
                                                        laws_markBox N (1 : Int) x475
                                                          (fun x532 x533 =>
                                                            laws_heldBox N (x533, ()) (1 : Int)
                                                              (fun x554 =>
                                                                let x555 := (decide (x554 < (0 : Int)))
                                                                bif x555 then
                                                                  k0 false
                                                                else
                                                                  let x556 := !(decide (x554 = x532))
                                                                  bif x556 then
                                                                    k0 false
                                                                  else
                                                                    laws_toBox N a1
                                                                      (fun x557 =>
                                                                        impl_BoxLess N (x557, ())
                                                                          (fun x558 x559 =>
                                                                            laws_eqBox N (x559, ()) (x256, ())
                                                                              (fun x560 =>
                                                                                let x561 := !x560
                                                                                bif x561 then
                                                                                  k0 false
                                                                                else
                                                                                  let x562 := !(x558 == x255)
                                                                                  bif x562 then
                                                                                    k0 false
                                                                                  else
                                                                                    laws_heldBox N (x533, ()) (1 : Int)
                                                                                      (fun x563 =>
                                                                                        let x564 := (decide (x563 < (0 : Int)))
                                                                                        bif x564 then
                                                                                          k0 false
                                                                                        else
                                                                                          let x565 := !(decide (x563 = x532))
                                                                                          bif x565 then
                                                                                            k0 false
                                                                                          else
                                                                                            k0 true))))))))))))))))
theorem laws_FnExactBoxLess.ex : ∃ f : ((α : Type) → Nat → ((List (Int × Int × Unit)) × Unit) → (Bool → Option α) → Option α), f = fun α => @laws_FnExactBoxLess.b α := ⟨_, rfl⟩
noncomputable def laws_FnExactBoxLess {α : Type} : Nat → ((List (Int × Int × Unit)) × Unit) → (Bool → Option α) → Option α := Classical.choose laws_FnExactBoxLess.ex α
theorem laws_FnExactBoxLess.eq : @laws_FnExactBoxLess = @laws_FnExactBoxLess.b := funext fun α => congrFun (Classical.choose_spec laws_FnExactBoxLess.ex) α

end
end Go.Proofs.YtbaeipjjijdgiaaDoorAm
