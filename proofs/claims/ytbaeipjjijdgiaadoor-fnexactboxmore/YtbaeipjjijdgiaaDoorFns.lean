/-
  The functions that the program computes, as the abstract machine tells them. Printed by amp.py.
-/
import Derived.Test.YtbaeipjjijdgiaaDoorAmc
namespace Go.Proofs.YtbaeipjjijdgiaaDoorAm
open Go
noncomputable section
set_option linter.unusedVariables false
set_option linter.unusedSimpArgs false

/-- loop.example/pinfold/laws.szPairS -/
noncomputable def laws_szPairS.b {α : Type} (N : Nat) (a4 : List (Int × Int × Unit)) (a5 : Int) (k0 : Int → Option α) : Option α :=
  let x6 := ((a4.length : Nat) : Int)
  let x7 := IntKind.i64.wrap (a5 - x6)
  let x8 := (decide (x7 < (0 : Int)))
  bif x8 then
    k0 (-1 : Int)
  else
    k0 x7
theorem laws_szPairS.ex : ∃ f : ((α : Type) → Nat → List (Int × Int × Unit) → Int → (Int → Option α) → Option α), f = fun α => @laws_szPairS.b α := ⟨_, rfl⟩
noncomputable def laws_szPairS {α : Type} : Nat → List (Int × Int × Unit) → Int → (Int → Option α) → Option α := Classical.choose laws_szPairS.ex α
theorem laws_szPairS.eq : @laws_szPairS = @laws_szPairS.b := funext fun α => congrFun (Classical.choose_spec laws_szPairS.ex) α

/-- loop.example/pinfold/laws.szBox -/
noncomputable def laws_szBox.b {α : Type} (N : Nat) (a2 : (List (Int × Int × Unit)) × Unit) (a3 : Int) (k0 : Int → Option α) : Option α :=
  laws_szPairS N a2.1 a3
    (fun x9 =>
      let x10 := (decide (x9 < (0 : Int)))
      bif x10 then
        k0 (-1 : Int)
      else
        k0 x9)
theorem laws_szBox.ex : ∃ f : ((α : Type) → Nat → ((List (Int × Int × Unit)) × Unit) → Int → (Int → Option α) → Option α), f = fun α => @laws_szBox.b α := ⟨_, rfl⟩
noncomputable def laws_szBox {α : Type} : Nat → ((List (Int × Int × Unit)) × Unit) → Int → (Int → Option α) → Option α := Classical.choose laws_szBox.ex α
theorem laws_szBox.eq : @laws_szBox = @laws_szBox.b := funext fun α => congrFun (Classical.choose_spec laws_szBox.ex) α

/-- loop.example/pinfold/laws.toPair -/
noncomputable def laws_toPair.b {α : Type} (N : Nat) (a23 : Int × Int × Unit) (k0 : (Int × Int × Unit) → Option α) : Option α :=
  k0 (a23.1, (a23.2.1, ()))
theorem laws_toPair.ex : ∃ f : ((α : Type) → Nat → (Int × Int × Unit) → ((Int × Int × Unit) → Option α) → Option α), f = fun α => @laws_toPair.b α := ⟨_, rfl⟩
noncomputable def laws_toPair {α : Type} : Nat → (Int × Int × Unit) → ((Int × Int × Unit) → Option α) → Option α := Classical.choose laws_toPair.ex α
theorem laws_toPair.eq : @laws_toPair = @laws_toPair.b := funext fun α => congrFun (Classical.choose_spec laws_toPair.ex) α

noncomputable def laws_toPairS_L0r {α : Type} (N : Nat) (next : List (Int × Int × Unit) → Int → List (Int × Int × Unit) → Option α) (k0 : List (Int × Int × Unit) → Option α) (v17 : List (Int × Int × Unit)) (v18 : Int) (v19 : List (Int × Int × Unit)) : Option α :=
  let x20 := ((v17.length : Nat) : Int)
  let x21 := decide (v18 < x20)
  bif x21 then
    bif (decide (v18 < (0 : Int))) then
      none
    else
      match v17[v18.toNat]? with
      | some x22 =>
        laws_toPair N x22
          (fun x24 =>
            bif (decide (v18 < (0 : Int))) then
              none
            else
              bif decide (v18.toNat < v19.length) then
                match v19[v18.toNat]? with
                | some x25 =>
                  let x26 := v19.set v18.toNat x24
                  let x27 := (IntKind.i64.wrap (v18 + (1 : Int)))
                  next v17 x27 x26
                | none => none
              else
                none)
      | none => none
  else
    k0 v19
noncomputable def laws_toPairS_L0.b {α : Type} (N n : Nat) (v17 : List (Int × Int × Unit)) (v18 : Int) (v19 : List (Int × Int × Unit)) (k0 : List (Int × Int × Unit) → Option α) : Option α :=
  Nat.rec (motive := fun _ => List (Int × Int × Unit) → Int → List (Int × Int × Unit) → Option α) (fun _ _ _ => none) (fun _ next => laws_toPairS_L0r N next k0) n v17 v18 v19
theorem laws_toPairS_L0.ex : ∃ f : ((α : Type) → Nat → Nat → List (Int × Int × Unit) → Int → List (Int × Int × Unit) → (List (Int × Int × Unit) → Option α) → Option α), f = fun α => @laws_toPairS_L0.b α := ⟨_, rfl⟩
noncomputable def laws_toPairS_L0 {α : Type} : Nat → Nat → List (Int × Int × Unit) → Int → List (Int × Int × Unit) → (List (Int × Int × Unit) → Option α) → Option α := Classical.choose laws_toPairS_L0.ex α
theorem laws_toPairS_L0.eq : @laws_toPairS_L0 = @laws_toPairS_L0.b := funext fun α => congrFun (Classical.choose_spec laws_toPairS_L0.ex) α
theorem laws_toPairS_L0.zero {α : Type} (N : Nat) (v17 : List (Int × Int × Unit)) (v18 : Int) (v19 : List (Int × Int × Unit)) (k0 : List (Int × Int × Unit) → Option α) : laws_toPairS_L0 N 0 v17 v18 v19 k0 = none := by rw [laws_toPairS_L0.eq]; rfl
theorem laws_toPairS_L0.succ {α : Type} (N n : Nat) (v17 : List (Int × Int × Unit)) (v18 : Int) (v19 : List (Int × Int × Unit)) (k0 : List (Int × Int × Unit) → Option α) : laws_toPairS_L0 N (n + 1) v17 v18 v19 k0 = laws_toPairS_L0r N (fun y0 y1 y2 => laws_toPairS_L0 N n y0 y1 y2 k0) k0 v17 v18 v19 := by rw [laws_toPairS_L0.eq]; rfl
/-- loop.example/pinfold/laws.toPairS -/
noncomputable def laws_toPairS.b {α : Type} (N : Nat) (a14 : List (Int × Int × Unit)) (k0 : List (Int × Int × Unit) → Option α) : Option α :=
  let x15 := ((a14.length : Nat) : Int)
  bif (decide ((0 : Int) ≤ x15)) then
    bif decide (x15 ≤ x15) then
      bif (decide (x15 ≤ ((8796093022208 : Nat) : Int))) then
        let x16 := (List.replicate x15.toNat ((0 : Int), ((0 : Int), ())))
        laws_toPairS_L0 N N a14 (0 : Int) x16
          (fun x28 =>
            k0 x28)
      else
        none
    else
      none
  else
    none
theorem laws_toPairS.ex : ∃ f : ((α : Type) → Nat → List (Int × Int × Unit) → (List (Int × Int × Unit) → Option α) → Option α), f = fun α => @laws_toPairS.b α := ⟨_, rfl⟩
noncomputable def laws_toPairS {α : Type} : Nat → List (Int × Int × Unit) → (List (Int × Int × Unit) → Option α) → Option α := Classical.choose laws_toPairS.ex α
theorem laws_toPairS.eq : @laws_toPairS = @laws_toPairS.b := funext fun α => congrFun (Classical.choose_spec laws_toPairS.ex) α

/-- loop.example/pinfold/laws.toBox -/
noncomputable def laws_toBox.b {α : Type} (N : Nat) (a13 : (List (Int × Int × Unit)) × Unit) (k0 : List (Int × Int × Unit) → Option α) : Option α :=
  laws_toPairS N a13.1
    (fun x29 =>
      k0 x29)
theorem laws_toBox.ex : ∃ f : ((α : Type) → Nat → ((List (Int × Int × Unit)) × Unit) → (List (Int × Int × Unit) → Option α) → Option α), f = fun α => @laws_toBox.b α := ⟨_, rfl⟩
noncomputable def laws_toBox {α : Type} : Nat → ((List (Int × Int × Unit)) × Unit) → (List (Int × Int × Unit) → Option α) → Option α := Classical.choose laws_toBox.ex α
theorem laws_toBox.eq : @laws_toBox = @laws_toBox.b := funext fun α => congrFun (Classical.choose_spec laws_toBox.ex) α

/-- loop.example/pinfold/spec.BitTop -/
noncomputable def spec_BitTop.b {α : Type} (N : Nat) (a46 : Int) (k0 : Int → Option α) : Option α :=
  let x47 := (decide (a46 = (32 : Int)))
  bif x47 then
    k0 (2139095040 : Int)
  else
    let x48 := (decide (a46 = (64 : Int)))
    bif x48 then
      k0 (9218868437227405312 : Int)
    else
      k0 (0 : Int)
theorem spec_BitTop.ex : ∃ f : ((α : Type) → Nat → Int → (Int → Option α) → Option α), f = fun α => @spec_BitTop.b α := ⟨_, rfl⟩
noncomputable def spec_BitTop {α : Type} : Nat → Int → (Int → Option α) → Option α := Classical.choose spec_BitTop.ex α
theorem spec_BitTop.eq : @spec_BitTop = @spec_BitTop.b := funext fun α => congrFun (Classical.choose_spec spec_BitTop.ex) α

/-- loop.example/pinfold/spec.l1Width -/
noncomputable def spec_l1Width.b {α : Type} (N : Nat) (a52 : Int) (k0 : Bool → Option α) : Option α :=
  let x53 := (decide (a52 = (32 : Int)))
  bif x53 then
    k0 true
  else
    let x54 := (decide (a52 = (64 : Int)))
    k0 x54
theorem spec_l1Width.ex : ∃ f : ((α : Type) → Nat → Int → (Bool → Option α) → Option α), f = fun α => @spec_l1Width.b α := ⟨_, rfl⟩
noncomputable def spec_l1Width {α : Type} : Nat → Int → (Bool → Option α) → Option α := Classical.choose spec_l1Width.ex α
theorem spec_l1Width.eq : @spec_l1Width = @spec_l1Width.b := funext fun α => congrFun (Classical.choose_spec spec_l1Width.ex) α

/-- loop.example/pinfold/spec.BitOk -/
noncomputable def spec_BitOk.b {α : Type} (N : Nat) (a50 : Int) (a51 : Int) (k0 : Bool → Option α) : Option α :=
  spec_l1Width N a50
    (fun x55 =>
      bif x55 then
        spec_BitTop N a50
          (fun x56 =>
            let x57 := IntKind.i64.wrap (0 - x56)
            let x58 := decide (x57 ≤ a51)
            bif x58 then
              spec_BitTop N a50
                (fun x59 =>
                  let x60 := decide (a51 ≤ x59)
                  k0 x60)
            else
              k0 false)
      else
        k0 false)
theorem spec_BitOk.ex : ∃ f : ((α : Type) → Nat → Int → Int → (Bool → Option α) → Option α), f = fun α => @spec_BitOk.b α := ⟨_, rfl⟩
noncomputable def spec_BitOk {α : Type} : Nat → Int → Int → (Bool → Option α) → Option α := Classical.choose spec_BitOk.ex α
theorem spec_BitOk.eq : @spec_BitOk = @spec_BitOk.b := funext fun α => congrFun (Classical.choose_spec spec_BitOk.ex) α

/-- loop.example/pinfold/spec.PairOk -/
noncomputable def spec_PairOk.b {α : Type} (N : Nat) (a44 : Int) (a45 : Int × Int × Unit) (k0 : Bool → Option α) : Option α :=
  spec_BitTop N a44
    (fun x49 =>
      spec_BitOk N a44 a45.1
        (fun x61 =>
          bif x61 then
            spec_BitOk N a44 a45.2.1
              (fun x62 =>
                bif x62 then
                  let x63 := decide (a45.1 ≤ a45.2.1)
                  bif x63 then
                    let x64 := decide (a45.1 < x49)
                    bif x64 then
                      let x65 := IntKind.i64.wrap (0 - x49)
                      let x66 := decide (x65 < a45.2.1)
                      k0 x66
                    else
                      k0 false
                  else
                    k0 false
                else
                  k0 false)
          else
            k0 false))
theorem spec_PairOk.ex : ∃ f : ((α : Type) → Nat → Int → (Int × Int × Unit) → (Bool → Option α) → Option α), f = fun α => @spec_PairOk.b α := ⟨_, rfl⟩
noncomputable def spec_PairOk {α : Type} : Nat → Int → (Int × Int × Unit) → (Bool → Option α) → Option α := Classical.choose spec_PairOk.ex α
theorem spec_PairOk.eq : @spec_PairOk = @spec_PairOk.b := funext fun α => congrFun (Classical.choose_spec spec_PairOk.ex) α

noncomputable def spec_BoxOk_L0r {α : Type} (N : Nat) (next : Int → Int → ((List (Int × Int × Unit)) × Unit) → Option α) (k0 : Bool → Option α) (k1 : Option α) (v38 : Int) (v39 : Int) (v40 : (List (Int × Int × Unit)) × Unit) : Option α :=
  let x41 := ((v40.1.length : Nat) : Int)
  let x42 := decide (v39 < x41)
  bif x42 then
    bif (decide (v39 < (0 : Int))) then
      none
    else
      match v40.1[v39.toNat]? with
      | some x43 =>
        spec_PairOk N v38 x43
          (fun x67 =>
            let x68 := !x67
            bif x68 then
              k0 false
            else
              let x69 := (IntKind.i64.wrap (v39 + (1 : Int)))
              next v38 x69 v40)
      | none => none
  else
    k1
noncomputable def spec_BoxOk_L0.b {α : Type} (N n : Nat) (v38 : Int) (v39 : Int) (v40 : (List (Int × Int × Unit)) × Unit) (k0 : Bool → Option α) (k1 : Option α) : Option α :=
  Nat.rec (motive := fun _ => Int → Int → ((List (Int × Int × Unit)) × Unit) → Option α) (fun _ _ _ => none) (fun _ next => spec_BoxOk_L0r N next k0 k1) n v38 v39 v40
theorem spec_BoxOk_L0.ex : ∃ f : ((α : Type) → Nat → Nat → Int → Int → ((List (Int × Int × Unit)) × Unit) → (Bool → Option α) → (Option α) → Option α), f = fun α => @spec_BoxOk_L0.b α := ⟨_, rfl⟩
noncomputable def spec_BoxOk_L0 {α : Type} : Nat → Nat → Int → Int → ((List (Int × Int × Unit)) × Unit) → (Bool → Option α) → (Option α) → Option α := Classical.choose spec_BoxOk_L0.ex α
theorem spec_BoxOk_L0.eq : @spec_BoxOk_L0 = @spec_BoxOk_L0.b := funext fun α => congrFun (Classical.choose_spec spec_BoxOk_L0.ex) α
theorem spec_BoxOk_L0.zero {α : Type} (N : Nat) (v38 : Int) (v39 : Int) (v40 : (List (Int × Int × Unit)) × Unit) (k0 : Bool → Option α) (k1 : Option α) : spec_BoxOk_L0 N 0 v38 v39 v40 k0 k1 = none := by rw [spec_BoxOk_L0.eq]; rfl
theorem spec_BoxOk_L0.succ {α : Type} (N n : Nat) (v38 : Int) (v39 : Int) (v40 : (List (Int × Int × Unit)) × Unit) (k0 : Bool → Option α) (k1 : Option α) : spec_BoxOk_L0 N (n + 1) v38 v39 v40 k0 k1 = spec_BoxOk_L0r N (fun y0 y1 y2 => spec_BoxOk_L0 N n y0 y1 y2 k0 k1) k0 k1 v38 v39 v40 := by rw [spec_BoxOk_L0.eq]; rfl
/-- loop.example/pinfold/spec.BoxOk -/
noncomputable def spec_BoxOk.b {α : Type} (N : Nat) (a32 : Int) (a33 : (List (Int × Int × Unit)) × Unit) (k0 : Bool → Option α) : Option α :=
  let x34 := ((a33.1.length : Nat) : Int)
  let x35 := (decide (x34 < (1 : Int)))
  bif x35 then
    k0 false
  else
    let x36 := ((a33.1.length : Nat) : Int)
    let x37 := (decide ((6 : Int) < x36))
    bif x37 then
      k0 false
    else
      spec_BoxOk_L0 N N a32 (0 : Int) a33
        (fun x70 =>
          k0 x70)
        (
          k0 true)
theorem spec_BoxOk.ex : ∃ f : ((α : Type) → Nat → Int → ((List (Int × Int × Unit)) × Unit) → (Bool → Option α) → Option α), f = fun α => @spec_BoxOk.b α := ⟨_, rfl⟩
noncomputable def spec_BoxOk {α : Type} : Nat → Int → ((List (Int × Int × Unit)) × Unit) → (Bool → Option α) → Option α := Classical.choose spec_BoxOk.ex α
theorem spec_BoxOk.eq : @spec_BoxOk = @spec_BoxOk.b := funext fun α => congrFun (Classical.choose_spec spec_BoxOk.ex) α

/-- loop.example/pinfold/spec.l1Least -/
noncomputable def spec_l1Least.b {α : Type} (N : Nat) (a97 : Int) (k0 : Int → Option α) : Option α :=
  let x98 := (decide (a97 = (32 : Int)))
  bif x98 then
    k0 (-149 : Int)
  else
    k0 (-1074 : Int)
theorem spec_l1Least.ex : ∃ f : ((α : Type) → Nat → Int → (Int → Option α) → Option α), f = fun α => @spec_l1Least.b α := ⟨_, rfl⟩
noncomputable def spec_l1Least {α : Type} : Nat → Int → (Int → Option α) → Option α := Classical.choose spec_l1Least.ex α
theorem spec_l1Least.eq : @spec_l1Least = @spec_l1Least.b := funext fun α => congrFun (Classical.choose_spec spec_l1Least.ex) α

/-- loop.example/pinfold/spec.l1Frac -/
noncomputable def spec_l1Frac.b {α : Type} (N : Nat) (a110 : Int) (k0 : Int → Option α) : Option α :=
  let x111 := (decide (a110 = (32 : Int)))
  bif x111 then
    k0 (23 : Int)
  else
    k0 (52 : Int)
theorem spec_l1Frac.ex : ∃ f : ((α : Type) → Nat → Int → (Int → Option α) → Option α), f = fun α => @spec_l1Frac.b α := ⟨_, rfl⟩
noncomputable def spec_l1Frac {α : Type} : Nat → Int → (Int → Option α) → Option α := Classical.choose spec_l1Frac.ex α
theorem spec_l1Frac.eq : @spec_l1Frac = @spec_l1Frac.b := funext fun α => congrFun (Classical.choose_spec spec_l1Frac.ex) α

noncomputable def spec_BitPartOf_J5.b {α : Type} (N : Nat) (v100 : Int) (v101 : Int) (v102 : Bool × Int × Int × Unit) (v103 : Bool × Int × Int × Unit) (k0 : Int → Int → (Bool × Int × Int × Unit) → (Bool × Int × Int × Unit) → Option α) : Option α :=
  let x104 := (decide (v101 < (0 : Int)))
  bif x104 then
    let x105 := IntKind.i64.wrap (0 - v101)
    k0 v100 x105 v102 v103
  else
    k0 v100 v101 v102 v103
theorem spec_BitPartOf_J5.ex : ∃ f : ((α : Type) → Nat → Int → Int → (Bool × Int × Int × Unit) → (Bool × Int × Int × Unit) → (Int → Int → (Bool × Int × Int × Unit) → (Bool × Int × Int × Unit) → Option α) → Option α), f = fun α => @spec_BitPartOf_J5.b α := ⟨_, rfl⟩
noncomputable def spec_BitPartOf_J5 {α : Type} : Nat → Int → Int → (Bool × Int × Int × Unit) → (Bool × Int × Int × Unit) → (Int → Int → (Bool × Int × Int × Unit) → (Bool × Int × Int × Unit) → Option α) → Option α := Classical.choose spec_BitPartOf_J5.ex α
theorem spec_BitPartOf_J5.eq : @spec_BitPartOf_J5 = @spec_BitPartOf_J5.b := funext fun α => congrFun (Classical.choose_spec spec_BitPartOf_J5.ex) α
noncomputable def spec_BitPartOf_J10.b {α : Type} (N : Nat) (v118 : Int) (v119 : Int) (v120 : Bool × Int × Int × Unit) (v121 : Bool × Int × Int × Unit) (k0 : (Bool × Int × Int × Unit) → (Bool × Int × Int × Unit) → Option α) : Option α :=
  let x122 := (decide ((0 : Int) < v119))
  bif x122 then
    let x123 := IntKind.u64.wrap v118
    let x124 := IntKind.u64.wrap (v121.2.1 + x123)
    let x125 := IntKind.i64.wrap (v121.2.2.1 + v119)
    let x126 := (IntKind.i64.wrap (x125 - (1 : Int)))
    k0 v120 (v121.1, (x124, (x126, ())))
  else
    k0 v120 v121
theorem spec_BitPartOf_J10.ex : ∃ f : ((α : Type) → Nat → Int → Int → (Bool × Int × Int × Unit) → (Bool × Int × Int × Unit) → ((Bool × Int × Int × Unit) → (Bool × Int × Int × Unit) → Option α) → Option α), f = fun α => @spec_BitPartOf_J10.b α := ⟨_, rfl⟩
noncomputable def spec_BitPartOf_J10 {α : Type} : Nat → Int → Int → (Bool × Int × Int × Unit) → (Bool × Int × Int × Unit) → ((Bool × Int × Int × Unit) → (Bool × Int × Int × Unit) → Option α) → Option α := Classical.choose spec_BitPartOf_J10.ex α
theorem spec_BitPartOf_J10.eq : @spec_BitPartOf_J10 = @spec_BitPartOf_J10.b := funext fun α => congrFun (Classical.choose_spec spec_BitPartOf_J10.ex) α
/-- loop.example/pinfold/spec.BitPartOf -/
noncomputable def spec_BitPartOf.b {α : Type} (N : Nat) (a87 : Int) (a88 : Int) (k0 : (Bool × Int × Int × Unit) → Bool → Option α) : Option α :=
  spec_BitOk N a87 a88
    (fun x89 =>
      let x90 := !x89
      bif x90 then
        k0 (false, ((0 : Int), ((0 : Int), ()))) false
      else
        spec_BitTop N a87
          (fun x91 =>
            let x92 := decide (a88 = x91)
            bif x92 then
              k0 (false, ((0 : Int), ((0 : Int), ()))) false
            else
              spec_BitTop N a87
                (fun x93 =>
                  let x94 := IntKind.i64.wrap (0 - x93)
                  let x95 := decide (a88 = x94)
                  bif x95 then
                    k0 (false, ((0 : Int), ((0 : Int), ()))) false
                  else
                    let x96 := (decide (a88 < (0 : Int)))
                    spec_l1Least N a87
                      (fun x99 =>
                        spec_BitPartOf_J5 N a87 a88 (false, ((0 : Int), ((0 : Int), ()))) (x96, ((0 : Int), (x99, ())))
                          (fun x106 x107 x108 x109 =>
                            spec_l1Frac N x106
                              (fun x112 =>
                                let x113 := IntKind.u64.wrap x112
                                bif (decide (x113 < (0 : Int))) then
                                  none
                                else
                                  let x114 := (shlI .i64 (1 : Int) x113)
                                  bif (decide (x114 = (0 : Int))) then
                                    none
                                  else
                                    let x115 := IntKind.i64.wrap (Int.tdiv x107 x114)
                                    bif (decide (x114 = (0 : Int))) then
                                      none
                                    else
                                      let x116 := Int.tmod x107 x114
                                      let x117 := IntKind.u64.wrap x116
                                      spec_BitPartOf_J10 N x114 x115 x108 (x109.1, (x117, (x109.2.2.1, ())))
                                        (fun _ x128 =>
                                          k0 x128 true)))))))
theorem spec_BitPartOf.ex : ∃ f : ((α : Type) → Nat → Int → Int → ((Bool × Int × Int × Unit) → Bool → Option α) → Option α), f = fun α => @spec_BitPartOf.b α := ⟨_, rfl⟩
noncomputable def spec_BitPartOf {α : Type} : Nat → Int → Int → ((Bool × Int × Int × Unit) → Bool → Option α) → Option α := Classical.choose spec_BitPartOf.ex α
theorem spec_BitPartOf.eq : @spec_BitPartOf = @spec_BitPartOf.b := funext fun α => congrFun (Classical.choose_spec spec_BitPartOf.ex) α

noncomputable def spec_BitMake_L0r {α : Type} (N : Nat) (next : Int → Int → Int → Int → (Bool × Int × Int × Unit) → Option α) (k0 : Int → Int → Int → Int → (Bool × Int × Int × Unit) → Option α) (v146 : Int) (v147 : Int) (v148 : Int) (v149 : Int) (v150 : Bool × Int × Int × Unit) : Option α :=
  let x151 := (Int.tmod v147 (2 : Int))
  let x152 := (decide (x151 = (0 : Int)))
  bif x152 then
    let x153 := (IntKind.u64.wrap ((2 : Int) * v149))
    let x154 := decide (x153 ≤ v147)
    bif x154 then
      let x155 := (IntKind.u64.wrap (Int.tdiv v147 (2 : Int)))
      let x156 := (IntKind.i64.wrap (v148 + (1 : Int)))
      next v146 x155 x156 v149 v150
    else
      spec_l1Least N v146
        (fun x157 =>
          let x158 := decide (v148 < x157)
          bif x158 then
            let x159 := (IntKind.u64.wrap (Int.tdiv v147 (2 : Int)))
            let x160 := (IntKind.i64.wrap (v148 + (1 : Int)))
            next v146 x159 x160 v149 v150
          else
            k0 v146 v147 v148 v149 v150)
  else
    k0 v146 v147 v148 v149 v150
noncomputable def spec_BitMake_L0.b {α : Type} (N n : Nat) (v146 : Int) (v147 : Int) (v148 : Int) (v149 : Int) (v150 : Bool × Int × Int × Unit) (k0 : Int → Int → Int → Int → (Bool × Int × Int × Unit) → Option α) : Option α :=
  Nat.rec (motive := fun _ => Int → Int → Int → Int → (Bool × Int × Int × Unit) → Option α) (fun _ _ _ _ _ => none) (fun _ next => spec_BitMake_L0r N next k0) n v146 v147 v148 v149 v150
theorem spec_BitMake_L0.ex : ∃ f : ((α : Type) → Nat → Nat → Int → Int → Int → Int → (Bool × Int × Int × Unit) → (Int → Int → Int → Int → (Bool × Int × Int × Unit) → Option α) → Option α), f = fun α => @spec_BitMake_L0.b α := ⟨_, rfl⟩
noncomputable def spec_BitMake_L0 {α : Type} : Nat → Nat → Int → Int → Int → Int → (Bool × Int × Int × Unit) → (Int → Int → Int → Int → (Bool × Int × Int × Unit) → Option α) → Option α := Classical.choose spec_BitMake_L0.ex α
theorem spec_BitMake_L0.eq : @spec_BitMake_L0 = @spec_BitMake_L0.b := funext fun α => congrFun (Classical.choose_spec spec_BitMake_L0.ex) α
theorem spec_BitMake_L0.zero {α : Type} (N : Nat) (v146 : Int) (v147 : Int) (v148 : Int) (v149 : Int) (v150 : Bool × Int × Int × Unit) (k0 : Int → Int → Int → Int → (Bool × Int × Int × Unit) → Option α) : spec_BitMake_L0 N 0 v146 v147 v148 v149 v150 k0 = none := by rw [spec_BitMake_L0.eq]; rfl
theorem spec_BitMake_L0.succ {α : Type} (N n : Nat) (v146 : Int) (v147 : Int) (v148 : Int) (v149 : Int) (v150 : Bool × Int × Int × Unit) (k0 : Int → Int → Int → Int → (Bool × Int × Int × Unit) → Option α) : spec_BitMake_L0 N (n + 1) v146 v147 v148 v149 v150 k0 = spec_BitMake_L0r N (fun y0 y1 y2 y3 y4 => spec_BitMake_L0 N n y0 y1 y2 y3 y4 k0) k0 v146 v147 v148 v149 v150 := by rw [spec_BitMake_L0.eq]; rfl
noncomputable def spec_BitMake_L2r {α : Type} (N : Nat) (next : Int → Int → Int → Int → (Bool × Int × Int × Unit) → Option α) (k0 : Int → Int → Int → Int → (Bool × Int × Int × Unit) → Option α) (v166 : Int) (v167 : Int) (v168 : Int) (v169 : Int) (v170 : Bool × Int × Int × Unit) : Option α :=
  let x171 := decide (v167 < v169)
  bif x171 then
    spec_l1Least N v166
      (fun x172 =>
        let x173 := decide (x172 < v168)
        bif x173 then
          let x174 := (IntKind.u64.wrap (v167 * (2 : Int)))
          let x175 := (IntKind.i64.wrap (v168 - (1 : Int)))
          next v166 x174 x175 v169 v170
        else
          k0 v166 v167 v168 v169 v170)
  else
    k0 v166 v167 v168 v169 v170
noncomputable def spec_BitMake_L2.b {α : Type} (N n : Nat) (v166 : Int) (v167 : Int) (v168 : Int) (v169 : Int) (v170 : Bool × Int × Int × Unit) (k0 : Int → Int → Int → Int → (Bool × Int × Int × Unit) → Option α) : Option α :=
  Nat.rec (motive := fun _ => Int → Int → Int → Int → (Bool × Int × Int × Unit) → Option α) (fun _ _ _ _ _ => none) (fun _ next => spec_BitMake_L2r N next k0) n v166 v167 v168 v169 v170
theorem spec_BitMake_L2.ex : ∃ f : ((α : Type) → Nat → Nat → Int → Int → Int → Int → (Bool × Int × Int × Unit) → (Int → Int → Int → Int → (Bool × Int × Int × Unit) → Option α) → Option α), f = fun α => @spec_BitMake_L2.b α := ⟨_, rfl⟩
noncomputable def spec_BitMake_L2 {α : Type} : Nat → Nat → Int → Int → Int → Int → (Bool × Int × Int × Unit) → (Int → Int → Int → Int → (Bool × Int × Int × Unit) → Option α) → Option α := Classical.choose spec_BitMake_L2.ex α
theorem spec_BitMake_L2.eq : @spec_BitMake_L2 = @spec_BitMake_L2.b := funext fun α => congrFun (Classical.choose_spec spec_BitMake_L2.ex) α
theorem spec_BitMake_L2.zero {α : Type} (N : Nat) (v166 : Int) (v167 : Int) (v168 : Int) (v169 : Int) (v170 : Bool × Int × Int × Unit) (k0 : Int → Int → Int → Int → (Bool × Int × Int × Unit) → Option α) : spec_BitMake_L2 N 0 v166 v167 v168 v169 v170 k0 = none := by rw [spec_BitMake_L2.eq]; rfl
theorem spec_BitMake_L2.succ {α : Type} (N n : Nat) (v166 : Int) (v167 : Int) (v168 : Int) (v169 : Int) (v170 : Bool × Int × Int × Unit) (k0 : Int → Int → Int → Int → (Bool × Int × Int × Unit) → Option α) : spec_BitMake_L2 N (n + 1) v166 v167 v168 v169 v170 k0 = spec_BitMake_L2r N (fun y0 y1 y2 y3 y4 => spec_BitMake_L2 N n y0 y1 y2 y3 y4 k0) k0 v166 v167 v168 v169 v170 := by rw [spec_BitMake_L2.eq]; rfl
noncomputable def spec_BitMake_J17.b {α : Type} (N : Nat) (v186 : Int) (v187 : Int) (v188 : Int) (v189 : Int) (v190 : Int) (v191 : Bool × Int × Int × Unit) (k0 : Int → Bool → Option α) (k1 : Int → (Bool × Int × Int × Unit) → Option α) : Option α :=
  let x192 := decide (v189 ≤ v187)
  bif x192 then
    spec_l1Least N v186
      (fun x193 =>
        let x194 := IntKind.i64.wrap (v188 - x193)
        let x195 := (IntKind.i64.wrap (x194 + (1 : Int)))
        spec_BitTop N v186
          (fun x196 =>
            let x197 := IntKind.i64.wrap v189
            bif (decide (x197 = (0 : Int))) then
              none
            else
              let x198 := IntKind.i64.wrap (Int.tdiv x196 x197)
              let x199 := (IntKind.i64.wrap (x198 - (1 : Int)))
              let x200 := decide (x199 < x195)
              bif x200 then
                k0 (0 : Int) false
              else
                let x201 := IntKind.i64.wrap v189
                let x202 := IntKind.i64.wrap (x195 * x201)
                let x203 := IntKind.u64.wrap (v187 - v189)
                let x204 := IntKind.i64.wrap x203
                let x205 := IntKind.i64.wrap (x202 + x204)
                k1 x205 v191))
  else
    k1 v190 v191
theorem spec_BitMake_J17.ex : ∃ f : ((α : Type) → Nat → Int → Int → Int → Int → Int → (Bool × Int × Int × Unit) → (Int → Bool → Option α) → (Int → (Bool × Int × Int × Unit) → Option α) → Option α), f = fun α => @spec_BitMake_J17.b α := ⟨_, rfl⟩
noncomputable def spec_BitMake_J17 {α : Type} : Nat → Int → Int → Int → Int → Int → (Bool × Int × Int × Unit) → (Int → Bool → Option α) → (Int → (Bool × Int × Int × Unit) → Option α) → Option α := Classical.choose spec_BitMake_J17.ex α
theorem spec_BitMake_J17.eq : @spec_BitMake_J17 = @spec_BitMake_J17.b := funext fun α => congrFun (Classical.choose_spec spec_BitMake_J17.ex) α
/-- loop.example/pinfold/spec.BitMake -/
noncomputable def spec_BitMake.b {α : Type} (N : Nat) (a136 : Int) (a137 : Bool × Int × Int × Unit) (k0 : Int → Bool → Option α) : Option α :=
  spec_l1Width N a136
    (fun x138 =>
      let x139 := !x138
      bif x139 then
        k0 (0 : Int) false
      else
        let x140 := (decide (a137.2.2.1 < (-2000 : Int)))
        bif x140 then
          k0 (0 : Int) false
        else
          let x141 := (decide ((2000 : Int) < a137.2.2.1))
          bif x141 then
            k0 (0 : Int) false
          else
            let x142 := (decide (a137.2.1 = (0 : Int)))
            bif x142 then
              k0 (0 : Int) true
            else
              spec_l1Frac N a136
                (fun x143 =>
                  let x144 := IntKind.u64.wrap x143
                  bif (decide (x144 < (0 : Int))) then
                    none
                  else
                    let x145 := (shlI .u64 (1 : Int) x144)
                    spec_BitMake_L0 N N a136 a137.2.1 a137.2.2.1 x145 a137
                      (fun x161 x162 x163 x164 x165 =>
                        spec_BitMake_L2 N N x161 x162 x163 x164 x165
                          (fun x176 x177 x178 x179 x180 =>
                            let x181 := (IntKind.u64.wrap ((2 : Int) * x179))
                            let x182 := decide (x181 ≤ x177)
                            bif x182 then
                              k0 (0 : Int) false
                            else
                              spec_l1Least N x176
                                (fun x183 =>
                                  let x184 := decide (x178 < x183)
                                  bif x184 then
                                    k0 (0 : Int) false
                                  else
                                    let x185 := IntKind.i64.wrap x177
                                    spec_BitMake_J17 N x176 x177 x178 x179 x185 x180
                                      (fun x206 x207 =>
                                        k0 x206 x207)
                                      (fun x208 x209 =>
                                        bif x209.1 then
                                          let x210 := IntKind.i64.wrap (0 - x208)
                                          k0 x210 true
                                        else
                                          k0 x208 true))))))
theorem spec_BitMake.ex : ∃ f : ((α : Type) → Nat → Int → (Bool × Int × Int × Unit) → (Int → Bool → Option α) → Option α), f = fun α => @spec_BitMake.b α := ⟨_, rfl⟩
noncomputable def spec_BitMake {α : Type} : Nat → Int → (Bool × Int × Int × Unit) → (Int → Bool → Option α) → Option α := Classical.choose spec_BitMake.ex α
theorem spec_BitMake.eq : @spec_BitMake = @spec_BitMake.b := funext fun α => congrFun (Classical.choose_spec spec_BitMake.ex) α

/-- loop.example/pinfold/spec.BitWiden -/
noncomputable def spec_BitWiden.b {α : Type} (N : Nat) (a84 : Int) (k0 : Int → Bool → Option α) : Option α :=
  spec_BitOk N (32 : Int) a84
    (fun x85 =>
      let x86 := !x85
      bif x86 then
        k0 (0 : Int) false
      else
        spec_BitPartOf N (32 : Int) a84
          (fun x129 x130 =>
            let x131 := !x130
            bif x131 then
              let x132 := (decide (a84 < (0 : Int)))
              bif x132 then
                spec_BitTop N (64 : Int)
                  (fun x133 =>
                    let x134 := IntKind.i64.wrap (0 - x133)
                    k0 x134 true)
              else
                spec_BitTop N (64 : Int)
                  (fun x135 =>
                    k0 x135 true)
            else
              spec_BitMake N (64 : Int) x129
                (fun x211 x212 =>
                  k0 x211 x212)))
theorem spec_BitWiden.ex : ∃ f : ((α : Type) → Nat → Int → (Int → Bool → Option α) → Option α), f = fun α => @spec_BitWiden.b α := ⟨_, rfl⟩
noncomputable def spec_BitWiden {α : Type} : Nat → Int → (Int → Bool → Option α) → Option α := Classical.choose spec_BitWiden.ex α
theorem spec_BitWiden.eq : @spec_BitWiden = @spec_BitWiden.b := funext fun α => congrFun (Classical.choose_spec spec_BitWiden.ex) α

/-- loop.example/pinfold/spec.l2Wide -/
noncomputable def spec_l2Wide.b {α : Type} (N : Nat) (a83 : Int) (k0 : Int → Option α) : Option α :=
  spec_BitWiden N a83
    (fun x213 _ =>
      k0 x213)
theorem spec_l2Wide.ex : ∃ f : ((α : Type) → Nat → Int → (Int → Option α) → Option α), f = fun α => @spec_l2Wide.b α := ⟨_, rfl⟩
noncomputable def spec_l2Wide {α : Type} : Nat → Int → (Int → Option α) → Option α := Classical.choose spec_l2Wide.ex α
theorem spec_l2Wide.eq : @spec_l2Wide = @spec_l2Wide.b := funext fun α => congrFun (Classical.choose_spec spec_l2Wide.ex) α

/-- loop.example/pinfold/spec.PairMore -/
noncomputable def spec_PairMore.b {α : Type} (N : Nat) (a80 : Int × Int × Unit) (k0 : (Int × Int × Unit) → Bool → Option α) : Option α :=
  spec_PairOk N (32 : Int) a80
    (fun x81 =>
      let x82 := !x81
      bif x82 then
        k0 ((0 : Int), ((0 : Int), ())) false
      else
        spec_l2Wide N a80.1
          (fun x215 =>
            spec_l2Wide N a80.2.1
              (fun x216 =>
                k0 (x215, (x216, ())) true)))
theorem spec_PairMore.ex : ∃ f : ((α : Type) → Nat → (Int × Int × Unit) → ((Int × Int × Unit) → Bool → Option α) → Option α), f = fun α => @spec_PairMore.b α := ⟨_, rfl⟩
noncomputable def spec_PairMore {α : Type} : Nat → (Int × Int × Unit) → ((Int × Int × Unit) → Bool → Option α) → Option α := Classical.choose spec_PairMore.ex α
theorem spec_PairMore.eq : @spec_PairMore = @spec_PairMore.b := funext fun α => congrFun (Classical.choose_spec spec_PairMore.ex) α

noncomputable def spec_BoxMore_L0r {α : Type} (N : Nat) (next : Int → ((List (Int × Int × Unit)) × Unit) → List (Int × Int × Unit) → List (Int × Int × Unit) → Option α) (k0 : List (Int × Int × Unit) → List (Int × Int × Unit) → Option α) (v73 : Int) (v74 : (List (Int × Int × Unit)) × Unit) (v75 : List (Int × Int × Unit)) (v76 : List (Int × Int × Unit)) : Option α :=
  let x77 := ((v74.1.length : Nat) : Int)
  let x78 := decide (v73 < x77)
  bif x78 then
    bif (decide (v73 < (0 : Int))) then
      none
    else
      match v74.1[v73.toNat]? with
      | some x79 =>
        spec_PairMore N x79
          (fun x217 _ =>
            let x219 := [x217]
            bif decide (v76.length + x219.length ≤ 8796093022208) then
              let x220 := v76 ++ x219
              let x221 := (IntKind.i64.wrap (v73 + (1 : Int)))
              next x221 v74 v75 x220
            else
              none)
      | none => none
  else
    k0 v75 v76
noncomputable def spec_BoxMore_L0.b {α : Type} (N n : Nat) (v73 : Int) (v74 : (List (Int × Int × Unit)) × Unit) (v75 : List (Int × Int × Unit)) (v76 : List (Int × Int × Unit)) (k0 : List (Int × Int × Unit) → List (Int × Int × Unit) → Option α) : Option α :=
  Nat.rec (motive := fun _ => Int → ((List (Int × Int × Unit)) × Unit) → List (Int × Int × Unit) → List (Int × Int × Unit) → Option α) (fun _ _ _ _ => none) (fun _ next => spec_BoxMore_L0r N next k0) n v73 v74 v75 v76
theorem spec_BoxMore_L0.ex : ∃ f : ((α : Type) → Nat → Nat → Int → ((List (Int × Int × Unit)) × Unit) → List (Int × Int × Unit) → List (Int × Int × Unit) → (List (Int × Int × Unit) → List (Int × Int × Unit) → Option α) → Option α), f = fun α => @spec_BoxMore_L0.b α := ⟨_, rfl⟩
noncomputable def spec_BoxMore_L0 {α : Type} : Nat → Nat → Int → ((List (Int × Int × Unit)) × Unit) → List (Int × Int × Unit) → List (Int × Int × Unit) → (List (Int × Int × Unit) → List (Int × Int × Unit) → Option α) → Option α := Classical.choose spec_BoxMore_L0.ex α
theorem spec_BoxMore_L0.eq : @spec_BoxMore_L0 = @spec_BoxMore_L0.b := funext fun α => congrFun (Classical.choose_spec spec_BoxMore_L0.ex) α
theorem spec_BoxMore_L0.zero {α : Type} (N : Nat) (v73 : Int) (v74 : (List (Int × Int × Unit)) × Unit) (v75 : List (Int × Int × Unit)) (v76 : List (Int × Int × Unit)) (k0 : List (Int × Int × Unit) → List (Int × Int × Unit) → Option α) : spec_BoxMore_L0 N 0 v73 v74 v75 v76 k0 = none := by rw [spec_BoxMore_L0.eq]; rfl
theorem spec_BoxMore_L0.succ {α : Type} (N n : Nat) (v73 : Int) (v74 : (List (Int × Int × Unit)) × Unit) (v75 : List (Int × Int × Unit)) (v76 : List (Int × Int × Unit)) (k0 : List (Int × Int × Unit) → List (Int × Int × Unit) → Option α) : spec_BoxMore_L0 N (n + 1) v73 v74 v75 v76 k0 = spec_BoxMore_L0r N (fun y0 y1 y2 y3 => spec_BoxMore_L0 N n y0 y1 y2 y3 k0) k0 v73 v74 v75 v76 := by rw [spec_BoxMore_L0.eq]; rfl
/-- loop.example/pinfold/spec.BoxMore -/
noncomputable def spec_BoxMore.b {α : Type} (N : Nat) (a31 : (List (Int × Int × Unit)) × Unit) (k0 : Bool → List (Int × Int × Unit) → Option α) : Option α :=
  spec_BoxOk N (32 : Int) a31
    (fun x71 =>
      let x72 := !x71
      bif x72 then
        k0 false []
      else
        spec_BoxMore_L0 N N (0 : Int) a31 [] []
          (fun _ x223 =>
            k0 true x223))
theorem spec_BoxMore.ex : ∃ f : ((α : Type) → Nat → ((List (Int × Int × Unit)) × Unit) → (Bool → List (Int × Int × Unit) → Option α) → Option α), f = fun α => @spec_BoxMore.b α := ⟨_, rfl⟩
noncomputable def spec_BoxMore {α : Type} : Nat → ((List (Int × Int × Unit)) × Unit) → (Bool → List (Int × Int × Unit) → Option α) → Option α := Classical.choose spec_BoxMore.ex α
theorem spec_BoxMore.eq : @spec_BoxMore = @spec_BoxMore.b := funext fun α => congrFun (Classical.choose_spec spec_BoxMore.ex) α

/-- loop.example/pinfold/impl.in -/
noncomputable def impl_in.b {α : Type} (N : Nat) (a231 : Int) (a232 : Int) (a233 : Int) (k0 : Bool → Option α) : Option α :=
  let x234 := decide (a232 ≤ a231)
  bif x234 then
    let x235 := decide (a231 ≤ a233)
    k0 x235
  else
    k0 false
theorem impl_in.ex : ∃ f : ((α : Type) → Nat → Int → Int → Int → (Bool → Option α) → Option α), f = fun α => @impl_in.b α := ⟨_, rfl⟩
noncomputable def impl_in {α : Type} : Nat → Int → Int → Int → (Bool → Option α) → Option α := Classical.choose impl_in.ex α
theorem impl_in.eq : @impl_in = @impl_in.b := funext fun α => congrFun (Classical.choose_spec impl_in.ex) α

/-- loop.example/pinfold/impl.formatOf -/
noncomputable def impl_formatOf.b {α : Type} (N : Nat) (a253 : Int) (k0 : (Int × Int × Int × Int × Unit) → Bool → Option α) : Option α :=
  let x254 := (decide (a253 = (32 : Int)))
  bif x254 then
    k0 ((23 : Int), ((-149 : Int), ((127 : Int), ((2139095040 : Int), ())))) true
  else
    let x255 := (decide (a253 = (64 : Int)))
    bif x255 then
      k0 ((52 : Int), ((-1074 : Int), ((1023 : Int), ((9218868437227405312 : Int), ())))) true
    else
      k0 ((0 : Int), ((0 : Int), ((0 : Int), ((0 : Int), ())))) false
theorem impl_formatOf.ex : ∃ f : ((α : Type) → Nat → Int → ((Int × Int × Int × Int × Unit) → Bool → Option α) → Option α), f = fun α => @impl_formatOf.b α := ⟨_, rfl⟩
noncomputable def impl_formatOf {α : Type} : Nat → Int → ((Int × Int × Int × Int × Unit) → Bool → Option α) → Option α := Classical.choose impl_formatOf.ex α
theorem impl_formatOf.eq : @impl_formatOf = @impl_formatOf.b := funext fun α => congrFun (Classical.choose_spec impl_formatOf.ex) α

/-- loop.example/pinfold/impl.BitTop -/
noncomputable def impl_BitTop.b {α : Type} (N : Nat) (a252 : Int) (k0 : Int → Option α) : Option α :=
  impl_formatOf N a252
    (fun x256 _ =>
      k0 x256.2.2.2.1)
theorem impl_BitTop.ex : ∃ f : ((α : Type) → Nat → Int → (Int → Option α) → Option α), f = fun α => @impl_BitTop.b α := ⟨_, rfl⟩
noncomputable def impl_BitTop {α : Type} : Nat → Int → (Int → Option α) → Option α := Classical.choose impl_BitTop.ex α
theorem impl_BitTop.eq : @impl_BitTop = @impl_BitTop.b := funext fun α => congrFun (Classical.choose_spec impl_BitTop.ex) α

/-- loop.example/pinfold/impl.BitOk -/
noncomputable def impl_BitOk.b {α : Type} (N : Nat) (a259 : Int) (a260 : Int) (k0 : Bool → Option α) : Option α :=
  impl_formatOf N a259
    (fun x261 x262 =>
      bif x262 then
        let x263 := IntKind.i64.wrap (0 - x261.2.2.2.1)
        impl_in N a260 x263 x261.2.2.2.1
          (fun x264 =>
            k0 x264)
      else
        k0 false)
theorem impl_BitOk.ex : ∃ f : ((α : Type) → Nat → Int → Int → (Bool → Option α) → Option α), f = fun α => @impl_BitOk.b α := ⟨_, rfl⟩
noncomputable def impl_BitOk {α : Type} : Nat → Int → Int → (Bool → Option α) → Option α := Classical.choose impl_BitOk.ex α
theorem impl_BitOk.eq : @impl_BitOk = @impl_BitOk.b := funext fun α => congrFun (Classical.choose_spec impl_BitOk.ex) α

/-- loop.example/pinfold/impl.PairOk -/
noncomputable def impl_PairOk.b {α : Type} (N : Nat) (a250 : Int) (a251 : Int × Int × Unit) (k0 : Bool → Option α) : Option α :=
  impl_BitTop N a250
    (fun x258 =>
      impl_BitOk N a250 a251.1
        (fun x265 =>
          bif x265 then
            impl_BitOk N a250 a251.2.1
              (fun x266 =>
                bif x266 then
                  let x267 := decide (a251.1 ≤ a251.2.1)
                  bif x267 then
                    let x268 := !(decide (a251.1 = x258))
                    bif x268 then
                      let x269 := IntKind.i64.wrap (0 - x258)
                      let x270 := !(decide (a251.2.1 = x269))
                      k0 x270
                    else
                      k0 false
                  else
                    k0 false
                else
                  k0 false)
          else
            k0 false))
theorem impl_PairOk.ex : ∃ f : ((α : Type) → Nat → Int → (Int × Int × Unit) → (Bool → Option α) → Option α), f = fun α => @impl_PairOk.b α := ⟨_, rfl⟩
noncomputable def impl_PairOk {α : Type} : Nat → Int → (Int × Int × Unit) → (Bool → Option α) → Option α := Classical.choose impl_PairOk.ex α
theorem impl_PairOk.eq : @impl_PairOk = @impl_PairOk.b := funext fun α => congrFun (Classical.choose_spec impl_PairOk.ex) α

/-- loop.example/pinfold/impl.BoxOk$1 -/
noncomputable def impl_BoxOk_1.b {α : Type} (N : Nat) (a248 : Int × Int × Unit) (a249 : Int) (k0 : Bool → Option α) : Option α :=
  impl_PairOk N a249 a248
    (fun x271 =>
      let x272 := !x271
      k0 x272)
theorem impl_BoxOk_1.ex : ∃ f : ((α : Type) → Nat → (Int × Int × Unit) → Int → (Bool → Option α) → Option α), f = fun α => @impl_BoxOk_1.b α := ⟨_, rfl⟩
noncomputable def impl_BoxOk_1 {α : Type} : Nat → (Int × Int × Unit) → Int → (Bool → Option α) → Option α := Classical.choose impl_BoxOk_1.ex α
theorem impl_BoxOk_1.eq : @impl_BoxOk_1 = @impl_BoxOk_1.b := funext fun α => congrFun (Classical.choose_spec impl_BoxOk_1.ex) α

noncomputable def slices_IndexFunc_impl_Pair_impl_Pair__impl_BoxOk_1_L0r {α : Type} (N : Nat) (next : List (Int × Int × Unit) → Int → Int → Int → Option α) (k0 : Int → Option α) (k1 : Option α) (v242 : List (Int × Int × Unit)) (v243 : Int) (v244 : Int) (v245 : Int) : Option α :=
  let x246 := decide (v245 < v244)
  bif x246 then
    bif (decide (v245 < (0 : Int))) then
      none
    else
      match v242[v245.toNat]? with
      | some x247 =>
        impl_BoxOk_1 N x247 v243
          (fun x273 =>
            bif x273 then
              k0 v245
            else
              let x274 := (IntKind.i64.wrap (v245 + (1 : Int)))
              next v242 v243 v244 x274)
      | none => none
  else
    k1
noncomputable def slices_IndexFunc_impl_Pair_impl_Pair__impl_BoxOk_1_L0.b {α : Type} (N n : Nat) (v242 : List (Int × Int × Unit)) (v243 : Int) (v244 : Int) (v245 : Int) (k0 : Int → Option α) (k1 : Option α) : Option α :=
  Nat.rec (motive := fun _ => List (Int × Int × Unit) → Int → Int → Int → Option α) (fun _ _ _ _ => none) (fun _ next => slices_IndexFunc_impl_Pair_impl_Pair__impl_BoxOk_1_L0r N next k0 k1) n v242 v243 v244 v245
theorem slices_IndexFunc_impl_Pair_impl_Pair__impl_BoxOk_1_L0.ex : ∃ f : ((α : Type) → Nat → Nat → List (Int × Int × Unit) → Int → Int → Int → (Int → Option α) → (Option α) → Option α), f = fun α => @slices_IndexFunc_impl_Pair_impl_Pair__impl_BoxOk_1_L0.b α := ⟨_, rfl⟩
noncomputable def slices_IndexFunc_impl_Pair_impl_Pair__impl_BoxOk_1_L0 {α : Type} : Nat → Nat → List (Int × Int × Unit) → Int → Int → Int → (Int → Option α) → (Option α) → Option α := Classical.choose slices_IndexFunc_impl_Pair_impl_Pair__impl_BoxOk_1_L0.ex α
theorem slices_IndexFunc_impl_Pair_impl_Pair__impl_BoxOk_1_L0.eq : @slices_IndexFunc_impl_Pair_impl_Pair__impl_BoxOk_1_L0 = @slices_IndexFunc_impl_Pair_impl_Pair__impl_BoxOk_1_L0.b := funext fun α => congrFun (Classical.choose_spec slices_IndexFunc_impl_Pair_impl_Pair__impl_BoxOk_1_L0.ex) α
theorem slices_IndexFunc_impl_Pair_impl_Pair__impl_BoxOk_1_L0.zero {α : Type} (N : Nat) (v242 : List (Int × Int × Unit)) (v243 : Int) (v244 : Int) (v245 : Int) (k0 : Int → Option α) (k1 : Option α) : slices_IndexFunc_impl_Pair_impl_Pair__impl_BoxOk_1_L0 N 0 v242 v243 v244 v245 k0 k1 = none := by rw [slices_IndexFunc_impl_Pair_impl_Pair__impl_BoxOk_1_L0.eq]; rfl
theorem slices_IndexFunc_impl_Pair_impl_Pair__impl_BoxOk_1_L0.succ {α : Type} (N n : Nat) (v242 : List (Int × Int × Unit)) (v243 : Int) (v244 : Int) (v245 : Int) (k0 : Int → Option α) (k1 : Option α) : slices_IndexFunc_impl_Pair_impl_Pair__impl_BoxOk_1_L0 N (n + 1) v242 v243 v244 v245 k0 k1 = slices_IndexFunc_impl_Pair_impl_Pair__impl_BoxOk_1_L0r N (fun y0 y1 y2 y3 => slices_IndexFunc_impl_Pair_impl_Pair__impl_BoxOk_1_L0 N n y0 y1 y2 y3 k0 k1) k0 k1 v242 v243 v244 v245 := by rw [slices_IndexFunc_impl_Pair_impl_Pair__impl_BoxOk_1_L0.eq]; rfl
/-- slices.IndexFunc[[]loop.example/pinfold/impl.Pair,loop.example/pinfold/impl.Pair] -/
noncomputable def slices_IndexFunc_impl_Pair_impl_Pair__impl_BoxOk_1.b {α : Type} (N : Nat) (a239 : List (Int × Int × Unit)) (a240 : Int) (k0 : Int → Option α) : Option α :=
  let x241 := ((a239.length : Nat) : Int)
  slices_IndexFunc_impl_Pair_impl_Pair__impl_BoxOk_1_L0 N N a239 a240 x241 (0 : Int)
    (fun x275 =>
      k0 x275)
    (
      k0 (-1 : Int))
theorem slices_IndexFunc_impl_Pair_impl_Pair__impl_BoxOk_1.ex : ∃ f : ((α : Type) → Nat → List (Int × Int × Unit) → Int → (Int → Option α) → Option α), f = fun α => @slices_IndexFunc_impl_Pair_impl_Pair__impl_BoxOk_1.b α := ⟨_, rfl⟩
noncomputable def slices_IndexFunc_impl_Pair_impl_Pair__impl_BoxOk_1 {α : Type} : Nat → List (Int × Int × Unit) → Int → (Int → Option α) → Option α := Classical.choose slices_IndexFunc_impl_Pair_impl_Pair__impl_BoxOk_1.ex α
theorem slices_IndexFunc_impl_Pair_impl_Pair__impl_BoxOk_1.eq : @slices_IndexFunc_impl_Pair_impl_Pair__impl_BoxOk_1 = @slices_IndexFunc_impl_Pair_impl_Pair__impl_BoxOk_1.b := funext fun α => congrFun (Classical.choose_spec slices_IndexFunc_impl_Pair_impl_Pair__impl_BoxOk_1.ex) α

/-- slices.ContainsFunc[[]loop.example/pinfold/impl.Pair,loop.example/pinfold/impl.Pair] -/
noncomputable def slices_ContainsFunc_impl_Pair_impl_Pair__impl_BoxOk_1.b {α : Type} (N : Nat) (a237 : List (Int × Int × Unit)) (a238 : Int) (k0 : Bool → Option α) : Option α :=
  slices_IndexFunc_impl_Pair_impl_Pair__impl_BoxOk_1 N a237 a238
    (fun x276 =>
      let x277 := (decide ((0 : Int) ≤ x276))
      k0 x277)
theorem slices_ContainsFunc_impl_Pair_impl_Pair__impl_BoxOk_1.ex : ∃ f : ((α : Type) → Nat → List (Int × Int × Unit) → Int → (Bool → Option α) → Option α), f = fun α => @slices_ContainsFunc_impl_Pair_impl_Pair__impl_BoxOk_1.b α := ⟨_, rfl⟩
noncomputable def slices_ContainsFunc_impl_Pair_impl_Pair__impl_BoxOk_1 {α : Type} : Nat → List (Int × Int × Unit) → Int → (Bool → Option α) → Option α := Classical.choose slices_ContainsFunc_impl_Pair_impl_Pair__impl_BoxOk_1.ex α
theorem slices_ContainsFunc_impl_Pair_impl_Pair__impl_BoxOk_1.eq : @slices_ContainsFunc_impl_Pair_impl_Pair__impl_BoxOk_1 = @slices_ContainsFunc_impl_Pair_impl_Pair__impl_BoxOk_1.b := funext fun α => congrFun (Classical.choose_spec slices_ContainsFunc_impl_Pair_impl_Pair__impl_BoxOk_1.ex) α

/-- loop.example/pinfold/impl.BoxOk -/
noncomputable def impl_BoxOk.b {α : Type} (N : Nat) (a228 : Int) (a229 : (List (Int × Int × Unit)) × Unit) (k0 : Bool → Option α) : Option α :=
  let x230 := ((a229.1.length : Nat) : Int)
  impl_in N x230 (1 : Int) (6 : Int)
    (fun x236 =>
      bif x236 then
        slices_ContainsFunc_impl_Pair_impl_Pair__impl_BoxOk_1 N a229.1 a228
          (fun x278 =>
            let x279 := !x278
            k0 x279)
      else
        k0 false)
theorem impl_BoxOk.ex : ∃ f : ((α : Type) → Nat → Int → ((List (Int × Int × Unit)) × Unit) → (Bool → Option α) → Option α), f = fun α => @impl_BoxOk.b α := ⟨_, rfl⟩
noncomputable def impl_BoxOk {α : Type} : Nat → Int → ((List (Int × Int × Unit)) × Unit) → (Bool → Option α) → Option α := Classical.choose impl_BoxOk.ex α
theorem impl_BoxOk.eq : @impl_BoxOk = @impl_BoxOk.b := funext fun α => congrFun (Classical.choose_spec impl_BoxOk.ex) α

/-- loop.example/pinfold/impl.size -/
noncomputable def impl_size.b {α : Type} (N : Nat) (a303 : Int) (k0 : Int → Option α) : Option α :=
  let x304 := IntKind.i64.wrap (0 - a303)
  let x305 := maxI a303 x304
  k0 x305
theorem impl_size.ex : ∃ f : ((α : Type) → Nat → Int → (Int → Option α) → Option α), f = fun α => @impl_size.b α := ⟨_, rfl⟩
noncomputable def impl_size {α : Type} : Nat → Int → (Int → Option α) → Option α := Classical.choose impl_size.ex α
theorem impl_size.eq : @impl_size = @impl_size.b := funext fun α => congrFun (Classical.choose_spec impl_size.ex) α

/-- loop.example/pinfold/impl.BitPartOf -/
noncomputable def impl_BitPartOf.b {α : Type} (N : Nat) (a297 : Int) (a298 : Int) (k0 : (Bool × Int × Int × Unit) → Bool → Option α) : Option α :=
  impl_formatOf N a297
    (fun x299 _ =>
      impl_BitOk N a297 a298
        (fun x301 =>
          let x302 := !x301
          bif x302 then
            k0 (false, ((0 : Int), ((0 : Int), ()))) false
          else
            impl_size N a298
              (fun x306 =>
                let x307 := decide (x306 = x299.2.2.2.1)
                bif x307 then
                  k0 (false, ((0 : Int), ((0 : Int), ()))) false
                else
                  impl_size N a298
                    (fun x308 =>
                      bif (decide (x299.1 < (0 : Int))) then
                        none
                      else
                        let x309 := (shlI .i64 (1 : Int) x299.1)
                        let x310 := (IntKind.i64.wrap (x309 - (1 : Int)))
                        let x311 := bitI .and .i64 x308 x310
                        impl_size N a298
                          (fun x312 =>
                            bif (decide (x299.1 < (0 : Int))) then
                              none
                            else
                              let x313 := shrI .i64 x312 x299.1
                              let x314 := (decide (x313 = (0 : Int)))
                              bif x314 then
                                let x315 := (decide (a298 < (0 : Int)))
                                let x316 := IntKind.u64.wrap x311
                                k0 (x315, (x316, (x299.2.1, ()))) true
                              else
                                let x317 := (decide (a298 < (0 : Int)))
                                bif (decide (x299.1 < (0 : Int))) then
                                  none
                                else
                                  let x318 := (shlI .i64 (1 : Int) x299.1)
                                  let x319 := bitI .or .i64 x311 x318
                                  let x320 := IntKind.u64.wrap x319
                                  let x321 := IntKind.i64.wrap (x299.2.1 + x313)
                                  let x322 := (IntKind.i64.wrap (x321 - (1 : Int)))
                                  k0 (x317, (x320, (x322, ()))) true)))))
theorem impl_BitPartOf.ex : ∃ f : ((α : Type) → Nat → Int → Int → ((Bool × Int × Int × Unit) → Bool → Option α) → Option α), f = fun α => @impl_BitPartOf.b α := ⟨_, rfl⟩
noncomputable def impl_BitPartOf {α : Type} : Nat → Int → Int → ((Bool × Int × Int × Unit) → Bool → Option α) → Option α := Classical.choose impl_BitPartOf.ex α
theorem impl_BitPartOf.eq : @impl_BitPartOf = @impl_BitPartOf.b := funext fun α => congrFun (Classical.choose_spec impl_BitPartOf.ex) α

-- prim math_bits_TrailingZeros64
noncomputable def math_bits_Len64_J1.b {α : Type} (N : Nat) (v337 : Int) (v338 : Int) (k0 : Int → Int → Option α) : Option α :=
  let x339 := (decide ((4294967296 : Int) ≤ v337))
  bif x339 then
    let x340 := (shrI .u64 v337 (32 : Int))
    k0 x340 (32 : Int)
  else
    k0 v337 v338
theorem math_bits_Len64_J1.ex : ∃ f : ((α : Type) → Nat → Int → Int → (Int → Int → Option α) → Option α), f = fun α => @math_bits_Len64_J1.b α := ⟨_, rfl⟩
noncomputable def math_bits_Len64_J1 {α : Type} : Nat → Int → Int → (Int → Int → Option α) → Option α := Classical.choose math_bits_Len64_J1.ex α
theorem math_bits_Len64_J1.eq : @math_bits_Len64_J1 = @math_bits_Len64_J1.b := funext fun α => congrFun (Classical.choose_spec math_bits_Len64_J1.ex) α
noncomputable def math_bits_Len64_J4.b {α : Type} (N : Nat) (v343 : Int) (v344 : Int) (k0 : Int → Int → Option α) : Option α :=
  let x345 := (decide ((65536 : Int) ≤ v343))
  bif x345 then
    let x346 := (shrI .u64 v343 (16 : Int))
    let x347 := (IntKind.i64.wrap (v344 + (16 : Int)))
    k0 x346 x347
  else
    k0 v343 v344
theorem math_bits_Len64_J4.ex : ∃ f : ((α : Type) → Nat → Int → Int → (Int → Int → Option α) → Option α), f = fun α => @math_bits_Len64_J4.b α := ⟨_, rfl⟩
noncomputable def math_bits_Len64_J4 {α : Type} : Nat → Int → Int → (Int → Int → Option α) → Option α := Classical.choose math_bits_Len64_J4.ex α
theorem math_bits_Len64_J4.eq : @math_bits_Len64_J4 = @math_bits_Len64_J4.b := funext fun α => congrFun (Classical.choose_spec math_bits_Len64_J4.ex) α
noncomputable def math_bits_Len64_J7.b {α : Type} (N : Nat) (v350 : Int) (v351 : Int) (k0 : Int → Int → Option α) : Option α :=
  let x352 := (decide ((256 : Int) ≤ v350))
  bif x352 then
    let x353 := (shrI .u64 v350 (8 : Int))
    let x354 := (IntKind.i64.wrap (v351 + (8 : Int)))
    k0 x353 x354
  else
    k0 v350 v351
theorem math_bits_Len64_J7.ex : ∃ f : ((α : Type) → Nat → Int → Int → (Int → Int → Option α) → Option α), f = fun α => @math_bits_Len64_J7.b α := ⟨_, rfl⟩
noncomputable def math_bits_Len64_J7 {α : Type} : Nat → Int → Int → (Int → Int → Option α) → Option α := Classical.choose math_bits_Len64_J7.ex α
theorem math_bits_Len64_J7.eq : @math_bits_Len64_J7 = @math_bits_Len64_J7.b := funext fun α => congrFun (Classical.choose_spec math_bits_Len64_J7.ex) α
/-- math/bits.Len64 -/
noncomputable def math_bits_Len64.b {α : Type} (N : Nat) (a336 : Int) (k0 : Int → Option α) : Option α :=
  math_bits_Len64_J1 N a336 (0 : Int)
    (fun x341 x342 =>
      math_bits_Len64_J4 N x341 x342
        (fun x348 x349 =>
          math_bits_Len64_J7 N x348 x349
            (fun x355 x356 =>
              let x357 := IntKind.u8.wrap x355
              bif (decide (x357 < (0 : Int))) then
                none
              else
                match ((⟨#[0, 1, 2, 2, 3, 3, 3, 3, 4, 4, 4, 4, 4, 4, 4, 4, 5, 5, 5, 5, 5, 5, 5, 5, 5, 5, 5, 5, 5, 5, 5, 5, 6, 6, 6, 6, 6, 6, 6, 6, 6, 6, 6, 6, 6, 6, 6, 6, 6, 6, 6, 6, 6, 6, 6, 6, 6, 6, 6, 6, 6, 6, 6, 6, 7, 7, 7, 7, 7, 7, 7, 7, 7, 7, 7, 7, 7, 7, 7, 7, 7, 7, 7, 7, 7, 7, 7, 7, 7, 7, 7, 7, 7, 7, 7, 7, 7, 7, 7, 7, 7, 7, 7, 7, 7, 7, 7, 7, 7, 7, 7, 7, 7, 7, 7, 7, 7, 7, 7, 7, 7, 7, 7, 7, 7, 7, 7, 7, 8, 8, 8, 8, 8, 8, 8, 8, 8, 8, 8, 8, 8, 8, 8, 8, 8, 8, 8, 8, 8, 8, 8, 8, 8, 8, 8, 8, 8, 8, 8, 8, 8, 8, 8, 8, 8, 8, 8, 8, 8, 8, 8, 8, 8, 8, 8, 8, 8, 8, 8, 8, 8, 8, 8, 8, 8, 8, 8, 8, 8, 8, 8, 8, 8, 8, 8, 8, 8, 8, 8, 8, 8, 8, 8, 8, 8, 8, 8, 8, 8, 8, 8, 8, 8, 8, 8, 8, 8, 8, 8, 8, 8, 8, 8, 8, 8, 8, 8, 8, 8, 8, 8, 8, 8, 8, 8, 8, 8, 8, 8, 8, 8, 8, 8, 8, 8, 8, 8, 8, 8, 8, 8, 8, 8, 8, 8, 8]⟩ : ByteArray)[x357.toNat]? : Option UInt8) with
                | some x358 =>
                  let x359 := ((x358.toNat : Nat) : Int)
                  let x360 := IntKind.i64.wrap x359
                  let x361 := IntKind.i64.wrap (x356 + x360)
                  k0 x361
                | none => none)))
theorem math_bits_Len64.ex : ∃ f : ((α : Type) → Nat → Int → (Int → Option α) → Option α), f = fun α => @math_bits_Len64.b α := ⟨_, rfl⟩
noncomputable def math_bits_Len64 {α : Type} : Nat → Int → (Int → Option α) → Option α := Classical.choose math_bits_Len64.ex α
theorem math_bits_Len64.eq : @math_bits_Len64 = @math_bits_Len64.b := funext fun α => congrFun (Classical.choose_spec math_bits_Len64.ex) α

noncomputable def impl_BitMake_J14.b {α : Type} (N : Nat) (v370 : Int) (v371 : Int) (v372 : Int) (v373 : Int) (v374 : Bool × Int × Int × Unit) (v375 : Int × Int × Int × Int × Unit) (k0 : Int → (Bool × Int × Int × Unit) → Option α) : Option α :=
  let x376 := (decide ((1 : Int) ≤ v373))
  bif x376 then
    bif (decide (v375.1 < (0 : Int))) then
      none
    else
      let x377 := shlI .i64 v373 v375.1
      let x378 := (IntKind.i64.wrap (v375.1 + (1 : Int)))
      let x379 := IntKind.i64.wrap (x378 - v372)
      bif (decide (x379 < (0 : Int))) then
        none
      else
        let x380 := shlI .u64 v370 x379
        let x381 := IntKind.i64.wrap x380
        bif (decide (v375.1 < (0 : Int))) then
          none
        else
          let x382 := (shlI .i64 (1 : Int) v375.1)
          let x383 := (IntKind.i64.wrap (x382 - (1 : Int)))
          let x384 := bitI .and .i64 x381 x383
          let x385 := bitI .or .i64 x377 x384
          k0 x385 v374
  else
    let x386 := IntKind.i64.wrap (v371 - v375.2.1)
    bif (decide (x386 < (0 : Int))) then
      none
    else
      let x387 := shlI .u64 v370 x386
      let x388 := IntKind.i64.wrap x387
      k0 x388 v374
theorem impl_BitMake_J14.ex : ∃ f : ((α : Type) → Nat → Int → Int → Int → Int → (Bool × Int × Int × Unit) → (Int × Int × Int × Int × Unit) → (Int → (Bool × Int × Int × Unit) → Option α) → Option α), f = fun α => @impl_BitMake_J14.b α := ⟨_, rfl⟩
noncomputable def impl_BitMake_J14 {α : Type} : Nat → Int → Int → Int → Int → (Bool × Int × Int × Unit) → (Int × Int × Int × Int × Unit) → (Int → (Bool × Int × Int × Unit) → Option α) → Option α := Classical.choose impl_BitMake_J14.ex α
theorem impl_BitMake_J14.eq : @impl_BitMake_J14 = @impl_BitMake_J14.b := funext fun α => congrFun (Classical.choose_spec impl_BitMake_J14.ex) α
noncomputable def impl_BitMake_J17.b {α : Type} (N : Nat) (v391 : Int) (v392 : Bool × Int × Int × Unit) (k0 : Int → Option α) : Option α :=
  bif v392.1 then
    let x393 := IntKind.i64.wrap (0 - v391)
    k0 x393
  else
    k0 v391
theorem impl_BitMake_J17.ex : ∃ f : ((α : Type) → Nat → Int → (Bool × Int × Int × Unit) → (Int → Option α) → Option α), f = fun α => @impl_BitMake_J17.b α := ⟨_, rfl⟩
noncomputable def impl_BitMake_J17 {α : Type} : Nat → Int → (Bool × Int × Int × Unit) → (Int → Option α) → Option α := Classical.choose impl_BitMake_J17.ex α
theorem impl_BitMake_J17.eq : @impl_BitMake_J17 = @impl_BitMake_J17.b := funext fun α => congrFun (Classical.choose_spec impl_BitMake_J17.ex) α
/-- loop.example/pinfold/impl.BitMake -/
noncomputable def impl_BitMake.b {α : Type} (N : Nat) (a325 : Int) (a326 : Bool × Int × Int × Unit) (k0 : Int → Bool → Option α) : Option α :=
  impl_formatOf N a325
    (fun x327 x328 =>
      let x329 := !x328
      bif x329 then
        k0 (0 : Int) false
      else
        impl_in N a326.2.2.1 (-2000 : Int) (2000 : Int)
          (fun x330 =>
            let x331 := !x330
            bif x331 then
              k0 (0 : Int) false
            else
              let x332 := (decide (a326.2.1 = (0 : Int)))
              bif x332 then
                k0 (0 : Int) true
              else
                math_bits_TrailingZeros64 N a326.2.1
                  (fun x333 =>
                    bif (decide (x333 < (0 : Int))) then
                      none
                    else
                      let x334 := shrI .u64 a326.2.1 x333
                      let x335 := IntKind.i64.wrap (a326.2.2.1 + x333)
                      math_bits_Len64 N x334
                        (fun x362 =>
                          let x363 := IntKind.i64.wrap (x335 + x362)
                          let x364 := (IntKind.i64.wrap (x363 - (1 : Int)))
                          let x365 := (IntKind.i64.wrap (x327.1 + (1 : Int)))
                          let x366 := decide (x365 < x362)
                          bif x366 then
                            k0 (0 : Int) false
                          else
                            let x367 := decide (x335 < x327.2.1)
                            bif x367 then
                              k0 (0 : Int) false
                            else
                              let x368 := decide (x327.2.2.1 < x364)
                              bif x368 then
                                k0 (0 : Int) false
                              else
                                let x369 := IntKind.i64.wrap (x364 + x327.2.2.1)
                                impl_BitMake_J14 N x334 x335 x362 x369 a326 x327
                                  (fun x389 x390 =>
                                    impl_BitMake_J17 N x389 x390
                                      (fun x394 =>
                                        k0 x394 true))))))
theorem impl_BitMake.ex : ∃ f : ((α : Type) → Nat → Int → (Bool × Int × Int × Unit) → (Int → Bool → Option α) → Option α), f = fun α => @impl_BitMake.b α := ⟨_, rfl⟩
noncomputable def impl_BitMake {α : Type} : Nat → Int → (Bool × Int × Int × Unit) → (Int → Bool → Option α) → Option α := Classical.choose impl_BitMake.ex α
theorem impl_BitMake.eq : @impl_BitMake = @impl_BitMake.b := funext fun α => congrFun (Classical.choose_spec impl_BitMake.ex) α

/-- loop.example/pinfold/impl.widen -/
noncomputable def impl_widen.b {α : Type} (N : Nat) (a296 : Int) (k0 : Int → Option α) : Option α :=
  impl_BitPartOf N (32 : Int) a296
    (fun x323 x324 =>
      bif x324 then
        impl_BitMake N (64 : Int) x323
          (fun x395 _ =>
            k0 x395)
      else
        let x397 := (decide (a296 < (0 : Int)))
        bif x397 then
          impl_BitTop N (64 : Int)
            (fun x398 =>
              let x399 := IntKind.i64.wrap (0 - x398)
              k0 x399)
        else
          impl_BitTop N (64 : Int)
            (fun x400 =>
              k0 x400))
theorem impl_widen.ex : ∃ f : ((α : Type) → Nat → Int → (Int → Option α) → Option α), f = fun α => @impl_widen.b α := ⟨_, rfl⟩
noncomputable def impl_widen {α : Type} : Nat → Int → (Int → Option α) → Option α := Classical.choose impl_widen.ex α
theorem impl_widen.eq : @impl_widen = @impl_widen.b := funext fun α => congrFun (Classical.choose_spec impl_widen.ex) α

/-- loop.example/pinfold/impl.PairMore -/
noncomputable def impl_PairMore.b {α : Type} (N : Nat) (a293 : Int × Int × Unit) (k0 : (Int × Int × Unit) → Bool → Option α) : Option α :=
  impl_PairOk N (32 : Int) a293
    (fun x294 =>
      let x295 := !x294
      bif x295 then
        k0 ((0 : Int), ((0 : Int), ())) false
      else
        impl_widen N a293.1
          (fun x401 =>
            impl_widen N a293.2.1
              (fun x402 =>
                k0 (x401, (x402, ())) true)))
theorem impl_PairMore.ex : ∃ f : ((α : Type) → Nat → (Int × Int × Unit) → ((Int × Int × Unit) → Bool → Option α) → Option α), f = fun α => @impl_PairMore.b α := ⟨_, rfl⟩
noncomputable def impl_PairMore {α : Type} : Nat → (Int × Int × Unit) → ((Int × Int × Unit) → Bool → Option α) → Option α := Classical.choose impl_PairMore.ex α
theorem impl_PairMore.eq : @impl_PairMore = @impl_PairMore.b := funext fun α => congrFun (Classical.choose_spec impl_PairMore.ex) α

noncomputable def impl_Box_mapped__impl_PairMore_L0r {α : Type} (N : Nat) (next : List (Int × Int × Unit) → Int → Int → List (Int × Int × Unit) → List (Int × Int × Unit) → Option α) (k0 : List (Int × Int × Unit) → List (Int × Int × Unit) → Option α) (v286 : List (Int × Int × Unit)) (v287 : Int) (v288 : Int) (v289 : List (Int × Int × Unit)) (v290 : List (Int × Int × Unit)) : Option α :=
  let x291 := decide (v288 < v287)
  bif x291 then
    bif (decide (v288 < (0 : Int))) then
      none
    else
      match v286[v288.toNat]? with
      | some x292 =>
        impl_PairMore N x292
          (fun x403 _ =>
            bif (decide (v288 < (0 : Int))) then
              none
            else
              bif decide (v288.toNat < v290.length) then
                match v290[v288.toNat]? with
                | some x405 =>
                  let x406 := v290.set v288.toNat x403
                  let x407 := (IntKind.i64.wrap (v288 + (1 : Int)))
                  next v286 v287 x407 v289 x406
                | none => none
              else
                none)
      | none => none
  else
    k0 v289 v290
noncomputable def impl_Box_mapped__impl_PairMore_L0.b {α : Type} (N n : Nat) (v286 : List (Int × Int × Unit)) (v287 : Int) (v288 : Int) (v289 : List (Int × Int × Unit)) (v290 : List (Int × Int × Unit)) (k0 : List (Int × Int × Unit) → List (Int × Int × Unit) → Option α) : Option α :=
  Nat.rec (motive := fun _ => List (Int × Int × Unit) → Int → Int → List (Int × Int × Unit) → List (Int × Int × Unit) → Option α) (fun _ _ _ _ _ => none) (fun _ next => impl_Box_mapped__impl_PairMore_L0r N next k0) n v286 v287 v288 v289 v290
theorem impl_Box_mapped__impl_PairMore_L0.ex : ∃ f : ((α : Type) → Nat → Nat → List (Int × Int × Unit) → Int → Int → List (Int × Int × Unit) → List (Int × Int × Unit) → (List (Int × Int × Unit) → List (Int × Int × Unit) → Option α) → Option α), f = fun α => @impl_Box_mapped__impl_PairMore_L0.b α := ⟨_, rfl⟩
noncomputable def impl_Box_mapped__impl_PairMore_L0 {α : Type} : Nat → Nat → List (Int × Int × Unit) → Int → Int → List (Int × Int × Unit) → List (Int × Int × Unit) → (List (Int × Int × Unit) → List (Int × Int × Unit) → Option α) → Option α := Classical.choose impl_Box_mapped__impl_PairMore_L0.ex α
theorem impl_Box_mapped__impl_PairMore_L0.eq : @impl_Box_mapped__impl_PairMore_L0 = @impl_Box_mapped__impl_PairMore_L0.b := funext fun α => congrFun (Classical.choose_spec impl_Box_mapped__impl_PairMore_L0.ex) α
theorem impl_Box_mapped__impl_PairMore_L0.zero {α : Type} (N : Nat) (v286 : List (Int × Int × Unit)) (v287 : Int) (v288 : Int) (v289 : List (Int × Int × Unit)) (v290 : List (Int × Int × Unit)) (k0 : List (Int × Int × Unit) → List (Int × Int × Unit) → Option α) : impl_Box_mapped__impl_PairMore_L0 N 0 v286 v287 v288 v289 v290 k0 = none := by rw [impl_Box_mapped__impl_PairMore_L0.eq]; rfl
theorem impl_Box_mapped__impl_PairMore_L0.succ {α : Type} (N n : Nat) (v286 : List (Int × Int × Unit)) (v287 : Int) (v288 : Int) (v289 : List (Int × Int × Unit)) (v290 : List (Int × Int × Unit)) (k0 : List (Int × Int × Unit) → List (Int × Int × Unit) → Option α) : impl_Box_mapped__impl_PairMore_L0 N (n + 1) v286 v287 v288 v289 v290 k0 = impl_Box_mapped__impl_PairMore_L0r N (fun y0 y1 y2 y3 y4 => impl_Box_mapped__impl_PairMore_L0 N n y0 y1 y2 y3 y4 k0) k0 v286 v287 v288 v289 v290 := by rw [impl_Box_mapped__impl_PairMore_L0.eq]; rfl
/-- (loop.example/pinfold/impl.Box).mapped -/
noncomputable def impl_Box_mapped__impl_PairMore.b {α : Type} (N : Nat) (a282 : (List (Int × Int × Unit)) × Unit) (k0 : List (Int × Int × Unit) → Option α) : Option α :=
  let x283 := ((a282.1.length : Nat) : Int)
  bif (decide ((0 : Int) ≤ x283)) then
    bif decide (x283 ≤ x283) then
      bif (decide (x283 ≤ ((8796093022208 : Nat) : Int))) then
        let x284 := (List.replicate x283.toNat ((0 : Int), ((0 : Int), ())))
        let x285 := ((a282.1.length : Nat) : Int)
        impl_Box_mapped__impl_PairMore_L0 N N a282.1 x285 (0 : Int) [] x284
          (fun _ x409 =>
            k0 x409)
      else
        none
    else
      none
  else
    none
theorem impl_Box_mapped__impl_PairMore.ex : ∃ f : ((α : Type) → Nat → ((List (Int × Int × Unit)) × Unit) → (List (Int × Int × Unit) → Option α) → Option α), f = fun α => @impl_Box_mapped__impl_PairMore.b α := ⟨_, rfl⟩
noncomputable def impl_Box_mapped__impl_PairMore {α : Type} : Nat → ((List (Int × Int × Unit)) × Unit) → (List (Int × Int × Unit) → Option α) → Option α := Classical.choose impl_Box_mapped__impl_PairMore.ex α
theorem impl_Box_mapped__impl_PairMore.eq : @impl_Box_mapped__impl_PairMore = @impl_Box_mapped__impl_PairMore.b := funext fun α => congrFun (Classical.choose_spec impl_Box_mapped__impl_PairMore.ex) α

/-- loop.example/pinfold/impl.BoxMore -/
noncomputable def impl_BoxMore.b {α : Type} (N : Nat) (a227 : (List (Int × Int × Unit)) × Unit) (k0 : Bool → List (Int × Int × Unit) → Option α) : Option α :=
  impl_BoxOk N (32 : Int) a227
    (fun x280 =>
      let x281 := !x280
      bif x281 then
        k0 false []
      else
        impl_Box_mapped__impl_PairMore N a227
          (fun x410 =>
            k0 true x410))
theorem impl_BoxMore.ex : ∃ f : ((α : Type) → Nat → ((List (Int × Int × Unit)) × Unit) → (Bool → List (Int × Int × Unit) → Option α) → Option α), f = fun α => @impl_BoxMore.b α := ⟨_, rfl⟩
noncomputable def impl_BoxMore {α : Type} : Nat → ((List (Int × Int × Unit)) × Unit) → (Bool → List (Int × Int × Unit) → Option α) → Option α := Classical.choose impl_BoxMore.ex α
theorem impl_BoxMore.eq : @impl_BoxMore = @impl_BoxMore.b := funext fun α => congrFun (Classical.choose_spec impl_BoxMore.ex) α

/-- loop.example/pinfold/laws.eqPair -/
noncomputable def laws_eqPair.b {α : Type} (N : Nat) (a427 : Int × Int × Unit) (a428 : Int × Int × Unit) (k0 : Bool → Option α) : Option α :=
  let x429 := !(decide (a427.1 = a428.1))
  bif x429 then
    k0 false
  else
    let x430 := !(decide (a427.2.1 = a428.2.1))
    bif x430 then
      k0 false
    else
      k0 true
theorem laws_eqPair.ex : ∃ f : ((α : Type) → Nat → (Int × Int × Unit) → (Int × Int × Unit) → (Bool → Option α) → Option α), f = fun α => @laws_eqPair.b α := ⟨_, rfl⟩
noncomputable def laws_eqPair {α : Type} : Nat → (Int × Int × Unit) → (Int × Int × Unit) → (Bool → Option α) → Option α := Classical.choose laws_eqPair.ex α
theorem laws_eqPair.eq : @laws_eqPair = @laws_eqPair.b := funext fun α => congrFun (Classical.choose_spec laws_eqPair.ex) α

noncomputable def laws_eqPairS_L0r {α : Type} (N : Nat) (next : List (Int × Int × Unit) → List (Int × Int × Unit) → Int → Option α) (k0 : Bool → Option α) (k1 : Option α) (v420 : List (Int × Int × Unit)) (v421 : List (Int × Int × Unit)) (v422 : Int) : Option α :=
  let x423 := ((v420.length : Nat) : Int)
  let x424 := decide (v422 < x423)
  bif x424 then
    bif (decide (v422 < (0 : Int))) then
      none
    else
      match v420[v422.toNat]? with
      | some x425 =>
        bif (decide (v422 < (0 : Int))) then
          none
        else
          match v421[v422.toNat]? with
          | some x426 =>
            laws_eqPair N x425 x426
              (fun x431 =>
                let x432 := !x431
                bif x432 then
                  k0 false
                else
                  let x433 := (IntKind.i64.wrap (v422 + (1 : Int)))
                  next v420 v421 x433)
          | none => none
      | none => none
  else
    k1
noncomputable def laws_eqPairS_L0.b {α : Type} (N n : Nat) (v420 : List (Int × Int × Unit)) (v421 : List (Int × Int × Unit)) (v422 : Int) (k0 : Bool → Option α) (k1 : Option α) : Option α :=
  Nat.rec (motive := fun _ => List (Int × Int × Unit) → List (Int × Int × Unit) → Int → Option α) (fun _ _ _ => none) (fun _ next => laws_eqPairS_L0r N next k0 k1) n v420 v421 v422
theorem laws_eqPairS_L0.ex : ∃ f : ((α : Type) → Nat → Nat → List (Int × Int × Unit) → List (Int × Int × Unit) → Int → (Bool → Option α) → (Option α) → Option α), f = fun α => @laws_eqPairS_L0.b α := ⟨_, rfl⟩
noncomputable def laws_eqPairS_L0 {α : Type} : Nat → Nat → List (Int × Int × Unit) → List (Int × Int × Unit) → Int → (Bool → Option α) → (Option α) → Option α := Classical.choose laws_eqPairS_L0.ex α
theorem laws_eqPairS_L0.eq : @laws_eqPairS_L0 = @laws_eqPairS_L0.b := funext fun α => congrFun (Classical.choose_spec laws_eqPairS_L0.ex) α
theorem laws_eqPairS_L0.zero {α : Type} (N : Nat) (v420 : List (Int × Int × Unit)) (v421 : List (Int × Int × Unit)) (v422 : Int) (k0 : Bool → Option α) (k1 : Option α) : laws_eqPairS_L0 N 0 v420 v421 v422 k0 k1 = none := by rw [laws_eqPairS_L0.eq]; rfl
theorem laws_eqPairS_L0.succ {α : Type} (N n : Nat) (v420 : List (Int × Int × Unit)) (v421 : List (Int × Int × Unit)) (v422 : Int) (k0 : Bool → Option α) (k1 : Option α) : laws_eqPairS_L0 N (n + 1) v420 v421 v422 k0 k1 = laws_eqPairS_L0r N (fun y0 y1 y2 => laws_eqPairS_L0 N n y0 y1 y2 k0 k1) k0 k1 v420 v421 v422 := by rw [laws_eqPairS_L0.eq]; rfl
/-- loop.example/pinfold/laws.eqPairS -/
noncomputable def laws_eqPairS.b {α : Type} (N : Nat) (a415 : List (Int × Int × Unit)) (a416 : List (Int × Int × Unit)) (k0 : Bool → Option α) : Option α :=
  let x417 := ((a415.length : Nat) : Int)
  let x418 := ((a416.length : Nat) : Int)
  let x419 := !(decide (x417 = x418))
  bif x419 then
    k0 false
  else
    laws_eqPairS_L0 N N a415 a416 (0 : Int)
      (fun x434 =>
        k0 x434)
      (
        k0 true)
theorem laws_eqPairS.ex : ∃ f : ((α : Type) → Nat → List (Int × Int × Unit) → List (Int × Int × Unit) → (Bool → Option α) → Option α), f = fun α => @laws_eqPairS.b α := ⟨_, rfl⟩
noncomputable def laws_eqPairS {α : Type} : Nat → List (Int × Int × Unit) → List (Int × Int × Unit) → (Bool → Option α) → Option α := Classical.choose laws_eqPairS.ex α
theorem laws_eqPairS.eq : @laws_eqPairS = @laws_eqPairS.b := funext fun α => congrFun (Classical.choose_spec laws_eqPairS.ex) α

/-- loop.example/pinfold/laws.eqBox -/
noncomputable def laws_eqBox.b {α : Type} (N : Nat) (a413 : (List (Int × Int × Unit)) × Unit) (a414 : (List (Int × Int × Unit)) × Unit) (k0 : Bool → Option α) : Option α :=
  laws_eqPairS N a413.1 a414.1
    (fun x435 =>
      let x436 := !x435
      bif x436 then
        k0 false
      else
        k0 true)
theorem laws_eqBox.ex : ∃ f : ((α : Type) → Nat → ((List (Int × Int × Unit)) × Unit) → ((List (Int × Int × Unit)) × Unit) → (Bool → Option α) → Option α), f = fun α => @laws_eqBox.b α := ⟨_, rfl⟩
noncomputable def laws_eqBox {α : Type} : Nat → ((List (Int × Int × Unit)) × Unit) → ((List (Int × Int × Unit)) × Unit) → (Bool → Option α) → Option α := Classical.choose laws_eqBox.ex α
theorem laws_eqBox.eq : @laws_eqBox = @laws_eqBox.b := funext fun α => congrFun (Classical.choose_spec laws_eqBox.ex) α

noncomputable def laws_markPairS_L0r {α : Type} (N : Nat) (next : Int → Int → List (Int × Int × Unit) → Option α) (k0 : Int → List (Int × Int × Unit) → Option α) (v447 : Int) (v448 : Int) (v449 : List (Int × Int × Unit)) : Option α :=
  let x450 := ((v449.length : Nat) : Int)
  let x451 := decide (v448 < x450)
  bif x451 then
    bif (decide (v448 < (0 : Int))) then
      none
    else
      bif decide (v448.toNat < v449.length) then
        match v449[v448.toNat]? with
        | some x452 =>
          let x453 := v449.set v448.toNat (v447, (x452.2.1, ()))
          let x454 := (IntKind.i64.wrap (v447 + (1 : Int)))
          bif (decide (v448 < (0 : Int))) then
            none
          else
            bif decide (v448.toNat < x453.length) then
              match x453[v448.toNat]? with
              | some x455 =>
                let x456 := x453.set v448.toNat (x455.1, (x454, ()))
                let x457 := (IntKind.i64.wrap (x454 + (1 : Int)))
                let x458 := (IntKind.i64.wrap (v448 + (1 : Int)))
                next x457 x458 x456
              | none => none
            else
              none
        | none => none
      else
        none
  else
    k0 v447 v449
noncomputable def laws_markPairS_L0.b {α : Type} (N n : Nat) (v447 : Int) (v448 : Int) (v449 : List (Int × Int × Unit)) (k0 : Int → List (Int × Int × Unit) → Option α) : Option α :=
  Nat.rec (motive := fun _ => Int → Int → List (Int × Int × Unit) → Option α) (fun _ _ _ => none) (fun _ next => laws_markPairS_L0r N next k0) n v447 v448 v449
theorem laws_markPairS_L0.ex : ∃ f : ((α : Type) → Nat → Nat → Int → Int → List (Int × Int × Unit) → (Int → List (Int × Int × Unit) → Option α) → Option α), f = fun α => @laws_markPairS_L0.b α := ⟨_, rfl⟩
noncomputable def laws_markPairS_L0 {α : Type} : Nat → Nat → Int → Int → List (Int × Int × Unit) → (Int → List (Int × Int × Unit) → Option α) → Option α := Classical.choose laws_markPairS_L0.ex α
theorem laws_markPairS_L0.eq : @laws_markPairS_L0 = @laws_markPairS_L0.b := funext fun α => congrFun (Classical.choose_spec laws_markPairS_L0.ex) α
theorem laws_markPairS_L0.zero {α : Type} (N : Nat) (v447 : Int) (v448 : Int) (v449 : List (Int × Int × Unit)) (k0 : Int → List (Int × Int × Unit) → Option α) : laws_markPairS_L0 N 0 v447 v448 v449 k0 = none := by rw [laws_markPairS_L0.eq]; rfl
theorem laws_markPairS_L0.succ {α : Type} (N n : Nat) (v447 : Int) (v448 : Int) (v449 : List (Int × Int × Unit)) (k0 : Int → List (Int × Int × Unit) → Option α) : laws_markPairS_L0 N (n + 1) v447 v448 v449 k0 = laws_markPairS_L0r N (fun y0 y1 y2 => laws_markPairS_L0 N n y0 y1 y2 k0) k0 v447 v448 v449 := by rw [laws_markPairS_L0.eq]; rfl
/-- loop.example/pinfold/laws.markPairS -/
noncomputable def laws_markPairS.b {α : Type} (N : Nat) (a445 : Int) (a446 : List (Int × Int × Unit)) (k0 : Int → List (Int × Int × Unit) → Option α) : Option α :=
  laws_markPairS_L0 N N a445 (0 : Int) a446
    (fun x459 x460 =>
      k0 x459 x460)
theorem laws_markPairS.ex : ∃ f : ((α : Type) → Nat → Int → List (Int × Int × Unit) → (Int → List (Int × Int × Unit) → Option α) → Option α), f = fun α => @laws_markPairS.b α := ⟨_, rfl⟩
noncomputable def laws_markPairS {α : Type} : Nat → Int → List (Int × Int × Unit) → (Int → List (Int × Int × Unit) → Option α) → Option α := Classical.choose laws_markPairS.ex α
theorem laws_markPairS.eq : @laws_markPairS = @laws_markPairS.b := funext fun α => congrFun (Classical.choose_spec laws_markPairS.ex) α

/-- loop.example/pinfold/laws.markBox -/
noncomputable def laws_markBox.b {α : Type} (N : Nat) (a443 : Int) (a444 : List (Int × Int × Unit)) (k0 : Int → List (Int × Int × Unit) → Option α) : Option α :=
  laws_markPairS N a443 a444
    (fun x461 x462 =>
      k0 x461 x462)
theorem laws_markBox.ex : ∃ f : ((α : Type) → Nat → Int → List (Int × Int × Unit) → (Int → List (Int × Int × Unit) → Option α) → Option α), f = fun α => @laws_markBox.b α := ⟨_, rfl⟩
noncomputable def laws_markBox {α : Type} : Nat → Int → List (Int × Int × Unit) → (Int → List (Int × Int × Unit) → Option α) → Option α := Classical.choose laws_markBox.ex α
theorem laws_markBox.eq : @laws_markBox = @laws_markBox.b := funext fun α => congrFun (Classical.choose_spec laws_markBox.ex) α

noncomputable def laws_heldPairS_L0r {α : Type} (N : Nat) (next : List (Int × Int × Unit) → Int → Int → Option α) (k0 : Int → Option α) (k1 : Int → Option α) (v475 : List (Int × Int × Unit)) (v476 : Int) (v477 : Int) : Option α :=
  let x478 := ((v475.length : Nat) : Int)
  let x479 := decide (v477 < x478)
  bif x479 then
    bif (decide (v477 < (0 : Int))) then
      none
    else
      match v475[v477.toNat]? with
      | some x480 =>
        let x481 := !(decide (x480.1 = v476))
        bif x481 then
          k0 (-1 : Int)
        else
          let x482 := (IntKind.i64.wrap (v476 + (1 : Int)))
          bif (decide (v477 < (0 : Int))) then
            none
          else
            match v475[v477.toNat]? with
            | some x483 =>
              let x484 := !(decide (x483.2.1 = x482))
              bif x484 then
                k0 (-1 : Int)
              else
                let x485 := (IntKind.i64.wrap (x482 + (1 : Int)))
                let x486 := (IntKind.i64.wrap (v477 + (1 : Int)))
                next v475 x485 x486
            | none => none
      | none => none
  else
    k1 v476
noncomputable def laws_heldPairS_L0.b {α : Type} (N n : Nat) (v475 : List (Int × Int × Unit)) (v476 : Int) (v477 : Int) (k0 : Int → Option α) (k1 : Int → Option α) : Option α :=
  Nat.rec (motive := fun _ => List (Int × Int × Unit) → Int → Int → Option α) (fun _ _ _ => none) (fun _ next => laws_heldPairS_L0r N next k0 k1) n v475 v476 v477
theorem laws_heldPairS_L0.ex : ∃ f : ((α : Type) → Nat → Nat → List (Int × Int × Unit) → Int → Int → (Int → Option α) → (Int → Option α) → Option α), f = fun α => @laws_heldPairS_L0.b α := ⟨_, rfl⟩
noncomputable def laws_heldPairS_L0 {α : Type} : Nat → Nat → List (Int × Int × Unit) → Int → Int → (Int → Option α) → (Int → Option α) → Option α := Classical.choose laws_heldPairS_L0.ex α
theorem laws_heldPairS_L0.eq : @laws_heldPairS_L0 = @laws_heldPairS_L0.b := funext fun α => congrFun (Classical.choose_spec laws_heldPairS_L0.ex) α
theorem laws_heldPairS_L0.zero {α : Type} (N : Nat) (v475 : List (Int × Int × Unit)) (v476 : Int) (v477 : Int) (k0 : Int → Option α) (k1 : Int → Option α) : laws_heldPairS_L0 N 0 v475 v476 v477 k0 k1 = none := by rw [laws_heldPairS_L0.eq]; rfl
theorem laws_heldPairS_L0.succ {α : Type} (N n : Nat) (v475 : List (Int × Int × Unit)) (v476 : Int) (v477 : Int) (k0 : Int → Option α) (k1 : Int → Option α) : laws_heldPairS_L0 N (n + 1) v475 v476 v477 k0 k1 = laws_heldPairS_L0r N (fun y0 y1 y2 => laws_heldPairS_L0 N n y0 y1 y2 k0 k1) k0 k1 v475 v476 v477 := by rw [laws_heldPairS_L0.eq]; rfl
/-- loop.example/pinfold/laws.heldPairS -/
noncomputable def laws_heldPairS.b {α : Type} (N : Nat) (a473 : List (Int × Int × Unit)) (a474 : Int) (k0 : Int → Option α) : Option α :=
  laws_heldPairS_L0 N N a473 a474 (0 : Int)
    (fun x487 =>
      k0 x487)
    (fun x488 =>
      k0 x488)
theorem laws_heldPairS.ex : ∃ f : ((α : Type) → Nat → List (Int × Int × Unit) → Int → (Int → Option α) → Option α), f = fun α => @laws_heldPairS.b α := ⟨_, rfl⟩
noncomputable def laws_heldPairS {α : Type} : Nat → List (Int × Int × Unit) → Int → (Int → Option α) → Option α := Classical.choose laws_heldPairS.ex α
theorem laws_heldPairS.eq : @laws_heldPairS = @laws_heldPairS.b := funext fun α => congrFun (Classical.choose_spec laws_heldPairS.ex) α

/-- loop.example/pinfold/laws.heldBox -/
noncomputable def laws_heldBox.b {α : Type} (N : Nat) (a471 : (List (Int × Int × Unit)) × Unit) (a472 : Int) (k0 : Int → Option α) : Option α :=
  laws_heldPairS N a471.1 a472
    (fun x489 =>
      let x490 := (decide (x489 < (0 : Int)))
      bif x490 then
        k0 (-1 : Int)
      else
        k0 x489)
theorem laws_heldBox.ex : ∃ f : ((α : Type) → Nat → ((List (Int × Int × Unit)) × Unit) → Int → (Int → Option α) → Option α), f = fun α => @laws_heldBox.b α := ⟨_, rfl⟩
noncomputable def laws_heldBox {α : Type} : Nat → ((List (Int × Int × Unit)) × Unit) → Int → (Int → Option α) → Option α := Classical.choose laws_heldBox.ex α
theorem laws_heldBox.eq : @laws_heldBox = @laws_heldBox.b := funext fun α => congrFun (Classical.choose_spec laws_heldBox.ex) α

/-- loop.example/pinfold/laws.FnExactBoxMore -/
noncomputable def laws_FnExactBoxMore.b {α : Type} (N : Nat) (a1 : (List (Int × Int × Unit)) × Unit) (k0 : Bool → Option α) : Option α :=
  laws_szBox N a1 (1048576 : Int)
    (fun x11 =>
      let x12 := (decide (x11 < (0 : Int)))
      bif x12 then
        k0 true
      else
        laws_toBox N a1
          (fun x30 =>
            spec_BoxMore N (x30, ())
              (fun x224 x225 =>
                laws_toBox N a1
                  (fun x226 =>
                    impl_BoxMore N (x226, ())
                      (fun x411 x412 =>
                        laws_eqBox N (x412, ()) (x225, ())
                          (fun x437 =>
                            let x438 := !x437
                            bif x438 then
                              k0 false
                            else
                              let x439 := !(x411 == x224)
                              bif x439 then
                                k0 false
                              else
                                laws_toBox N a1
                                  (fun x440 =>
                                    laws_eqBox N (x226, ()) (x440, ())
                                      (fun x441 =>
                                        let x442 := !x441
                                        bif x442 then
                                          k0 false
                                        else
                                          laws_markBox N (1 : Int) x226
                                            (fun x463 _ =>
                                              let x465 := (decide (x463 < (0 : Int)))
                                              bif x465 then
                                                k0 false
                                              else
                                                laws_eqBox N (x412, ()) (x225, ())
                                                  (fun x466 =>
                                                    let x467 := !x466
                                                    bif x467 then
                                                      k0 false
                                                    else
                                                      let x468 := !(x411 == x224)
                                                      bif x468 then
                                                        k0 false
                                                      else
                                                        laws_markBox N (1 : Int) x412
                                                          (fun x469 x470 =>
                                                            laws_heldBox N (x470, ()) (1 : Int)
                                                              (fun x491 =>
                                                                let x492 := (decide (x491 < (0 : Int)))
                                                                bif x492 then
                                                                  k0 false
                                                                else
                                                                  let x493 := !(decide (x491 = x469))
                                                                  bif x493 then
                                                                    k0 false
                                                                  else
                                                                    laws_toBox N a1
                                                                      (fun x494 =>
                                                                        impl_BoxMore N (x494, ())
                                                                          (fun x495 x496 =>
                                                                            laws_eqBox N (x496, ()) (x225, ())
                                                                              (fun x497 =>
                                                                                let x498 := !x497
                                                                                bif x498 then
                                                                                  k0 false
                                                                                else
                                                                                  let x499 := !(x495 == x224)
                                                                                  bif x499 then
                                                                                    k0 false
                                                                                  else
                                                                                    laws_heldBox N (x470, ()) (1 : Int)
                                                                                      (fun x500 =>
                                                                                        let x501 := (decide (x500 < (0 : Int)))
                                                                                        bif x501 then
                                                                                          k0 false
                                                                                        else
                                                                                          let x502 := !(decide (x500 = x469))
                                                                                          bif x502 then
                                                                                            k0 false
                                                                                          else
                                                                                            k0 true))))))))))))))))
theorem laws_FnExactBoxMore.ex : ∃ f : ((α : Type) → Nat → ((List (Int × Int × Unit)) × Unit) → (Bool → Option α) → Option α), f = fun α => @laws_FnExactBoxMore.b α := ⟨_, rfl⟩
noncomputable def laws_FnExactBoxMore {α : Type} : Nat → ((List (Int × Int × Unit)) × Unit) → (Bool → Option α) → Option α := Classical.choose laws_FnExactBoxMore.ex α
theorem laws_FnExactBoxMore.eq : @laws_FnExactBoxMore = @laws_FnExactBoxMore.b := funext fun α => congrFun (Classical.choose_spec laws_FnExactBoxMore.ex) α

end
end Go.Proofs.YtbaeipjjijdgiaaDoorAm
