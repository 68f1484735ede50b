/-
  The functions that the program computes, as the abstract machine tells them. Printed by amp.py.
-/
import Derived.Test.YtlbihmicbncdiaaAmb
namespace Go.Proofs.YtlbihmicbncdiaaAm
open Go
noncomputable section
set_option linter.unusedVariables false
set_option linter.unusedSimpArgs false

/-- loop.example/pinfold/laws.toSpan -/
noncomputable def laws_toSpan.b {α : Type} (N : Nat) (a3 : Bool × Int × Int × Unit) (k0 : (Bool × Int × Int × Unit) → Option α) : Option α :=
  k0 (a3.1, (a3.2.1, (a3.2.2.1, ())))
theorem laws_toSpan.ex : ∃ f : ((α : Type) → Nat → (Bool × Int × Int × Unit) → ((Bool × Int × Int × Unit) → Option α) → Option α), f = fun α => @laws_toSpan.b α := ⟨_, rfl⟩
noncomputable def laws_toSpan {α : Type} : Nat → (Bool × Int × Int × Unit) → ((Bool × Int × Int × Unit) → Option α) → Option α := Classical.choose laws_toSpan.ex α
theorem laws_toSpan.eq : @laws_toSpan = @laws_toSpan.b := funext fun α => congrFun (Classical.choose_spec laws_toSpan.ex) α

/-- loop.example/pinfold/spec.BitTop -/
noncomputable def spec_BitTop.b {α : Type} (N : Nat) (a9 : Int) (k0 : Int → Option α) : Option α :=
  let x10 := (decide (a9 = (32 : Int)))
  bif x10 then
    k0 (2139095040 : Int)
  else
    let x11 := (decide (a9 = (64 : Int)))
    bif x11 then
      k0 (9218868437227405312 : Int)
    else
      k0 (0 : Int)
theorem spec_BitTop.ex : ∃ f : ((α : Type) → Nat → Int → (Int → Option α) → Option α), f = fun α => @spec_BitTop.b α := ⟨_, rfl⟩
noncomputable def spec_BitTop {α : Type} : Nat → Int → (Int → Option α) → Option α := Classical.choose spec_BitTop.ex α
theorem spec_BitTop.eq : @spec_BitTop = @spec_BitTop.b := funext fun α => congrFun (Classical.choose_spec spec_BitTop.ex) α

/-- loop.example/pinfold/spec.l9Of -/
noncomputable def spec_l9Of.b {α : Type} (N : Nat) (a13 : Int) (a14 : Int) (k0 : (Bool × Int × Int × Unit) → Option α) : Option α :=
  k0 (true, (a13, (a14, ())))
theorem spec_l9Of.ex : ∃ f : ((α : Type) → Nat → Int → Int → ((Bool × Int × Int × Unit) → Option α) → Option α), f = fun α => @spec_l9Of.b α := ⟨_, rfl⟩
noncomputable def spec_l9Of {α : Type} : Nat → Int → Int → ((Bool × Int × Int × Unit) → Option α) → Option α := Classical.choose spec_l9Of.ex α
theorem spec_l9Of.eq : @spec_l9Of = @spec_l9Of.b := funext fun α => congrFun (Classical.choose_spec spec_l9Of.ex) α

/-- loop.example/pinfold/spec.l1Width -/
noncomputable def spec_l1Width.b {α : Type} (N : Nat) (a25 : Int) (k0 : Bool → Option α) : Option α :=
  let x26 := (decide (a25 = (32 : Int)))
  bif x26 then
    k0 true
  else
    let x27 := (decide (a25 = (64 : Int)))
    k0 x27
theorem spec_l1Width.ex : ∃ f : ((α : Type) → Nat → Int → (Bool → Option α) → Option α), f = fun α => @spec_l1Width.b α := ⟨_, rfl⟩
noncomputable def spec_l1Width {α : Type} : Nat → Int → (Bool → Option α) → Option α := Classical.choose spec_l1Width.ex α
theorem spec_l1Width.eq : @spec_l1Width = @spec_l1Width.b := funext fun α => congrFun (Classical.choose_spec spec_l1Width.ex) α

/-- loop.example/pinfold/spec.l9Pair -/
noncomputable def spec_l9Pair.b {α : Type} (N : Nat) (a31 : Bool × Int × Int × Unit) (k0 : (Int × Int × Unit) → Option α) : Option α :=
  k0 (a31.2.1, (a31.2.2.1, ()))
theorem spec_l9Pair.ex : ∃ f : ((α : Type) → Nat → (Bool × Int × Int × Unit) → ((Int × Int × Unit) → Option α) → Option α), f = fun α => @spec_l9Pair.b α := ⟨_, rfl⟩
noncomputable def spec_l9Pair {α : Type} : Nat → (Bool × Int × Int × Unit) → ((Int × Int × Unit) → Option α) → Option α := Classical.choose spec_l9Pair.ex α
theorem spec_l9Pair.eq : @spec_l9Pair = @spec_l9Pair.b := funext fun α => congrFun (Classical.choose_spec spec_l9Pair.ex) α

/-- loop.example/pinfold/spec.BitOk -/
noncomputable def spec_BitOk.b {α : Type} (N : Nat) (a36 : Int) (a37 : Int) (k0 : Bool → Option α) : Option α :=
  spec_l1Width N a36
    (fun x38 =>
      bif x38 then
        spec_BitTop N a36
          (fun x39 =>
            let x40 := IntKind.i64.wrap (0 - x39)
            let x41 := decide (x40 ≤ a37)
            bif x41 then
              spec_BitTop N a36
                (fun x42 =>
                  let x43 := decide (a37 ≤ x42)
                  k0 x43)
            else
              k0 false)
      else
        k0 false)
theorem spec_BitOk.ex : ∃ f : ((α : Type) → Nat → Int → Int → (Bool → Option α) → Option α), f = fun α => @spec_BitOk.b α := ⟨_, rfl⟩
noncomputable def spec_BitOk {α : Type} : Nat → Int → Int → (Bool → Option α) → Option α := Classical.choose spec_BitOk.ex α
theorem spec_BitOk.eq : @spec_BitOk = @spec_BitOk.b := funext fun α => congrFun (Classical.choose_spec spec_BitOk.ex) α

/-- loop.example/pinfold/spec.PairOk -/
noncomputable def spec_PairOk.b {α : Type} (N : Nat) (a33 : Int) (a34 : Int × Int × Unit) (k0 : Bool → Option α) : Option α :=
  spec_BitTop N a33
    (fun x35 =>
      spec_BitOk N a33 a34.1
        (fun x44 =>
          bif x44 then
            spec_BitOk N a33 a34.2.1
              (fun x45 =>
                bif x45 then
                  let x46 := decide (a34.1 ≤ a34.2.1)
                  bif x46 then
                    let x47 := decide (a34.1 < x35)
                    bif x47 then
                      let x48 := IntKind.i64.wrap (0 - x35)
                      let x49 := decide (x48 < a34.2.1)
                      k0 x49
                    else
                      k0 false
                  else
                    k0 false
                else
                  k0 false)
          else
            k0 false))
theorem spec_PairOk.ex : ∃ f : ((α : Type) → Nat → Int → (Int × Int × Unit) → (Bool → Option α) → Option α), f = fun α => @spec_PairOk.b α := ⟨_, rfl⟩
noncomputable def spec_PairOk {α : Type} : Nat → Int → (Int × Int × Unit) → (Bool → Option α) → Option α := Classical.choose spec_PairOk.ex α
theorem spec_PairOk.eq : @spec_PairOk = @spec_PairOk.b := funext fun α => congrFun (Classical.choose_spec spec_PairOk.ex) α

/-- loop.example/pinfold/spec.SpanOk -/
noncomputable def spec_SpanOk.b {α : Type} (N : Nat) (a22 : Int) (a23 : Bool × Int × Int × Unit) (k0 : Bool → Option α) : Option α :=
  let x24 := !a23.1
  bif x24 then
    spec_l1Width N a22
      (fun x28 =>
        bif x28 then
          let x29 := (decide (a23.2.1 = (0 : Int)))
          bif x29 then
            let x30 := (decide (a23.2.2.1 = (0 : Int)))
            k0 x30
          else
            k0 false
        else
          k0 false)
  else
    spec_l9Pair N a23
      (fun x32 =>
        spec_PairOk N a22 x32
          (fun x50 =>
            k0 x50))
theorem spec_SpanOk.ex : ∃ f : ((α : Type) → Nat → Int → (Bool × Int × Int × Unit) → (Bool → Option α) → Option α), f = fun α => @spec_SpanOk.b α := ⟨_, rfl⟩
noncomputable def spec_SpanOk {α : Type} : Nat → Int → (Bool × Int × Int × Unit) → (Bool → Option α) → Option α := Classical.choose spec_SpanOk.ex α
theorem spec_SpanOk.eq : @spec_SpanOk = @spec_SpanOk.b := funext fun α => congrFun (Classical.choose_spec spec_SpanOk.ex) α

/-- loop.example/pinfold/spec.l9Both -/
noncomputable def spec_l9Both.b {α : Type} (N : Nat) (a19 : Int) (a20 : Bool × Int × Int × Unit) (a21 : Bool × Int × Int × Unit) (k0 : Bool → Option α) : Option α :=
  spec_SpanOk N a19 a20
    (fun x51 =>
      bif x51 then
        spec_SpanOk N a19 a21
          (fun x52 =>
            bif x52 then
              bif a20.1 then
                k0 a21.1
              else
                k0 false
            else
              k0 false)
      else
        k0 false)
theorem spec_l9Both.ex : ∃ f : ((α : Type) → Nat → Int → (Bool × Int × Int × Unit) → (Bool × Int × Int × Unit) → (Bool → Option α) → Option α), f = fun α => @spec_l9Both.b α := ⟨_, rfl⟩
noncomputable def spec_l9Both {α : Type} : Nat → Int → (Bool × Int × Int × Unit) → (Bool × Int × Int × Unit) → (Bool → Option α) → Option α := Classical.choose spec_l9Both.ex α
theorem spec_l9Both.eq : @spec_l9Both = @spec_l9Both.b := funext fun α => congrFun (Classical.choose_spec spec_l9Both.ex) α

/-- loop.example/pinfold/spec.l3Max -/
noncomputable def spec_l3Max.b {α : Type} (N : Nat) (a60 : Int) (a61 : Int) (k0 : Int → Option α) : Option α :=
  let x62 := decide (a61 < a60)
  bif x62 then
    k0 a60
  else
    k0 a61
theorem spec_l3Max.ex : ∃ f : ((α : Type) → Nat → Int → Int → (Int → Option α) → Option α), f = fun α => @spec_l3Max.b α := ⟨_, rfl⟩
noncomputable def spec_l3Max {α : Type} : Nat → Int → Int → (Int → Option α) → Option α := Classical.choose spec_l3Max.ex α
theorem spec_l3Max.eq : @spec_l3Max = @spec_l3Max.b := funext fun α => congrFun (Classical.choose_spec spec_l3Max.ex) α

/-- loop.example/pinfold/spec.l3Min -/
noncomputable def spec_l3Min.b {α : Type} (N : Nat) (a64 : Int) (a65 : Int) (k0 : Int → Option α) : Option α :=
  let x66 := decide (a64 < a65)
  bif x66 then
    k0 a64
  else
    k0 a65
theorem spec_l3Min.ex : ∃ f : ((α : Type) → Nat → Int → Int → (Int → Option α) → Option α), f = fun α => @spec_l3Min.b α := ⟨_, rfl⟩
noncomputable def spec_l3Min {α : Type} : Nat → Int → Int → (Int → Option α) → Option α := Classical.choose spec_l3Min.ex α
theorem spec_l3Min.eq : @spec_l3Min = @spec_l3Min.b := funext fun α => congrFun (Classical.choose_spec spec_l3Min.ex) α

/-- loop.example/pinfold/spec.PairMeet -/
noncomputable def spec_PairMeet.b {α : Type} (N : Nat) (a57 : Int) (a58 : Int × Int × Unit) (a59 : Int × Int × Unit) (k0 : (Int × Int × Unit) → Bool → Option α) : Option α :=
  spec_l3Max N a58.1 a59.1
    (fun x63 =>
      spec_l3Min N a58.2.1 a59.2.1
        (fun x67 =>
          spec_PairOk N a57 a58
            (fun x68 =>
              let x69 := !x68
              bif x69 then
                k0 ((0 : Int), ((0 : Int), ())) false
              else
                spec_PairOk N a57 a59
                  (fun x70 =>
                    let x71 := !x70
                    bif x71 then
                      k0 ((0 : Int), ((0 : Int), ())) false
                    else
                      let x72 := decide (x67 < x63)
                      bif x72 then
                        k0 ((0 : Int), ((0 : Int), ())) false
                      else
                        k0 (x63, (x67, ())) true))))
theorem spec_PairMeet.ex : ∃ f : ((α : Type) → Nat → Int → (Int × Int × Unit) → (Int × Int × Unit) → ((Int × Int × Unit) → Bool → Option α) → Option α), f = fun α => @spec_PairMeet.b α := ⟨_, rfl⟩
noncomputable def spec_PairMeet {α : Type} : Nat → Int → (Int × Int × Unit) → (Int × Int × Unit) → ((Int × Int × Unit) → Bool → Option α) → Option α := Classical.choose spec_PairMeet.ex α
theorem spec_PairMeet.eq : @spec_PairMeet = @spec_PairMeet.b := funext fun α => congrFun (Classical.choose_spec spec_PairMeet.ex) α

/-- loop.example/pinfold/spec.SpanMeet -/
noncomputable def spec_SpanMeet.b {α : Type} (N : Nat) (a16 : Int) (a17 : Bool × Int × Int × Unit) (a18 : Bool × Int × Int × Unit) (k0 : (Bool × Int × Int × Unit) → Option α) : Option α :=
  spec_l9Both N a16 a17 a18
    (fun x53 =>
      let x54 := !x53
      bif x54 then
        k0 (false, ((0 : Int), ((0 : Int), ())))
      else
        spec_l9Pair N a17
          (fun x55 =>
            spec_l9Pair N a18
              (fun x56 =>
                spec_PairMeet N a16 x55 x56
                  (fun x73 x74 =>
                    let x75 := !x74
                    bif x75 then
                      k0 (false, ((0 : Int), ((0 : Int), ())))
                    else
                      spec_l9Of N x73.1 x73.2.1
                        (fun x76 =>
                          k0 x76)))))
theorem spec_SpanMeet.ex : ∃ f : ((α : Type) → Nat → Int → (Bool × Int × Int × Unit) → (Bool × Int × Int × Unit) → ((Bool × Int × Int × Unit) → Option α) → Option α), f = fun α => @spec_SpanMeet.b α := ⟨_, rfl⟩
noncomputable def spec_SpanMeet {α : Type} : Nat → Int → (Bool × Int × Int × Unit) → (Bool × Int × Int × Unit) → ((Bool × Int × Int × Unit) → Option α) → Option α := Classical.choose spec_SpanMeet.ex α
theorem spec_SpanMeet.eq : @spec_SpanMeet = @spec_SpanMeet.b := funext fun α => congrFun (Classical.choose_spec spec_SpanMeet.ex) α

/-- loop.example/pinfold/spec.l9From -/
noncomputable def spec_l9From.b {α : Type} (N : Nat) (a7 : Int) (a8 : Bool × Int × Int × Unit) (k0 : (Bool × Int × Int × Unit) → Option α) : Option α :=
  spec_BitTop N a7
    (fun x12 =>
      spec_l9Of N (0 : Int) x12
        (fun x15 =>
          spec_SpanMeet N a7 a8 x15
            (fun x77 =>
              k0 x77)))
theorem spec_l9From.ex : ∃ f : ((α : Type) → Nat → Int → (Bool × Int × Int × Unit) → ((Bool × Int × Int × Unit) → Option α) → Option α), f = fun α => @spec_l9From.b α := ⟨_, rfl⟩
noncomputable def spec_l9From {α : Type} : Nat → Int → (Bool × Int × Int × Unit) → ((Bool × Int × Int × Unit) → Option α) → Option α := Classical.choose spec_l9From.ex α
theorem spec_l9From.eq : @spec_l9From = @spec_l9From.b := funext fun α => congrFun (Classical.choose_spec spec_l9From.ex) α

/-- loop.example/pinfold/spec.l9RootDown: called within itself once more: not followed. -/
noncomputable def spec_l9RootDown_b {α : Type} (N : Nat) (a90 : Int) (a91 : Int) (a92 : Int) : Option α := none

/-- loop.example/pinfold/spec.l9Infinite -/
noncomputable def spec_l9Infinite.b {α : Type} (N : Nat) (a96 : Int) (a97 : Int) (k0 : Bool → Option α) : Option α :=
  spec_BitTop N a96
    (fun x98 =>
      let x99 := decide (a97 = x98)
      bif x99 then
        k0 true
      else
        spec_BitTop N a96
          (fun x100 =>
            let x101 := IntKind.i64.wrap (0 - x100)
            let x102 := decide (a97 = x101)
            k0 x102))
theorem spec_l9Infinite.ex : ∃ f : ((α : Type) → Nat → Int → Int → (Bool → Option α) → Option α), f = fun α => @spec_l9Infinite.b α := ⟨_, rfl⟩
noncomputable def spec_l9Infinite {α : Type} : Nat → Int → Int → (Bool → Option α) → Option α := Classical.choose spec_l9Infinite.ex α
theorem spec_l9Infinite.eq : @spec_l9Infinite = @spec_l9Infinite.b := funext fun α => congrFun (Classical.choose_spec spec_l9Infinite.ex) α

/-- loop.example/pinfold/spec.l1Least -/
noncomputable def spec_l1Least.b {α : Type} (N : Nat) (a116 : Int) (k0 : Int → Option α) : Option α :=
  let x117 := (decide (a116 = (32 : Int)))
  bif x117 then
    k0 (-149 : Int)
  else
    k0 (-1074 : Int)
theorem spec_l1Least.ex : ∃ f : ((α : Type) → Nat → Int → (Int → Option α) → Option α), f = fun α => @spec_l1Least.b α := ⟨_, rfl⟩
noncomputable def spec_l1Least {α : Type} : Nat → Int → (Int → Option α) → Option α := Classical.choose spec_l1Least.ex α
theorem spec_l1Least.eq : @spec_l1Least = @spec_l1Least.b := funext fun α => congrFun (Classical.choose_spec spec_l1Least.ex) α

/-- loop.example/pinfold/spec.l1Frac -/
noncomputable def spec_l1Frac.b {α : Type} (N : Nat) (a129 : Int) (k0 : Int → Option α) : Option α :=
  let x130 := (decide (a129 = (32 : Int)))
  bif x130 then
    k0 (23 : Int)
  else
    k0 (52 : Int)
theorem spec_l1Frac.ex : ∃ f : ((α : Type) → Nat → Int → (Int → Option α) → Option α), f = fun α => @spec_l1Frac.b α := ⟨_, rfl⟩
noncomputable def spec_l1Frac {α : Type} : Nat → Int → (Int → Option α) → Option α := Classical.choose spec_l1Frac.ex α
theorem spec_l1Frac.eq : @spec_l1Frac = @spec_l1Frac.b := funext fun α => congrFun (Classical.choose_spec spec_l1Frac.ex) α

noncomputable def spec_BitPartOf_J5.b {α : Type} (N : Nat) (v119 : Int) (v120 : Int) (v121 : Bool × Int × Int × Unit) (v122 : Bool × Int × Int × Unit) (k0 : Int → Int → (Bool × Int × Int × Unit) → (Bool × Int × Int × Unit) → Option α) : Option α :=
  let x123 := (decide (v120 < (0 : Int)))
  bif x123 then
    let x124 := IntKind.i64.wrap (0 - v120)
    k0 v119 x124 v121 v122
  else
    k0 v119 v120 v121 v122
theorem spec_BitPartOf_J5.ex : ∃ f : ((α : Type) → Nat → Int → Int → (Bool × Int × Int × Unit) → (Bool × Int × Int × Unit) → (Int → Int → (Bool × Int × Int × Unit) → (Bool × Int × Int × Unit) → Option α) → Option α), f = fun α => @spec_BitPartOf_J5.b α := ⟨_, rfl⟩
noncomputable def spec_BitPartOf_J5 {α : Type} : Nat → Int → Int → (Bool × Int × Int × Unit) → (Bool × Int × Int × Unit) → (Int → Int → (Bool × Int × Int × Unit) → (Bool × Int × Int × Unit) → Option α) → Option α := Classical.choose spec_BitPartOf_J5.ex α
theorem spec_BitPartOf_J5.eq : @spec_BitPartOf_J5 = @spec_BitPartOf_J5.b := funext fun α => congrFun (Classical.choose_spec spec_BitPartOf_J5.ex) α
noncomputable def spec_BitPartOf_J10.b {α : Type} (N : Nat) (v137 : Int) (v138 : Int) (v139 : Bool × Int × Int × Unit) (v140 : Bool × Int × Int × Unit) (k0 : (Bool × Int × Int × Unit) → (Bool × Int × Int × Unit) → Option α) : Option α :=
  let x141 := (decide ((0 : Int) < v138))
  bif x141 then
    let x142 := IntKind.u64.wrap v137
    let x143 := IntKind.u64.wrap (v140.2.1 + x142)
    let x144 := IntKind.i64.wrap (v140.2.2.1 + v138)
    let x145 := (IntKind.i64.wrap (x144 - (1 : Int)))
    k0 v139 (v140.1, (x143, (x145, ())))
  else
    k0 v139 v140
theorem spec_BitPartOf_J10.ex : ∃ f : ((α : Type) → Nat → Int → Int → (Bool × Int × Int × Unit) → (Bool × Int × Int × Unit) → ((Bool × Int × Int × Unit) → (Bool × Int × Int × Unit) → Option α) → Option α), f = fun α => @spec_BitPartOf_J10.b α := ⟨_, rfl⟩
noncomputable def spec_BitPartOf_J10 {α : Type} : Nat → Int → Int → (Bool × Int × Int × Unit) → (Bool × Int × Int × Unit) → ((Bool × Int × Int × Unit) → (Bool × Int × Int × Unit) → Option α) → Option α := Classical.choose spec_BitPartOf_J10.ex α
theorem spec_BitPartOf_J10.eq : @spec_BitPartOf_J10 = @spec_BitPartOf_J10.b := funext fun α => congrFun (Classical.choose_spec spec_BitPartOf_J10.ex) α
/-- loop.example/pinfold/spec.BitPartOf -/
noncomputable def spec_BitPartOf.b {α : Type} (N : Nat) (a106 : Int) (a107 : Int) (k0 : (Bool × Int × Int × Unit) → Bool → Option α) : Option α :=
  spec_BitOk N a106 a107
    (fun x108 =>
      let x109 := !x108
      bif x109 then
        k0 (false, ((0 : Int), ((0 : Int), ()))) false
      else
        spec_BitTop N a106
          (fun x110 =>
            let x111 := decide (a107 = x110)
            bif x111 then
              k0 (false, ((0 : Int), ((0 : Int), ()))) false
            else
              spec_BitTop N a106
                (fun x112 =>
                  let x113 := IntKind.i64.wrap (0 - x112)
                  let x114 := decide (a107 = x113)
                  bif x114 then
                    k0 (false, ((0 : Int), ((0 : Int), ()))) false
                  else
                    let x115 := (decide (a107 < (0 : Int)))
                    spec_l1Least N a106
                      (fun x118 =>
                        spec_BitPartOf_J5 N a106 a107 (false, ((0 : Int), ((0 : Int), ()))) (x115, ((0 : Int), (x118, ())))
                          (fun x125 x126 x127 x128 =>
                            spec_l1Frac N x125
                              (fun x131 =>
                                let x132 := IntKind.u64.wrap x131
                                bif (decide (x132 < (0 : Int))) then
                                  none
                                else
                                  let x133 := (shlI .i64 (1 : Int) x132)
                                  bif (decide (x133 = (0 : Int))) then
                                    none
                                  else
                                    let x134 := IntKind.i64.wrap (Int.tdiv x126 x133)
                                    bif (decide (x133 = (0 : Int))) then
                                      none
                                    else
                                      let x135 := Int.tmod x126 x133
                                      let x136 := IntKind.u64.wrap x135
                                      spec_BitPartOf_J10 N x133 x134 x127 (x128.1, (x136, (x128.2.2.1, ())))
                                        (fun _ x147 =>
                                          k0 x147 true)))))))
theorem spec_BitPartOf.ex : ∃ f : ((α : Type) → Nat → Int → Int → ((Bool × Int × Int × Unit) → Bool → Option α) → Option α), f = fun α => @spec_BitPartOf.b α := ⟨_, rfl⟩
noncomputable def spec_BitPartOf {α : Type} : Nat → Int → Int → ((Bool × Int × Int × Unit) → Bool → Option α) → Option α := Classical.choose spec_BitPartOf.ex α
theorem spec_BitPartOf.eq : @spec_BitPartOf = @spec_BitPartOf.b := funext fun α => congrFun (Classical.choose_spec spec_BitPartOf.ex) α

noncomputable def spec_NatOf_L0r {α : Type} (N : Nat) (next : Int → List Int → Option α) (k0 : List Int → Option α) (v151 : Int) (v152 : List Int) : Option α :=
  let x153 := (decide ((0 : Int) < v151))
  bif x153 then
    let x154 := (Int.tmod v151 (65536 : Int))
    let x155 := IntKind.i64.wrap x154
    let x156 := [x155]
    bif decide (v152.length + x156.length ≤ 8796093022208) then
      let x157 := v152 ++ x156
      let x158 := (IntKind.u64.wrap (Int.tdiv v151 (65536 : Int)))
      next x158 x157
    else
      none
  else
    k0 v152
noncomputable def spec_NatOf_L0.b {α : Type} (N n : Nat) (v151 : Int) (v152 : List Int) (k0 : List Int → Option α) : Option α :=
  Nat.rec (motive := fun _ => Int → List Int → Option α) (fun _ _ => none) (fun _ next => spec_NatOf_L0r N next k0) n v151 v152
theorem spec_NatOf_L0.ex : ∃ f : ((α : Type) → Nat → Nat → Int → List Int → (List Int → Option α) → Option α), f = fun α => @spec_NatOf_L0.b α := ⟨_, rfl⟩
noncomputable def spec_NatOf_L0 {α : Type} : Nat → Nat → Int → List Int → (List Int → Option α) → Option α := Classical.choose spec_NatOf_L0.ex α
theorem spec_NatOf_L0.eq : @spec_NatOf_L0 = @spec_NatOf_L0.b := funext fun α => congrFun (Classical.choose_spec spec_NatOf_L0.ex) α
theorem spec_NatOf_L0.zero {α : Type} (N : Nat) (v151 : Int) (v152 : List Int) (k0 : List Int → Option α) : spec_NatOf_L0 N 0 v151 v152 k0 = none := by rw [spec_NatOf_L0.eq]; rfl
theorem spec_NatOf_L0.succ {α : Type} (N n : Nat) (v151 : Int) (v152 : List Int) (k0 : List Int → Option α) : spec_NatOf_L0 N (n + 1) v151 v152 k0 = spec_NatOf_L0r N (fun y0 y1 => spec_NatOf_L0 N n y0 y1 k0) k0 v151 v152 := by rw [spec_NatOf_L0.eq]; rfl
/-- loop.example/pinfold/spec.NatOf -/
noncomputable def spec_NatOf.b {α : Type} (N : Nat) (a150 : Int) (k0 : List Int → Option α) : Option α :=
  spec_NatOf_L0 N N a150 []
    (fun x159 =>
      k0 x159)
theorem spec_NatOf.ex : ∃ f : ((α : Type) → Nat → Int → (List Int → Option α) → Option α), f = fun α => @spec_NatOf.b α := ⟨_, rfl⟩
noncomputable def spec_NatOf {α : Type} : Nat → Int → (List Int → Option α) → Option α := Classical.choose spec_NatOf.ex α
theorem spec_NatOf.eq : @spec_NatOf = @spec_NatOf.b := funext fun α => congrFun (Classical.choose_spec spec_NatOf.ex) α

noncomputable def spec_l5Shl_L0r {α : Type} (N : Nat) (next : List Int → Int → List Int → Option α) (k0 : List Int → Option α) (v181 : List Int) (v182 : Int) (v183 : List Int) : Option α :=
  let x184 := ((v181.length : Nat) : Int)
  let x185 := decide (v182 < x184)
  bif x185 then
    bif (decide (v182 < (0 : Int))) then
      none
    else
      match v181[v182.toNat]? with
      | some x186 =>
        let x187 := [x186]
        bif decide (v183.length + x187.length ≤ 8796093022208) then
          let x188 := v183 ++ x187
          let x189 := (IntKind.i64.wrap (v182 + (1 : Int)))
          next v181 x189 x188
        else
          none
      | none => none
  else
    k0 v183
noncomputable def spec_l5Shl_L0.b {α : Type} (N n : Nat) (v181 : List Int) (v182 : Int) (v183 : List Int) (k0 : List Int → Option α) : Option α :=
  Nat.rec (motive := fun _ => List Int → Int → List Int → Option α) (fun _ _ _ => none) (fun _ next => spec_l5Shl_L0r N next k0) n v181 v182 v183
theorem spec_l5Shl_L0.ex : ∃ f : ((α : Type) → Nat → Nat → List Int → Int → List Int → (List Int → Option α) → Option α), f = fun α => @spec_l5Shl_L0.b α := ⟨_, rfl⟩
noncomputable def spec_l5Shl_L0 {α : Type} : Nat → Nat → List Int → Int → List Int → (List Int → Option α) → Option α := Classical.choose spec_l5Shl_L0.ex α
theorem spec_l5Shl_L0.eq : @spec_l5Shl_L0 = @spec_l5Shl_L0.b := funext fun α => congrFun (Classical.choose_spec spec_l5Shl_L0.ex) α
theorem spec_l5Shl_L0.zero {α : Type} (N : Nat) (v181 : List Int) (v182 : Int) (v183 : List Int) (k0 : List Int → Option α) : spec_l5Shl_L0 N 0 v181 v182 v183 k0 = none := by rw [spec_l5Shl_L0.eq]; rfl
theorem spec_l5Shl_L0.succ {α : Type} (N n : Nat) (v181 : List Int) (v182 : Int) (v183 : List Int) (k0 : List Int → Option α) : spec_l5Shl_L0 N (n + 1) v181 v182 v183 k0 = spec_l5Shl_L0r N (fun y0 y1 y2 => spec_l5Shl_L0 N n y0 y1 y2 k0) k0 v181 v182 v183 := by rw [spec_l5Shl_L0.eq]; rfl
/-- loop.example/pinfold/spec.l5Shl -/
noncomputable def spec_l5Shl.b {α : Type} (N : Nat) (a176 : List Int) (a177 : Int) (k0 : List Int → Option α) : Option α :=
  let x178 := ((a176.length : Nat) : Int)
  let x179 := (decide (x178 = (0 : Int)))
  bif x179 then
    k0 []
  else
    bif (decide ((0 : Int) ≤ a177)) then
      bif decide (a177 ≤ a177) then
        bif (decide (a177 ≤ ((8796093022208 : Nat) : Int))) then
          let x180 := (List.replicate a177.toNat (0 : Int))
          spec_l5Shl_L0 N N a176 (0 : Int) x180
            (fun x190 =>
              k0 x190)
        else
          none
      else
        none
    else
      none
theorem spec_l5Shl.ex : ∃ f : ((α : Type) → Nat → List Int → Int → (List Int → Option α) → Option α), f = fun α => @spec_l5Shl.b α := ⟨_, rfl⟩
noncomputable def spec_l5Shl {α : Type} : Nat → List Int → Int → (List Int → Option α) → Option α := Classical.choose spec_l5Shl.ex α
theorem spec_l5Shl.eq : @spec_l5Shl = @spec_l5Shl.b := funext fun α => congrFun (Classical.choose_spec spec_l5Shl.ex) α

/-- loop.example/pinfold/spec.l5Pow2 -/
noncomputable def spec_l5Pow2.b {α : Type} (N : Nat) (a170 : Int) (k0 : List Int → Option α) : Option α :=
  let x171 := (Int.tmod a170 (16 : Int))
  let x172 := IntKind.u64.wrap x171
  bif (decide (x172 < (0 : Int))) then
    none
  else
    let x173 := (shlI .i64 (1 : Int) x172)
    let x174 := [x173]
    let x175 := (IntKind.i64.wrap (Int.tdiv a170 (16 : Int)))
    spec_l5Shl N x174 x175
      (fun x191 =>
        k0 x191)
theorem spec_l5Pow2.ex : ∃ f : ((α : Type) → Nat → Int → (List Int → Option α) → Option α), f = fun α => @spec_l5Pow2.b α := ⟨_, rfl⟩
noncomputable def spec_l5Pow2 {α : Type} : Nat → Int → (List Int → Option α) → Option α := Classical.choose spec_l5Pow2.ex α
theorem spec_l5Pow2.eq : @spec_l5Pow2 = @spec_l5Pow2.b := funext fun α => congrFun (Classical.choose_spec spec_l5Pow2.ex) α

noncomputable def spec_l5Trim_L0r {α : Type} (N : Nat) (next : List Int → Int → Option α) (k0 : List Int → Int → Option α) (v239 : List Int) (v240 : Int) : Option α :=
  let x241 := (decide ((0 : Int) < v240))
  bif x241 then
    let x242 := (IntKind.i64.wrap (v240 - (1 : Int)))
    bif (decide (x242 < (0 : Int))) then
      none
    else
      match v239[x242.toNat]? with
      | some x243 =>
        let x244 := (decide (x243 = (0 : Int)))
        bif x244 then
          let x245 := (IntKind.i64.wrap (v240 - (1 : Int)))
          next v239 x245
        else
          k0 v239 v240
      | none => none
  else
    k0 v239 v240
noncomputable def spec_l5Trim_L0.b {α : Type} (N n : Nat) (v239 : List Int) (v240 : Int) (k0 : List Int → Int → Option α) : Option α :=
  Nat.rec (motive := fun _ => List Int → Int → Option α) (fun _ _ => none) (fun _ next => spec_l5Trim_L0r N next k0) n v239 v240
theorem spec_l5Trim_L0.ex : ∃ f : ((α : Type) → Nat → Nat → List Int → Int → (List Int → Int → Option α) → Option α), f = fun α => @spec_l5Trim_L0.b α := ⟨_, rfl⟩
noncomputable def spec_l5Trim_L0 {α : Type} : Nat → Nat → List Int → Int → (List Int → Int → Option α) → Option α := Classical.choose spec_l5Trim_L0.ex α
theorem spec_l5Trim_L0.eq : @spec_l5Trim_L0 = @spec_l5Trim_L0.b := funext fun α => congrFun (Classical.choose_spec spec_l5Trim_L0.ex) α
theorem spec_l5Trim_L0.zero {α : Type} (N : Nat) (v239 : List Int) (v240 : Int) (k0 : List Int → Int → Option α) : spec_l5Trim_L0 N 0 v239 v240 k0 = none := by rw [spec_l5Trim_L0.eq]; rfl
theorem spec_l5Trim_L0.succ {α : Type} (N n : Nat) (v239 : List Int) (v240 : Int) (k0 : List Int → Int → Option α) : spec_l5Trim_L0 N (n + 1) v239 v240 k0 = spec_l5Trim_L0r N (fun y0 y1 => spec_l5Trim_L0 N n y0 y1 k0) k0 v239 v240 := by rw [spec_l5Trim_L0.eq]; rfl
noncomputable def spec_l5Trim_L2r {α : Type} (N : Nat) (next : List Int → Int → Int → List Int → Option α) (k0 : List Int → Option α) (v248 : List Int) (v249 : Int) (v250 : Int) (v251 : List Int) : Option α :=
  let x252 := decide (v250 < v249)
  bif x252 then
    bif (decide (v250 < (0 : Int))) then
      none
    else
      match v248[v250.toNat]? with
      | some x253 =>
        let x254 := [x253]
        bif decide (v251.length + x254.length ≤ 8796093022208) then
          let x255 := v251 ++ x254
          let x256 := (IntKind.i64.wrap (v250 + (1 : Int)))
          next v248 v249 x256 x255
        else
          none
      | none => none
  else
    k0 v251
noncomputable def spec_l5Trim_L2.b {α : Type} (N n : Nat) (v248 : List Int) (v249 : Int) (v250 : Int) (v251 : List Int) (k0 : List Int → Option α) : Option α :=
  Nat.rec (motive := fun _ => List Int → Int → Int → List Int → Option α) (fun _ _ _ _ => none) (fun _ next => spec_l5Trim_L2r N next k0) n v248 v249 v250 v251
theorem spec_l5Trim_L2.ex : ∃ f : ((α : Type) → Nat → Nat → List Int → Int → Int → List Int → (List Int → Option α) → Option α), f = fun α => @spec_l5Trim_L2.b α := ⟨_, rfl⟩
noncomputable def spec_l5Trim_L2 {α : Type} : Nat → Nat → List Int → Int → Int → List Int → (List Int → Option α) → Option α := Classical.choose spec_l5Trim_L2.ex α
theorem spec_l5Trim_L2.eq : @spec_l5Trim_L2 = @spec_l5Trim_L2.b := funext fun α => congrFun (Classical.choose_spec spec_l5Trim_L2.ex) α
theorem spec_l5Trim_L2.zero {α : Type} (N : Nat) (v248 : List Int) (v249 : Int) (v250 : Int) (v251 : List Int) (k0 : List Int → Option α) : spec_l5Trim_L2 N 0 v248 v249 v250 v251 k0 = none := by rw [spec_l5Trim_L2.eq]; rfl
theorem spec_l5Trim_L2.succ {α : Type} (N n : Nat) (v248 : List Int) (v249 : Int) (v250 : Int) (v251 : List Int) (k0 : List Int → Option α) : spec_l5Trim_L2 N (n + 1) v248 v249 v250 v251 k0 = spec_l5Trim_L2r N (fun y0 y1 y2 y3 => spec_l5Trim_L2 N n y0 y1 y2 y3 k0) k0 v248 v249 v250 v251 := by rw [spec_l5Trim_L2.eq]; rfl
/-- loop.example/pinfold/spec.l5Trim -/
noncomputable def spec_l5Trim.b {α : Type} (N : Nat) (a237 : List Int) (k0 : List Int → Option α) : Option α :=
  let x238 := ((a237.length : Nat) : Int)
  spec_l5Trim_L0 N N a237 x238
    (fun x246 x247 =>
      spec_l5Trim_L2 N N x246 x247 (0 : Int) []
        (fun x257 =>
          k0 x257))
theorem spec_l5Trim.ex : ∃ f : ((α : Type) → Nat → List Int → (List Int → Option α) → Option α), f = fun α => @spec_l5Trim.b α := ⟨_, rfl⟩
noncomputable def spec_l5Trim {α : Type} : Nat → List Int → (List Int → Option α) → Option α := Classical.choose spec_l5Trim.ex α
theorem spec_l5Trim.eq : @spec_l5Trim = @spec_l5Trim.b := funext fun α => congrFun (Classical.choose_spec spec_l5Trim.ex) α

noncomputable def spec_l5Mul_L2r {α : Type} (N : Nat) (next : List Int → List Int → Int → Int → Int → List Int → Option α) (k0 : List Int → List Int → Int → Int → List Int → Option α) (v205 : List Int) (v206 : List Int) (v207 : Int) (v208 : Int) (v209 : Int) (v210 : List Int) : Option α :=
  let x211 := ((v206.length : Nat) : Int)
  let x212 := decide (v209 < x211)
  bif x212 then
    let x213 := IntKind.i64.wrap (v207 + v209)
    bif (decide (x213 < (0 : Int))) then
      none
    else
      bif decide (x213.toNat < v210.length) then
        match v210[x213.toNat]? with
        | some x214 =>
          bif (decide (v207 < (0 : Int))) then
            none
          else
            match v205[v207.toNat]? with
            | some x215 =>
              bif (decide (v209 < (0 : Int))) then
                none
              else
                match v206[v209.toNat]? with
                | some x216 =>
                  let x217 := IntKind.i64.wrap (x215 * x216)
                  let x218 := IntKind.i64.wrap (x214 + x217)
                  let x219 := IntKind.i64.wrap (x218 + v208)
                  let x220 := IntKind.i64.wrap (v207 + v209)
                  let x221 := (Int.tmod x219 (65536 : Int))
                  bif (decide (x220 < (0 : Int))) then
                    none
                  else
                    bif decide (x220.toNat < v210.length) then
                      match v210[x220.toNat]? with
                      | some x222 =>
                        let x223 := v210.set x220.toNat x221
                        let x224 := (IntKind.i64.wrap (Int.tdiv x219 (65536 : Int)))
                        let x225 := (IntKind.i64.wrap (v209 + (1 : Int)))
                        next v205 v206 v207 x224 x225 x223
                      | none => none
                    else
                      none
                | none => none
            | none => none
        | none => none
      else
        none
  else
    k0 v205 v206 v207 v208 v210
noncomputable def spec_l5Mul_L2.b {α : Type} (N n : Nat) (v205 : List Int) (v206 : List Int) (v207 : Int) (v208 : Int) (v209 : Int) (v210 : List Int) (k0 : List Int → List Int → Int → Int → List Int → Option α) : Option α :=
  Nat.rec (motive := fun _ => List Int → List Int → Int → Int → Int → List Int → Option α) (fun _ _ _ _ _ _ => none) (fun _ next => spec_l5Mul_L2r N next k0) n v205 v206 v207 v208 v209 v210
theorem spec_l5Mul_L2.ex : ∃ f : ((α : Type) → Nat → Nat → List Int → List Int → Int → Int → Int → List Int → (List Int → List Int → Int → Int → List Int → Option α) → Option α), f = fun α => @spec_l5Mul_L2.b α := ⟨_, rfl⟩
noncomputable def spec_l5Mul_L2 {α : Type} : Nat → Nat → List Int → List Int → Int → Int → Int → List Int → (List Int → List Int → Int → Int → List Int → Option α) → Option α := Classical.choose spec_l5Mul_L2.ex α
theorem spec_l5Mul_L2.eq : @spec_l5Mul_L2 = @spec_l5Mul_L2.b := funext fun α => congrFun (Classical.choose_spec spec_l5Mul_L2.ex) α
theorem spec_l5Mul_L2.zero {α : Type} (N : Nat) (v205 : List Int) (v206 : List Int) (v207 : Int) (v208 : Int) (v209 : Int) (v210 : List Int) (k0 : List Int → List Int → Int → Int → List Int → Option α) : spec_l5Mul_L2 N 0 v205 v206 v207 v208 v209 v210 k0 = none := by rw [spec_l5Mul_L2.eq]; rfl
theorem spec_l5Mul_L2.succ {α : Type} (N n : Nat) (v205 : List Int) (v206 : List Int) (v207 : Int) (v208 : Int) (v209 : Int) (v210 : List Int) (k0 : List Int → List Int → Int → Int → List Int → Option α) : spec_l5Mul_L2 N (n + 1) v205 v206 v207 v208 v209 v210 k0 = spec_l5Mul_L2r N (fun y0 y1 y2 y3 y4 y5 => spec_l5Mul_L2 N n y0 y1 y2 y3 y4 y5 k0) k0 v205 v206 v207 v208 v209 v210 := by rw [spec_l5Mul_L2.eq]; rfl
noncomputable def spec_l5Mul_L0r {α : Type} (N : Nat) (next : List Int → List Int → Int → List Int → Option α) (k0 : List Int → Option α) (v199 : List Int) (v200 : List Int) (v201 : Int) (v202 : List Int) : Option α :=
  let x203 := ((v199.length : Nat) : Int)
  let x204 := decide (v201 < x203)
  bif x204 then
    spec_l5Mul_L2 N N v199 v200 v201 (0 : Int) (0 : Int) v202
      (fun x226 x227 x228 x229 x230 =>
        let x231 := ((x227.length : Nat) : Int)
        let x232 := IntKind.i64.wrap (x228 + x231)
        bif (decide (x232 < (0 : Int))) then
          none
        else
          bif decide (x232.toNat < x230.length) then
            match x230[x232.toNat]? with
            | some x233 =>
              let x234 := x230.set x232.toNat x229
              let x235 := (IntKind.i64.wrap (x228 + (1 : Int)))
              next x226 x227 x235 x234
            | none => none
          else
            none)
  else
    k0 v202
noncomputable def spec_l5Mul_L0.b {α : Type} (N n : Nat) (v199 : List Int) (v200 : List Int) (v201 : Int) (v202 : List Int) (k0 : List Int → Option α) : Option α :=
  Nat.rec (motive := fun _ => List Int → List Int → Int → List Int → Option α) (fun _ _ _ _ => none) (fun _ next => spec_l5Mul_L0r N next k0) n v199 v200 v201 v202
theorem spec_l5Mul_L0.ex : ∃ f : ((α : Type) → Nat → Nat → List Int → List Int → Int → List Int → (List Int → Option α) → Option α), f = fun α => @spec_l5Mul_L0.b α := ⟨_, rfl⟩
noncomputable def spec_l5Mul_L0 {α : Type} : Nat → Nat → List Int → List Int → Int → List Int → (List Int → Option α) → Option α := Classical.choose spec_l5Mul_L0.ex α
theorem spec_l5Mul_L0.eq : @spec_l5Mul_L0 = @spec_l5Mul_L0.b := funext fun α => congrFun (Classical.choose_spec spec_l5Mul_L0.ex) α
theorem spec_l5Mul_L0.zero {α : Type} (N : Nat) (v199 : List Int) (v200 : List Int) (v201 : Int) (v202 : List Int) (k0 : List Int → Option α) : spec_l5Mul_L0 N 0 v199 v200 v201 v202 k0 = none := by rw [spec_l5Mul_L0.eq]; rfl
theorem spec_l5Mul_L0.succ {α : Type} (N n : Nat) (v199 : List Int) (v200 : List Int) (v201 : Int) (v202 : List Int) (k0 : List Int → Option α) : spec_l5Mul_L0 N (n + 1) v199 v200 v201 v202 k0 = spec_l5Mul_L0r N (fun y0 y1 y2 y3 => spec_l5Mul_L0 N n y0 y1 y2 y3 k0) k0 v199 v200 v201 v202 := by rw [spec_l5Mul_L0.eq]; rfl
/-- loop.example/pinfold/spec.l5Mul -/
noncomputable def spec_l5Mul.b {α : Type} (N : Nat) (a193 : List Int) (a194 : List Int) (k0 : List Int → Option α) : Option α :=
  let x195 := ((a193.length : Nat) : Int)
  let x196 := ((a194.length : Nat) : Int)
  let x197 := IntKind.i64.wrap (x195 + x196)
  bif (decide ((0 : Int) ≤ x197)) then
    bif decide (x197 ≤ x197) then
      bif (decide (x197 ≤ ((8796093022208 : Nat) : Int))) then
        let x198 := (List.replicate x197.toNat (0 : Int))
        spec_l5Mul_L0 N N a193 a194 (0 : Int) x198
          (fun x236 =>
            spec_l5Trim N x236
              (fun x258 =>
                k0 x258))
      else
        none
    else
      none
  else
    none
theorem spec_l5Mul.ex : ∃ f : ((α : Type) → Nat → List Int → List Int → (List Int → Option α) → Option α), f = fun α => @spec_l5Mul.b α := ⟨_, rfl⟩
noncomputable def spec_l5Mul {α : Type} : Nat → List Int → List Int → (List Int → Option α) → Option α := Classical.choose spec_l5Mul.ex α
theorem spec_l5Mul.eq : @spec_l5Mul = @spec_l5Mul.b := funext fun α => congrFun (Classical.choose_spec spec_l5Mul.ex) α

noncomputable def spec_l8Of_J3.b {α : Type} (N : Nat) (v162 : Bool) (v163 : Bool × Int × Int × Unit) (v164 : Bool) (v165 : List Int) (v166 : List Int) (v167 : List Int) (v168 : List Int) (k0 : Bool → Bool → List Int → List Int → List Int → List Int → Option α) : Option α :=
  let x169 := (decide ((0 : Int) ≤ v163.2.2.1))
  bif x169 then
    spec_l5Pow2 N v163.2.2.1
      (fun x192 =>
        spec_l5Mul N v167 x192
          (fun x259 =>
            k0 v162 v164 v165 v166 x259 v168))
  else
    let x260 := IntKind.i64.wrap (0 - v163.2.2.1)
    spec_l5Pow2 N x260
      (fun x261 =>
        k0 v162 v164 v165 v166 v167 x261)
theorem spec_l8Of_J3.ex : ∃ f : ((α : Type) → Nat → Bool → (Bool × Int × Int × Unit) → Bool → List Int → List Int → List Int → List Int → (Bool → Bool → List Int → List Int → List Int → List Int → Option α) → Option α), f = fun α => @spec_l8Of_J3.b α := ⟨_, rfl⟩
noncomputable def spec_l8Of_J3 {α : Type} : Nat → Bool → (Bool × Int × Int × Unit) → Bool → List Int → List Int → List Int → List Int → (Bool → Bool → List Int → List Int → List Int → List Int → Option α) → Option α := Classical.choose spec_l8Of_J3.ex α
theorem spec_l8Of_J3.eq : @spec_l8Of_J3 = @spec_l8Of_J3.b := funext fun α => congrFun (Classical.choose_spec spec_l8Of_J3.ex) α
/-- loop.example/pinfold/spec.l8Of -/
noncomputable def spec_l8Of.b {α : Type} (N : Nat) (a104 : Int) (a105 : Int) (k0 : Bool → List Int → List Int → Option α) : Option α :=
  spec_BitPartOf N a104 a105
    (fun x148 _ =>
      spec_NatOf N x148.2.1
        (fun x160 =>
          let x161 := [(1 : Int)]
          spec_l8Of_J3 N false x148 x148.1 [] [] x160 x161
            (fun _ x263 _ _ x266 x267 =>
              k0 x263 x266 x267)))
theorem spec_l8Of.ex : ∃ f : ((α : Type) → Nat → Int → Int → (Bool → List Int → List Int → Option α) → Option α), f = fun α => @spec_l8Of.b α := ⟨_, rfl⟩
noncomputable def spec_l8Of {α : Type} : Nat → Int → Int → (Bool → List Int → List Int → Option α) → Option α := Classical.choose spec_l8Of.ex α
theorem spec_l8Of.eq : @spec_l8Of = @spec_l8Of.b := funext fun α => congrFun (Classical.choose_spec spec_l8Of.ex) α

noncomputable def spec_l9Power_L0r {α : Type} (N : Nat) (next : Int → Int → (Bool × (List Int) × (List Int) × Unit) → Bool → (Bool × (List Int) × (List Int) × Unit) → List Int → List Int → Option α) (k0 : Bool → (Bool × (List Int) × (List Int) × Unit) → List Int → List Int → Option α) (v311 : Int) (v312 : Int) (v313 : Bool × (List Int) × (List Int) × Unit) (v314 : Bool) (v315 : Bool × (List Int) × (List Int) × Unit) (v316 : List Int) (v317 : List Int) : Option α :=
  let x318 := decide (v312 < v311)
  bif x318 then
    let x319 := !(v315.1 == v313.1)
    spec_l5Mul N v315.2.1 v313.2.1
      (fun x320 =>
        spec_l5Mul N v315.2.2.1 v313.2.2.1
          (fun x321 =>
            let x322 := (IntKind.i64.wrap (v312 + (1 : Int)))
            next v311 x322 v313 v314 (x319, (x320, (x321, ()))) v316 v317))
  else
    k0 v314 v315 v316 v317
noncomputable def spec_l9Power_L0.b {α : Type} (N n : Nat) (v311 : Int) (v312 : Int) (v313 : Bool × (List Int) × (List Int) × Unit) (v314 : Bool) (v315 : Bool × (List Int) × (List Int) × Unit) (v316 : List Int) (v317 : List Int) (k0 : Bool → (Bool × (List Int) × (List Int) × Unit) → List Int → List Int → Option α) : Option α :=
  Nat.rec (motive := fun _ => Int → Int → (Bool × (List Int) × (List Int) × Unit) → Bool → (Bool × (List Int) × (List Int) × Unit) → List Int → List Int → Option α) (fun _ _ _ _ _ _ _ => none) (fun _ next => spec_l9Power_L0r N next k0) n v311 v312 v313 v314 v315 v316 v317
theorem spec_l9Power_L0.ex : ∃ f : ((α : Type) → Nat → Nat → Int → Int → (Bool × (List Int) × (List Int) × Unit) → Bool → (Bool × (List Int) × (List Int) × Unit) → List Int → List Int → (Bool → (Bool × (List Int) × (List Int) × Unit) → List Int → List Int → Option α) → Option α), f = fun α => @spec_l9Power_L0.b α := ⟨_, rfl⟩
noncomputable def spec_l9Power_L0 {α : Type} : Nat → Nat → Int → Int → (Bool × (List Int) × (List Int) × Unit) → Bool → (Bool × (List Int) × (List Int) × Unit) → List Int → List Int → (Bool → (Bool × (List Int) × (List Int) × Unit) → List Int → List Int → Option α) → Option α := Classical.choose spec_l9Power_L0.ex α
theorem spec_l9Power_L0.eq : @spec_l9Power_L0 = @spec_l9Power_L0.b := funext fun α => congrFun (Classical.choose_spec spec_l9Power_L0.ex) α
theorem spec_l9Power_L0.zero {α : Type} (N : Nat) (v311 : Int) (v312 : Int) (v313 : Bool × (List Int) × (List Int) × Unit) (v314 : Bool) (v315 : Bool × (List Int) × (List Int) × Unit) (v316 : List Int) (v317 : List Int) (k0 : Bool → (Bool × (List Int) × (List Int) × Unit) → List Int → List Int → Option α) : spec_l9Power_L0 N 0 v311 v312 v313 v314 v315 v316 v317 k0 = none := by rw [spec_l9Power_L0.eq]; rfl
theorem spec_l9Power_L0.succ {α : Type} (N n : Nat) (v311 : Int) (v312 : Int) (v313 : Bool × (List Int) × (List Int) × Unit) (v314 : Bool) (v315 : Bool × (List Int) × (List Int) × Unit) (v316 : List Int) (v317 : List Int) (k0 : Bool → (Bool × (List Int) × (List Int) × Unit) → List Int → List Int → Option α) : spec_l9Power_L0 N (n + 1) v311 v312 v313 v314 v315 v316 v317 k0 = spec_l9Power_L0r N (fun y0 y1 y2 y3 y4 y5 y6 => spec_l9Power_L0 N n y0 y1 y2 y3 y4 y5 y6 k0) k0 v311 v312 v313 v314 v315 v316 v317 := by rw [spec_l9Power_L0.eq]; rfl
/-- loop.example/pinfold/spec.l9Power -/
noncomputable def spec_l9Power.b {α : Type} (N : Nat) (a309 : Bool × (List Int) × (List Int) × Unit) (a310 : Int) (k0 : (Bool × (List Int) × (List Int) × Unit) → Option α) : Option α :=
  spec_l9Power_L0 N N a310 (1 : Int) a309 false a309 [] []
    (fun _ x324 _ _ =>
      k0 x324)
theorem spec_l9Power.ex : ∃ f : ((α : Type) → Nat → (Bool × (List Int) × (List Int) × Unit) → Int → ((Bool × (List Int) × (List Int) × Unit) → Option α) → Option α), f = fun α => @spec_l9Power.b α := ⟨_, rfl⟩
noncomputable def spec_l9Power {α : Type} : Nat → (Bool × (List Int) × (List Int) × Unit) → Int → ((Bool × (List Int) × (List Int) × Unit) → Option α) → Option α := Classical.choose spec_l9Power.ex α
theorem spec_l9Power.eq : @spec_l9Power = @spec_l9Power.b := funext fun α => congrFun (Classical.choose_spec spec_l9Power.ex) α

noncomputable def spec_l5Cmp_L0r {α : Type} (N : Nat) (next : List Int → List Int → Int → Option α) (k0 : Int → Option α) (k1 : Option α) (v350 : List Int) (v351 : List Int) (v352 : Int) : Option α :=
  let x353 := (decide ((0 : Int) ≤ v352))
  bif x353 then
    bif (decide (v352 < (0 : Int))) then
      none
    else
      match v350[v352.toNat]? with
      | some x354 =>
        bif (decide (v352 < (0 : Int))) then
          none
        else
          match v351[v352.toNat]? with
          | some x355 =>
            let x356 := decide (x354 < x355)
            bif x356 then
              k0 (-1 : Int)
            else
              bif (decide (v352 < (0 : Int))) then
                none
              else
                match v350[v352.toNat]? with
                | some x357 =>
                  bif (decide (v352 < (0 : Int))) then
                    none
                  else
                    match v351[v352.toNat]? with
                    | some x358 =>
                      let x359 := decide (x358 < x357)
                      bif x359 then
                        k0 (1 : Int)
                      else
                        let x360 := (IntKind.i64.wrap (v352 - (1 : Int)))
                        next v350 v351 x360
                    | none => none
                | none => none
          | none => none
      | none => none
  else
    k1
noncomputable def spec_l5Cmp_L0.b {α : Type} (N n : Nat) (v350 : List Int) (v351 : List Int) (v352 : Int) (k0 : Int → Option α) (k1 : Option α) : Option α :=
  Nat.rec (motive := fun _ => List Int → List Int → Int → Option α) (fun _ _ _ => none) (fun _ next => spec_l5Cmp_L0r N next k0 k1) n v350 v351 v352
theorem spec_l5Cmp_L0.ex : ∃ f : ((α : Type) → Nat → Nat → List Int → List Int → Int → (Int → Option α) → (Option α) → Option α), f = fun α => @spec_l5Cmp_L0.b α := ⟨_, rfl⟩
noncomputable def spec_l5Cmp_L0 {α : Type} : Nat → Nat → List Int → List Int → Int → (Int → Option α) → (Option α) → Option α := Classical.choose spec_l5Cmp_L0.ex α
theorem spec_l5Cmp_L0.eq : @spec_l5Cmp_L0 = @spec_l5Cmp_L0.b := funext fun α => congrFun (Classical.choose_spec spec_l5Cmp_L0.ex) α
theorem spec_l5Cmp_L0.zero {α : Type} (N : Nat) (v350 : List Int) (v351 : List Int) (v352 : Int) (k0 : Int → Option α) (k1 : Option α) : spec_l5Cmp_L0 N 0 v350 v351 v352 k0 k1 = none := by rw [spec_l5Cmp_L0.eq]; rfl
theorem spec_l5Cmp_L0.succ {α : Type} (N n : Nat) (v350 : List Int) (v351 : List Int) (v352 : Int) (k0 : Int → Option α) (k1 : Option α) : spec_l5Cmp_L0 N (n + 1) v350 v351 v352 k0 k1 = spec_l5Cmp_L0r N (fun y0 y1 y2 => spec_l5Cmp_L0 N n y0 y1 y2 k0 k1) k0 k1 v350 v351 v352 := by rw [spec_l5Cmp_L0.eq]; rfl
/-- loop.example/pinfold/spec.l5Cmp -/
noncomputable def spec_l5Cmp.b {α : Type} (N : Nat) (a340 : List Int) (a341 : List Int) (k0 : Int → Option α) : Option α :=
  let x342 := ((a340.length : Nat) : Int)
  let x343 := ((a341.length : Nat) : Int)
  let x344 := decide (x342 < x343)
  bif x344 then
    k0 (-1 : Int)
  else
    let x345 := ((a340.length : Nat) : Int)
    let x346 := ((a341.length : Nat) : Int)
    let x347 := decide (x346 < x345)
    bif x347 then
      k0 (1 : Int)
    else
      let x348 := ((a340.length : Nat) : Int)
      let x349 := (IntKind.i64.wrap (x348 - (1 : Int)))
      spec_l5Cmp_L0 N N a340 a341 x349
        (fun x361 =>
          k0 x361)
        (
          k0 (0 : Int))
theorem spec_l5Cmp.ex : ∃ f : ((α : Type) → Nat → List Int → List Int → (Int → Option α) → Option α), f = fun α => @spec_l5Cmp.b α := ⟨_, rfl⟩
noncomputable def spec_l5Cmp {α : Type} : Nat → List Int → List Int → (Int → Option α) → Option α := Classical.choose spec_l5Cmp.ex α
theorem spec_l5Cmp.eq : @spec_l5Cmp = @spec_l5Cmp.b := funext fun α => congrFun (Classical.choose_spec spec_l5Cmp.ex) α

/-- loop.example/pinfold/spec.l8Cmp -/
noncomputable def spec_l8Cmp.b {α : Type} (N : Nat) (a328 : Bool × (List Int) × (List Int) × Unit) (a329 : Bool × (List Int) × (List Int) × Unit) (k0 : Int → Option α) : Option α :=
  spec_l5Mul N a328.2.1 a329.2.2.1
    (fun x330 =>
      spec_l5Mul N a329.2.1 a328.2.2.1
        (fun x331 =>
          let x332 := ((x330.length : Nat) : Int)
          let x333 := (decide (x332 = (0 : Int)))
          bif x333 then
            let x334 := ((x331.length : Nat) : Int)
            let x335 := (decide (x334 = (0 : Int)))
            bif x335 then
              k0 (0 : Int)
            else
              bif a328.1 then
                let x336 := ((x330.length : Nat) : Int)
                let x337 := (decide ((0 : Int) < x336))
                bif x337 then
                  bif a329.1 then
                    let x338 := ((x331.length : Nat) : Int)
                    let x339 := (decide ((0 : Int) < x338))
                    bif x339 then
                      spec_l5Cmp N x331 x330
                        (fun x362 =>
                          k0 x362)
                    else
                      k0 (-1 : Int)
                  else
                    k0 (-1 : Int)
                else
                  bif a329.1 then
                    let x363 := ((x331.length : Nat) : Int)
                    let x364 := (decide ((0 : Int) < x363))
                    bif x364 then
                      k0 (1 : Int)
                    else
                      spec_l5Cmp N x330 x331
                        (fun x365 =>
                          k0 x365)
                  else
                    spec_l5Cmp N x330 x331
                      (fun x366 =>
                        k0 x366)
              else
                bif a329.1 then
                  let x367 := ((x331.length : Nat) : Int)
                  let x368 := (decide ((0 : Int) < x367))
                  bif x368 then
                    k0 (1 : Int)
                  else
                    spec_l5Cmp N x330 x331
                      (fun x369 =>
                        k0 x369)
                else
                  spec_l5Cmp N x330 x331
                    (fun x370 =>
                      k0 x370)
          else
            bif a328.1 then
              let x371 := ((x330.length : Nat) : Int)
              let x372 := (decide ((0 : Int) < x371))
              bif x372 then
                bif a329.1 then
                  let x373 := ((x331.length : Nat) : Int)
                  let x374 := (decide ((0 : Int) < x373))
                  bif x374 then
                    spec_l5Cmp N x331 x330
                      (fun x375 =>
                        k0 x375)
                  else
                    k0 (-1 : Int)
                else
                  k0 (-1 : Int)
              else
                bif a329.1 then
                  let x376 := ((x331.length : Nat) : Int)
                  let x377 := (decide ((0 : Int) < x376))
                  bif x377 then
                    k0 (1 : Int)
                  else
                    spec_l5Cmp N x330 x331
                      (fun x378 =>
                        k0 x378)
                else
                  spec_l5Cmp N x330 x331
                    (fun x379 =>
                      k0 x379)
            else
              bif a329.1 then
                let x380 := ((x331.length : Nat) : Int)
                let x381 := (decide ((0 : Int) < x380))
                bif x381 then
                  k0 (1 : Int)
                else
                  spec_l5Cmp N x330 x331
                    (fun x382 =>
                      k0 x382)
              else
                spec_l5Cmp N x330 x331
                  (fun x383 =>
                    k0 x383)))
theorem spec_l8Cmp.ex : ∃ f : ((α : Type) → Nat → (Bool × (List Int) × (List Int) × Unit) → (Bool × (List Int) × (List Int) × Unit) → (Int → Option α) → Option α), f = fun α => @spec_l8Cmp.b α := ⟨_, rfl⟩
noncomputable def spec_l8Cmp {α : Type} : Nat → (Bool × (List Int) × (List Int) × Unit) → (Bool × (List Int) × (List Int) × Unit) → (Int → Option α) → Option α := Classical.choose spec_l8Cmp.ex α
theorem spec_l8Cmp.eq : @spec_l8Cmp = @spec_l8Cmp.b := funext fun α => congrFun (Classical.choose_spec spec_l8Cmp.ex) α

noncomputable def spec_l9RootSize_J8.b {α : Type} (N : Nat) (v284 : Int) (v285 : Int) (v286 : Int) (v287 : Int) (v288 : Int) (v289 : Bool) (v290 : List Int) (v291 : List Int) (k0 : Int → Int → Int → Int → Bool → List Int → List Int → Option α) : Option α :=
  spec_l8Of N v284 v288
    (fun x292 x293 x294 =>
      spec_l9Power N (x292, (x293, (x294, ()))) v285
        (fun x327 =>
          spec_l8Cmp N x327 (v289, (v290, (v291, ())))
            (fun x384 =>
              let x385 := (decide (x384 ≤ (0 : Int)))
              bif x385 then
                k0 v284 v285 v288 v287 v289 v290 v291
              else
                let x386 := (IntKind.i64.wrap (v288 - (1 : Int)))
                k0 v284 v285 v286 x386 v289 v290 v291)))
theorem spec_l9RootSize_J8.ex : ∃ f : ((α : Type) → Nat → Int → Int → Int → Int → Int → Bool → List Int → List Int → (Int → Int → Int → Int → Bool → List Int → List Int → Option α) → Option α), f = fun α => @spec_l9RootSize_J8.b α := ⟨_, rfl⟩
noncomputable def spec_l9RootSize_J8 {α : Type} : Nat → Int → Int → Int → Int → Int → Bool → List Int → List Int → (Int → Int → Int → Int → Bool → List Int → List Int → Option α) → Option α := Classical.choose spec_l9RootSize_J8.ex α
theorem spec_l9RootSize_J8.eq : @spec_l9RootSize_J8 = @spec_l9RootSize_J8.b := funext fun α => congrFun (Classical.choose_spec spec_l9RootSize_J8.ex) α
noncomputable def spec_l9RootSize_L0r {α : Type} (N : Nat) (next : Int → Int → Int → Int → Bool → List Int → List Int → Option α) (k0 : Int → Int → Int → Bool → List Int → List Int → Option α) (v273 : Int) (v274 : Int) (v275 : Int) (v276 : Int) (v277 : Bool) (v278 : List Int) (v279 : List Int) : Option α :=
  let x280 := decide (v275 < v276)
  bif x280 then
    let x281 := IntKind.i64.wrap (v276 - v275)
    let x282 := (IntKind.i64.wrap (Int.tdiv x281 (2 : Int)))
    let x283 := IntKind.i64.wrap (v276 - x282)
    spec_l9RootSize_J8 N v273 v274 v275 v276 x283 v277 v278 v279
      (fun x387 x388 x389 x390 x391 x392 x393 =>
        next x387 x388 x389 x390 x391 x392 x393)
  else
    k0 v273 v274 v275 v277 v278 v279
noncomputable def spec_l9RootSize_L0.b {α : Type} (N n : Nat) (v273 : Int) (v274 : Int) (v275 : Int) (v276 : Int) (v277 : Bool) (v278 : List Int) (v279 : List Int) (k0 : Int → Int → Int → Bool → List Int → List Int → Option α) : Option α :=
  Nat.rec (motive := fun _ => Int → Int → Int → Int → Bool → List Int → List Int → Option α) (fun _ _ _ _ _ _ _ => none) (fun _ next => spec_l9RootSize_L0r N next k0) n v273 v274 v275 v276 v277 v278 v279
theorem spec_l9RootSize_L0.ex : ∃ f : ((α : Type) → Nat → Nat → Int → Int → Int → Int → Bool → List Int → List Int → (Int → Int → Int → Bool → List Int → List Int → Option α) → Option α), f = fun α => @spec_l9RootSize_L0.b α := ⟨_, rfl⟩
noncomputable def spec_l9RootSize_L0 {α : Type} : Nat → Nat → Int → Int → Int → Int → Bool → List Int → List Int → (Int → Int → Int → Bool → List Int → List Int → Option α) → Option α := Classical.choose spec_l9RootSize_L0.ex α
theorem spec_l9RootSize_L0.eq : @spec_l9RootSize_L0 = @spec_l9RootSize_L0.b := funext fun α => congrFun (Classical.choose_spec spec_l9RootSize_L0.ex) α
theorem spec_l9RootSize_L0.zero {α : Type} (N : Nat) (v273 : Int) (v274 : Int) (v275 : Int) (v276 : Int) (v277 : Bool) (v278 : List Int) (v279 : List Int) (k0 : Int → Int → Int → Bool → List Int → List Int → Option α) : spec_l9RootSize_L0 N 0 v273 v274 v275 v276 v277 v278 v279 k0 = none := by rw [spec_l9RootSize_L0.eq]; rfl
theorem spec_l9RootSize_L0.succ {α : Type} (N n : Nat) (v273 : Int) (v274 : Int) (v275 : Int) (v276 : Int) (v277 : Bool) (v278 : List Int) (v279 : List Int) (k0 : Int → Int → Int → Bool → List Int → List Int → Option α) : spec_l9RootSize_L0 N (n + 1) v273 v274 v275 v276 v277 v278 v279 k0 = spec_l9RootSize_L0r N (fun y0 y1 y2 y3 y4 y5 y6 => spec_l9RootSize_L0 N n y0 y1 y2 y3 y4 y5 y6 k0) k0 v273 v274 v275 v276 v277 v278 v279 := by rw [spec_l9RootSize_L0.eq]; rfl
/-- loop.example/pinfold/spec.l9RootSize -/
noncomputable def spec_l9RootSize.b {α : Type} (N : Nat) (a93 : Int) (a94 : Int) (a95 : Int) (k0 : Int → Bool → Option α) : Option α :=
  spec_l9Infinite N a93 a94
    (fun x103 =>
      bif x103 then
        k0 a94 false
      else
        spec_l8Of N a93 a94
          (fun x268 x269 x270 =>
            spec_BitTop N a93
              (fun x271 =>
                let x272 := (IntKind.i64.wrap (x271 - (1 : Int)))
                spec_l9RootSize_L0 N N a93 a95 (0 : Int) x272 x268 x269 x270
                  (fun x394 x395 x396 x397 x398 x399 =>
                    spec_l8Of N x394 x396
                      (fun x400 x401 x402 =>
                        spec_l9Power N (x400, (x401, (x402, ()))) x395
                          (fun x403 =>
                            spec_l8Cmp N x403 (x397, (x398, (x399, ())))
                              (fun x404 =>
                                let x405 := (decide (x404 < (0 : Int)))
                                k0 x396 x405)))))))
theorem spec_l9RootSize.ex : ∃ f : ((α : Type) → Nat → Int → Int → Int → (Int → Bool → Option α) → Option α), f = fun α => @spec_l9RootSize.b α := ⟨_, rfl⟩
noncomputable def spec_l9RootSize {α : Type} : Nat → Int → Int → Int → (Int → Bool → Option α) → Option α := Classical.choose spec_l9RootSize.ex α
theorem spec_l9RootSize.eq : @spec_l9RootSize = @spec_l9RootSize.b := funext fun α => congrFun (Classical.choose_spec spec_l9RootSize.ex) α

noncomputable def spec_l9RootUp_J4.b {α : Type} (N : Nat) (v408 : Int) (v409 : Bool) (k0 : Int → Option α) : Option α :=
  bif v409 then
    let x410 := (IntKind.i64.wrap (v408 + (1 : Int)))
    k0 x410
  else
    k0 v408
theorem spec_l9RootUp_J4.ex : ∃ f : ((α : Type) → Nat → Int → Bool → (Int → Option α) → Option α), f = fun α => @spec_l9RootUp_J4.b α := ⟨_, rfl⟩
noncomputable def spec_l9RootUp_J4 {α : Type} : Nat → Int → Bool → (Int → Option α) → Option α := Classical.choose spec_l9RootUp_J4.ex α
theorem spec_l9RootUp_J4.eq : @spec_l9RootUp_J4 = @spec_l9RootUp_J4.b := funext fun α => congrFun (Classical.choose_spec spec_l9RootUp_J4.ex) α
/-- loop.example/pinfold/spec.l9RootUp -/
noncomputable def spec_l9RootUp.b {α : Type} (N : Nat) (a85 : Int) (a86 : Int) (a87 : Int) (k0 : Int → Option α) : Option α :=
  let x88 := (decide (a86 < (0 : Int)))
  bif x88 then
    let x89 := IntKind.i64.wrap (0 - a86)
    spec_l9RootDown_b N a85 x89 a87
  else
    spec_l9RootSize N a85 a86 a87
      (fun x406 x407 =>
        spec_l9RootUp_J4 N x406 x407
          (fun x411 =>
            k0 x411))
theorem spec_l9RootUp.ex : ∃ f : ((α : Type) → Nat → Int → Int → Int → (Int → Option α) → Option α), f = fun α => @spec_l9RootUp.b α := ⟨_, rfl⟩
noncomputable def spec_l9RootUp {α : Type} : Nat → Int → Int → Int → (Int → Option α) → Option α := Classical.choose spec_l9RootUp.ex α
theorem spec_l9RootUp.eq : @spec_l9RootUp = @spec_l9RootUp.b := funext fun α => congrFun (Classical.choose_spec spec_l9RootUp.ex) α

/-- loop.example/pinfold/spec.l9RootDown -/
noncomputable def spec_l9RootDown.b {α : Type} (N : Nat) (a80 : Int) (a81 : Int) (a82 : Int) (k0 : Int → Option α) : Option α :=
  let x83 := (decide (a81 < (0 : Int)))
  bif x83 then
    let x84 := IntKind.i64.wrap (0 - a81)
    spec_l9RootUp N a80 x84 a82
      (fun x412 =>
        let x413 := IntKind.i64.wrap (0 - x412)
        k0 x413)
  else
    spec_l9RootSize N a80 a81 a82
      (fun x414 _ =>
        k0 x414)
theorem spec_l9RootDown.ex : ∃ f : ((α : Type) → Nat → Int → Int → Int → (Int → Option α) → Option α), f = fun α => @spec_l9RootDown.b α := ⟨_, rfl⟩
noncomputable def spec_l9RootDown {α : Type} : Nat → Int → Int → Int → (Int → Option α) → Option α := Classical.choose spec_l9RootDown.ex α
theorem spec_l9RootDown.eq : @spec_l9RootDown = @spec_l9RootDown.b := funext fun α => congrFun (Classical.choose_spec spec_l9RootDown.ex) α

noncomputable def spec_l9RootUp_b_J4.b {α : Type} (N : Nat) (v426 : Int) (v427 : Bool) (k0 : Int → Option α) : Option α :=
  bif v427 then
    let x428 := (IntKind.i64.wrap (v426 + (1 : Int)))
    k0 x428
  else
    k0 v426
theorem spec_l9RootUp_b_J4.ex : ∃ f : ((α : Type) → Nat → Int → Bool → (Int → Option α) → Option α), f = fun α => @spec_l9RootUp_b_J4.b α := ⟨_, rfl⟩
noncomputable def spec_l9RootUp_b_J4 {α : Type} : Nat → Int → Bool → (Int → Option α) → Option α := Classical.choose spec_l9RootUp_b_J4.ex α
theorem spec_l9RootUp_b_J4.eq : @spec_l9RootUp_b_J4 = @spec_l9RootUp_b_J4.b := funext fun α => congrFun (Classical.choose_spec spec_l9RootUp_b_J4.ex) α
/-- loop.example/pinfold/spec.l9RootUp -/
noncomputable def spec_l9RootUp_b.b {α : Type} (N : Nat) (a417 : Int) (a418 : Int) (a419 : Int) (k0 : Int → Option α) : Option α :=
  let x420 := (decide (a418 < (0 : Int)))
  bif x420 then
    let x421 := IntKind.i64.wrap (0 - a418)
    spec_l9RootDown N a417 x421 a419
      (fun x422 =>
        let x423 := IntKind.i64.wrap (0 - x422)
        k0 x423)
  else
    spec_l9RootSize N a417 a418 a419
      (fun x424 x425 =>
        spec_l9RootUp_b_J4 N x424 x425
          (fun x429 =>
            k0 x429))
theorem spec_l9RootUp_b.ex : ∃ f : ((α : Type) → Nat → Int → Int → Int → (Int → Option α) → Option α), f = fun α => @spec_l9RootUp_b.b α := ⟨_, rfl⟩
noncomputable def spec_l9RootUp_b {α : Type} : Nat → Int → Int → Int → (Int → Option α) → Option α := Classical.choose spec_l9RootUp_b.ex α
theorem spec_l9RootUp_b.eq : @spec_l9RootUp_b = @spec_l9RootUp_b.b := funext fun α => congrFun (Classical.choose_spec spec_l9RootUp_b.ex) α

/-- loop.example/pinfold/spec.SpanRoot -/
noncomputable def spec_SpanRoot.b {α : Type} (N : Nat) (a5 : Int) (a6 : Bool × Int × Int × Unit) (k0 : (Bool × Int × Int × Unit) → Option α) : Option α :=
  spec_l9From N a5 a6
    (fun x78 =>
      let x79 := !x78.1
      bif x79 then
        k0 x78
      else
        spec_l9RootDown N a5 x78.2.1 (2 : Int)
          (fun x416 =>
            spec_l9RootUp_b N a5 x78.2.2.1 (2 : Int)
              (fun x430 =>
                spec_l9Of N x416 x430
                  (fun x431 =>
                    k0 x431))))
theorem spec_SpanRoot.ex : ∃ f : ((α : Type) → Nat → Int → (Bool × Int × Int × Unit) → ((Bool × Int × Int × Unit) → Option α) → Option α), f = fun α => @spec_SpanRoot.b α := ⟨_, rfl⟩
noncomputable def spec_SpanRoot {α : Type} : Nat → Int → (Bool × Int × Int × Unit) → ((Bool × Int × Int × Unit) → Option α) → Option α := Classical.choose spec_SpanRoot.ex α
theorem spec_SpanRoot.eq : @spec_SpanRoot = @spec_SpanRoot.b := funext fun α => congrFun (Classical.choose_spec spec_SpanRoot.ex) α

/-- loop.example/pinfold/impl.formatOf -/
noncomputable def impl_formatOf.b {α : Type} (N : Nat) (a439 : Int) (k0 : (Int × Int × Int × Int × Unit) → Bool → Option α) : Option α :=
  let x440 := (decide (a439 = (32 : Int)))
  bif x440 then
    k0 ((23 : Int), ((-149 : Int), ((127 : Int), ((2139095040 : Int), ())))) true
  else
    let x441 := (decide (a439 = (64 : Int)))
    bif x441 then
      k0 ((52 : Int), ((-1074 : Int), ((1023 : Int), ((9218868437227405312 : Int), ())))) true
    else
      k0 ((0 : Int), ((0 : Int), ((0 : Int), ((0 : Int), ())))) false
theorem impl_formatOf.ex : ∃ f : ((α : Type) → Nat → Int → ((Int × Int × Int × Int × Unit) → Bool → Option α) → Option α), f = fun α => @impl_formatOf.b α := ⟨_, rfl⟩
noncomputable def impl_formatOf {α : Type} : Nat → Int → ((Int × Int × Int × Int × Unit) → Bool → Option α) → Option α := Classical.choose impl_formatOf.ex α
theorem impl_formatOf.eq : @impl_formatOf = @impl_formatOf.b := funext fun α => congrFun (Classical.choose_spec impl_formatOf.ex) α

/-- loop.example/pinfold/impl.BitTop -/
noncomputable def impl_BitTop.b {α : Type} (N : Nat) (a438 : Int) (k0 : Int → Option α) : Option α :=
  impl_formatOf N a438
    (fun x442 _ =>
      k0 x442.2.2.2.1)
theorem impl_BitTop.ex : ∃ f : ((α : Type) → Nat → Int → (Int → Option α) → Option α), f = fun α => @impl_BitTop.b α := ⟨_, rfl⟩
noncomputable def impl_BitTop {α : Type} : Nat → Int → (Int → Option α) → Option α := Classical.choose impl_BitTop.ex α
theorem impl_BitTop.eq : @impl_BitTop = @impl_BitTop.b := funext fun α => congrFun (Classical.choose_spec impl_BitTop.ex) α

/-- loop.example/pinfold/impl.some -/
noncomputable def impl_some.b {α : Type} (N : Nat) (a445 : Int) (a446 : Int) (k0 : (Bool × Int × Int × Unit) → Option α) : Option α :=
  k0 (true, (a445, (a446, ())))
theorem impl_some.ex : ∃ f : ((α : Type) → Nat → Int → Int → ((Bool × Int × Int × Unit) → Option α) → Option α), f = fun α => @impl_some.b α := ⟨_, rfl⟩
noncomputable def impl_some {α : Type} : Nat → Int → Int → ((Bool × Int × Int × Unit) → Option α) → Option α := Classical.choose impl_some.ex α
theorem impl_some.eq : @impl_some = @impl_some.b := funext fun α => congrFun (Classical.choose_spec impl_some.ex) α

/-- loop.example/pinfold/impl.from -/
noncomputable def impl_from.b {α : Type} (N : Nat) (a436 : Int) (a437 : Int) (k0 : (Bool × Int × Int × Unit) → Option α) : Option α :=
  impl_BitTop N a436
    (fun x444 =>
      impl_some N a437 x444
        (fun x447 =>
          k0 x447))
theorem impl_from.ex : ∃ f : ((α : Type) → Nat → Int → Int → ((Bool × Int × Int × Unit) → Option α) → Option α), f = fun α => @impl_from.b α := ⟨_, rfl⟩
noncomputable def impl_from {α : Type} : Nat → Int → Int → ((Bool × Int × Int × Unit) → Option α) → Option α := Classical.choose impl_from.ex α
theorem impl_from.eq : @impl_from = @impl_from.b := funext fun α => congrFun (Classical.choose_spec impl_from.ex) α

/-- loop.example/pinfold/impl.in -/
noncomputable def impl_in.b {α : Type} (N : Nat) (a475 : Int) (a476 : Int) (a477 : Int) (k0 : Bool → Option α) : Option α :=
  let x478 := decide (a476 ≤ a475)
  bif x478 then
    let x479 := decide (a475 ≤ a477)
    k0 x479
  else
    k0 false
theorem impl_in.ex : ∃ f : ((α : Type) → Nat → Int → Int → Int → (Bool → Option α) → Option α), f = fun α => @impl_in.b α := ⟨_, rfl⟩
noncomputable def impl_in {α : Type} : Nat → Int → Int → Int → (Bool → Option α) → Option α := Classical.choose impl_in.ex α
theorem impl_in.eq : @impl_in = @impl_in.b := funext fun α => congrFun (Classical.choose_spec impl_in.ex) α

/-- loop.example/pinfold/impl.BitOk -/
noncomputable def impl_BitOk.b {α : Type} (N : Nat) (a470 : Int) (a471 : Int) (k0 : Bool → Option α) : Option α :=
  impl_formatOf N a470
    (fun x472 x473 =>
      bif x473 then
        let x474 := IntKind.i64.wrap (0 - x472.2.2.2.1)
        impl_in N a471 x474 x472.2.2.2.1
          (fun x480 =>
            k0 x480)
      else
        k0 false)
theorem impl_BitOk.ex : ∃ f : ((α : Type) → Nat → Int → Int → (Bool → Option α) → Option α), f = fun α => @impl_BitOk.b α := ⟨_, rfl⟩
noncomputable def impl_BitOk {α : Type} : Nat → Int → Int → (Bool → Option α) → Option α := Classical.choose impl_BitOk.ex α
theorem impl_BitOk.eq : @impl_BitOk = @impl_BitOk.b := funext fun α => congrFun (Classical.choose_spec impl_BitOk.ex) α

/-- loop.example/pinfold/impl.PairOk -/
noncomputable def impl_PairOk.b {α : Type} (N : Nat) (a467 : Int) (a468 : Int × Int × Unit) (k0 : Bool → Option α) : Option α :=
  impl_BitTop N a467
    (fun x469 =>
      impl_BitOk N a467 a468.1
        (fun x481 =>
          bif x481 then
            impl_BitOk N a467 a468.2.1
              (fun x482 =>
                bif x482 then
                  let x483 := decide (a468.1 ≤ a468.2.1)
                  bif x483 then
                    let x484 := !(decide (a468.1 = x469))
                    bif x484 then
                      let x485 := IntKind.i64.wrap (0 - x469)
                      let x486 := !(decide (a468.2.1 = x485))
                      k0 x486
                    else
                      k0 false
                  else
                    k0 false
                else
                  k0 false)
          else
            k0 false))
theorem impl_PairOk.ex : ∃ f : ((α : Type) → Nat → Int → (Int × Int × Unit) → (Bool → Option α) → Option α), f = fun α => @impl_PairOk.b α := ⟨_, rfl⟩
noncomputable def impl_PairOk {α : Type} : Nat → Int → (Int × Int × Unit) → (Bool → Option α) → Option α := Classical.choose impl_PairOk.ex α
theorem impl_PairOk.eq : @impl_PairOk = @impl_PairOk.b := funext fun α => congrFun (Classical.choose_spec impl_PairOk.ex) α

/-- loop.example/pinfold/impl.SpanOk -/
noncomputable def impl_SpanOk.b {α : Type} (N : Nat) (a463 : Int) (a464 : Bool × Int × Int × Unit) (k0 : Bool → Option α) : Option α :=
  impl_formatOf N a463
    (fun _ x466 =>
      bif x466 then
        bif a464.1 then
          impl_PairOk N a463 (a464.2.1, (a464.2.2.1, ()))
            (fun x487 =>
              bif x487 then
                k0 true
              else
                let x488 := ((a464.1 == false) && ((decide (a464.2.1 = (0 : Int))) && ((decide (a464.2.2.1 = (0 : Int))) && true)))
                k0 x488)
        else
          let x489 := ((a464.1 == false) && ((decide (a464.2.1 = (0 : Int))) && ((decide (a464.2.2.1 = (0 : Int))) && true)))
          k0 x489
      else
        k0 false)
theorem impl_SpanOk.ex : ∃ f : ((α : Type) → Nat → Int → (Bool × Int × Int × Unit) → (Bool → Option α) → Option α), f = fun α => @impl_SpanOk.b α := ⟨_, rfl⟩
noncomputable def impl_SpanOk {α : Type} : Nat → Int → (Bool × Int × Int × Unit) → (Bool → Option α) → Option α := Classical.choose impl_SpanOk.ex α
theorem impl_SpanOk.eq : @impl_SpanOk = @impl_SpanOk.b := funext fun α => congrFun (Classical.choose_spec impl_SpanOk.ex) α

noncomputable def impl_full_L0r {α : Type} (N : Nat) (next : Int → List (Bool × Int × Int × Unit) → Int → Int → Option α) (k0 : Bool → Option α) (k1 : Option α) (v456 : Int) (v457 : List (Bool × Int × Int × Unit)) (v458 : Int) (v459 : Int) : Option α :=
  let x460 := decide (v459 < v458)
  bif x460 then
    bif (decide (v459 < (0 : Int))) then
      none
    else
      match v457[v459.toNat]? with
      | some x461 =>
        let x462 := !x461.1
        bif x462 then
          k0 false
        else
          impl_SpanOk N v456 x461
            (fun x490 =>
              let x491 := !x490
              bif x491 then
                k0 false
              else
                let x492 := (IntKind.i64.wrap (v459 + (1 : Int)))
                next v456 v457 v458 x492)
      | none => none
  else
    k1
noncomputable def impl_full_L0.b {α : Type} (N n : Nat) (v456 : Int) (v457 : List (Bool × Int × Int × Unit)) (v458 : Int) (v459 : Int) (k0 : Bool → Option α) (k1 : Option α) : Option α :=
  Nat.rec (motive := fun _ => Int → List (Bool × Int × Int × Unit) → Int → Int → Option α) (fun _ _ _ _ => none) (fun _ next => impl_full_L0r N next k0 k1) n v456 v457 v458 v459
theorem impl_full_L0.ex : ∃ f : ((α : Type) → Nat → Nat → Int → List (Bool × Int × Int × Unit) → Int → Int → (Bool → Option α) → (Option α) → Option α), f = fun α => @impl_full_L0.b α := ⟨_, rfl⟩
noncomputable def impl_full_L0 {α : Type} : Nat → Nat → Int → List (Bool × Int × Int × Unit) → Int → Int → (Bool → Option α) → (Option α) → Option α := Classical.choose impl_full_L0.ex α
theorem impl_full_L0.eq : @impl_full_L0 = @impl_full_L0.b := funext fun α => congrFun (Classical.choose_spec impl_full_L0.ex) α
theorem impl_full_L0.zero {α : Type} (N : Nat) (v456 : Int) (v457 : List (Bool × Int × Int × Unit)) (v458 : Int) (v459 : Int) (k0 : Bool → Option α) (k1 : Option α) : impl_full_L0 N 0 v456 v457 v458 v459 k0 k1 = none := by rw [impl_full_L0.eq]; rfl
theorem impl_full_L0.succ {α : Type} (N n : Nat) (v456 : Int) (v457 : List (Bool × Int × Int × Unit)) (v458 : Int) (v459 : Int) (k0 : Bool → Option α) (k1 : Option α) : impl_full_L0 N (n + 1) v456 v457 v458 v459 k0 k1 = impl_full_L0r N (fun y0 y1 y2 y3 => impl_full_L0 N n y0 y1 y2 y3 k0 k1) k0 k1 v456 v457 v458 v459 := by rw [impl_full_L0.eq]; rfl
/-- loop.example/pinfold/impl.full -/
noncomputable def impl_full.b {α : Type} (N : Nat) (a453 : Int) (a454 : List (Bool × Int × Int × Unit)) (k0 : Bool → Option α) : Option α :=
  let x455 := ((a454.length : Nat) : Int)
  impl_full_L0 N N a453 a454 x455 (0 : Int)
    (fun x493 =>
      k0 x493)
    (
      k0 true)
theorem impl_full.ex : ∃ f : ((α : Type) → Nat → Int → List (Bool × Int × Int × Unit) → (Bool → Option α) → Option α), f = fun α => @impl_full.b α := ⟨_, rfl⟩
noncomputable def impl_full {α : Type} : Nat → Int → List (Bool × Int × Int × Unit) → (Bool → Option α) → Option α := Classical.choose impl_full.ex α
theorem impl_full.eq : @impl_full = @impl_full.b := funext fun α => congrFun (Classical.choose_spec impl_full.ex) α

/-- loop.example/pinfold/impl.SpanMeet -/
noncomputable def impl_SpanMeet.b {α : Type} (N : Nat) (a449 : Int) (a450 : Bool × Int × Int × Unit) (a451 : Bool × Int × Int × Unit) (k0 : (Bool × Int × Int × Unit) → Option α) : Option α :=
  let x452 := [a450, a451]
  impl_full N a449 x452
    (fun x494 =>
      let x495 := !x494
      bif x495 then
        k0 (false, ((0 : Int), ((0 : Int), ())))
      else
        let x496 := maxI a450.2.1 a451.2.1
        let x497 := minI a450.2.2.1 a451.2.2.1
        impl_some N x496 x497
          (fun x498 =>
            impl_SpanOk N a449 x498
              (fun x499 =>
                let x500 := !x499
                bif x500 then
                  k0 (false, ((0 : Int), ((0 : Int), ())))
                else
                  k0 x498)))
theorem impl_SpanMeet.ex : ∃ f : ((α : Type) → Nat → Int → (Bool × Int × Int × Unit) → (Bool × Int × Int × Unit) → ((Bool × Int × Int × Unit) → Option α) → Option α), f = fun α => @impl_SpanMeet.b α := ⟨_, rfl⟩
noncomputable def impl_SpanMeet {α : Type} : Nat → Int → (Bool × Int × Int × Unit) → (Bool × Int × Int × Unit) → ((Bool × Int × Int × Unit) → Option α) → Option α := Classical.choose impl_SpanMeet.ex α
theorem impl_SpanMeet.eq : @impl_SpanMeet = @impl_SpanMeet.b := funext fun α => congrFun (Classical.choose_spec impl_SpanMeet.ex) α

/-- loop.example/pinfold/impl.rootDown: called within itself once more: not followed. -/
noncomputable def impl_rootDown_b {α : Type} (N : Nat) (a513 : Int) (a514 : Int) (a515 : Int) : Option α := none

/-- loop.example/pinfold/impl.size -/
noncomputable def impl_size.b {α : Type} (N : Nat) (a1145 : Int) (k0 : Int → Option α) : Option α :=
  let x1146 := IntKind.i64.wrap (0 - a1145)
  let x1147 := maxI a1145 x1146
  k0 x1147
theorem impl_size.ex : ∃ f : ((α : Type) → Nat → Int → (Int → Option α) → Option α), f = fun α => @impl_size.b α := ⟨_, rfl⟩
noncomputable def impl_size {α : Type} : Nat → Int → (Int → Option α) → Option α := Classical.choose impl_size.ex α
theorem impl_size.eq : @impl_size = @impl_size.b := funext fun α => congrFun (Classical.choose_spec impl_size.ex) α

/-- loop.example/pinfold/impl.BitPartOf -/
noncomputable def impl_BitPartOf.b {α : Type} (N : Nat) (a1139 : Int) (a1140 : Int) (k0 : (Bool × Int × Int × Unit) → Bool → Option α) : Option α :=
  impl_formatOf N a1139
    (fun x1141 _ =>
      impl_BitOk N a1139 a1140
        (fun x1143 =>
          let x1144 := !x1143
          bif x1144 then
            k0 (false, ((0 : Int), ((0 : Int), ()))) false
          else
            impl_size N a1140
              (fun x1148 =>
                let x1149 := decide (x1148 = x1141.2.2.2.1)
                bif x1149 then
                  k0 (false, ((0 : Int), ((0 : Int), ()))) false
                else
                  impl_size N a1140
                    (fun x1150 =>
                      bif (decide (x1141.1 < (0 : Int))) then
                        none
                      else
                        let x1151 := (shlI .i64 (1 : Int) x1141.1)
                        let x1152 := (IntKind.i64.wrap (x1151 - (1 : Int)))
                        let x1153 := bitI .and .i64 x1150 x1152
                        impl_size N a1140
                          (fun x1154 =>
                            bif (decide (x1141.1 < (0 : Int))) then
                              none
                            else
                              let x1155 := shrI .i64 x1154 x1141.1
                              let x1156 := (decide (x1155 = (0 : Int)))
                              bif x1156 then
                                let x1157 := (decide (a1140 < (0 : Int)))
                                let x1158 := IntKind.u64.wrap x1153
                                k0 (x1157, (x1158, (x1141.2.1, ()))) true
                              else
                                let x1159 := (decide (a1140 < (0 : Int)))
                                bif (decide (x1141.1 < (0 : Int))) then
                                  none
                                else
                                  let x1160 := (shlI .i64 (1 : Int) x1141.1)
                                  let x1161 := bitI .or .i64 x1153 x1160
                                  let x1162 := IntKind.u64.wrap x1161
                                  let x1163 := IntKind.i64.wrap (x1141.2.1 + x1155)
                                  let x1164 := (IntKind.i64.wrap (x1163 - (1 : Int)))
                                  k0 (x1159, (x1162, (x1164, ()))) true)))))
theorem impl_BitPartOf.ex : ∃ f : ((α : Type) → Nat → Int → Int → ((Bool × Int × Int × Unit) → Bool → Option α) → Option α), f = fun α => @impl_BitPartOf.b α := ⟨_, rfl⟩
noncomputable def impl_BitPartOf {α : Type} : Nat → Int → Int → ((Bool × Int × Int × Unit) → Bool → Option α) → Option α := Classical.choose impl_BitPartOf.ex α
theorem impl_BitPartOf.eq : @impl_BitPartOf = @impl_BitPartOf.b := funext fun α => congrFun (Classical.choose_spec impl_BitPartOf.ex) α

noncomputable def impl_natOf_L0r {α : Type} (N : Nat) (next : Int → List Int → Option α) (k0 : List Int → Option α) (v1168 : Int) (v1169 : List Int) : Option α :=
  let x1170 := (decide ((0 : Int) < v1168))
  bif x1170 then
    let x1171 := (bitI .and .u64 v1168 (65535 : Int))
    let x1172 := IntKind.i64.wrap x1171
    let x1173 := [x1172]
    bif decide (v1169.length + x1173.length ≤ 8796093022208) then
      let x1174 := v1169 ++ x1173
      let x1175 := (shrI .u64 v1168 (16 : Int))
      next x1175 x1174
    else
      none
  else
    k0 v1169
noncomputable def impl_natOf_L0.b {α : Type} (N n : Nat) (v1168 : Int) (v1169 : List Int) (k0 : List Int → Option α) : Option α :=
  Nat.rec (motive := fun _ => Int → List Int → Option α) (fun _ _ => none) (fun _ next => impl_natOf_L0r N next k0) n v1168 v1169
theorem impl_natOf_L0.ex : ∃ f : ((α : Type) → Nat → Nat → Int → List Int → (List Int → Option α) → Option α), f = fun α => @impl_natOf_L0.b α := ⟨_, rfl⟩
noncomputable def impl_natOf_L0 {α : Type} : Nat → Nat → Int → List Int → (List Int → Option α) → Option α := Classical.choose impl_natOf_L0.ex α
theorem impl_natOf_L0.eq : @impl_natOf_L0 = @impl_natOf_L0.b := funext fun α => congrFun (Classical.choose_spec impl_natOf_L0.ex) α
theorem impl_natOf_L0.zero {α : Type} (N : Nat) (v1168 : Int) (v1169 : List Int) (k0 : List Int → Option α) : impl_natOf_L0 N 0 v1168 v1169 k0 = none := by rw [impl_natOf_L0.eq]; rfl
theorem impl_natOf_L0.succ {α : Type} (N n : Nat) (v1168 : Int) (v1169 : List Int) (k0 : List Int → Option α) : impl_natOf_L0 N (n + 1) v1168 v1169 k0 = impl_natOf_L0r N (fun y0 y1 => impl_natOf_L0 N n y0 y1 k0) k0 v1168 v1169 := by rw [impl_natOf_L0.eq]; rfl
/-- loop.example/pinfold/impl.natOf -/
noncomputable def impl_natOf.b {α : Type} (N : Nat) (a1167 : Int) (k0 : List Int → Option α) : Option α :=
  impl_natOf_L0 N N a1167 []
    (fun x1176 =>
      k0 x1176)
theorem impl_natOf.ex : ∃ f : ((α : Type) → Nat → Int → (List Int → Option α) → Option α), f = fun α => @impl_natOf.b α := ⟨_, rfl⟩
noncomputable def impl_natOf {α : Type} : Nat → Int → (List Int → Option α) → Option α := Classical.choose impl_natOf.ex α
theorem impl_natOf.eq : @impl_natOf = @impl_natOf.b := funext fun α => congrFun (Classical.choose_spec impl_natOf.ex) α

/-- slices.Clone[[]int,int] -/
noncomputable def slices_Clone_int_int {α : Type} (N : Nat) (a1 : List Int) (k0 : List Int → Option α) : Option α :=
  bif decide (([] : List Int).length + a1.length ≤ 8796093022208) then k0 a1 else none

noncomputable def impl_trim_L0r {α : Type} (N : Nat) (next : List Int → Option α) (k0 : List Int → Option α) (v1297 : List Int) : Option α :=
  let x1298 := ((v1297.length : Nat) : Int)
  let x1299 := (decide ((0 : Int) < x1298))
  bif x1299 then
    let x1300 := ((v1297.length : Nat) : Int)
    let x1301 := (IntKind.i64.wrap (x1300 - (1 : Int)))
    bif (decide (x1301 < (0 : Int))) then
      none
    else
      match v1297[x1301.toNat]? with
      | some x1302 =>
        let x1303 := (decide (x1302 = (0 : Int)))
        bif x1303 then
          let x1304 := ((v1297.length : Nat) : Int)
          let x1305 := (IntKind.i64.wrap (x1304 - (1 : Int)))
          bif (decide ((0 : Int) ≤ x1305)) then
            bif (decide (x1305 ≤ ((v1297.length : Nat) : Int))) then
              let x1306 := v1297.take x1305.toNat
              next x1306
            else
              none
          else
            none
        else
          k0 v1297
      | none => none
  else
    k0 v1297
noncomputable def impl_trim_L0.b {α : Type} (N n : Nat) (v1297 : List Int) (k0 : List Int → Option α) : Option α :=
  Nat.rec (motive := fun _ => List Int → Option α) (fun _ => none) (fun _ next => impl_trim_L0r N next k0) n v1297
theorem impl_trim_L0.ex : ∃ f : ((α : Type) → Nat → Nat → List Int → (List Int → Option α) → Option α), f = fun α => @impl_trim_L0.b α := ⟨_, rfl⟩
noncomputable def impl_trim_L0 {α : Type} : Nat → Nat → List Int → (List Int → Option α) → Option α := Classical.choose impl_trim_L0.ex α
theorem impl_trim_L0.eq : @impl_trim_L0 = @impl_trim_L0.b := funext fun α => congrFun (Classical.choose_spec impl_trim_L0.ex) α
theorem impl_trim_L0.zero {α : Type} (N : Nat) (v1297 : List Int) (k0 : List Int → Option α) : impl_trim_L0 N 0 v1297 k0 = none := by rw [impl_trim_L0.eq]; rfl
theorem impl_trim_L0.succ {α : Type} (N n : Nat) (v1297 : List Int) (k0 : List Int → Option α) : impl_trim_L0 N (n + 1) v1297 k0 = impl_trim_L0r N (fun y0 => impl_trim_L0 N n y0 k0) k0 v1297 := by rw [impl_trim_L0.eq]; rfl
/-- loop.example/pinfold/impl.trim -/
noncomputable def impl_trim.b {α : Type} (N : Nat) (a1296 : List Int) (k0 : List Int → Option α) : Option α :=
  impl_trim_L0 N N a1296
    (fun x1307 =>
      k0 x1307)
theorem impl_trim.ex : ∃ f : ((α : Type) → Nat → List Int → (List Int → Option α) → Option α), f = fun α => @impl_trim.b α := ⟨_, rfl⟩
noncomputable def impl_trim {α : Type} : Nat → List Int → (List Int → Option α) → Option α := Classical.choose impl_trim.ex α
theorem impl_trim.eq : @impl_trim = @impl_trim.b := funext fun α => congrFun (Classical.choose_spec impl_trim.ex) α

noncomputable def impl_natShift_J10.b {α : Type} (N : Nat) (v1267 : List Int) (v1268 : Int) (v1269 : Int) (v1270 : Int) (v1271 : Int) (v1272 : Int) (v1273 : List Int) (k0 : List Int → Int → Int → Int → Int → List Int → Option α) : Option α :=
  let x1274 := IntKind.i64.wrap (v1268 + v1270)
  let x1275 := (IntKind.i64.wrap (x1274 + (1 : Int)))
  let x1276 := ((v1267.length : Nat) : Int)
  let x1277 := decide (x1275 < x1276)
  bif x1277 then
    bif (decide (v1270 < (0 : Int))) then
      none
    else
      bif decide (v1270.toNat < v1273.length) then
        match v1273[v1270.toNat]? with
        | some x1278 =>
          let x1279 := IntKind.i64.wrap (v1268 + v1270)
          let x1280 := (IntKind.i64.wrap (x1279 + (1 : Int)))
          bif (decide (x1280 < (0 : Int))) then
            none
          else
            match v1267[x1280.toNat]? with
            | some x1281 =>
              let x1282 := (IntKind.i64.wrap ((16 : Int) - v1269))
              bif (decide (x1282 < (0 : Int))) then
                none
              else
                let x1283 := shlI .i64 x1281 x1282
                let x1284 := (bitI .and .i64 x1283 (65535 : Int))
                let x1285 := bitI .or .i64 x1278 x1284
                bif (decide (v1270 < (0 : Int))) then
                  none
                else
                  bif decide (v1270.toNat < v1273.length) then
                    match v1273[v1270.toNat]? with
                    | some x1286 =>
                      let x1287 := v1273.set v1270.toNat x1285
                      k0 v1267 v1268 v1269 v1271 v1272 x1287
                    | none => none
                  else
                    none
            | none => none
        | none => none
      else
        none
  else
    k0 v1267 v1268 v1269 v1271 v1272 v1273
theorem impl_natShift_J10.ex : ∃ f : ((α : Type) → Nat → List Int → Int → Int → Int → Int → Int → List Int → (List Int → Int → Int → Int → Int → List Int → Option α) → Option α), f = fun α => @impl_natShift_J10.b α := ⟨_, rfl⟩
noncomputable def impl_natShift_J10 {α : Type} : Nat → List Int → Int → Int → Int → Int → Int → List Int → (List Int → Int → Int → Int → Int → List Int → Option α) → Option α := Classical.choose impl_natShift_J10.ex α
theorem impl_natShift_J10.eq : @impl_natShift_J10 = @impl_natShift_J10.b := funext fun α => congrFun (Classical.choose_spec impl_natShift_J10.ex) α
noncomputable def impl_natShift_L0r {α : Type} (N : Nat) (next : List Int → Int → Int → Int → Int → List Int → Option α) (k0 : List Int → Option α) (v1256 : List Int) (v1257 : Int) (v1258 : Int) (v1259 : Int) (v1260 : Int) (v1261 : List Int) : Option α :=
  let x1262 := decide (v1260 < v1259)
  bif x1262 then
    bif (decide (v1260 < (0 : Int))) then
      none
    else
      bif decide (v1260.toNat < v1261.length) then
        match v1261[v1260.toNat]? with
        | some x1263 =>
          bif (decide (v1258 < (0 : Int))) then
            none
          else
            let x1264 := shrI .i64 x1263 v1258
            bif (decide (v1260 < (0 : Int))) then
              none
            else
              bif decide (v1260.toNat < v1261.length) then
                match v1261[v1260.toNat]? with
                | some x1265 =>
                  let x1266 := v1261.set v1260.toNat x1264
                  impl_natShift_J10 N v1256 v1257 v1258 v1260 v1259 v1260 x1266
                    (fun x1288 x1289 x1290 x1291 x1292 x1293 =>
                      let x1294 := (IntKind.i64.wrap (x1292 + (1 : Int)))
                      next x1288 x1289 x1290 x1291 x1294 x1293)
                | none => none
              else
                none
        | none => none
      else
        none
  else
    k0 v1261
noncomputable def impl_natShift_L0.b {α : Type} (N n : Nat) (v1256 : List Int) (v1257 : Int) (v1258 : Int) (v1259 : Int) (v1260 : Int) (v1261 : List Int) (k0 : List Int → Option α) : Option α :=
  Nat.rec (motive := fun _ => List Int → Int → Int → Int → Int → List Int → Option α) (fun _ _ _ _ _ _ => none) (fun _ next => impl_natShift_L0r N next k0) n v1256 v1257 v1258 v1259 v1260 v1261
theorem impl_natShift_L0.ex : ∃ f : ((α : Type) → Nat → Nat → List Int → Int → Int → Int → Int → List Int → (List Int → Option α) → Option α), f = fun α => @impl_natShift_L0.b α := ⟨_, rfl⟩
noncomputable def impl_natShift_L0 {α : Type} : Nat → Nat → List Int → Int → Int → Int → Int → List Int → (List Int → Option α) → Option α := Classical.choose impl_natShift_L0.ex α
theorem impl_natShift_L0.eq : @impl_natShift_L0 = @impl_natShift_L0.b := funext fun α => congrFun (Classical.choose_spec impl_natShift_L0.ex) α
theorem impl_natShift_L0.zero {α : Type} (N : Nat) (v1256 : List Int) (v1257 : Int) (v1258 : Int) (v1259 : Int) (v1260 : Int) (v1261 : List Int) (k0 : List Int → Option α) : impl_natShift_L0 N 0 v1256 v1257 v1258 v1259 v1260 v1261 k0 = none := by rw [impl_natShift_L0.eq]; rfl
theorem impl_natShift_L0.succ {α : Type} (N n : Nat) (v1256 : List Int) (v1257 : Int) (v1258 : Int) (v1259 : Int) (v1260 : Int) (v1261 : List Int) (k0 : List Int → Option α) : impl_natShift_L0 N (n + 1) v1256 v1257 v1258 v1259 v1260 v1261 k0 = impl_natShift_L0r N (fun y0 y1 y2 y3 y4 y5 => impl_natShift_L0 N n y0 y1 y2 y3 y4 y5 k0) k0 v1256 v1257 v1258 v1259 v1260 v1261 := by rw [impl_natShift_L0.eq]; rfl
noncomputable def impl_natShift_L2r {α : Type} (N : Nat) (next : Int → List Int → Int → Int → List Int → Option α) (k0 : List Int → Option α) (v1315 : Int) (v1316 : List Int) (v1317 : Int) (v1318 : Int) (v1319 : List Int) : Option α :=
  let x1320 := decide (v1318 < v1317)
  bif x1320 then
    bif (decide (v1318 < (0 : Int))) then
      none
    else
      match v1316[v1318.toNat]? with
      | some x1321 =>
        let x1322 := (Int.tmod v1315 (16 : Int))
        bif (decide (x1322 < (0 : Int))) then
          none
        else
          let x1323 := shlI .i64 x1321 x1322
          let x1324 := (IntKind.i64.wrap (Int.tdiv v1315 (16 : Int)))
          let x1325 := IntKind.i64.wrap (x1324 + v1318)
          bif (decide (x1325 < (0 : Int))) then
            none
          else
            bif decide (x1325.toNat < v1319.length) then
              match v1319[x1325.toNat]? with
              | some x1326 =>
                let x1327 := (bitI .and .i64 x1323 (65535 : Int))
                let x1328 := bitI .or .i64 x1326 x1327
                bif (decide (x1325 < (0 : Int))) then
                  none
                else
                  bif decide (x1325.toNat < v1319.length) then
                    match v1319[x1325.toNat]? with
                    | some x1329 =>
                      let x1330 := v1319.set x1325.toNat x1328
                      let x1331 := (IntKind.i64.wrap (Int.tdiv v1315 (16 : Int)))
                      let x1332 := IntKind.i64.wrap (x1331 + v1318)
                      let x1333 := (IntKind.i64.wrap (x1332 + (1 : Int)))
                      let x1334 := (shrI .i64 x1323 (16 : Int))
                      bif (decide (x1333 < (0 : Int))) then
                        none
                      else
                        bif decide (x1333.toNat < x1330.length) then
                          match x1330[x1333.toNat]? with
                          | some x1335 =>
                            let x1336 := x1330.set x1333.toNat x1334
                            let x1337 := (IntKind.i64.wrap (v1318 + (1 : Int)))
                            next v1315 v1316 v1317 x1337 x1336
                          | none => none
                        else
                          none
                    | none => none
                  else
                    none
              | none => none
            else
              none
      | none => none
  else
    k0 v1319
noncomputable def impl_natShift_L2.b {α : Type} (N n : Nat) (v1315 : Int) (v1316 : List Int) (v1317 : Int) (v1318 : Int) (v1319 : List Int) (k0 : List Int → Option α) : Option α :=
  Nat.rec (motive := fun _ => Int → List Int → Int → Int → List Int → Option α) (fun _ _ _ _ _ => none) (fun _ next => impl_natShift_L2r N next k0) n v1315 v1316 v1317 v1318 v1319
theorem impl_natShift_L2.ex : ∃ f : ((α : Type) → Nat → Nat → Int → List Int → Int → Int → List Int → (List Int → Option α) → Option α), f = fun α => @impl_natShift_L2.b α := ⟨_, rfl⟩
noncomputable def impl_natShift_L2 {α : Type} : Nat → Nat → Int → List Int → Int → Int → List Int → (List Int → Option α) → Option α := Classical.choose impl_natShift_L2.ex α
theorem impl_natShift_L2.eq : @impl_natShift_L2 = @impl_natShift_L2.b := funext fun α => congrFun (Classical.choose_spec impl_natShift_L2.ex) α
theorem impl_natShift_L2.zero {α : Type} (N : Nat) (v1315 : Int) (v1316 : List Int) (v1317 : Int) (v1318 : Int) (v1319 : List Int) (k0 : List Int → Option α) : impl_natShift_L2 N 0 v1315 v1316 v1317 v1318 v1319 k0 = none := by rw [impl_natShift_L2.eq]; rfl
theorem impl_natShift_L2.succ {α : Type} (N n : Nat) (v1315 : Int) (v1316 : List Int) (v1317 : Int) (v1318 : Int) (v1319 : List Int) (k0 : List Int → Option α) : impl_natShift_L2 N (n + 1) v1315 v1316 v1317 v1318 v1319 k0 = impl_natShift_L2r N (fun y0 y1 y2 y3 y4 => impl_natShift_L2 N n y0 y1 y2 y3 y4 k0) k0 v1315 v1316 v1317 v1318 v1319 := by rw [impl_natShift_L2.eq]; rfl
/-- loop.example/pinfold/impl.natShift -/
noncomputable def impl_natShift.b {α : Type} (N : Nat) (a1244 : List Int) (a1245 : Int) (k0 : List Int → Option α) : Option α :=
  let x1246 := (decide (a1245 < (0 : Int)))
  bif x1246 then
    let x1247 := IntKind.i64.wrap (0 - a1245)
    let x1248 := (IntKind.i64.wrap (Int.tdiv x1247 (16 : Int)))
    let x1249 := IntKind.i64.wrap (0 - a1245)
    let x1250 := (Int.tmod x1249 (16 : Int))
    let x1251 := ((a1244.length : Nat) : Int)
    let x1252 := decide (x1251 ≤ x1248)
    bif x1252 then
      k0 []
    else
      bif (decide ((0 : Int) ≤ x1248)) then
        bif (decide (x1248 ≤ ((a1244.length : Nat) : Int))) then
          let x1253 := a1244.drop x1248.toNat
          slices_Clone_int_int N x1253
            (fun x1254 =>
              let x1255 := ((x1254.length : Nat) : Int)
              impl_natShift_L0 N N a1244 x1248 x1250 x1255 (0 : Int) x1254
                (fun x1295 =>
                  impl_trim N x1295
                    (fun x1308 =>
                      k0 x1308)))
        else
          none
      else
        none
  else
    let x1309 := (IntKind.i64.wrap (Int.tdiv a1245 (16 : Int)))
    let x1310 := ((a1244.length : Nat) : Int)
    let x1311 := IntKind.i64.wrap (x1309 + x1310)
    let x1312 := (IntKind.i64.wrap (x1311 + (1 : Int)))
    bif (decide ((0 : Int) ≤ x1312)) then
      bif decide (x1312 ≤ x1312) then
        bif (decide (x1312 ≤ ((8796093022208 : Nat) : Int))) then
          let x1313 := (List.replicate x1312.toNat (0 : Int))
          let x1314 := ((a1244.length : Nat) : Int)
          impl_natShift_L2 N N a1245 a1244 x1314 (0 : Int) x1313
            (fun x1338 =>
              impl_trim N x1338
                (fun x1339 =>
                  k0 x1339))
        else
          none
      else
        none
    else
      none
theorem impl_natShift.ex : ∃ f : ((α : Type) → Nat → List Int → Int → (List Int → Option α) → Option α), f = fun α => @impl_natShift.b α := ⟨_, rfl⟩
noncomputable def impl_natShift {α : Type} : Nat → List Int → Int → (List Int → Option α) → Option α := Classical.choose impl_natShift.ex α
theorem impl_natShift.eq : @impl_natShift = @impl_natShift.b := funext fun α => congrFun (Classical.choose_spec impl_natShift.ex) α

/-- loop.example/pinfold/impl.whole -/
noncomputable def impl_whole.b {α : Type} (N : Nat) (a1341 : Bool) (a1342 : List Int) (k0 : Bool → List Int → List Int → Option α) : Option α :=
  bif a1341 then
    let x1343 := ((a1342.length : Nat) : Int)
    let x1344 := (decide ((0 : Int) < x1343))
    let x1345 := [(1 : Int)]
    k0 x1344 a1342 x1345
  else
    let x1346 := [(1 : Int)]
    k0 false a1342 x1346
theorem impl_whole.ex : ∃ f : ((α : Type) → Nat → Bool → List Int → (Bool → List Int → List Int → Option α) → Option α), f = fun α => @impl_whole.b α := ⟨_, rfl⟩
noncomputable def impl_whole {α : Type} : Nat → Bool → List Int → (Bool → List Int → List Int → Option α) → Option α := Classical.choose impl_whole.ex α
theorem impl_whole.eq : @impl_whole = @impl_whole.b := funext fun α => congrFun (Classical.choose_spec impl_whole.ex) α

noncomputable def impl_natCmp_L0r {α : Type} (N : Nat) (next : List Int → List Int → Int → Option α) (k0 : Int → Option α) (k1 : Option α) (v1433 : List Int) (v1434 : List Int) (v1435 : Int) : Option α :=
  let x1436 := (decide ((0 : Int) ≤ v1435))
  bif x1436 then
    bif (decide (v1435 < (0 : Int))) then
      none
    else
      match v1433[v1435.toNat]? with
      | some x1437 =>
        bif (decide (v1435 < (0 : Int))) then
          none
        else
          match v1434[v1435.toNat]? with
          | some x1438 =>
            let x1439 := !(decide (x1437 = x1438))
            bif x1439 then
              bif (decide (v1435 < (0 : Int))) then
                none
              else
                match v1433[v1435.toNat]? with
                | some x1440 =>
                  bif (decide (v1435 < (0 : Int))) then
                    none
                  else
                    match v1434[v1435.toNat]? with
                    | some x1441 =>
                      let x1442 := IntKind.i64.wrap (x1440 - x1441)
                      let x1443 := (minI (1 : Int) x1442)
                      let x1444 := (maxI (-1 : Int) x1443)
                      k0 x1444
                    | none => none
                | none => none
            else
              let x1445 := (IntKind.i64.wrap (v1435 - (1 : Int)))
              next v1433 v1434 x1445
          | none => none
      | none => none
  else
    k1
noncomputable def impl_natCmp_L0.b {α : Type} (N n : Nat) (v1433 : List Int) (v1434 : List Int) (v1435 : Int) (k0 : Int → Option α) (k1 : Option α) : Option α :=
  Nat.rec (motive := fun _ => List Int → List Int → Int → Option α) (fun _ _ _ => none) (fun _ next => impl_natCmp_L0r N next k0 k1) n v1433 v1434 v1435
theorem impl_natCmp_L0.ex : ∃ f : ((α : Type) → Nat → Nat → List Int → List Int → Int → (Int → Option α) → (Option α) → Option α), f = fun α => @impl_natCmp_L0.b α := ⟨_, rfl⟩
noncomputable def impl_natCmp_L0 {α : Type} : Nat → Nat → List Int → List Int → Int → (Int → Option α) → (Option α) → Option α := Classical.choose impl_natCmp_L0.ex α
theorem impl_natCmp_L0.eq : @impl_natCmp_L0 = @impl_natCmp_L0.b := funext fun α => congrFun (Classical.choose_spec impl_natCmp_L0.ex) α
theorem impl_natCmp_L0.zero {α : Type} (N : Nat) (v1433 : List Int) (v1434 : List Int) (v1435 : Int) (k0 : Int → Option α) (k1 : Option α) : impl_natCmp_L0 N 0 v1433 v1434 v1435 k0 k1 = none := by rw [impl_natCmp_L0.eq]; rfl
theorem impl_natCmp_L0.succ {α : Type} (N n : Nat) (v1433 : List Int) (v1434 : List Int) (v1435 : Int) (k0 : Int → Option α) (k1 : Option α) : impl_natCmp_L0 N (n + 1) v1433 v1434 v1435 k0 k1 = impl_natCmp_L0r N (fun y0 y1 y2 => impl_natCmp_L0 N n y0 y1 y2 k0 k1) k0 k1 v1433 v1434 v1435 := by rw [impl_natCmp_L0.eq]; rfl
/-- loop.example/pinfold/impl.natCmp -/
noncomputable def impl_natCmp.b {α : Type} (N : Nat) (a1421 : List Int) (a1422 : List Int) (k0 : Int → Option α) : Option α :=
  let x1423 := ((a1421.length : Nat) : Int)
  let x1424 := ((a1422.length : Nat) : Int)
  let x1425 := !(decide (x1423 = x1424))
  bif x1425 then
    let x1426 := ((a1421.length : Nat) : Int)
    let x1427 := ((a1422.length : Nat) : Int)
    let x1428 := IntKind.i64.wrap (x1426 - x1427)
    let x1429 := (minI (1 : Int) x1428)
    let x1430 := (maxI (-1 : Int) x1429)
    k0 x1430
  else
    let x1431 := ((a1421.length : Nat) : Int)
    let x1432 := (IntKind.i64.wrap (x1431 - (1 : Int)))
    impl_natCmp_L0 N N a1421 a1422 x1432
      (fun x1446 =>
        k0 x1446)
      (
        k0 (0 : Int))
theorem impl_natCmp.ex : ∃ f : ((α : Type) → Nat → List Int → List Int → (Int → Option α) → Option α), f = fun α => @impl_natCmp.b α := ⟨_, rfl⟩
noncomputable def impl_natCmp {α : Type} : Nat → List Int → List Int → (Int → Option α) → Option α := Classical.choose impl_natCmp.ex α
theorem impl_natCmp.eq : @impl_natCmp = @impl_natCmp.b := funext fun α => congrFun (Classical.choose_spec impl_natCmp.ex) α

noncomputable def math_bits_Len64_J1.b {α : Type} (N : Nat) (v1482 : Int) (v1483 : Int) (k0 : Int → Int → Option α) : Option α :=
  let x1484 := (decide ((4294967296 : Int) ≤ v1482))
  bif x1484 then
    let x1485 := (shrI .u64 v1482 (32 : Int))
    k0 x1485 (32 : Int)
  else
    k0 v1482 v1483
theorem math_bits_Len64_J1.ex : ∃ f : ((α : Type) → Nat → Int → Int → (Int → Int → Option α) → Option α), f = fun α => @math_bits_Len64_J1.b α := ⟨_, rfl⟩
noncomputable def math_bits_Len64_J1 {α : Type} : Nat → Int → Int → (Int → Int → Option α) → Option α := Classical.choose math_bits_Len64_J1.ex α
theorem math_bits_Len64_J1.eq : @math_bits_Len64_J1 = @math_bits_Len64_J1.b := funext fun α => congrFun (Classical.choose_spec math_bits_Len64_J1.ex) α
noncomputable def math_bits_Len64_J4.b {α : Type} (N : Nat) (v1488 : Int) (v1489 : Int) (k0 : Int → Int → Option α) : Option α :=
  let x1490 := (decide ((65536 : Int) ≤ v1488))
  bif x1490 then
    let x1491 := (shrI .u64 v1488 (16 : Int))
    let x1492 := (IntKind.i64.wrap (v1489 + (16 : Int)))
    k0 x1491 x1492
  else
    k0 v1488 v1489
theorem math_bits_Len64_J4.ex : ∃ f : ((α : Type) → Nat → Int → Int → (Int → Int → Option α) → Option α), f = fun α => @math_bits_Len64_J4.b α := ⟨_, rfl⟩
noncomputable def math_bits_Len64_J4 {α : Type} : Nat → Int → Int → (Int → Int → Option α) → Option α := Classical.choose math_bits_Len64_J4.ex α
theorem math_bits_Len64_J4.eq : @math_bits_Len64_J4 = @math_bits_Len64_J4.b := funext fun α => congrFun (Classical.choose_spec math_bits_Len64_J4.ex) α
noncomputable def math_bits_Len64_J7.b {α : Type} (N : Nat) (v1495 : Int) (v1496 : Int) (k0 : Int → Int → Option α) : Option α :=
  let x1497 := (decide ((256 : Int) ≤ v1495))
  bif x1497 then
    let x1498 := (shrI .u64 v1495 (8 : Int))
    let x1499 := (IntKind.i64.wrap (v1496 + (8 : Int)))
    k0 x1498 x1499
  else
    k0 v1495 v1496
theorem math_bits_Len64_J7.ex : ∃ f : ((α : Type) → Nat → Int → Int → (Int → Int → Option α) → Option α), f = fun α => @math_bits_Len64_J7.b α := ⟨_, rfl⟩
noncomputable def math_bits_Len64_J7 {α : Type} : Nat → Int → Int → (Int → Int → Option α) → Option α := Classical.choose math_bits_Len64_J7.ex α
theorem math_bits_Len64_J7.eq : @math_bits_Len64_J7 = @math_bits_Len64_J7.b := funext fun α => congrFun (Classical.choose_spec math_bits_Len64_J7.ex) α
/-- math/bits.Len64 -/
noncomputable def math_bits_Len64.b {α : Type} (N : Nat) (a1481 : Int) (k0 : Int → Option α) : Option α :=
  math_bits_Len64_J1 N a1481 (0 : Int)
    (fun x1486 x1487 =>
      math_bits_Len64_J4 N x1486 x1487
        (fun x1493 x1494 =>
          math_bits_Len64_J7 N x1493 x1494
            (fun x1500 x1501 =>
              let x1502 := IntKind.u8.wrap x1500
              bif (decide (x1502 < (0 : Int))) then
                none
              else
                match ((⟨#[0, 1, 2, 2, 3, 3, 3, 3, 4, 4, 4, 4, 4, 4, 4, 4, 5, 5, 5, 5, 5, 5, 5, 5, 5, 5, 5, 5, 5, 5, 5, 5, 6, 6, 6, 6, 6, 6, 6, 6, 6, 6, 6, 6, 6, 6, 6, 6, 6, 6, 6, 6, 6, 6, 6, 6, 6, 6, 6, 6, 6, 6, 6, 6, 7, 7, 7, 7, 7, 7, 7, 7, 7, 7, 7, 7, 7, 7, 7, 7, 7, 7, 7, 7, 7, 7, 7, 7, 7, 7, 7, 7, 7, 7, 7, 7, 7, 7, 7, 7, 7, 7, 7, 7, 7, 7, 7, 7, 7, 7, 7, 7, 7, 7, 7, 7, 7, 7, 7, 7, 7, 7, 7, 7, 7, 7, 7, 7, 8, 8, 8, 8, 8, 8, 8, 8, 8, 8, 8, 8, 8, 8, 8, 8, 8, 8, 8, 8, 8, 8, 8, 8, 8, 8, 8, 8, 8, 8, 8, 8, 8, 8, 8, 8, 8, 8, 8, 8, 8, 8, 8, 8, 8, 8, 8, 8, 8, 8, 8, 8, 8, 8, 8, 8, 8, 8, 8, 8, 8, 8, 8, 8, 8, 8, 8, 8, 8, 8, 8, 8, 8, 8, 8, 8, 8, 8, 8, 8, 8, 8, 8, 8, 8, 8, 8, 8, 8, 8, 8, 8, 8, 8, 8, 8, 8, 8, 8, 8, 8, 8, 8, 8, 8, 8, 8, 8, 8, 8, 8, 8, 8, 8, 8, 8, 8, 8, 8, 8, 8, 8, 8, 8, 8, 8, 8, 8]⟩ : ByteArray)[x1502.toNat]? : Option UInt8) with
                | some x1503 =>
                  let x1504 := ((x1503.toNat : Nat) : Int)
                  let x1505 := IntKind.i64.wrap x1504
                  let x1506 := IntKind.i64.wrap (x1501 + x1505)
                  k0 x1506
                | none => none)))
theorem math_bits_Len64.ex : ∃ f : ((α : Type) → Nat → Int → (Int → Option α) → Option α), f = fun α => @math_bits_Len64.b α := ⟨_, rfl⟩
noncomputable def math_bits_Len64 {α : Type} : Nat → Int → (Int → Option α) → Option α := Classical.choose math_bits_Len64.ex α
theorem math_bits_Len64.eq : @math_bits_Len64 = @math_bits_Len64.b := funext fun α => congrFun (Classical.choose_spec math_bits_Len64.ex) α

/-- math/bits.Len -/
noncomputable def math_bits_Len.b {α : Type} (N : Nat) (a1480 : Int) (k0 : Int → Option α) : Option α :=
  math_bits_Len64 N a1480
    (fun x1507 =>
      k0 x1507)
theorem math_bits_Len.ex : ∃ f : ((α : Type) → Nat → Int → (Int → Option α) → Option α), f = fun α => @math_bits_Len.b α := ⟨_, rfl⟩
noncomputable def math_bits_Len {α : Type} : Nat → Int → (Int → Option α) → Option α := Classical.choose math_bits_Len.ex α
theorem math_bits_Len.eq : @math_bits_Len = @math_bits_Len.b := funext fun α => congrFun (Classical.choose_spec math_bits_Len.ex) α

noncomputable def impl_natDiv_L0r {α : Type} (N : Nat) (next : List Int → List Int → Int → Int → List Int → Option α) (k0 : Int → List Int → Option α) (v1455 : List Int) (v1456 : List Int) (v1457 : Int) (v1458 : Int) (v1459 : List Int) : Option α :=
  let x1460 := (decide ((0 : Int) ≤ v1458))
  bif x1460 then
    let x1461 := (shlI .i64 v1457 (16 : Int))
    bif (decide (v1458 < (0 : Int))) then
      none
    else
      match v1455[v1458.toNat]? with
      | some x1462 =>
        let x1463 := bitI .or .i64 x1461 x1462
        match v1456[0]? with
        | some x1464 =>
          bif (decide (x1464 = (0 : Int))) then
            none
          else
            let x1465 := IntKind.i64.wrap (Int.tdiv x1463 x1464)
            match v1456[0]? with
            | some x1466 =>
              bif (decide (x1466 = (0 : Int))) then
                none
              else
                let x1467 := Int.tmod x1463 x1466
                bif (decide (v1458 < (0 : Int))) then
                  none
                else
                  bif decide (v1458.toNat < v1459.length) then
                    match v1459[v1458.toNat]? with
                    | some x1468 =>
                      let x1469 := v1459.set v1458.toNat x1465
                      let x1470 := (IntKind.i64.wrap (v1458 - (1 : Int)))
                      next v1455 v1456 x1467 x1470 x1469
                    | none => none
                  else
                    none
            | none => none
        | none => none
      | none => none
  else
    k0 v1457 v1459
noncomputable def impl_natDiv_L0.b {α : Type} (N n : Nat) (v1455 : List Int) (v1456 : List Int) (v1457 : Int) (v1458 : Int) (v1459 : List Int) (k0 : Int → List Int → Option α) : Option α :=
  Nat.rec (motive := fun _ => List Int → List Int → Int → Int → List Int → Option α) (fun _ _ _ _ _ => none) (fun _ next => impl_natDiv_L0r N next k0) n v1455 v1456 v1457 v1458 v1459
theorem impl_natDiv_L0.ex : ∃ f : ((α : Type) → Nat → Nat → List Int → List Int → Int → Int → List Int → (Int → List Int → Option α) → Option α), f = fun α => @impl_natDiv_L0.b α := ⟨_, rfl⟩
noncomputable def impl_natDiv_L0 {α : Type} : Nat → Nat → List Int → List Int → Int → Int → List Int → (Int → List Int → Option α) → Option α := Classical.choose impl_natDiv_L0.ex α
theorem impl_natDiv_L0.eq : @impl_natDiv_L0 = @impl_natDiv_L0.b := funext fun α => congrFun (Classical.choose_spec impl_natDiv_L0.ex) α
theorem impl_natDiv_L0.zero {α : Type} (N : Nat) (v1455 : List Int) (v1456 : List Int) (v1457 : Int) (v1458 : Int) (v1459 : List Int) (k0 : Int → List Int → Option α) : impl_natDiv_L0 N 0 v1455 v1456 v1457 v1458 v1459 k0 = none := by rw [impl_natDiv_L0.eq]; rfl
theorem impl_natDiv_L0.succ {α : Type} (N n : Nat) (v1455 : List Int) (v1456 : List Int) (v1457 : Int) (v1458 : Int) (v1459 : List Int) (k0 : Int → List Int → Option α) : impl_natDiv_L0 N (n + 1) v1455 v1456 v1457 v1458 v1459 k0 = impl_natDiv_L0r N (fun y0 y1 y2 y3 y4 => impl_natDiv_L0 N n y0 y1 y2 y3 y4 k0) k0 v1455 v1456 v1457 v1458 v1459 := by rw [impl_natDiv_L0.eq]; rfl
noncomputable def impl_natDiv_L2r {α : Type} (N : Nat) (next : List Int → Int → List Int → Int → List Int → Option α) (k0 : Int → List Int → Int → List Int → Option α) (v1516 : List Int) (v1517 : Int) (v1518 : List Int) (v1519 : Int) (v1520 : List Int) : Option α :=
  let x1521 := ((v1520.length : Nat) : Int)
  let x1522 := ((v1516.length : Nat) : Int)
  let x1523 := (IntKind.i64.wrap (x1522 + (1 : Int)))
  let x1524 := decide (x1521 < x1523)
  bif x1524 then
    let x1525 := [(0 : Int)]
    bif decide (v1520.length + x1525.length ≤ 8796093022208) then
      let x1526 := v1520 ++ x1525
      next v1516 v1517 v1518 v1519 x1526
    else
      none
  else
    k0 v1517 v1518 v1519 v1520
noncomputable def impl_natDiv_L2.b {α : Type} (N n : Nat) (v1516 : List Int) (v1517 : Int) (v1518 : List Int) (v1519 : Int) (v1520 : List Int) (k0 : Int → List Int → Int → List Int → Option α) : Option α :=
  Nat.rec (motive := fun _ => List Int → Int → List Int → Int → List Int → Option α) (fun _ _ _ _ _ => none) (fun _ next => impl_natDiv_L2r N next k0) n v1516 v1517 v1518 v1519 v1520
theorem impl_natDiv_L2.ex : ∃ f : ((α : Type) → Nat → Nat → List Int → Int → List Int → Int → List Int → (Int → List Int → Int → List Int → Option α) → Option α), f = fun α => @impl_natDiv_L2.b α := ⟨_, rfl⟩
noncomputable def impl_natDiv_L2 {α : Type} : Nat → Nat → List Int → Int → List Int → Int → List Int → (Int → List Int → Int → List Int → Option α) → Option α := Classical.choose impl_natDiv_L2.ex α
theorem impl_natDiv_L2.eq : @impl_natDiv_L2 = @impl_natDiv_L2.b := funext fun α => congrFun (Classical.choose_spec impl_natDiv_L2.ex) α
theorem impl_natDiv_L2.zero {α : Type} (N : Nat) (v1516 : List Int) (v1517 : Int) (v1518 : List Int) (v1519 : Int) (v1520 : List Int) (k0 : Int → List Int → Int → List Int → Option α) : impl_natDiv_L2 N 0 v1516 v1517 v1518 v1519 v1520 k0 = none := by rw [impl_natDiv_L2.eq]; rfl
theorem impl_natDiv_L2.succ {α : Type} (N n : Nat) (v1516 : List Int) (v1517 : Int) (v1518 : List Int) (v1519 : Int) (v1520 : List Int) (k0 : Int → List Int → Int → List Int → Option α) : impl_natDiv_L2 N (n + 1) v1516 v1517 v1518 v1519 v1520 k0 = impl_natDiv_L2r N (fun y0 y1 y2 y3 y4 => impl_natDiv_L2 N n y0 y1 y2 y3 y4 k0) k0 v1516 v1517 v1518 v1519 v1520 := by rw [impl_natDiv_L2.eq]; rfl
noncomputable def impl_natDiv_L6r {α : Type} (N : Nat) (next : Int → List Int → Int → Int → Int → Int → List Int → List Int → Option α) (k0 : Int → List Int → Int → Int → Int → List Int → List Int → Option α) (v1557 : Int) (v1558 : List Int) (v1559 : Int) (v1560 : Int) (v1561 : Int) (v1562 : Int) (v1563 : List Int) (v1564 : List Int) : Option α :=
  let x1565 := (decide ((65536 : Int) ≤ v1561))
  bif x1565 then
    let x1566 := (IntKind.i64.wrap (v1561 - (1 : Int)))
    let x1567 := (IntKind.i64.wrap (v1559 - (1 : Int)))
    bif (decide (x1567 < (0 : Int))) then
      none
    else
      match v1558[x1567.toNat]? with
      | some x1568 =>
        let x1569 := IntKind.i64.wrap (v1562 + x1568)
        let x1570 := (decide ((65536 : Int) ≤ x1569))
        bif x1570 then
          k0 v1557 v1558 v1559 v1560 x1566 v1563 v1564
        else
          next v1557 v1558 v1559 v1560 x1566 x1569 v1563 v1564
      | none => none
  else
    let x1571 := (IntKind.i64.wrap (v1559 - (2 : Int)))
    bif (decide (x1571 < (0 : Int))) then
      none
    else
      match v1558[x1571.toNat]? with
      | some x1572 =>
        let x1573 := IntKind.i64.wrap (v1561 * x1572)
        let x1574 := (shlI .i64 v1562 (16 : Int))
        let x1575 := IntKind.i64.wrap (v1560 + v1559)
        let x1576 := (IntKind.i64.wrap (x1575 - (2 : Int)))
        bif (decide (x1576 < (0 : Int))) then
          none
        else
          bif decide (x1576.toNat < v1563.length) then
            match v1563[x1576.toNat]? with
            | some x1577 =>
              let x1578 := bitI .or .i64 x1574 x1577
              let x1579 := decide (x1578 < x1573)
              bif x1579 then
                let x1580 := (IntKind.i64.wrap (v1561 - (1 : Int)))
                let x1581 := (IntKind.i64.wrap (v1559 - (1 : Int)))
                bif (decide (x1581 < (0 : Int))) then
                  none
                else
                  match v1558[x1581.toNat]? with
                  | some x1582 =>
                    let x1583 := IntKind.i64.wrap (v1562 + x1582)
                    let x1584 := (decide ((65536 : Int) ≤ x1583))
                    bif x1584 then
                      k0 v1557 v1558 v1559 v1560 x1580 v1563 v1564
                    else
                      next v1557 v1558 v1559 v1560 x1580 x1583 v1563 v1564
                  | none => none
              else
                k0 v1557 v1558 v1559 v1560 v1561 v1563 v1564
            | none => none
          else
            none
      | none => none
noncomputable def impl_natDiv_L6.b {α : Type} (N n : Nat) (v1557 : Int) (v1558 : List Int) (v1559 : Int) (v1560 : Int) (v1561 : Int) (v1562 : Int) (v1563 : List Int) (v1564 : List Int) (k0 : Int → List Int → Int → Int → Int → List Int → List Int → Option α) : Option α :=
  Nat.rec (motive := fun _ => Int → List Int → Int → Int → Int → Int → List Int → List Int → Option α) (fun _ _ _ _ _ _ _ _ => none) (fun _ next => impl_natDiv_L6r N next k0) n v1557 v1558 v1559 v1560 v1561 v1562 v1563 v1564
theorem impl_natDiv_L6.ex : ∃ f : ((α : Type) → Nat → Nat → Int → List Int → Int → Int → Int → Int → List Int → List Int → (Int → List Int → Int → Int → Int → List Int → List Int → Option α) → Option α), f = fun α => @impl_natDiv_L6.b α := ⟨_, rfl⟩
noncomputable def impl_natDiv_L6 {α : Type} : Nat → Nat → Int → List Int → Int → Int → Int → Int → List Int → List Int → (Int → List Int → Int → Int → Int → List Int → List Int → Option α) → Option α := Classical.choose impl_natDiv_L6.ex α
theorem impl_natDiv_L6.eq : @impl_natDiv_L6 = @impl_natDiv_L6.b := funext fun α => congrFun (Classical.choose_spec impl_natDiv_L6.ex) α
theorem impl_natDiv_L6.zero {α : Type} (N : Nat) (v1557 : Int) (v1558 : List Int) (v1559 : Int) (v1560 : Int) (v1561 : Int) (v1562 : Int) (v1563 : List Int) (v1564 : List Int) (k0 : Int → List Int → Int → Int → Int → List Int → List Int → Option α) : impl_natDiv_L6 N 0 v1557 v1558 v1559 v1560 v1561 v1562 v1563 v1564 k0 = none := by rw [impl_natDiv_L6.eq]; rfl
theorem impl_natDiv_L6.succ {α : Type} (N n : Nat) (v1557 : Int) (v1558 : List Int) (v1559 : Int) (v1560 : Int) (v1561 : Int) (v1562 : Int) (v1563 : List Int) (v1564 : List Int) (k0 : Int → List Int → Int → Int → Int → List Int → List Int → Option α) : impl_natDiv_L6 N (n + 1) v1557 v1558 v1559 v1560 v1561 v1562 v1563 v1564 k0 = impl_natDiv_L6r N (fun y0 y1 y2 y3 y4 y5 y6 y7 => impl_natDiv_L6 N n y0 y1 y2 y3 y4 y5 y6 y7 k0) k0 v1557 v1558 v1559 v1560 v1561 v1562 v1563 v1564 := by rw [impl_natDiv_L6.eq]; rfl
noncomputable def impl_natDiv_J34.b {α : Type} (N : Nat) (v1611 : Int) (v1612 : List Int) (v1613 : Int) (v1614 : Int) (v1615 : Int) (v1616 : Int) (v1617 : Int) (v1618 : Int) (v1619 : List Int) (v1620 : Int) (v1621 : Int) (v1622 : List Int) (v1623 : List Int) (k0 : Int → List Int → Int → Int → Int → Int → Int → Int → List Int → Int → Int → List Int → List Int → Option α) : Option α :=
  let x1624 := (decide (v1618 < (0 : Int)))
  bif x1624 then
    let x1625 := IntKind.i64.wrap (0 - v1618)
    let x1626 := (IntKind.i64.wrap (x1625 + (65536 : Int)))
    let x1627 := (IntKind.i64.wrap (x1626 - (1 : Int)))
    let x1628 := (IntKind.i64.wrap (Int.tdiv x1627 (65536 : Int)))
    let x1629 := (IntKind.i64.wrap (x1628 * (65536 : Int)))
    let x1630 := IntKind.i64.wrap (v1618 + x1629)
    k0 v1611 v1612 v1613 v1614 v1615 x1628 v1617 x1630 v1619 v1620 v1621 v1622 v1623
  else
    k0 v1611 v1612 v1613 v1614 v1615 v1616 v1617 v1618 v1619 v1620 v1621 v1622 v1623
theorem impl_natDiv_J34.ex : ∃ f : ((α : Type) → Nat → Int → List Int → Int → Int → Int → Int → Int → Int → List Int → Int → Int → List Int → List Int → (Int → List Int → Int → Int → Int → Int → Int → Int → List Int → Int → Int → List Int → List Int → Option α) → Option α), f = fun α => @impl_natDiv_J34.b α := ⟨_, rfl⟩
noncomputable def impl_natDiv_J34 {α : Type} : Nat → Int → List Int → Int → Int → Int → Int → Int → Int → List Int → Int → Int → List Int → List Int → (Int → List Int → Int → Int → Int → Int → Int → Int → List Int → Int → Int → List Int → List Int → Option α) → Option α := Classical.choose impl_natDiv_J34.ex α
theorem impl_natDiv_J34.eq : @impl_natDiv_J34 = @impl_natDiv_J34.b := funext fun α => congrFun (Classical.choose_spec impl_natDiv_J34.ex) α
noncomputable def impl_natDiv_L8r {α : Type} (N : Nat) (next : Int → List Int → Int → Int → Int → Int → List Int → Int → Int → List Int → List Int → Option α) (k0 : Int → List Int → Int → Int → Int → Int → List Int → List Int → Option α) (v1593 : Int) (v1594 : List Int) (v1595 : Int) (v1596 : Int) (v1597 : Int) (v1598 : Int) (v1599 : List Int) (v1600 : Int) (v1601 : Int) (v1602 : List Int) (v1603 : List Int) : Option α :=
  let x1604 := decide (v1601 < v1600)
  bif x1604 then
    bif (decide (v1601 < (0 : Int))) then
      none
    else
      match v1599[v1601.toNat]? with
      | some x1605 =>
        let x1606 := IntKind.i64.wrap (v1596 + v1601)
        bif (decide (x1606 < (0 : Int))) then
          none
        else
          bif decide (x1606.toNat < v1602.length) then
            match v1602[x1606.toNat]? with
            | some x1607 =>
              let x1608 := IntKind.i64.wrap (x1607 - v1598)
              let x1609 := IntKind.i64.wrap (v1597 * x1605)
              let x1610 := IntKind.i64.wrap (x1608 - x1609)
              impl_natDiv_J34 N v1593 v1594 v1595 v1596 v1597 (0 : Int) v1601 x1610 v1599 v1600 v1601 v1602 v1603
                (fun x1631 x1632 x1633 x1634 x1635 x1636 x1637 x1638 x1639 x1640 x1641 x1642 x1643 =>
                  let x1644 := IntKind.i64.wrap (x1634 + x1637)
                  bif (decide (x1644 < (0 : Int))) then
                    none
                  else
                    bif decide (x1644.toNat < x1642.length) then
                      match x1642[x1644.toNat]? with
                      | some x1645 =>
                        let x1646 := x1642.set x1644.toNat x1638
                        let x1647 := (IntKind.i64.wrap (x1641 + (1 : Int)))
                        next x1631 x1632 x1633 x1634 x1635 x1636 x1639 x1640 x1647 x1646 x1643
                      | none => none
                    else
                      none)
            | none => none
          else
            none
      | none => none
  else
    k0 v1593 v1594 v1595 v1596 v1597 v1598 v1602 v1603
noncomputable def impl_natDiv_L8.b {α : Type} (N n : Nat) (v1593 : Int) (v1594 : List Int) (v1595 : Int) (v1596 : Int) (v1597 : Int) (v1598 : Int) (v1599 : List Int) (v1600 : Int) (v1601 : Int) (v1602 : List Int) (v1603 : List Int) (k0 : Int → List Int → Int → Int → Int → Int → List Int → List Int → Option α) : Option α :=
  Nat.rec (motive := fun _ => Int → List Int → Int → Int → Int → Int → List Int → Int → Int → List Int → List Int → Option α) (fun _ _ _ _ _ _ _ _ _ _ _ => none) (fun _ next => impl_natDiv_L8r N next k0) n v1593 v1594 v1595 v1596 v1597 v1598 v1599 v1600 v1601 v1602 v1603
theorem impl_natDiv_L8.ex : ∃ f : ((α : Type) → Nat → Nat → Int → List Int → Int → Int → Int → Int → List Int → Int → Int → List Int → List Int → (Int → List Int → Int → Int → Int → Int → List Int → List Int → Option α) → Option α), f = fun α => @impl_natDiv_L8.b α := ⟨_, rfl⟩
noncomputable def impl_natDiv_L8 {α : Type} : Nat → Nat → Int → List Int → Int → Int → Int → Int → List Int → Int → Int → List Int → List Int → (Int → List Int → Int → Int → Int → Int → List Int → List Int → Option α) → Option α := Classical.choose impl_natDiv_L8.ex α
theorem impl_natDiv_L8.eq : @impl_natDiv_L8 = @impl_natDiv_L8.b := funext fun α => congrFun (Classical.choose_spec impl_natDiv_L8.ex) α
theorem impl_natDiv_L8.zero {α : Type} (N : Nat) (v1593 : Int) (v1594 : List Int) (v1595 : Int) (v1596 : Int) (v1597 : Int) (v1598 : Int) (v1599 : List Int) (v1600 : Int) (v1601 : Int) (v1602 : List Int) (v1603 : List Int) (k0 : Int → List Int → Int → Int → Int → Int → List Int → List Int → Option α) : impl_natDiv_L8 N 0 v1593 v1594 v1595 v1596 v1597 v1598 v1599 v1600 v1601 v1602 v1603 k0 = none := by rw [impl_natDiv_L8.eq]; rfl
theorem impl_natDiv_L8.succ {α : Type} (N n : Nat) (v1593 : Int) (v1594 : List Int) (v1595 : Int) (v1596 : Int) (v1597 : Int) (v1598 : Int) (v1599 : List Int) (v1600 : Int) (v1601 : Int) (v1602 : List Int) (v1603 : List Int) (k0 : Int → List Int → Int → Int → Int → Int → List Int → List Int → Option α) : impl_natDiv_L8 N (n + 1) v1593 v1594 v1595 v1596 v1597 v1598 v1599 v1600 v1601 v1602 v1603 k0 = impl_natDiv_L8r N (fun y0 y1 y2 y3 y4 y5 y6 y7 y8 y9 y10 => impl_natDiv_L8 N n y0 y1 y2 y3 y4 y5 y6 y7 y8 y9 y10 k0) k0 v1593 v1594 v1595 v1596 v1597 v1598 v1599 v1600 v1601 v1602 v1603 := by rw [impl_natDiv_L8.eq]; rfl
noncomputable def impl_natDiv_L10r {α : Type} (N : Nat) (next : Int → List Int → Int → Int → Int → Int → List Int → Int → Int → List Int → List Int → Option α) (k0 : Int → List Int → Int → Int → Int → Int → List Int → List Int → Option α) (v1673 : Int) (v1674 : List Int) (v1675 : Int) (v1676 : Int) (v1677 : Int) (v1678 : Int) (v1679 : List Int) (v1680 : Int) (v1681 : Int) (v1682 : List Int) (v1683 : List Int) : Option α :=
  let x1684 := decide (v1681 < v1680)
  bif x1684 then
    bif (decide (v1681 < (0 : Int))) then
      none
    else
      match v1679[v1681.toNat]? with
      | some x1685 =>
        let x1686 := IntKind.i64.wrap (v1676 + v1681)
        bif (decide (x1686 < (0 : Int))) then
          none
        else
          bif decide (x1686.toNat < v1682.length) then
            match v1682[x1686.toNat]? with
            | some x1687 =>
              let x1688 := IntKind.i64.wrap (x1687 + x1685)
              let x1689 := IntKind.i64.wrap (x1688 + v1678)
              let x1690 := IntKind.i64.wrap (v1676 + v1681)
              let x1691 := (bitI .and .i64 x1689 (65535 : Int))
              let x1692 := (shrI .i64 x1689 (16 : Int))
              bif (decide (x1690 < (0 : Int))) then
                none
              else
                bif decide (x1690.toNat < v1682.length) then
                  match v1682[x1690.toNat]? with
                  | some x1693 =>
                    let x1694 := v1682.set x1690.toNat x1691
                    let x1695 := (IntKind.i64.wrap (v1681 + (1 : Int)))
                    next v1673 v1674 v1675 v1676 v1677 x1692 v1679 v1680 x1695 x1694 v1683
                  | none => none
                else
                  none
            | none => none
          else
            none
      | none => none
  else
    k0 v1673 v1674 v1675 v1676 v1677 v1678 v1682 v1683
noncomputable def impl_natDiv_L10.b {α : Type} (N n : Nat) (v1673 : Int) (v1674 : List Int) (v1675 : Int) (v1676 : Int) (v1677 : Int) (v1678 : Int) (v1679 : List Int) (v1680 : Int) (v1681 : Int) (v1682 : List Int) (v1683 : List Int) (k0 : Int → List Int → Int → Int → Int → Int → List Int → List Int → Option α) : Option α :=
  Nat.rec (motive := fun _ => Int → List Int → Int → Int → Int → Int → List Int → Int → Int → List Int → List Int → Option α) (fun _ _ _ _ _ _ _ _ _ _ _ => none) (fun _ next => impl_natDiv_L10r N next k0) n v1673 v1674 v1675 v1676 v1677 v1678 v1679 v1680 v1681 v1682 v1683
theorem impl_natDiv_L10.ex : ∃ f : ((α : Type) → Nat → Nat → Int → List Int → Int → Int → Int → Int → List Int → Int → Int → List Int → List Int → (Int → List Int → Int → Int → Int → Int → List Int → List Int → Option α) → Option α), f = fun α => @impl_natDiv_L10.b α := ⟨_, rfl⟩
noncomputable def impl_natDiv_L10 {α : Type} : Nat → Nat → Int → List Int → Int → Int → Int → Int → List Int → Int → Int → List Int → List Int → (Int → List Int → Int → Int → Int → Int → List Int → List Int → Option α) → Option α := Classical.choose impl_natDiv_L10.ex α
theorem impl_natDiv_L10.eq : @impl_natDiv_L10 = @impl_natDiv_L10.b := funext fun α => congrFun (Classical.choose_spec impl_natDiv_L10.ex) α
theorem impl_natDiv_L10.zero {α : Type} (N : Nat) (v1673 : Int) (v1674 : List Int) (v1675 : Int) (v1676 : Int) (v1677 : Int) (v1678 : Int) (v1679 : List Int) (v1680 : Int) (v1681 : Int) (v1682 : List Int) (v1683 : List Int) (k0 : Int → List Int → Int → Int → Int → Int → List Int → List Int → Option α) : impl_natDiv_L10 N 0 v1673 v1674 v1675 v1676 v1677 v1678 v1679 v1680 v1681 v1682 v1683 k0 = none := by rw [impl_natDiv_L10.eq]; rfl
theorem impl_natDiv_L10.succ {α : Type} (N n : Nat) (v1673 : Int) (v1674 : List Int) (v1675 : Int) (v1676 : Int) (v1677 : Int) (v1678 : Int) (v1679 : List Int) (v1680 : Int) (v1681 : Int) (v1682 : List Int) (v1683 : List Int) (k0 : Int → List Int → Int → Int → Int → Int → List Int → List Int → Option α) : impl_natDiv_L10 N (n + 1) v1673 v1674 v1675 v1676 v1677 v1678 v1679 v1680 v1681 v1682 v1683 k0 = impl_natDiv_L10r N (fun y0 y1 y2 y3 y4 y5 y6 y7 y8 y9 y10 => impl_natDiv_L10 N n y0 y1 y2 y3 y4 y5 y6 y7 y8 y9 y10 k0) k0 v1673 v1674 v1675 v1676 v1677 v1678 v1679 v1680 v1681 v1682 v1683 := by rw [impl_natDiv_L10.eq]; rfl
noncomputable def impl_natDiv_J40.b {α : Type} (N : Nat) (v1661 : Int) (v1662 : List Int) (v1663 : Int) (v1664 : Int) (v1665 : Int) (v1666 : List Int) (v1667 : List Int) (k0 : Int → List Int → Int → Int → Int → List Int → List Int → Option α) : Option α :=
  let x1668 := IntKind.i64.wrap (v1664 + v1663)
  bif (decide (x1668 < (0 : Int))) then
    none
  else
    bif decide (x1668.toNat < v1666.length) then
      match v1666[x1668.toNat]? with
      | some x1669 =>
        let x1670 := (decide (x1669 < (0 : Int)))
        bif x1670 then
          let x1671 := (IntKind.i64.wrap (v1665 - (1 : Int)))
          let x1672 := ((v1662.length : Nat) : Int)
          impl_natDiv_L10 N N v1661 v1662 v1663 v1664 x1671 (0 : Int) v1662 x1672 (0 : Int) v1666 v1667
            (fun x1696 x1697 x1698 x1699 x1700 x1701 x1702 x1703 =>
              let x1704 := IntKind.i64.wrap (x1699 + x1698)
              bif (decide (x1704 < (0 : Int))) then
                none
              else
                bif decide (x1704.toNat < x1702.length) then
                  match x1702[x1704.toNat]? with
                  | some x1705 =>
                    let x1706 := IntKind.i64.wrap (x1705 + x1701)
                    bif (decide (x1704 < (0 : Int))) then
                      none
                    else
                      bif decide (x1704.toNat < x1702.length) then
                        match x1702[x1704.toNat]? with
                        | some x1707 =>
                          let x1708 := x1702.set x1704.toNat x1706
                          k0 x1696 x1697 x1698 x1699 x1700 x1708 x1703
                        | none => none
                      else
                        none
                  | none => none
                else
                  none)
        else
          k0 v1661 v1662 v1663 v1664 v1665 v1666 v1667
      | none => none
    else
      none
theorem impl_natDiv_J40.ex : ∃ f : ((α : Type) → Nat → Int → List Int → Int → Int → Int → List Int → List Int → (Int → List Int → Int → Int → Int → List Int → List Int → Option α) → Option α), f = fun α => @impl_natDiv_J40.b α := ⟨_, rfl⟩
noncomputable def impl_natDiv_J40 {α : Type} : Nat → Int → List Int → Int → Int → Int → List Int → List Int → (Int → List Int → Int → Int → Int → List Int → List Int → Option α) → Option α := Classical.choose impl_natDiv_J40.ex α
theorem impl_natDiv_J40.eq : @impl_natDiv_J40 = @impl_natDiv_J40.b := funext fun α => congrFun (Classical.choose_spec impl_natDiv_J40.ex) α
noncomputable def impl_natDiv_L4r {α : Type} (N : Nat) (next : Int → List Int → Int → Int → List Int → List Int → Option α) (k0 : Int → List Int → List Int → Option α) (v1537 : Int) (v1538 : List Int) (v1539 : Int) (v1540 : Int) (v1541 : List Int) (v1542 : List Int) : Option α :=
  let x1543 := (decide ((0 : Int) ≤ v1540))
  bif x1543 then
    let x1544 := IntKind.i64.wrap (v1540 + v1539)
    bif (decide (x1544 < (0 : Int))) then
      none
    else
      bif decide (x1544.toNat < v1541.length) then
        match v1541[x1544.toNat]? with
        | some x1545 =>
          let x1546 := (shlI .i64 x1545 (16 : Int))
          let x1547 := IntKind.i64.wrap (v1540 + v1539)
          let x1548 := (IntKind.i64.wrap (x1547 - (1 : Int)))
          bif (decide (x1548 < (0 : Int))) then
            none
          else
            bif decide (x1548.toNat < v1541.length) then
              match v1541[x1548.toNat]? with
              | some x1549 =>
                let x1550 := bitI .or .i64 x1546 x1549
                let x1551 := (IntKind.i64.wrap (v1539 - (1 : Int)))
                bif (decide (x1551 < (0 : Int))) then
                  none
                else
                  match v1538[x1551.toNat]? with
                  | some x1552 =>
                    bif (decide (x1552 = (0 : Int))) then
                      none
                    else
                      let x1553 := IntKind.i64.wrap (Int.tdiv x1550 x1552)
                      let x1554 := (IntKind.i64.wrap (v1539 - (1 : Int)))
                      bif (decide (x1554 < (0 : Int))) then
                        none
                      else
                        match v1538[x1554.toNat]? with
                        | some x1555 =>
                          bif (decide (x1555 = (0 : Int))) then
                            none
                          else
                            let x1556 := Int.tmod x1550 x1555
                            impl_natDiv_L6 N N v1537 v1538 v1539 v1540 x1553 x1556 v1541 v1542
                              (fun x1585 x1586 x1587 x1588 x1589 x1590 x1591 =>
                                let x1592 := ((x1586.length : Nat) : Int)
                                impl_natDiv_L8 N N x1585 x1586 x1587 x1588 x1589 (0 : Int) x1586 x1592 (0 : Int) x1590 x1591
                                  (fun x1648 x1649 x1650 x1651 x1652 x1653 x1654 x1655 =>
                                    let x1656 := IntKind.i64.wrap (x1651 + x1650)
                                    bif (decide (x1656 < (0 : Int))) then
                                      none
                                    else
                                      bif decide (x1656.toNat < x1654.length) then
                                        match x1654[x1656.toNat]? with
                                        | some x1657 =>
                                          let x1658 := IntKind.i64.wrap (x1657 - x1653)
                                          bif (decide (x1656 < (0 : Int))) then
                                            none
                                          else
                                            bif decide (x1656.toNat < x1654.length) then
                                              match x1654[x1656.toNat]? with
                                              | some x1659 =>
                                                let x1660 := x1654.set x1656.toNat x1658
                                                impl_natDiv_J40 N x1648 x1649 x1650 x1651 x1652 x1660 x1655
                                                  (fun x1709 x1710 x1711 x1712 x1713 x1714 x1715 =>
                                                    bif (decide (x1712 < (0 : Int))) then
                                                      none
                                                    else
                                                      bif decide (x1712.toNat < x1715.length) then
                                                        match x1715[x1712.toNat]? with
                                                        | some x1716 =>
                                                          let x1717 := x1715.set x1712.toNat x1713
                                                          let x1718 := (IntKind.i64.wrap (x1712 - (1 : Int)))
                                                          next x1709 x1710 x1711 x1718 x1714 x1717
                                                        | none => none
                                                      else
                                                        none)
                                              | none => none
                                            else
                                              none
                                        | none => none
                                      else
                                        none))
                        | none => none
                  | none => none
              | none => none
            else
              none
        | none => none
      else
        none
  else
    k0 v1537 v1541 v1542
noncomputable def impl_natDiv_L4.b {α : Type} (N n : Nat) (v1537 : Int) (v1538 : List Int) (v1539 : Int) (v1540 : Int) (v1541 : List Int) (v1542 : List Int) (k0 : Int → List Int → List Int → Option α) : Option α :=
  Nat.rec (motive := fun _ => Int → List Int → Int → Int → List Int → List Int → Option α) (fun _ _ _ _ _ _ => none) (fun _ next => impl_natDiv_L4r N next k0) n v1537 v1538 v1539 v1540 v1541 v1542
theorem impl_natDiv_L4.ex : ∃ f : ((α : Type) → Nat → Nat → Int → List Int → Int → Int → List Int → List Int → (Int → List Int → List Int → Option α) → Option α), f = fun α => @impl_natDiv_L4.b α := ⟨_, rfl⟩
noncomputable def impl_natDiv_L4 {α : Type} : Nat → Nat → Int → List Int → Int → Int → List Int → List Int → (Int → List Int → List Int → Option α) → Option α := Classical.choose impl_natDiv_L4.ex α
theorem impl_natDiv_L4.eq : @impl_natDiv_L4 = @impl_natDiv_L4.b := funext fun α => congrFun (Classical.choose_spec impl_natDiv_L4.ex) α
theorem impl_natDiv_L4.zero {α : Type} (N : Nat) (v1537 : Int) (v1538 : List Int) (v1539 : Int) (v1540 : Int) (v1541 : List Int) (v1542 : List Int) (k0 : Int → List Int → List Int → Option α) : impl_natDiv_L4 N 0 v1537 v1538 v1539 v1540 v1541 v1542 k0 = none := by rw [impl_natDiv_L4.eq]; rfl
theorem impl_natDiv_L4.succ {α : Type} (N n : Nat) (v1537 : Int) (v1538 : List Int) (v1539 : Int) (v1540 : Int) (v1541 : List Int) (v1542 : List Int) (k0 : Int → List Int → List Int → Option α) : impl_natDiv_L4 N (n + 1) v1537 v1538 v1539 v1540 v1541 v1542 k0 = impl_natDiv_L4r N (fun y0 y1 y2 y3 y4 y5 => impl_natDiv_L4 N n y0 y1 y2 y3 y4 y5 k0) k0 v1537 v1538 v1539 v1540 v1541 v1542 := by rw [impl_natDiv_L4.eq]; rfl
/-- loop.example/pinfold/impl.natDiv -/
noncomputable def impl_natDiv.b {α : Type} (N : Nat) (a1419 : List Int) (a1420 : List Int) (k0 : List Int → List Int → Option α) : Option α :=
  impl_natCmp N a1419 a1420
    (fun x1447 =>
      let x1448 := (decide (x1447 < (0 : Int)))
      bif x1448 then
        k0 [] a1419
      else
        let x1449 := ((a1420.length : Nat) : Int)
        let x1450 := (decide (x1449 = (1 : Int)))
        bif x1450 then
          let x1451 := ((a1419.length : Nat) : Int)
          bif (decide ((0 : Int) ≤ x1451)) then
            bif decide (x1451 ≤ x1451) then
              bif (decide (x1451 ≤ ((8796093022208 : Nat) : Int))) then
                let x1452 := (List.replicate x1451.toNat (0 : Int))
                let x1453 := ((a1419.length : Nat) : Int)
                let x1454 := (IntKind.i64.wrap (x1453 - (1 : Int)))
                impl_natDiv_L0 N N a1419 a1420 (0 : Int) x1454 x1452
                  (fun x1471 x1472 =>
                    impl_trim N x1472
                      (fun x1473 =>
                        let x1474 := [x1471]
                        impl_trim N x1474
                          (fun x1475 =>
                            k0 x1473 x1475)))
              else
                none
            else
              none
          else
            none
        else
          let x1476 := ((a1420.length : Nat) : Int)
          let x1477 := (IntKind.i64.wrap (x1476 - (1 : Int)))
          bif (decide (x1477 < (0 : Int))) then
            none
          else
            match a1420[x1477.toNat]? with
            | some x1478 =>
              let x1479 := IntKind.u64.wrap x1478
              math_bits_Len N x1479
                (fun x1508 =>
                  let x1509 := (IntKind.i64.wrap ((16 : Int) - x1508))
                  impl_natShift N a1420 x1509
                    (fun x1510 =>
                      impl_natShift N a1419 x1509
                        (fun x1511 =>
                          slices_Clone_int_int N x1511
                            (fun x1512 =>
                              let x1513 := [(0 : Int)]
                              bif decide (x1512.length + x1513.length ≤ 8796093022208) then
                                let x1514 := x1512 ++ x1513
                                let x1515 := ((x1510.length : Nat) : Int)
                                impl_natDiv_L2 N N a1419 x1509 x1510 x1515 x1514
                                  (fun x1527 x1528 x1529 x1530 =>
                                    let x1531 := ((x1530.length : Nat) : Int)
                                    let x1532 := IntKind.i64.wrap (x1531 - x1529)
                                    bif (decide ((0 : Int) ≤ x1532)) then
                                      bif decide (x1532 ≤ x1532) then
                                        bif (decide (x1532 ≤ ((8796093022208 : Nat) : Int))) then
                                          let x1533 := (List.replicate x1532.toNat (0 : Int))
                                          let x1534 := ((x1530.length : Nat) : Int)
                                          let x1535 := IntKind.i64.wrap (x1534 - x1529)
                                          let x1536 := (IntKind.i64.wrap (x1535 - (1 : Int)))
                                          impl_natDiv_L4 N N x1527 x1528 x1529 x1536 x1530 x1533
                                            (fun x1719 x1720 x1721 =>
                                              impl_trim N x1721
                                                (fun x1722 =>
                                                  impl_trim N x1720
                                                    (fun x1723 =>
                                                      let x1724 := IntKind.i64.wrap (0 - x1719)
                                                      impl_natShift N x1723 x1724
                                                        (fun x1725 =>
                                                          k0 x1722 x1725))))
                                        else
                                          none
                                      else
                                        none
                                    else
                                      none)
                              else
                                none))))
            | none => none)
theorem impl_natDiv.ex : ∃ f : ((α : Type) → Nat → List Int → List Int → (List Int → List Int → Option α) → Option α), f = fun α => @impl_natDiv.b α := ⟨_, rfl⟩
noncomputable def impl_natDiv {α : Type} : Nat → List Int → List Int → (List Int → List Int → Option α) → Option α := Classical.choose impl_natDiv.ex α
theorem impl_natDiv.eq : @impl_natDiv = @impl_natDiv.b := funext fun α => congrFun (Classical.choose_spec impl_natDiv.ex) α

noncomputable def impl_natGcd_L0r {α : Type} (N : Nat) (next : List Int → List Int → Option α) (k0 : List Int → Option α) (v1358 : List Int) (v1359 : List Int) : Option α :=
  let x1360 := ((v1359.length : Nat) : Int)
  let x1361 := (decide ((0 : Int) < x1360))
  bif x1361 then
    impl_natDiv N v1358 v1359
      (fun _ x1727 =>
        next v1359 x1727)
  else
    k0 v1358
noncomputable def impl_natGcd_L0.b {α : Type} (N n : Nat) (v1358 : List Int) (v1359 : List Int) (k0 : List Int → Option α) : Option α :=
  Nat.rec (motive := fun _ => List Int → List Int → Option α) (fun _ _ => none) (fun _ next => impl_natGcd_L0r N next k0) n v1358 v1359
theorem impl_natGcd_L0.ex : ∃ f : ((α : Type) → Nat → Nat → List Int → List Int → (List Int → Option α) → Option α), f = fun α => @impl_natGcd_L0.b α := ⟨_, rfl⟩
noncomputable def impl_natGcd_L0 {α : Type} : Nat → Nat → List Int → List Int → (List Int → Option α) → Option α := Classical.choose impl_natGcd_L0.ex α
theorem impl_natGcd_L0.eq : @impl_natGcd_L0 = @impl_natGcd_L0.b := funext fun α => congrFun (Classical.choose_spec impl_natGcd_L0.ex) α
theorem impl_natGcd_L0.zero {α : Type} (N : Nat) (v1358 : List Int) (v1359 : List Int) (k0 : List Int → Option α) : impl_natGcd_L0 N 0 v1358 v1359 k0 = none := by rw [impl_natGcd_L0.eq]; rfl
theorem impl_natGcd_L0.succ {α : Type} (N n : Nat) (v1358 : List Int) (v1359 : List Int) (k0 : List Int → Option α) : impl_natGcd_L0 N (n + 1) v1358 v1359 k0 = impl_natGcd_L0r N (fun y0 y1 => impl_natGcd_L0 N n y0 y1 k0) k0 v1358 v1359 := by rw [impl_natGcd_L0.eq]; rfl
/-- loop.example/pinfold/impl.natGcd -/
noncomputable def impl_natGcd.b {α : Type} (N : Nat) (a1356 : List Int) (a1357 : List Int) (k0 : List Int → Option α) : Option α :=
  impl_natGcd_L0 N N a1356 a1357
    (fun x1728 =>
      k0 x1728)
theorem impl_natGcd.ex : ∃ f : ((α : Type) → Nat → List Int → List Int → (List Int → Option α) → Option α), f = fun α => @impl_natGcd.b α := ⟨_, rfl⟩
noncomputable def impl_natGcd {α : Type} : Nat → List Int → List Int → (List Int → Option α) → Option α := Classical.choose impl_natGcd.ex α
theorem impl_natGcd.eq : @impl_natGcd = @impl_natGcd.b := funext fun α => congrFun (Classical.choose_spec impl_natGcd.ex) α

noncomputable def impl_lowest_J2.b {α : Type} (N : Nat) (v1730 : Bool) (v1731 : List Int) (v1732 : List Int) (v1733 : List Int) (v1734 : Bool) (v1735 : List Int) (v1736 : List Int) (k0 : Bool → List Int → List Int → Bool → List Int → List Int → Option α) : Option α :=
  let x1737 := [(1 : Int)]
  impl_natCmp N v1733 x1737
    (fun x1738 =>
      let x1739 := (!(decide (x1738 = (0 : Int))))
      bif x1739 then
        impl_natDiv N v1731 v1733
          (fun x1740 _ =>
            impl_natDiv N v1732 v1733
              (fun x1742 _ =>
                k0 v1730 x1740 x1742 v1734 v1735 v1736))
      else
        k0 v1730 v1731 v1732 v1734 v1735 v1736)
theorem impl_lowest_J2.ex : ∃ f : ((α : Type) → Nat → Bool → List Int → List Int → List Int → Bool → List Int → List Int → (Bool → List Int → List Int → Bool → List Int → List Int → Option α) → Option α), f = fun α => @impl_lowest_J2.b α := ⟨_, rfl⟩
noncomputable def impl_lowest_J2 {α : Type} : Nat → Bool → List Int → List Int → List Int → Bool → List Int → List Int → (Bool → List Int → List Int → Bool → List Int → List Int → Option α) → Option α := Classical.choose impl_lowest_J2.ex α
theorem impl_lowest_J2.eq : @impl_lowest_J2 = @impl_lowest_J2.b := funext fun α => congrFun (Classical.choose_spec impl_lowest_J2.ex) α
/-- loop.example/pinfold/impl.lowest -/
noncomputable def impl_lowest.b {α : Type} (N : Nat) (a1353 : Bool) (a1354 : List Int) (a1355 : List Int) (k0 : (Bool × (List Int) × (List Int) × Unit) → Option α) : Option α :=
  impl_natGcd N a1354 a1355
    (fun x1729 =>
      impl_lowest_J2 N a1353 a1354 a1355 x1729 false [] []
        (fun x1744 x1745 x1746 _ _ _ =>
          bif x1744 then
            let x1750 := ((x1745.length : Nat) : Int)
            let x1751 := (decide ((0 : Int) < x1750))
            k0 (x1751, (x1745, (x1746, ())))
          else
            k0 (false, (x1745, (x1746, ())))))
theorem impl_lowest.ex : ∃ f : ((α : Type) → Nat → Bool → List Int → List Int → ((Bool × (List Int) × (List Int) × Unit) → Option α) → Option α), f = fun α => @impl_lowest.b α := ⟨_, rfl⟩
noncomputable def impl_lowest {α : Type} : Nat → Bool → List Int → List Int → ((Bool × (List Int) × (List Int) × Unit) → Option α) → Option α := Classical.choose impl_lowest.ex α
theorem impl_lowest.eq : @impl_lowest = @impl_lowest.b := funext fun α => congrFun (Classical.choose_spec impl_lowest.ex) α

/-- loop.example/pinfold/impl.value -/
noncomputable def impl_value.b {α : Type} (N : Nat) (a1137 : Int) (a1138 : Int) (k0 : (Bool × (List Int) × (List Int) × Unit) → Option α) : Option α :=
  impl_BitPartOf N a1137 a1138
    (fun x1165 _ =>
      impl_natOf N x1165.2.1
        (fun x1177 =>
          let x1178 := (decide ((0 : Int) ≤ x1165.2.2.1))
          bif x1178 then
            impl_natShift N x1177 x1165.2.2.1
              (fun x1340 =>
                impl_whole N x1165.1 x1340
                  (fun x1347 x1348 x1349 =>
                    k0 (x1347, (x1348, (x1349, ())))))
          else
            let x1350 := [(1 : Int)]
            let x1351 := IntKind.i64.wrap (0 - x1165.2.2.1)
            impl_natShift N x1350 x1351
              (fun x1352 =>
                impl_lowest N x1165.1 x1177 x1352
                  (fun x1752 =>
                    k0 x1752))))
theorem impl_value.ex : ∃ f : ((α : Type) → Nat → Int → Int → ((Bool × (List Int) × (List Int) × Unit) → Option α) → Option α), f = fun α => @impl_value.b α := ⟨_, rfl⟩
noncomputable def impl_value {α : Type} : Nat → Int → Int → ((Bool × (List Int) × (List Int) × Unit) → Option α) → Option α := Classical.choose impl_value.ex α
theorem impl_value.eq : @impl_value = @impl_value.b := funext fun α => congrFun (Classical.choose_spec impl_value.ex) α

/-- loop.example/pinfold/impl.natBits -/
noncomputable def impl_natBits.b {α : Type} (N : Nat) (a1779 : List Int) (k0 : Int → Option α) : Option α :=
  let x1780 := ((a1779.length : Nat) : Int)
  let x1781 := (decide (x1780 = (0 : Int)))
  bif x1781 then
    k0 (0 : Int)
  else
    let x1782 := ((a1779.length : Nat) : Int)
    let x1783 := (IntKind.i64.wrap (x1782 - (1 : Int)))
    let x1784 := (IntKind.i64.wrap ((16 : Int) * x1783))
    let x1785 := ((a1779.length : Nat) : Int)
    let x1786 := (IntKind.i64.wrap (x1785 - (1 : Int)))
    bif (decide (x1786 < (0 : Int))) then
      none
    else
      match a1779[x1786.toNat]? with
      | some x1787 =>
        let x1788 := IntKind.u64.wrap x1787
        math_bits_Len N x1788
          (fun x1789 =>
            let x1790 := IntKind.i64.wrap (x1784 + x1789)
            k0 x1790)
      | none => none
theorem impl_natBits.ex : ∃ f : ((α : Type) → Nat → List Int → (Int → Option α) → Option α), f = fun α => @impl_natBits.b α := ⟨_, rfl⟩
noncomputable def impl_natBits {α : Type} : Nat → List Int → (Int → Option α) → Option α := Classical.choose impl_natBits.ex α
theorem impl_natBits.eq : @impl_natBits = @impl_natBits.b := funext fun α => congrFun (Classical.choose_spec impl_natBits.ex) α

noncomputable def impl_natMul_L2r {α : Type} (N : Nat) (next : List Int → Int → Int → Int → List Int → Int → Int → List Int → Int → Int → List Int → Option α) (k0 : List Int → Int → Int → List Int → Int → Int → List Int → Option α) (v1902 : List Int) (v1903 : Int) (v1904 : Int) (v1905 : Int) (v1906 : List Int) (v1907 : Int) (v1908 : Int) (v1909 : List Int) (v1910 : Int) (v1911 : Int) (v1912 : List Int) : Option α :=
  let x1913 := decide (v1911 < v1910)
  bif x1913 then
    bif (decide (v1911 < (0 : Int))) then
      none
    else
      match v1909[v1911.toNat]? with
      | some x1914 =>
        let x1915 := IntKind.i64.wrap (v1903 + v1911)
        bif (decide (x1915 < (0 : Int))) then
          none
        else
          bif decide (x1915.toNat < v1912.length) then
            match v1912[x1915.toNat]? with
            | some x1916 =>
              let x1917 := IntKind.i64.wrap (v1904 * x1914)
              let x1918 := IntKind.i64.wrap (x1916 + x1917)
              let x1919 := IntKind.i64.wrap (x1918 + v1905)
              let x1920 := IntKind.i64.wrap (v1903 + v1911)
              let x1921 := (bitI .and .i64 x1919 (65535 : Int))
              bif (decide (x1920 < (0 : Int))) then
                none
              else
                bif decide (x1920.toNat < v1912.length) then
                  match v1912[x1920.toNat]? with
                  | some x1922 =>
                    let x1923 := v1912.set x1920.toNat x1921
                    let x1924 := (shrI .i64 x1919 (16 : Int))
                    let x1925 := (IntKind.i64.wrap (v1911 + (1 : Int)))
                    next v1902 v1903 v1904 x1924 v1906 v1907 v1908 v1909 v1910 x1925 x1923
                  | none => none
                else
                  none
            | none => none
          else
            none
      | none => none
  else
    k0 v1902 v1903 v1905 v1906 v1907 v1908 v1912
noncomputable def impl_natMul_L2.b {α : Type} (N n : Nat) (v1902 : List Int) (v1903 : Int) (v1904 : Int) (v1905 : Int) (v1906 : List Int) (v1907 : Int) (v1908 : Int) (v1909 : List Int) (v1910 : Int) (v1911 : Int) (v1912 : List Int) (k0 : List Int → Int → Int → List Int → Int → Int → List Int → Option α) : Option α :=
  Nat.rec (motive := fun _ => List Int → Int → Int → Int → List Int → Int → Int → List Int → Int → Int → List Int → Option α) (fun _ _ _ _ _ _ _ _ _ _ _ => none) (fun _ next => impl_natMul_L2r N next k0) n v1902 v1903 v1904 v1905 v1906 v1907 v1908 v1909 v1910 v1911 v1912
theorem impl_natMul_L2.ex : ∃ f : ((α : Type) → Nat → Nat → List Int → Int → Int → Int → List Int → Int → Int → List Int → Int → Int → List Int → (List Int → Int → Int → List Int → Int → Int → List Int → Option α) → Option α), f = fun α => @impl_natMul_L2.b α := ⟨_, rfl⟩
noncomputable def impl_natMul_L2 {α : Type} : Nat → Nat → List Int → Int → Int → Int → List Int → Int → Int → List Int → Int → Int → List Int → (List Int → Int → Int → List Int → Int → Int → List Int → Option α) → Option α := Classical.choose impl_natMul_L2.ex α
theorem impl_natMul_L2.eq : @impl_natMul_L2 = @impl_natMul_L2.b := funext fun α => congrFun (Classical.choose_spec impl_natMul_L2.ex) α
theorem impl_natMul_L2.zero {α : Type} (N : Nat) (v1902 : List Int) (v1903 : Int) (v1904 : Int) (v1905 : Int) (v1906 : List Int) (v1907 : Int) (v1908 : Int) (v1909 : List Int) (v1910 : Int) (v1911 : Int) (v1912 : List Int) (k0 : List Int → Int → Int → List Int → Int → Int → List Int → Option α) : impl_natMul_L2 N 0 v1902 v1903 v1904 v1905 v1906 v1907 v1908 v1909 v1910 v1911 v1912 k0 = none := by rw [impl_natMul_L2.eq]; rfl
theorem impl_natMul_L2.succ {α : Type} (N n : Nat) (v1902 : List Int) (v1903 : Int) (v1904 : Int) (v1905 : Int) (v1906 : List Int) (v1907 : Int) (v1908 : Int) (v1909 : List Int) (v1910 : Int) (v1911 : Int) (v1912 : List Int) (k0 : List Int → Int → Int → List Int → Int → Int → List Int → Option α) : impl_natMul_L2 N (n + 1) v1902 v1903 v1904 v1905 v1906 v1907 v1908 v1909 v1910 v1911 v1912 k0 = impl_natMul_L2r N (fun y0 y1 y2 y3 y4 y5 y6 y7 y8 y9 y10 => impl_natMul_L2 N n y0 y1 y2 y3 y4 y5 y6 y7 y8 y9 y10 k0) k0 v1902 v1903 v1904 v1905 v1906 v1907 v1908 v1909 v1910 v1911 v1912 := by rw [impl_natMul_L2.eq]; rfl
noncomputable def impl_natMul_L0r {α : Type} (N : Nat) (next : List Int → List Int → Int → Int → List Int → Option α) (k0 : List Int → Option α) (v1894 : List Int) (v1895 : List Int) (v1896 : Int) (v1897 : Int) (v1898 : List Int) : Option α :=
  let x1899 := decide (v1897 < v1896)
  bif x1899 then
    bif (decide (v1897 < (0 : Int))) then
      none
    else
      match v1895[v1897.toNat]? with
      | some x1900 =>
        let x1901 := ((v1894.length : Nat) : Int)
        impl_natMul_L2 N N v1894 v1897 x1900 (0 : Int) v1895 v1896 v1897 v1894 x1901 (0 : Int) v1898
          (fun x1926 x1927 x1928 x1929 x1930 x1931 x1932 =>
            let x1933 := ((x1926.length : Nat) : Int)
            let x1934 := IntKind.i64.wrap (x1927 + x1933)
            bif (decide (x1934 < (0 : Int))) then
              none
            else
              bif decide (x1934.toNat < x1932.length) then
                match x1932[x1934.toNat]? with
                | some x1935 =>
                  let x1936 := IntKind.i64.wrap (x1935 + x1928)
                  bif (decide (x1934 < (0 : Int))) then
                    none
                  else
                    bif decide (x1934.toNat < x1932.length) then
                      match x1932[x1934.toNat]? with
                      | some x1937 =>
                        let x1938 := x1932.set x1934.toNat x1936
                        let x1939 := (IntKind.i64.wrap (x1931 + (1 : Int)))
                        next x1926 x1929 x1930 x1939 x1938
                      | none => none
                    else
                      none
                | none => none
              else
                none)
      | none => none
  else
    k0 v1898
noncomputable def impl_natMul_L0.b {α : Type} (N n : Nat) (v1894 : List Int) (v1895 : List Int) (v1896 : Int) (v1897 : Int) (v1898 : List Int) (k0 : List Int → Option α) : Option α :=
  Nat.rec (motive := fun _ => List Int → List Int → Int → Int → List Int → Option α) (fun _ _ _ _ _ => none) (fun _ next => impl_natMul_L0r N next k0) n v1894 v1895 v1896 v1897 v1898
theorem impl_natMul_L0.ex : ∃ f : ((α : Type) → Nat → Nat → List Int → List Int → Int → Int → List Int → (List Int → Option α) → Option α), f = fun α => @impl_natMul_L0.b α := ⟨_, rfl⟩
noncomputable def impl_natMul_L0 {α : Type} : Nat → Nat → List Int → List Int → Int → Int → List Int → (List Int → Option α) → Option α := Classical.choose impl_natMul_L0.ex α
theorem impl_natMul_L0.eq : @impl_natMul_L0 = @impl_natMul_L0.b := funext fun α => congrFun (Classical.choose_spec impl_natMul_L0.ex) α
theorem impl_natMul_L0.zero {α : Type} (N : Nat) (v1894 : List Int) (v1895 : List Int) (v1896 : Int) (v1897 : Int) (v1898 : List Int) (k0 : List Int → Option α) : impl_natMul_L0 N 0 v1894 v1895 v1896 v1897 v1898 k0 = none := by rw [impl_natMul_L0.eq]; rfl
theorem impl_natMul_L0.succ {α : Type} (N n : Nat) (v1894 : List Int) (v1895 : List Int) (v1896 : Int) (v1897 : Int) (v1898 : List Int) (k0 : List Int → Option α) : impl_natMul_L0 N (n + 1) v1894 v1895 v1896 v1897 v1898 k0 = impl_natMul_L0r N (fun y0 y1 y2 y3 y4 => impl_natMul_L0 N n y0 y1 y2 y3 y4 k0) k0 v1894 v1895 v1896 v1897 v1898 := by rw [impl_natMul_L0.eq]; rfl
/-- loop.example/pinfold/impl.natMul -/
noncomputable def impl_natMul.b {α : Type} (N : Nat) (a1886 : List Int) (a1887 : List Int) (k0 : List Int → Option α) : Option α :=
  let x1888 := ((a1886.length : Nat) : Int)
  let x1889 := ((a1887.length : Nat) : Int)
  let x1890 := IntKind.i64.wrap (x1888 + x1889)
  let x1891 := (IntKind.i64.wrap (x1890 + (1 : Int)))
  bif (decide ((0 : Int) ≤ x1891)) then
    bif decide (x1891 ≤ x1891) then
      bif (decide (x1891 ≤ ((8796093022208 : Nat) : Int))) then
        let x1892 := (List.replicate x1891.toNat (0 : Int))
        let x1893 := ((a1886.length : Nat) : Int)
        impl_natMul_L0 N N a1887 a1886 x1893 (0 : Int) x1892
          (fun x1940 =>
            impl_trim N x1940
              (fun x1941 =>
                k0 x1941))
      else
        none
    else
      none
  else
    none
theorem impl_natMul.ex : ∃ f : ((α : Type) → Nat → List Int → List Int → (List Int → Option α) → Option α), f = fun α => @impl_natMul.b α := ⟨_, rfl⟩
noncomputable def impl_natMul {α : Type} : Nat → List Int → List Int → (List Int → Option α) → Option α := Classical.choose impl_natMul.ex α
theorem impl_natMul.eq : @impl_natMul = @impl_natMul.b := funext fun α => congrFun (Classical.choose_spec impl_natMul.ex) α

noncomputable def impl_natPow_L0r {α : Type} (N : Nat) (next : List Int → List Int → Int → Int → Option α) (k0 : List Int → Option α) (v1881 : List Int) (v1882 : List Int) (v1883 : Int) (v1884 : Int) : Option α :=
  let x1885 := decide (v1884 < v1883)
  bif x1885 then
    impl_natMul N v1882 v1881
      (fun x1942 =>
        let x1943 := ((x1942.length : Nat) : Int)
        let x1944 := (decide ((1024 : Int) < x1943))
        bif x1944 then
          k0 x1942
        else
          let x1945 := (IntKind.i64.wrap (v1884 + (1 : Int)))
          next v1881 x1942 v1883 x1945)
  else
    k0 v1882
noncomputable def impl_natPow_L0.b {α : Type} (N n : Nat) (v1881 : List Int) (v1882 : List Int) (v1883 : Int) (v1884 : Int) (k0 : List Int → Option α) : Option α :=
  Nat.rec (motive := fun _ => List Int → List Int → Int → Int → Option α) (fun _ _ _ _ => none) (fun _ next => impl_natPow_L0r N next k0) n v1881 v1882 v1883 v1884
theorem impl_natPow_L0.ex : ∃ f : ((α : Type) → Nat → Nat → List Int → List Int → Int → Int → (List Int → Option α) → Option α), f = fun α => @impl_natPow_L0.b α := ⟨_, rfl⟩
noncomputable def impl_natPow_L0 {α : Type} : Nat → Nat → List Int → List Int → Int → Int → (List Int → Option α) → Option α := Classical.choose impl_natPow_L0.ex α
theorem impl_natPow_L0.eq : @impl_natPow_L0 = @impl_natPow_L0.b := funext fun α => congrFun (Classical.choose_spec impl_natPow_L0.ex) α
theorem impl_natPow_L0.zero {α : Type} (N : Nat) (v1881 : List Int) (v1882 : List Int) (v1883 : Int) (v1884 : Int) (k0 : List Int → Option α) : impl_natPow_L0 N 0 v1881 v1882 v1883 v1884 k0 = none := by rw [impl_natPow_L0.eq]; rfl
theorem impl_natPow_L0.succ {α : Type} (N n : Nat) (v1881 : List Int) (v1882 : List Int) (v1883 : Int) (v1884 : Int) (k0 : List Int → Option α) : impl_natPow_L0 N (n + 1) v1881 v1882 v1883 v1884 k0 = impl_natPow_L0r N (fun y0 y1 y2 y3 => impl_natPow_L0 N n y0 y1 y2 y3 k0) k0 v1881 v1882 v1883 v1884 := by rw [impl_natPow_L0.eq]; rfl
/-- loop.example/pinfold/impl.natPow -/
noncomputable def impl_natPow.b {α : Type} (N : Nat) (a1878 : List Int) (a1879 : Int) (k0 : List Int → Option α) : Option α :=
  let x1880 := [(1 : Int)]
  impl_natPow_L0 N N a1878 x1880 a1879 (0 : Int)
    (fun x1946 =>
      k0 x1946)
theorem impl_natPow.ex : ∃ f : ((α : Type) → Nat → List Int → Int → (List Int → Option α) → Option α), f = fun α => @impl_natPow.b α := ⟨_, rfl⟩
noncomputable def impl_natPow {α : Type} : Nat → List Int → Int → (List Int → Option α) → Option α := Classical.choose impl_natPow.ex α
theorem impl_natPow.eq : @impl_natPow = @impl_natPow.b := funext fun α => congrFun (Classical.choose_spec impl_natPow.ex) α

/-- (loop.example/pinfold/impl.Frac).pow -/
noncomputable def impl_Frac_pow.b {α : Type} (N : Nat) (a1806 : Bool × (List Int) × (List Int) × Unit) (a1807 : Int) (k0 : (Bool × (List Int) × (List Int) × Unit) → Option α) : Option α :=
  bif a1806.1 then
    let x1808 := (Int.tmod a1807 (2 : Int))
    let x1809 := (decide (x1808 = (1 : Int)))
    impl_natPow N a1806.2.1 a1807
      (fun x1947 =>
        impl_natPow N a1806.2.2.1 a1807
          (fun x1948 =>
            k0 (x1809, (x1947, (x1948, ())))))
  else
    impl_natPow N a1806.2.1 a1807
      (fun x1949 =>
        impl_natPow N a1806.2.2.1 a1807
          (fun x1950 =>
            k0 (false, (x1949, (x1950, ())))))
theorem impl_Frac_pow.ex : ∃ f : ((α : Type) → Nat → (Bool × (List Int) × (List Int) × Unit) → Int → ((Bool × (List Int) × (List Int) × Unit) → Option α) → Option α), f = fun α => @impl_Frac_pow.b α := ⟨_, rfl⟩
noncomputable def impl_Frac_pow {α : Type} : Nat → (Bool × (List Int) × (List Int) × Unit) → Int → ((Bool × (List Int) × (List Int) × Unit) → Option α) → Option α := Classical.choose impl_Frac_pow.ex α
theorem impl_Frac_pow.eq : @impl_Frac_pow = @impl_Frac_pow.b := funext fun α => congrFun (Classical.choose_spec impl_Frac_pow.ex) α

/-- (loop.example/pinfold/impl.Frac).sign -/
noncomputable def impl_Frac_sign.b {α : Type} (N : Nat) (a1954 : Bool × (List Int) × (List Int) × Unit) (k0 : Int → Option α) : Option α :=
  bif a1954.1 then
    k0 (-1 : Int)
  else
    let x1955 := ((a1954.2.1.length : Nat) : Int)
    let x1956 := (decide (x1955 = (0 : Int)))
    bif x1956 then
      k0 (0 : Int)
    else
      k0 (1 : Int)
theorem impl_Frac_sign.ex : ∃ f : ((α : Type) → Nat → (Bool × (List Int) × (List Int) × Unit) → (Int → Option α) → Option α), f = fun α => @impl_Frac_sign.b α := ⟨_, rfl⟩
noncomputable def impl_Frac_sign {α : Type} : Nat → (Bool × (List Int) × (List Int) × Unit) → (Int → Option α) → Option α := Classical.choose impl_Frac_sign.ex α
theorem impl_Frac_sign.eq : @impl_Frac_sign = @impl_Frac_sign.b := funext fun α => congrFun (Classical.choose_spec impl_Frac_sign.ex) α

/-- (loop.example/pinfold/impl.Frac).cmp -/
noncomputable def impl_Frac_cmp.b {α : Type} (N : Nat) (a1952 : Bool × (List Int) × (List Int) × Unit) (a1953 : Bool × (List Int) × (List Int) × Unit) (k0 : Int → Option α) : Option α :=
  impl_Frac_sign N a1952
    (fun x1957 =>
      impl_Frac_sign N a1953
        (fun x1958 =>
          let x1959 := !(decide (x1957 = x1958))
          bif x1959 then
            impl_Frac_sign N a1952
              (fun x1960 =>
                impl_Frac_sign N a1953
                  (fun x1961 =>
                    let x1962 := IntKind.i64.wrap (x1960 - x1961)
                    let x1963 := (minI (1 : Int) x1962)
                    let x1964 := (maxI (-1 : Int) x1963)
                    k0 x1964))
          else
            impl_natMul N a1952.2.1 a1953.2.2.1
              (fun x1965 =>
                impl_natMul N a1953.2.1 a1952.2.2.1
                  (fun x1966 =>
                    impl_natCmp N x1965 x1966
                      (fun x1967 =>
                        bif a1952.1 then
                          let x1968 := IntKind.i64.wrap (0 - x1967)
                          k0 x1968
                        else
                          k0 x1967)))))
theorem impl_Frac_cmp.ex : ∃ f : ((α : Type) → Nat → (Bool × (List Int) × (List Int) × Unit) → (Bool × (List Int) × (List Int) × Unit) → (Int → Option α) → Option α), f = fun α => @impl_Frac_cmp.b α := ⟨_, rfl⟩
noncomputable def impl_Frac_cmp {α : Type} : Nat → (Bool × (List Int) × (List Int) × Unit) → (Bool × (List Int) × (List Int) × Unit) → (Int → Option α) → Option α := Classical.choose impl_Frac_cmp.ex α
theorem impl_Frac_cmp.eq : @impl_Frac_cmp = @impl_Frac_cmp.b := funext fun α => congrFun (Classical.choose_spec impl_Frac_cmp.ex) α

/-- loop.example/pinfold/impl.powerAbove -/
noncomputable def impl_powerAbove.b {α : Type} (N : Nat) (a1772 : Int) (a1773 : Int) (a1774 : Int) (a1775 : Bool × (List Int) × (List Int) × Unit) (k0 : Bool → Option α) : Option α :=
  impl_BitPartOf N a1772 a1773
    (fun x1776 _ =>
      impl_natOf N x1776.2.1
        (fun x1778 =>
          impl_natBits N x1778
            (fun x1791 =>
              let x1792 := (IntKind.i64.wrap (x1791 - (1 : Int)))
              let x1793 := IntKind.i64.wrap (x1792 + x1776.2.2.1)
              let x1794 := IntKind.i64.wrap (a1774 * x1793)
              impl_natBits N a1775.2.1
                (fun x1795 =>
                  impl_natBits N a1775.2.2.1
                    (fun x1796 =>
                      let x1797 := IntKind.i64.wrap (x1795 - x1796)
                      let x1798 := ((a1775.2.1.length : Nat) : Int)
                      let x1799 := (decide (x1798 = (0 : Int)))
                      bif x1799 then
                        k0 true
                      else
                        let x1800 := (IntKind.i64.wrap (x1797 + (1 : Int)))
                        let x1801 := decide (x1800 < x1794)
                        bif x1801 then
                          k0 true
                        else
                          let x1802 := IntKind.i64.wrap (x1794 + a1774)
                          let x1803 := (IntKind.i64.wrap (x1797 - (1 : Int)))
                          let x1804 := decide (x1802 < x1803)
                          bif x1804 then
                            k0 false
                          else
                            impl_value N a1772 a1773
                              (fun x1805 =>
                                impl_Frac_pow N x1805 a1774
                                  (fun x1951 =>
                                    impl_Frac_cmp N x1951 a1775
                                      (fun x1969 =>
                                        let x1970 := (decide ((0 : Int) < x1969))
                                        k0 x1970))))))))
theorem impl_powerAbove.ex : ∃ f : ((α : Type) → Nat → Int → Int → Int → (Bool × (List Int) × (List Int) × Unit) → (Bool → Option α) → Option α), f = fun α => @impl_powerAbove.b α := ⟨_, rfl⟩
noncomputable def impl_powerAbove {α : Type} : Nat → Int → Int → Int → (Bool × (List Int) × (List Int) × Unit) → (Bool → Option α) → Option α := Classical.choose impl_powerAbove.ex α
theorem impl_powerAbove.eq : @impl_powerAbove = @impl_powerAbove.b := funext fun α => congrFun (Classical.choose_spec impl_powerAbove.ex) α

noncomputable def impl_root_J5.b {α : Type} (N : Nat) (v1766 : Int) (v1767 : Int) (v1768 : Int) (v1769 : Int) (v1770 : Int) (v1771 : Bool × (List Int) × (List Int) × Unit) (k0 : Int → Int → Int → Int → (Bool × (List Int) × (List Int) × Unit) → Option α) : Option α :=
  impl_powerAbove N v1766 v1770 v1767 v1771
    (fun x1971 =>
      bif x1971 then
        let x1972 := (IntKind.i64.wrap (v1770 - (1 : Int)))
        k0 v1766 v1767 v1768 x1972 v1771
      else
        k0 v1766 v1767 v1770 v1769 v1771)
theorem impl_root_J5.ex : ∃ f : ((α : Type) → Nat → Int → Int → Int → Int → Int → (Bool × (List Int) × (List Int) × Unit) → (Int → Int → Int → Int → (Bool × (List Int) × (List Int) × Unit) → Option α) → Option α), f = fun α => @impl_root_J5.b α := ⟨_, rfl⟩
noncomputable def impl_root_J5 {α : Type} : Nat → Int → Int → Int → Int → Int → (Bool × (List Int) × (List Int) × Unit) → (Int → Int → Int → Int → (Bool × (List Int) × (List Int) × Unit) → Option α) → Option α := Classical.choose impl_root_J5.ex α
theorem impl_root_J5.eq : @impl_root_J5 = @impl_root_J5.b := funext fun α => congrFun (Classical.choose_spec impl_root_J5.ex) α
noncomputable def impl_root_L0r {α : Type} (N : Nat) (next : Int → Int → Int → Int → (Bool × (List Int) × (List Int) × Unit) → Option α) (k0 : Int → Int → Int → (Bool × (List Int) × (List Int) × Unit) → Option α) (v1756 : Int) (v1757 : Int) (v1758 : Int) (v1759 : Int) (v1760 : Bool × (List Int) × (List Int) × Unit) : Option α :=
  let x1761 := decide (v1758 < v1759)
  bif x1761 then
    let x1762 := IntKind.i64.wrap (v1759 - v1758)
    let x1763 := (IntKind.i64.wrap (x1762 + (1 : Int)))
    let x1764 := (IntKind.i64.wrap (Int.tdiv x1763 (2 : Int)))
    let x1765 := IntKind.i64.wrap (v1758 + x1764)
    impl_root_J5 N v1756 v1757 v1758 v1759 x1765 v1760
      (fun x1973 x1974 x1975 x1976 x1977 =>
        next x1973 x1974 x1975 x1976 x1977)
  else
    k0 v1756 v1757 v1758 v1760
noncomputable def impl_root_L0.b {α : Type} (N n : Nat) (v1756 : Int) (v1757 : Int) (v1758 : Int) (v1759 : Int) (v1760 : Bool × (List Int) × (List Int) × Unit) (k0 : Int → Int → Int → (Bool × (List Int) × (List Int) × Unit) → Option α) : Option α :=
  Nat.rec (motive := fun _ => Int → Int → Int → Int → (Bool × (List Int) × (List Int) × Unit) → Option α) (fun _ _ _ _ _ => none) (fun _ next => impl_root_L0r N next k0) n v1756 v1757 v1758 v1759 v1760
theorem impl_root_L0.ex : ∃ f : ((α : Type) → Nat → Nat → Int → Int → Int → Int → (Bool × (List Int) × (List Int) × Unit) → (Int → Int → Int → (Bool × (List Int) × (List Int) × Unit) → Option α) → Option α), f = fun α => @impl_root_L0.b α := ⟨_, rfl⟩
noncomputable def impl_root_L0 {α : Type} : Nat → Nat → Int → Int → Int → Int → (Bool × (List Int) × (List Int) × Unit) → (Int → Int → Int → (Bool × (List Int) × (List Int) × Unit) → Option α) → Option α := Classical.choose impl_root_L0.ex α
theorem impl_root_L0.eq : @impl_root_L0 = @impl_root_L0.b := funext fun α => congrFun (Classical.choose_spec impl_root_L0.ex) α
theorem impl_root_L0.zero {α : Type} (N : Nat) (v1756 : Int) (v1757 : Int) (v1758 : Int) (v1759 : Int) (v1760 : Bool × (List Int) × (List Int) × Unit) (k0 : Int → Int → Int → (Bool × (List Int) × (List Int) × Unit) → Option α) : impl_root_L0 N 0 v1756 v1757 v1758 v1759 v1760 k0 = none := by rw [impl_root_L0.eq]; rfl
theorem impl_root_L0.succ {α : Type} (N n : Nat) (v1756 : Int) (v1757 : Int) (v1758 : Int) (v1759 : Int) (v1760 : Bool × (List Int) × (List Int) × Unit) (k0 : Int → Int → Int → (Bool × (List Int) × (List Int) × Unit) → Option α) : impl_root_L0 N (n + 1) v1756 v1757 v1758 v1759 v1760 k0 = impl_root_L0r N (fun y0 y1 y2 y3 y4 => impl_root_L0 N n y0 y1 y2 y3 y4 k0) k0 v1756 v1757 v1758 v1759 v1760 := by rw [impl_root_L0.eq]; rfl
/-- loop.example/pinfold/impl.root -/
noncomputable def impl_root.b {α : Type} (N : Nat) (a518 : Int) (a519 : Int) (a520 : Int) (k0 : Int → Bool → Option α) : Option α :=
  impl_value N a518 a519
    (fun x1753 =>
      impl_BitTop N a518
        (fun x1754 =>
          let x1755 := (IntKind.i64.wrap (x1754 - (1 : Int)))
          impl_root_L0 N N a518 a520 (0 : Int) x1755 x1753
            (fun x1978 x1979 x1980 x1981 =>
              impl_value N x1978 x1980
                (fun x1982 =>
                  impl_Frac_pow N x1982 x1979
                    (fun x1983 =>
                      impl_Frac_cmp N x1983 x1981
                        (fun x1984 =>
                          let x1985 := (decide (x1984 = (0 : Int)))
                          k0 x1980 x1985))))))
theorem impl_root.ex : ∃ f : ((α : Type) → Nat → Int → Int → Int → (Int → Bool → Option α) → Option α), f = fun α => @impl_root.b α := ⟨_, rfl⟩
noncomputable def impl_root {α : Type} : Nat → Int → Int → Int → (Int → Bool → Option α) → Option α := Classical.choose impl_root.ex α
theorem impl_root.eq : @impl_root = @impl_root.b := funext fun α => congrFun (Classical.choose_spec impl_root.ex) α

noncomputable def impl_rootUp_J6.b {α : Type} (N : Nat) (v1988 : Int) (v1989 : Bool) (k0 : Int → Option α) : Option α :=
  let x1990 := !v1989
  bif x1990 then
    let x1991 := (IntKind.i64.wrap (v1988 + (1 : Int)))
    k0 x1991
  else
    k0 v1988
theorem impl_rootUp_J6.ex : ∃ f : ((α : Type) → Nat → Int → Bool → (Int → Option α) → Option α), f = fun α => @impl_rootUp_J6.b α := ⟨_, rfl⟩
noncomputable def impl_rootUp_J6 {α : Type} : Nat → Int → Bool → (Int → Option α) → Option α := Classical.choose impl_rootUp_J6.ex α
theorem impl_rootUp_J6.eq : @impl_rootUp_J6 = @impl_rootUp_J6.b := funext fun α => congrFun (Classical.choose_spec impl_rootUp_J6.ex) α
/-- loop.example/pinfold/impl.rootUp -/
noncomputable def impl_rootUp.b {α : Type} (N : Nat) (a508 : Int) (a509 : Int) (a510 : Int) (k0 : Int → Option α) : Option α :=
  let x511 := (decide (a509 < (0 : Int)))
  bif x511 then
    let x512 := IntKind.i64.wrap (0 - a509)
    impl_rootDown_b N a508 x512 a510
  else
    impl_BitTop N a508
      (fun x516 =>
        let x517 := decide (a509 = x516)
        bif x517 then
          k0 a509
        else
          impl_root N a508 a509 a510
            (fun x1986 x1987 =>
              impl_rootUp_J6 N x1986 x1987
                (fun x1992 =>
                  k0 x1992)))
theorem impl_rootUp.ex : ∃ f : ((α : Type) → Nat → Int → Int → Int → (Int → Option α) → Option α), f = fun α => @impl_rootUp.b α := ⟨_, rfl⟩
noncomputable def impl_rootUp {α : Type} : Nat → Int → Int → Int → (Int → Option α) → Option α := Classical.choose impl_rootUp.ex α
theorem impl_rootUp.eq : @impl_rootUp = @impl_rootUp.b := funext fun α => congrFun (Classical.choose_spec impl_rootUp.ex) α

/-- loop.example/pinfold/impl.rootDown -/
noncomputable def impl_rootDown.b {α : Type} (N : Nat) (a503 : Int) (a504 : Int) (a505 : Int) (k0 : Int → Option α) : Option α :=
  let x506 := (decide (a504 < (0 : Int)))
  bif x506 then
    let x507 := IntKind.i64.wrap (0 - a504)
    impl_rootUp N a503 x507 a505
      (fun x1993 =>
        let x1994 := IntKind.i64.wrap (0 - x1993)
        k0 x1994)
  else
    impl_BitTop N a503
      (fun x1995 =>
        let x1996 := decide (a504 = x1995)
        bif x1996 then
          k0 a504
        else
          impl_root N a503 a504 a505
            (fun x1997 _ =>
              k0 x1997))
theorem impl_rootDown.ex : ∃ f : ((α : Type) → Nat → Int → Int → Int → (Int → Option α) → Option α), f = fun α => @impl_rootDown.b α := ⟨_, rfl⟩
noncomputable def impl_rootDown {α : Type} : Nat → Int → Int → Int → (Int → Option α) → Option α := Classical.choose impl_rootDown.ex α
theorem impl_rootDown.eq : @impl_rootDown = @impl_rootDown.b := funext fun α => congrFun (Classical.choose_spec impl_rootDown.ex) α

noncomputable def impl_rootUp_b_J6.b {α : Type} (N : Nat) (v2011 : Int) (v2012 : Bool) (k0 : Int → Option α) : Option α :=
  let x2013 := !v2012
  bif x2013 then
    let x2014 := (IntKind.i64.wrap (v2011 + (1 : Int)))
    k0 x2014
  else
    k0 v2011
theorem impl_rootUp_b_J6.ex : ∃ f : ((α : Type) → Nat → Int → Bool → (Int → Option α) → Option α), f = fun α => @impl_rootUp_b_J6.b α := ⟨_, rfl⟩
noncomputable def impl_rootUp_b_J6 {α : Type} : Nat → Int → Bool → (Int → Option α) → Option α := Classical.choose impl_rootUp_b_J6.ex α
theorem impl_rootUp_b_J6.eq : @impl_rootUp_b_J6 = @impl_rootUp_b_J6.b := funext fun α => congrFun (Classical.choose_spec impl_rootUp_b_J6.ex) α
/-- loop.example/pinfold/impl.rootUp -/
noncomputable def impl_rootUp_b.b {α : Type} (N : Nat) (a2000 : Int) (a2001 : Int) (a2002 : Int) (k0 : Int → Option α) : Option α :=
  let x2003 := (decide (a2001 < (0 : Int)))
  bif x2003 then
    let x2004 := IntKind.i64.wrap (0 - a2001)
    impl_rootDown N a2000 x2004 a2002
      (fun x2005 =>
        let x2006 := IntKind.i64.wrap (0 - x2005)
        k0 x2006)
  else
    impl_BitTop N a2000
      (fun x2007 =>
        let x2008 := decide (a2001 = x2007)
        bif x2008 then
          k0 a2001
        else
          impl_root N a2000 a2001 a2002
            (fun x2009 x2010 =>
              impl_rootUp_b_J6 N x2009 x2010
                (fun x2015 =>
                  k0 x2015)))
theorem impl_rootUp_b.ex : ∃ f : ((α : Type) → Nat → Int → Int → Int → (Int → Option α) → Option α), f = fun α => @impl_rootUp_b.b α := ⟨_, rfl⟩
noncomputable def impl_rootUp_b {α : Type} : Nat → Int → Int → Int → (Int → Option α) → Option α := Classical.choose impl_rootUp_b.ex α
theorem impl_rootUp_b.eq : @impl_rootUp_b = @impl_rootUp_b.b := funext fun α => congrFun (Classical.choose_spec impl_rootUp_b.ex) α

/-- loop.example/pinfold/impl.SpanRoot -/
noncomputable def impl_SpanRoot.b {α : Type} (N : Nat) (a434 : Int) (a435 : Bool × Int × Int × Unit) (k0 : (Bool × Int × Int × Unit) → Option α) : Option α :=
  impl_from N a434 (0 : Int)
    (fun x448 =>
      impl_SpanMeet N a434 a435 x448
        (fun x501 =>
          let x502 := !x501.1
          bif x502 then
            k0 (false, ((0 : Int), ((0 : Int), ())))
          else
            impl_rootDown N a434 x501.2.1 (2 : Int)
              (fun x1999 =>
                impl_rootUp_b N a434 x501.2.2.1 (2 : Int)
                  (fun x2016 =>
                    impl_some N x1999 x2016
                      (fun x2017 =>
                        k0 x2017)))))
theorem impl_SpanRoot.ex : ∃ f : ((α : Type) → Nat → Int → (Bool × Int × Int × Unit) → ((Bool × Int × Int × Unit) → Option α) → Option α), f = fun α => @impl_SpanRoot.b α := ⟨_, rfl⟩
noncomputable def impl_SpanRoot {α : Type} : Nat → Int → (Bool × Int × Int × Unit) → ((Bool × Int × Int × Unit) → Option α) → Option α := Classical.choose impl_SpanRoot.ex α
theorem impl_SpanRoot.eq : @impl_SpanRoot = @impl_SpanRoot.b := funext fun α => congrFun (Classical.choose_spec impl_SpanRoot.ex) α

/-- loop.example/pinfold/laws.eqSpan -/
noncomputable def laws_eqSpan.b {α : Type} (N : Nat) (a2019 : Bool × Int × Int × Unit) (a2020 : Bool × Int × Int × Unit) (k0 : Bool → Option α) : Option α :=
  let x2021 := !(a2019.1 == a2020.1)
  bif x2021 then
    k0 false
  else
    let x2022 := !(decide (a2019.2.1 = a2020.2.1))
    bif x2022 then
      k0 false
    else
      let x2023 := !(decide (a2019.2.2.1 = a2020.2.2.1))
      bif x2023 then
        k0 false
      else
        k0 true
theorem laws_eqSpan.ex : ∃ f : ((α : Type) → Nat → (Bool × Int × Int × Unit) → (Bool × Int × Int × Unit) → (Bool → Option α) → Option α), f = fun α => @laws_eqSpan.b α := ⟨_, rfl⟩
noncomputable def laws_eqSpan {α : Type} : Nat → (Bool × Int × Int × Unit) → (Bool × Int × Int × Unit) → (Bool → Option α) → Option α := Classical.choose laws_eqSpan.ex α
theorem laws_eqSpan.eq : @laws_eqSpan = @laws_eqSpan.b := funext fun α => congrFun (Classical.choose_spec laws_eqSpan.ex) α

/-- loop.example/pinfold/laws.FnExactSpanRoot -/
noncomputable def laws_FnExactSpanRoot.b {α : Type} (N : Nat) (a1 : Int) (a2 : Bool × Int × Int × Unit) (k0 : Bool → Option α) : Option α :=
  laws_toSpan N a2
    (fun x4 =>
      spec_SpanRoot N a1 x4
        (fun x432 =>
          laws_toSpan N a2
            (fun x433 =>
              impl_SpanRoot N a1 x433
                (fun x2018 =>
                  laws_eqSpan N x2018 x432
                    (fun x2024 =>
                      let x2025 := !x2024
                      bif x2025 then
                        k0 false
                      else
                        k0 true)))))
theorem laws_FnExactSpanRoot.ex : ∃ f : ((α : Type) → Nat → Int → (Bool × Int × Int × Unit) → (Bool → Option α) → Option α), f = fun α => @laws_FnExactSpanRoot.b α := ⟨_, rfl⟩
noncomputable def laws_FnExactSpanRoot {α : Type} : Nat → Int → (Bool × Int × Int × Unit) → (Bool → Option α) → Option α := Classical.choose laws_FnExactSpanRoot.ex α
theorem laws_FnExactSpanRoot.eq : @laws_FnExactSpanRoot = @laws_FnExactSpanRoot.b := funext fun α => congrFun (Classical.choose_spec laws_FnExactSpanRoot.ex) α

end
end Go.Proofs.YtlbihmicbncdiaaAm
