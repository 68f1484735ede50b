/-
  The functions that the program computes, as the abstract machine tells them. Printed by amp.py.
-/
import Derived.Test.YtaelbfbplamahaaAmb
namespace Go.Proofs.YtaelbfbplamahaaAm
open Go
noncomputable section
set_option linter.unusedVariables false
set_option linter.unusedSimpArgs false

/-- loop.example/pinfold/laws.toPair -/
noncomputable def laws_toPair.b {α : Type} (N : Nat) (a3 : Int × Int × Unit) (k0 : (Int × Int × Unit) → Option α) : Option α :=
  k0 (a3.1, (a3.2.1, ()))
theorem laws_toPair.ex : ∃ f : ((α : Type) → Nat → (Int × Int × Unit) → ((Int × Int × Unit) → Option α) → Option α), f = fun α => @laws_toPair.b α := ⟨_, rfl⟩
noncomputable def laws_toPair {α : Type} : Nat → (Int × Int × Unit) → ((Int × Int × Unit) → Option α) → Option α := Classical.choose laws_toPair.ex α
theorem laws_toPair.eq : @laws_toPair = @laws_toPair.b := funext fun α => congrFun (Classical.choose_spec laws_toPair.ex) α

/-- loop.example/pinfold/spec.BitTop -/
noncomputable def spec_BitTop.b {α : Type} (N : Nat) (a9 : Int) (k0 : Int → Option α) : Option α :=
  let x10 := (decide (a9 = (32 : Int)))
  bif x10 then
    k0 (2139095040 : Int)
  else
    let x11 := (decide (a9 = (64 : Int)))
    bif x11 then
      k0 (9218868437227405312 : Int)
    else
      k0 (0 : Int)
theorem spec_BitTop.ex : ∃ f : ((α : Type) → Nat → Int → (Int → Option α) → Option α), f = fun α => @spec_BitTop.b α := ⟨_, rfl⟩
noncomputable def spec_BitTop {α : Type} : Nat → Int → (Int → Option α) → Option α := Classical.choose spec_BitTop.ex α
theorem spec_BitTop.eq : @spec_BitTop = @spec_BitTop.b := funext fun α => congrFun (Classical.choose_spec spec_BitTop.ex) α

/-- loop.example/pinfold/spec.l1Width -/
noncomputable def spec_l1Width.b {α : Type} (N : Nat) (a15 : Int) (k0 : Bool → Option α) : Option α :=
  let x16 := (decide (a15 = (32 : Int)))
  bif x16 then
    k0 true
  else
    let x17 := (decide (a15 = (64 : Int)))
    k0 x17
theorem spec_l1Width.ex : ∃ f : ((α : Type) → Nat → Int → (Bool → Option α) → Option α), f = fun α => @spec_l1Width.b α := ⟨_, rfl⟩
noncomputable def spec_l1Width {α : Type} : Nat → Int → (Bool → Option α) → Option α := Classical.choose spec_l1Width.ex α
theorem spec_l1Width.eq : @spec_l1Width = @spec_l1Width.b := funext fun α => congrFun (Classical.choose_spec spec_l1Width.ex) α

/-- loop.example/pinfold/spec.BitOk -/
noncomputable def spec_BitOk.b {α : Type} (N : Nat) (a13 : Int) (a14 : Int) (k0 : Bool → Option α) : Option α :=
  spec_l1Width N a13
    (fun x18 =>
      bif x18 then
        spec_BitTop N a13
          (fun x19 =>
            let x20 := IntKind.i64.wrap (0 - x19)
            let x21 := decide (x20 ≤ a14)
            bif x21 then
              spec_BitTop N a13
                (fun x22 =>
                  let x23 := decide (a14 ≤ x22)
                  k0 x23)
            else
              k0 false)
      else
        k0 false)
theorem spec_BitOk.ex : ∃ f : ((α : Type) → Nat → Int → Int → (Bool → Option α) → Option α), f = fun α => @spec_BitOk.b α := ⟨_, rfl⟩
noncomputable def spec_BitOk {α : Type} : Nat → Int → Int → (Bool → Option α) → Option α := Classical.choose spec_BitOk.ex α
theorem spec_BitOk.eq : @spec_BitOk = @spec_BitOk.b := funext fun α => congrFun (Classical.choose_spec spec_BitOk.ex) α

/-- loop.example/pinfold/spec.PairOk -/
noncomputable def spec_PairOk.b {α : Type} (N : Nat) (a7 : Int) (a8 : Int × Int × Unit) (k0 : Bool → Option α) : Option α :=
  spec_BitTop N a7
    (fun x12 =>
      spec_BitOk N a7 a8.1
        (fun x24 =>
          bif x24 then
            spec_BitOk N a7 a8.2.1
              (fun x25 =>
                bif x25 then
                  let x26 := decide (a8.1 ≤ a8.2.1)
                  bif x26 then
                    let x27 := decide (a8.1 < x12)
                    bif x27 then
                      let x28 := IntKind.i64.wrap (0 - x12)
                      let x29 := decide (x28 < a8.2.1)
                      k0 x29
                    else
                      k0 false
                  else
                    k0 false
                else
                  k0 false)
          else
            k0 false))
theorem spec_PairOk.ex : ∃ f : ((α : Type) → Nat → Int → (Int × Int × Unit) → (Bool → Option α) → Option α), f = fun α => @spec_PairOk.b α := ⟨_, rfl⟩
noncomputable def spec_PairOk {α : Type} : Nat → Int → (Int × Int × Unit) → (Bool → Option α) → Option α := Classical.choose spec_PairOk.ex α
theorem spec_PairOk.eq : @spec_PairOk = @spec_PairOk.b := funext fun α => congrFun (Classical.choose_spec spec_PairOk.ex) α

/-- loop.example/pinfold/spec.BitGap -/
noncomputable def spec_BitGap.b {α : Type} (N : Nat) (a33 : Int) (a34 : Int) (k0 : Int → Option α) : Option α :=
  let x35 := decide (a34 < a33)
  bif x35 then
    k0 (0 : Int)
  else
    let x36 := IntKind.u64.wrap a34
    let x37 := IntKind.u64.wrap a33
    let x38 := IntKind.u64.wrap (x36 - x37)
    k0 x38
theorem spec_BitGap.ex : ∃ f : ((α : Type) → Nat → Int → Int → (Int → Option α) → Option α), f = fun α => @spec_BitGap.b α := ⟨_, rfl⟩
noncomputable def spec_BitGap {α : Type} : Nat → Int → Int → (Int → Option α) → Option α := Classical.choose spec_BitGap.ex α
theorem spec_BitGap.eq : @spec_BitGap = @spec_BitGap.b := funext fun α => congrFun (Classical.choose_spec spec_BitGap.ex) α

/-- loop.example/pinfold/spec.l3Gap -/
noncomputable def spec_l3Gap.b {α : Type} (N : Nat) (a32 : Int × Int × Unit) (k0 : Int → Option α) : Option α :=
  spec_BitGap N a32.1 a32.2.1
    (fun x39 =>
      k0 x39)
theorem spec_l3Gap.ex : ∃ f : ((α : Type) → Nat → (Int × Int × Unit) → (Int → Option α) → Option α), f = fun α => @spec_l3Gap.b α := ⟨_, rfl⟩
noncomputable def spec_l3Gap {α : Type} : Nat → (Int × Int × Unit) → (Int → Option α) → Option α := Classical.choose spec_l3Gap.ex α
theorem spec_l3Gap.eq : @spec_l3Gap = @spec_l3Gap.b := funext fun α => congrFun (Classical.choose_spec spec_l3Gap.ex) α

/-- loop.example/pinfold/spec.BitMiddle -/
noncomputable def spec_BitMiddle.b {α : Type} (N : Nat) (a42 : Int) (a43 : Int) (k0 : Int → Option α) : Option α :=
  let x44 := IntKind.u64.wrap a42
  spec_BitGap N a42 a43
    (fun x45 =>
      let x46 := (IntKind.u64.wrap (Int.tdiv x45 (2 : Int)))
      let x47 := IntKind.u64.wrap (x44 + x46)
      let x48 := IntKind.i64.wrap x47
      k0 x48)
theorem spec_BitMiddle.ex : ∃ f : ((α : Type) → Nat → Int → Int → (Int → Option α) → Option α), f = fun α => @spec_BitMiddle.b α := ⟨_, rfl⟩
noncomputable def spec_BitMiddle {α : Type} : Nat → Int → Int → (Int → Option α) → Option α := Classical.choose spec_BitMiddle.ex α
theorem spec_BitMiddle.eq : @spec_BitMiddle = @spec_BitMiddle.b := funext fun α => congrFun (Classical.choose_spec spec_BitMiddle.ex) α

/-- loop.example/pinfold/spec.PairSplit -/
noncomputable def spec_PairSplit.b {α : Type} (N : Nat) (a5 : Int) (a6 : Int × Int × Unit) (k0 : (Int × Int × Unit) → (Int × Int × Unit) → Bool → Option α) : Option α :=
  spec_PairOk N a5 a6
    (fun x30 =>
      let x31 := !x30
      bif x31 then
        k0 ((0 : Int), ((0 : Int), ())) ((0 : Int), ((0 : Int), ())) false
      else
        spec_l3Gap N a6
          (fun x40 =>
            let x41 := (decide (x40 < (2 : Int)))
            bif x41 then
              k0 ((0 : Int), ((0 : Int), ())) ((0 : Int), ((0 : Int), ())) false
            else
              spec_BitMiddle N a6.1 a6.2.1
                (fun x49 =>
                  k0 (a6.1, (x49, ())) (x49, (a6.2.1, ())) true)))
theorem spec_PairSplit.ex : ∃ f : ((α : Type) → Nat → Int → (Int × Int × Unit) → ((Int × Int × Unit) → (Int × Int × Unit) → Bool → Option α) → Option α), f = fun α => @spec_PairSplit.b α := ⟨_, rfl⟩
noncomputable def spec_PairSplit {α : Type} : Nat → Int → (Int × Int × Unit) → ((Int × Int × Unit) → (Int × Int × Unit) → Bool → Option α) → Option α := Classical.choose spec_PairSplit.ex α
theorem spec_PairSplit.eq : @spec_PairSplit = @spec_PairSplit.b := funext fun α => congrFun (Classical.choose_spec spec_PairSplit.ex) α

/-- loop.example/pinfold/impl.formatOf -/
noncomputable def impl_formatOf.b {α : Type} (N : Nat) (a59 : Int) (k0 : (Int × Int × Int × Int × Unit) → Bool → Option α) : Option α :=
  let x60 := (decide (a59 = (32 : Int)))
  bif x60 then
    k0 ((23 : Int), ((-149 : Int), ((127 : Int), ((2139095040 : Int), ())))) true
  else
    let x61 := (decide (a59 = (64 : Int)))
    bif x61 then
      k0 ((52 : Int), ((-1074 : Int), ((1023 : Int), ((9218868437227405312 : Int), ())))) true
    else
      k0 ((0 : Int), ((0 : Int), ((0 : Int), ((0 : Int), ())))) false
theorem impl_formatOf.ex : ∃ f : ((α : Type) → Nat → Int → ((Int × Int × Int × Int × Unit) → Bool → Option α) → Option α), f = fun α => @impl_formatOf.b α := ⟨_, rfl⟩
noncomputable def impl_formatOf {α : Type} : Nat → Int → ((Int × Int × Int × Int × Unit) → Bool → Option α) → Option α := Classical.choose impl_formatOf.ex α
theorem impl_formatOf.eq : @impl_formatOf = @impl_formatOf.b := funext fun α => congrFun (Classical.choose_spec impl_formatOf.ex) α

/-- loop.example/pinfold/impl.BitTop -/
noncomputable def impl_BitTop.b {α : Type} (N : Nat) (a58 : Int) (k0 : Int → Option α) : Option α :=
  impl_formatOf N a58
    (fun x62 _ =>
      k0 x62.2.2.2.1)
theorem impl_BitTop.ex : ∃ f : ((α : Type) → Nat → Int → (Int → Option α) → Option α), f = fun α => @impl_BitTop.b α := ⟨_, rfl⟩
noncomputable def impl_BitTop {α : Type} : Nat → Int → (Int → Option α) → Option α := Classical.choose impl_BitTop.ex α
theorem impl_BitTop.eq : @impl_BitTop = @impl_BitTop.b := funext fun α => congrFun (Classical.choose_spec impl_BitTop.ex) α

/-- loop.example/pinfold/impl.in -/
noncomputable def impl_in.b {α : Type} (N : Nat) (a70 : Int) (a71 : Int) (a72 : Int) (k0 : Bool → Option α) : Option α :=
  let x73 := decide (a71 ≤ a70)
  bif x73 then
    let x74 := decide (a70 ≤ a72)
    k0 x74
  else
    k0 false
theorem impl_in.ex : ∃ f : ((α : Type) → Nat → Int → Int → Int → (Bool → Option α) → Option α), f = fun α => @impl_in.b α := ⟨_, rfl⟩
noncomputable def impl_in {α : Type} : Nat → Int → Int → Int → (Bool → Option α) → Option α := Classical.choose impl_in.ex α
theorem impl_in.eq : @impl_in = @impl_in.b := funext fun α => congrFun (Classical.choose_spec impl_in.ex) α

/-- loop.example/pinfold/impl.BitOk -/
noncomputable def impl_BitOk.b {α : Type} (N : Nat) (a65 : Int) (a66 : Int) (k0 : Bool → Option α) : Option α :=
  impl_formatOf N a65
    (fun x67 x68 =>
      bif x68 then
        let x69 := IntKind.i64.wrap (0 - x67.2.2.2.1)
        impl_in N a66 x69 x67.2.2.2.1
          (fun x75 =>
            k0 x75)
      else
        k0 false)
theorem impl_BitOk.ex : ∃ f : ((α : Type) → Nat → Int → Int → (Bool → Option α) → Option α), f = fun α => @impl_BitOk.b α := ⟨_, rfl⟩
noncomputable def impl_BitOk {α : Type} : Nat → Int → Int → (Bool → Option α) → Option α := Classical.choose impl_BitOk.ex α
theorem impl_BitOk.eq : @impl_BitOk = @impl_BitOk.b := funext fun α => congrFun (Classical.choose_spec impl_BitOk.ex) α

/-- loop.example/pinfold/impl.PairOk -/
noncomputable def impl_PairOk.b {α : Type} (N : Nat) (a56 : Int) (a57 : Int × Int × Unit) (k0 : Bool → Option α) : Option α :=
  impl_BitTop N a56
    (fun x64 =>
      impl_BitOk N a56 a57.1
        (fun x76 =>
          bif x76 then
            impl_BitOk N a56 a57.2.1
              (fun x77 =>
                bif x77 then
                  let x78 := decide (a57.1 ≤ a57.2.1)
                  bif x78 then
                    let x79 := !(decide (a57.1 = x64))
                    bif x79 then
                      let x80 := IntKind.i64.wrap (0 - x64)
                      let x81 := !(decide (a57.2.1 = x80))
                      k0 x81
                    else
                      k0 false
                  else
                    k0 false
                else
                  k0 false)
          else
            k0 false))
theorem impl_PairOk.ex : ∃ f : ((α : Type) → Nat → Int → (Int × Int × Unit) → (Bool → Option α) → Option α), f = fun α => @impl_PairOk.b α := ⟨_, rfl⟩
noncomputable def impl_PairOk {α : Type} : Nat → Int → (Int × Int × Unit) → (Bool → Option α) → Option α := Classical.choose impl_PairOk.ex α
theorem impl_PairOk.eq : @impl_PairOk = @impl_PairOk.b := funext fun α => congrFun (Classical.choose_spec impl_PairOk.ex) α

/-- loop.example/pinfold/impl.BitGap -/
noncomputable def impl_BitGap.b {α : Type} (N : Nat) (a85 : Int) (a86 : Int) (k0 : Int → Option α) : Option α :=
  let x87 := decide (a86 < a85)
  bif x87 then
    k0 (0 : Int)
  else
    let x88 := IntKind.u64.wrap a86
    let x89 := IntKind.u64.wrap a85
    let x90 := IntKind.u64.wrap (x88 - x89)
    k0 x90
theorem impl_BitGap.ex : ∃ f : ((α : Type) → Nat → Int → Int → (Int → Option α) → Option α), f = fun α => @impl_BitGap.b α := ⟨_, rfl⟩
noncomputable def impl_BitGap {α : Type} : Nat → Int → Int → (Int → Option α) → Option α := Classical.choose impl_BitGap.ex α
theorem impl_BitGap.eq : @impl_BitGap = @impl_BitGap.b := funext fun α => congrFun (Classical.choose_spec impl_BitGap.ex) α

/-- (loop.example/pinfold/impl.Pair).steps -/
noncomputable def impl_Pair_steps.b {α : Type} (N : Nat) (a84 : Int × Int × Unit) (k0 : Int → Option α) : Option α :=
  impl_BitGap N a84.1 a84.2.1
    (fun x91 =>
      k0 x91)
theorem impl_Pair_steps.ex : ∃ f : ((α : Type) → Nat → (Int × Int × Unit) → (Int → Option α) → Option α), f = fun α => @impl_Pair_steps.b α := ⟨_, rfl⟩
noncomputable def impl_Pair_steps {α : Type} : Nat → (Int × Int × Unit) → (Int → Option α) → Option α := Classical.choose impl_Pair_steps.ex α
theorem impl_Pair_steps.eq : @impl_Pair_steps = @impl_Pair_steps.b := funext fun α => congrFun (Classical.choose_spec impl_Pair_steps.ex) α

/-- loop.example/pinfold/impl.BitMiddle -/
noncomputable def impl_BitMiddle.b {α : Type} (N : Nat) (a94 : Int) (a95 : Int) (k0 : Int → Option α) : Option α :=
  impl_BitGap N a94 a95
    (fun x96 =>
      let x97 := (IntKind.u64.wrap (Int.tdiv x96 (2 : Int)))
      let x98 := IntKind.i64.wrap x97
      let x99 := IntKind.i64.wrap (a94 + x98)
      k0 x99)
theorem impl_BitMiddle.ex : ∃ f : ((α : Type) → Nat → Int → Int → (Int → Option α) → Option α), f = fun α => @impl_BitMiddle.b α := ⟨_, rfl⟩
noncomputable def impl_BitMiddle {α : Type} : Nat → Int → Int → (Int → Option α) → Option α := Classical.choose impl_BitMiddle.ex α
theorem impl_BitMiddle.eq : @impl_BitMiddle = @impl_BitMiddle.b := funext fun α => congrFun (Classical.choose_spec impl_BitMiddle.ex) α

/-- loop.example/pinfold/impl.PairSplit -/
noncomputable def impl_PairSplit.b {α : Type} (N : Nat) (a54 : Int) (a55 : Int × Int × Unit) (k0 : (Int × Int × Unit) → (Int × Int × Unit) → Bool → Option α) : Option α :=
  impl_PairOk N a54 a55
    (fun x82 =>
      let x83 := !x82
      bif x83 then
        k0 ((0 : Int), ((0 : Int), ())) ((0 : Int), ((0 : Int), ())) false
      else
        impl_Pair_steps N a55
          (fun x92 =>
            let x93 := (decide (x92 < (2 : Int)))
            bif x93 then
              k0 ((0 : Int), ((0 : Int), ())) ((0 : Int), ((0 : Int), ())) false
            else
              impl_BitMiddle N a55.1 a55.2.1
                (fun x100 =>
                  k0 (a55.1, (x100, ())) (x100, (a55.2.1, ())) true)))
theorem impl_PairSplit.ex : ∃ f : ((α : Type) → Nat → Int → (Int × Int × Unit) → ((Int × Int × Unit) → (Int × Int × Unit) → Bool → Option α) → Option α), f = fun α => @impl_PairSplit.b α := ⟨_, rfl⟩
noncomputable def impl_PairSplit {α : Type} : Nat → Int → (Int × Int × Unit) → ((Int × Int × Unit) → (Int × Int × Unit) → Bool → Option α) → Option α := Classical.choose impl_PairSplit.ex α
theorem impl_PairSplit.eq : @impl_PairSplit = @impl_PairSplit.b := funext fun α => congrFun (Classical.choose_spec impl_PairSplit.ex) α

/-- loop.example/pinfold/laws.eqPair -/
noncomputable def laws_eqPair.b {α : Type} (N : Nat) (a104 : Int × Int × Unit) (a105 : Int × Int × Unit) (k0 : Bool → Option α) : Option α :=
  let x106 := !(decide (a104.1 = a105.1))
  bif x106 then
    k0 false
  else
    let x107 := !(decide (a104.2.1 = a105.2.1))
    bif x107 then
      k0 false
    else
      k0 true
theorem laws_eqPair.ex : ∃ f : ((α : Type) → Nat → (Int × Int × Unit) → (Int × Int × Unit) → (Bool → Option α) → Option α), f = fun α => @laws_eqPair.b α := ⟨_, rfl⟩
noncomputable def laws_eqPair {α : Type} : Nat → (Int × Int × Unit) → (Int × Int × Unit) → (Bool → Option α) → Option α := Classical.choose laws_eqPair.ex α
theorem laws_eqPair.eq : @laws_eqPair = @laws_eqPair.b := funext fun α => congrFun (Classical.choose_spec laws_eqPair.ex) α

/-- loop.example/pinfold/laws.FnExactPairSplit -/
noncomputable def laws_FnExactPairSplit.b {α : Type} (N : Nat) (a1 : Int) (a2 : Int × Int × Unit) (k0 : Bool → Option α) : Option α :=
  laws_toPair N a2
    (fun x4 =>
      spec_PairSplit N a1 x4
        (fun x50 x51 x52 =>
          laws_toPair N a2
            (fun x53 =>
              impl_PairSplit N a1 x53
                (fun x101 x102 x103 =>
                  laws_eqPair N x101 x50
                    (fun x108 =>
                      let x109 := !x108
                      bif x109 then
                        k0 false
                      else
                        laws_eqPair N x102 x51
                          (fun x110 =>
                            let x111 := !x110
                            bif x111 then
                              k0 false
                            else
                              let x112 := !(x103 == x52)
                              bif x112 then
                                k0 false
                              else
                                k0 true))))))
theorem laws_FnExactPairSplit.ex : ∃ f : ((α : Type) → Nat → Int → (Int × Int × Unit) → (Bool → Option α) → Option α), f = fun α => @laws_FnExactPairSplit.b α := ⟨_, rfl⟩
noncomputable def laws_FnExactPairSplit {α : Type} : Nat → Int → (Int × Int × Unit) → (Bool → Option α) → Option α := Classical.choose laws_FnExactPairSplit.ex α
theorem laws_FnExactPairSplit.eq : @laws_FnExactPairSplit = @laws_FnExactPairSplit.b := funext fun α => congrFun (Classical.choose_spec laws_FnExactPairSplit.ex) α

end
end Go.Proofs.YtaelbfbplamahaaAm
