/-
  The functions that the program computes, as the abstract machine tells them. Printed by amp.py.
-/
import Derived.Test.YtaelbfbplamahaaAmb
namespace Go.Proofs.YtaelbfbplamahaaAm
open Go
noncomputable section
set_option linter.unusedVariables false
set_option linter.unusedSimpArgs false

/-- loop.example/pinfold/laws.toPair -/
noncomputable def laws_toPair.b {α : Type} (N : Nat) (a4 : Int × Int × Unit) (k0 : (Int × Int × Unit) → Option α) : Option α :=
  k0 (a4.1, (a4.2.1, ()))
theorem laws_toPair.ex : ∃ f : ((α : Type) → Nat → (Int × Int × Unit) → ((Int × Int × Unit) → Option α) → Option α), f = fun α => @laws_toPair.b α := ⟨_, rfl⟩
noncomputable def laws_toPair {α : Type} : Nat → (Int × Int × Unit) → ((Int × Int × Unit) → Option α) → Option α := Classical.choose laws_toPair.ex α
theorem laws_toPair.eq : @laws_toPair = @laws_toPair.b := funext fun α => congrFun (Classical.choose_spec laws_toPair.ex) α

/-- loop.example/pinfold/spec.BitTop -/
noncomputable def spec_BitTop.b {α : Type} (N : Nat) (a12 : Int) (k0 : Int → Option α) : Option α :=
  let x13 := (decide (a12 = (32 : Int)))
  bif x13 then
    k0 (2139095040 : Int)
  else
    let x14 := (decide (a12 = (64 : Int)))
    bif x14 then
      k0 (9218868437227405312 : Int)
    else
      k0 (0 : Int)
theorem spec_BitTop.ex : ∃ f : ((α : Type) → Nat → Int → (Int → Option α) → Option α), f = fun α => @spec_BitTop.b α := ⟨_, rfl⟩
noncomputable def spec_BitTop {α : Type} : Nat → Int → (Int → Option α) → Option α := Classical.choose spec_BitTop.ex α
theorem spec_BitTop.eq : @spec_BitTop = @spec_BitTop.b := funext fun α => congrFun (Classical.choose_spec spec_BitTop.ex) α

/-- loop.example/pinfold/spec.l1Width -/
noncomputable def spec_l1Width.b {α : Type} (N : Nat) (a18 : Int) (k0 : Bool → Option α) : Option α :=
  let x19 := (decide (a18 = (32 : Int)))
  bif x19 then
    k0 true
  else
    let x20 := (decide (a18 = (64 : Int)))
    k0 x20
theorem spec_l1Width.ex : ∃ f : ((α : Type) → Nat → Int → (Bool → Option α) → Option α), f = fun α => @spec_l1Width.b α := ⟨_, rfl⟩
noncomputable def spec_l1Width {α : Type} : Nat → Int → (Bool → Option α) → Option α := Classical.choose spec_l1Width.ex α
theorem spec_l1Width.eq : @spec_l1Width = @spec_l1Width.b := funext fun α => congrFun (Classical.choose_spec spec_l1Width.ex) α

/-- loop.example/pinfold/spec.BitOk -/
noncomputable def spec_BitOk.b {α : Type} (N : Nat) (a16 : Int) (a17 : Int) (k0 : Bool → Option α) : Option α :=
  spec_l1Width N a16
    (fun x21 =>
      bif x21 then
        spec_BitTop N a16
          (fun x22 =>
            let x23 := IntKind.i64.wrap (0 - x22)
            let x24 := decide (x23 ≤ a17)
            bif x24 then
              spec_BitTop N a16
                (fun x25 =>
                  let x26 := decide (a17 ≤ x25)
                  k0 x26)
            else
              k0 false)
      else
        k0 false)
theorem spec_BitOk.ex : ∃ f : ((α : Type) → Nat → Int → Int → (Bool → Option α) → Option α), f = fun α => @spec_BitOk.b α := ⟨_, rfl⟩
noncomputable def spec_BitOk {α : Type} : Nat → Int → Int → (Bool → Option α) → Option α := Classical.choose spec_BitOk.ex α
theorem spec_BitOk.eq : @spec_BitOk = @spec_BitOk.b := funext fun α => congrFun (Classical.choose_spec spec_BitOk.ex) α

/-- loop.example/pinfold/spec.PairOk -/
noncomputable def spec_PairOk.b {α : Type} (N : Nat) (a10 : Int) (a11 : Int × Int × Unit) (k0 : Bool → Option α) : Option α :=
  spec_BitTop N a10
    (fun x15 =>
      spec_BitOk N a10 a11.1
        (fun x27 =>
          bif x27 then
            spec_BitOk N a10 a11.2.1
              (fun x28 =>
                bif x28 then
                  let x29 := decide (a11.1 ≤ a11.2.1)
                  bif x29 then
                    let x30 := decide (a11.1 < x15)
                    bif x30 then
                      let x31 := IntKind.i64.wrap (0 - x15)
                      let x32 := decide (x31 < a11.2.1)
                      k0 x32
                    else
                      k0 false
                  else
                    k0 false
                else
                  k0 false)
          else
            k0 false))
theorem spec_PairOk.ex : ∃ f : ((α : Type) → Nat → Int → (Int × Int × Unit) → (Bool → Option α) → Option α), f = fun α => @spec_PairOk.b α := ⟨_, rfl⟩
noncomputable def spec_PairOk {α : Type} : Nat → Int → (Int × Int × Unit) → (Bool → Option α) → Option α := Classical.choose spec_PairOk.ex α
theorem spec_PairOk.eq : @spec_PairOk = @spec_PairOk.b := funext fun α => congrFun (Classical.choose_spec spec_PairOk.ex) α

/-- loop.example/pinfold/spec.BitGap -/
noncomputable def spec_BitGap.b {α : Type} (N : Nat) (a41 : Int) (a42 : Int) (k0 : Int → Option α) : Option α :=
  let x43 := decide (a42 < a41)
  bif x43 then
    k0 (0 : Int)
  else
    let x44 := IntKind.u64.wrap a42
    let x45 := IntKind.u64.wrap a41
    let x46 := IntKind.u64.wrap (x44 - x45)
    k0 x46
theorem spec_BitGap.ex : ∃ f : ((α : Type) → Nat → Int → Int → (Int → Option α) → Option α), f = fun α => @spec_BitGap.b α := ⟨_, rfl⟩
noncomputable def spec_BitGap {α : Type} : Nat → Int → Int → (Int → Option α) → Option α := Classical.choose spec_BitGap.ex α
theorem spec_BitGap.eq : @spec_BitGap = @spec_BitGap.b := funext fun α => congrFun (Classical.choose_spec spec_BitGap.ex) α

/-- loop.example/pinfold/spec.l3Gap -/
noncomputable def spec_l3Gap.b {α : Type} (N : Nat) (a40 : Int × Int × Unit) (k0 : Int → Option α) : Option α :=
  spec_BitGap N a40.1 a40.2.1
    (fun x47 =>
      k0 x47)
theorem spec_l3Gap.ex : ∃ f : ((α : Type) → Nat → (Int × Int × Unit) → (Int → Option α) → Option α), f = fun α => @spec_l3Gap.b α := ⟨_, rfl⟩
noncomputable def spec_l3Gap {α : Type} : Nat → (Int × Int × Unit) → (Int → Option α) → Option α := Classical.choose spec_l3Gap.ex α
theorem spec_l3Gap.eq : @spec_l3Gap = @spec_l3Gap.b := funext fun α => congrFun (Classical.choose_spec spec_l3Gap.ex) α

/-- loop.example/pinfold/spec.PairCut -/
noncomputable def spec_PairCut.b {α : Type} (N : Nat) (a7 : Int) (a8 : Int × Int × Unit) (a9 : Int × Int × Unit) (k0 : (Int × Int × Unit) → (Int × Int × Unit) → Bool → Option α) : Option α :=
  spec_PairOk N a7 a8
    (fun x33 =>
      let x34 := !x33
      bif x34 then
        k0 ((0 : Int), ((0 : Int), ())) ((0 : Int), ((0 : Int), ())) false
      else
        let x35 := decide (a9.2.1 ≤ a9.1)
        bif x35 then
          k0 ((0 : Int), ((0 : Int), ())) ((0 : Int), ((0 : Int), ())) false
        else
          spec_PairOk N a7 (a8.1, (a9.1, ()))
            (fun x36 =>
              let x37 := !x36
              bif x37 then
                k0 ((0 : Int), ((0 : Int), ())) ((0 : Int), ((0 : Int), ())) false
              else
                spec_PairOk N a7 (a9.2.1, (a8.2.1, ()))
                  (fun x38 =>
                    let x39 := !x38
                    bif x39 then
                      k0 ((0 : Int), ((0 : Int), ())) ((0 : Int), ((0 : Int), ())) false
                    else
                      spec_l3Gap N (a9.2.1, (a8.2.1, ()))
                        (fun x48 =>
                          spec_l3Gap N (a8.1, (a9.1, ()))
                            (fun x49 =>
                              let x50 := decide (x48 < x49)
                              bif x50 then
                                k0 (a9.2.1, (a8.2.1, ())) (a8.1, (a9.1, ())) true
                              else
                                k0 (a8.1, (a9.1, ())) (a9.2.1, (a8.2.1, ())) true)))))
theorem spec_PairCut.ex : ∃ f : ((α : Type) → Nat → Int → (Int × Int × Unit) → (Int × Int × Unit) → ((Int × Int × Unit) → (Int × Int × Unit) → Bool → Option α) → Option α), f = fun α => @spec_PairCut.b α := ⟨_, rfl⟩
noncomputable def spec_PairCut {α : Type} : Nat → Int → (Int × Int × Unit) → (Int × Int × Unit) → ((Int × Int × Unit) → (Int × Int × Unit) → Bool → Option α) → Option α := Classical.choose spec_PairCut.ex α
theorem spec_PairCut.eq : @spec_PairCut = @spec_PairCut.b := funext fun α => congrFun (Classical.choose_spec spec_PairCut.ex) α

/-- loop.example/pinfold/impl.formatOf -/
noncomputable def impl_formatOf.b {α : Type} (N : Nat) (a62 : Int) (k0 : (Int × Int × Int × Int × Unit) → Bool → Option α) : Option α :=
  let x63 := (decide (a62 = (32 : Int)))
  bif x63 then
    k0 ((23 : Int), ((-149 : Int), ((127 : Int), ((2139095040 : Int), ())))) true
  else
    let x64 := (decide (a62 = (64 : Int)))
    bif x64 then
      k0 ((52 : Int), ((-1074 : Int), ((1023 : Int), ((9218868437227405312 : Int), ())))) true
    else
      k0 ((0 : Int), ((0 : Int), ((0 : Int), ((0 : Int), ())))) false
theorem impl_formatOf.ex : ∃ f : ((α : Type) → Nat → Int → ((Int × Int × Int × Int × Unit) → Bool → Option α) → Option α), f = fun α => @impl_formatOf.b α := ⟨_, rfl⟩
noncomputable def impl_formatOf {α : Type} : Nat → Int → ((Int × Int × Int × Int × Unit) → Bool → Option α) → Option α := Classical.choose impl_formatOf.ex α
theorem impl_formatOf.eq : @impl_formatOf = @impl_formatOf.b := funext fun α => congrFun (Classical.choose_spec impl_formatOf.ex) α

/-- loop.example/pinfold/impl.BitTop -/
noncomputable def impl_BitTop.b {α : Type} (N : Nat) (a61 : Int) (k0 : Int → Option α) : Option α :=
  impl_formatOf N a61
    (fun x65 _ =>
      k0 x65.2.2.2.1)
theorem impl_BitTop.ex : ∃ f : ((α : Type) → Nat → Int → (Int → Option α) → Option α), f = fun α => @impl_BitTop.b α := ⟨_, rfl⟩
noncomputable def impl_BitTop {α : Type} : Nat → Int → (Int → Option α) → Option α := Classical.choose impl_BitTop.ex α
theorem impl_BitTop.eq : @impl_BitTop = @impl_BitTop.b := funext fun α => congrFun (Classical.choose_spec impl_BitTop.ex) α

/-- loop.example/pinfold/impl.in -/
noncomputable def impl_in.b {α : Type} (N : Nat) (a73 : Int) (a74 : Int) (a75 : Int) (k0 : Bool → Option α) : Option α :=
  let x76 := decide (a74 ≤ a73)
  bif x76 then
    let x77 := decide (a73 ≤ a75)
    k0 x77
  else
    k0 false
theorem impl_in.ex : ∃ f : ((α : Type) → Nat → Int → Int → Int → (Bool → Option α) → Option α), f = fun α => @impl_in.b α := ⟨_, rfl⟩
noncomputable def impl_in {α : Type} : Nat → Int → Int → Int → (Bool → Option α) → Option α := Classical.choose impl_in.ex α
theorem impl_in.eq : @impl_in = @impl_in.b := funext fun α => congrFun (Classical.choose_spec impl_in.ex) α

/-- loop.example/pinfold/impl.BitOk -/
noncomputable def impl_BitOk.b {α : Type} (N : Nat) (a68 : Int) (a69 : Int) (k0 : Bool → Option α) : Option α :=
  impl_formatOf N a68
    (fun x70 x71 =>
      bif x71 then
        let x72 := IntKind.i64.wrap (0 - x70.2.2.2.1)
        impl_in N a69 x72 x70.2.2.2.1
          (fun x78 =>
            k0 x78)
      else
        k0 false)
theorem impl_BitOk.ex : ∃ f : ((α : Type) → Nat → Int → Int → (Bool → Option α) → Option α), f = fun α => @impl_BitOk.b α := ⟨_, rfl⟩
noncomputable def impl_BitOk {α : Type} : Nat → Int → Int → (Bool → Option α) → Option α := Classical.choose impl_BitOk.ex α
theorem impl_BitOk.eq : @impl_BitOk = @impl_BitOk.b := funext fun α => congrFun (Classical.choose_spec impl_BitOk.ex) α

/-- loop.example/pinfold/impl.PairOk -/
noncomputable def impl_PairOk.b {α : Type} (N : Nat) (a59 : Int) (a60 : Int × Int × Unit) (k0 : Bool → Option α) : Option α :=
  impl_BitTop N a59
    (fun x67 =>
      impl_BitOk N a59 a60.1
        (fun x79 =>
          bif x79 then
            impl_BitOk N a59 a60.2.1
              (fun x80 =>
                bif x80 then
                  let x81 := decide (a60.1 ≤ a60.2.1)
                  bif x81 then
                    let x82 := !(decide (a60.1 = x67))
                    bif x82 then
                      let x83 := IntKind.i64.wrap (0 - x67)
                      let x84 := !(decide (a60.2.1 = x83))
                      k0 x84
                    else
                      k0 false
                  else
                    k0 false
                else
                  k0 false)
          else
            k0 false))
theorem impl_PairOk.ex : ∃ f : ((α : Type) → Nat → Int → (Int × Int × Unit) → (Bool → Option α) → Option α), f = fun α => @impl_PairOk.b α := ⟨_, rfl⟩
noncomputable def impl_PairOk {α : Type} : Nat → Int → (Int × Int × Unit) → (Bool → Option α) → Option α := Classical.choose impl_PairOk.ex α
theorem impl_PairOk.eq : @impl_PairOk = @impl_PairOk.b := funext fun α => congrFun (Classical.choose_spec impl_PairOk.ex) α

/-- loop.example/pinfold/impl.BitGap -/
noncomputable def impl_BitGap.b {α : Type} (N : Nat) (a93 : Int) (a94 : Int) (k0 : Int → Option α) : Option α :=
  let x95 := decide (a94 < a93)
  bif x95 then
    k0 (0 : Int)
  else
    let x96 := IntKind.u64.wrap a94
    let x97 := IntKind.u64.wrap a93
    let x98 := IntKind.u64.wrap (x96 - x97)
    k0 x98
theorem impl_BitGap.ex : ∃ f : ((α : Type) → Nat → Int → Int → (Int → Option α) → Option α), f = fun α => @impl_BitGap.b α := ⟨_, rfl⟩
noncomputable def impl_BitGap {α : Type} : Nat → Int → Int → (Int → Option α) → Option α := Classical.choose impl_BitGap.ex α
theorem impl_BitGap.eq : @impl_BitGap = @impl_BitGap.b := funext fun α => congrFun (Classical.choose_spec impl_BitGap.ex) α

/-- (loop.example/pinfold/impl.Pair).steps -/
noncomputable def impl_Pair_steps.b {α : Type} (N : Nat) (a92 : Int × Int × Unit) (k0 : Int → Option α) : Option α :=
  impl_BitGap N a92.1 a92.2.1
    (fun x99 =>
      k0 x99)
theorem impl_Pair_steps.ex : ∃ f : ((α : Type) → Nat → (Int × Int × Unit) → (Int → Option α) → Option α), f = fun α => @impl_Pair_steps.b α := ⟨_, rfl⟩
noncomputable def impl_Pair_steps {α : Type} : Nat → (Int × Int × Unit) → (Int → Option α) → Option α := Classical.choose impl_Pair_steps.ex α
theorem impl_Pair_steps.eq : @impl_Pair_steps = @impl_Pair_steps.b := funext fun α => congrFun (Classical.choose_spec impl_Pair_steps.ex) α

/-- loop.example/pinfold/impl.PairCut -/
noncomputable def impl_PairCut.b {α : Type} (N : Nat) (a56 : Int) (a57 : Int × Int × Unit) (a58 : Int × Int × Unit) (k0 : (Int × Int × Unit) → (Int × Int × Unit) → Bool → Option α) : Option α :=
  impl_PairOk N a56 a57
    (fun x85 =>
      let x86 := !x85
      bif x86 then
        k0 ((0 : Int), ((0 : Int), ())) ((0 : Int), ((0 : Int), ())) false
      else
        let x87 := decide (a58.2.1 ≤ a58.1)
        bif x87 then
          k0 ((0 : Int), ((0 : Int), ())) ((0 : Int), ((0 : Int), ())) false
        else
          impl_PairOk N a56 (a57.1, (a58.1, ()))
            (fun x88 =>
              let x89 := !x88
              bif x89 then
                k0 ((0 : Int), ((0 : Int), ())) ((0 : Int), ((0 : Int), ())) false
              else
                impl_PairOk N a56 (a58.2.1, (a57.2.1, ()))
                  (fun x90 =>
                    let x91 := !x90
                    bif x91 then
                      k0 ((0 : Int), ((0 : Int), ())) ((0 : Int), ((0 : Int), ())) false
                    else
                      impl_Pair_steps N (a58.2.1, (a57.2.1, ()))
                        (fun x100 =>
                          impl_Pair_steps N (a57.1, (a58.1, ()))
                            (fun x101 =>
                              let x102 := decide (x100 < x101)
                              bif x102 then
                                k0 (a58.2.1, (a57.2.1, ())) (a57.1, (a58.1, ())) true
                              else
                                k0 (a57.1, (a58.1, ())) (a58.2.1, (a57.2.1, ())) true)))))
theorem impl_PairCut.ex : ∃ f : ((α : Type) → Nat → Int → (Int × Int × Unit) → (Int × Int × Unit) → ((Int × Int × Unit) → (Int × Int × Unit) → Bool → Option α) → Option α), f = fun α => @impl_PairCut.b α := ⟨_, rfl⟩
noncomputable def impl_PairCut {α : Type} : Nat → Int → (Int × Int × Unit) → (Int × Int × Unit) → ((Int × Int × Unit) → (Int × Int × Unit) → Bool → Option α) → Option α := Classical.choose impl_PairCut.ex α
theorem impl_PairCut.eq : @impl_PairCut = @impl_PairCut.b := funext fun α => congrFun (Classical.choose_spec impl_PairCut.ex) α

/-- loop.example/pinfold/laws.eqPair -/
noncomputable def laws_eqPair.b {α : Type} (N : Nat) (a106 : Int × Int × Unit) (a107 : Int × Int × Unit) (k0 : Bool → Option α) : Option α :=
  let x108 := !(decide (a106.1 = a107.1))
  bif x108 then
    k0 false
  else
    let x109 := !(decide (a106.2.1 = a107.2.1))
    bif x109 then
      k0 false
    else
      k0 true
theorem laws_eqPair.ex : ∃ f : ((α : Type) → Nat → (Int × Int × Unit) → (Int × Int × Unit) → (Bool → Option α) → Option α), f = fun α => @laws_eqPair.b α := ⟨_, rfl⟩
noncomputable def laws_eqPair {α : Type} : Nat → (Int × Int × Unit) → (Int × Int × Unit) → (Bool → Option α) → Option α := Classical.choose laws_eqPair.ex α
theorem laws_eqPair.eq : @laws_eqPair = @laws_eqPair.b := funext fun α => congrFun (Classical.choose_spec laws_eqPair.ex) α

/-- loop.example/pinfold/laws.FnExactPairCut -/
noncomputable def laws_FnExactPairCut.b {α : Type} (N : Nat) (a1 : Int) (a2 : Int × Int × Unit) (a3 : Int × Int × Unit) (k0 : Bool → Option α) : Option α :=
  laws_toPair N a2
    (fun x5 =>
      laws_toPair N a3
        (fun x6 =>
          spec_PairCut N a1 x5 x6
            (fun x51 x52 x53 =>
              laws_toPair N a2
                (fun x54 =>
                  laws_toPair N a3
                    (fun x55 =>
                      impl_PairCut N a1 x54 x55
                        (fun x103 x104 x105 =>
                          laws_eqPair N x103 x51
                            (fun x110 =>
                              let x111 := !x110
                              bif x111 then
                                k0 false
                              else
                                laws_eqPair N x104 x52
                                  (fun x112 =>
                                    let x113 := !x112
                                    bif x113 then
                                      k0 false
                                    else
                                      let x114 := !(x105 == x53)
                                      bif x114 then
                                        k0 false
                                      else
                                        k0 true))))))))
theorem laws_FnExactPairCut.ex : ∃ f : ((α : Type) → Nat → Int → (Int × Int × Unit) → (Int × Int × Unit) → (Bool → Option α) → Option α), f = fun α => @laws_FnExactPairCut.b α := ⟨_, rfl⟩
noncomputable def laws_FnExactPairCut {α : Type} : Nat → Int → (Int × Int × Unit) → (Int × Int × Unit) → (Bool → Option α) → Option α := Classical.choose laws_FnExactPairCut.ex α
theorem laws_FnExactPairCut.eq : @laws_FnExactPairCut = @laws_FnExactPairCut.b := funext fun α => congrFun (Classical.choose_spec laws_FnExactPairCut.ex) α

end
end Go.Proofs.YtaelbfbplamahaaAm
