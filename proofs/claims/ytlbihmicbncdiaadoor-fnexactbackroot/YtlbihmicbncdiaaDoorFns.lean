/-
  The functions that the program computes, as the abstract machine tells them. Printed by amp.py.
-/
import Derived.Test.YtlbihmicbncdiaaDoorAmc
namespace Go.Proofs.YtlbihmicbncdiaaDoorAm
open Go
noncomputable section
set_option linter.unusedVariables false
set_option linter.unusedSimpArgs false

/-- laws.toSpan -/
noncomputable def laws_toSpan.b {α : Type} (N : Nat) (a4 : Bool × Int × Int × Unit) (k0 : (Bool × Int × Int × Unit) → Option α) : Option α :=
 k0 (a4.1, (a4.2.1, (a4.2.2.1, ())))
theorem laws_toSpan.ex : ∃ f : ((α : Type) → Nat → (Bool × Int × Int × Unit) → ((Bool × Int × Int × Unit) → Option α) → Option α), f = fun α => @laws_toSpan.b α := ⟨_, rfl⟩
noncomputable def laws_toSpan {α : Type} : Nat → (Bool × Int × Int × Unit) → ((Bool × Int × Int × Unit) → Option α) → Option α := Classical.choose laws_toSpan.ex α
theorem laws_toSpan.eq : @laws_toSpan = @laws_toSpan.b := funext fun α => congrFun (Classical.choose_spec laws_toSpan.ex) α

/-- spec.BitTop -/
noncomputable def spec_BitTop.b {α : Type} (N : Nat) (a12 : Int) (k0 : Int → Option α) : Option α :=
 let x13 := (decide (a12 = (32 : Int)))
 bif x13 then
  k0 (2139095040 : Int)
 else
  let x14 := (decide (a12 = (64 : Int)))
  bif x14 then
   k0 (9218868437227405312 : Int)
  else
   k0 (0 : Int)
theorem spec_BitTop.ex : ∃ f : ((α : Type) → Nat → Int → (Int → Option α) → Option α), f = fun α => @spec_BitTop.b α := ⟨_, rfl⟩
noncomputable def spec_BitTop {α : Type} : Nat → Int → (Int → Option α) → Option α := Classical.choose spec_BitTop.ex α
theorem spec_BitTop.eq : @spec_BitTop = @spec_BitTop.b := funext fun α => congrFun (Classical.choose_spec spec_BitTop.ex) α

/-- spec.l9Of -/
noncomputable def spec_l9Of.b {α : Type} (N : Nat) (a16 : Int) (a17 : Int) (k0 : (Bool × Int × Int × Unit) → Option α) : Option α :=
 k0 (true, (a16, (a17, ())))
theorem spec_l9Of.ex : ∃ f : ((α : Type) → Nat → Int → Int → ((Bool × Int × Int × Unit) → Option α) → Option α), f = fun α => @spec_l9Of.b α := ⟨_, rfl⟩
noncomputable def spec_l9Of {α : Type} : Nat → Int → Int → ((Bool × Int × Int × Unit) → Option α) → Option α := Classical.choose spec_l9Of.ex α
theorem spec_l9Of.eq : @spec_l9Of = @spec_l9Of.b := funext fun α => congrFun (Classical.choose_spec spec_l9Of.ex) α

/-- spec.l1Width -/
noncomputable def spec_l1Width.b {α : Type} (N : Nat) (a28 : Int) (k0 : Bool → Option α) : Option α :=
 let x29 := (decide (a28 = (32 : Int)))
 bif x29 then
  k0 true
 else
  let x30 := (decide (a28 = (64 : Int)))
  k0 x30
theorem spec_l1Width.ex : ∃ f : ((α : Type) → Nat → Int → (Bool → Option α) → Option α), f = fun α => @spec_l1Width.b α := ⟨_, rfl⟩
noncomputable def spec_l1Width {α : Type} : Nat → Int → (Bool → Option α) → Option α := Classical.choose spec_l1Width.ex α
theorem spec_l1Width.eq : @spec_l1Width = @spec_l1Width.b := funext fun α => congrFun (Classical.choose_spec spec_l1Width.ex) α

/-- spec.l9Pair -/
noncomputable def spec_l9Pair.b {α : Type} (N : Nat) (a34 : Bool × Int × Int × Unit) (k0 : (Int × Int × Unit) → Option α) : Option α :=
 k0 (a34.2.1, (a34.2.2.1, ()))
theorem spec_l9Pair.ex : ∃ f : ((α : Type) → Nat → (Bool × Int × Int × Unit) → ((Int × Int × Unit) → Option α) → Option α), f = fun α => @spec_l9Pair.b α := ⟨_, rfl⟩
noncomputable def spec_l9Pair {α : Type} : Nat → (Bool × Int × Int × Unit) → ((Int × Int × Unit) → Option α) → Option α := Classical.choose spec_l9Pair.ex α
theorem spec_l9Pair.eq : @spec_l9Pair = @spec_l9Pair.b := funext fun α => congrFun (Classical.choose_spec spec_l9Pair.ex) α

/-- spec.BitOk -/
noncomputable def spec_BitOk.b {α : Type} (N : Nat) (a39 : Int) (a40 : Int) (k0 : Bool → Option α) : Option α :=
 spec_l1Width N a39
  (fun x41 =>
   bif x41 then
    spec_BitTop N a39
     (fun x42 =>
      let x43 := IntKind.i64.wrap (0 - x42)
      let x44 := decide (x43 ≤ a40)
      bif x44 then
       spec_BitTop N a39
        (fun x45 =>
         let x46 := decide (a40 ≤ x45)
         k0 x46)
      else
       k0 false)
   else
    k0 false)
theorem spec_BitOk.ex : ∃ f : ((α : Type) → Nat → Int → Int → (Bool → Option α) → Option α), f = fun α => @spec_BitOk.b α := ⟨_, rfl⟩
noncomputable def spec_BitOk {α : Type} : Nat → Int → Int → (Bool → Option α) → Option α := Classical.choose spec_BitOk.ex α
theorem spec_BitOk.eq : @spec_BitOk = @spec_BitOk.b := funext fun α => congrFun (Classical.choose_spec spec_BitOk.ex) α

/-- spec.PairOk -/
noncomputable def spec_PairOk.b {α : Type} (N : Nat) (a36 : Int) (a37 : Int × Int × Unit) (k0 : Bool → Option α) : Option α :=
 spec_BitTop N a36
  (fun x38 =>
   spec_BitOk N a36 a37.1
    (fun x47 =>
     bif x47 then
      spec_BitOk N a36 a37.2.1
       (fun x48 =>
        bif x48 then
         let x49 := decide (a37.1 ≤ a37.2.1)
         bif x49 then
          let x50 := decide (a37.1 < x38)
          bif x50 then
           let x51 := IntKind.i64.wrap (0 - x38)
           let x52 := decide (x51 < a37.2.1)
           k0 x52
          else
           k0 false
         else
          k0 false
        else
         k0 false)
     else
      k0 false))
theorem spec_PairOk.ex : ∃ f : ((α : Type) → Nat → Int → (Int × Int × Unit) → (Bool → Option α) → Option α), f = fun α => @spec_PairOk.b α := ⟨_, rfl⟩
noncomputable def spec_PairOk {α : Type} : Nat → Int → (Int × Int × Unit) → (Bool → Option α) → Option α := Classical.choose spec_PairOk.ex α
theorem spec_PairOk.eq : @spec_PairOk = @spec_PairOk.b := funext fun α => congrFun (Classical.choose_spec spec_PairOk.ex) α

/-- spec.SpanOk -/
noncomputable def spec_SpanOk.b {α : Type} (N : Nat) (a25 : Int) (a26 : Bool × Int × Int × Unit) (k0 : Bool → Option α) : Option α :=
 let x27 := !a26.1
 bif x27 then
  spec_l1Width N a25
   (fun x31 =>
    bif x31 then
     let x32 := (decide (a26.2.1 = (0 : Int)))
     bif x32 then
      let x33 := (decide (a26.2.2.1 = (0 : Int)))
      k0 x33
     else
      k0 false
    else
     k0 false)
 else
  spec_l9Pair N a26
   (fun x35 =>
    spec_PairOk N a25 x35
     (fun x53 =>
      k0 x53))
theorem spec_SpanOk.ex : ∃ f : ((α : Type) → Nat → Int → (Bool × Int × Int × Unit) → (Bool → Option α) → Option α), f = fun α => @spec_SpanOk.b α := ⟨_, rfl⟩
noncomputable def spec_SpanOk {α : Type} : Nat → Int → (Bool × Int × Int × Unit) → (Bool → Option α) → Option α := Classical.choose spec_SpanOk.ex α
theorem spec_SpanOk.eq : @spec_SpanOk = @spec_SpanOk.b := funext fun α => congrFun (Classical.choose_spec spec_SpanOk.ex) α

/-- spec.l9Both -/
noncomputable def spec_l9Both.b {α : Type} (N : Nat) (a22 : Int) (a23 : Bool × Int × Int × Unit) (a24 : Bool × Int × Int × Unit) (k0 : Bool → Option α) : Option α :=
 spec_SpanOk N a22 a23
  (fun x54 =>
   bif x54 then
    spec_SpanOk N a22 a24
     (fun x55 =>
      bif x55 then
       bif a23.1 then
        k0 a24.1
       else
        k0 false
      else
       k0 false)
   else
    k0 false)
theorem spec_l9Both.ex : ∃ f : ((α : Type) → Nat → Int → (Bool × Int × Int × Unit) → (Bool × Int × Int × Unit) → (Bool → Option α) → Option α), f = fun α => @spec_l9Both.b α := ⟨_, rfl⟩
noncomputable def spec_l9Both {α : Type} : Nat → Int → (Bool × Int × Int × Unit) → (Bool × Int × Int × Unit) → (Bool → Option α) → Option α := Classical.choose spec_l9Both.ex α
theorem spec_l9Both.eq : @spec_l9Both = @spec_l9Both.b := funext fun α => congrFun (Classical.choose_spec spec_l9Both.ex) α

/-- spec.l3Max -/
noncomputable def spec_l3Max.b {α : Type} (N : Nat) (a63 : Int) (a64 : Int) (k0 : Int → Option α) : Option α :=
 let x65 := decide (a64 < a63)
 bif x65 then
  k0 a63
 else
  k0 a64
theorem spec_l3Max.ex : ∃ f : ((α : Type) → Nat → Int → Int → (Int → Option α) → Option α), f = fun α => @spec_l3Max.b α := ⟨_, rfl⟩
noncomputable def spec_l3Max {α : Type} : Nat → Int → Int → (Int → Option α) → Option α := Classical.choose spec_l3Max.ex α
theorem spec_l3Max.eq : @spec_l3Max = @spec_l3Max.b := funext fun α => congrFun (Classical.choose_spec spec_l3Max.ex) α

/-- spec.l3Min -/
noncomputable def spec_l3Min.b {α : Type} (N : Nat) (a67 : Int) (a68 : Int) (k0 : Int → Option α) : Option α :=
 let x69 := decide (a67 < a68)
 bif x69 then
  k0 a67
 else
  k0 a68
theorem spec_l3Min.ex : ∃ f : ((α : Type) → Nat → Int → Int → (Int → Option α) → Option α), f = fun α => @spec_l3Min.b α := ⟨_, rfl⟩
noncomputable def spec_l3Min {α : Type} : Nat → Int → Int → (Int → Option α) → Option α := Classical.choose spec_l3Min.ex α
theorem spec_l3Min.eq : @spec_l3Min = @spec_l3Min.b := funext fun α => congrFun (Classical.choose_spec spec_l3Min.ex) α

/-- spec.PairMeet -/
noncomputable def spec_PairMeet.b {α : Type} (N : Nat) (a60 : Int) (a61 : Int × Int × Unit) (a62 : Int × Int × Unit) (k0 : (Int × Int × Unit) → Bool → Option α) : Option α :=
 spec_l3Max N a61.1 a62.1
  (fun x66 =>
   spec_l3Min N a61.2.1 a62.2.1
    (fun x70 =>
     spec_PairOk N a60 a61
      (fun x71 =>
       let x72 := !x71
       bif x72 then
        k0 ((0 : Int), ((0 : Int), ())) false
       else
        spec_PairOk N a60 a62
         (fun x73 =>
          let x74 := !x73
          bif x74 then
           k0 ((0 : Int), ((0 : Int), ())) false
          else
           let x75 := decide (x70 < x66)
           bif x75 then
            k0 ((0 : Int), ((0 : Int), ())) false
           else
            k0 (x66, (x70, ())) true))))
theorem spec_PairMeet.ex : ∃ f : ((α : Type) → Nat → Int → (Int × Int × Unit) → (Int × Int × Unit) → ((Int × Int × Unit) → Bool → Option α) → Option α), f = fun α => @spec_PairMeet.b α := ⟨_, rfl⟩
noncomputable def spec_PairMeet {α : Type} : Nat → Int → (Int × Int × Unit) → (Int × Int × Unit) → ((Int × Int × Unit) → Bool → Option α) → Option α := Classical.choose spec_PairMeet.ex α
theorem spec_PairMeet.eq : @spec_PairMeet = @spec_PairMeet.b := funext fun α => congrFun (Classical.choose_spec spec_PairMeet.ex) α

/-- spec.SpanMeet -/
noncomputable def spec_SpanMeet.b {α : Type} (N : Nat) (a19 : Int) (a20 : Bool × Int × Int × Unit) (a21 : Bool × Int × Int × Unit) (k0 : (Bool × Int × Int × Unit) → Option α) : Option α :=
 spec_l9Both N a19 a20 a21
  (fun x56 =>
   let x57 := !x56
   bif x57 then
    k0 (false, ((0 : Int), ((0 : Int), ())))
   else
    spec_l9Pair N a20
     (fun x58 =>
      spec_l9Pair N a21
       (fun x59 =>
        spec_PairMeet N a19 x58 x59
         (fun x76 x77 =>
          let x78 := !x77
          bif x78 then
           k0 (false, ((0 : Int), ((0 : Int), ())))
          else
           spec_l9Of N x76.1 x76.2.1
            (fun x79 =>
             k0 x79)))))
theorem spec_SpanMeet.ex : ∃ f : ((α : Type) → Nat → Int → (Bool × Int × Int × Unit) → (Bool × Int × Int × Unit) → ((Bool × Int × Int × Unit) → Option α) → Option α), f = fun α => @spec_SpanMeet.b α := ⟨_, rfl⟩
noncomputable def spec_SpanMeet {α : Type} : Nat → Int → (Bool × Int × Int × Unit) → (Bool × Int × Int × Unit) → ((Bool × Int × Int × Unit) → Option α) → Option α := Classical.choose spec_SpanMeet.ex α
theorem spec_SpanMeet.eq : @spec_SpanMeet = @spec_SpanMeet.b := funext fun α => congrFun (Classical.choose_spec spec_SpanMeet.ex) α

/-- spec.l9From -/
noncomputable def spec_l9From.b {α : Type} (N : Nat) (a10 : Int) (a11 : Bool × Int × Int × Unit) (k0 : (Bool × Int × Int × Unit) → Option α) : Option α :=
 spec_BitTop N a10
  (fun x15 =>
   spec_l9Of N (0 : Int) x15
    (fun x18 =>
     spec_SpanMeet N a10 a11 x18
      (fun x80 =>
       k0 x80)))
theorem spec_l9From.ex : ∃ f : ((α : Type) → Nat → Int → (Bool × Int × Int × Unit) → ((Bool × Int × Int × Unit) → Option α) → Option α), f = fun α => @spec_l9From.b α := ⟨_, rfl⟩
noncomputable def spec_l9From {α : Type} : Nat → Int → (Bool × Int × Int × Unit) → ((Bool × Int × Int × Unit) → Option α) → Option α := Classical.choose spec_l9From.ex α
theorem spec_l9From.eq : @spec_l9From = @spec_l9From.b := funext fun α => congrFun (Classical.choose_spec spec_l9From.ex) α

/-- spec.l1Frac -/
noncomputable def spec_l1Frac.b {α : Type} (N : Nat) (a101 : Int) (k0 : Int → Option α) : Option α :=
 let x102 := (decide (a101 = (32 : Int)))
 bif x102 then
  k0 (23 : Int)
 else
  k0 (52 : Int)
theorem spec_l1Frac.ex : ∃ f : ((α : Type) → Nat → Int → (Int → Option α) → Option α), f = fun α => @spec_l1Frac.b α := ⟨_, rfl⟩
noncomputable def spec_l1Frac {α : Type} : Nat → Int → (Int → Option α) → Option α := Classical.choose spec_l1Frac.ex α
theorem spec_l1Frac.eq : @spec_l1Frac = @spec_l1Frac.b := funext fun α => congrFun (Classical.choose_spec spec_l1Frac.ex) α

noncomputable def spec_l5Bits_L0r {α : Type} (N : Nat) (next : Int → Int → Option α) (k0 : Int → Option α) (v114 : Int) (v115 : Int) : Option α :=
 let x116 := (decide ((0 : Int) < v115))
 bif x116 then
  let x117 := (IntKind.i64.wrap (v114 + (1 : Int)))
  let x118 := (IntKind.i64.wrap (Int.tdiv v115 (2 : Int)))
  next x117 x118
 else
  k0 v114
noncomputable def spec_l5Bits_L0.b {α : Type} (N n : Nat) (v114 : Int) (v115 : Int) (k0 : Int → Option α) : Option α :=
  Nat.rec (motive := fun _ => Int → Int → Option α) (fun _ _ => none) (fun _ next => spec_l5Bits_L0r N next k0) n v114 v115
theorem spec_l5Bits_L0.ex : ∃ f : ((α : Type) → Nat → Nat → Int → Int → (Int → Option α) → Option α), f = fun α => @spec_l5Bits_L0.b α := ⟨_, rfl⟩
noncomputable def spec_l5Bits_L0 {α : Type} : Nat → Nat → Int → Int → (Int → Option α) → Option α := Classical.choose spec_l5Bits_L0.ex α
theorem spec_l5Bits_L0.eq : @spec_l5Bits_L0 = @spec_l5Bits_L0.b := funext fun α => congrFun (Classical.choose_spec spec_l5Bits_L0.ex) α
theorem spec_l5Bits_L0.zero {α : Type} (N : Nat) (v114 : Int) (v115 : Int) (k0 : Int → Option α) : spec_l5Bits_L0 N 0 v114 v115 k0 = none := by rw [spec_l5Bits_L0.eq]; rfl
theorem spec_l5Bits_L0.succ {α : Type} (N n : Nat) (v114 : Int) (v115 : Int) (k0 : Int → Option α) : spec_l5Bits_L0 N (n + 1) v114 v115 k0 = spec_l5Bits_L0r N (fun y0 y1 => spec_l5Bits_L0 N n y0 y1 k0) k0 v114 v115 := by rw [spec_l5Bits_L0.eq]; rfl
/-- spec.l5Bits -/
noncomputable def spec_l5Bits.b {α : Type} (N : Nat) (a105 : List Int) (k0 : Int → Option α) : Option α :=
 let x106 := ((a105.length : Nat) : Int)
 let x107 := (decide (x106 = (0 : Int)))
 bif x107 then
  k0 (0 : Int)
 else
  let x108 := ((a105.length : Nat) : Int)
  let x109 := (IntKind.i64.wrap (x108 - (1 : Int)))
  let x110 := (IntKind.i64.wrap ((16 : Int) * x109))
  let x111 := ((a105.length : Nat) : Int)
  let x112 := (IntKind.i64.wrap (x111 - (1 : Int)))
  bif (decide (x112 < (0 : Int))) then
   none
  else
   match a105[x112.toNat]? with
   | some x113 =>
    spec_l5Bits_L0 N N x110 x113
     (fun x119 =>
      k0 x119)
   | none => none
theorem spec_l5Bits.ex : ∃ f : ((α : Type) → Nat → List Int → (Int → Option α) → Option α), f = fun α => @spec_l5Bits.b α := ⟨_, rfl⟩
noncomputable def spec_l5Bits {α : Type} : Nat → List Int → (Int → Option α) → Option α := Classical.choose spec_l5Bits.ex α
theorem spec_l5Bits.eq : @spec_l5Bits = @spec_l5Bits.b := funext fun α => congrFun (Classical.choose_spec spec_l5Bits.ex) α

/-- spec.l1Least -/
noncomputable def spec_l1Least.b {α : Type} (N : Nat) (a128 : Int) (k0 : Int → Option α) : Option α :=
 let x129 := (decide (a128 = (32 : Int)))
 bif x129 then
  k0 (-149 : Int)
 else
  k0 (-1074 : Int)
theorem spec_l1Least.ex : ∃ f : ((α : Type) → Nat → Int → (Int → Option α) → Option α), f = fun α => @spec_l1Least.b α := ⟨_, rfl⟩
noncomputable def spec_l1Least {α : Type} : Nat → Int → (Int → Option α) → Option α := Classical.choose spec_l1Least.ex α
theorem spec_l1Least.eq : @spec_l1Least = @spec_l1Least.b := funext fun α => congrFun (Classical.choose_spec spec_l1Least.ex) α

noncomputable def spec_l5Shl_L0r {α : Type} (N : Nat) (next : List Int → Int → List Int → Option α) (k0 : List Int → Option α) (v255 : List Int) (v256 : Int) (v257 : List Int) : Option α :=
 let x258 := ((v255.length : Nat) : Int)
 let x259 := decide (v256 < x258)
 bif x259 then
  bif (decide (v256 < (0 : Int))) then
   none
  else
   match v255[v256.toNat]? with
   | some x260 =>
    let x261 := [x260]
    bif decide (v257.length + x261.length ≤ 8796093022208) then
     let x262 := v257 ++ x261
     let x263 := (IntKind.i64.wrap (v256 + (1 : Int)))
     next v255 x263 x262
    else
     none
   | none => none
 else
  k0 v257
noncomputable def spec_l5Shl_L0.b {α : Type} (N n : Nat) (v255 : List Int) (v256 : Int) (v257 : List Int) (k0 : List Int → Option α) : Option α :=
  Nat.rec (motive := fun _ => List Int → Int → List Int → Option α) (fun _ _ _ => none) (fun _ next => spec_l5Shl_L0r N next k0) n v255 v256 v257
theorem spec_l5Shl_L0.ex : ∃ f : ((α : Type) → Nat → Nat → List Int → Int → List Int → (List Int → Option α) → Option α), f = fun α => @spec_l5Shl_L0.b α := ⟨_, rfl⟩
noncomputable def spec_l5Shl_L0 {α : Type} : Nat → Nat → List Int → Int → List Int → (List Int → Option α) → Option α := Classical.choose spec_l5Shl_L0.ex α
theorem spec_l5Shl_L0.eq : @spec_l5Shl_L0 = @spec_l5Shl_L0.b := funext fun α => congrFun (Classical.choose_spec spec_l5Shl_L0.ex) α
theorem spec_l5Shl_L0.zero {α : Type} (N : Nat) (v255 : List Int) (v256 : Int) (v257 : List Int) (k0 : List Int → Option α) : spec_l5Shl_L0 N 0 v255 v256 v257 k0 = none := by rw [spec_l5Shl_L0.eq]; rfl
theorem spec_l5Shl_L0.succ {α : Type} (N n : Nat) (v255 : List Int) (v256 : Int) (v257 : List Int) (k0 : List Int → Option α) : spec_l5Shl_L0 N (n + 1) v255 v256 v257 k0 = spec_l5Shl_L0r N (fun y0 y1 y2 => spec_l5Shl_L0 N n y0 y1 y2 k0) k0 v255 v256 v257 := by rw [spec_l5Shl_L0.eq]; rfl
/-- spec.l5Shl -/
noncomputable def spec_l5Shl.b {α : Type} (N : Nat) (a250 : List Int) (a251 : Int) (k0 : List Int → Option α) : Option α :=
 let x252 := ((a250.length : Nat) : Int)
 let x253 := (decide (x252 = (0 : Int)))
 bif x253 then
  k0 []
 else
  bif (decide ((0 : Int) ≤ a251)) then
   bif decide (a251 ≤ a251) then
    bif (decide (a251 ≤ ((8796093022208 : Nat) : Int))) then
     let x254 := (List.replicate a251.toNat (0 : Int))
     spec_l5Shl_L0 N N a250 (0 : Int) x254
      (fun x264 =>
       k0 x264)
    else
     none
   else
    none
  else
   none
theorem spec_l5Shl.ex : ∃ f : ((α : Type) → Nat → List Int → Int → (List Int → Option α) → Option α), f = fun α => @spec_l5Shl.b α := ⟨_, rfl⟩
noncomputable def spec_l5Shl {α : Type} : Nat → List Int → Int → (List Int → Option α) → Option α := Classical.choose spec_l5Shl.ex α
theorem spec_l5Shl.eq : @spec_l5Shl = @spec_l5Shl.b := funext fun α => congrFun (Classical.choose_spec spec_l5Shl.ex) α

/-- spec.l5Pow2 -/
noncomputable def spec_l5Pow2.b {α : Type} (N : Nat) (a244 : Int) (k0 : List Int → Option α) : Option α :=
 let x245 := (Int.tmod a244 (16 : Int))
 let x246 := IntKind.u64.wrap x245
 bif (decide (x246 < (0 : Int))) then
  none
 else
  let x247 := (shlI .i64 (1 : Int) x246)
  let x248 := [x247]
  let x249 := (IntKind.i64.wrap (Int.tdiv a244 (16 : Int)))
  spec_l5Shl N x248 x249
   (fun x265 =>
    k0 x265)
theorem spec_l5Pow2.ex : ∃ f : ((α : Type) → Nat → Int → (List Int → Option α) → Option α), f = fun α => @spec_l5Pow2.b α := ⟨_, rfl⟩
noncomputable def spec_l5Pow2 {α : Type} : Nat → Int → (List Int → Option α) → Option α := Classical.choose spec_l5Pow2.ex α
theorem spec_l5Pow2.eq : @spec_l5Pow2 = @spec_l5Pow2.b := funext fun α => congrFun (Classical.choose_spec spec_l5Pow2.ex) α

noncomputable def spec_l5Trim_L0r {α : Type} (N : Nat) (next : List Int → Int → Option α) (k0 : List Int → Int → Option α) (v313 : List Int) (v314 : Int) : Option α :=
 let x315 := (decide ((0 : Int) < v314))
 bif x315 then
  let x316 := (IntKind.i64.wrap (v314 - (1 : Int)))
  bif (decide (x316 < (0 : Int))) then
   none
  else
   match v313[x316.toNat]? with
   | some x317 =>
    let x318 := (decide (x317 = (0 : Int)))
    bif x318 then
     let x319 := (IntKind.i64.wrap (v314 - (1 : Int)))
     next v313 x319
    else
     k0 v313 v314
   | none => none
 else
  k0 v313 v314
noncomputable def spec_l5Trim_L0.b {α : Type} (N n : Nat) (v313 : List Int) (v314 : Int) (k0 : List Int → Int → Option α) : Option α :=
  Nat.rec (motive := fun _ => List Int → Int → Option α) (fun _ _ => none) (fun _ next => spec_l5Trim_L0r N next k0) n v313 v314
theorem spec_l5Trim_L0.ex : ∃ f : ((α : Type) → Nat → Nat → List Int → Int → (List Int → Int → Option α) → Option α), f = fun α => @spec_l5Trim_L0.b α := ⟨_, rfl⟩
noncomputable def spec_l5Trim_L0 {α : Type} : Nat → Nat → List Int → Int → (List Int → Int → Option α) → Option α := Classical.choose spec_l5Trim_L0.ex α
theorem spec_l5Trim_L0.eq : @spec_l5Trim_L0 = @spec_l5Trim_L0.b := funext fun α => congrFun (Classical.choose_spec spec_l5Trim_L0.ex) α
theorem spec_l5Trim_L0.zero {α : Type} (N : Nat) (v313 : List Int) (v314 : Int) (k0 : List Int → Int → Option α) : spec_l5Trim_L0 N 0 v313 v314 k0 = none := by rw [spec_l5Trim_L0.eq]; rfl
theorem spec_l5Trim_L0.succ {α : Type} (N n : Nat) (v313 : List Int) (v314 : Int) (k0 : List Int → Int → Option α) : spec_l5Trim_L0 N (n + 1) v313 v314 k0 = spec_l5Trim_L0r N (fun y0 y1 => spec_l5Trim_L0 N n y0 y1 k0) k0 v313 v314 := by rw [spec_l5Trim_L0.eq]; rfl
noncomputable def spec_l5Trim_L2r {α : Type} (N : Nat) (next : List Int → Int → Int → List Int → Option α) (k0 : List Int → Option α) (v322 : List Int) (v323 : Int) (v324 : Int) (v325 : List Int) : Option α :=
 let x326 := decide (v324 < v323)
 bif x326 then
  bif (decide (v324 < (0 : Int))) then
   none
  else
   match v322[v324.toNat]? with
   | some x327 =>
    let x328 := [x327]
    bif decide (v325.length + x328.length ≤ 8796093022208) then
     let x329 := v325 ++ x328
     let x330 := (IntKind.i64.wrap (v324 + (1 : Int)))
     next v322 v323 x330 x329
    else
     none
   | none => none
 else
  k0 v325
noncomputable def spec_l5Trim_L2.b {α : Type} (N n : Nat) (v322 : List Int) (v323 : Int) (v324 : Int) (v325 : List Int) (k0 : List Int → Option α) : Option α :=
  Nat.rec (motive := fun _ => List Int → Int → Int → List Int → Option α) (fun _ _ _ _ => none) (fun _ next => spec_l5Trim_L2r N next k0) n v322 v323 v324 v325
theorem spec_l5Trim_L2.ex : ∃ f : ((α : Type) → Nat → Nat → List Int → Int → Int → List Int → (List Int → Option α) → Option α), f = fun α => @spec_l5Trim_L2.b α := ⟨_, rfl⟩
noncomputable def spec_l5Trim_L2 {α : Type} : Nat → Nat → List Int → Int → Int → List Int → (List Int → Option α) → Option α := Classical.choose spec_l5Trim_L2.ex α
theorem spec_l5Trim_L2.eq : @spec_l5Trim_L2 = @spec_l5Trim_L2.b := funext fun α => congrFun (Classical.choose_spec spec_l5Trim_L2.ex) α
theorem spec_l5Trim_L2.zero {α : Type} (N : Nat) (v322 : List Int) (v323 : Int) (v324 : Int) (v325 : List Int) (k0 : List Int → Option α) : spec_l5Trim_L2 N 0 v322 v323 v324 v325 k0 = none := by rw [spec_l5Trim_L2.eq]; rfl
theorem spec_l5Trim_L2.succ {α : Type} (N n : Nat) (v322 : List Int) (v323 : Int) (v324 : Int) (v325 : List Int) (k0 : List Int → Option α) : spec_l5Trim_L2 N (n + 1) v322 v323 v324 v325 k0 = spec_l5Trim_L2r N (fun y0 y1 y2 y3 => spec_l5Trim_L2 N n y0 y1 y2 y3 k0) k0 v322 v323 v324 v325 := by rw [spec_l5Trim_L2.eq]; rfl
/-- spec.l5Trim -/
noncomputable def spec_l5Trim.b {α : Type} (N : Nat) (a311 : List Int) (k0 : List Int → Option α) : Option α :=
 let x312 := ((a311.length : Nat) : Int)
 spec_l5Trim_L0 N N a311 x312
  (fun x320 x321 =>
   spec_l5Trim_L2 N N x320 x321 (0 : Int) []
    (fun x331 =>
     k0 x331))
theorem spec_l5Trim.ex : ∃ f : ((α : Type) → Nat → List Int → (List Int → Option α) → Option α), f = fun α => @spec_l5Trim.b α := ⟨_, rfl⟩
noncomputable def spec_l5Trim {α : Type} : Nat → List Int → (List Int → Option α) → Option α := Classical.choose spec_l5Trim.ex α
theorem spec_l5Trim.eq : @spec_l5Trim = @spec_l5Trim.b := funext fun α => congrFun (Classical.choose_spec spec_l5Trim.ex) α

noncomputable def spec_l5Mul_L2r {α : Type} (N : Nat) (next : List Int → List Int → Int → Int → Int → List Int → Option α) (k0 : List Int → List Int → Int → Int → List Int → Option α) (v279 : List Int) (v280 : List Int) (v281 : Int) (v282 : Int) (v283 : Int) (v284 : List Int) : Option α :=
 let x285 := ((v280.length : Nat) : Int)
 let x286 := decide (v283 < x285)
 bif x286 then
  let x287 := IntKind.i64.wrap (v281 + v283)
  bif (decide (x287 < (0 : Int))) then
   none
  else
   bif decide (x287.toNat < v284.length) then
    match v284[x287.toNat]? with
    | some x288 =>
     bif (decide (v281 < (0 : Int))) then
      none
     else
      match v279[v281.toNat]? with
      | some x289 =>
       bif (decide (v283 < (0 : Int))) then
        none
       else
        match v280[v283.toNat]? with
        | some x290 =>
         let x291 := IntKind.i64.wrap (x289 * x290)
         let x292 := IntKind.i64.wrap (x288 + x291)
         let x293 := IntKind.i64.wrap (x292 + v282)
         let x294 := IntKind.i64.wrap (v281 + v283)
         let x295 := (Int.tmod x293 (65536 : Int))
         bif (decide (x294 < (0 : Int))) then
          none
         else
          bif decide (x294.toNat < v284.length) then
           match v284[x294.toNat]? with
           | some x296 =>
            let x297 := v284.set x294.toNat x295
            let x298 := (IntKind.i64.wrap (Int.tdiv x293 (65536 : Int)))
            let x299 := (IntKind.i64.wrap (v283 + (1 : Int)))
            next v279 v280 v281 x298 x299 x297
           | none => none
          else
           none
        | none => none
      | none => none
    | none => none
   else
    none
 else
  k0 v279 v280 v281 v282 v284
noncomputable def spec_l5Mul_L2.b {α : Type} (N n : Nat) (v279 : List Int) (v280 : List Int) (v281 : Int) (v282 : Int) (v283 : Int) (v284 : List Int) (k0 : List Int → List Int → Int → Int → List Int → Option α) : Option α :=
  Nat.rec (motive := fun _ => List Int → List Int → Int → Int → Int → List Int → Option α) (fun _ _ _ _ _ _ => none) (fun _ next => spec_l5Mul_L2r N next k0) n v279 v280 v281 v282 v283 v284
theorem spec_l5Mul_L2.ex : ∃ f : ((α : Type) → Nat → Nat → List Int → List Int → Int → Int → Int → List Int → (List Int → List Int → Int → Int → List Int → Option α) → Option α), f = fun α => @spec_l5Mul_L2.b α := ⟨_, rfl⟩
noncomputable def spec_l5Mul_L2 {α : Type} : Nat → Nat → List Int → List Int → Int → Int → Int → List Int → (List Int → List Int → Int → Int → List Int → Option α) → Option α := Classical.choose spec_l5Mul_L2.ex α
theorem spec_l5Mul_L2.eq : @spec_l5Mul_L2 = @spec_l5Mul_L2.b := funext fun α => congrFun (Classical.choose_spec spec_l5Mul_L2.ex) α
theorem spec_l5Mul_L2.zero {α : Type} (N : Nat) (v279 : List Int) (v280 : List Int) (v281 : Int) (v282 : Int) (v283 : Int) (v284 : List Int) (k0 : List Int → List Int → Int → Int → List Int → Option α) : spec_l5Mul_L2 N 0 v279 v280 v281 v282 v283 v284 k0 = none := by rw [spec_l5Mul_L2.eq]; rfl
theorem spec_l5Mul_L2.succ {α : Type} (N n : Nat) (v279 : List Int) (v280 : List Int) (v281 : Int) (v282 : Int) (v283 : Int) (v284 : List Int) (k0 : List Int → List Int → Int → Int → List Int → Option α) : spec_l5Mul_L2 N (n + 1) v279 v280 v281 v282 v283 v284 k0 = spec_l5Mul_L2r N (fun y0 y1 y2 y3 y4 y5 => spec_l5Mul_L2 N n y0 y1 y2 y3 y4 y5 k0) k0 v279 v280 v281 v282 v283 v284 := by rw [spec_l5Mul_L2.eq]; rfl
noncomputable def spec_l5Mul_L0r {α : Type} (N : Nat) (next : List Int → List Int → Int → List Int → Option α) (k0 : List Int → Option α) (v273 : List Int) (v274 : List Int) (v275 : Int) (v276 : List Int) : Option α :=
 let x277 := ((v273.length : Nat) : Int)
 let x278 := decide (v275 < x277)
 bif x278 then
  spec_l5Mul_L2 N N v273 v274 v275 (0 : Int) (0 : Int) v276
   (fun x300 x301 x302 x303 x304 =>
    let x305 := ((x301.length : Nat) : Int)
    let x306 := IntKind.i64.wrap (x302 + x305)
    bif (decide (x306 < (0 : Int))) then
     none
    else
     bif decide (x306.toNat < x304.length) then
      match x304[x306.toNat]? with
      | some x307 =>
       let x308 := x304.set x306.toNat x303
       let x309 := (IntKind.i64.wrap (x302 + (1 : Int)))
       next x300 x301 x309 x308
      | none => none
     else
      none)
 else
  k0 v276
noncomputable def spec_l5Mul_L0.b {α : Type} (N n : Nat) (v273 : List Int) (v274 : List Int) (v275 : Int) (v276 : List Int) (k0 : List Int → Option α) : Option α :=
  Nat.rec (motive := fun _ => List Int → List Int → Int → List Int → Option α) (fun _ _ _ _ => none) (fun _ next => spec_l5Mul_L0r N next k0) n v273 v274 v275 v276
theorem spec_l5Mul_L0.ex : ∃ f : ((α : Type) → Nat → Nat → List Int → List Int → Int → List Int → (List Int → Option α) → Option α), f = fun α => @spec_l5Mul_L0.b α := ⟨_, rfl⟩
noncomputable def spec_l5Mul_L0 {α : Type} : Nat → Nat → List Int → List Int → Int → List Int → (List Int → Option α) → Option α := Classical.choose spec_l5Mul_L0.ex α
theorem spec_l5Mul_L0.eq : @spec_l5Mul_L0 = @spec_l5Mul_L0.b := funext fun α => congrFun (Classical.choose_spec spec_l5Mul_L0.ex) α
theorem spec_l5Mul_L0.zero {α : Type} (N : Nat) (v273 : List Int) (v274 : List Int) (v275 : Int) (v276 : List Int) (k0 : List Int → Option α) : spec_l5Mul_L0 N 0 v273 v274 v275 v276 k0 = none := by rw [spec_l5Mul_L0.eq]; rfl
theorem spec_l5Mul_L0.succ {α : Type} (N n : Nat) (v273 : List Int) (v274 : List Int) (v275 : Int) (v276 : List Int) (k0 : List Int → Option α) : spec_l5Mul_L0 N (n + 1) v273 v274 v275 v276 k0 = spec_l5Mul_L0r N (fun y0 y1 y2 y3 => spec_l5Mul_L0 N n y0 y1 y2 y3 k0) k0 v273 v274 v275 v276 := by rw [spec_l5Mul_L0.eq]; rfl
/-- spec.l5Mul -/
noncomputable def spec_l5Mul.b {α : Type} (N : Nat) (a267 : List Int) (a268 : List Int) (k0 : List Int → Option α) : Option α :=
 let x269 := ((a267.length : Nat) : Int)
 let x270 := ((a268.length : Nat) : Int)
 let x271 := IntKind.i64.wrap (x269 + x270)
 bif (decide ((0 : Int) ≤ x271)) then
  bif decide (x271 ≤ x271) then
   bif (decide (x271 ≤ ((8796093022208 : Nat) : Int))) then
    let x272 := (List.replicate x271.toNat (0 : Int))
    spec_l5Mul_L0 N N a267 a268 (0 : Int) x272
     (fun x310 =>
      spec_l5Trim N x310
       (fun x332 =>
        k0 x332))
   else
    none
  else
   none
 else
  none
theorem spec_l5Mul.ex : ∃ f : ((α : Type) → Nat → List Int → List Int → (List Int → Option α) → Option α), f = fun α => @spec_l5Mul.b α := ⟨_, rfl⟩
noncomputable def spec_l5Mul {α : Type} : Nat → List Int → List Int → (List Int → Option α) → Option α := Classical.choose spec_l5Mul.ex α
theorem spec_l5Mul.eq : @spec_l5Mul = @spec_l5Mul.b := funext fun α => congrFun (Classical.choose_spec spec_l5Mul.ex) α

noncomputable def spec_l5Cmp_L0r {α : Type} (N : Nat) (next : List Int → List Int → Int → Option α) (k0 : Int → Option α) (k1 : Option α) (v351 : List Int) (v352 : List Int) (v353 : Int) : Option α :=
 let x354 := (decide ((0 : Int) ≤ v353))
 bif x354 then
  bif (decide (v353 < (0 : Int))) then
   none
  else
   match v351[v353.toNat]? with
   | some x355 =>
    bif (decide (v353 < (0 : Int))) then
     none
    else
     match v352[v353.toNat]? with
     | some x356 =>
      let x357 := decide (x355 < x356)
      bif x357 then
       k0 (-1 : Int)
      else
       bif (decide (v353 < (0 : Int))) then
        none
       else
        match v351[v353.toNat]? with
        | some x358 =>
         bif (decide (v353 < (0 : Int))) then
          none
         else
          match v352[v353.toNat]? with
          | some x359 =>
           let x360 := decide (x359 < x358)
           bif x360 then
            k0 (1 : Int)
           else
            let x361 := (IntKind.i64.wrap (v353 - (1 : Int)))
            next v351 v352 x361
          | none => none
        | none => none
     | none => none
   | none => none
 else
  k1
noncomputable def spec_l5Cmp_L0.b {α : Type} (N n : Nat) (v351 : List Int) (v352 : List Int) (v353 : Int) (k0 : Int → Option α) (k1 : Option α) : Option α :=
  Nat.rec (motive := fun _ => List Int → List Int → Int → Option α) (fun _ _ _ => none) (fun _ next => spec_l5Cmp_L0r N next k0 k1) n v351 v352 v353
theorem spec_l5Cmp_L0.ex : ∃ f : ((α : Type) → Nat → Nat → List Int → List Int → Int → (Int → Option α) → (Option α) → Option α), f = fun α => @spec_l5Cmp_L0.b α := ⟨_, rfl⟩
noncomputable def spec_l5Cmp_L0 {α : Type} : Nat → Nat → List Int → List Int → Int → (Int → Option α) → (Option α) → Option α := Classical.choose spec_l5Cmp_L0.ex α
theorem spec_l5Cmp_L0.eq : @spec_l5Cmp_L0 = @spec_l5Cmp_L0.b := funext fun α => congrFun (Classical.choose_spec spec_l5Cmp_L0.ex) α
theorem spec_l5Cmp_L0.zero {α : Type} (N : Nat) (v351 : List Int) (v352 : List Int) (v353 : Int) (k0 : Int → Option α) (k1 : Option α) : spec_l5Cmp_L0 N 0 v351 v352 v353 k0 k1 = none := by rw [spec_l5Cmp_L0.eq]; rfl
theorem spec_l5Cmp_L0.succ {α : Type} (N n : Nat) (v351 : List Int) (v352 : List Int) (v353 : Int) (k0 : Int → Option α) (k1 : Option α) : spec_l5Cmp_L0 N (n + 1) v351 v352 v353 k0 k1 = spec_l5Cmp_L0r N (fun y0 y1 y2 => spec_l5Cmp_L0 N n y0 y1 y2 k0 k1) k0 k1 v351 v352 v353 := by rw [spec_l5Cmp_L0.eq]; rfl
/-- spec.l5Cmp -/
noncomputable def spec_l5Cmp.b {α : Type} (N : Nat) (a341 : List Int) (a342 : List Int) (k0 : Int → Option α) : Option α :=
 let x343 := ((a341.length : Nat) : Int)
 let x344 := ((a342.length : Nat) : Int)
 let x345 := decide (x343 < x344)
 bif x345 then
  k0 (-1 : Int)
 else
  let x346 := ((a341.length : Nat) : Int)
  let x347 := ((a342.length : Nat) : Int)
  let x348 := decide (x347 < x346)
  bif x348 then
   k0 (1 : Int)
  else
   let x349 := ((a341.length : Nat) : Int)
   let x350 := (IntKind.i64.wrap (x349 - (1 : Int)))
   spec_l5Cmp_L0 N N a341 a342 x350
    (fun x362 =>
     k0 x362)
    (
     k0 (0 : Int))
theorem spec_l5Cmp.ex : ∃ f : ((α : Type) → Nat → List Int → List Int → (Int → Option α) → Option α), f = fun α => @spec_l5Cmp.b α := ⟨_, rfl⟩
noncomputable def spec_l5Cmp {α : Type} : Nat → List Int → List Int → (Int → Option α) → Option α := Classical.choose spec_l5Cmp.ex α
theorem spec_l5Cmp.eq : @spec_l5Cmp = @spec_l5Cmp.b := funext fun α => congrFun (Classical.choose_spec spec_l5Cmp.ex) α

noncomputable def spec_l5DivSmall_L0r {α : Type} (N : Nat) (next : List Int → Int → Int → Int → List Int → Option α) (k0 : Int → List Int → Option α) (v375 : List Int) (v376 : Int) (v377 : Int) (v378 : Int) (v379 : List Int) : Option α :=
 let x380 := (decide ((0 : Int) ≤ v378))
 bif x380 then
  let x381 := (IntKind.i64.wrap (v377 * (65536 : Int)))
  bif (decide (v378 < (0 : Int))) then
   none
  else
   match v375[v378.toNat]? with
   | some x382 =>
    let x383 := IntKind.i64.wrap (x381 + x382)
    bif (decide (v376 = (0 : Int))) then
     none
    else
     let x384 := IntKind.i64.wrap (Int.tdiv x383 v376)
     bif (decide (v378 < (0 : Int))) then
      none
     else
      bif decide (v378.toNat < v379.length) then
       match v379[v378.toNat]? with
       | some x385 =>
        let x386 := v379.set v378.toNat x384
        bif (decide (v376 = (0 : Int))) then
         none
        else
         let x387 := Int.tmod x383 v376
         let x388 := (IntKind.i64.wrap (v378 - (1 : Int)))
         next v375 v376 x387 x388 x386
       | none => none
      else
       none
   | none => none
 else
  k0 v377 v379
noncomputable def spec_l5DivSmall_L0.b {α : Type} (N n : Nat) (v375 : List Int) (v376 : Int) (v377 : Int) (v378 : Int) (v379 : List Int) (k0 : Int → List Int → Option α) : Option α :=
  Nat.rec (motive := fun _ => List Int → Int → Int → Int → List Int → Option α) (fun _ _ _ _ _ => none) (fun _ next => spec_l5DivSmall_L0r N next k0) n v375 v376 v377 v378 v379
theorem spec_l5DivSmall_L0.ex : ∃ f : ((α : Type) → Nat → Nat → List Int → Int → Int → Int → List Int → (Int → List Int → Option α) → Option α), f = fun α => @spec_l5DivSmall_L0.b α := ⟨_, rfl⟩
noncomputable def spec_l5DivSmall_L0 {α : Type} : Nat → Nat → List Int → Int → Int → Int → List Int → (Int → List Int → Option α) → Option α := Classical.choose spec_l5DivSmall_L0.ex α
theorem spec_l5DivSmall_L0.eq : @spec_l5DivSmall_L0 = @spec_l5DivSmall_L0.b := funext fun α => congrFun (Classical.choose_spec spec_l5DivSmall_L0.ex) α
theorem spec_l5DivSmall_L0.zero {α : Type} (N : Nat) (v375 : List Int) (v376 : Int) (v377 : Int) (v378 : Int) (v379 : List Int) (k0 : Int → List Int → Option α) : spec_l5DivSmall_L0 N 0 v375 v376 v377 v378 v379 k0 = none := by rw [spec_l5DivSmall_L0.eq]; rfl
theorem spec_l5DivSmall_L0.succ {α : Type} (N n : Nat) (v375 : List Int) (v376 : Int) (v377 : Int) (v378 : Int) (v379 : List Int) (k0 : Int → List Int → Option α) : spec_l5DivSmall_L0 N (n + 1) v375 v376 v377 v378 v379 k0 = spec_l5DivSmall_L0r N (fun y0 y1 y2 y3 y4 => spec_l5DivSmall_L0 N n y0 y1 y2 y3 y4 k0) k0 v375 v376 v377 v378 v379 := by rw [spec_l5DivSmall_L0.eq]; rfl
/-- spec.l5DivSmall -/
noncomputable def spec_l5DivSmall.b {α : Type} (N : Nat) (a369 : List Int) (a370 : Int) (k0 : Int → List Int → Option α) : Option α :=
 let x371 := ((a369.length : Nat) : Int)
 bif (decide ((0 : Int) ≤ x371)) then
  bif decide (x371 ≤ x371) then
   bif (decide (x371 ≤ ((8796093022208 : Nat) : Int))) then
    let x372 := (List.replicate x371.toNat (0 : Int))
    let x373 := ((a369.length : Nat) : Int)
    let x374 := (IntKind.i64.wrap (x373 - (1 : Int)))
    spec_l5DivSmall_L0 N N a369 a370 (0 : Int) x374 x372
     (fun x389 x390 =>
      spec_l5Trim N x390
       (fun x391 =>
        k0 x389 x391))
   else
    none
  else
   none
 else
  none
theorem spec_l5DivSmall.ex : ∃ f : ((α : Type) → Nat → List Int → Int → (Int → List Int → Option α) → Option α), f = fun α => @spec_l5DivSmall.b α := ⟨_, rfl⟩
noncomputable def spec_l5DivSmall {α : Type} : Nat → List Int → Int → (Int → List Int → Option α) → Option α := Classical.choose spec_l5DivSmall.ex α
theorem spec_l5DivSmall.eq : @spec_l5DivSmall = @spec_l5DivSmall.b := funext fun α => congrFun (Classical.choose_spec spec_l5DivSmall.ex) α

noncomputable def spec_NatOf_L0r {α : Type} (N : Nat) (next : Int → List Int → Option α) (k0 : List Int → Option α) (v396 : Int) (v397 : List Int) : Option α :=
 let x398 := (decide ((0 : Int) < v396))
 bif x398 then
  let x399 := (Int.tmod v396 (65536 : Int))
  let x400 := IntKind.i64.wrap x399
  let x401 := [x400]
  bif decide (v397.length + x401.length ≤ 8796093022208) then
   let x402 := v397 ++ x401
   let x403 := (IntKind.u64.wrap (Int.tdiv v396 (65536 : Int)))
   next x403 x402
  else
   none
 else
  k0 v397
noncomputable def spec_NatOf_L0.b {α : Type} (N n : Nat) (v396 : Int) (v397 : List Int) (k0 : List Int → Option α) : Option α :=
  Nat.rec (motive := fun _ => Int → List Int → Option α) (fun _ _ => none) (fun _ next => spec_NatOf_L0r N next k0) n v396 v397
theorem spec_NatOf_L0.ex : ∃ f : ((α : Type) → Nat → Nat → Int → List Int → (List Int → Option α) → Option α), f = fun α => @spec_NatOf_L0.b α := ⟨_, rfl⟩
noncomputable def spec_NatOf_L0 {α : Type} : Nat → Nat → Int → List Int → (List Int → Option α) → Option α := Classical.choose spec_NatOf_L0.ex α
theorem spec_NatOf_L0.eq : @spec_NatOf_L0 = @spec_NatOf_L0.b := funext fun α => congrFun (Classical.choose_spec spec_NatOf_L0.ex) α
theorem spec_NatOf_L0.zero {α : Type} (N : Nat) (v396 : Int) (v397 : List Int) (k0 : List Int → Option α) : spec_NatOf_L0 N 0 v396 v397 k0 = none := by rw [spec_NatOf_L0.eq]; rfl
theorem spec_NatOf_L0.succ {α : Type} (N n : Nat) (v396 : Int) (v397 : List Int) (k0 : List Int → Option α) : spec_NatOf_L0 N (n + 1) v396 v397 k0 = spec_NatOf_L0r N (fun y0 y1 => spec_NatOf_L0 N n y0 y1 k0) k0 v396 v397 := by rw [spec_NatOf_L0.eq]; rfl
/-- spec.NatOf -/
noncomputable def spec_NatOf.b {α : Type} (N : Nat) (a395 : Int) (k0 : List Int → Option α) : Option α :=
 spec_NatOf_L0 N N a395 []
  (fun x404 =>
   k0 x404)
theorem spec_NatOf.ex : ∃ f : ((α : Type) → Nat → Int → (List Int → Option α) → Option α), f = fun α => @spec_NatOf.b α := ⟨_, rfl⟩
noncomputable def spec_NatOf {α : Type} : Nat → Int → (List Int → Option α) → Option α := Classical.choose spec_NatOf.ex α
theorem spec_NatOf.eq : @spec_NatOf = @spec_NatOf.b := funext fun α => congrFun (Classical.choose_spec spec_NatOf.ex) α

/-- spec.l5Times -/
noncomputable def spec_l5Times.b {α : Type} (N : Nat) (a411 : List Int) (a412 : Int) (k0 : List Int → Option α) : Option α :=
 let x413 := (decide (a412 = (0 : Int)))
 bif x413 then
  k0 []
 else
  let x414 := [a412]
  spec_l5Mul N a411 x414
   (fun x415 =>
    k0 x415)
theorem spec_l5Times.ex : ∃ f : ((α : Type) → Nat → List Int → Int → (List Int → Option α) → Option α), f = fun α => @spec_l5Times.b α := ⟨_, rfl⟩
noncomputable def spec_l5Times {α : Type} : Nat → List Int → Int → (List Int → Option α) → Option α := Classical.choose spec_l5Times.ex α
theorem spec_l5Times.eq : @spec_l5Times = @spec_l5Times.b := funext fun α => congrFun (Classical.choose_spec spec_l5Times.ex) α

noncomputable def spec_l5Top_L0r {α : Type} (N : Nat) (next : List Int → Int → List Int → Option α) (k0 : List Int → Option α) (v428 : List Int) (v429 : Int) (v430 : List Int) : Option α :=
 let x431 := ((v428.length : Nat) : Int)
 let x432 := decide (v429 < x431)
 bif x432 then
  bif (decide (v429 < (0 : Int))) then
   none
  else
   match v428[v429.toNat]? with
   | some x433 =>
    let x434 := [x433]
    bif decide (v430.length + x434.length ≤ 8796093022208) then
     let x435 := v430 ++ x434
     let x436 := (IntKind.i64.wrap (v429 + (1 : Int)))
     next v428 x436 x435
    else
     none
   | none => none
 else
  k0 v430
noncomputable def spec_l5Top_L0.b {α : Type} (N n : Nat) (v428 : List Int) (v429 : Int) (v430 : List Int) (k0 : List Int → Option α) : Option α :=
  Nat.rec (motive := fun _ => List Int → Int → List Int → Option α) (fun _ _ _ => none) (fun _ next => spec_l5Top_L0r N next k0) n v428 v429 v430
theorem spec_l5Top_L0.ex : ∃ f : ((α : Type) → Nat → Nat → List Int → Int → List Int → (List Int → Option α) → Option α), f = fun α => @spec_l5Top_L0.b α := ⟨_, rfl⟩
noncomputable def spec_l5Top_L0 {α : Type} : Nat → Nat → List Int → Int → List Int → (List Int → Option α) → Option α := Classical.choose spec_l5Top_L0.ex α
theorem spec_l5Top_L0.eq : @spec_l5Top_L0 = @spec_l5Top_L0.b := funext fun α => congrFun (Classical.choose_spec spec_l5Top_L0.ex) α
theorem spec_l5Top_L0.zero {α : Type} (N : Nat) (v428 : List Int) (v429 : Int) (v430 : List Int) (k0 : List Int → Option α) : spec_l5Top_L0 N 0 v428 v429 v430 k0 = none := by rw [spec_l5Top_L0.eq]; rfl
theorem spec_l5Top_L0.succ {α : Type} (N n : Nat) (v428 : List Int) (v429 : Int) (v430 : List Int) (k0 : List Int → Option α) : spec_l5Top_L0 N (n + 1) v428 v429 v430 k0 = spec_l5Top_L0r N (fun y0 y1 y2 => spec_l5Top_L0 N n y0 y1 y2 k0) k0 v428 v429 v430 := by rw [spec_l5Top_L0.eq]; rfl
/-- spec.l5Top -/
noncomputable def spec_l5Top.b {α : Type} (N : Nat) (a426 : List Int) (a427 : Int) (k0 : List Int → Option α) : Option α :=
 spec_l5Top_L0 N N a426 a427 []
  (fun x437 =>
   k0 x437)
theorem spec_l5Top.ex : ∃ f : ((α : Type) → Nat → List Int → Int → (List Int → Option α) → Option α), f = fun α => @spec_l5Top.b α := ⟨_, rfl⟩
noncomputable def spec_l5Top {α : Type} : Nat → List Int → Int → (List Int → Option α) → Option α := Classical.choose spec_l5Top.ex α
theorem spec_l5Top.eq : @spec_l5Top = @spec_l5Top.b := funext fun α => congrFun (Classical.choose_spec spec_l5Top.ex) α

/-- spec.l5At -/
noncomputable def spec_l5At.b {α : Type} (N : Nat) (a472 : List Int) (a473 : Int) (k0 : Int → Option α) : Option α :=
 let x474 := ((a472.length : Nat) : Int)
 let x475 := decide (a473 < x474)
 bif x475 then
  bif (decide (a473 < (0 : Int))) then
   none
  else
   match a472[a473.toNat]? with
   | some x476 =>
    k0 x476
   | none => none
 else
  k0 (0 : Int)
theorem spec_l5At.ex : ∃ f : ((α : Type) → Nat → List Int → Int → (Int → Option α) → Option α), f = fun α => @spec_l5At.b α := ⟨_, rfl⟩
noncomputable def spec_l5At {α : Type} : Nat → List Int → Int → (Int → Option α) → Option α := Classical.choose spec_l5At.ex α
theorem spec_l5At.eq : @spec_l5At = @spec_l5At.b := funext fun α => congrFun (Classical.choose_spec spec_l5At.ex) α

noncomputable def spec_l5Add_J2.b {α : Type} (N : Nat) (v456 : List Int) (v457 : List Int) (v458 : Int) (k0 : List Int → List Int → Int → Option α) : Option α :=
 let x459 := ((v457.length : Nat) : Int)
 let x460 := decide (v458 < x459)
 bif x460 then
  let x461 := ((v457.length : Nat) : Int)
  k0 v456 v457 x461
 else
  k0 v456 v457 v458
theorem spec_l5Add_J2.ex : ∃ f : ((α : Type) → Nat → List Int → List Int → Int → (List Int → List Int → Int → Option α) → Option α), f = fun α => @spec_l5Add_J2.b α := ⟨_, rfl⟩
noncomputable def spec_l5Add_J2 {α : Type} : Nat → List Int → List Int → Int → (List Int → List Int → Int → Option α) → Option α := Classical.choose spec_l5Add_J2.ex α
theorem spec_l5Add_J2.eq : @spec_l5Add_J2 = @spec_l5Add_J2.b := funext fun α => congrFun (Classical.choose_spec spec_l5Add_J2.ex) α
noncomputable def spec_l5Add_L0r {α : Type} (N : Nat) (next : List Int → List Int → Int → Int → Int → List Int → Option α) (k0 : Int → List Int → Option α) (v465 : List Int) (v466 : List Int) (v467 : Int) (v468 : Int) (v469 : Int) (v470 : List Int) : Option α :=
 let x471 := decide (v469 < v467)
 bif x471 then
  spec_l5At N v465 v469
   (fun x477 =>
    spec_l5At N v466 v469
     (fun x478 =>
      let x479 := IntKind.i64.wrap (x477 + x478)
      let x480 := IntKind.i64.wrap (x479 + v468)
      let x481 := (Int.tmod x480 (65536 : Int))
      let x482 := [x481]
      bif decide (v470.length + x482.length ≤ 8796093022208) then
       let x483 := v470 ++ x482
       let x484 := (IntKind.i64.wrap (Int.tdiv x480 (65536 : Int)))
       let x485 := (IntKind.i64.wrap (v469 + (1 : Int)))
       next v465 v466 v467 x484 x485 x483
      else
       none))
 else
  k0 v468 v470
noncomputable def spec_l5Add_L0.b {α : Type} (N n : Nat) (v465 : List Int) (v466 : List Int) (v467 : Int) (v468 : Int) (v469 : Int) (v470 : List Int) (k0 : Int → List Int → Option α) : Option α :=
  Nat.rec (motive := fun _ => List Int → List Int → Int → Int → Int → List Int → Option α) (fun _ _ _ _ _ _ => none) (fun _ next => spec_l5Add_L0r N next k0) n v465 v466 v467 v468 v469 v470
theorem spec_l5Add_L0.ex : ∃ f : ((α : Type) → Nat → Nat → List Int → List Int → Int → Int → Int → List Int → (Int → List Int → Option α) → Option α), f = fun α => @spec_l5Add_L0.b α := ⟨_, rfl⟩
noncomputable def spec_l5Add_L0 {α : Type} : Nat → Nat → List Int → List Int → Int → Int → Int → List Int → (Int → List Int → Option α) → Option α := Classical.choose spec_l5Add_L0.ex α
theorem spec_l5Add_L0.eq : @spec_l5Add_L0 = @spec_l5Add_L0.b := funext fun α => congrFun (Classical.choose_spec spec_l5Add_L0.ex) α
theorem spec_l5Add_L0.zero {α : Type} (N : Nat) (v465 : List Int) (v466 : List Int) (v467 : Int) (v468 : Int) (v469 : Int) (v470 : List Int) (k0 : Int → List Int → Option α) : spec_l5Add_L0 N 0 v465 v466 v467 v468 v469 v470 k0 = none := by rw [spec_l5Add_L0.eq]; rfl
theorem spec_l5Add_L0.succ {α : Type} (N n : Nat) (v465 : List Int) (v466 : List Int) (v467 : Int) (v468 : Int) (v469 : Int) (v470 : List Int) (k0 : Int → List Int → Option α) : spec_l5Add_L0 N (n + 1) v465 v466 v467 v468 v469 v470 k0 = spec_l5Add_L0r N (fun y0 y1 y2 y3 y4 y5 => spec_l5Add_L0 N n y0 y1 y2 y3 y4 y5 k0) k0 v465 v466 v467 v468 v469 v470 := by rw [spec_l5Add_L0.eq]; rfl
noncomputable def spec_l5Add_J12.b {α : Type} (N : Nat) (v488 : Int) (v489 : List Int) (k0 : List Int → Option α) : Option α :=
 let x490 := (decide ((0 : Int) < v488))
 bif x490 then
  let x491 := [v488]
  bif decide (v489.length + x491.length ≤ 8796093022208) then
   let x492 := v489 ++ x491
   k0 x492
  else
   none
 else
  k0 v489
theorem spec_l5Add_J12.ex : ∃ f : ((α : Type) → Nat → Int → List Int → (List Int → Option α) → Option α), f = fun α => @spec_l5Add_J12.b α := ⟨_, rfl⟩
noncomputable def spec_l5Add_J12 {α : Type} : Nat → Int → List Int → (List Int → Option α) → Option α := Classical.choose spec_l5Add_J12.ex α
theorem spec_l5Add_J12.eq : @spec_l5Add_J12 = @spec_l5Add_J12.b := funext fun α => congrFun (Classical.choose_spec spec_l5Add_J12.ex) α
/-- spec.l5Add -/
noncomputable def spec_l5Add.b {α : Type} (N : Nat) (a453 : List Int) (a454 : List Int) (k0 : List Int → Option α) : Option α :=
 let x455 := ((a453.length : Nat) : Int)
 spec_l5Add_J2 N a453 a454 x455
  (fun x462 x463 x464 =>
   spec_l5Add_L0 N N x462 x463 x464 (0 : Int) (0 : Int) []
    (fun x486 x487 =>
     spec_l5Add_J12 N x486 x487
      (fun x493 =>
       k0 x493)))
theorem spec_l5Add.ex : ∃ f : ((α : Type) → Nat → List Int → List Int → (List Int → Option α) → Option α), f = fun α => @spec_l5Add.b α := ⟨_, rfl⟩
noncomputable def spec_l5Add {α : Type} : Nat → List Int → List Int → (List Int → Option α) → Option α := Classical.choose spec_l5Add.ex α
theorem spec_l5Add.eq : @spec_l5Add = @spec_l5Add.b := funext fun α => congrFun (Classical.choose_spec spec_l5Add.ex) α

noncomputable def spec_l5Sub_J8.b {α : Type} (N : Nat) (v546 : List Int) (v547 : List Int) (v548 : Int) (v549 : Int) (v550 : Int) (v551 : List Int) (k0 : List Int → List Int → Int → Int → Int → List Int → Option α) : Option α :=
 let x552 := (decide (v550 < (0 : Int)))
 bif x552 then
  let x553 := (IntKind.i64.wrap (v550 + (65536 : Int)))
  k0 v546 v547 (1 : Int) v549 x553 v551
 else
  k0 v546 v547 v548 v549 v550 v551
theorem spec_l5Sub_J8.ex : ∃ f : ((α : Type) → Nat → List Int → List Int → Int → Int → Int → List Int → (List Int → List Int → Int → Int → Int → List Int → Option α) → Option α), f = fun α => @spec_l5Sub_J8.b α := ⟨_, rfl⟩
noncomputable def spec_l5Sub_J8 {α : Type} : Nat → List Int → List Int → Int → Int → Int → List Int → (List Int → List Int → Int → Int → Int → List Int → Option α) → Option α := Classical.choose spec_l5Sub_J8.ex α
theorem spec_l5Sub_J8.eq : @spec_l5Sub_J8 = @spec_l5Sub_J8.b := funext fun α => congrFun (Classical.choose_spec spec_l5Sub_J8.ex) α
noncomputable def spec_l5Sub_L0r {α : Type} (N : Nat) (next : List Int → List Int → Int → Int → List Int → Option α) (k0 : List Int → Option α) (v535 : List Int) (v536 : List Int) (v537 : Int) (v538 : Int) (v539 : List Int) : Option α :=
 let x540 := ((v535.length : Nat) : Int)
 let x541 := decide (v538 < x540)
 bif x541 then
  bif (decide (v538 < (0 : Int))) then
   none
  else
   match v535[v538.toNat]? with
   | some x542 =>
    spec_l5At N v536 v538
     (fun x543 =>
      let x544 := IntKind.i64.wrap (x542 - x543)
      let x545 := IntKind.i64.wrap (x544 - v537)
      spec_l5Sub_J8 N v535 v536 (0 : Int) v538 x545 v539
       (fun x554 x555 x556 x557 x558 x559 =>
        let x560 := [x558]
        bif decide (x559.length + x560.length ≤ 8796093022208) then
         let x561 := x559 ++ x560
         let x562 := (IntKind.i64.wrap (x557 + (1 : Int)))
         next x554 x555 x556 x562 x561
        else
         none))
   | none => none
 else
  k0 v539
noncomputable def spec_l5Sub_L0.b {α : Type} (N n : Nat) (v535 : List Int) (v536 : List Int) (v537 : Int) (v538 : Int) (v539 : List Int) (k0 : List Int → Option α) : Option α :=
  Nat.rec (motive := fun _ => List Int → List Int → Int → Int → List Int → Option α) (fun _ _ _ _ _ => none) (fun _ next => spec_l5Sub_L0r N next k0) n v535 v536 v537 v538 v539
theorem spec_l5Sub_L0.ex : ∃ f : ((α : Type) → Nat → Nat → List Int → List Int → Int → Int → List Int → (List Int → Option α) → Option α), f = fun α => @spec_l5Sub_L0.b α := ⟨_, rfl⟩
noncomputable def spec_l5Sub_L0 {α : Type} : Nat → Nat → List Int → List Int → Int → Int → List Int → (List Int → Option α) → Option α := Classical.choose spec_l5Sub_L0.ex α
theorem spec_l5Sub_L0.eq : @spec_l5Sub_L0 = @spec_l5Sub_L0.b := funext fun α => congrFun (Classical.choose_spec spec_l5Sub_L0.ex) α
theorem spec_l5Sub_L0.zero {α : Type} (N : Nat) (v535 : List Int) (v536 : List Int) (v537 : Int) (v538 : Int) (v539 : List Int) (k0 : List Int → Option α) : spec_l5Sub_L0 N 0 v535 v536 v537 v538 v539 k0 = none := by rw [spec_l5Sub_L0.eq]; rfl
theorem spec_l5Sub_L0.succ {α : Type} (N n : Nat) (v535 : List Int) (v536 : List Int) (v537 : Int) (v538 : Int) (v539 : List Int) (k0 : List Int → Option α) : spec_l5Sub_L0 N (n + 1) v535 v536 v537 v538 v539 k0 = spec_l5Sub_L0r N (fun y0 y1 y2 y3 y4 => spec_l5Sub_L0 N n y0 y1 y2 y3 y4 k0) k0 v535 v536 v537 v538 v539 := by rw [spec_l5Sub_L0.eq]; rfl
/-- spec.l5Sub -/
noncomputable def spec_l5Sub.b {α : Type} (N : Nat) (a533 : List Int) (a534 : List Int) (k0 : List Int → Option α) : Option α :=
 spec_l5Sub_L0 N N a533 a534 (0 : Int) (0 : Int) []
  (fun x563 =>
   spec_l5Trim N x563
    (fun x564 =>
     k0 x564))
theorem spec_l5Sub.ex : ∃ f : ((α : Type) → Nat → List Int → List Int → (List Int → Option α) → Option α), f = fun α => @spec_l5Sub.b α := ⟨_, rfl⟩
noncomputable def spec_l5Sub {α : Type} : Nat → List Int → List Int → (List Int → Option α) → Option α := Classical.choose spec_l5Sub.ex α
theorem spec_l5Sub.eq : @spec_l5Sub = @spec_l5Sub.b := funext fun α => congrFun (Classical.choose_spec spec_l5Sub.ex) α

noncomputable def spec_l5Div_J17.b {α : Type} (N : Nat) (v504 : Int) (v505 : Int) (v506 : Int) (v507 : Int) (v508 : List Int) (v509 : List Int) (v510 : List Int) (v511 : List Int) (k0 : Int → Int → Int → Int → List Int → List Int → List Int → List Int → Option α) : Option α :=
 let x512 := (decide ((65536 : Int) ≤ v507))
 bif x512 then
  k0 v504 v505 v506 (65535 : Int) v508 v509 v510 v511
 else
  k0 v504 v505 v506 v507 v508 v509 v510 v511
theorem spec_l5Div_J17.ex : ∃ f : ((α : Type) → Nat → Int → Int → Int → Int → List Int → List Int → List Int → List Int → (Int → Int → Int → Int → List Int → List Int → List Int → List Int → Option α) → Option α), f = fun α => @spec_l5Div_J17.b α := ⟨_, rfl⟩
noncomputable def spec_l5Div_J17 {α : Type} : Nat → Int → Int → Int → Int → List Int → List Int → List Int → List Int → (Int → Int → Int → Int → List Int → List Int → List Int → List Int → Option α) → Option α := Classical.choose spec_l5Div_J17.ex α
theorem spec_l5Div_J17.eq : @spec_l5Div_J17 = @spec_l5Div_J17.b := funext fun α => congrFun (Classical.choose_spec spec_l5Div_J17.ex) α
noncomputable def spec_l5Div_L2r {α : Type} (N : Nat) (next : Int → Int → Int → Int → List Int → List Int → List Int → List Int → List Int → Option α) (k0 : Int → Int → Int → Int → List Int → List Int → List Int → List Int → List Int → Option α) (v522 : Int) (v523 : Int) (v524 : Int) (v525 : Int) (v526 : List Int) (v527 : List Int) (v528 : List Int) (v529 : List Int) (v530 : List Int) : Option α :=
 spec_l5Cmp N v530 v529
  (fun x531 =>
   let x532 := (decide ((0 : Int) < x531))
   bif x532 then
    spec_l5Sub N v530 v527
     (fun x565 =>
      let x566 := (IntKind.i64.wrap (v525 - (1 : Int)))
      next v522 v523 v524 x566 v526 v527 v528 v529 x565)
   else
    k0 v522 v523 v524 v525 v526 v527 v528 v529 v530)
noncomputable def spec_l5Div_L2.b {α : Type} (N n : Nat) (v522 : Int) (v523 : Int) (v524 : Int) (v525 : Int) (v526 : List Int) (v527 : List Int) (v528 : List Int) (v529 : List Int) (v530 : List Int) (k0 : Int → Int → Int → Int → List Int → List Int → List Int → List Int → List Int → Option α) : Option α :=
  Nat.rec (motive := fun _ => Int → Int → Int → Int → List Int → List Int → List Int → List Int → List Int → Option α) (fun _ _ _ _ _ _ _ _ _ => none) (fun _ next => spec_l5Div_L2r N next k0) n v522 v523 v524 v525 v526 v527 v528 v529 v530
theorem spec_l5Div_L2.ex : ∃ f : ((α : Type) → Nat → Nat → Int → Int → Int → Int → List Int → List Int → List Int → List Int → List Int → (Int → Int → Int → Int → List Int → List Int → List Int → List Int → List Int → Option α) → Option α), f = fun α => @spec_l5Div_L2.b α := ⟨_, rfl⟩
noncomputable def spec_l5Div_L2 {α : Type} : Nat → Nat → Int → Int → Int → Int → List Int → List Int → List Int → List Int → List Int → (Int → Int → Int → Int → List Int → List Int → List Int → List Int → List Int → Option α) → Option α := Classical.choose spec_l5Div_L2.ex α
theorem spec_l5Div_L2.eq : @spec_l5Div_L2 = @spec_l5Div_L2.b := funext fun α => congrFun (Classical.choose_spec spec_l5Div_L2.ex) α
theorem spec_l5Div_L2.zero {α : Type} (N : Nat) (v522 : Int) (v523 : Int) (v524 : Int) (v525 : Int) (v526 : List Int) (v527 : List Int) (v528 : List Int) (v529 : List Int) (v530 : List Int) (k0 : Int → Int → Int → Int → List Int → List Int → List Int → List Int → List Int → Option α) : spec_l5Div_L2 N 0 v522 v523 v524 v525 v526 v527 v528 v529 v530 k0 = none := by rw [spec_l5Div_L2.eq]; rfl
theorem spec_l5Div_L2.succ {α : Type} (N n : Nat) (v522 : Int) (v523 : Int) (v524 : Int) (v525 : Int) (v526 : List Int) (v527 : List Int) (v528 : List Int) (v529 : List Int) (v530 : List Int) (k0 : Int → Int → Int → Int → List Int → List Int → List Int → List Int → List Int → Option α) : spec_l5Div_L2 N (n + 1) v522 v523 v524 v525 v526 v527 v528 v529 v530 k0 = spec_l5Div_L2r N (fun y0 y1 y2 y3 y4 y5 y6 y7 y8 => spec_l5Div_L2 N n y0 y1 y2 y3 y4 y5 y6 y7 y8 k0) k0 v522 v523 v524 v525 v526 v527 v528 v529 v530 := by rw [spec_l5Div_L2.eq]; rfl
noncomputable def spec_l5Div_L0r {α : Type} (N : Nat) (next : Int → Int → Int → List Int → List Int → List Int → List Int → Option α) (k0 : Int → List Int → List Int → Option α) (v441 : Int) (v442 : Int) (v443 : Int) (v444 : List Int) (v445 : List Int) (v446 : List Int) (v447 : List Int) : Option α :=
 let x448 := (decide ((0 : Int) ≤ v443))
 bif x448 then
  spec_l5Shl N v447 (1 : Int)
   (fun x449 =>
    bif (decide (v443 < (0 : Int))) then
     none
    else
     bif decide (v443.toNat < v444.length) then
      match v444[v443.toNat]? with
      | some x450 =>
       let x451 := IntKind.u64.wrap x450
       spec_NatOf N x451
        (fun x452 =>
         spec_l5Add N x449 x452
          (fun x494 =>
           spec_l5Trim N x494
            (fun x495 =>
             spec_l5At N x495 v442
              (fun x496 =>
               let x497 := (IntKind.i64.wrap (x496 * (65536 : Int)))
               let x498 := (IntKind.i64.wrap (v442 - (1 : Int)))
               spec_l5At N x495 x498
                (fun x499 =>
                 let x500 := IntKind.i64.wrap (x497 + x499)
                 let x501 := (IntKind.i64.wrap (v442 - (1 : Int)))
                 bif (decide (x501 < (0 : Int))) then
                  none
                 else
                  bif decide (x501.toNat < v445.length) then
                   match v445[x501.toNat]? with
                   | some x502 =>
                    bif (decide (x502 = (0 : Int))) then
                     none
                    else
                     let x503 := IntKind.i64.wrap (Int.tdiv x500 x502)
                     spec_l5Div_J17 N v441 v442 v443 x503 v444 v445 v446 x495
                      (fun x513 x514 x515 x516 x517 x518 x519 x520 =>
                       spec_l5Times N x518 x516
                        (fun x521 =>
                         spec_l5Div_L2 N N x513 x514 x515 x516 x517 x518 x519 x520 x521
                          (fun x567 x568 x569 x570 x571 x572 x573 x574 x575 =>
                           bif (decide (x569 < (0 : Int))) then
                            none
                           else
                            bif decide (x569.toNat < x573.length) then
                             match x573[x569.toNat]? with
                             | some x576 =>
                              let x577 := x573.set x569.toNat x570
                              spec_l5Sub N x574 x575
                               (fun x578 =>
                                let x579 := (IntKind.i64.wrap (x569 - (1 : Int)))
                                next x567 x568 x579 x571 x572 x577 x578)
                             | none => none
                            else
                             none)))
                   | none => none
                  else
                   none)))))
      | none => none
     else
      none)
 else
  k0 v441 v446 v447
noncomputable def spec_l5Div_L0.b {α : Type} (N n : Nat) (v441 : Int) (v442 : Int) (v443 : Int) (v444 : List Int) (v445 : List Int) (v446 : List Int) (v447 : List Int) (k0 : Int → List Int → List Int → Option α) : Option α :=
  Nat.rec (motive := fun _ => Int → Int → Int → List Int → List Int → List Int → List Int → Option α) (fun _ _ _ _ _ _ _ => none) (fun _ next => spec_l5Div_L0r N next k0) n v441 v442 v443 v444 v445 v446 v447
theorem spec_l5Div_L0.ex : ∃ f : ((α : Type) → Nat → Nat → Int → Int → Int → List Int → List Int → List Int → List Int → (Int → List Int → List Int → Option α) → Option α), f = fun α => @spec_l5Div_L0.b α := ⟨_, rfl⟩
noncomputable def spec_l5Div_L0 {α : Type} : Nat → Nat → Int → Int → Int → List Int → List Int → List Int → List Int → (Int → List Int → List Int → Option α) → Option α := Classical.choose spec_l5Div_L0.ex α
theorem spec_l5Div_L0.eq : @spec_l5Div_L0 = @spec_l5Div_L0.b := funext fun α => congrFun (Classical.choose_spec spec_l5Div_L0.ex) α
theorem spec_l5Div_L0.zero {α : Type} (N : Nat) (v441 : Int) (v442 : Int) (v443 : Int) (v444 : List Int) (v445 : List Int) (v446 : List Int) (v447 : List Int) (k0 : Int → List Int → List Int → Option α) : spec_l5Div_L0 N 0 v441 v442 v443 v444 v445 v446 v447 k0 = none := by rw [spec_l5Div_L0.eq]; rfl
theorem spec_l5Div_L0.succ {α : Type} (N n : Nat) (v441 : Int) (v442 : Int) (v443 : Int) (v444 : List Int) (v445 : List Int) (v446 : List Int) (v447 : List Int) (k0 : Int → List Int → List Int → Option α) : spec_l5Div_L0 N (n + 1) v441 v442 v443 v444 v445 v446 v447 k0 = spec_l5Div_L0r N (fun y0 y1 y2 y3 y4 y5 y6 => spec_l5Div_L0 N n y0 y1 y2 y3 y4 y5 y6 k0) k0 v441 v442 v443 v444 v445 v446 v447 := by rw [spec_l5Div_L0.eq]; rfl
/-- spec.l5Div -/
noncomputable def spec_l5Div.b {α : Type} (N : Nat) (a339 : List Int) (a340 : List Int) (k0 : List Int → List Int → Option α) : Option α :=
 spec_l5Cmp N a339 a340
  (fun x363 =>
   let x364 := (decide (x363 < (0 : Int)))
   bif x364 then
    spec_l5Trim N a339
     (fun x365 =>
      k0 [] x365)
   else
    let x366 := ((a340.length : Nat) : Int)
    let x367 := (decide (x366 = (1 : Int)))
    bif x367 then
     match a340[0]? with
     | some x368 =>
      spec_l5DivSmall N a339 x368
       (fun x392 x393 =>
        let x394 := IntKind.u64.wrap x392
        spec_NatOf N x394
         (fun x405 =>
          k0 x393 x405))
     | none => none
    else
     let x406 := ((a340.length : Nat) : Int)
     let x407 := (IntKind.i64.wrap (x406 - (1 : Int)))
     bif (decide (x407 < (0 : Int))) then
      none
     else
      match a340[x407.toNat]? with
      | some x408 =>
       let x409 := (IntKind.i64.wrap (x408 + (1 : Int)))
       bif (decide (x409 = (0 : Int))) then
        none
       else
        let x410 := (IntKind.i64.wrap (Int.tdiv (65536 : Int) x409))
        spec_l5Times N a339 x410
         (fun x416 =>
          spec_l5Times N a340 x410
           (fun x417 =>
            let x418 := ((x417.length : Nat) : Int)
            let x419 := ((x416.length : Nat) : Int)
            let x420 := IntKind.i64.wrap (x419 - x418)
            let x421 := (IntKind.i64.wrap (x420 + (1 : Int)))
            bif (decide ((0 : Int) ≤ x421)) then
             bif decide (x421 ≤ x421) then
              bif (decide (x421 ≤ ((8796093022208 : Nat) : Int))) then
               let x422 := (List.replicate x421.toNat (0 : Int))
               let x423 := ((x416.length : Nat) : Int)
               let x424 := IntKind.i64.wrap (x423 - x418)
               let x425 := (IntKind.i64.wrap (x424 + (1 : Int)))
               spec_l5Top N x416 x425
                (fun x438 =>
                 let x439 := ((x416.length : Nat) : Int)
                 let x440 := IntKind.i64.wrap (x439 - x418)
                 spec_l5Div_L0 N N x410 x418 x440 x416 x417 x422 x438
                  (fun x580 x581 x582 =>
                   spec_l5DivSmall N x582 x580
                    (fun _ x584 =>
                     spec_l5Trim N x581
                      (fun x585 =>
                       k0 x585 x584))))
              else
               none
             else
              none
            else
             none))
      | none => none)
theorem spec_l5Div.ex : ∃ f : ((α : Type) → Nat → List Int → List Int → (List Int → List Int → Option α) → Option α), f = fun α => @spec_l5Div.b α := ⟨_, rfl⟩
noncomputable def spec_l5Div {α : Type} : Nat → List Int → List Int → (List Int → List Int → Option α) → Option α := Classical.choose spec_l5Div.ex α
theorem spec_l5Div.eq : @spec_l5Div = @spec_l5Div.b := funext fun α => congrFun (Classical.choose_spec spec_l5Div.ex) α

noncomputable def spec_l8Scaled_J3.b {α : Type} (N : Nat) (v240 : Int) (v241 : List Int) (v242 : List Int) (k0 : List Int → List Int → Option α) : Option α :=
 let x243 := (decide ((0 : Int) ≤ v240))
 bif x243 then
  spec_l5Pow2 N v240
   (fun x266 =>
    spec_l5Mul N v241 x266
     (fun x333 =>
      k0 x333 v242))
 else
  let x334 := IntKind.i64.wrap (0 - v240)
  spec_l5Pow2 N x334
   (fun x335 =>
    spec_l5Mul N v242 x335
     (fun x336 =>
      k0 v241 x336))
theorem spec_l8Scaled_J3.ex : ∃ f : ((α : Type) → Nat → Int → List Int → List Int → (List Int → List Int → Option α) → Option α), f = fun α => @spec_l8Scaled_J3.b α := ⟨_, rfl⟩
noncomputable def spec_l8Scaled_J3 {α : Type} : Nat → Int → List Int → List Int → (List Int → List Int → Option α) → Option α := Classical.choose spec_l8Scaled_J3.ex α
theorem spec_l8Scaled_J3.eq : @spec_l8Scaled_J3 = @spec_l8Scaled_J3.b := funext fun α => congrFun (Classical.choose_spec spec_l8Scaled_J3.ex) α
/-- spec.l8Scaled -/
noncomputable def spec_l8Scaled.b {α : Type} (N : Nat) (a238 : Bool × (List Int) × (List Int) × Unit) (a239 : Int) (k0 : Bool → List Int → Option α) : Option α :=
 spec_l8Scaled_J3 N a239 a238.2.1 a238.2.2.1
  (fun x337 x338 =>
   spec_l5Div N x337 x338
    (fun x586 x587 =>
     let x588 := ((x587.length : Nat) : Int)
     let x589 := (decide ((0 : Int) < x588))
     k0 x589 x586))
theorem spec_l8Scaled.ex : ∃ f : ((α : Type) → Nat → (Bool × (List Int) × (List Int) × Unit) → Int → (Bool → List Int → Option α) → Option α), f = fun α => @spec_l8Scaled.b α := ⟨_, rfl⟩
noncomputable def spec_l8Scaled {α : Type} : Nat → (Bool × (List Int) × (List Int) × Unit) → Int → (Bool → List Int → Option α) → Option α := Classical.choose spec_l8Scaled.ex α
theorem spec_l8Scaled.eq : @spec_l8Scaled = @spec_l8Scaled.b := funext fun α => congrFun (Classical.choose_spec spec_l8Scaled.ex) α

noncomputable def spec_NatOk_L0r {α : Type} (N : Nat) (next : List Int → Int → Option α) (k0 : Bool → Option α) (k1 : List Int → Option α) (v613 : List Int) (v614 : Int) : Option α :=
 let x615 := ((v613.length : Nat) : Int)
 let x616 := decide (v614 < x615)
 bif x616 then
  bif (decide (v614 < (0 : Int))) then
   none
  else
   match v613[v614.toNat]? with
   | some x617 =>
    let x618 := (decide (x617 < (0 : Int)))
    bif x618 then
     k0 false
    else
     bif (decide (v614 < (0 : Int))) then
      none
     else
      match v613[v614.toNat]? with
      | some x619 =>
       let x620 := (decide ((65536 : Int) ≤ x619))
       bif x620 then
        k0 false
       else
        let x621 := (IntKind.i64.wrap (v614 + (1 : Int)))
        next v613 x621
      | none => none
   | none => none
 else
  k1 v613
noncomputable def spec_NatOk_L0.b {α : Type} (N n : Nat) (v613 : List Int) (v614 : Int) (k0 : Bool → Option α) (k1 : List Int → Option α) : Option α :=
  Nat.rec (motive := fun _ => List Int → Int → Option α) (fun _ _ => none) (fun _ next => spec_NatOk_L0r N next k0 k1) n v613 v614
theorem spec_NatOk_L0.ex : ∃ f : ((α : Type) → Nat → Nat → List Int → Int → (Bool → Option α) → (List Int → Option α) → Option α), f = fun α => @spec_NatOk_L0.b α := ⟨_, rfl⟩
noncomputable def spec_NatOk_L0 {α : Type} : Nat → Nat → List Int → Int → (Bool → Option α) → (List Int → Option α) → Option α := Classical.choose spec_NatOk_L0.ex α
theorem spec_NatOk_L0.eq : @spec_NatOk_L0 = @spec_NatOk_L0.b := funext fun α => congrFun (Classical.choose_spec spec_NatOk_L0.ex) α
theorem spec_NatOk_L0.zero {α : Type} (N : Nat) (v613 : List Int) (v614 : Int) (k0 : Bool → Option α) (k1 : List Int → Option α) : spec_NatOk_L0 N 0 v613 v614 k0 k1 = none := by rw [spec_NatOk_L0.eq]; rfl
theorem spec_NatOk_L0.succ {α : Type} (N n : Nat) (v613 : List Int) (v614 : Int) (k0 : Bool → Option α) (k1 : List Int → Option α) : spec_NatOk_L0 N (n + 1) v613 v614 k0 k1 = spec_NatOk_L0r N (fun y0 y1 => spec_NatOk_L0 N n y0 y1 k0 k1) k0 k1 v613 v614 := by rw [spec_NatOk_L0.eq]; rfl
/-- spec.NatOk -/
noncomputable def spec_NatOk.b {α : Type} (N : Nat) (a610 : List Int) (k0 : Bool → Option α) : Option α :=
 let x611 := ((a610.length : Nat) : Int)
 let x612 := (decide ((256 : Int) < x611))
 bif x612 then
  k0 false
 else
  spec_NatOk_L0 N N a610 (0 : Int)
   (fun x622 =>
    k0 x622)
   (fun x623 =>
    let x624 := ((x623.length : Nat) : Int)
    let x625 := (decide (x624 = (0 : Int)))
    bif x625 then
     k0 true
    else
     let x626 := ((x623.length : Nat) : Int)
     let x627 := (IntKind.i64.wrap (x626 - (1 : Int)))
     bif (decide (x627 < (0 : Int))) then
      none
     else
      match x623[x627.toNat]? with
      | some x628 =>
       let x629 := (!(decide (x628 = (0 : Int))))
       k0 x629
      | none => none)
theorem spec_NatOk.ex : ∃ f : ((α : Type) → Nat → List Int → (Bool → Option α) → Option α), f = fun α => @spec_NatOk.b α := ⟨_, rfl⟩
noncomputable def spec_NatOk {α : Type} : Nat → List Int → (Bool → Option α) → Option α := Classical.choose spec_NatOk.ex α
theorem spec_NatOk.eq : @spec_NatOk = @spec_NatOk.b := funext fun α => congrFun (Classical.choose_spec spec_NatOk.ex) α

noncomputable def spec_NatSmall_L0r {α : Type} (N : Nat) (next : List Int → Int → Int → Option α) (k0 : Int → Option α) (v636 : List Int) (v637 : Int) (v638 : Int) : Option α :=
 let x639 := (decide ((0 : Int) ≤ v638))
 bif x639 then
  let x640 := (IntKind.u64.wrap (v637 * (65536 : Int)))
  bif (decide (v638 < (0 : Int))) then
   none
  else
   match v636[v638.toNat]? with
   | some x641 =>
    let x642 := IntKind.u64.wrap x641
    let x643 := IntKind.u64.wrap (x640 + x642)
    let x644 := (IntKind.i64.wrap (v638 - (1 : Int)))
    next v636 x643 x644
   | none => none
 else
  k0 v637
noncomputable def spec_NatSmall_L0.b {α : Type} (N n : Nat) (v636 : List Int) (v637 : Int) (v638 : Int) (k0 : Int → Option α) : Option α :=
  Nat.rec (motive := fun _ => List Int → Int → Int → Option α) (fun _ _ _ => none) (fun _ next => spec_NatSmall_L0r N next k0) n v636 v637 v638
theorem spec_NatSmall_L0.ex : ∃ f : ((α : Type) → Nat → Nat → List Int → Int → Int → (Int → Option α) → Option α), f = fun α => @spec_NatSmall_L0.b α := ⟨_, rfl⟩
noncomputable def spec_NatSmall_L0 {α : Type} : Nat → Nat → List Int → Int → Int → (Int → Option α) → Option α := Classical.choose spec_NatSmall_L0.ex α
theorem spec_NatSmall_L0.eq : @spec_NatSmall_L0 = @spec_NatSmall_L0.b := funext fun α => congrFun (Classical.choose_spec spec_NatSmall_L0.ex) α
theorem spec_NatSmall_L0.zero {α : Type} (N : Nat) (v636 : List Int) (v637 : Int) (v638 : Int) (k0 : Int → Option α) : spec_NatSmall_L0 N 0 v636 v637 v638 k0 = none := by rw [spec_NatSmall_L0.eq]; rfl
theorem spec_NatSmall_L0.succ {α : Type} (N n : Nat) (v636 : List Int) (v637 : Int) (v638 : Int) (k0 : Int → Option α) : spec_NatSmall_L0 N (n + 1) v636 v637 v638 k0 = spec_NatSmall_L0r N (fun y0 y1 y2 => spec_NatSmall_L0 N n y0 y1 y2 k0) k0 v636 v637 v638 := by rw [spec_NatSmall_L0.eq]; rfl
/-- spec.NatSmall -/
noncomputable def spec_NatSmall.b {α : Type} (N : Nat) (a609 : List Int) (k0 : Int → Bool → Option α) : Option α :=
 spec_NatOk N a609
  (fun x630 =>
   let x631 := !x630
   bif x631 then
    k0 (0 : Int) false
   else
    let x632 := ((a609.length : Nat) : Int)
    let x633 := (decide ((4 : Int) < x632))
    bif x633 then
     k0 (0 : Int) false
    else
     let x634 := ((a609.length : Nat) : Int)
     let x635 := (IntKind.i64.wrap (x634 - (1 : Int)))
     spec_NatSmall_L0 N N a609 (0 : Int) x635
      (fun x645 =>
       k0 x645 true))
theorem spec_NatSmall.ex : ∃ f : ((α : Type) → Nat → List Int → (Int → Bool → Option α) → Option α), f = fun α => @spec_NatSmall.b α := ⟨_, rfl⟩
noncomputable def spec_NatSmall {α : Type} : Nat → List Int → (Int → Bool → Option α) → Option α := Classical.choose spec_NatSmall.ex α
theorem spec_NatSmall.eq : @spec_NatSmall = @spec_NatSmall.b := funext fun α => congrFun (Classical.choose_spec spec_NatSmall.ex) α

noncomputable def spec_l8Size_J5.b {α : Type} (N : Nat) (v124 : Int) (v125 : Int) (v126 : Int) (v127 : Bool × (List Int) × (List Int) × Unit) (k0 : Int → Int → Int → (Bool × (List Int) × (List Int) × Unit) → Option α) : Option α :=
 spec_l1Least N v124
  (fun x130 =>
   let x131 := IntKind.i64.wrap (0 - x130)
   let x132 := decide (x131 < v126)
   bif x132 then
    spec_l1Least N v124
     (fun x133 =>
      let x134 := IntKind.i64.wrap (0 - x133)
      k0 v124 v125 x134 v127)
   else
    k0 v124 v125 v126 v127)
theorem spec_l8Size_J5.ex : ∃ f : ((α : Type) → Nat → Int → Int → Int → (Bool × (List Int) × (List Int) × Unit) → (Int → Int → Int → (Bool × (List Int) × (List Int) × Unit) → Option α) → Option α), f = fun α => @spec_l8Size_J5.b α := ⟨_, rfl⟩
noncomputable def spec_l8Size_J5 {α : Type} : Nat → Int → Int → Int → (Bool × (List Int) × (List Int) × Unit) → (Int → Int → Int → (Bool × (List Int) × (List Int) × Unit) → Option α) → Option α := Classical.choose spec_l8Size_J5.ex α
theorem spec_l8Size_J5.eq : @spec_l8Size_J5 = @spec_l8Size_J5.b := funext fun α => congrFun (Classical.choose_spec spec_l8Size_J5.ex) α
noncomputable def spec_l8Size_L0r {α : Type} (N : Nat) (next : Int → Int → Int → Bool → (Bool × (List Int) × (List Int) × Unit) → List Int → Option α) (k0 : Int → Int → Int → Bool → List Int → Option α) (v592 : Int) (v593 : Int) (v594 : Int) (v595 : Bool) (v596 : Bool × (List Int) × (List Int) × Unit) (v597 : List Int) : Option α :=
 spec_l5Bits N v597
  (fun x598 =>
   let x599 := (IntKind.i64.wrap (v593 + (1 : Int)))
   let x600 := decide (x599 < x598)
   bif x600 then
    let x601 := (IntKind.i64.wrap (v594 - (1 : Int)))
    spec_l8Scaled N v596 x601
     (fun x602 x603 =>
      next v592 v593 x601 x602 v596 x603)
   else
    k0 v592 v593 v594 v595 v597)
noncomputable def spec_l8Size_L0.b {α : Type} (N n : Nat) (v592 : Int) (v593 : Int) (v594 : Int) (v595 : Bool) (v596 : Bool × (List Int) × (List Int) × Unit) (v597 : List Int) (k0 : Int → Int → Int → Bool → List Int → Option α) : Option α :=
  Nat.rec (motive := fun _ => Int → Int → Int → Bool → (Bool × (List Int) × (List Int) × Unit) → List Int → Option α) (fun _ _ _ _ _ _ => none) (fun _ next => spec_l8Size_L0r N next k0) n v592 v593 v594 v595 v596 v597
theorem spec_l8Size_L0.ex : ∃ f : ((α : Type) → Nat → Nat → Int → Int → Int → Bool → (Bool × (List Int) × (List Int) × Unit) → List Int → (Int → Int → Int → Bool → List Int → Option α) → Option α), f = fun α => @spec_l8Size_L0.b α := ⟨_, rfl⟩
noncomputable def spec_l8Size_L0 {α : Type} : Nat → Nat → Int → Int → Int → Bool → (Bool × (List Int) × (List Int) × Unit) → List Int → (Int → Int → Int → Bool → List Int → Option α) → Option α := Classical.choose spec_l8Size_L0.ex α
theorem spec_l8Size_L0.eq : @spec_l8Size_L0 = @spec_l8Size_L0.b := funext fun α => congrFun (Classical.choose_spec spec_l8Size_L0.ex) α
theorem spec_l8Size_L0.zero {α : Type} (N : Nat) (v592 : Int) (v593 : Int) (v594 : Int) (v595 : Bool) (v596 : Bool × (List Int) × (List Int) × Unit) (v597 : List Int) (k0 : Int → Int → Int → Bool → List Int → Option α) : spec_l8Size_L0 N 0 v592 v593 v594 v595 v596 v597 k0 = none := by rw [spec_l8Size_L0.eq]; rfl
theorem spec_l8Size_L0.succ {α : Type} (N n : Nat) (v592 : Int) (v593 : Int) (v594 : Int) (v595 : Bool) (v596 : Bool × (List Int) × (List Int) × Unit) (v597 : List Int) (k0 : Int → Int → Int → Bool → List Int → Option α) : spec_l8Size_L0 N (n + 1) v592 v593 v594 v595 v596 v597 k0 = spec_l8Size_L0r N (fun y0 y1 y2 y3 y4 y5 => spec_l8Size_L0 N n y0 y1 y2 y3 y4 y5 k0) k0 v592 v593 v594 v595 v596 v597 := by rw [spec_l8Size_L0.eq]; rfl
/-- spec.l8Size -/
noncomputable def spec_l8Size.b {α : Type} (N : Nat) (a97 : Int) (a98 : Bool × (List Int) × (List Int) × Unit) (k0 : Int → Bool → Option α) : Option α :=
 let x99 := ((a98.2.1.length : Nat) : Int)
 let x100 := (decide (x99 = (0 : Int)))
 bif x100 then
  k0 (0 : Int) false
 else
  spec_l1Frac N a97
   (fun x103 =>
    let x104 := (IntKind.i64.wrap (x103 + (1 : Int)))
    spec_l5Bits N a98.2.1
     (fun x120 =>
      let x121 := IntKind.i64.wrap (x104 - x120)
      spec_l5Bits N a98.2.2.1
       (fun x122 =>
        let x123 := IntKind.i64.wrap (x121 + x122)
        spec_l8Size_J5 N a97 x103 x123 a98
         (fun x135 x136 x137 x138 =>
          spec_l8Scaled N x138 x137
           (fun x590 x591 =>
            spec_l8Size_L0 N N x135 x136 x137 x590 x138 x591
             (fun x604 x605 x606 x607 x608 =>
              spec_NatSmall N x608
               (fun x646 _ =>
                spec_l5Bits N x608
                 (fun x648 =>
                  let x649 := decide (x648 ≤ x605)
                  bif x649 then
                   let x650 := IntKind.i64.wrap x646
                   k0 x650 x607
                  else
                   let x651 := IntKind.i64.wrap (0 - x606)
                   spec_l1Least N x604
                    (fun x652 =>
                     let x653 := IntKind.i64.wrap (x651 - x652)
                     let x654 := (IntKind.i64.wrap (x653 + (1 : Int)))
                     spec_BitTop N x604
                      (fun x655 =>
                       let x656 := IntKind.u64.wrap x605
                       bif (decide (x656 < (0 : Int))) then
                        none
                       else
                        let x657 := shrI .i64 x655 x656
                        let x658 := (IntKind.i64.wrap (x657 - (1 : Int)))
                        let x659 := decide (x658 < x654)
                        bif x659 then
                         spec_BitTop N x604
                          (fun x660 =>
                           let x661 := (IntKind.i64.wrap (x660 - (1 : Int)))
                           k0 x661 true)
                        else
                         let x662 := IntKind.u64.wrap x605
                         bif (decide (x662 < (0 : Int))) then
                          none
                         else
                          let x663 := shlI .i64 x654 x662
                          let x664 := IntKind.i64.wrap x646
                          let x665 := IntKind.i64.wrap (x663 + x664)
                          let x666 := IntKind.u64.wrap x605
                          bif (decide (x666 < (0 : Int))) then
                           none
                          else
                           let x667 := (shlI .i64 (1 : Int) x666)
                           let x668 := IntKind.i64.wrap (x665 - x667)
                           k0 x668 x607))))))))))
theorem spec_l8Size.ex : ∃ f : ((α : Type) → Nat → Int → (Bool × (List Int) × (List Int) × Unit) → (Int → Bool → Option α) → Option α), f = fun α => @spec_l8Size.b α := ⟨_, rfl⟩
noncomputable def spec_l8Size {α : Type} : Nat → Int → (Bool × (List Int) × (List Int) × Unit) → (Int → Bool → Option α) → Option α := Classical.choose spec_l8Size.ex α
theorem spec_l8Size.eq : @spec_l8Size = @spec_l8Size.b := funext fun α => congrFun (Classical.choose_spec spec_l8Size.ex) α

noncomputable def spec_l8Round_J3.b {α : Type} (N : Nat) (v671 : Bool) (v672 : Int) (v673 : Bool) (k0 : Int → Option α) : Option α :=
 bif v673 then
  let x674 := !v671
  bif x674 then
   let x675 := (IntKind.i64.wrap (v672 + (1 : Int)))
   k0 x675
  else
   k0 v672
 else
  k0 v672
theorem spec_l8Round_J3.ex : ∃ f : ((α : Type) → Nat → Bool → Int → Bool → (Int → Option α) → Option α), f = fun α => @spec_l8Round_J3.b α := ⟨_, rfl⟩
noncomputable def spec_l8Round_J3 {α : Type} : Nat → Bool → Int → Bool → (Int → Option α) → Option α := Classical.choose spec_l8Round_J3.ex α
theorem spec_l8Round_J3.eq : @spec_l8Round_J3 = @spec_l8Round_J3.b := funext fun α => congrFun (Classical.choose_spec spec_l8Round_J3.ex) α
noncomputable def spec_l8Round_J6.b {α : Type} (N : Nat) (v678 : Bool) (v679 : Int) (v680 : Bool) (k0 : Int → Option α) : Option α :=
 bif v680 then
  bif v678 then
   let x681 := (IntKind.i64.wrap (v679 + (1 : Int)))
   k0 x681
  else
   k0 v679
 else
  k0 v679
theorem spec_l8Round_J6.ex : ∃ f : ((α : Type) → Nat → Bool → Int → Bool → (Int → Option α) → Option α), f = fun α => @spec_l8Round_J6.b α := ⟨_, rfl⟩
noncomputable def spec_l8Round_J6 {α : Type} : Nat → Bool → Int → Bool → (Int → Option α) → Option α := Classical.choose spec_l8Round_J6.ex α
theorem spec_l8Round_J6.eq : @spec_l8Round_J6 = @spec_l8Round_J6.b := funext fun α => congrFun (Classical.choose_spec spec_l8Round_J6.ex) α
/-- spec.l8Round -/
noncomputable def spec_l8Round.b {α : Type} (N : Nat) (a94 : Int) (a95 : Bool × (List Int) × (List Int) × Unit) (a96 : Bool) (k0 : Int → Option α) : Option α :=
 spec_l8Size N a94 a95
  (fun x669 x670 =>
   bif a95.1 then
    spec_l8Round_J3 N a96 x669 x670
     (fun x676 =>
      let x677 := IntKind.i64.wrap (0 - x676)
      k0 x677)
   else
    spec_l8Round_J6 N a96 x669 x670
     (fun x682 =>
      k0 x682))
theorem spec_l8Round.ex : ∃ f : ((α : Type) → Nat → Int → (Bool × (List Int) × (List Int) × Unit) → Bool → (Int → Option α) → Option α), f = fun α => @spec_l8Round.b α := ⟨_, rfl⟩
noncomputable def spec_l8Round {α : Type} : Nat → Int → (Bool × (List Int) × (List Int) × Unit) → Bool → (Int → Option α) → Option α := Classical.choose spec_l8Round.ex α
theorem spec_l8Round.eq : @spec_l8Round = @spec_l8Round.b := funext fun α => congrFun (Classical.choose_spec spec_l8Round.ex) α

/-- spec.l9One -/
noncomputable def spec_l9One.b {α : Type} (N : Nat) (a91 : Int) (k0 : Int → Option α) : Option α :=
 let x92 := [(1 : Int)]
 let x93 := [(1 : Int)]
 spec_l8Round N a91 (false, (x92, (x93, ()))) false
  (fun x683 =>
   k0 x683)
theorem spec_l9One.ex : ∃ f : ((α : Type) → Nat → Int → (Int → Option α) → Option α), f = fun α => @spec_l9One.b α := ⟨_, rfl⟩
noncomputable def spec_l9One {α : Type} : Nat → Int → (Int → Option α) → Option α := Classical.choose spec_l9One.ex α
theorem spec_l9One.eq : @spec_l9One = @spec_l9One.b := funext fun α => congrFun (Classical.choose_spec spec_l9One.ex) α

/-- spec.SpanAbs -/
noncomputable def spec_SpanAbs.b {α : Type} (N : Nat) (a693 : Int) (a694 : Bool × Int × Int × Unit) (k0 : (Bool × Int × Int × Unit) → Option α) : Option α :=
 spec_SpanOk N a693 a694
  (fun x695 =>
   let x696 := !x695
   bif x696 then
    spec_SpanOk N a693 a694
     (fun x697 =>
      let x698 := !x697
      bif x698 then
       k0 (false, ((0 : Int), ((0 : Int), ())))
      else
       k0 a694)
   else
    let x699 := !a694.1
    bif x699 then
     spec_SpanOk N a693 a694
      (fun x700 =>
       let x701 := !x700
       bif x701 then
        k0 (false, ((0 : Int), ((0 : Int), ())))
       else
        k0 a694)
    else
     let x702 := (decide ((0 : Int) ≤ a694.2.1))
     bif x702 then
      spec_SpanOk N a693 a694
       (fun x703 =>
        let x704 := !x703
        bif x704 then
         k0 (false, ((0 : Int), ((0 : Int), ())))
        else
         k0 a694)
     else
      let x705 := (decide (a694.2.2.1 ≤ (0 : Int)))
      bif x705 then
       let x706 := IntKind.i64.wrap (0 - a694.2.2.1)
       let x707 := IntKind.i64.wrap (0 - a694.2.1)
       spec_l9Of N x706 x707
        (fun x708 =>
         k0 x708)
      else
       let x709 := IntKind.i64.wrap (0 - a694.2.1)
       spec_l3Max N x709 a694.2.2.1
        (fun x710 =>
         spec_l9Of N (0 : Int) x710
          (fun x711 =>
           k0 x711)))
theorem spec_SpanAbs.ex : ∃ f : ((α : Type) → Nat → Int → (Bool × Int × Int × Unit) → ((Bool × Int × Int × Unit) → Option α) → Option α), f = fun α => @spec_SpanAbs.b α := ⟨_, rfl⟩
noncomputable def spec_SpanAbs {α : Type} : Nat → Int → (Bool × Int × Int × Unit) → ((Bool × Int × Int × Unit) → Option α) → Option α := Classical.choose spec_SpanAbs.ex α
theorem spec_SpanAbs.eq : @spec_SpanAbs = @spec_SpanAbs.b := funext fun α => congrFun (Classical.choose_spec spec_SpanAbs.ex) α

/-- spec.l9Infinite -/
noncomputable def spec_l9Infinite.b {α : Type} (N : Nat) (a721 : Int) (a722 : Int) (k0 : Bool → Option α) : Option α :=
 spec_BitTop N a721
  (fun x723 =>
   let x724 := decide (a722 = x723)
   bif x724 then
    k0 true
   else
    spec_BitTop N a721
     (fun x725 =>
      let x726 := IntKind.i64.wrap (0 - x725)
      let x727 := decide (a722 = x726)
      k0 x727))
theorem spec_l9Infinite.ex : ∃ f : ((α : Type) → Nat → Int → Int → (Bool → Option α) → Option α), f = fun α => @spec_l9Infinite.b α := ⟨_, rfl⟩
noncomputable def spec_l9Infinite {α : Type} : Nat → Int → Int → (Bool → Option α) → Option α := Classical.choose spec_l9Infinite.ex α
theorem spec_l9Infinite.eq : @spec_l9Infinite = @spec_l9Infinite.b := funext fun α => congrFun (Classical.choose_spec spec_l9Infinite.ex) α

noncomputable def spec_BitPartOf_J5.b {α : Type} (N : Nat) (v745 : Int) (v746 : Int) (v747 : Bool × Int × Int × Unit) (v748 : Bool × Int × Int × Unit) (k0 : Int → Int → (Bool × Int × Int × Unit) → (Bool × Int × Int × Unit) → Option α) : Option α :=
 let x749 := (decide (v746 < (0 : Int)))
 bif x749 then
  let x750 := IntKind.i64.wrap (0 - v746)
  k0 v745 x750 v747 v748
 else
  k0 v745 v746 v747 v748
theorem spec_BitPartOf_J5.ex : ∃ f : ((α : Type) → Nat → Int → Int → (Bool × Int × Int × Unit) → (Bool × Int × Int × Unit) → (Int → Int → (Bool × Int × Int × Unit) → (Bool × Int × Int × Unit) → Option α) → Option α), f = fun α => @spec_BitPartOf_J5.b α := ⟨_, rfl⟩
noncomputable def spec_BitPartOf_J5 {α : Type} : Nat → Int → Int → (Bool × Int × Int × Unit) → (Bool × Int × Int × Unit) → (Int → Int → (Bool × Int × Int × Unit) → (Bool × Int × Int × Unit) → Option α) → Option α := Classical.choose spec_BitPartOf_J5.ex α
theorem spec_BitPartOf_J5.eq : @spec_BitPartOf_J5 = @spec_BitPartOf_J5.b := funext fun α => congrFun (Classical.choose_spec spec_BitPartOf_J5.ex) α
noncomputable def spec_BitPartOf_J10.b {α : Type} (N : Nat) (v761 : Int) (v762 : Int) (v763 : Bool × Int × Int × Unit) (v764 : Bool × Int × Int × Unit) (k0 : (Bool × Int × Int × Unit) → (Bool × Int × Int × Unit) → Option α) : Option α :=
 let x765 := (decide ((0 : Int) < v762))
 bif x765 then
  let x766 := IntKind.u64.wrap v761
  let x767 := IntKind.u64.wrap (v764.2.1 + x766)
  let x768 := IntKind.i64.wrap (v764.2.2.1 + v762)
  let x769 := (IntKind.i64.wrap (x768 - (1 : Int)))
  k0 v763 (v764.1, (x767, (x769, ())))
 else
  k0 v763 v764
theorem spec_BitPartOf_J10.ex : ∃ f : ((α : Type) → Nat → Int → Int → (Bool × Int × Int × Unit) → (Bool × Int × Int × Unit) → ((Bool × Int × Int × Unit) → (Bool × Int × Int × Unit) → Option α) → Option α), f = fun α => @spec_BitPartOf_J10.b α := ⟨_, rfl⟩
noncomputable def spec_BitPartOf_J10 {α : Type} : Nat → Int → Int → (Bool × Int × Int × Unit) → (Bool × Int × Int × Unit) → ((Bool × Int × Int × Unit) → (Bool × Int × Int × Unit) → Option α) → Option α := Classical.choose spec_BitPartOf_J10.ex α
theorem spec_BitPartOf_J10.eq : @spec_BitPartOf_J10 = @spec_BitPartOf_J10.b := funext fun α => congrFun (Classical.choose_spec spec_BitPartOf_J10.ex) α
/-- spec.BitPartOf -/
noncomputable def spec_BitPartOf.b {α : Type} (N : Nat) (a734 : Int) (a735 : Int) (k0 : (Bool × Int × Int × Unit) → Bool → Option α) : Option α :=
 spec_BitOk N a734 a735
  (fun x736 =>
   let x737 := !x736
   bif x737 then
    k0 (false, ((0 : Int), ((0 : Int), ()))) false
   else
    spec_BitTop N a734
     (fun x738 =>
      let x739 := decide (a735 = x738)
      bif x739 then
       k0 (false, ((0 : Int), ((0 : Int), ()))) false
      else
       spec_BitTop N a734
        (fun x740 =>
         let x741 := IntKind.i64.wrap (0 - x740)
         let x742 := decide (a735 = x741)
         bif x742 then
          k0 (false, ((0 : Int), ((0 : Int), ()))) false
         else
          let x743 := (decide (a735 < (0 : Int)))
          spec_l1Least N a734
           (fun x744 =>
            spec_BitPartOf_J5 N a734 a735 (false, ((0 : Int), ((0 : Int), ()))) (x743, ((0 : Int), (x744, ())))
             (fun x751 x752 x753 x754 =>
              spec_l1Frac N x751
               (fun x755 =>
                let x756 := IntKind.u64.wrap x755
                bif (decide (x756 < (0 : Int))) then
                 none
                else
                 let x757 := (shlI .i64 (1 : Int) x756)
                 bif (decide (x757 = (0 : Int))) then
                  none
                 else
                  let x758 := IntKind.i64.wrap (Int.tdiv x752 x757)
                  bif (decide (x757 = (0 : Int))) then
                   none
                  else
                   let x759 := Int.tmod x752 x757
                   let x760 := IntKind.u64.wrap x759
                   spec_BitPartOf_J10 N x757 x758 x753 (x754.1, (x760, (x754.2.2.1, ())))
                    (fun _ x771 =>
                     k0 x771 true)))))))
theorem spec_BitPartOf.ex : ∃ f : ((α : Type) → Nat → Int → Int → ((Bool × Int × Int × Unit) → Bool → Option α) → Option α), f = fun α => @spec_BitPartOf.b α := ⟨_, rfl⟩
noncomputable def spec_BitPartOf {α : Type} : Nat → Int → Int → ((Bool × Int × Int × Unit) → Bool → Option α) → Option α := Classical.choose spec_BitPartOf.ex α
theorem spec_BitPartOf.eq : @spec_BitPartOf = @spec_BitPartOf.b := funext fun α => congrFun (Classical.choose_spec spec_BitPartOf.ex) α

noncomputable def spec_l8Of_J3.b {α : Type} (N : Nat) (v776 : Bool) (v777 : Bool × Int × Int × Unit) (v778 : Bool) (v779 : List Int) (v780 : List Int) (v781 : List Int) (v782 : List Int) (k0 : Bool → Bool → List Int → List Int → List Int → List Int → Option α) : Option α :=
 let x783 := (decide ((0 : Int) ≤ v777.2.2.1))
 bif x783 then
  spec_l5Pow2 N v777.2.2.1
   (fun x784 =>
    spec_l5Mul N v781 x784
     (fun x785 =>
      k0 v776 v778 v779 v780 x785 v782))
 else
  let x786 := IntKind.i64.wrap (0 - v777.2.2.1)
  spec_l5Pow2 N x786
   (fun x787 =>
    k0 v776 v778 v779 v780 v781 x787)
theorem spec_l8Of_J3.ex : ∃ f : ((α : Type) → Nat → Bool → (Bool × Int × Int × Unit) → Bool → List Int → List Int → List Int → List Int → (Bool → Bool → List Int → List Int → List Int → List Int → Option α) → Option α), f = fun α => @spec_l8Of_J3.b α := ⟨_, rfl⟩
noncomputable def spec_l8Of_J3 {α : Type} : Nat → Bool → (Bool × Int × Int × Unit) → Bool → List Int → List Int → List Int → List Int → (Bool → Bool → List Int → List Int → List Int → List Int → Option α) → Option α := Classical.choose spec_l8Of_J3.ex α
theorem spec_l8Of_J3.eq : @spec_l8Of_J3 = @spec_l8Of_J3.b := funext fun α => congrFun (Classical.choose_spec spec_l8Of_J3.ex) α
/-- spec.l8Of -/
noncomputable def spec_l8Of.b {α : Type} (N : Nat) (a732 : Int) (a733 : Int) (k0 : Bool → List Int → List Int → Option α) : Option α :=
 spec_BitPartOf N a732 a733
  (fun x772 _ =>
   spec_NatOf N x772.2.1
    (fun x774 =>
     let x775 := [(1 : Int)]
     spec_l8Of_J3 N false x772 x772.1 [] [] x774 x775
      (fun _ x789 _ _ x792 x793 =>
       k0 x789 x792 x793)))
theorem spec_l8Of.ex : ∃ f : ((α : Type) → Nat → Int → Int → (Bool → List Int → List Int → Option α) → Option α), f = fun α => @spec_l8Of.b α := ⟨_, rfl⟩
noncomputable def spec_l8Of {α : Type} : Nat → Int → Int → (Bool → List Int → List Int → Option α) → Option α := Classical.choose spec_l8Of.ex α
theorem spec_l8Of.eq : @spec_l8Of = @spec_l8Of.b := funext fun α => congrFun (Classical.choose_spec spec_l8Of.ex) α

noncomputable def spec_l9Power_L0r {α : Type} (N : Nat) (next : Int → Int → (Bool × (List Int) × (List Int) × Unit) → Bool → (Bool × (List Int) × (List Int) × Unit) → List Int → List Int → Option α) (k0 : Bool → (Bool × (List Int) × (List Int) × Unit) → List Int → List Int → Option α) (v813 : Int) (v814 : Int) (v815 : Bool × (List Int) × (List Int) × Unit) (v816 : Bool) (v817 : Bool × (List Int) × (List Int) × Unit) (v818 : List Int) (v819 : List Int) : Option α :=
 let x820 := decide (v814 < v813)
 bif x820 then
  let x821 := !(v817.1 == v815.1)
  spec_l5Mul N v817.2.1 v815.2.1
   (fun x822 =>
    spec_l5Mul N v817.2.2.1 v815.2.2.1
     (fun x823 =>
      let x824 := (IntKind.i64.wrap (v814 + (1 : Int)))
      next v813 x824 v815 v816 (x821, (x822, (x823, ()))) v818 v819))
 else
  k0 v816 v817 v818 v819
noncomputable def spec_l9Power_L0.b {α : Type} (N n : Nat) (v813 : Int) (v814 : Int) (v815 : Bool × (List Int) × (List Int) × Unit) (v816 : Bool) (v817 : Bool × (List Int) × (List Int) × Unit) (v818 : List Int) (v819 : List Int) (k0 : Bool → (Bool × (List Int) × (List Int) × Unit) → List Int → List Int → Option α) : Option α :=
  Nat.rec (motive := fun _ => Int → Int → (Bool × (List Int) × (List Int) × Unit) → Bool → (Bool × (List Int) × (List Int) × Unit) → List Int → List Int → Option α) (fun _ _ _ _ _ _ _ => none) (fun _ next => spec_l9Power_L0r N next k0) n v813 v814 v815 v816 v817 v818 v819
theorem spec_l9Power_L0.ex : ∃ f : ((α : Type) → Nat → Nat → Int → Int → (Bool × (List Int) × (List Int) × Unit) → Bool → (Bool × (List Int) × (List Int) × Unit) → List Int → List Int → (Bool → (Bool × (List Int) × (List Int) × Unit) → List Int → List Int → Option α) → Option α), f = fun α => @spec_l9Power_L0.b α := ⟨_, rfl⟩
noncomputable def spec_l9Power_L0 {α : Type} : Nat → Nat → Int → Int → (Bool × (List Int) × (List Int) × Unit) → Bool → (Bool × (List Int) × (List Int) × Unit) → List Int → List Int → (Bool → (Bool × (List Int) × (List Int) × Unit) → List Int → List Int → Option α) → Option α := Classical.choose spec_l9Power_L0.ex α
theorem spec_l9Power_L0.eq : @spec_l9Power_L0 = @spec_l9Power_L0.b := funext fun α => congrFun (Classical.choose_spec spec_l9Power_L0.ex) α
theorem spec_l9Power_L0.zero {α : Type} (N : Nat) (v813 : Int) (v814 : Int) (v815 : Bool × (List Int) × (List Int) × Unit) (v816 : Bool) (v817 : Bool × (List Int) × (List Int) × Unit) (v818 : List Int) (v819 : List Int) (k0 : Bool → (Bool × (List Int) × (List Int) × Unit) → List Int → List Int → Option α) : spec_l9Power_L0 N 0 v813 v814 v815 v816 v817 v818 v819 k0 = none := by rw [spec_l9Power_L0.eq]; rfl
theorem spec_l9Power_L0.succ {α : Type} (N n : Nat) (v813 : Int) (v814 : Int) (v815 : Bool × (List Int) × (List Int) × Unit) (v816 : Bool) (v817 : Bool × (List Int) × (List Int) × Unit) (v818 : List Int) (v819 : List Int) (k0 : Bool → (Bool × (List Int) × (List Int) × Unit) → List Int → List Int → Option α) : spec_l9Power_L0 N (n + 1) v813 v814 v815 v816 v817 v818 v819 k0 = spec_l9Power_L0r N (fun y0 y1 y2 y3 y4 y5 y6 => spec_l9Power_L0 N n y0 y1 y2 y3 y4 y5 y6 k0) k0 v813 v814 v815 v816 v817 v818 v819 := by rw [spec_l9Power_L0.eq]; rfl
/-- spec.l9Power -/
noncomputable def spec_l9Power.b {α : Type} (N : Nat) (a811 : Bool × (List Int) × (List Int) × Unit) (a812 : Int) (k0 : (Bool × (List Int) × (List Int) × Unit) → Option α) : Option α :=
 spec_l9Power_L0 N N a812 (1 : Int) a811 false a811 [] []
  (fun _ x826 _ _ =>
   k0 x826)
theorem spec_l9Power.ex : ∃ f : ((α : Type) → Nat → (Bool × (List Int) × (List Int) × Unit) → Int → ((Bool × (List Int) × (List Int) × Unit) → Option α) → Option α), f = fun α => @spec_l9Power.b α := ⟨_, rfl⟩
noncomputable def spec_l9Power {α : Type} : Nat → (Bool × (List Int) × (List Int) × Unit) → Int → ((Bool × (List Int) × (List Int) × Unit) → Option α) → Option α := Classical.choose spec_l9Power.ex α
theorem spec_l9Power.eq : @spec_l9Power = @spec_l9Power.b := funext fun α => congrFun (Classical.choose_spec spec_l9Power.ex) α

/-- spec.l9Pow -/
noncomputable def spec_l9Pow.b {α : Type} (N : Nat) (a717 : Int) (a718 : Int) (a719 : Int) (a720 : Bool) (k0 : Int → Option α) : Option α :=
 spec_l9Infinite N a717 a718
  (fun x728 =>
   bif x728 then
    let x729 := (Int.tmod a719 (2 : Int))
    let x730 := (decide (x729 = (0 : Int)))
    bif x730 then
     spec_BitTop N a717
      (fun x731 =>
       k0 x731)
    else
     k0 a718
   else
    spec_l8Of N a717 a718
     (fun x794 x795 x796 =>
      spec_l9Power N (x794, (x795, (x796, ()))) a719
       (fun x829 =>
        spec_l8Round N a717 x829 a720
         (fun x830 =>
          k0 x830))))
theorem spec_l9Pow.ex : ∃ f : ((α : Type) → Nat → Int → Int → Int → Bool → (Int → Option α) → Option α), f = fun α => @spec_l9Pow.b α := ⟨_, rfl⟩
noncomputable def spec_l9Pow {α : Type} : Nat → Int → Int → Int → Bool → (Int → Option α) → Option α := Classical.choose spec_l9Pow.ex α
theorem spec_l9Pow.eq : @spec_l9Pow = @spec_l9Pow.b := funext fun α => congrFun (Classical.choose_spec spec_l9Pow.ex) α

noncomputable def spec_SpanPow_J5.b {α : Type} (N : Nat) (v687 : Int) (v688 : Int) (v689 : Bool × Int × Int × Unit) (v690 : Bool × Int × Int × Unit) (k0 : Int → Int → (Bool × Int × Int × Unit) → (Bool × Int × Int × Unit) → Option α) : Option α :=
 let x691 := (Int.tmod v688 (2 : Int))
 let x692 := (decide (x691 = (0 : Int)))
 bif x692 then
  spec_SpanAbs N v687 v689
   (fun x712 =>
    k0 v687 v688 x712 v690)
 else
  k0 v687 v688 v689 v690
theorem spec_SpanPow_J5.ex : ∃ f : ((α : Type) → Nat → Int → Int → (Bool × Int × Int × Unit) → (Bool × Int × Int × Unit) → (Int → Int → (Bool × Int × Int × Unit) → (Bool × Int × Int × Unit) → Option α) → Option α), f = fun α => @spec_SpanPow_J5.b α := ⟨_, rfl⟩
noncomputable def spec_SpanPow_J5 {α : Type} : Nat → Int → Int → (Bool × Int × Int × Unit) → (Bool × Int × Int × Unit) → (Int → Int → (Bool × Int × Int × Unit) → (Bool × Int × Int × Unit) → Option α) → Option α := Classical.choose spec_SpanPow_J5.ex α
theorem spec_SpanPow_J5.eq : @spec_SpanPow_J5 = @spec_SpanPow_J5.b := funext fun α => congrFun (Classical.choose_spec spec_SpanPow_J5.ex) α
/-- spec.SpanPow -/
noncomputable def spec_SpanPow.b {α : Type} (N : Nat) (a82 : Int) (a83 : Bool × Int × Int × Unit) (a84 : Int) (k0 : (Bool × Int × Int × Unit) → Option α) : Option α :=
 spec_SpanOk N a82 a83
  (fun x85 =>
   let x86 := !x85
   bif x86 then
    k0 (false, ((0 : Int), ((0 : Int), ())))
   else
    let x87 := !a83.1
    bif x87 then
     k0 (false, ((0 : Int), ((0 : Int), ())))
    else
     let x88 := (decide (a84 < (0 : Int)))
     bif x88 then
      k0 (false, ((0 : Int), ((0 : Int), ())))
     else
      let x89 := (decide ((8 : Int) < a84))
      bif x89 then
       k0 (false, ((0 : Int), ((0 : Int), ())))
      else
       let x90 := (decide (a84 = (0 : Int)))
       bif x90 then
        spec_l9One N a82
         (fun x684 =>
          spec_l9One N a82
           (fun x685 =>
            spec_l9Of N x684 x685
             (fun x686 =>
              k0 x686)))
       else
        spec_SpanPow_J5 N a82 a84 a83 (false, ((0 : Int), ((0 : Int), ())))
         (fun x713 x714 x715 _ =>
          spec_l9Pow N x713 x715.2.1 x714 false
           (fun x831 =>
            spec_l9Pow N x713 x715.2.2.1 x714 true
             (fun x832 =>
              spec_l9Of N x831 x832
               (fun x833 =>
                k0 x833)))))
theorem spec_SpanPow.ex : ∃ f : ((α : Type) → Nat → Int → (Bool × Int × Int × Unit) → Int → ((Bool × Int × Int × Unit) → Option α) → Option α), f = fun α => @spec_SpanPow.b α := ⟨_, rfl⟩
noncomputable def spec_SpanPow {α : Type} : Nat → Int → (Bool × Int × Int × Unit) → Int → ((Bool × Int × Int × Unit) → Option α) → Option α := Classical.choose spec_SpanPow.ex α
theorem spec_SpanPow.eq : @spec_SpanPow = @spec_SpanPow.b := funext fun α => congrFun (Classical.choose_spec spec_SpanPow.ex) α

/-- spec.BackRoot -/
noncomputable def spec_BackRoot.b {α : Type} (N : Nat) (a7 : Int) (a8 : Bool × Int × Int × Unit) (a9 : Bool × Int × Int × Unit) (k0 : (Bool × Int × Int × Unit) → Option α) : Option α :=
 spec_l9From N a7 a8
  (fun x81 =>
   spec_SpanPow N a7 x81 (2 : Int)
    (fun x834 =>
     spec_SpanMeet N a7 a9 x834
      (fun x835 =>
       k0 x835)))
theorem spec_BackRoot.ex : ∃ f : ((α : Type) → Nat → Int → (Bool × Int × Int × Unit) → (Bool × Int × Int × Unit) → ((Bool × Int × Int × Unit) → Option α) → Option α), f = fun α => @spec_BackRoot.b α := ⟨_, rfl⟩
noncomputable def spec_BackRoot {α : Type} : Nat → Int → (Bool × Int × Int × Unit) → (Bool × Int × Int × Unit) → ((Bool × Int × Int × Unit) → Option α) → Option α := Classical.choose spec_BackRoot.ex α
theorem spec_BackRoot.eq : @spec_BackRoot = @spec_BackRoot.b := funext fun α => congrFun (Classical.choose_spec spec_BackRoot.ex) α

/-- impl.formatOf -/
noncomputable def impl_formatOf.b {α : Type} (N : Nat) (a855 : Int) (k0 : (Int × Int × Int × Int × Unit) → Bool → Option α) : Option α :=
 let x856 := (decide (a855 = (32 : Int)))
 bif x856 then
  k0 ((23 : Int), ((-149 : Int), ((127 : Int), ((2139095040 : Int), ())))) true
 else
  let x857 := (decide (a855 = (64 : Int)))
  bif x857 then
   k0 ((52 : Int), ((-1074 : Int), ((1023 : Int), ((9218868437227405312 : Int), ())))) true
  else
   k0 ((0 : Int), ((0 : Int), ((0 : Int), ((0 : Int), ())))) false
theorem impl_formatOf.ex : ∃ f : ((α : Type) → Nat → Int → ((Int × Int × Int × Int × Unit) → Bool → Option α) → Option α), f = fun α => @impl_formatOf.b α := ⟨_, rfl⟩
noncomputable def impl_formatOf {α : Type} : Nat → Int → ((Int × Int × Int × Int × Unit) → Bool → Option α) → Option α := Classical.choose impl_formatOf.ex α
theorem impl_formatOf.eq : @impl_formatOf = @impl_formatOf.b := funext fun α => congrFun (Classical.choose_spec impl_formatOf.ex) α

/-- impl.BitTop -/
noncomputable def impl_BitTop.b {α : Type} (N : Nat) (a862 : Int) (k0 : Int → Option α) : Option α :=
 impl_formatOf N a862
  (fun x863 _ =>
   k0 x863.2.2.2.1)
theorem impl_BitTop.ex : ∃ f : ((α : Type) → Nat → Int → (Int → Option α) → Option α), f = fun α => @impl_BitTop.b α := ⟨_, rfl⟩
noncomputable def impl_BitTop {α : Type} : Nat → Int → (Int → Option α) → Option α := Classical.choose impl_BitTop.ex α
theorem impl_BitTop.eq : @impl_BitTop = @impl_BitTop.b := funext fun α => congrFun (Classical.choose_spec impl_BitTop.ex) α

/-- impl.in -/
noncomputable def impl_in.b {α : Type} (N : Nat) (a871 : Int) (a872 : Int) (a873 : Int) (k0 : Bool → Option α) : Option α :=
 let x874 := decide (a872 ≤ a871)
 bif x874 then
  let x875 := decide (a871 ≤ a873)
  k0 x875
 else
  k0 false
theorem impl_in.ex : ∃ f : ((α : Type) → Nat → Int → Int → Int → (Bool → Option α) → Option α), f = fun α => @impl_in.b α := ⟨_, rfl⟩
noncomputable def impl_in {α : Type} : Nat → Int → Int → Int → (Bool → Option α) → Option α := Classical.choose impl_in.ex α
theorem impl_in.eq : @impl_in = @impl_in.b := funext fun α => congrFun (Classical.choose_spec impl_in.ex) α

/-- impl.BitOk -/
noncomputable def impl_BitOk.b {α : Type} (N : Nat) (a866 : Int) (a867 : Int) (k0 : Bool → Option α) : Option α :=
 impl_formatOf N a866
  (fun x868 x869 =>
   bif x869 then
    let x870 := IntKind.i64.wrap (0 - x868.2.2.2.1)
    impl_in N a867 x870 x868.2.2.2.1
     (fun x876 =>
      k0 x876)
   else
    k0 false)
theorem impl_BitOk.ex : ∃ f : ((α : Type) → Nat → Int → Int → (Bool → Option α) → Option α), f = fun α => @impl_BitOk.b α := ⟨_, rfl⟩
noncomputable def impl_BitOk {α : Type} : Nat → Int → Int → (Bool → Option α) → Option α := Classical.choose impl_BitOk.ex α
theorem impl_BitOk.eq : @impl_BitOk = @impl_BitOk.b := funext fun α => congrFun (Classical.choose_spec impl_BitOk.ex) α

/-- impl.PairOk -/
noncomputable def impl_PairOk.b {α : Type} (N : Nat) (a860 : Int) (a861 : Int × Int × Unit) (k0 : Bool → Option α) : Option α :=
 impl_BitTop N a860
  (fun x865 =>
   impl_BitOk N a860 a861.1
    (fun x877 =>
     bif x877 then
      impl_BitOk N a860 a861.2.1
       (fun x878 =>
        bif x878 then
         let x879 := decide (a861.1 ≤ a861.2.1)
         bif x879 then
          let x880 := !(decide (a861.1 = x865))
          bif x880 then
           let x881 := IntKind.i64.wrap (0 - x865)
           let x882 := !(decide (a861.2.1 = x881))
           k0 x882
          else
           k0 false
         else
          k0 false
        else
         k0 false)
     else
      k0 false))
theorem impl_PairOk.ex : ∃ f : ((α : Type) → Nat → Int → (Int × Int × Unit) → (Bool → Option α) → Option α), f = fun α => @impl_PairOk.b α := ⟨_, rfl⟩
noncomputable def impl_PairOk {α : Type} : Nat → Int → (Int × Int × Unit) → (Bool → Option α) → Option α := Classical.choose impl_PairOk.ex α
theorem impl_PairOk.eq : @impl_PairOk = @impl_PairOk.b := funext fun α => congrFun (Classical.choose_spec impl_PairOk.ex) α

/-- impl.SpanOk -/
noncomputable def impl_SpanOk.b {α : Type} (N : Nat) (a853 : Int) (a854 : Bool × Int × Int × Unit) (k0 : Bool → Option α) : Option α :=
 impl_formatOf N a853
  (fun _ x859 =>
   bif x859 then
    bif a854.1 then
     impl_PairOk N a853 (a854.2.1, (a854.2.2.1, ()))
      (fun x883 =>
       bif x883 then
        k0 true
       else
        let x884 := ((a854.1 == false) && ((decide (a854.2.1 = (0 : Int))) && ((decide (a854.2.2.1 = (0 : Int))) && true)))
        k0 x884)
    else
     let x885 := ((a854.1 == false) && ((decide (a854.2.1 = (0 : Int))) && ((decide (a854.2.2.1 = (0 : Int))) && true)))
     k0 x885
   else
    k0 false)
theorem impl_SpanOk.ex : ∃ f : ((α : Type) → Nat → Int → (Bool × Int × Int × Unit) → (Bool → Option α) → Option α), f = fun α => @impl_SpanOk.b α := ⟨_, rfl⟩
noncomputable def impl_SpanOk {α : Type} : Nat → Int → (Bool × Int × Int × Unit) → (Bool → Option α) → Option α := Classical.choose impl_SpanOk.ex α
theorem impl_SpanOk.eq : @impl_SpanOk = @impl_SpanOk.b := funext fun α => congrFun (Classical.choose_spec impl_SpanOk.ex) α

noncomputable def impl_full_L0r {α : Type} (N : Nat) (next : Int → List (Bool × Int × Int × Unit) → Int → Int → Option α) (k0 : Bool → Option α) (k1 : Option α) (v846 : Int) (v847 : List (Bool × Int × Int × Unit)) (v848 : Int) (v849 : Int) : Option α :=
 let x850 := decide (v849 < v848)
 bif x850 then
  bif (decide (v849 < (0 : Int))) then
   none
  else
   match v847[v849.toNat]? with
   | some x851 =>
    let x852 := !x851.1
    bif x852 then
     k0 false
    else
     impl_SpanOk N v846 x851
      (fun x886 =>
       let x887 := !x886
       bif x887 then
        k0 false
       else
        let x888 := (IntKind.i64.wrap (v849 + (1 : Int)))
        next v846 v847 v848 x888)
   | none => none
 else
  k1
noncomputable def impl_full_L0.b {α : Type} (N n : Nat) (v846 : Int) (v847 : List (Bool × Int × Int × Unit)) (v848 : Int) (v849 : Int) (k0 : Bool → Option α) (k1 : Option α) : Option α :=
  Nat.rec (motive := fun _ => Int → List (Bool × Int × Int × Unit) → Int → Int → Option α) (fun _ _ _ _ => none) (fun _ next => impl_full_L0r N next k0 k1) n v846 v847 v848 v849
theorem impl_full_L0.ex : ∃ f : ((α : Type) → Nat → Nat → Int → List (Bool × Int × Int × Unit) → Int → Int → (Bool → Option α) → (Option α) → Option α), f = fun α => @impl_full_L0.b α := ⟨_, rfl⟩
noncomputable def impl_full_L0 {α : Type} : Nat → Nat → Int → List (Bool × Int × Int × Unit) → Int → Int → (Bool → Option α) → (Option α) → Option α := Classical.choose impl_full_L0.ex α
theorem impl_full_L0.eq : @impl_full_L0 = @impl_full_L0.b := funext fun α => congrFun (Classical.choose_spec impl_full_L0.ex) α
theorem impl_full_L0.zero {α : Type} (N : Nat) (v846 : Int) (v847 : List (Bool × Int × Int × Unit)) (v848 : Int) (v849 : Int) (k0 : Bool → Option α) (k1 : Option α) : impl_full_L0 N 0 v846 v847 v848 v849 k0 k1 = none := by rw [impl_full_L0.eq]; rfl
theorem impl_full_L0.succ {α : Type} (N n : Nat) (v846 : Int) (v847 : List (Bool × Int × Int × Unit)) (v848 : Int) (v849 : Int) (k0 : Bool → Option α) (k1 : Option α) : impl_full_L0 N (n + 1) v846 v847 v848 v849 k0 k1 = impl_full_L0r N (fun y0 y1 y2 y3 => impl_full_L0 N n y0 y1 y2 y3 k0 k1) k0 k1 v846 v847 v848 v849 := by rw [impl_full_L0.eq]; rfl
/-- impl.full -/
noncomputable def impl_full.b {α : Type} (N : Nat) (a843 : Int) (a844 : List (Bool × Int × Int × Unit)) (k0 : Bool → Option α) : Option α :=
 let x845 := ((a844.length : Nat) : Int)
 impl_full_L0 N N a843 a844 x845 (0 : Int)
  (fun x889 =>
   k0 x889)
  (
   k0 true)
theorem impl_full.ex : ∃ f : ((α : Type) → Nat → Int → List (Bool × Int × Int × Unit) → (Bool → Option α) → Option α), f = fun α => @impl_full.b α := ⟨_, rfl⟩
noncomputable def impl_full {α : Type} : Nat → Int → List (Bool × Int × Int × Unit) → (Bool → Option α) → Option α := Classical.choose impl_full.ex α
theorem impl_full.eq : @impl_full = @impl_full.b := funext fun α => congrFun (Classical.choose_spec impl_full.ex) α

/-- impl.some -/
noncomputable def impl_some.b {α : Type} (N : Nat) (a895 : Int) (a896 : Int) (k0 : (Bool × Int × Int × Unit) → Option α) : Option α :=
 k0 (true, (a895, (a896, ())))
theorem impl_some.ex : ∃ f : ((α : Type) → Nat → Int → Int → ((Bool × Int × Int × Unit) → Option α) → Option α), f = fun α => @impl_some.b α := ⟨_, rfl⟩
noncomputable def impl_some {α : Type} : Nat → Int → Int → ((Bool × Int × Int × Unit) → Option α) → Option α := Classical.choose impl_some.ex α
theorem impl_some.eq : @impl_some = @impl_some.b := funext fun α => congrFun (Classical.choose_spec impl_some.ex) α

/-- impl.from -/
noncomputable def impl_from.b {α : Type} (N : Nat) (a892 : Int) (a893 : Int) (k0 : (Bool × Int × Int × Unit) → Option α) : Option α :=
 impl_BitTop N a892
  (fun x894 =>
   impl_some N a893 x894
    (fun x897 =>
     k0 x897))
theorem impl_from.ex : ∃ f : ((α : Type) → Nat → Int → Int → ((Bool × Int × Int × Unit) → Option α) → Option α), f = fun α => @impl_from.b α := ⟨_, rfl⟩
noncomputable def impl_from {α : Type} : Nat → Int → Int → ((Bool × Int × Int × Unit) → Option α) → Option α := Classical.choose impl_from.ex α
theorem impl_from.eq : @impl_from = @impl_from.b := funext fun α => congrFun (Classical.choose_spec impl_from.ex) α

/-- impl.SpanMeet -/
noncomputable def impl_SpanMeet.b {α : Type} (N : Nat) (a899 : Int) (a900 : Bool × Int × Int × Unit) (a901 : Bool × Int × Int × Unit) (k0 : (Bool × Int × Int × Unit) → Option α) : Option α :=
 let x902 := [a900, a901]
 impl_full N a899 x902
  (fun x903 =>
   let x904 := !x903
   bif x904 then
    k0 (false, ((0 : Int), ((0 : Int), ())))
   else
    let x905 := maxI a900.2.1 a901.2.1
    let x906 := minI a900.2.2.1 a901.2.2.1
    impl_some N x905 x906
     (fun x907 =>
      impl_SpanOk N a899 x907
       (fun x908 =>
        let x909 := !x908
        bif x909 then
         k0 (false, ((0 : Int), ((0 : Int), ())))
        else
         k0 x907)))
theorem impl_SpanMeet.ex : ∃ f : ((α : Type) → Nat → Int → (Bool × Int × Int × Unit) → (Bool × Int × Int × Unit) → ((Bool × Int × Int × Unit) → Option α) → Option α), f = fun α => @impl_SpanMeet.b α := ⟨_, rfl⟩
noncomputable def impl_SpanMeet {α : Type} : Nat → Int → (Bool × Int × Int × Unit) → (Bool × Int × Int × Unit) → ((Bool × Int × Int × Unit) → Option α) → Option α := Classical.choose impl_SpanMeet.ex α
theorem impl_SpanMeet.eq : @impl_SpanMeet = @impl_SpanMeet.b := funext fun α => congrFun (Classical.choose_spec impl_SpanMeet.ex) α

/-- impl.size -/
noncomputable def impl_size.b {α : Type} (N : Nat) (a932 : Int) (k0 : Int → Option α) : Option α :=
 let x933 := IntKind.i64.wrap (0 - a932)
 let x934 := maxI a932 x933
 k0 x934
theorem impl_size.ex : ∃ f : ((α : Type) → Nat → Int → (Int → Option α) → Option α), f = fun α => @impl_size.b α := ⟨_, rfl⟩
noncomputable def impl_size {α : Type} : Nat → Int → (Int → Option α) → Option α := Classical.choose impl_size.ex α
theorem impl_size.eq : @impl_size = @impl_size.b := funext fun α => congrFun (Classical.choose_spec impl_size.ex) α

/-- impl.SpanAbs -/
noncomputable def impl_SpanAbs.b {α : Type} (N : Nat) (a925 : Int) (a926 : Bool × Int × Int × Unit) (k0 : (Bool × Int × Int × Unit) → Option α) : Option α :=
 let x927 := [a926]
 impl_full N a925 x927
  (fun x928 =>
   let x929 := !x928
   bif x929 then
    k0 (false, ((0 : Int), ((0 : Int), ())))
   else
    let x930 := IntKind.i64.wrap (0 - a926.2.2.1)
    let x931 := (maxI (maxI (0 : Int) a926.2.1) x930)
    impl_size N a926.2.1
     (fun x935 =>
      impl_size N a926.2.2.1
       (fun x936 =>
        let x937 := maxI x935 x936
        impl_some N x931 x937
         (fun x938 =>
          k0 x938))))
theorem impl_SpanAbs.ex : ∃ f : ((α : Type) → Nat → Int → (Bool × Int × Int × Unit) → ((Bool × Int × Int × Unit) → Option α) → Option α), f = fun α => @impl_SpanAbs.b α := ⟨_, rfl⟩
noncomputable def impl_SpanAbs {α : Type} : Nat → Int → (Bool × Int × Int × Unit) → ((Bool × Int × Int × Unit) → Option α) → Option α := Classical.choose impl_SpanAbs.ex α
theorem impl_SpanAbs.eq : @impl_SpanAbs = @impl_SpanAbs.b := funext fun α => congrFun (Classical.choose_spec impl_SpanAbs.ex) α

/-- impl.BitPartOf -/
noncomputable def impl_BitPartOf.b {α : Type} (N : Nat) (a2801 : Int) (a2802 : Int) (k0 : (Bool × Int × Int × Unit) → Bool → Option α) : Option α :=
 impl_formatOf N a2801
  (fun x2803 _ =>
   impl_BitOk N a2801 a2802
    (fun x2805 =>
     let x2806 := !x2805
     bif x2806 then
      k0 (false, ((0 : Int), ((0 : Int), ()))) false
     else
      impl_size N a2802
       (fun x2807 =>
        let x2808 := decide (x2807 = x2803.2.2.2.1)
        bif x2808 then
         k0 (false, ((0 : Int), ((0 : Int), ()))) false
        else
         impl_size N a2802
          (fun x2809 =>
           bif (decide (x2803.1 < (0 : Int))) then
            none
           else
            let x2810 := (shlI .i64 (1 : Int) x2803.1)
            let x2811 := (IntKind.i64.wrap (x2810 - (1 : Int)))
            let x2812 := bitI .and .i64 x2809 x2811
            impl_size N a2802
             (fun x2813 =>
              bif (decide (x2803.1 < (0 : Int))) then
               none
              else
               let x2814 := shrI .i64 x2813 x2803.1
               let x2815 := (decide (x2814 = (0 : Int)))
               bif x2815 then
                let x2816 := (decide (a2802 < (0 : Int)))
                let x2817 := IntKind.u64.wrap x2812
                k0 (x2816, (x2817, (x2803.2.1, ()))) true
               else
                let x2818 := (decide (a2802 < (0 : Int)))
                bif (decide (x2803.1 < (0 : Int))) then
                 none
                else
                 let x2819 := (shlI .i64 (1 : Int) x2803.1)
                 let x2820 := bitI .or .i64 x2812 x2819
                 let x2821 := IntKind.u64.wrap x2820
                 let x2822 := IntKind.i64.wrap (x2803.2.1 + x2814)
                 let x2823 := (IntKind.i64.wrap (x2822 - (1 : Int)))
                 k0 (x2818, (x2821, (x2823, ()))) true)))))
theorem impl_BitPartOf.ex : ∃ f : ((α : Type) → Nat → Int → Int → ((Bool × Int × Int × Unit) → Bool → Option α) → Option α), f = fun α => @impl_BitPartOf.b α := ⟨_, rfl⟩
noncomputable def impl_BitPartOf {α : Type} : Nat → Int → Int → ((Bool × Int × Int × Unit) → Bool → Option α) → Option α := Classical.choose impl_BitPartOf.ex α
theorem impl_BitPartOf.eq : @impl_BitPartOf = @impl_BitPartOf.b := funext fun α => congrFun (Classical.choose_spec impl_BitPartOf.ex) α

noncomputable def impl_natOf_L0r {α : Type} (N : Nat) (next : Int → List Int → Option α) (k0 : List Int → Option α) (v2827 : Int) (v2828 : List Int) : Option α :=
 let x2829 := (decide ((0 : Int) < v2827))
 bif x2829 then
  let x2830 := (bitI .and .u64 v2827 (65535 : Int))
  let x2831 := IntKind.i64.wrap x2830
  let x2832 := [x2831]
  bif decide (v2828.length + x2832.length ≤ 8796093022208) then
   let x2833 := v2828 ++ x2832
   let x2834 := (shrI .u64 v2827 (16 : Int))
   next x2834 x2833
  else
   none
 else
  k0 v2828
noncomputable def impl_natOf_L0.b {α : Type} (N n : Nat) (v2827 : Int) (v2828 : List Int) (k0 : List Int → Option α) : Option α :=
  Nat.rec (motive := fun _ => Int → List Int → Option α) (fun _ _ => none) (fun _ next => impl_natOf_L0r N next k0) n v2827 v2828
theorem impl_natOf_L0.ex : ∃ f : ((α : Type) → Nat → Nat → Int → List Int → (List Int → Option α) → Option α), f = fun α => @impl_natOf_L0.b α := ⟨_, rfl⟩
noncomputable def impl_natOf_L0 {α : Type} : Nat → Nat → Int → List Int → (List Int → Option α) → Option α := Classical.choose impl_natOf_L0.ex α
theorem impl_natOf_L0.eq : @impl_natOf_L0 = @impl_natOf_L0.b := funext fun α => congrFun (Classical.choose_spec impl_natOf_L0.ex) α
theorem impl_natOf_L0.zero {α : Type} (N : Nat) (v2827 : Int) (v2828 : List Int) (k0 : List Int → Option α) : impl_natOf_L0 N 0 v2827 v2828 k0 = none := by rw [impl_natOf_L0.eq]; rfl
theorem impl_natOf_L0.succ {α : Type} (N n : Nat) (v2827 : Int) (v2828 : List Int) (k0 : List Int → Option α) : impl_natOf_L0 N (n + 1) v2827 v2828 k0 = impl_natOf_L0r N (fun y0 y1 => impl_natOf_L0 N n y0 y1 k0) k0 v2827 v2828 := by rw [impl_natOf_L0.eq]; rfl
/-- impl.natOf -/
noncomputable def impl_natOf.b {α : Type} (N : Nat) (a2826 : Int) (k0 : List Int → Option α) : Option α :=
 impl_natOf_L0 N N a2826 []
  (fun x2835 =>
   k0 x2835)
theorem impl_natOf.ex : ∃ f : ((α : Type) → Nat → Int → (List Int → Option α) → Option α), f = fun α => @impl_natOf.b α := ⟨_, rfl⟩
noncomputable def impl_natOf {α : Type} : Nat → Int → (List Int → Option α) → Option α := Classical.choose impl_natOf.ex α
theorem impl_natOf.eq : @impl_natOf = @impl_natOf.b := funext fun α => congrFun (Classical.choose_spec impl_natOf.ex) α

/-- slices.Clone[[]int,int] -/
noncomputable def slices_Clone_int_int {α : Type} (N : Nat) (a1 : List Int) (k0 : List Int → Option α) : Option α :=
  bif decide (([] : List Int).length + a1.length ≤ 8796093022208) then k0 a1 else none

noncomputable def impl_trim_L0r {α : Type} (N : Nat) (next : List Int → Option α) (k0 : List Int → Option α) (v2956 : List Int) : Option α :=
 let x2957 := ((v2956.length : Nat) : Int)
 let x2958 := (decide ((0 : Int) < x2957))
 bif x2958 then
  let x2959 := ((v2956.length : Nat) : Int)
  let x2960 := (IntKind.i64.wrap (x2959 - (1 : Int)))
  bif (decide (x2960 < (0 : Int))) then
   none
  else
   match v2956[x2960.toNat]? with
   | some x2961 =>
    let x2962 := (decide (x2961 = (0 : Int)))
    bif x2962 then
     let x2963 := ((v2956.length : Nat) : Int)
     let x2964 := (IntKind.i64.wrap (x2963 - (1 : Int)))
     bif (decide ((0 : Int) ≤ x2964)) then
      bif (decide (x2964 ≤ ((v2956.length : Nat) : Int))) then
       let x2965 := v2956.take x2964.toNat
       next x2965
      else
       none
     else
      none
    else
     k0 v2956
   | none => none
 else
  k0 v2956
noncomputable def impl_trim_L0.b {α : Type} (N n : Nat) (v2956 : List Int) (k0 : List Int → Option α) : Option α :=
  Nat.rec (motive := fun _ => List Int → Option α) (fun _ => none) (fun _ next => impl_trim_L0r N next k0) n v2956
theorem impl_trim_L0.ex : ∃ f : ((α : Type) → Nat → Nat → List Int → (List Int → Option α) → Option α), f = fun α => @impl_trim_L0.b α := ⟨_, rfl⟩
noncomputable def impl_trim_L0 {α : Type} : Nat → Nat → List Int → (List Int → Option α) → Option α := Classical.choose impl_trim_L0.ex α
theorem impl_trim_L0.eq : @impl_trim_L0 = @impl_trim_L0.b := funext fun α => congrFun (Classical.choose_spec impl_trim_L0.ex) α
theorem impl_trim_L0.zero {α : Type} (N : Nat) (v2956 : List Int) (k0 : List Int → Option α) : impl_trim_L0 N 0 v2956 k0 = none := by rw [impl_trim_L0.eq]; rfl
theorem impl_trim_L0.succ {α : Type} (N n : Nat) (v2956 : List Int) (k0 : List Int → Option α) : impl_trim_L0 N (n + 1) v2956 k0 = impl_trim_L0r N (fun y0 => impl_trim_L0 N n y0 k0) k0 v2956 := by rw [impl_trim_L0.eq]; rfl
/-- impl.trim -/
noncomputable def impl_trim.b {α : Type} (N : Nat) (a2955 : List Int) (k0 : List Int → Option α) : Option α :=
 impl_trim_L0 N N a2955
  (fun x2966 =>
   k0 x2966)
theorem impl_trim.ex : ∃ f : ((α : Type) → Nat → List Int → (List Int → Option α) → Option α), f = fun α => @impl_trim.b α := ⟨_, rfl⟩
noncomputable def impl_trim {α : Type} : Nat → List Int → (List Int → Option α) → Option α := Classical.choose impl_trim.ex α
theorem impl_trim.eq : @impl_trim = @impl_trim.b := funext fun α => congrFun (Classical.choose_spec impl_trim.ex) α

noncomputable def impl_natShift_J10.b {α : Type} (N : Nat) (v2926 : List Int) (v2927 : Int) (v2928 : Int) (v2929 : Int) (v2930 : Int) (v2931 : Int) (v2932 : List Int) (k0 : List Int → Int → Int → Int → Int → List Int → Option α) : Option α :=
 let x2933 := IntKind.i64.wrap (v2927 + v2929)
 let x2934 := (IntKind.i64.wrap (x2933 + (1 : Int)))
 let x2935 := ((v2926.length : Nat) : Int)
 let x2936 := decide (x2934 < x2935)
 bif x2936 then
  bif (decide (v2929 < (0 : Int))) then
   none
  else
   bif decide (v2929.toNat < v2932.length) then
    match v2932[v2929.toNat]? with
    | some x2937 =>
     let x2938 := IntKind.i64.wrap (v2927 + v2929)
     let x2939 := (IntKind.i64.wrap (x2938 + (1 : Int)))
     bif (decide (x2939 < (0 : Int))) then
      none
     else
      match v2926[x2939.toNat]? with
      | some x2940 =>
       let x2941 := (IntKind.i64.wrap ((16 : Int) - v2928))
       bif (decide (x2941 < (0 : Int))) then
        none
       else
        let x2942 := shlI .i64 x2940 x2941
        let x2943 := (bitI .and .i64 x2942 (65535 : Int))
        let x2944 := bitI .or .i64 x2937 x2943
        bif (decide (v2929 < (0 : Int))) then
         none
        else
         bif decide (v2929.toNat < v2932.length) then
          match v2932[v2929.toNat]? with
          | some x2945 =>
           let x2946 := v2932.set v2929.toNat x2944
           k0 v2926 v2927 v2928 v2930 v2931 x2946
          | none => none
         else
          none
      | none => none
    | none => none
   else
    none
 else
  k0 v2926 v2927 v2928 v2930 v2931 v2932
theorem impl_natShift_J10.ex : ∃ f : ((α : Type) → Nat → List Int → Int → Int → Int → Int → Int → List Int → (List Int → Int → Int → Int → Int → List Int → Option α) → Option α), f = fun α => @impl_natShift_J10.b α := ⟨_, rfl⟩
noncomputable def impl_natShift_J10 {α : Type} : Nat → List Int → Int → Int → Int → Int → Int → List Int → (List Int → Int → Int → Int → Int → List Int → Option α) → Option α := Classical.choose impl_natShift_J10.ex α
theorem impl_natShift_J10.eq : @impl_natShift_J10 = @impl_natShift_J10.b := funext fun α => congrFun (Classical.choose_spec impl_natShift_J10.ex) α
noncomputable def impl_natShift_L0r {α : Type} (N : Nat) (next : List Int → Int → Int → Int → Int → List Int → Option α) (k0 : List Int → Option α) (v2915 : List Int) (v2916 : Int) (v2917 : Int) (v2918 : Int) (v2919 : Int) (v2920 : List Int) : Option α :=
 let x2921 := decide (v2919 < v2918)
 bif x2921 then
  bif (decide (v2919 < (0 : Int))) then
   none
  else
   bif decide (v2919.toNat < v2920.length) then
    match v2920[v2919.toNat]? with
    | some x2922 =>
     bif (decide (v2917 < (0 : Int))) then
      none
     else
      let x2923 := shrI .i64 x2922 v2917
      bif (decide (v2919 < (0 : Int))) then
       none
      else
       bif decide (v2919.toNat < v2920.length) then
        match v2920[v2919.toNat]? with
        | some x2924 =>
         let x2925 := v2920.set v2919.toNat x2923
         impl_natShift_J10 N v2915 v2916 v2917 v2919 v2918 v2919 x2925
          (fun x2947 x2948 x2949 x2950 x2951 x2952 =>
           let x2953 := (IntKind.i64.wrap (x2951 + (1 : Int)))
           next x2947 x2948 x2949 x2950 x2953 x2952)
        | none => none
       else
        none
    | none => none
   else
    none
 else
  k0 v2920
noncomputable def impl_natShift_L0.b {α : Type} (N n : Nat) (v2915 : List Int) (v2916 : Int) (v2917 : Int) (v2918 : Int) (v2919 : Int) (v2920 : List Int) (k0 : List Int → Option α) : Option α :=
  Nat.rec (motive := fun _ => List Int → Int → Int → Int → Int → List Int → Option α) (fun _ _ _ _ _ _ => none) (fun _ next => impl_natShift_L0r N next k0) n v2915 v2916 v2917 v2918 v2919 v2920
theorem impl_natShift_L0.ex : ∃ f : ((α : Type) → Nat → Nat → List Int → Int → Int → Int → Int → List Int → (List Int → Option α) → Option α), f = fun α => @impl_natShift_L0.b α := ⟨_, rfl⟩
noncomputable def impl_natShift_L0 {α : Type} : Nat → Nat → List Int → Int → Int → Int → Int → List Int → (List Int → Option α) → Option α := Classical.choose impl_natShift_L0.ex α
theorem impl_natShift_L0.eq : @impl_natShift_L0 = @impl_natShift_L0.b := funext fun α => congrFun (Classical.choose_spec impl_natShift_L0.ex) α
theorem impl_natShift_L0.zero {α : Type} (N : Nat) (v2915 : List Int) (v2916 : Int) (v2917 : Int) (v2918 : Int) (v2919 : Int) (v2920 : List Int) (k0 : List Int → Option α) : impl_natShift_L0 N 0 v2915 v2916 v2917 v2918 v2919 v2920 k0 = none := by rw [impl_natShift_L0.eq]; rfl
theorem impl_natShift_L0.succ {α : Type} (N n : Nat) (v2915 : List Int) (v2916 : Int) (v2917 : Int) (v2918 : Int) (v2919 : Int) (v2920 : List Int) (k0 : List Int → Option α) : impl_natShift_L0 N (n + 1) v2915 v2916 v2917 v2918 v2919 v2920 k0 = impl_natShift_L0r N (fun y0 y1 y2 y3 y4 y5 => impl_natShift_L0 N n y0 y1 y2 y3 y4 y5 k0) k0 v2915 v2916 v2917 v2918 v2919 v2920 := by rw [impl_natShift_L0.eq]; rfl
noncomputable def impl_natShift_L2r {α : Type} (N : Nat) (next : Int → List Int → Int → Int → List Int → Option α) (k0 : List Int → Option α) (v2974 : Int) (v2975 : List Int) (v2976 : Int) (v2977 : Int) (v2978 : List Int) : Option α :=
 let x2979 := decide (v2977 < v2976)
 bif x2979 then
  bif (decide (v2977 < (0 : Int))) then
   none
  else
   match v2975[v2977.toNat]? with
   | some x2980 =>
    let x2981 := (Int.tmod v2974 (16 : Int))
    bif (decide (x2981 < (0 : Int))) then
     none
    else
     let x2982 := shlI .i64 x2980 x2981
     let x2983 := (IntKind.i64.wrap (Int.tdiv v2974 (16 : Int)))
     let x2984 := IntKind.i64.wrap (x2983 + v2977)
     bif (decide (x2984 < (0 : Int))) then
      none
     else
      bif decide (x2984.toNat < v2978.length) then
       match v2978[x2984.toNat]? with
       | some x2985 =>
        let x2986 := (bitI .and .i64 x2982 (65535 : Int))
        let x2987 := bitI .or .i64 x2985 x2986
        bif (decide (x2984 < (0 : Int))) then
         none
        else
         bif decide (x2984.toNat < v2978.length) then
          match v2978[x2984.toNat]? with
          | some x2988 =>
           let x2989 := v2978.set x2984.toNat x2987
           let x2990 := (IntKind.i64.wrap (Int.tdiv v2974 (16 : Int)))
           let x2991 := IntKind.i64.wrap (x2990 + v2977)
           let x2992 := (IntKind.i64.wrap (x2991 + (1 : Int)))
           let x2993 := (shrI .i64 x2982 (16 : Int))
           bif (decide (x2992 < (0 : Int))) then
            none
           else
            bif decide (x2992.toNat < x2989.length) then
             match x2989[x2992.toNat]? with
             | some x2994 =>
              let x2995 := x2989.set x2992.toNat x2993
              let x2996 := (IntKind.i64.wrap (v2977 + (1 : Int)))
              next v2974 v2975 v2976 x2996 x2995
             | none => none
            else
             none
          | none => none
         else
          none
       | none => none
      else
       none
   | none => none
 else
  k0 v2978
noncomputable def impl_natShift_L2.b {α : Type} (N n : Nat) (v2974 : Int) (v2975 : List Int) (v2976 : Int) (v2977 : Int) (v2978 : List Int) (k0 : List Int → Option α) : Option α :=
  Nat.rec (motive := fun _ => Int → List Int → Int → Int → List Int → Option α) (fun _ _ _ _ _ => none) (fun _ next => impl_natShift_L2r N next k0) n v2974 v2975 v2976 v2977 v2978
theorem impl_natShift_L2.ex : ∃ f : ((α : Type) → Nat → Nat → Int → List Int → Int → Int → List Int → (List Int → Option α) → Option α), f = fun α => @impl_natShift_L2.b α := ⟨_, rfl⟩
noncomputable def impl_natShift_L2 {α : Type} : Nat → Nat → Int → List Int → Int → Int → List Int → (List Int → Option α) → Option α := Classical.choose impl_natShift_L2.ex α
theorem impl_natShift_L2.eq : @impl_natShift_L2 = @impl_natShift_L2.b := funext fun α => congrFun (Classical.choose_spec impl_natShift_L2.ex) α
theorem impl_natShift_L2.zero {α : Type} (N : Nat) (v2974 : Int) (v2975 : List Int) (v2976 : Int) (v2977 : Int) (v2978 : List Int) (k0 : List Int → Option α) : impl_natShift_L2 N 0 v2974 v2975 v2976 v2977 v2978 k0 = none := by rw [impl_natShift_L2.eq]; rfl
theorem impl_natShift_L2.succ {α : Type} (N n : Nat) (v2974 : Int) (v2975 : List Int) (v2976 : Int) (v2977 : Int) (v2978 : List Int) (k0 : List Int → Option α) : impl_natShift_L2 N (n + 1) v2974 v2975 v2976 v2977 v2978 k0 = impl_natShift_L2r N (fun y0 y1 y2 y3 y4 => impl_natShift_L2 N n y0 y1 y2 y3 y4 k0) k0 v2974 v2975 v2976 v2977 v2978 := by rw [impl_natShift_L2.eq]; rfl
/-- impl.natShift -/
noncomputable def impl_natShift.b {α : Type} (N : Nat) (a2903 : List Int) (a2904 : Int) (k0 : List Int → Option α) : Option α :=
 let x2905 := (decide (a2904 < (0 : Int)))
 bif x2905 then
  let x2906 := IntKind.i64.wrap (0 - a2904)
  let x2907 := (IntKind.i64.wrap (Int.tdiv x2906 (16 : Int)))
  let x2908 := IntKind.i64.wrap (0 - a2904)
  let x2909 := (Int.tmod x2908 (16 : Int))
  let x2910 := ((a2903.length : Nat) : Int)
  let x2911 := decide (x2910 ≤ x2907)
  bif x2911 then
   k0 []
  else
   bif (decide ((0 : Int) ≤ x2907)) then
    bif (decide (x2907 ≤ ((a2903.length : Nat) : Int))) then
     let x2912 := a2903.drop x2907.toNat
     slices_Clone_int_int N x2912
      (fun x2913 =>
       let x2914 := ((x2913.length : Nat) : Int)
       impl_natShift_L0 N N a2903 x2907 x2909 x2914 (0 : Int) x2913
        (fun x2954 =>
         impl_trim N x2954
          (fun x2967 =>
           k0 x2967)))
    else
     none
   else
    none
 else
  let x2968 := (IntKind.i64.wrap (Int.tdiv a2904 (16 : Int)))
  let x2969 := ((a2903.length : Nat) : Int)
  let x2970 := IntKind.i64.wrap (x2968 + x2969)
  let x2971 := (IntKind.i64.wrap (x2970 + (1 : Int)))
  bif (decide ((0 : Int) ≤ x2971)) then
   bif decide (x2971 ≤ x2971) then
    bif (decide (x2971 ≤ ((8796093022208 : Nat) : Int))) then
     let x2972 := (List.replicate x2971.toNat (0 : Int))
     let x2973 := ((a2903.length : Nat) : Int)
     impl_natShift_L2 N N a2904 a2903 x2973 (0 : Int) x2972
      (fun x2997 =>
       impl_trim N x2997
        (fun x2998 =>
         k0 x2998))
    else
     none
   else
    none
  else
   none
theorem impl_natShift.ex : ∃ f : ((α : Type) → Nat → List Int → Int → (List Int → Option α) → Option α), f = fun α => @impl_natShift.b α := ⟨_, rfl⟩
noncomputable def impl_natShift {α : Type} : Nat → List Int → Int → (List Int → Option α) → Option α := Classical.choose impl_natShift.ex α
theorem impl_natShift.eq : @impl_natShift = @impl_natShift.b := funext fun α => congrFun (Classical.choose_spec impl_natShift.ex) α

/-- impl.whole -/
noncomputable def impl_whole.b {α : Type} (N : Nat) (a3000 : Bool) (a3001 : List Int) (k0 : Bool → List Int → List Int → Option α) : Option α :=
 bif a3000 then
  let x3002 := ((a3001.length : Nat) : Int)
  let x3003 := (decide ((0 : Int) < x3002))
  let x3004 := [(1 : Int)]
  k0 x3003 a3001 x3004
 else
  let x3005 := [(1 : Int)]
  k0 false a3001 x3005
theorem impl_whole.ex : ∃ f : ((α : Type) → Nat → Bool → List Int → (Bool → List Int → List Int → Option α) → Option α), f = fun α => @impl_whole.b α := ⟨_, rfl⟩
noncomputable def impl_whole {α : Type} : Nat → Bool → List Int → (Bool → List Int → List Int → Option α) → Option α := Classical.choose impl_whole.ex α
theorem impl_whole.eq : @impl_whole = @impl_whole.b := funext fun α => congrFun (Classical.choose_spec impl_whole.ex) α

noncomputable def impl_natCmp_L0r {α : Type} (N : Nat) (next : List Int → List Int → Int → Option α) (k0 : Int → Option α) (k1 : Option α) (v3092 : List Int) (v3093 : List Int) (v3094 : Int) : Option α :=
 let x3095 := (decide ((0 : Int) ≤ v3094))
 bif x3095 then
  bif (decide (v3094 < (0 : Int))) then
   none
  else
   match v3092[v3094.toNat]? with
   | some x3096 =>
    bif (decide (v3094 < (0 : Int))) then
     none
    else
     match v3093[v3094.toNat]? with
     | some x3097 =>
      let x3098 := !(decide (x3096 = x3097))
      bif x3098 then
       bif (decide (v3094 < (0 : Int))) then
        none
       else
        match v3092[v3094.toNat]? with
        | some x3099 =>
         bif (decide (v3094 < (0 : Int))) then
          none
         else
          match v3093[v3094.toNat]? with
          | some x3100 =>
           let x3101 := IntKind.i64.wrap (x3099 - x3100)
           let x3102 := (minI (1 : Int) x3101)
           let x3103 := (maxI (-1 : Int) x3102)
           k0 x3103
          | none => none
        | none => none
      else
       let x3104 := (IntKind.i64.wrap (v3094 - (1 : Int)))
       next v3092 v3093 x3104
     | none => none
   | none => none
 else
  k1
noncomputable def impl_natCmp_L0.b {α : Type} (N n : Nat) (v3092 : List Int) (v3093 : List Int) (v3094 : Int) (k0 : Int → Option α) (k1 : Option α) : Option α :=
  Nat.rec (motive := fun _ => List Int → List Int → Int → Option α) (fun _ _ _ => none) (fun _ next => impl_natCmp_L0r N next k0 k1) n v3092 v3093 v3094
theorem impl_natCmp_L0.ex : ∃ f : ((α : Type) → Nat → Nat → List Int → List Int → Int → (Int → Option α) → (Option α) → Option α), f = fun α => @impl_natCmp_L0.b α := ⟨_, rfl⟩
noncomputable def impl_natCmp_L0 {α : Type} : Nat → Nat → List Int → List Int → Int → (Int → Option α) → (Option α) → Option α := Classical.choose impl_natCmp_L0.ex α
theorem impl_natCmp_L0.eq : @impl_natCmp_L0 = @impl_natCmp_L0.b := funext fun α => congrFun (Classical.choose_spec impl_natCmp_L0.ex) α
theorem impl_natCmp_L0.zero {α : Type} (N : Nat) (v3092 : List Int) (v3093 : List Int) (v3094 : Int) (k0 : Int → Option α) (k1 : Option α) : impl_natCmp_L0 N 0 v3092 v3093 v3094 k0 k1 = none := by rw [impl_natCmp_L0.eq]; rfl
theorem impl_natCmp_L0.succ {α : Type} (N n : Nat) (v3092 : List Int) (v3093 : List Int) (v3094 : Int) (k0 : Int → Option α) (k1 : Option α) : impl_natCmp_L0 N (n + 1) v3092 v3093 v3094 k0 k1 = impl_natCmp_L0r N (fun y0 y1 y2 => impl_natCmp_L0 N n y0 y1 y2 k0 k1) k0 k1 v3092 v3093 v3094 := by rw [impl_natCmp_L0.eq]; rfl
/-- impl.natCmp -/
noncomputable def impl_natCmp.b {α : Type} (N : Nat) (a3080 : List Int) (a3081 : List Int) (k0 : Int → Option α) : Option α :=
 let x3082 := ((a3080.length : Nat) : Int)
 let x3083 := ((a3081.length : Nat) : Int)
 let x3084 := !(decide (x3082 = x3083))
 bif x3084 then
  let x3085 := ((a3080.length : Nat) : Int)
  let x3086 := ((a3081.length : Nat) : Int)
  let x3087 := IntKind.i64.wrap (x3085 - x3086)
  let x3088 := (minI (1 : Int) x3087)
  let x3089 := (maxI (-1 : Int) x3088)
  k0 x3089
 else
  let x3090 := ((a3080.length : Nat) : Int)
  let x3091 := (IntKind.i64.wrap (x3090 - (1 : Int)))
  impl_natCmp_L0 N N a3080 a3081 x3091
   (fun x3105 =>
    k0 x3105)
   (
    k0 (0 : Int))
theorem impl_natCmp.ex : ∃ f : ((α : Type) → Nat → List Int → List Int → (Int → Option α) → Option α), f = fun α => @impl_natCmp.b α := ⟨_, rfl⟩
noncomputable def impl_natCmp {α : Type} : Nat → List Int → List Int → (Int → Option α) → Option α := Classical.choose impl_natCmp.ex α
theorem impl_natCmp.eq : @impl_natCmp = @impl_natCmp.b := funext fun α => congrFun (Classical.choose_spec impl_natCmp.ex) α

noncomputable def math_bits_Len64_J1.b {α : Type} (N : Nat) (v3141 : Int) (v3142 : Int) (k0 : Int → Int → Option α) : Option α :=
 let x3143 := (decide ((4294967296 : Int) ≤ v3141))
 bif x3143 then
  let x3144 := (shrI .u64 v3141 (32 : Int))
  k0 x3144 (32 : Int)
 else
  k0 v3141 v3142
theorem math_bits_Len64_J1.ex : ∃ f : ((α : Type) → Nat → Int → Int → (Int → Int → Option α) → Option α), f = fun α => @math_bits_Len64_J1.b α := ⟨_, rfl⟩
noncomputable def math_bits_Len64_J1 {α : Type} : Nat → Int → Int → (Int → Int → Option α) → Option α := Classical.choose math_bits_Len64_J1.ex α
theorem math_bits_Len64_J1.eq : @math_bits_Len64_J1 = @math_bits_Len64_J1.b := funext fun α => congrFun (Classical.choose_spec math_bits_Len64_J1.ex) α
noncomputable def math_bits_Len64_J4.b {α : Type} (N : Nat) (v3147 : Int) (v3148 : Int) (k0 : Int → Int → Option α) : Option α :=
 let x3149 := (decide ((65536 : Int) ≤ v3147))
 bif x3149 then
  let x3150 := (shrI .u64 v3147 (16 : Int))
  let x3151 := (IntKind.i64.wrap (v3148 + (16 : Int)))
  k0 x3150 x3151
 else
  k0 v3147 v3148
theorem math_bits_Len64_J4.ex : ∃ f : ((α : Type) → Nat → Int → Int → (Int → Int → Option α) → Option α), f = fun α => @math_bits_Len64_J4.b α := ⟨_, rfl⟩
noncomputable def math_bits_Len64_J4 {α : Type} : Nat → Int → Int → (Int → Int → Option α) → Option α := Classical.choose math_bits_Len64_J4.ex α
theorem math_bits_Len64_J4.eq : @math_bits_Len64_J4 = @math_bits_Len64_J4.b := funext fun α => congrFun (Classical.choose_spec math_bits_Len64_J4.ex) α
noncomputable def math_bits_Len64_J7.b {α : Type} (N : Nat) (v3154 : Int) (v3155 : Int) (k0 : Int → Int → Option α) : Option α :=
 let x3156 := (decide ((256 : Int) ≤ v3154))
 bif x3156 then
  let x3157 := (shrI .u64 v3154 (8 : Int))
  let x3158 := (IntKind.i64.wrap (v3155 + (8 : Int)))
  k0 x3157 x3158
 else
  k0 v3154 v3155
theorem math_bits_Len64_J7.ex : ∃ f : ((α : Type) → Nat → Int → Int → (Int → Int → Option α) → Option α), f = fun α => @math_bits_Len64_J7.b α := ⟨_, rfl⟩
noncomputable def math_bits_Len64_J7 {α : Type} : Nat → Int → Int → (Int → Int → Option α) → Option α := Classical.choose math_bits_Len64_J7.ex α
theorem math_bits_Len64_J7.eq : @math_bits_Len64_J7 = @math_bits_Len64_J7.b := funext fun α => congrFun (Classical.choose_spec math_bits_Len64_J7.ex) α
/-- math/bits.Len64 -/
noncomputable def math_bits_Len64.b {α : Type} (N : Nat) (a3140 : Int) (k0 : Int → Option α) : Option α :=
 math_bits_Len64_J1 N a3140 (0 : Int)
  (fun x3145 x3146 =>
   math_bits_Len64_J4 N x3145 x3146
    (fun x3152 x3153 =>
     math_bits_Len64_J7 N x3152 x3153
      (fun x3159 x3160 =>
       let x3161 := IntKind.u8.wrap x3159
       bif (decide (x3161 < (0 : Int))) then
        none
       else
        match ((⟨#[0, 1, 2, 2, 3, 3, 3, 3, 4, 4, 4, 4, 4, 4, 4, 4, 5, 5, 5, 5, 5, 5, 5, 5, 5, 5, 5, 5, 5, 5, 5, 5, 6, 6, 6, 6, 6, 6, 6, 6, 6, 6, 6, 6, 6, 6, 6, 6, 6, 6, 6, 6, 6, 6, 6, 6, 6, 6, 6, 6, 6, 6, 6, 6, 7, 7, 7, 7, 7, 7, 7, 7, 7, 7, 7, 7, 7, 7, 7, 7, 7, 7, 7, 7, 7, 7, 7, 7, 7, 7, 7, 7, 7, 7, 7, 7, 7, 7, 7, 7, 7, 7, 7, 7, 7, 7, 7, 7, 7, 7, 7, 7, 7, 7, 7, 7, 7, 7, 7, 7, 7, 7, 7, 7, 7, 7, 7, 7, 8, 8, 8, 8, 8, 8, 8, 8, 8, 8, 8, 8, 8, 8, 8, 8, 8, 8, 8, 8, 8, 8, 8, 8, 8, 8, 8, 8, 8, 8, 8, 8, 8, 8, 8, 8, 8, 8, 8, 8, 8, 8, 8, 8, 8, 8, 8, 8, 8, 8, 8, 8, 8, 8, 8, 8, 8, 8, 8, 8, 8, 8, 8, 8, 8, 8, 8, 8, 8, 8, 8, 8, 8, 8, 8, 8, 8, 8, 8, 8, 8, 8, 8, 8, 8, 8, 8, 8, 8, 8, 8, 8, 8, 8, 8, 8, 8, 8, 8, 8, 8, 8, 8, 8, 8, 8, 8, 8, 8, 8, 8, 8, 8, 8, 8, 8, 8, 8, 8, 8, 8, 8, 8, 8, 8, 8, 8, 8]⟩ : ByteArray)[x3161.toNat]? : Option UInt8) with
        | some x3162 =>
         let x3163 := ((x3162.toNat : Nat) : Int)
         let x3164 := IntKind.i64.wrap x3163
         let x3165 := IntKind.i64.wrap (x3160 + x3164)
         k0 x3165
        | none => none)))
theorem math_bits_Len64.ex : ∃ f : ((α : Type) → Nat → Int → (Int → Option α) → Option α), f = fun α => @math_bits_Len64.b α := ⟨_, rfl⟩
noncomputable def math_bits_Len64 {α : Type} : Nat → Int → (Int → Option α) → Option α := Classical.choose math_bits_Len64.ex α
theorem math_bits_Len64.eq : @math_bits_Len64 = @math_bits_Len64.b := funext fun α => congrFun (Classical.choose_spec math_bits_Len64.ex) α

/-- math/bits.Len -/
noncomputable def math_bits_Len.b {α : Type} (N : Nat) (a3139 : Int) (k0 : Int → Option α) : Option α :=
 math_bits_Len64 N a3139
  (fun x3166 =>
   k0 x3166)
theorem math_bits_Len.ex : ∃ f : ((α : Type) → Nat → Int → (Int → Option α) → Option α), f = fun α => @math_bits_Len.b α := ⟨_, rfl⟩
noncomputable def math_bits_Len {α : Type} : Nat → Int → (Int → Option α) → Option α := Classical.choose math_bits_Len.ex α
theorem math_bits_Len.eq : @math_bits_Len = @math_bits_Len.b := funext fun α => congrFun (Classical.choose_spec math_bits_Len.ex) α

noncomputable def impl_natDiv_L0r {α : Type} (N : Nat) (next : List Int → List Int → Int → Int → List Int → Option α) (k0 : Int → List Int → Option α) (v3114 : List Int) (v3115 : List Int) (v3116 : Int) (v3117 : Int) (v3118 : List Int) : Option α :=
 let x3119 := (decide ((0 : Int) ≤ v3117))
 bif x3119 then
  let x3120 := (shlI .i64 v3116 (16 : Int))
  bif (decide (v3117 < (0 : Int))) then
   none
  else
   match v3114[v3117.toNat]? with
   | some x3121 =>
    let x3122 := bitI .or .i64 x3120 x3121
    match v3115[0]? with
    | some x3123 =>
     bif (decide (x3123 = (0 : Int))) then
      none
     else
      let x3124 := IntKind.i64.wrap (Int.tdiv x3122 x3123)
      match v3115[0]? with
      | some x3125 =>
       bif (decide (x3125 = (0 : Int))) then
        none
       else
        let x3126 := Int.tmod x3122 x3125
        bif (decide (v3117 < (0 : Int))) then
         none
        else
         bif decide (v3117.toNat < v3118.length) then
          match v3118[v3117.toNat]? with
          | some x3127 =>
           let x3128 := v3118.set v3117.toNat x3124
           let x3129 := (IntKind.i64.wrap (v3117 - (1 : Int)))
           next v3114 v3115 x3126 x3129 x3128
          | none => none
         else
          none
      | none => none
    | none => none
   | none => none
 else
  k0 v3116 v3118
noncomputable def impl_natDiv_L0.b {α : Type} (N n : Nat) (v3114 : List Int) (v3115 : List Int) (v3116 : Int) (v3117 : Int) (v3118 : List Int) (k0 : Int → List Int → Option α) : Option α :=
  Nat.rec (motive := fun _ => List Int → List Int → Int → Int → List Int → Option α) (fun _ _ _ _ _ => none) (fun _ next => impl_natDiv_L0r N next k0) n v3114 v3115 v3116 v3117 v3118
theorem impl_natDiv_L0.ex : ∃ f : ((α : Type) → Nat → Nat → List Int → List Int → Int → Int → List Int → (Int → List Int → Option α) → Option α), f = fun α => @impl_natDiv_L0.b α := ⟨_, rfl⟩
noncomputable def impl_natDiv_L0 {α : Type} : Nat → Nat → List Int → List Int → Int → Int → List Int → (Int → List Int → Option α) → Option α := Classical.choose impl_natDiv_L0.ex α
theorem impl_natDiv_L0.eq : @impl_natDiv_L0 = @impl_natDiv_L0.b := funext fun α => congrFun (Classical.choose_spec impl_natDiv_L0.ex) α
theorem impl_natDiv_L0.zero {α : Type} (N : Nat) (v3114 : List Int) (v3115 : List Int) (v3116 : Int) (v3117 : Int) (v3118 : List Int) (k0 : Int → List Int → Option α) : impl_natDiv_L0 N 0 v3114 v3115 v3116 v3117 v3118 k0 = none := by rw [impl_natDiv_L0.eq]; rfl
theorem impl_natDiv_L0.succ {α : Type} (N n : Nat) (v3114 : List Int) (v3115 : List Int) (v3116 : Int) (v3117 : Int) (v3118 : List Int) (k0 : Int → List Int → Option α) : impl_natDiv_L0 N (n + 1) v3114 v3115 v3116 v3117 v3118 k0 = impl_natDiv_L0r N (fun y0 y1 y2 y3 y4 => impl_natDiv_L0 N n y0 y1 y2 y3 y4 k0) k0 v3114 v3115 v3116 v3117 v3118 := by rw [impl_natDiv_L0.eq]; rfl
noncomputable def impl_natDiv_L2r {α : Type} (N : Nat) (next : List Int → Int → List Int → Int → List Int → Option α) (k0 : Int → List Int → Int → List Int → Option α) (v3175 : List Int) (v3176 : Int) (v3177 : List Int) (v3178 : Int) (v3179 : List Int) : Option α :=
 let x3180 := ((v3179.length : Nat) : Int)
 let x3181 := ((v3175.length : Nat) : Int)
 let x3182 := (IntKind.i64.wrap (x3181 + (1 : Int)))
 let x3183 := decide (x3180 < x3182)
 bif x3183 then
  let x3184 := [(0 : Int)]
  bif decide (v3179.length + x3184.length ≤ 8796093022208) then
   let x3185 := v3179 ++ x3184
   next v3175 v3176 v3177 v3178 x3185
  else
   none
 else
  k0 v3176 v3177 v3178 v3179
noncomputable def impl_natDiv_L2.b {α : Type} (N n : Nat) (v3175 : List Int) (v3176 : Int) (v3177 : List Int) (v3178 : Int) (v3179 : List Int) (k0 : Int → List Int → Int → List Int → Option α) : Option α :=
  Nat.rec (motive := fun _ => List Int → Int → List Int → Int → List Int → Option α) (fun _ _ _ _ _ => none) (fun _ next => impl_natDiv_L2r N next k0) n v3175 v3176 v3177 v3178 v3179
theorem impl_natDiv_L2.ex : ∃ f : ((α : Type) → Nat → Nat → List Int → Int → List Int → Int → List Int → (Int → List Int → Int → List Int → Option α) → Option α), f = fun α => @impl_natDiv_L2.b α := ⟨_, rfl⟩
noncomputable def impl_natDiv_L2 {α : Type} : Nat → Nat → List Int → Int → List Int → Int → List Int → (Int → List Int → Int → List Int → Option α) → Option α := Classical.choose impl_natDiv_L2.ex α
theorem impl_natDiv_L2.eq : @impl_natDiv_L2 = @impl_natDiv_L2.b := funext fun α => congrFun (Classical.choose_spec impl_natDiv_L2.ex) α
theorem impl_natDiv_L2.zero {α : Type} (N : Nat) (v3175 : List Int) (v3176 : Int) (v3177 : List Int) (v3178 : Int) (v3179 : List Int) (k0 : Int → List Int → Int → List Int → Option α) : impl_natDiv_L2 N 0 v3175 v3176 v3177 v3178 v3179 k0 = none := by rw [impl_natDiv_L2.eq]; rfl
theorem impl_natDiv_L2.succ {α : Type} (N n : Nat) (v3175 : List Int) (v3176 : Int) (v3177 : List Int) (v3178 : Int) (v3179 : List Int) (k0 : Int → List Int → Int → List Int → Option α) : impl_natDiv_L2 N (n + 1) v3175 v3176 v3177 v3178 v3179 k0 = impl_natDiv_L2r N (fun y0 y1 y2 y3 y4 => impl_natDiv_L2 N n y0 y1 y2 y3 y4 k0) k0 v3175 v3176 v3177 v3178 v3179 := by rw [impl_natDiv_L2.eq]; rfl
noncomputable def impl_natDiv_L6r {α : Type} (N : Nat) (next : Int → List Int → Int → Int → Int → Int → List Int → List Int → Option α) (k0 : Int → List Int → Int → Int → Int → List Int → List Int → Option α) (v3216 : Int) (v3217 : List Int) (v3218 : Int) (v3219 : Int) (v3220 : Int) (v3221 : Int) (v3222 : List Int) (v3223 : List Int) : Option α :=
 let x3224 := (decide ((65536 : Int) ≤ v3220))
 bif x3224 then
  let x3225 := (IntKind.i64.wrap (v3220 - (1 : Int)))
  let x3226 := (IntKind.i64.wrap (v3218 - (1 : Int)))
  bif (decide (x3226 < (0 : Int))) then
   none
  else
   match v3217[x3226.toNat]? with
   | some x3227 =>
    let x3228 := IntKind.i64.wrap (v3221 + x3227)
    let x3229 := (decide ((65536 : Int) ≤ x3228))
    bif x3229 then
     k0 v3216 v3217 v3218 v3219 x3225 v3222 v3223
    else
     next v3216 v3217 v3218 v3219 x3225 x3228 v3222 v3223
   | none => none
 else
  let x3230 := (IntKind.i64.wrap (v3218 - (2 : Int)))
  bif (decide (x3230 < (0 : Int))) then
   none
  else
   match v3217[x3230.toNat]? with
   | some x3231 =>
    let x3232 := IntKind.i64.wrap (v3220 * x3231)
    let x3233 := (shlI .i64 v3221 (16 : Int))
    let x3234 := IntKind.i64.wrap (v3219 + v3218)
    let x3235 := (IntKind.i64.wrap (x3234 - (2 : Int)))
    bif (decide (x3235 < (0 : Int))) then
     none
    else
     bif decide (x3235.toNat < v3222.length) then
      match v3222[x3235.toNat]? with
      | some x3236 =>
       let x3237 := bitI .or .i64 x3233 x3236
       let x3238 := decide (x3237 < x3232)
       bif x3238 then
        let x3239 := (IntKind.i64.wrap (v3220 - (1 : Int)))
        let x3240 := (IntKind.i64.wrap (v3218 - (1 : Int)))
        bif (decide (x3240 < (0 : Int))) then
         none
        else
         match v3217[x3240.toNat]? with
         | some x3241 =>
          let x3242 := IntKind.i64.wrap (v3221 + x3241)
          let x3243 := (decide ((65536 : Int) ≤ x3242))
          bif x3243 then
           k0 v3216 v3217 v3218 v3219 x3239 v3222 v3223
          else
           next v3216 v3217 v3218 v3219 x3239 x3242 v3222 v3223
         | none => none
       else
        k0 v3216 v3217 v3218 v3219 v3220 v3222 v3223
      | none => none
     else
      none
   | none => none
noncomputable def impl_natDiv_L6.b {α : Type} (N n : Nat) (v3216 : Int) (v3217 : List Int) (v3218 : Int) (v3219 : Int) (v3220 : Int) (v3221 : Int) (v3222 : List Int) (v3223 : List Int) (k0 : Int → List Int → Int → Int → Int → List Int → List Int → Option α) : Option α :=
  Nat.rec (motive := fun _ => Int → List Int → Int → Int → Int → Int → List Int → List Int → Option α) (fun _ _ _ _ _ _ _ _ => none) (fun _ next => impl_natDiv_L6r N next k0) n v3216 v3217 v3218 v3219 v3220 v3221 v3222 v3223
theorem impl_natDiv_L6.ex : ∃ f : ((α : Type) → Nat → Nat → Int → List Int → Int → Int → Int → Int → List Int → List Int → (Int → List Int → Int → Int → Int → List Int → List Int → Option α) → Option α), f = fun α => @impl_natDiv_L6.b α := ⟨_, rfl⟩
noncomputable def impl_natDiv_L6 {α : Type} : Nat → Nat → Int → List Int → Int → Int → Int → Int → List Int → List Int → (Int → List Int → Int → Int → Int → List Int → List Int → Option α) → Option α := Classical.choose impl_natDiv_L6.ex α
theorem impl_natDiv_L6.eq : @impl_natDiv_L6 = @impl_natDiv_L6.b := funext fun α => congrFun (Classical.choose_spec impl_natDiv_L6.ex) α
theorem impl_natDiv_L6.zero {α : Type} (N : Nat) (v3216 : Int) (v3217 : List Int) (v3218 : Int) (v3219 : Int) (v3220 : Int) (v3221 : Int) (v3222 : List Int) (v3223 : List Int) (k0 : Int → List Int → Int → Int → Int → List Int → List Int → Option α) : impl_natDiv_L6 N 0 v3216 v3217 v3218 v3219 v3220 v3221 v3222 v3223 k0 = none := by rw [impl_natDiv_L6.eq]; rfl
theorem impl_natDiv_L6.succ {α : Type} (N n : Nat) (v3216 : Int) (v3217 : List Int) (v3218 : Int) (v3219 : Int) (v3220 : Int) (v3221 : Int) (v3222 : List Int) (v3223 : List Int) (k0 : Int → List Int → Int → Int → Int → List Int → List Int → Option α) : impl_natDiv_L6 N (n + 1) v3216 v3217 v3218 v3219 v3220 v3221 v3222 v3223 k0 = impl_natDiv_L6r N (fun y0 y1 y2 y3 y4 y5 y6 y7 => impl_natDiv_L6 N n y0 y1 y2 y3 y4 y5 y6 y7 k0) k0 v3216 v3217 v3218 v3219 v3220 v3221 v3222 v3223 := by rw [impl_natDiv_L6.eq]; rfl
noncomputable def impl_natDiv_J34.b {α : Type} (N : Nat) (v3270 : Int) (v3271 : List Int) (v3272 : Int) (v3273 : Int) (v3274 : Int) (v3275 : Int) (v3276 : Int) (v3277 : Int) (v3278 : List Int) (v3279 : Int) (v3280 : Int) (v3281 : List Int) (v3282 : List Int) (k0 : Int → List Int → Int → Int → Int → Int → Int → Int → List Int → Int → Int → List Int → List Int → Option α) : Option α :=
 let x3283 := (decide (v3277 < (0 : Int)))
 bif x3283 then
  let x3284 := IntKind.i64.wrap (0 - v3277)
  let x3285 := (IntKind.i64.wrap (x3284 + (65536 : Int)))
  let x3286 := (IntKind.i64.wrap (x3285 - (1 : Int)))
  let x3287 := (IntKind.i64.wrap (Int.tdiv x3286 (65536 : Int)))
  let x3288 := (IntKind.i64.wrap (x3287 * (65536 : Int)))
  let x3289 := IntKind.i64.wrap (v3277 + x3288)
  k0 v3270 v3271 v3272 v3273 v3274 x3287 v3276 x3289 v3278 v3279 v3280 v3281 v3282
 else
  k0 v3270 v3271 v3272 v3273 v3274 v3275 v3276 v3277 v3278 v3279 v3280 v3281 v3282
theorem impl_natDiv_J34.ex : ∃ f : ((α : Type) → Nat → Int → List Int → Int → Int → Int → Int → Int → Int → List Int → Int → Int → List Int → List Int → (Int → List Int → Int → Int → Int → Int → Int → Int → List Int → Int → Int → List Int → List Int → Option α) → Option α), f = fun α => @impl_natDiv_J34.b α := ⟨_, rfl⟩
noncomputable def impl_natDiv_J34 {α : Type} : Nat → Int → List Int → Int → Int → Int → Int → Int → Int → List Int → Int → Int → List Int → List Int → (Int → List Int → Int → Int → Int → Int → Int → Int → List Int → Int → Int → List Int → List Int → Option α) → Option α := Classical.choose impl_natDiv_J34.ex α
theorem impl_natDiv_J34.eq : @impl_natDiv_J34 = @impl_natDiv_J34.b := funext fun α => congrFun (Classical.choose_spec impl_natDiv_J34.ex) α
noncomputable def impl_natDiv_L8r {α : Type} (N : Nat) (next : Int → List Int → Int → Int → Int → Int → List Int → Int → Int → List Int → List Int → Option α) (k0 : Int → List Int → Int → Int → Int → Int → List Int → List Int → Option α) (v3252 : Int) (v3253 : List Int) (v3254 : Int) (v3255 : Int) (v3256 : Int) (v3257 : Int) (v3258 : List Int) (v3259 : Int) (v3260 : Int) (v3261 : List Int) (v3262 : List Int) : Option α :=
 let x3263 := decide (v3260 < v3259)
 bif x3263 then
  bif (decide (v3260 < (0 : Int))) then
   none
  else
   match v3258[v3260.toNat]? with
   | some x3264 =>
    let x3265 := IntKind.i64.wrap (v3255 + v3260)
    bif (decide (x3265 < (0 : Int))) then
     none
    else
     bif decide (x3265.toNat < v3261.length) then
      match v3261[x3265.toNat]? with
      | some x3266 =>
       let x3267 := IntKind.i64.wrap (x3266 - v3257)
       let x3268 := IntKind.i64.wrap (v3256 * x3264)
       let x3269 := IntKind.i64.wrap (x3267 - x3268)
       impl_natDiv_J34 N v3252 v3253 v3254 v3255 v3256 (0 : Int) v3260 x3269 v3258 v3259 v3260 v3261 v3262
        (fun x3290 x3291 x3292 x3293 x3294 x3295 x3296 x3297 x3298 x3299 x3300 x3301 x3302 =>
         let x3303 := IntKind.i64.wrap (x3293 + x3296)
         bif (decide (x3303 < (0 : Int))) then
          none
         else
          bif decide (x3303.toNat < x3301.length) then
           match x3301[x3303.toNat]? with
           | some x3304 =>
            let x3305 := x3301.set x3303.toNat x3297
            let x3306 := (IntKind.i64.wrap (x3300 + (1 : Int)))
            next x3290 x3291 x3292 x3293 x3294 x3295 x3298 x3299 x3306 x3305 x3302
           | none => none
          else
           none)
      | none => none
     else
      none
   | none => none
 else
  k0 v3252 v3253 v3254 v3255 v3256 v3257 v3261 v3262
noncomputable def impl_natDiv_L8.b {α : Type} (N n : Nat) (v3252 : Int) (v3253 : List Int) (v3254 : Int) (v3255 : Int) (v3256 : Int) (v3257 : Int) (v3258 : List Int) (v3259 : Int) (v3260 : Int) (v3261 : List Int) (v3262 : List Int) (k0 : Int → List Int → Int → Int → Int → Int → List Int → List Int → Option α) : Option α :=
  Nat.rec (motive := fun _ => Int → List Int → Int → Int → Int → Int → List Int → Int → Int → List Int → List Int → Option α) (fun _ _ _ _ _ _ _ _ _ _ _ => none) (fun _ next => impl_natDiv_L8r N next k0) n v3252 v3253 v3254 v3255 v3256 v3257 v3258 v3259 v3260 v3261 v3262
theorem impl_natDiv_L8.ex : ∃ f : ((α : Type) → Nat → Nat → Int → List Int → Int → Int → Int → Int → List Int → Int → Int → List Int → List Int → (Int → List Int → Int → Int → Int → Int → List Int → List Int → Option α) → Option α), f = fun α => @impl_natDiv_L8.b α := ⟨_, rfl⟩
noncomputable def impl_natDiv_L8 {α : Type} : Nat → Nat → Int → List Int → Int → Int → Int → Int → List Int → Int → Int → List Int → List Int → (Int → List Int → Int → Int → Int → Int → List Int → List Int → Option α) → Option α := Classical.choose impl_natDiv_L8.ex α
theorem impl_natDiv_L8.eq : @impl_natDiv_L8 = @impl_natDiv_L8.b := funext fun α => congrFun (Classical.choose_spec impl_natDiv_L8.ex) α
theorem impl_natDiv_L8.zero {α : Type} (N : Nat) (v3252 : Int) (v3253 : List Int) (v3254 : Int) (v3255 : Int) (v3256 : Int) (v3257 : Int) (v3258 : List Int) (v3259 : Int) (v3260 : Int) (v3261 : List Int) (v3262 : List Int) (k0 : Int → List Int → Int → Int → Int → Int → List Int → List Int → Option α) : impl_natDiv_L8 N 0 v3252 v3253 v3254 v3255 v3256 v3257 v3258 v3259 v3260 v3261 v3262 k0 = none := by rw [impl_natDiv_L8.eq]; rfl
theorem impl_natDiv_L8.succ {α : Type} (N n : Nat) (v3252 : Int) (v3253 : List Int) (v3254 : Int) (v3255 : Int) (v3256 : Int) (v3257 : Int) (v3258 : List Int) (v3259 : Int) (v3260 : Int) (v3261 : List Int) (v3262 : List Int) (k0 : Int → List Int → Int → Int → Int → Int → List Int → List Int → Option α) : impl_natDiv_L8 N (n + 1) v3252 v3253 v3254 v3255 v3256 v3257 v3258 v3259 v3260 v3261 v3262 k0 = impl_natDiv_L8r N (fun y0 y1 y2 y3 y4 y5 y6 y7 y8 y9 y10 => impl_natDiv_L8 N n y0 y1 y2 y3 y4 y5 y6 y7 y8 y9 y10 k0) k0 v3252 v3253 v3254 v3255 v3256 v3257 v3258 v3259 v3260 v3261 v3262 := by rw [impl_natDiv_L8.eq]; rfl
noncomputable def impl_natDiv_L10r {α : Type} (N : Nat) (next : Int → List Int → Int → Int → Int → Int → List Int → Int → Int → List Int → List Int → Option α) (k0 : Int → List Int → Int → Int → Int → Int → List Int → List Int → Option α) (v3332 : Int) (v3333 : List Int) (v3334 : Int) (v3335 : Int) (v3336 : Int) (v3337 : Int) (v3338 : List Int) (v3339 : Int) (v3340 : Int) (v3341 : List Int) (v3342 : List Int) : Option α :=
 let x3343 := decide (v3340 < v3339)
 bif x3343 then
  bif (decide (v3340 < (0 : Int))) then
   none
  else
   match v3338[v3340.toNat]? with
   | some x3344 =>
    let x3345 := IntKind.i64.wrap (v3335 + v3340)
    bif (decide (x3345 < (0 : Int))) then
     none
    else
     bif decide (x3345.toNat < v3341.length) then
      match v3341[x3345.toNat]? with
      | some x3346 =>
       let x3347 := IntKind.i64.wrap (x3346 + x3344)
       let x3348 := IntKind.i64.wrap (x3347 + v3337)
       let x3349 := IntKind.i64.wrap (v3335 + v3340)
       let x3350 := (bitI .and .i64 x3348 (65535 : Int))
       let x3351 := (shrI .i64 x3348 (16 : Int))
       bif (decide (x3349 < (0 : Int))) then
        none
       else
        bif decide (x3349.toNat < v3341.length) then
         match v3341[x3349.toNat]? with
         | some x3352 =>
          let x3353 := v3341.set x3349.toNat x3350
          let x3354 := (IntKind.i64.wrap (v3340 + (1 : Int)))
          next v3332 v3333 v3334 v3335 v3336 x3351 v3338 v3339 x3354 x3353 v3342
         | none => none
        else
         none
      | none => none
     else
      none
   | none => none
 else
  k0 v3332 v3333 v3334 v3335 v3336 v3337 v3341 v3342
noncomputable def impl_natDiv_L10.b {α : Type} (N n : Nat) (v3332 : Int) (v3333 : List Int) (v3334 : Int) (v3335 : Int) (v3336 : Int) (v3337 : Int) (v3338 : List Int) (v3339 : Int) (v3340 : Int) (v3341 : List Int) (v3342 : List Int) (k0 : Int → List Int → Int → Int → Int → Int → List Int → List Int → Option α) : Option α :=
  Nat.rec (motive := fun _ => Int → List Int → Int → Int → Int → Int → List Int → Int → Int → List Int → List Int → Option α) (fun _ _ _ _ _ _ _ _ _ _ _ => none) (fun _ next => impl_natDiv_L10r N next k0) n v3332 v3333 v3334 v3335 v3336 v3337 v3338 v3339 v3340 v3341 v3342
theorem impl_natDiv_L10.ex : ∃ f : ((α : Type) → Nat → Nat → Int → List Int → Int → Int → Int → Int → List Int → Int → Int → List Int → List Int → (Int → List Int → Int → Int → Int → Int → List Int → List Int → Option α) → Option α), f = fun α => @impl_natDiv_L10.b α := ⟨_, rfl⟩
noncomputable def impl_natDiv_L10 {α : Type} : Nat → Nat → Int → List Int → Int → Int → Int → Int → List Int → Int → Int → List Int → List Int → (Int → List Int → Int → Int → Int → Int → List Int → List Int → Option α) → Option α := Classical.choose impl_natDiv_L10.ex α
theorem impl_natDiv_L10.eq : @impl_natDiv_L10 = @impl_natDiv_L10.b := funext fun α => congrFun (Classical.choose_spec impl_natDiv_L10.ex) α
theorem impl_natDiv_L10.zero {α : Type} (N : Nat) (v3332 : Int) (v3333 : List Int) (v3334 : Int) (v3335 : Int) (v3336 : Int) (v3337 : Int) (v3338 : List Int) (v3339 : Int) (v3340 : Int) (v3341 : List Int) (v3342 : List Int) (k0 : Int → List Int → Int → Int → Int → Int → List Int → List Int → Option α) : impl_natDiv_L10 N 0 v3332 v3333 v3334 v3335 v3336 v3337 v3338 v3339 v3340 v3341 v3342 k0 = none := by rw [impl_natDiv_L10.eq]; rfl
theorem impl_natDiv_L10.succ {α : Type} (N n : Nat) (v3332 : Int) (v3333 : List Int) (v3334 : Int) (v3335 : Int) (v3336 : Int) (v3337 : Int) (v3338 : List Int) (v3339 : Int) (v3340 : Int) (v3341 : List Int) (v3342 : List Int) (k0 : Int → List Int → Int → Int → Int → Int → List Int → List Int → Option α) : impl_natDiv_L10 N (n + 1) v3332 v3333 v3334 v3335 v3336 v3337 v3338 v3339 v3340 v3341 v3342 k0 = impl_natDiv_L10r N (fun y0 y1 y2 y3 y4 y5 y6 y7 y8 y9 y10 => impl_natDiv_L10 N n y0 y1 y2 y3 y4 y5 y6 y7 y8 y9 y10 k0) k0 v3332 v3333 v3334 v3335 v3336 v3337 v3338 v3339 v3340 v3341 v3342 := by rw [impl_natDiv_L10.eq]; rfl
noncomputable def impl_natDiv_J40.b {α : Type} (N : Nat) (v3320 : Int) (v3321 : List Int) (v3322 : Int) (v3323 : Int) (v3324 : Int) (v3325 : List Int) (v3326 : List Int) (k0 : Int → List Int → Int → Int → Int → List Int → List Int → Option α) : Option α :=
 let x3327 := IntKind.i64.wrap (v3323 + v3322)
 bif (decide (x3327 < (0 : Int))) then
  none
 else
  bif decide (x3327.toNat < v3325.length) then
   match v3325[x3327.toNat]? with
   | some x3328 =>
    let x3329 := (decide (x3328 < (0 : Int)))
    bif x3329 then
     let x3330 := (IntKind.i64.wrap (v3324 - (1 : Int)))
     let x3331 := ((v3321.length : Nat) : Int)
     impl_natDiv_L10 N N v3320 v3321 v3322 v3323 x3330 (0 : Int) v3321 x3331 (0 : Int) v3325 v3326
      (fun x3355 x3356 x3357 x3358 x3359 x3360 x3361 x3362 =>
       let x3363 := IntKind.i64.wrap (x3358 + x3357)
       bif (decide (x3363 < (0 : Int))) then
        none
       else
        bif decide (x3363.toNat < x3361.length) then
         match x3361[x3363.toNat]? with
         | some x3364 =>
          let x3365 := IntKind.i64.wrap (x3364 + x3360)
          bif (decide (x3363 < (0 : Int))) then
           none
          else
           bif decide (x3363.toNat < x3361.length) then
            match x3361[x3363.toNat]? with
            | some x3366 =>
             let x3367 := x3361.set x3363.toNat x3365
             k0 x3355 x3356 x3357 x3358 x3359 x3367 x3362
            | none => none
           else
            none
         | none => none
        else
         none)
    else
     k0 v3320 v3321 v3322 v3323 v3324 v3325 v3326
   | none => none
  else
   none
theorem impl_natDiv_J40.ex : ∃ f : ((α : Type) → Nat → Int → List Int → Int → Int → Int → List Int → List Int → (Int → List Int → Int → Int → Int → List Int → List Int → Option α) → Option α), f = fun α => @impl_natDiv_J40.b α := ⟨_, rfl⟩
noncomputable def impl_natDiv_J40 {α : Type} : Nat → Int → List Int → Int → Int → Int → List Int → List Int → (Int → List Int → Int → Int → Int → List Int → List Int → Option α) → Option α := Classical.choose impl_natDiv_J40.ex α
theorem impl_natDiv_J40.eq : @impl_natDiv_J40 = @impl_natDiv_J40.b := funext fun α => congrFun (Classical.choose_spec impl_natDiv_J40.ex) α
noncomputable def impl_natDiv_L4r {α : Type} (N : Nat) (next : Int → List Int → Int → Int → List Int → List Int → Option α) (k0 : Int → List Int → List Int → Option α) (v3196 : Int) (v3197 : List Int) (v3198 : Int) (v3199 : Int) (v3200 : List Int) (v3201 : List Int) : Option α :=
 let x3202 := (decide ((0 : Int) ≤ v3199))
 bif x3202 then
  let x3203 := IntKind.i64.wrap (v3199 + v3198)
  bif (decide (x3203 < (0 : Int))) then
   none
  else
   bif decide (x3203.toNat < v3200.length) then
    match v3200[x3203.toNat]? with
    | some x3204 =>
     let x3205 := (shlI .i64 x3204 (16 : Int))
     let x3206 := IntKind.i64.wrap (v3199 + v3198)
     let x3207 := (IntKind.i64.wrap (x3206 - (1 : Int)))
     bif (decide (x3207 < (0 : Int))) then
      none
     else
      bif decide (x3207.toNat < v3200.length) then
       match v3200[x3207.toNat]? with
       | some x3208 =>
        let x3209 := bitI .or .i64 x3205 x3208
        let x3210 := (IntKind.i64.wrap (v3198 - (1 : Int)))
        bif (decide (x3210 < (0 : Int))) then
         none
        else
         match v3197[x3210.toNat]? with
         | some x3211 =>
          bif (decide (x3211 = (0 : Int))) then
           none
          else
           let x3212 := IntKind.i64.wrap (Int.tdiv x3209 x3211)
           let x3213 := (IntKind.i64.wrap (v3198 - (1 : Int)))
           bif (decide (x3213 < (0 : Int))) then
            none
           else
            match v3197[x3213.toNat]? with
            | some x3214 =>
             bif (decide (x3214 = (0 : Int))) then
              none
             else
              let x3215 := Int.tmod x3209 x3214
              impl_natDiv_L6 N N v3196 v3197 v3198 v3199 x3212 x3215 v3200 v3201
               (fun x3244 x3245 x3246 x3247 x3248 x3249 x3250 =>
                let x3251 := ((x3245.length : Nat) : Int)
                impl_natDiv_L8 N N x3244 x3245 x3246 x3247 x3248 (0 : Int) x3245 x3251 (0 : Int) x3249 x3250
                 (fun x3307 x3308 x3309 x3310 x3311 x3312 x3313 x3314 =>
                  let x3315 := IntKind.i64.wrap (x3310 + x3309)
                  bif (decide (x3315 < (0 : Int))) then
                   none
                  else
                   bif decide (x3315.toNat < x3313.length) then
                    match x3313[x3315.toNat]? with
                    | some x3316 =>
                     let x3317 := IntKind.i64.wrap (x3316 - x3312)
                     bif (decide (x3315 < (0 : Int))) then
                      none
                     else
                      bif decide (x3315.toNat < x3313.length) then
                       match x3313[x3315.toNat]? with
                       | some x3318 =>
                        let x3319 := x3313.set x3315.toNat x3317
                        impl_natDiv_J40 N x3307 x3308 x3309 x3310 x3311 x3319 x3314
                         (fun x3368 x3369 x3370 x3371 x3372 x3373 x3374 =>
                          bif (decide (x3371 < (0 : Int))) then
                           none
                          else
                           bif decide (x3371.toNat < x3374.length) then
                            match x3374[x3371.toNat]? with
                            | some x3375 =>
                             let x3376 := x3374.set x3371.toNat x3372
                             let x3377 := (IntKind.i64.wrap (x3371 - (1 : Int)))
                             next x3368 x3369 x3370 x3377 x3373 x3376
                            | none => none
                           else
                            none)
                       | none => none
                      else
                       none
                    | none => none
                   else
                    none))
            | none => none
         | none => none
       | none => none
      else
       none
    | none => none
   else
    none
 else
  k0 v3196 v3200 v3201
noncomputable def impl_natDiv_L4.b {α : Type} (N n : Nat) (v3196 : Int) (v3197 : List Int) (v3198 : Int) (v3199 : Int) (v3200 : List Int) (v3201 : List Int) (k0 : Int → List Int → List Int → Option α) : Option α :=
  Nat.rec (motive := fun _ => Int → List Int → Int → Int → List Int → List Int → Option α) (fun _ _ _ _ _ _ => none) (fun _ next => impl_natDiv_L4r N next k0) n v3196 v3197 v3198 v3199 v3200 v3201
theorem impl_natDiv_L4.ex : ∃ f : ((α : Type) → Nat → Nat → Int → List Int → Int → Int → List Int → List Int → (Int → List Int → List Int → Option α) → Option α), f = fun α => @impl_natDiv_L4.b α := ⟨_, rfl⟩
noncomputable def impl_natDiv_L4 {α : Type} : Nat → Nat → Int → List Int → Int → Int → List Int → List Int → (Int → List Int → List Int → Option α) → Option α := Classical.choose impl_natDiv_L4.ex α
theorem impl_natDiv_L4.eq : @impl_natDiv_L4 = @impl_natDiv_L4.b := funext fun α => congrFun (Classical.choose_spec impl_natDiv_L4.ex) α
theorem impl_natDiv_L4.zero {α : Type} (N : Nat) (v3196 : Int) (v3197 : List Int) (v3198 : Int) (v3199 : Int) (v3200 : List Int) (v3201 : List Int) (k0 : Int → List Int → List Int → Option α) : impl_natDiv_L4 N 0 v3196 v3197 v3198 v3199 v3200 v3201 k0 = none := by rw [impl_natDiv_L4.eq]; rfl
theorem impl_natDiv_L4.succ {α : Type} (N n : Nat) (v3196 : Int) (v3197 : List Int) (v3198 : Int) (v3199 : Int) (v3200 : List Int) (v3201 : List Int) (k0 : Int → List Int → List Int → Option α) : impl_natDiv_L4 N (n + 1) v3196 v3197 v3198 v3199 v3200 v3201 k0 = impl_natDiv_L4r N (fun y0 y1 y2 y3 y4 y5 => impl_natDiv_L4 N n y0 y1 y2 y3 y4 y5 k0) k0 v3196 v3197 v3198 v3199 v3200 v3201 := by rw [impl_natDiv_L4.eq]; rfl
/-- impl.natDiv -/
noncomputable def impl_natDiv.b {α : Type} (N : Nat) (a3078 : List Int) (a3079 : List Int) (k0 : List Int → List Int → Option α) : Option α :=
 impl_natCmp N a3078 a3079
  (fun x3106 =>
   let x3107 := (decide (x3106 < (0 : Int)))
   bif x3107 then
    k0 [] a3078
   else
    let x3108 := ((a3079.length : Nat) : Int)
    let x3109 := (decide (x3108 = (1 : Int)))
    bif x3109 then
     let x3110 := ((a3078.length : Nat) : Int)
     bif (decide ((0 : Int) ≤ x3110)) then
      bif decide (x3110 ≤ x3110) then
       bif (decide (x3110 ≤ ((8796093022208 : Nat) : Int))) then
        let x3111 := (List.replicate x3110.toNat (0 : Int))
        let x3112 := ((a3078.length : Nat) : Int)
        let x3113 := (IntKind.i64.wrap (x3112 - (1 : Int)))
        impl_natDiv_L0 N N a3078 a3079 (0 : Int) x3113 x3111
         (fun x3130 x3131 =>
          impl_trim N x3131
           (fun x3132 =>
            let x3133 := [x3130]
            impl_trim N x3133
             (fun x3134 =>
              k0 x3132 x3134)))
       else
        none
      else
       none
     else
      none
    else
     let x3135 := ((a3079.length : Nat) : Int)
     let x3136 := (IntKind.i64.wrap (x3135 - (1 : Int)))
     bif (decide (x3136 < (0 : Int))) then
      none
     else
      match a3079[x3136.toNat]? with
      | some x3137 =>
       let x3138 := IntKind.u64.wrap x3137
       math_bits_Len N x3138
        (fun x3167 =>
         let x3168 := (IntKind.i64.wrap ((16 : Int) - x3167))
         impl_natShift N a3079 x3168
          (fun x3169 =>
           impl_natShift N a3078 x3168
            (fun x3170 =>
             slices_Clone_int_int N x3170
              (fun x3171 =>
               let x3172 := [(0 : Int)]
               bif decide (x3171.length + x3172.length ≤ 8796093022208) then
                let x3173 := x3171 ++ x3172
                let x3174 := ((x3169.length : Nat) : Int)
                impl_natDiv_L2 N N a3078 x3168 x3169 x3174 x3173
                 (fun x3186 x3187 x3188 x3189 =>
                  let x3190 := ((x3189.length : Nat) : Int)
                  let x3191 := IntKind.i64.wrap (x3190 - x3188)
                  bif (decide ((0 : Int) ≤ x3191)) then
                   bif decide (x3191 ≤ x3191) then
                    bif (decide (x3191 ≤ ((8796093022208 : Nat) : Int))) then
                     let x3192 := (List.replicate x3191.toNat (0 : Int))
                     let x3193 := ((x3189.length : Nat) : Int)
                     let x3194 := IntKind.i64.wrap (x3193 - x3188)
                     let x3195 := (IntKind.i64.wrap (x3194 - (1 : Int)))
                     impl_natDiv_L4 N N x3186 x3187 x3188 x3195 x3189 x3192
                      (fun x3378 x3379 x3380 =>
                       impl_trim N x3380
                        (fun x3381 =>
                         impl_trim N x3379
                          (fun x3382 =>
                           let x3383 := IntKind.i64.wrap (0 - x3378)
                           impl_natShift N x3382 x3383
                            (fun x3384 =>
                             k0 x3381 x3384))))
                    else
                     none
                   else
                    none
                  else
                   none)
               else
                none))))
      | none => none)
theorem impl_natDiv.ex : ∃ f : ((α : Type) → Nat → List Int → List Int → (List Int → List Int → Option α) → Option α), f = fun α => @impl_natDiv.b α := ⟨_, rfl⟩
noncomputable def impl_natDiv {α : Type} : Nat → List Int → List Int → (List Int → List Int → Option α) → Option α := Classical.choose impl_natDiv.ex α
theorem impl_natDiv.eq : @impl_natDiv = @impl_natDiv.b := funext fun α => congrFun (Classical.choose_spec impl_natDiv.ex) α

noncomputable def impl_natGcd_L0r {α : Type} (N : Nat) (next : List Int → List Int → Option α) (k0 : List Int → Option α) (v3017 : List Int) (v3018 : List Int) : Option α :=
 let x3019 := ((v3018.length : Nat) : Int)
 let x3020 := (decide ((0 : Int) < x3019))
 bif x3020 then
  impl_natDiv N v3017 v3018
   (fun _ x3386 =>
    next v3018 x3386)
 else
  k0 v3017
noncomputable def impl_natGcd_L0.b {α : Type} (N n : Nat) (v3017 : List Int) (v3018 : List Int) (k0 : List Int → Option α) : Option α :=
  Nat.rec (motive := fun _ => List Int → List Int → Option α) (fun _ _ => none) (fun _ next => impl_natGcd_L0r N next k0) n v3017 v3018
theorem impl_natGcd_L0.ex : ∃ f : ((α : Type) → Nat → Nat → List Int → List Int → (List Int → Option α) → Option α), f = fun α => @impl_natGcd_L0.b α := ⟨_, rfl⟩
noncomputable def impl_natGcd_L0 {α : Type} : Nat → Nat → List Int → List Int → (List Int → Option α) → Option α := Classical.choose impl_natGcd_L0.ex α
theorem impl_natGcd_L0.eq : @impl_natGcd_L0 = @impl_natGcd_L0.b := funext fun α => congrFun (Classical.choose_spec impl_natGcd_L0.ex) α
theorem impl_natGcd_L0.zero {α : Type} (N : Nat) (v3017 : List Int) (v3018 : List Int) (k0 : List Int → Option α) : impl_natGcd_L0 N 0 v3017 v3018 k0 = none := by rw [impl_natGcd_L0.eq]; rfl
theorem impl_natGcd_L0.succ {α : Type} (N n : Nat) (v3017 : List Int) (v3018 : List Int) (k0 : List Int → Option α) : impl_natGcd_L0 N (n + 1) v3017 v3018 k0 = impl_natGcd_L0r N (fun y0 y1 => impl_natGcd_L0 N n y0 y1 k0) k0 v3017 v3018 := by rw [impl_natGcd_L0.eq]; rfl
/-- impl.natGcd -/
noncomputable def impl_natGcd.b {α : Type} (N : Nat) (a3015 : List Int) (a3016 : List Int) (k0 : List Int → Option α) : Option α :=
 impl_natGcd_L0 N N a3015 a3016
  (fun x3387 =>
   k0 x3387)
theorem impl_natGcd.ex : ∃ f : ((α : Type) → Nat → List Int → List Int → (List Int → Option α) → Option α), f = fun α => @impl_natGcd.b α := ⟨_, rfl⟩
noncomputable def impl_natGcd {α : Type} : Nat → List Int → List Int → (List Int → Option α) → Option α := Classical.choose impl_natGcd.ex α
theorem impl_natGcd.eq : @impl_natGcd = @impl_natGcd.b := funext fun α => congrFun (Classical.choose_spec impl_natGcd.ex) α

noncomputable def impl_lowest_J2.b {α : Type} (N : Nat) (v3389 : Bool) (v3390 : List Int) (v3391 : List Int) (v3392 : List Int) (v3393 : Bool) (v3394 : List Int) (v3395 : List Int) (k0 : Bool → List Int → List Int → Bool → List Int → List Int → Option α) : Option α :=
 let x3396 := [(1 : Int)]
 impl_natCmp N v3392 x3396
  (fun x3397 =>
   let x3398 := (!(decide (x3397 = (0 : Int))))
   bif x3398 then
    impl_natDiv N v3390 v3392
     (fun x3399 _ =>
      impl_natDiv N v3391 v3392
       (fun x3401 _ =>
        k0 v3389 x3399 x3401 v3393 v3394 v3395))
   else
    k0 v3389 v3390 v3391 v3393 v3394 v3395)
theorem impl_lowest_J2.ex : ∃ f : ((α : Type) → Nat → Bool → List Int → List Int → List Int → Bool → List Int → List Int → (Bool → List Int → List Int → Bool → List Int → List Int → Option α) → Option α), f = fun α => @impl_lowest_J2.b α := ⟨_, rfl⟩
noncomputable def impl_lowest_J2 {α : Type} : Nat → Bool → List Int → List Int → List Int → Bool → List Int → List Int → (Bool → List Int → List Int → Bool → List Int → List Int → Option α) → Option α := Classical.choose impl_lowest_J2.ex α
theorem impl_lowest_J2.eq : @impl_lowest_J2 = @impl_lowest_J2.b := funext fun α => congrFun (Classical.choose_spec impl_lowest_J2.ex) α
/-- impl.lowest -/
noncomputable def impl_lowest.b {α : Type} (N : Nat) (a3012 : Bool) (a3013 : List Int) (a3014 : List Int) (k0 : (Bool × (List Int) × (List Int) × Unit) → Option α) : Option α :=
 impl_natGcd N a3013 a3014
  (fun x3388 =>
   impl_lowest_J2 N a3012 a3013 a3014 x3388 false [] []
    (fun x3403 x3404 x3405 _ _ _ =>
     bif x3403 then
      let x3409 := ((x3404.length : Nat) : Int)
      let x3410 := (decide ((0 : Int) < x3409))
      k0 (x3410, (x3404, (x3405, ())))
     else
      k0 (false, (x3404, (x3405, ())))))
theorem impl_lowest.ex : ∃ f : ((α : Type) → Nat → Bool → List Int → List Int → ((Bool × (List Int) × (List Int) × Unit) → Option α) → Option α), f = fun α => @impl_lowest.b α := ⟨_, rfl⟩
noncomputable def impl_lowest {α : Type} : Nat → Bool → List Int → List Int → ((Bool × (List Int) × (List Int) × Unit) → Option α) → Option α := Classical.choose impl_lowest.ex α
theorem impl_lowest.eq : @impl_lowest = @impl_lowest.b := funext fun α => congrFun (Classical.choose_spec impl_lowest.ex) α

/-- impl.value -/
noncomputable def impl_value.b {α : Type} (N : Nat) (a2799 : Int) (a2800 : Int) (k0 : (Bool × (List Int) × (List Int) × Unit) → Option α) : Option α :=
 impl_BitPartOf N a2799 a2800
  (fun x2824 _ =>
   impl_natOf N x2824.2.1
    (fun x2836 =>
     let x2837 := (decide ((0 : Int) ≤ x2824.2.2.1))
     bif x2837 then
      impl_natShift N x2836 x2824.2.2.1
       (fun x2999 =>
        impl_whole N x2824.1 x2999
         (fun x3006 x3007 x3008 =>
          k0 (x3006, (x3007, (x3008, ())))))
     else
      let x3009 := [(1 : Int)]
      let x3010 := IntKind.i64.wrap (0 - x2824.2.2.1)
      impl_natShift N x3009 x3010
       (fun x3011 =>
        impl_lowest N x2824.1 x2836 x3011
         (fun x3411 =>
          k0 x3411))))
theorem impl_value.ex : ∃ f : ((α : Type) → Nat → Int → Int → ((Bool × (List Int) × (List Int) × Unit) → Option α) → Option α), f = fun α => @impl_value.b α := ⟨_, rfl⟩
noncomputable def impl_value {α : Type} : Nat → Int → Int → ((Bool × (List Int) × (List Int) × Unit) → Option α) → Option α := Classical.choose impl_value.ex α
theorem impl_value.eq : @impl_value = @impl_value.b := funext fun α => congrFun (Classical.choose_spec impl_value.ex) α

/-- impl.limitOf -/
noncomputable def impl_limitOf.b {α : Type} (N : Nat) (a2180 : Int) (a2181 : Int) (k0 : (Int × (Bool × (List Int) × (List Int) × Unit) × Unit) → Option α) : Option α :=
 impl_BitTop N a2180
  (fun x2182 =>
   let x2183 := decide (a2181 = x2182)
   bif x2183 then
    k0 ((1 : Int), ((false, ([], ([], ()))), ()))
   else
    let x2184 := IntKind.i64.wrap (0 - x2182)
    let x2185 := decide (a2181 = x2184)
    bif x2185 then
     k0 ((-1 : Int), ((false, ([], ([], ()))), ()))
    else
     impl_value N a2180 a2181
      (fun x3412 =>
       k0 ((0 : Int), (x3412, ()))))
theorem impl_limitOf.ex : ∃ f : ((α : Type) → Nat → Int → Int → ((Int × (Bool × (List Int) × (List Int) × Unit) × Unit) → Option α) → Option α), f = fun α => @impl_limitOf.b α := ⟨_, rfl⟩
noncomputable def impl_limitOf {α : Type} : Nat → Int → Int → ((Int × (Bool × (List Int) × (List Int) × Unit) × Unit) → Option α) → Option α := Classical.choose impl_limitOf.ex α
theorem impl_limitOf.eq : @impl_limitOf = @impl_limitOf.b := funext fun α => congrFun (Classical.choose_spec impl_limitOf.ex) α

/-- impl.natBits -/
noncomputable def impl_natBits.b {α : Type} (N : Nat) (a3428 : List Int) (k0 : Int → Option α) : Option α :=
 let x3429 := ((a3428.length : Nat) : Int)
 let x3430 := (decide (x3429 = (0 : Int)))
 bif x3430 then
  k0 (0 : Int)
 else
  let x3431 := ((a3428.length : Nat) : Int)
  let x3432 := (IntKind.i64.wrap (x3431 - (1 : Int)))
  let x3433 := (IntKind.i64.wrap ((16 : Int) * x3432))
  let x3434 := ((a3428.length : Nat) : Int)
  let x3435 := (IntKind.i64.wrap (x3434 - (1 : Int)))
  bif (decide (x3435 < (0 : Int))) then
   none
  else
   match a3428[x3435.toNat]? with
   | some x3436 =>
    let x3437 := IntKind.u64.wrap x3436
    math_bits_Len N x3437
     (fun x3438 =>
      let x3439 := IntKind.i64.wrap (x3433 + x3438)
      k0 x3439)
   | none => none
theorem impl_natBits.ex : ∃ f : ((α : Type) → Nat → List Int → (Int → Option α) → Option α), f = fun α => @impl_natBits.b α := ⟨_, rfl⟩
noncomputable def impl_natBits {α : Type} : Nat → List Int → (Int → Option α) → Option α := Classical.choose impl_natBits.ex α
theorem impl_natBits.eq : @impl_natBits = @impl_natBits.b := funext fun α => congrFun (Classical.choose_spec impl_natBits.ex) α

-- prim math_bits_TrailingZeros64
noncomputable def impl_BitMake_J14.b {α : Type} (N : Nat) (v3525 : Int) (v3526 : Int) (v3527 : Int) (v3528 : Int) (v3529 : Bool × Int × Int × Unit) (v3530 : Int × Int × Int × Int × Unit) (k0 : Int → (Bool × Int × Int × Unit) → Option α) : Option α :=
 let x3531 := (decide ((1 : Int) ≤ v3528))
 bif x3531 then
  bif (decide (v3530.1 < (0 : Int))) then
   none
  else
   let x3532 := shlI .i64 v3528 v3530.1
   let x3533 := (IntKind.i64.wrap (v3530.1 + (1 : Int)))
   let x3534 := IntKind.i64.wrap (x3533 - v3527)
   bif (decide (x3534 < (0 : Int))) then
    none
   else
    let x3535 := shlI .u64 v3525 x3534
    let x3536 := IntKind.i64.wrap x3535
    bif (decide (v3530.1 < (0 : Int))) then
     none
    else
     let x3537 := (shlI .i64 (1 : Int) v3530.1)
     let x3538 := (IntKind.i64.wrap (x3537 - (1 : Int)))
     let x3539 := bitI .and .i64 x3536 x3538
     let x3540 := bitI .or .i64 x3532 x3539
     k0 x3540 v3529
 else
  let x3541 := IntKind.i64.wrap (v3526 - v3530.2.1)
  bif (decide (x3541 < (0 : Int))) then
   none
  else
   let x3542 := shlI .u64 v3525 x3541
   let x3543 := IntKind.i64.wrap x3542
   k0 x3543 v3529
theorem impl_BitMake_J14.ex : ∃ f : ((α : Type) → Nat → Int → Int → Int → Int → (Bool × Int × Int × Unit) → (Int × Int × Int × Int × Unit) → (Int → (Bool × Int × Int × Unit) → Option α) → Option α), f = fun α => @impl_BitMake_J14.b α := ⟨_, rfl⟩
noncomputable def impl_BitMake_J14 {α : Type} : Nat → Int → Int → Int → Int → (Bool × Int × Int × Unit) → (Int × Int × Int × Int × Unit) → (Int → (Bool × Int × Int × Unit) → Option α) → Option α := Classical.choose impl_BitMake_J14.ex α
theorem impl_BitMake_J14.eq : @impl_BitMake_J14 = @impl_BitMake_J14.b := funext fun α => congrFun (Classical.choose_spec impl_BitMake_J14.ex) α
noncomputable def impl_BitMake_J17.b {α : Type} (N : Nat) (v3546 : Int) (v3547 : Bool × Int × Int × Unit) (k0 : Int → Option α) : Option α :=
 bif v3547.1 then
  let x3548 := IntKind.i64.wrap (0 - v3546)
  k0 x3548
 else
  k0 v3546
theorem impl_BitMake_J17.ex : ∃ f : ((α : Type) → Nat → Int → (Bool × Int × Int × Unit) → (Int → Option α) → Option α), f = fun α => @impl_BitMake_J17.b α := ⟨_, rfl⟩
noncomputable def impl_BitMake_J17 {α : Type} : Nat → Int → (Bool × Int × Int × Unit) → (Int → Option α) → Option α := Classical.choose impl_BitMake_J17.ex α
theorem impl_BitMake_J17.eq : @impl_BitMake_J17 = @impl_BitMake_J17.b := funext fun α => congrFun (Classical.choose_spec impl_BitMake_J17.ex) α
/-- impl.BitMake -/
noncomputable def impl_BitMake.b {α : Type} (N : Nat) (a3506 : Int) (a3507 : Bool × Int × Int × Unit) (k0 : Int → Bool → Option α) : Option α :=
 impl_formatOf N a3506
  (fun x3508 x3509 =>
   let x3510 := !x3509
   bif x3510 then
    k0 (0 : Int) false
   else
    impl_in N a3507.2.2.1 (-2000 : Int) (2000 : Int)
     (fun x3511 =>
      let x3512 := !x3511
      bif x3512 then
       k0 (0 : Int) false
      else
       let x3513 := (decide (a3507.2.1 = (0 : Int)))
       bif x3513 then
        k0 (0 : Int) true
       else
        math_bits_TrailingZeros64 N a3507.2.1
         (fun x3514 =>
          bif (decide (x3514 < (0 : Int))) then
           none
          else
           let x3515 := shrI .u64 a3507.2.1 x3514
           let x3516 := IntKind.i64.wrap (a3507.2.2.1 + x3514)
           math_bits_Len64 N x3515
            (fun x3517 =>
             let x3518 := IntKind.i64.wrap (x3516 + x3517)
             let x3519 := (IntKind.i64.wrap (x3518 - (1 : Int)))
             let x3520 := (IntKind.i64.wrap (x3508.1 + (1 : Int)))
             let x3521 := decide (x3520 < x3517)
             bif x3521 then
              k0 (0 : Int) false
             else
              let x3522 := decide (x3516 < x3508.2.1)
              bif x3522 then
               k0 (0 : Int) false
              else
               let x3523 := decide (x3508.2.2.1 < x3519)
               bif x3523 then
                k0 (0 : Int) false
               else
                let x3524 := IntKind.i64.wrap (x3519 + x3508.2.2.1)
                impl_BitMake_J14 N x3515 x3516 x3517 x3524 a3507 x3508
                 (fun x3544 x3545 =>
                  impl_BitMake_J17 N x3544 x3545
                   (fun x3549 =>
                    k0 x3549 true))))))
theorem impl_BitMake.ex : ∃ f : ((α : Type) → Nat → Int → (Bool × Int × Int × Unit) → (Int → Bool → Option α) → Option α), f = fun α => @impl_BitMake.b α := ⟨_, rfl⟩
noncomputable def impl_BitMake {α : Type} : Nat → Int → (Bool × Int × Int × Unit) → (Int → Bool → Option α) → Option α := Classical.choose impl_BitMake.ex α
theorem impl_BitMake.eq : @impl_BitMake = @impl_BitMake.b := funext fun α => congrFun (Classical.choose_spec impl_BitMake.ex) α

noncomputable def impl_truncated_J7.b {α : Type} (N : Nat) (v3445 : Int) (v3446 : Int) (v3447 : Int) (v3448 : List Int) (v3449 : List Int) (v3450 : Int × Int × Int × Int × Unit) (k0 : Int → Int → Int → List Int → List Int → (Int × Int × Int × Int × Unit) → Option α) : Option α :=
 let x3451 := (decide (v3447 < (0 : Int)))
 bif x3451 then
  let x3452 := IntKind.i64.wrap (0 - v3447)
  impl_natShift N v3448 x3452
   (fun x3453 =>
    k0 v3445 v3446 v3447 x3453 v3449 v3450)
 else
  impl_natShift N v3449 v3447
   (fun x3454 =>
    k0 v3445 v3446 v3447 v3448 x3454 v3450)
theorem impl_truncated_J7.ex : ∃ f : ((α : Type) → Nat → Int → Int → Int → List Int → List Int → (Int × Int × Int × Int × Unit) → (Int → Int → Int → List Int → List Int → (Int × Int × Int × Int × Unit) → Option α) → Option α), f = fun α => @impl_truncated_J7.b α := ⟨_, rfl⟩
noncomputable def impl_truncated_J7 {α : Type} : Nat → Int → Int → Int → List Int → List Int → (Int × Int × Int × Int × Unit) → (Int → Int → Int → List Int → List Int → (Int × Int × Int × Int × Unit) → Option α) → Option α := Classical.choose impl_truncated_J7.ex α
theorem impl_truncated_J7.eq : @impl_truncated_J7 = @impl_truncated_J7.b := funext fun α => congrFun (Classical.choose_spec impl_truncated_J7.ex) α
noncomputable def impl_truncated_J12.b {α : Type} (N : Nat) (v3465 : Int) (v3466 : Int) (v3467 : Int) (v3468 : List Int) (v3469 : Bool) (v3470 : Int × Int × Int × Int × Unit) (k0 : Int → Int → List Int → Bool → (Int × Int × Int × Int × Unit) → Option α) : Option α :=
 impl_natBits N v3468
  (fun x3471 =>
   let x3472 := decide (v3466 < x3471)
   bif x3472 then
    bif v3469 then
     match v3468[0]? with
     | some x3473 =>
      let x3474 := (bitI .and .i64 x3473 (1 : Int))
      let x3475 := (decide (x3474 = (0 : Int)))
      impl_natShift N v3468 (-1 : Int)
       (fun x3476 =>
        let x3477 := (IntKind.i64.wrap (v3467 + (1 : Int)))
        k0 v3465 x3477 x3476 x3475 v3470)
     | none => none
    else
     impl_natShift N v3468 (-1 : Int)
      (fun x3478 =>
       let x3479 := (IntKind.i64.wrap (v3467 + (1 : Int)))
       k0 v3465 x3479 x3478 false v3470)
   else
    k0 v3465 v3467 v3468 v3469 v3470)
theorem impl_truncated_J12.ex : ∃ f : ((α : Type) → Nat → Int → Int → Int → List Int → Bool → (Int × Int × Int × Int × Unit) → (Int → Int → List Int → Bool → (Int × Int × Int × Int × Unit) → Option α) → Option α), f = fun α => @impl_truncated_J12.b α := ⟨_, rfl⟩
noncomputable def impl_truncated_J12 {α : Type} : Nat → Int → Int → Int → List Int → Bool → (Int × Int × Int × Int × Unit) → (Int → Int → List Int → Bool → (Int × Int × Int × Int × Unit) → Option α) → Option α := Classical.choose impl_truncated_J12.ex α
theorem impl_truncated_J12.eq : @impl_truncated_J12 = @impl_truncated_J12.b := funext fun α => congrFun (Classical.choose_spec impl_truncated_J12.ex) α
noncomputable def impl_truncated_L0r {α : Type} (N : Nat) (next : Int → Int → Bool → Int → List Int → Int → Int → (Int × Int × Int × Int × Unit) → Option α) (k0 : Int → Int → Bool → Int → (Int × Int × Int × Int × Unit) → Option α) (v3486 : Int) (v3487 : Int) (v3488 : Bool) (v3489 : Int) (v3490 : List Int) (v3491 : Int) (v3492 : Int) (v3493 : Int × Int × Int × Int × Unit) : Option α :=
 let x3494 := decide (v3492 < v3491)
 bif x3494 then
  bif (decide (v3492 < (0 : Int))) then
   none
  else
   match v3490[v3492.toNat]? with
   | some x3495 =>
    let x3496 := IntKind.u64.wrap x3495
    let x3497 := (IntKind.i64.wrap ((16 : Int) * v3492))
    bif (decide (x3497 < (0 : Int))) then
     none
    else
     let x3498 := shlI .u64 x3496 x3497
     let x3499 := bitI .or .u64 v3489 x3498
     let x3500 := (IntKind.i64.wrap (v3492 + (1 : Int)))
     next v3486 v3487 v3488 x3499 v3490 v3491 x3500 v3493
   | none => none
 else
  k0 v3486 v3487 v3488 v3489 v3493
noncomputable def impl_truncated_L0.b {α : Type} (N n : Nat) (v3486 : Int) (v3487 : Int) (v3488 : Bool) (v3489 : Int) (v3490 : List Int) (v3491 : Int) (v3492 : Int) (v3493 : Int × Int × Int × Int × Unit) (k0 : Int → Int → Bool → Int → (Int × Int × Int × Int × Unit) → Option α) : Option α :=
  Nat.rec (motive := fun _ => Int → Int → Bool → Int → List Int → Int → Int → (Int × Int × Int × Int × Unit) → Option α) (fun _ _ _ _ _ _ _ _ => none) (fun _ next => impl_truncated_L0r N next k0) n v3486 v3487 v3488 v3489 v3490 v3491 v3492 v3493
theorem impl_truncated_L0.ex : ∃ f : ((α : Type) → Nat → Nat → Int → Int → Bool → Int → List Int → Int → Int → (Int × Int × Int × Int × Unit) → (Int → Int → Bool → Int → (Int × Int × Int × Int × Unit) → Option α) → Option α), f = fun α => @impl_truncated_L0.b α := ⟨_, rfl⟩
noncomputable def impl_truncated_L0 {α : Type} : Nat → Nat → Int → Int → Bool → Int → List Int → Int → Int → (Int × Int × Int × Int × Unit) → (Int → Int → Bool → Int → (Int × Int × Int × Int × Unit) → Option α) → Option α := Classical.choose impl_truncated_L0.ex α
theorem impl_truncated_L0.eq : @impl_truncated_L0 = @impl_truncated_L0.b := funext fun α => congrFun (Classical.choose_spec impl_truncated_L0.ex) α
theorem impl_truncated_L0.zero {α : Type} (N : Nat) (v3486 : Int) (v3487 : Int) (v3488 : Bool) (v3489 : Int) (v3490 : List Int) (v3491 : Int) (v3492 : Int) (v3493 : Int × Int × Int × Int × Unit) (k0 : Int → Int → Bool → Int → (Int × Int × Int × Int × Unit) → Option α) : impl_truncated_L0 N 0 v3486 v3487 v3488 v3489 v3490 v3491 v3492 v3493 k0 = none := by rw [impl_truncated_L0.eq]; rfl
theorem impl_truncated_L0.succ {α : Type} (N n : Nat) (v3486 : Int) (v3487 : Int) (v3488 : Bool) (v3489 : Int) (v3490 : List Int) (v3491 : Int) (v3492 : Int) (v3493 : Int × Int × Int × Int × Unit) (k0 : Int → Int → Bool → Int → (Int × Int × Int × Int × Unit) → Option α) : impl_truncated_L0 N (n + 1) v3486 v3487 v3488 v3489 v3490 v3491 v3492 v3493 k0 = impl_truncated_L0r N (fun y0 y1 y2 y3 y4 y5 y6 y7 => impl_truncated_L0 N n y0 y1 y2 y3 y4 y5 y6 y7 k0) k0 v3486 v3487 v3488 v3489 v3490 v3491 v3492 v3493 := by rw [impl_truncated_L0.eq]; rfl
/-- impl.truncated -/
noncomputable def impl_truncated.b {α : Type} (N : Nat) (a3421 : Int) (a3422 : Bool × (List Int) × (List Int) × Unit) (k0 : Int → Bool → Option α) : Option α :=
 impl_formatOf N a3421
  (fun x3423 _ =>
   let x3425 := ((a3422.2.1.length : Nat) : Int)
   let x3426 := (decide (x3425 = (0 : Int)))
   bif x3426 then
    k0 (0 : Int) true
   else
    let x3427 := (IntKind.i64.wrap (x3423.1 + (1 : Int)))
    impl_natBits N a3422.2.1
     (fun x3440 =>
      impl_natBits N a3422.2.2.1
       (fun x3441 =>
        let x3442 := IntKind.i64.wrap (x3440 - x3441)
        let x3443 := IntKind.i64.wrap (x3442 - x3427)
        let x3444 := maxI x3423.2.1 x3443
        impl_truncated_J7 N a3421 x3427 x3444 a3422.2.1 a3422.2.2.1 x3423
         (fun x3455 x3456 x3457 x3458 x3459 x3460 =>
          impl_natDiv N x3458 x3459
           (fun x3461 x3462 =>
            let x3463 := ((x3462.length : Nat) : Int)
            let x3464 := (decide (x3463 = (0 : Int)))
            impl_truncated_J12 N x3455 x3456 x3457 x3461 x3464 x3460
             (fun x3480 x3481 x3482 x3483 x3484 =>
              let x3485 := ((x3482.length : Nat) : Int)
              impl_truncated_L0 N N x3480 x3481 x3483 (0 : Int) x3482 x3485 (0 : Int) x3484
               (fun x3501 x3502 x3503 x3504 x3505 =>
                impl_BitMake N x3501 (false, (x3504, (x3502, ())))
                 (fun x3550 x3551 =>
                  let x3552 := !x3551
                  bif x3552 then
                   let x3553 := (IntKind.i64.wrap (x3505.2.2.2.1 - (1 : Int)))
                   k0 x3553 false
                  else
                   k0 x3550 x3503))))))))
theorem impl_truncated.ex : ∃ f : ((α : Type) → Nat → Int → (Bool × (List Int) × (List Int) × Unit) → (Int → Bool → Option α) → Option α), f = fun α => @impl_truncated.b α := ⟨_, rfl⟩
noncomputable def impl_truncated {α : Type} : Nat → Int → (Bool × (List Int) × (List Int) × Unit) → (Int → Bool → Option α) → Option α := Classical.choose impl_truncated.ex α
theorem impl_truncated.eq : @impl_truncated = @impl_truncated.b := funext fun α => congrFun (Classical.choose_spec impl_truncated.ex) α

noncomputable def impl_around_J3.b {α : Type} (N : Nat) (v3556 : Int) (v3557 : Bool) (v3558 : Int) (v3559 : Bool × (List Int) × (List Int) × Unit) (k0 : Int → Int → (Bool × (List Int) × (List Int) × Unit) → Option α) : Option α :=
 let x3560 := !v3557
 bif x3560 then
  let x3561 := (IntKind.i64.wrap (v3558 + (1 : Int)))
  k0 v3556 x3561 v3559
 else
  k0 v3556 v3558 v3559
theorem impl_around_J3.ex : ∃ f : ((α : Type) → Nat → Int → Bool → Int → (Bool × (List Int) × (List Int) × Unit) → (Int → Int → (Bool × (List Int) × (List Int) × Unit) → Option α) → Option α), f = fun α => @impl_around_J3.b α := ⟨_, rfl⟩
noncomputable def impl_around_J3 {α : Type} : Nat → Int → Bool → Int → (Bool × (List Int) × (List Int) × Unit) → (Int → Int → (Bool × (List Int) × (List Int) × Unit) → Option α) → Option α := Classical.choose impl_around_J3.ex α
theorem impl_around_J3.eq : @impl_around_J3 = @impl_around_J3.b := funext fun α => congrFun (Classical.choose_spec impl_around_J3.ex) α
/-- impl.around -/
noncomputable def impl_around.b {α : Type} (N : Nat) (a3419 : Int) (a3420 : Bool × (List Int) × (List Int) × Unit) (k0 : Int → Int → Option α) : Option α :=
 impl_truncated N a3419 a3420
  (fun x3554 x3555 =>
   impl_around_J3 N x3554 x3555 x3554 a3420
    (fun x3562 x3563 x3564 =>
     bif x3564.1 then
      let x3565 := IntKind.i64.wrap (0 - x3563)
      let x3566 := IntKind.i64.wrap (0 - x3562)
      k0 x3565 x3566
     else
      k0 x3562 x3563))
theorem impl_around.ex : ∃ f : ((α : Type) → Nat → Int → (Bool × (List Int) × (List Int) × Unit) → (Int → Int → Option α) → Option α), f = fun α => @impl_around.b α := ⟨_, rfl⟩
noncomputable def impl_around {α : Type} : Nat → Int → (Bool × (List Int) × (List Int) × Unit) → (Int → Int → Option α) → Option α := Classical.choose impl_around.ex α
theorem impl_around.eq : @impl_around = @impl_around.b := funext fun α => congrFun (Classical.choose_spec impl_around.ex) α

noncomputable def impl_natMul_L2r {α : Type} (N : Nat) (next : List Int → Int → Int → Int → List Int → Int → Int → List Int → Int → Int → List Int → Option α) (k0 : List Int → Int → Int → List Int → Int → Int → List Int → Option α) (v3675 : List Int) (v3676 : Int) (v3677 : Int) (v3678 : Int) (v3679 : List Int) (v3680 : Int) (v3681 : Int) (v3682 : List Int) (v3683 : Int) (v3684 : Int) (v3685 : List Int) : Option α :=
 let x3686 := decide (v3684 < v3683)
 bif x3686 then
  bif (decide (v3684 < (0 : Int))) then
   none
  else
   match v3682[v3684.toNat]? with
   | some x3687 =>
    let x3688 := IntKind.i64.wrap (v3676 + v3684)
    bif (decide (x3688 < (0 : Int))) then
     none
    else
     bif decide (x3688.toNat < v3685.length) then
      match v3685[x3688.toNat]? with
      | some x3689 =>
       let x3690 := IntKind.i64.wrap (v3677 * x3687)
       let x3691 := IntKind.i64.wrap (x3689 + x3690)
       let x3692 := IntKind.i64.wrap (x3691 + v3678)
       let x3693 := IntKind.i64.wrap (v3676 + v3684)
       let x3694 := (bitI .and .i64 x3692 (65535 : Int))
       bif (decide (x3693 < (0 : Int))) then
        none
       else
        bif decide (x3693.toNat < v3685.length) then
         match v3685[x3693.toNat]? with
         | some x3695 =>
          let x3696 := v3685.set x3693.toNat x3694
          let x3697 := (shrI .i64 x3692 (16 : Int))
          let x3698 := (IntKind.i64.wrap (v3684 + (1 : Int)))
          next v3675 v3676 v3677 x3697 v3679 v3680 v3681 v3682 v3683 x3698 x3696
         | none => none
        else
         none
      | none => none
     else
      none
   | none => none
 else
  k0 v3675 v3676 v3678 v3679 v3680 v3681 v3685
noncomputable def impl_natMul_L2.b {α : Type} (N n : Nat) (v3675 : List Int) (v3676 : Int) (v3677 : Int) (v3678 : Int) (v3679 : List Int) (v3680 : Int) (v3681 : Int) (v3682 : List Int) (v3683 : Int) (v3684 : Int) (v3685 : List Int) (k0 : List Int → Int → Int → List Int → Int → Int → List Int → Option α) : Option α :=
  Nat.rec (motive := fun _ => List Int → Int → Int → Int → List Int → Int → Int → List Int → Int → Int → List Int → Option α) (fun _ _ _ _ _ _ _ _ _ _ _ => none) (fun _ next => impl_natMul_L2r N next k0) n v3675 v3676 v3677 v3678 v3679 v3680 v3681 v3682 v3683 v3684 v3685
theorem impl_natMul_L2.ex : ∃ f : ((α : Type) → Nat → Nat → List Int → Int → Int → Int → List Int → Int → Int → List Int → Int → Int → List Int → (List Int → Int → Int → List Int → Int → Int → List Int → Option α) → Option α), f = fun α => @impl_natMul_L2.b α := ⟨_, rfl⟩
noncomputable def impl_natMul_L2 {α : Type} : Nat → Nat → List Int → Int → Int → Int → List Int → Int → Int → List Int → Int → Int → List Int → (List Int → Int → Int → List Int → Int → Int → List Int → Option α) → Option α := Classical.choose impl_natMul_L2.ex α
theorem impl_natMul_L2.eq : @impl_natMul_L2 = @impl_natMul_L2.b := funext fun α => congrFun (Classical.choose_spec impl_natMul_L2.ex) α
theorem impl_natMul_L2.zero {α : Type} (N : Nat) (v3675 : List Int) (v3676 : Int) (v3677 : Int) (v3678 : Int) (v3679 : List Int) (v3680 : Int) (v3681 : Int) (v3682 : List Int) (v3683 : Int) (v3684 : Int) (v3685 : List Int) (k0 : List Int → Int → Int → List Int → Int → Int → List Int → Option α) : impl_natMul_L2 N 0 v3675 v3676 v3677 v3678 v3679 v3680 v3681 v3682 v3683 v3684 v3685 k0 = none := by rw [impl_natMul_L2.eq]; rfl
theorem impl_natMul_L2.succ {α : Type} (N n : Nat) (v3675 : List Int) (v3676 : Int) (v3677 : Int) (v3678 : Int) (v3679 : List Int) (v3680 : Int) (v3681 : Int) (v3682 : List Int) (v3683 : Int) (v3684 : Int) (v3685 : List Int) (k0 : List Int → Int → Int → List Int → Int → Int → List Int → Option α) : impl_natMul_L2 N (n + 1) v3675 v3676 v3677 v3678 v3679 v3680 v3681 v3682 v3683 v3684 v3685 k0 = impl_natMul_L2r N (fun y0 y1 y2 y3 y4 y5 y6 y7 y8 y9 y10 => impl_natMul_L2 N n y0 y1 y2 y3 y4 y5 y6 y7 y8 y9 y10 k0) k0 v3675 v3676 v3677 v3678 v3679 v3680 v3681 v3682 v3683 v3684 v3685 := by rw [impl_natMul_L2.eq]; rfl
noncomputable def impl_natMul_L0r {α : Type} (N : Nat) (next : List Int → List Int → Int → Int → List Int → Option α) (k0 : List Int → Option α) (v3667 : List Int) (v3668 : List Int) (v3669 : Int) (v3670 : Int) (v3671 : List Int) : Option α :=
 let x3672 := decide (v3670 < v3669)
 bif x3672 then
  bif (decide (v3670 < (0 : Int))) then
   none
  else
   match v3668[v3670.toNat]? with
   | some x3673 =>
    let x3674 := ((v3667.length : Nat) : Int)
    impl_natMul_L2 N N v3667 v3670 x3673 (0 : Int) v3668 v3669 v3670 v3667 x3674 (0 : Int) v3671
     (fun x3699 x3700 x3701 x3702 x3703 x3704 x3705 =>
      let x3706 := ((x3699.length : Nat) : Int)
      let x3707 := IntKind.i64.wrap (x3700 + x3706)
      bif (decide (x3707 < (0 : Int))) then
       none
      else
       bif decide (x3707.toNat < x3705.length) then
        match x3705[x3707.toNat]? with
        | some x3708 =>
         let x3709 := IntKind.i64.wrap (x3708 + x3701)
         bif (decide (x3707 < (0 : Int))) then
          none
         else
          bif decide (x3707.toNat < x3705.length) then
           match x3705[x3707.toNat]? with
           | some x3710 =>
            let x3711 := x3705.set x3707.toNat x3709
            let x3712 := (IntKind.i64.wrap (x3704 + (1 : Int)))
            next x3699 x3702 x3703 x3712 x3711
           | none => none
          else
           none
        | none => none
       else
        none)
   | none => none
 else
  k0 v3671
noncomputable def impl_natMul_L0.b {α : Type} (N n : Nat) (v3667 : List Int) (v3668 : List Int) (v3669 : Int) (v3670 : Int) (v3671 : List Int) (k0 : List Int → Option α) : Option α :=
  Nat.rec (motive := fun _ => List Int → List Int → Int → Int → List Int → Option α) (fun _ _ _ _ _ => none) (fun _ next => impl_natMul_L0r N next k0) n v3667 v3668 v3669 v3670 v3671
theorem impl_natMul_L0.ex : ∃ f : ((α : Type) → Nat → Nat → List Int → List Int → Int → Int → List Int → (List Int → Option α) → Option α), f = fun α => @impl_natMul_L0.b α := ⟨_, rfl⟩
noncomputable def impl_natMul_L0 {α : Type} : Nat → Nat → List Int → List Int → Int → Int → List Int → (List Int → Option α) → Option α := Classical.choose impl_natMul_L0.ex α
theorem impl_natMul_L0.eq : @impl_natMul_L0 = @impl_natMul_L0.b := funext fun α => congrFun (Classical.choose_spec impl_natMul_L0.ex) α
theorem impl_natMul_L0.zero {α : Type} (N : Nat) (v3667 : List Int) (v3668 : List Int) (v3669 : Int) (v3670 : Int) (v3671 : List Int) (k0 : List Int → Option α) : impl_natMul_L0 N 0 v3667 v3668 v3669 v3670 v3671 k0 = none := by rw [impl_natMul_L0.eq]; rfl
theorem impl_natMul_L0.succ {α : Type} (N n : Nat) (v3667 : List Int) (v3668 : List Int) (v3669 : Int) (v3670 : Int) (v3671 : List Int) (k0 : List Int → Option α) : impl_natMul_L0 N (n + 1) v3667 v3668 v3669 v3670 v3671 k0 = impl_natMul_L0r N (fun y0 y1 y2 y3 y4 => impl_natMul_L0 N n y0 y1 y2 y3 y4 k0) k0 v3667 v3668 v3669 v3670 v3671 := by rw [impl_natMul_L0.eq]; rfl
/-- impl.natMul -/
noncomputable def impl_natMul.b {α : Type} (N : Nat) (a3659 : List Int) (a3660 : List Int) (k0 : List Int → Option α) : Option α :=
 let x3661 := ((a3659.length : Nat) : Int)
 let x3662 := ((a3660.length : Nat) : Int)
 let x3663 := IntKind.i64.wrap (x3661 + x3662)
 let x3664 := (IntKind.i64.wrap (x3663 + (1 : Int)))
 bif (decide ((0 : Int) ≤ x3664)) then
  bif decide (x3664 ≤ x3664) then
   bif (decide (x3664 ≤ ((8796093022208 : Nat) : Int))) then
    let x3665 := (List.replicate x3664.toNat (0 : Int))
    let x3666 := ((a3659.length : Nat) : Int)
    impl_natMul_L0 N N a3660 a3659 x3666 (0 : Int) x3665
     (fun x3713 =>
      impl_trim N x3713
       (fun x3714 =>
        k0 x3714))
   else
    none
  else
   none
 else
  none
theorem impl_natMul.ex : ∃ f : ((α : Type) → Nat → List Int → List Int → (List Int → Option α) → Option α), f = fun α => @impl_natMul.b α := ⟨_, rfl⟩
noncomputable def impl_natMul {α : Type} : Nat → List Int → List Int → (List Int → Option α) → Option α := Classical.choose impl_natMul.ex α
theorem impl_natMul.eq : @impl_natMul = @impl_natMul.b := funext fun α => congrFun (Classical.choose_spec impl_natMul.ex) α

noncomputable def impl_natPow_L0r {α : Type} (N : Nat) (next : List Int → List Int → Int → Int → Option α) (k0 : List Int → Option α) (v3654 : List Int) (v3655 : List Int) (v3656 : Int) (v3657 : Int) : Option α :=
 let x3658 := decide (v3657 < v3656)
 bif x3658 then
  impl_natMul N v3655 v3654
   (fun x3715 =>
    let x3716 := ((x3715.length : Nat) : Int)
    let x3717 := (decide ((1024 : Int) < x3716))
    bif x3717 then
     k0 x3715
    else
     let x3718 := (IntKind.i64.wrap (v3657 + (1 : Int)))
     next v3654 x3715 v3656 x3718)
 else
  k0 v3655
noncomputable def impl_natPow_L0.b {α : Type} (N n : Nat) (v3654 : List Int) (v3655 : List Int) (v3656 : Int) (v3657 : Int) (k0 : List Int → Option α) : Option α :=
  Nat.rec (motive := fun _ => List Int → List Int → Int → Int → Option α) (fun _ _ _ _ => none) (fun _ next => impl_natPow_L0r N next k0) n v3654 v3655 v3656 v3657
theorem impl_natPow_L0.ex : ∃ f : ((α : Type) → Nat → Nat → List Int → List Int → Int → Int → (List Int → Option α) → Option α), f = fun α => @impl_natPow_L0.b α := ⟨_, rfl⟩
noncomputable def impl_natPow_L0 {α : Type} : Nat → Nat → List Int → List Int → Int → Int → (List Int → Option α) → Option α := Classical.choose impl_natPow_L0.ex α
theorem impl_natPow_L0.eq : @impl_natPow_L0 = @impl_natPow_L0.b := funext fun α => congrFun (Classical.choose_spec impl_natPow_L0.ex) α
theorem impl_natPow_L0.zero {α : Type} (N : Nat) (v3654 : List Int) (v3655 : List Int) (v3656 : Int) (v3657 : Int) (k0 : List Int → Option α) : impl_natPow_L0 N 0 v3654 v3655 v3656 v3657 k0 = none := by rw [impl_natPow_L0.eq]; rfl
theorem impl_natPow_L0.succ {α : Type} (N n : Nat) (v3654 : List Int) (v3655 : List Int) (v3656 : Int) (v3657 : Int) (k0 : List Int → Option α) : impl_natPow_L0 N (n + 1) v3654 v3655 v3656 v3657 k0 = impl_natPow_L0r N (fun y0 y1 y2 y3 => impl_natPow_L0 N n y0 y1 y2 y3 k0) k0 v3654 v3655 v3656 v3657 := by rw [impl_natPow_L0.eq]; rfl
/-- impl.natPow -/
noncomputable def impl_natPow.b {α : Type} (N : Nat) (a3651 : List Int) (a3652 : Int) (k0 : List Int → Option α) : Option α :=
 let x3653 := [(1 : Int)]
 impl_natPow_L0 N N a3651 x3653 a3652 (0 : Int)
  (fun x3719 =>
   k0 x3719)
theorem impl_natPow.ex : ∃ f : ((α : Type) → Nat → List Int → Int → (List Int → Option α) → Option α), f = fun α => @impl_natPow.b α := ⟨_, rfl⟩
noncomputable def impl_natPow {α : Type} : Nat → List Int → Int → (List Int → Option α) → Option α := Classical.choose impl_natPow.ex α
theorem impl_natPow.eq : @impl_natPow = @impl_natPow.b := funext fun α => congrFun (Classical.choose_spec impl_natPow.ex) α

/-- (impl.Frac).pow -/
noncomputable def impl_Frac_pow.b {α : Type} (N : Nat) (a3579 : Bool × (List Int) × (List Int) × Unit) (a3580 : Int) (k0 : (Bool × (List Int) × (List Int) × Unit) → Option α) : Option α :=
 bif a3579.1 then
  let x3581 := (Int.tmod a3580 (2 : Int))
  let x3582 := (decide (x3581 = (1 : Int)))
  impl_natPow N a3579.2.1 a3580
   (fun x3720 =>
    impl_natPow N a3579.2.2.1 a3580
     (fun x3721 =>
      k0 (x3582, (x3720, (x3721, ())))))
 else
  impl_natPow N a3579.2.1 a3580
   (fun x3722 =>
    impl_natPow N a3579.2.2.1 a3580
     (fun x3723 =>
      k0 (false, (x3722, (x3723, ())))))
theorem impl_Frac_pow.ex : ∃ f : ((α : Type) → Nat → (Bool × (List Int) × (List Int) × Unit) → Int → ((Bool × (List Int) × (List Int) × Unit) → Option α) → Option α), f = fun α => @impl_Frac_pow.b α := ⟨_, rfl⟩
noncomputable def impl_Frac_pow {α : Type} : Nat → (Bool × (List Int) × (List Int) × Unit) → Int → ((Bool × (List Int) × (List Int) × Unit) → Option α) → Option α := Classical.choose impl_Frac_pow.ex α
theorem impl_Frac_pow.eq : @impl_Frac_pow = @impl_Frac_pow.b := funext fun α => congrFun (Classical.choose_spec impl_Frac_pow.ex) α

/-- (impl.limit).floats -/
noncomputable def impl_limit_floats.b {α : Type} (N : Nat) (a3731 : Int × (Bool × (List Int) × (List Int) × Unit) × Unit) (a3732 : Int) (k0 : Int → Int → Option α) : Option α :=
 let x3733 := (!(decide (a3731.1 = (0 : Int))))
 bif x3733 then
  impl_BitTop N a3732
   (fun x3734 =>
    let x3735 := IntKind.i64.wrap (a3731.1 * x3734)
    impl_BitTop N a3732
     (fun x3736 =>
      let x3737 := IntKind.i64.wrap (a3731.1 * x3736)
      k0 x3735 x3737))
 else
  impl_around N a3732 a3731.2.1
   (fun x3738 x3739 =>
    k0 x3738 x3739)
theorem impl_limit_floats.ex : ∃ f : ((α : Type) → Nat → (Int × (Bool × (List Int) × (List Int) × Unit) × Unit) → Int → (Int → Int → Option α) → Option α), f = fun α => @impl_limit_floats.b α := ⟨_, rfl⟩
noncomputable def impl_limit_floats {α : Type} : Nat → (Int × (Bool × (List Int) × (List Int) × Unit) × Unit) → Int → (Int → Int → Option α) → Option α := Classical.choose impl_limit_floats.ex α
theorem impl_limit_floats.eq : @impl_limit_floats = @impl_limit_floats.b := funext fun α => congrFun (Classical.choose_spec impl_limit_floats.ex) α

noncomputable def impl_power_J6.b {α : Type} (N : Nat) (v3575 : Int) (v3576 : Int) (v3577 : Int × (Bool × (List Int) × (List Int) × Unit) × Unit) (k0 : Int → (Int × (Bool × (List Int) × (List Int) × Unit) × Unit) → Option α) : Option α :=
 let x3578 := (decide (v3577.1 = (0 : Int)))
 bif x3578 then
  impl_Frac_pow N v3577.2.1 v3576
   (fun x3724 =>
    k0 v3575 (v3577.1, (x3724, ())))
 else
  k0 v3575 v3577
theorem impl_power_J6.ex : ∃ f : ((α : Type) → Nat → Int → Int → (Int × (Bool × (List Int) × (List Int) × Unit) × Unit) → (Int → (Int × (Bool × (List Int) × (List Int) × Unit) × Unit) → Option α) → Option α), f = fun α => @impl_power_J6.b α := ⟨_, rfl⟩
noncomputable def impl_power_J6 {α : Type} : Nat → Int → Int → (Int × (Bool × (List Int) × (List Int) × Unit) × Unit) → (Int → (Int × (Bool × (List Int) × (List Int) × Unit) × Unit) → Option α) → Option α := Classical.choose impl_power_J6.ex α
theorem impl_power_J6.eq : @impl_power_J6 = @impl_power_J6.b := funext fun α => congrFun (Classical.choose_spec impl_power_J6.ex) α
noncomputable def impl_power_J4.b {α : Type} (N : Nat) (v3569 : Int) (v3570 : Int) (v3571 : Int × (Bool × (List Int) × (List Int) × Unit) × Unit) (k0 : Int → (Int × (Bool × (List Int) × (List Int) × Unit) × Unit) → Option α) : Option α :=
 let x3572 := (decide (v3571.1 < (0 : Int)))
 bif x3572 then
  let x3573 := (Int.tmod v3570 (2 : Int))
  let x3574 := (decide (x3573 = (0 : Int)))
  bif x3574 then
   k0 v3569 ((1 : Int), (v3571.2.1, ()))
  else
   impl_power_J6 N v3569 v3570 v3571
    (fun x3725 x3726 =>
     k0 x3725 x3726)
 else
  impl_power_J6 N v3569 v3570 v3571
   (fun x3727 x3728 =>
    k0 x3727 x3728)
theorem impl_power_J4.ex : ∃ f : ((α : Type) → Nat → Int → Int → (Int × (Bool × (List Int) × (List Int) × Unit) × Unit) → (Int → (Int × (Bool × (List Int) × (List Int) × Unit) × Unit) → Option α) → Option α), f = fun α => @impl_power_J4.b α := ⟨_, rfl⟩
noncomputable def impl_power_J4 {α : Type} : Nat → Int → Int → (Int × (Bool × (List Int) × (List Int) × Unit) × Unit) → (Int → (Int × (Bool × (List Int) × (List Int) × Unit) × Unit) → Option α) → Option α := Classical.choose impl_power_J4.ex α
theorem impl_power_J4.eq : @impl_power_J4 = @impl_power_J4.b := funext fun α => congrFun (Classical.choose_spec impl_power_J4.ex) α
/-- impl.power -/
noncomputable def impl_power.b {α : Type} (N : Nat) (a944 : Int) (a945 : Int) (a946 : Int) (k0 : Int → Int → Option α) : Option α :=
 impl_limitOf N a944 a945
  (fun x3413 =>
   let x3414 := (decide (a946 = (0 : Int)))
   bif x3414 then
    let x3415 := [(1 : Int)]
    impl_whole N false x3415
     (fun x3416 x3417 x3418 =>
      impl_around N a944 (x3416, (x3417, (x3418, ())))
       (fun x3567 x3568 =>
        k0 x3567 x3568))
   else
    impl_power_J4 N a944 a946 x3413
     (fun x3729 x3730 =>
      impl_limit_floats N x3730 x3729
       (fun x3740 x3741 =>
        k0 x3740 x3741)))
theorem impl_power.ex : ∃ f : ((α : Type) → Nat → Int → Int → Int → (Int → Int → Option α) → Option α), f = fun α => @impl_power.b α := ⟨_, rfl⟩
noncomputable def impl_power {α : Type} : Nat → Int → Int → Int → (Int → Int → Option α) → Option α := Classical.choose impl_power.ex α
theorem impl_power.eq : @impl_power = @impl_power.b := funext fun α => congrFun (Classical.choose_spec impl_power.ex) α

noncomputable def impl_SpanPow_J3.b {α : Type} (N : Nat) (v919 : Int) (v920 : Int) (v921 : Bool × Int × Int × Unit) (v922 : Bool × Int × Int × Unit) (k0 : Int → Int → (Bool × Int × Int × Unit) → (Bool × Int × Int × Unit) → Option α) : Option α :=
 let x923 := (Int.tmod v920 (2 : Int))
 let x924 := (decide (x923 = (0 : Int)))
 bif x924 then
  impl_SpanAbs N v919 v921
   (fun x939 =>
    k0 v919 v920 x939 v922)
 else
  k0 v919 v920 v921 v922
theorem impl_SpanPow_J3.ex : ∃ f : ((α : Type) → Nat → Int → Int → (Bool × Int × Int × Unit) → (Bool × Int × Int × Unit) → (Int → Int → (Bool × Int × Int × Unit) → (Bool × Int × Int × Unit) → Option α) → Option α), f = fun α => @impl_SpanPow_J3.b α := ⟨_, rfl⟩
noncomputable def impl_SpanPow_J3 {α : Type} : Nat → Int → Int → (Bool × Int × Int × Unit) → (Bool × Int × Int × Unit) → (Int → Int → (Bool × Int × Int × Unit) → (Bool × Int × Int × Unit) → Option α) → Option α := Classical.choose impl_SpanPow_J3.ex α
theorem impl_SpanPow_J3.eq : @impl_SpanPow_J3 = @impl_SpanPow_J3.b := funext fun α => congrFun (Classical.choose_spec impl_SpanPow_J3.ex) α
/-- impl.SpanPow -/
noncomputable def impl_SpanPow.b {α : Type} (N : Nat) (a911 : Int) (a912 : Bool × Int × Int × Unit) (a913 : Int) (k0 : (Bool × Int × Int × Unit) → Option α) : Option α :=
 let x914 := [a912]
 impl_full N a911 x914
  (fun x915 =>
   let x916 := !x915
   bif x916 then
    k0 (false, ((0 : Int), ((0 : Int), ())))
   else
    impl_in N a913 (0 : Int) (8 : Int)
     (fun x917 =>
      let x918 := !x917
      bif x918 then
       k0 (false, ((0 : Int), ((0 : Int), ())))
      else
       impl_SpanPow_J3 N a911 a913 a912 (false, ((0 : Int), ((0 : Int), ())))
        (fun x940 x941 x942 _ =>
         impl_power N x940 x942.2.1 x941
          (fun x3742 _ =>
           impl_power N x940 x942.2.2.1 x941
            (fun _ x3745 =>
             impl_some N x3742 x3745
              (fun x3746 =>
               k0 x3746))))))
theorem impl_SpanPow.ex : ∃ f : ((α : Type) → Nat → Int → (Bool × Int × Int × Unit) → Int → ((Bool × Int × Int × Unit) → Option α) → Option α), f = fun α => @impl_SpanPow.b α := ⟨_, rfl⟩
noncomputable def impl_SpanPow {α : Type} : Nat → Int → (Bool × Int × Int × Unit) → Int → ((Bool × Int × Int × Unit) → Option α) → Option α := Classical.choose impl_SpanPow.ex α
theorem impl_SpanPow.eq : @impl_SpanPow = @impl_SpanPow.b := funext fun α => congrFun (Classical.choose_spec impl_SpanPow.ex) α

/-- impl.BackRoot -/
noncomputable def impl_BackRoot.b {α : Type} (N : Nat) (a839 : Int) (a840 : Bool × Int × Int × Unit) (a841 : Bool × Int × Int × Unit) (k0 : (Bool × Int × Int × Unit) → Option α) : Option α :=
 let x842 := [a840, a841]
 impl_full N a839 x842
  (fun x890 =>
   let x891 := !x890
   bif x891 then
    k0 (false, ((0 : Int), ((0 : Int), ())))
   else
    impl_from N a839 (0 : Int)
     (fun x898 =>
      impl_SpanMeet N a839 a840 x898
       (fun x910 =>
        impl_SpanPow N a839 x910 (2 : Int)
         (fun x3747 =>
          impl_SpanMeet N a839 a841 x3747
           (fun x3748 =>
            k0 x3748)))))
theorem impl_BackRoot.ex : ∃ f : ((α : Type) → Nat → Int → (Bool × Int × Int × Unit) → (Bool × Int × Int × Unit) → ((Bool × Int × Int × Unit) → Option α) → Option α), f = fun α => @impl_BackRoot.b α := ⟨_, rfl⟩
noncomputable def impl_BackRoot {α : Type} : Nat → Int → (Bool × Int × Int × Unit) → (Bool × Int × Int × Unit) → ((Bool × Int × Int × Unit) → Option α) → Option α := Classical.choose impl_BackRoot.ex α
theorem impl_BackRoot.eq : @impl_BackRoot = @impl_BackRoot.b := funext fun α => congrFun (Classical.choose_spec impl_BackRoot.ex) α

/-- laws.eqSpan -/
noncomputable def laws_eqSpan.b {α : Type} (N : Nat) (a3750 : Bool × Int × Int × Unit) (a3751 : Bool × Int × Int × Unit) (k0 : Bool → Option α) : Option α :=
 let x3752 := !(a3750.1 == a3751.1)
 bif x3752 then
  k0 false
 else
  let x3753 := !(decide (a3750.2.1 = a3751.2.1))
  bif x3753 then
   k0 false
  else
   let x3754 := !(decide (a3750.2.2.1 = a3751.2.2.1))
   bif x3754 then
    k0 false
   else
    k0 true
theorem laws_eqSpan.ex : ∃ f : ((α : Type) → Nat → (Bool × Int × Int × Unit) → (Bool × Int × Int × Unit) → (Bool → Option α) → Option α), f = fun α => @laws_eqSpan.b α := ⟨_, rfl⟩
noncomputable def laws_eqSpan {α : Type} : Nat → (Bool × Int × Int × Unit) → (Bool × Int × Int × Unit) → (Bool → Option α) → Option α := Classical.choose laws_eqSpan.ex α
theorem laws_eqSpan.eq : @laws_eqSpan = @laws_eqSpan.b := funext fun α => congrFun (Classical.choose_spec laws_eqSpan.ex) α

/-- laws.FnExactBackRoot -/
noncomputable def laws_FnExactBackRoot.b {α : Type} (N : Nat) (a1 : Int) (a2 : Bool × Int × Int × Unit) (a3 : Bool × Int × Int × Unit) (k0 : Bool → Option α) : Option α :=
 laws_toSpan N a2
  (fun x5 =>
   laws_toSpan N a3
    (fun x6 =>
     spec_BackRoot N a1 x5 x6
      (fun x836 =>
       laws_toSpan N a2
        (fun x837 =>
         laws_toSpan N a3
          (fun x838 =>
           impl_BackRoot N a1 x837 x838
            (fun x3749 =>
             laws_eqSpan N x3749 x836
              (fun x3755 =>
               let x3756 := !x3755
               bif x3756 then
                k0 false
               else
                k0 true)))))))
theorem laws_FnExactBackRoot.ex : ∃ f : ((α : Type) → Nat → Int → (Bool × Int × Int × Unit) → (Bool × Int × Int × Unit) → (Bool → Option α) → Option α), f = fun α => @laws_FnExactBackRoot.b α := ⟨_, rfl⟩
noncomputable def laws_FnExactBackRoot {α : Type} : Nat → Int → (Bool × Int × Int × Unit) → (Bool × Int × Int × Unit) → (Bool → Option α) → Option α := Classical.choose laws_FnExactBackRoot.ex α
theorem laws_FnExactBackRoot.eq : @laws_FnExactBackRoot = @laws_FnExactBackRoot.b := funext fun α => congrFun (Classical.choose_spec laws_FnExactBackRoot.ex) α

end
end Go.Proofs.YtlbihmicbncdiaaDoorAm
