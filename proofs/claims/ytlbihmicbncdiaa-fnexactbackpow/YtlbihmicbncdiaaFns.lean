/-
  The functions that the program computes, as the abstract machine tells them. Printed by amp.py.
-/
import Derived.Test.YtlbihmicbncdiaaAmb
namespace Go.Proofs.YtlbihmicbncdiaaAm
open Go
noncomputable section
set_option linter.unusedVariables false
set_option linter.unusedSimpArgs false

/-- laws.toSpan -/
noncomputable def laws_toSpan.b {α : Type} (N : Nat) (a5 : Bool × Int × Int × Unit) (k0 : (Bool × Int × Int × Unit) → Option α) : Option α :=
 k0 (a5.1, (a5.2.1, (a5.2.2.1, ())))
theorem laws_toSpan.ex : ∃ f : ((α : Type) → Nat → (Bool × Int × Int × Unit) → ((Bool × Int × Int × Unit) → Option α) → Option α), f = fun α => @laws_toSpan.b α := ⟨_, rfl⟩
noncomputable def laws_toSpan {α : Type} : Nat → (Bool × Int × Int × Unit) → ((Bool × Int × Int × Unit) → Option α) → Option α := Classical.choose laws_toSpan.ex α
theorem laws_toSpan.eq : @laws_toSpan = @laws_toSpan.b := funext fun α => congrFun (Classical.choose_spec laws_toSpan.ex) α

/-- spec.l1Width -/
noncomputable def spec_l1Width.b {α : Type} (N : Nat) (a18 : Int) (k0 : Bool → Option α) : Option α :=
 let x19 := (decide (a18 = (32 : Int)))
 bif x19 then
  k0 true
 else
  let x20 := (decide (a18 = (64 : Int)))
  k0 x20
theorem spec_l1Width.ex : ∃ f : ((α : Type) → Nat → Int → (Bool → Option α) → Option α), f = fun α => @spec_l1Width.b α := ⟨_, rfl⟩
noncomputable def spec_l1Width {α : Type} : Nat → Int → (Bool → Option α) → Option α := Classical.choose spec_l1Width.ex α
theorem spec_l1Width.eq : @spec_l1Width = @spec_l1Width.b := funext fun α => congrFun (Classical.choose_spec spec_l1Width.ex) α

/-- spec.l9Pair -/
noncomputable def spec_l9Pair.b {α : Type} (N : Nat) (a24 : Bool × Int × Int × Unit) (k0 : (Int × Int × Unit) → Option α) : Option α :=
 k0 (a24.2.1, (a24.2.2.1, ()))
theorem spec_l9Pair.ex : ∃ f : ((α : Type) → Nat → (Bool × Int × Int × Unit) → ((Int × Int × Unit) → Option α) → Option α), f = fun α => @spec_l9Pair.b α := ⟨_, rfl⟩
noncomputable def spec_l9Pair {α : Type} : Nat → (Bool × Int × Int × Unit) → ((Int × Int × Unit) → Option α) → Option α := Classical.choose spec_l9Pair.ex α
theorem spec_l9Pair.eq : @spec_l9Pair = @spec_l9Pair.b := funext fun α => congrFun (Classical.choose_spec spec_l9Pair.ex) α

/-- spec.BitTop -/
noncomputable def spec_BitTop.b {α : Type} (N : Nat) (a28 : Int) (k0 : Int → Option α) : Option α :=
 let x29 := (decide (a28 = (32 : Int)))
 bif x29 then
  k0 (2139095040 : Int)
 else
  let x30 := (decide (a28 = (64 : Int)))
  bif x30 then
   k0 (9218868437227405312 : Int)
  else
   k0 (0 : Int)
theorem spec_BitTop.ex : ∃ f : ((α : Type) → Nat → Int → (Int → Option α) → Option α), f = fun α => @spec_BitTop.b α := ⟨_, rfl⟩
noncomputable def spec_BitTop {α : Type} : Nat → Int → (Int → Option α) → Option α := Classical.choose spec_BitTop.ex α
theorem spec_BitTop.eq : @spec_BitTop = @spec_BitTop.b := funext fun α => congrFun (Classical.choose_spec spec_BitTop.ex) α

/-- spec.BitOk -/
noncomputable def spec_BitOk.b {α : Type} (N : Nat) (a32 : Int) (a33 : Int) (k0 : Bool → Option α) : Option α :=
 spec_l1Width N a32
  (fun x34 =>
   bif x34 then
    spec_BitTop N a32
     (fun x35 =>
      let x36 := IntKind.i64.wrap (0 - x35)
      let x37 := decide (x36 ≤ a33)
      bif x37 then
       spec_BitTop N a32
        (fun x38 =>
         let x39 := decide (a33 ≤ x38)
         k0 x39)
      else
       k0 false)
   else
    k0 false)
theorem spec_BitOk.ex : ∃ f : ((α : Type) → Nat → Int → Int → (Bool → Option α) → Option α), f = fun α => @spec_BitOk.b α := ⟨_, rfl⟩
noncomputable def spec_BitOk {α : Type} : Nat → Int → Int → (Bool → Option α) → Option α := Classical.choose spec_BitOk.ex α
theorem spec_BitOk.eq : @spec_BitOk = @spec_BitOk.b := funext fun α => congrFun (Classical.choose_spec spec_BitOk.ex) α

/-- spec.PairOk -/
noncomputable def spec_PairOk.b {α : Type} (N : Nat) (a26 : Int) (a27 : Int × Int × Unit) (k0 : Bool → Option α) : Option α :=
 spec_BitTop N a26
  (fun x31 =>
   spec_BitOk N a26 a27.1
    (fun x40 =>
     bif x40 then
      spec_BitOk N a26 a27.2.1
       (fun x41 =>
        bif x41 then
         let x42 := decide (a27.1 ≤ a27.2.1)
         bif x42 then
          let x43 := decide (a27.1 < x31)
          bif x43 then
           let x44 := IntKind.i64.wrap (0 - x31)
           let x45 := decide (x44 < a27.2.1)
           k0 x45
          else
           k0 false
         else
          k0 false
        else
         k0 false)
     else
      k0 false))
theorem spec_PairOk.ex : ∃ f : ((α : Type) → Nat → Int → (Int × Int × Unit) → (Bool → Option α) → Option α), f = fun α => @spec_PairOk.b α := ⟨_, rfl⟩
noncomputable def spec_PairOk {α : Type} : Nat → Int → (Int × Int × Unit) → (Bool → Option α) → Option α := Classical.choose spec_PairOk.ex α
theorem spec_PairOk.eq : @spec_PairOk = @spec_PairOk.b := funext fun α => congrFun (Classical.choose_spec spec_PairOk.ex) α

/-- spec.SpanOk -/
noncomputable def spec_SpanOk.b {α : Type} (N : Nat) (a15 : Int) (a16 : Bool × Int × Int × Unit) (k0 : Bool → Option α) : Option α :=
 let x17 := !a16.1
 bif x17 then
  spec_l1Width N a15
   (fun x21 =>
    bif x21 then
     let x22 := (decide (a16.2.1 = (0 : Int)))
     bif x22 then
      let x23 := (decide (a16.2.2.1 = (0 : Int)))
      k0 x23
     else
      k0 false
    else
     k0 false)
 else
  spec_l9Pair N a16
   (fun x25 =>
    spec_PairOk N a15 x25
     (fun x46 =>
      k0 x46))
theorem spec_SpanOk.ex : ∃ f : ((α : Type) → Nat → Int → (Bool × Int × Int × Unit) → (Bool → Option α) → Option α), f = fun α => @spec_SpanOk.b α := ⟨_, rfl⟩
noncomputable def spec_SpanOk {α : Type} : Nat → Int → (Bool × Int × Int × Unit) → (Bool → Option α) → Option α := Classical.choose spec_SpanOk.ex α
theorem spec_SpanOk.eq : @spec_SpanOk = @spec_SpanOk.b := funext fun α => congrFun (Classical.choose_spec spec_SpanOk.ex) α

/-- spec.l9Both -/
noncomputable def spec_l9Both.b {α : Type} (N : Nat) (a12 : Int) (a13 : Bool × Int × Int × Unit) (a14 : Bool × Int × Int × Unit) (k0 : Bool → Option α) : Option α :=
 spec_SpanOk N a12 a13
  (fun x47 =>
   bif x47 then
    spec_SpanOk N a12 a14
     (fun x48 =>
      bif x48 then
       bif a13.1 then
        k0 a14.1
       else
        k0 false
      else
       k0 false)
   else
    k0 false)
theorem spec_l9Both.ex : ∃ f : ((α : Type) → Nat → Int → (Bool × Int × Int × Unit) → (Bool × Int × Int × Unit) → (Bool → Option α) → Option α), f = fun α => @spec_l9Both.b α := ⟨_, rfl⟩
noncomputable def spec_l9Both {α : Type} : Nat → Int → (Bool × Int × Int × Unit) → (Bool × Int × Int × Unit) → (Bool → Option α) → Option α := Classical.choose spec_l9Both.ex α
theorem spec_l9Both.eq : @spec_l9Both = @spec_l9Both.b := funext fun α => congrFun (Classical.choose_spec spec_l9Both.ex) α

/-- spec.l1Frac -/
noncomputable def spec_l1Frac.b {α : Type} (N : Nat) (a64 : Int) (k0 : Int → Option α) : Option α :=
 let x65 := (decide (a64 = (32 : Int)))
 bif x65 then
  k0 (23 : Int)
 else
  k0 (52 : Int)
theorem spec_l1Frac.ex : ∃ f : ((α : Type) → Nat → Int → (Int → Option α) → Option α), f = fun α => @spec_l1Frac.b α := ⟨_, rfl⟩
noncomputable def spec_l1Frac {α : Type} : Nat → Int → (Int → Option α) → Option α := Classical.choose spec_l1Frac.ex α
theorem spec_l1Frac.eq : @spec_l1Frac = @spec_l1Frac.b := funext fun α => congrFun (Classical.choose_spec spec_l1Frac.ex) α

noncomputable def spec_l5Bits_L0r {α : Type} (N : Nat) (next : Int → Int → Option α) (k0 : Int → Option α) (v77 : Int) (v78 : Int) : Option α :=
 let x79 := (decide ((0 : Int) < v78))
 bif x79 then
  let x80 := (IntKind.i64.wrap (v77 + (1 : Int)))
  let x81 := (IntKind.i64.wrap (Int.tdiv v78 (2 : Int)))
  next x80 x81
 else
  k0 v77
noncomputable def spec_l5Bits_L0.b {α : Type} (N n : Nat) (v77 : Int) (v78 : Int) (k0 : Int → Option α) : Option α :=
  Nat.rec (motive := fun _ => Int → Int → Option α) (fun _ _ => none) (fun _ next => spec_l5Bits_L0r N next k0) n v77 v78
theorem spec_l5Bits_L0.ex : ∃ f : ((α : Type) → Nat → Nat → Int → Int → (Int → Option α) → Option α), f = fun α => @spec_l5Bits_L0.b α := ⟨_, rfl⟩
noncomputable def spec_l5Bits_L0 {α : Type} : Nat → Nat → Int → Int → (Int → Option α) → Option α := Classical.choose spec_l5Bits_L0.ex α
theorem spec_l5Bits_L0.eq : @spec_l5Bits_L0 = @spec_l5Bits_L0.b := funext fun α => congrFun (Classical.choose_spec spec_l5Bits_L0.ex) α
theorem spec_l5Bits_L0.zero {α : Type} (N : Nat) (v77 : Int) (v78 : Int) (k0 : Int → Option α) : spec_l5Bits_L0 N 0 v77 v78 k0 = none := by rw [spec_l5Bits_L0.eq]; rfl
theorem spec_l5Bits_L0.succ {α : Type} (N n : Nat) (v77 : Int) (v78 : Int) (k0 : Int → Option α) : spec_l5Bits_L0 N (n + 1) v77 v78 k0 = spec_l5Bits_L0r N (fun y0 y1 => spec_l5Bits_L0 N n y0 y1 k0) k0 v77 v78 := by rw [spec_l5Bits_L0.eq]; rfl
/-- spec.l5Bits -/
noncomputable def spec_l5Bits.b {α : Type} (N : Nat) (a68 : List Int) (k0 : Int → Option α) : Option α :=
 let x69 := ((a68.length : Nat) : Int)
 let x70 := (decide (x69 = (0 : Int)))
 bif x70 then
  k0 (0 : Int)
 else
  let x71 := ((a68.length : Nat) : Int)
  let x72 := (IntKind.i64.wrap (x71 - (1 : Int)))
  let x73 := (IntKind.i64.wrap ((16 : Int) * x72))
  let x74 := ((a68.length : Nat) : Int)
  let x75 := (IntKind.i64.wrap (x74 - (1 : Int)))
  bif (decide (x75 < (0 : Int))) then
   none
  else
   match a68[x75.toNat]? with
   | some x76 =>
    spec_l5Bits_L0 N N x73 x76
     (fun x82 =>
      k0 x82)
   | none => none
theorem spec_l5Bits.ex : ∃ f : ((α : Type) → Nat → List Int → (Int → Option α) → Option α), f = fun α => @spec_l5Bits.b α := ⟨_, rfl⟩
noncomputable def spec_l5Bits {α : Type} : Nat → List Int → (Int → Option α) → Option α := Classical.choose spec_l5Bits.ex α
theorem spec_l5Bits.eq : @spec_l5Bits = @spec_l5Bits.b := funext fun α => congrFun (Classical.choose_spec spec_l5Bits.ex) α

/-- spec.l1Least -/
noncomputable def spec_l1Least.b {α : Type} (N : Nat) (a91 : Int) (k0 : Int → Option α) : Option α :=
 let x92 := (decide (a91 = (32 : Int)))
 bif x92 then
  k0 (-149 : Int)
 else
  k0 (-1074 : Int)
theorem spec_l1Least.ex : ∃ f : ((α : Type) → Nat → Int → (Int → Option α) → Option α), f = fun α => @spec_l1Least.b α := ⟨_, rfl⟩
noncomputable def spec_l1Least {α : Type} : Nat → Int → (Int → Option α) → Option α := Classical.choose spec_l1Least.ex α
theorem spec_l1Least.eq : @spec_l1Least = @spec_l1Least.b := funext fun α => congrFun (Classical.choose_spec spec_l1Least.ex) α

noncomputable def spec_l5Shl_L0r {α : Type} (N : Nat) (next : List Int → Int → List Int → Option α) (k0 : List Int → Option α) (v218 : List Int) (v219 : Int) (v220 : List Int) : Option α :=
 let x221 := ((v218.length : Nat) : Int)
 let x222 := decide (v219 < x221)
 bif x222 then
  bif (decide (v219 < (0 : Int))) then
   none
  else
   match v218[v219.toNat]? with
   | some x223 =>
    let x224 := [x223]
    bif decide (v220.length + x224.length ≤ 8796093022208) then
     let x225 := v220 ++ x224
     let x226 := (IntKind.i64.wrap (v219 + (1 : Int)))
     next v218 x226 x225
    else
     none
   | none => none
 else
  k0 v220
noncomputable def spec_l5Shl_L0.b {α : Type} (N n : Nat) (v218 : List Int) (v219 : Int) (v220 : List Int) (k0 : List Int → Option α) : Option α :=
  Nat.rec (motive := fun _ => List Int → Int → List Int → Option α) (fun _ _ _ => none) (fun _ next => spec_l5Shl_L0r N next k0) n v218 v219 v220
theorem spec_l5Shl_L0.ex : ∃ f : ((α : Type) → Nat → Nat → List Int → Int → List Int → (List Int → Option α) → Option α), f = fun α => @spec_l5Shl_L0.b α := ⟨_, rfl⟩
noncomputable def spec_l5Shl_L0 {α : Type} : Nat → Nat → List Int → Int → List Int → (List Int → Option α) → Option α := Classical.choose spec_l5Shl_L0.ex α
theorem spec_l5Shl_L0.eq : @spec_l5Shl_L0 = @spec_l5Shl_L0.b := funext fun α => congrFun (Classical.choose_spec spec_l5Shl_L0.ex) α
theorem spec_l5Shl_L0.zero {α : Type} (N : Nat) (v218 : List Int) (v219 : Int) (v220 : List Int) (k0 : List Int → Option α) : spec_l5Shl_L0 N 0 v218 v219 v220 k0 = none := by rw [spec_l5Shl_L0.eq]; rfl
theorem spec_l5Shl_L0.succ {α : Type} (N n : Nat) (v218 : List Int) (v219 : Int) (v220 : List Int) (k0 : List Int → Option α) : spec_l5Shl_L0 N (n + 1) v218 v219 v220 k0 = spec_l5Shl_L0r N (fun y0 y1 y2 => spec_l5Shl_L0 N n y0 y1 y2 k0) k0 v218 v219 v220 := by rw [spec_l5Shl_L0.eq]; rfl
/-- spec.l5Shl -/
noncomputable def spec_l5Shl.b {α : Type} (N : Nat) (a213 : List Int) (a214 : Int) (k0 : List Int → Option α) : Option α :=
 let x215 := ((a213.length : Nat) : Int)
 let x216 := (decide (x215 = (0 : Int)))
 bif x216 then
  k0 []
 else
  bif (decide ((0 : Int) ≤ a214)) then
   bif decide (a214 ≤ a214) then
    bif (decide (a214 ≤ ((8796093022208 : Nat) : Int))) then
     let x217 := (List.replicate a214.toNat (0 : Int))
     spec_l5Shl_L0 N N a213 (0 : Int) x217
      (fun x227 =>
       k0 x227)
    else
     none
   else
    none
  else
   none
theorem spec_l5Shl.ex : ∃ f : ((α : Type) → Nat → List Int → Int → (List Int → Option α) → Option α), f = fun α => @spec_l5Shl.b α := ⟨_, rfl⟩
noncomputable def spec_l5Shl {α : Type} : Nat → List Int → Int → (List Int → Option α) → Option α := Classical.choose spec_l5Shl.ex α
theorem spec_l5Shl.eq : @spec_l5Shl = @spec_l5Shl.b := funext fun α => congrFun (Classical.choose_spec spec_l5Shl.ex) α

/-- spec.l5Pow2 -/
noncomputable def spec_l5Pow2.b {α : Type} (N : Nat) (a207 : Int) (k0 : List Int → Option α) : Option α :=
 let x208 := (Int.tmod a207 (16 : Int))
 let x209 := IntKind.u64.wrap x208
 bif (decide (x209 < (0 : Int))) then
  none
 else
  let x210 := (shlI .i64 (1 : Int) x209)
  let x211 := [x210]
  let x212 := (IntKind.i64.wrap (Int.tdiv a207 (16 : Int)))
  spec_l5Shl N x211 x212
   (fun x228 =>
    k0 x228)
theorem spec_l5Pow2.ex : ∃ f : ((α : Type) → Nat → Int → (List Int → Option α) → Option α), f = fun α => @spec_l5Pow2.b α := ⟨_, rfl⟩
noncomputable def spec_l5Pow2 {α : Type} : Nat → Int → (List Int → Option α) → Option α := Classical.choose spec_l5Pow2.ex α
theorem spec_l5Pow2.eq : @spec_l5Pow2 = @spec_l5Pow2.b := funext fun α => congrFun (Classical.choose_spec spec_l5Pow2.ex) α

noncomputable def spec_l5Trim_L0r {α : Type} (N : Nat) (next : List Int → Int → Option α) (k0 : List Int → Int → Option α) (v276 : List Int) (v277 : Int) : Option α :=
 let x278 := (decide ((0 : Int) < v277))
 bif x278 then
  let x279 := (IntKind.i64.wrap (v277 - (1 : Int)))
  bif (decide (x279 < (0 : Int))) then
   none
  else
   match v276[x279.toNat]? with
   | some x280 =>
    let x281 := (decide (x280 = (0 : Int)))
    bif x281 then
     let x282 := (IntKind.i64.wrap (v277 - (1 : Int)))
     next v276 x282
    else
     k0 v276 v277
   | none => none
 else
  k0 v276 v277
noncomputable def spec_l5Trim_L0.b {α : Type} (N n : Nat) (v276 : List Int) (v277 : Int) (k0 : List Int → Int → Option α) : Option α :=
  Nat.rec (motive := fun _ => List Int → Int → Option α) (fun _ _ => none) (fun _ next => spec_l5Trim_L0r N next k0) n v276 v277
theorem spec_l5Trim_L0.ex : ∃ f : ((α : Type) → Nat → Nat → List Int → Int → (List Int → Int → Option α) → Option α), f = fun α => @spec_l5Trim_L0.b α := ⟨_, rfl⟩
noncomputable def spec_l5Trim_L0 {α : Type} : Nat → Nat → List Int → Int → (List Int → Int → Option α) → Option α := Classical.choose spec_l5Trim_L0.ex α
theorem spec_l5Trim_L0.eq : @spec_l5Trim_L0 = @spec_l5Trim_L0.b := funext fun α => congrFun (Classical.choose_spec spec_l5Trim_L0.ex) α
theorem spec_l5Trim_L0.zero {α : Type} (N : Nat) (v276 : List Int) (v277 : Int) (k0 : List Int → Int → Option α) : spec_l5Trim_L0 N 0 v276 v277 k0 = none := by rw [spec_l5Trim_L0.eq]; rfl
theorem spec_l5Trim_L0.succ {α : Type} (N n : Nat) (v276 : List Int) (v277 : Int) (k0 : List Int → Int → Option α) : spec_l5Trim_L0 N (n + 1) v276 v277 k0 = spec_l5Trim_L0r N (fun y0 y1 => spec_l5Trim_L0 N n y0 y1 k0) k0 v276 v277 := by rw [spec_l5Trim_L0.eq]; rfl
noncomputable def spec_l5Trim_L2r {α : Type} (N : Nat) (next : List Int → Int → Int → List Int → Option α) (k0 : List Int → Option α) (v285 : List Int) (v286 : Int) (v287 : Int) (v288 : List Int) : Option α :=
 let x289 := decide (v287 < v286)
 bif x289 then
  bif (decide (v287 < (0 : Int))) then
   none
  else
   match v285[v287.toNat]? with
   | some x290 =>
    let x291 := [x290]
    bif decide (v288.length + x291.length ≤ 8796093022208) then
     let x292 := v288 ++ x291
     let x293 := (IntKind.i64.wrap (v287 + (1 : Int)))
     next v285 v286 x293 x292
    else
     none
   | none => none
 else
  k0 v288
noncomputable def spec_l5Trim_L2.b {α : Type} (N n : Nat) (v285 : List Int) (v286 : Int) (v287 : Int) (v288 : List Int) (k0 : List Int → Option α) : Option α :=
  Nat.rec (motive := fun _ => List Int → Int → Int → List Int → Option α) (fun _ _ _ _ => none) (fun _ next => spec_l5Trim_L2r N next k0) n v285 v286 v287 v288
theorem spec_l5Trim_L2.ex : ∃ f : ((α : Type) → Nat → Nat → List Int → Int → Int → List Int → (List Int → Option α) → Option α), f = fun α => @spec_l5Trim_L2.b α := ⟨_, rfl⟩
noncomputable def spec_l5Trim_L2 {α : Type} : Nat → Nat → List Int → Int → Int → List Int → (List Int → Option α) → Option α := Classical.choose spec_l5Trim_L2.ex α
theorem spec_l5Trim_L2.eq : @spec_l5Trim_L2 = @spec_l5Trim_L2.b := funext fun α => congrFun (Classical.choose_spec spec_l5Trim_L2.ex) α
theorem spec_l5Trim_L2.zero {α : Type} (N : Nat) (v285 : List Int) (v286 : Int) (v287 : Int) (v288 : List Int) (k0 : List Int → Option α) : spec_l5Trim_L2 N 0 v285 v286 v287 v288 k0 = none := by rw [spec_l5Trim_L2.eq]; rfl
theorem spec_l5Trim_L2.succ {α : Type} (N n : Nat) (v285 : List Int) (v286 : Int) (v287 : Int) (v288 : List Int) (k0 : List Int → Option α) : spec_l5Trim_L2 N (n + 1) v285 v286 v287 v288 k0 = spec_l5Trim_L2r N (fun y0 y1 y2 y3 => spec_l5Trim_L2 N n y0 y1 y2 y3 k0) k0 v285 v286 v287 v288 := by rw [spec_l5Trim_L2.eq]; rfl
/-- spec.l5Trim -/
noncomputable def spec_l5Trim.b {α : Type} (N : Nat) (a274 : List Int) (k0 : List Int → Option α) : Option α :=
 let x275 := ((a274.length : Nat) : Int)
 spec_l5Trim_L0 N N a274 x275
  (fun x283 x284 =>
   spec_l5Trim_L2 N N x283 x284 (0 : Int) []
    (fun x294 =>
     k0 x294))
theorem spec_l5Trim.ex : ∃ f : ((α : Type) → Nat → List Int → (List Int → Option α) → Option α), f = fun α => @spec_l5Trim.b α := ⟨_, rfl⟩
noncomputable def spec_l5Trim {α : Type} : Nat → List Int → (List Int → Option α) → Option α := Classical.choose spec_l5Trim.ex α
theorem spec_l5Trim.eq : @spec_l5Trim = @spec_l5Trim.b := funext fun α => congrFun (Classical.choose_spec spec_l5Trim.ex) α

noncomputable def spec_l5Mul_L2r {α : Type} (N : Nat) (next : List Int → List Int → Int → Int → Int → List Int → Option α) (k0 : List Int → List Int → Int → Int → List Int → Option α) (v242 : List Int) (v243 : List Int) (v244 : Int) (v245 : Int) (v246 : Int) (v247 : List Int) : Option α :=
 let x248 := ((v243.length : Nat) : Int)
 let x249 := decide (v246 < x248)
 bif x249 then
  let x250 := IntKind.i64.wrap (v244 + v246)
  bif (decide (x250 < (0 : Int))) then
   none
  else
   bif decide (x250.toNat < v247.length) then
    match v247[x250.toNat]? with
    | some x251 =>
     bif (decide (v244 < (0 : Int))) then
      none
     else
      match v242[v244.toNat]? with
      | some x252 =>
       bif (decide (v246 < (0 : Int))) then
        none
       else
        match v243[v246.toNat]? with
        | some x253 =>
         let x254 := IntKind.i64.wrap (x252 * x253)
         let x255 := IntKind.i64.wrap (x251 + x254)
         let x256 := IntKind.i64.wrap (x255 + v245)
         let x257 := IntKind.i64.wrap (v244 + v246)
         let x258 := (Int.tmod x256 (65536 : Int))
         bif (decide (x257 < (0 : Int))) then
          none
         else
          bif decide (x257.toNat < v247.length) then
           match v247[x257.toNat]? with
           | some x259 =>
            let x260 := v247.set x257.toNat x258
            let x261 := (IntKind.i64.wrap (Int.tdiv x256 (65536 : Int)))
            let x262 := (IntKind.i64.wrap (v246 + (1 : Int)))
            next v242 v243 v244 x261 x262 x260
           | none => none
          else
           none
        | none => none
      | none => none
    | none => none
   else
    none
 else
  k0 v242 v243 v244 v245 v247
noncomputable def spec_l5Mul_L2.b {α : Type} (N n : Nat) (v242 : List Int) (v243 : List Int) (v244 : Int) (v245 : Int) (v246 : Int) (v247 : List Int) (k0 : List Int → List Int → Int → Int → List Int → Option α) : Option α :=
  Nat.rec (motive := fun _ => List Int → List Int → Int → Int → Int → List Int → Option α) (fun _ _ _ _ _ _ => none) (fun _ next => spec_l5Mul_L2r N next k0) n v242 v243 v244 v245 v246 v247
theorem spec_l5Mul_L2.ex : ∃ f : ((α : Type) → Nat → Nat → List Int → List Int → Int → Int → Int → List Int → (List Int → List Int → Int → Int → List Int → Option α) → Option α), f = fun α => @spec_l5Mul_L2.b α := ⟨_, rfl⟩
noncomputable def spec_l5Mul_L2 {α : Type} : Nat → Nat → List Int → List Int → Int → Int → Int → List Int → (List Int → List Int → Int → Int → List Int → Option α) → Option α := Classical.choose spec_l5Mul_L2.ex α
theorem spec_l5Mul_L2.eq : @spec_l5Mul_L2 = @spec_l5Mul_L2.b := funext fun α => congrFun (Classical.choose_spec spec_l5Mul_L2.ex) α
theorem spec_l5Mul_L2.zero {α : Type} (N : Nat) (v242 : List Int) (v243 : List Int) (v244 : Int) (v245 : Int) (v246 : Int) (v247 : List Int) (k0 : List Int → List Int → Int → Int → List Int → Option α) : spec_l5Mul_L2 N 0 v242 v243 v244 v245 v246 v247 k0 = none := by rw [spec_l5Mul_L2.eq]; rfl
theorem spec_l5Mul_L2.succ {α : Type} (N n : Nat) (v242 : List Int) (v243 : List Int) (v244 : Int) (v245 : Int) (v246 : Int) (v247 : List Int) (k0 : List Int → List Int → Int → Int → List Int → Option α) : spec_l5Mul_L2 N (n + 1) v242 v243 v244 v245 v246 v247 k0 = spec_l5Mul_L2r N (fun y0 y1 y2 y3 y4 y5 => spec_l5Mul_L2 N n y0 y1 y2 y3 y4 y5 k0) k0 v242 v243 v244 v245 v246 v247 := by rw [spec_l5Mul_L2.eq]; rfl
noncomputable def spec_l5Mul_L0r {α : Type} (N : Nat) (next : List Int → List Int → Int → List Int → Option α) (k0 : List Int → Option α) (v236 : List Int) (v237 : List Int) (v238 : Int) (v239 : List Int) : Option α :=
 let x240 := ((v236.length : Nat) : Int)
 let x241 := decide (v238 < x240)
 bif x241 then
  spec_l5Mul_L2 N N v236 v237 v238 (0 : Int) (0 : Int) v239
   (fun x263 x264 x265 x266 x267 =>
    let x268 := ((x264.length : Nat) : Int)
    let x269 := IntKind.i64.wrap (x265 + x268)
    bif (decide (x269 < (0 : Int))) then
     none
    else
     bif decide (x269.toNat < x267.length) then
      match x267[x269.toNat]? with
      | some x270 =>
       let x271 := x267.set x269.toNat x266
       let x272 := (IntKind.i64.wrap (x265 + (1 : Int)))
       next x263 x264 x272 x271
      | none => none
     else
      none)
 else
  k0 v239
noncomputable def spec_l5Mul_L0.b {α : Type} (N n : Nat) (v236 : List Int) (v237 : List Int) (v238 : Int) (v239 : List Int) (k0 : List Int → Option α) : Option α :=
  Nat.rec (motive := fun _ => List Int → List Int → Int → List Int → Option α) (fun _ _ _ _ => none) (fun _ next => spec_l5Mul_L0r N next k0) n v236 v237 v238 v239
theorem spec_l5Mul_L0.ex : ∃ f : ((α : Type) → Nat → Nat → List Int → List Int → Int → List Int → (List Int → Option α) → Option α), f = fun α => @spec_l5Mul_L0.b α := ⟨_, rfl⟩
noncomputable def spec_l5Mul_L0 {α : Type} : Nat → Nat → List Int → List Int → Int → List Int → (List Int → Option α) → Option α := Classical.choose spec_l5Mul_L0.ex α
theorem spec_l5Mul_L0.eq : @spec_l5Mul_L0 = @spec_l5Mul_L0.b := funext fun α => congrFun (Classical.choose_spec spec_l5Mul_L0.ex) α
theorem spec_l5Mul_L0.zero {α : Type} (N : Nat) (v236 : List Int) (v237 : List Int) (v238 : Int) (v239 : List Int) (k0 : List Int → Option α) : spec_l5Mul_L0 N 0 v236 v237 v238 v239 k0 = none := by rw [spec_l5Mul_L0.eq]; rfl
theorem spec_l5Mul_L0.succ {α : Type} (N n : Nat) (v236 : List Int) (v237 : List Int) (v238 : Int) (v239 : List Int) (k0 : List Int → Option α) : spec_l5Mul_L0 N (n + 1) v236 v237 v238 v239 k0 = spec_l5Mul_L0r N (fun y0 y1 y2 y3 => spec_l5Mul_L0 N n y0 y1 y2 y3 k0) k0 v236 v237 v238 v239 := by rw [spec_l5Mul_L0.eq]; rfl
/-- spec.l5Mul -/
noncomputable def spec_l5Mul.b {α : Type} (N : Nat) (a230 : List Int) (a231 : List Int) (k0 : List Int → Option α) : Option α :=
 let x232 := ((a230.length : Nat) : Int)
 let x233 := ((a231.length : Nat) : Int)
 let x234 := IntKind.i64.wrap (x232 + x233)
 bif (decide ((0 : Int) ≤ x234)) then
  bif decide (x234 ≤ x234) then
   bif (decide (x234 ≤ ((8796093022208 : Nat) : Int))) then
    let x235 := (List.replicate x234.toNat (0 : Int))
    spec_l5Mul_L0 N N a230 a231 (0 : Int) x235
     (fun x273 =>
      spec_l5Trim N x273
       (fun x295 =>
        k0 x295))
   else
    none
  else
   none
 else
  none
theorem spec_l5Mul.ex : ∃ f : ((α : Type) → Nat → List Int → List Int → (List Int → Option α) → Option α), f = fun α => @spec_l5Mul.b α := ⟨_, rfl⟩
noncomputable def spec_l5Mul {α : Type} : Nat → List Int → List Int → (List Int → Option α) → Option α := Classical.choose spec_l5Mul.ex α
theorem spec_l5Mul.eq : @spec_l5Mul = @spec_l5Mul.b := funext fun α => congrFun (Classical.choose_spec spec_l5Mul.ex) α

noncomputable def spec_l5Cmp_L0r {α : Type} (N : Nat) (next : List Int → List Int → Int → Option α) (k0 : Int → Option α) (k1 : Option α) (v314 : List Int) (v315 : List Int) (v316 : Int) : Option α :=
 let x317 := (decide ((0 : Int) ≤ v316))
 bif x317 then
  bif (decide (v316 < (0 : Int))) then
   none
  else
   match v314[v316.toNat]? with
   | some x318 =>
    bif (decide (v316 < (0 : Int))) then
     none
    else
     match v315[v316.toNat]? with
     | some x319 =>
      let x320 := decide (x318 < x319)
      bif x320 then
       k0 (-1 : Int)
      else
       bif (decide (v316 < (0 : Int))) then
        none
       else
        match v314[v316.toNat]? with
        | some x321 =>
         bif (decide (v316 < (0 : Int))) then
          none
         else
          match v315[v316.toNat]? with
          | some x322 =>
           let x323 := decide (x322 < x321)
           bif x323 then
            k0 (1 : Int)
           else
            let x324 := (IntKind.i64.wrap (v316 - (1 : Int)))
            next v314 v315 x324
          | none => none
        | none => none
     | none => none
   | none => none
 else
  k1
noncomputable def spec_l5Cmp_L0.b {α : Type} (N n : Nat) (v314 : List Int) (v315 : List Int) (v316 : Int) (k0 : Int → Option α) (k1 : Option α) : Option α :=
  Nat.rec (motive := fun _ => List Int → List Int → Int → Option α) (fun _ _ _ => none) (fun _ next => spec_l5Cmp_L0r N next k0 k1) n v314 v315 v316
theorem spec_l5Cmp_L0.ex : ∃ f : ((α : Type) → Nat → Nat → List Int → List Int → Int → (Int → Option α) → (Option α) → Option α), f = fun α => @spec_l5Cmp_L0.b α := ⟨_, rfl⟩
noncomputable def spec_l5Cmp_L0 {α : Type} : Nat → Nat → List Int → List Int → Int → (Int → Option α) → (Option α) → Option α := Classical.choose spec_l5Cmp_L0.ex α
theorem spec_l5Cmp_L0.eq : @spec_l5Cmp_L0 = @spec_l5Cmp_L0.b := funext fun α => congrFun (Classical.choose_spec spec_l5Cmp_L0.ex) α
theorem spec_l5Cmp_L0.zero {α : Type} (N : Nat) (v314 : List Int) (v315 : List Int) (v316 : Int) (k0 : Int → Option α) (k1 : Option α) : spec_l5Cmp_L0 N 0 v314 v315 v316 k0 k1 = none := by rw [spec_l5Cmp_L0.eq]; rfl
theorem spec_l5Cmp_L0.succ {α : Type} (N n : Nat) (v314 : List Int) (v315 : List Int) (v316 : Int) (k0 : Int → Option α) (k1 : Option α) : spec_l5Cmp_L0 N (n + 1) v314 v315 v316 k0 k1 = spec_l5Cmp_L0r N (fun y0 y1 y2 => spec_l5Cmp_L0 N n y0 y1 y2 k0 k1) k0 k1 v314 v315 v316 := by rw [spec_l5Cmp_L0.eq]; rfl
/-- spec.l5Cmp -/
noncomputable def spec_l5Cmp.b {α : Type} (N : Nat) (a304 : List Int) (a305 : List Int) (k0 : Int → Option α) : Option α :=
 let x306 := ((a304.length : Nat) : Int)
 let x307 := ((a305.length : Nat) : Int)
 let x308 := decide (x306 < x307)
 bif x308 then
  k0 (-1 : Int)
 else
  let x309 := ((a304.length : Nat) : Int)
  let x310 := ((a305.length : Nat) : Int)
  let x311 := decide (x310 < x309)
  bif x311 then
   k0 (1 : Int)
  else
   let x312 := ((a304.length : Nat) : Int)
   let x313 := (IntKind.i64.wrap (x312 - (1 : Int)))
   spec_l5Cmp_L0 N N a304 a305 x313
    (fun x325 =>
     k0 x325)
    (
     k0 (0 : Int))
theorem spec_l5Cmp.ex : ∃ f : ((α : Type) → Nat → List Int → List Int → (Int → Option α) → Option α), f = fun α => @spec_l5Cmp.b α := ⟨_, rfl⟩
noncomputable def spec_l5Cmp {α : Type} : Nat → List Int → List Int → (Int → Option α) → Option α := Classical.choose spec_l5Cmp.ex α
theorem spec_l5Cmp.eq : @spec_l5Cmp = @spec_l5Cmp.b := funext fun α => congrFun (Classical.choose_spec spec_l5Cmp.ex) α

noncomputable def spec_l5DivSmall_L0r {α : Type} (N : Nat) (next : List Int → Int → Int → Int → List Int → Option α) (k0 : Int → List Int → Option α) (v338 : List Int) (v339 : Int) (v340 : Int) (v341 : Int) (v342 : List Int) : Option α :=
 let x343 := (decide ((0 : Int) ≤ v341))
 bif x343 then
  let x344 := (IntKind.i64.wrap (v340 * (65536 : Int)))
  bif (decide (v341 < (0 : Int))) then
   none
  else
   match v338[v341.toNat]? with
   | some x345 =>
    let x346 := IntKind.i64.wrap (x344 + x345)
    bif (decide (v339 = (0 : Int))) then
     none
    else
     let x347 := IntKind.i64.wrap (Int.tdiv x346 v339)
     bif (decide (v341 < (0 : Int))) then
      none
     else
      bif decide (v341.toNat < v342.length) then
       match v342[v341.toNat]? with
       | some x348 =>
        let x349 := v342.set v341.toNat x347
        bif (decide (v339 = (0 : Int))) then
         none
        else
         let x350 := Int.tmod x346 v339
         let x351 := (IntKind.i64.wrap (v341 - (1 : Int)))
         next v338 v339 x350 x351 x349
       | none => none
      else
       none
   | none => none
 else
  k0 v340 v342
noncomputable def spec_l5DivSmall_L0.b {α : Type} (N n : Nat) (v338 : List Int) (v339 : Int) (v340 : Int) (v341 : Int) (v342 : List Int) (k0 : Int → List Int → Option α) : Option α :=
  Nat.rec (motive := fun _ => List Int → Int → Int → Int → List Int → Option α) (fun _ _ _ _ _ => none) (fun _ next => spec_l5DivSmall_L0r N next k0) n v338 v339 v340 v341 v342
theorem spec_l5DivSmall_L0.ex : ∃ f : ((α : Type) → Nat → Nat → List Int → Int → Int → Int → List Int → (Int → List Int → Option α) → Option α), f = fun α => @spec_l5DivSmall_L0.b α := ⟨_, rfl⟩
noncomputable def spec_l5DivSmall_L0 {α : Type} : Nat → Nat → List Int → Int → Int → Int → List Int → (Int → List Int → Option α) → Option α := Classical.choose spec_l5DivSmall_L0.ex α
theorem spec_l5DivSmall_L0.eq : @spec_l5DivSmall_L0 = @spec_l5DivSmall_L0.b := funext fun α => congrFun (Classical.choose_spec spec_l5DivSmall_L0.ex) α
theorem spec_l5DivSmall_L0.zero {α : Type} (N : Nat) (v338 : List Int) (v339 : Int) (v340 : Int) (v341 : Int) (v342 : List Int) (k0 : Int → List Int → Option α) : spec_l5DivSmall_L0 N 0 v338 v339 v340 v341 v342 k0 = none := by rw [spec_l5DivSmall_L0.eq]; rfl
theorem spec_l5DivSmall_L0.succ {α : Type} (N n : Nat) (v338 : List Int) (v339 : Int) (v340 : Int) (v341 : Int) (v342 : List Int) (k0 : Int → List Int → Option α) : spec_l5DivSmall_L0 N (n + 1) v338 v339 v340 v341 v342 k0 = spec_l5DivSmall_L0r N (fun y0 y1 y2 y3 y4 => spec_l5DivSmall_L0 N n y0 y1 y2 y3 y4 k0) k0 v338 v339 v340 v341 v342 := by rw [spec_l5DivSmall_L0.eq]; rfl
/-- spec.l5DivSmall -/
noncomputable def spec_l5DivSmall.b {α : Type} (N : Nat) (a332 : List Int) (a333 : Int) (k0 : Int → List Int → Option α) : Option α :=
 let x334 := ((a332.length : Nat) : Int)
 bif (decide ((0 : Int) ≤ x334)) then
  bif decide (x334 ≤ x334) then
   bif (decide (x334 ≤ ((8796093022208 : Nat) : Int))) then
    let x335 := (List.replicate x334.toNat (0 : Int))
    let x336 := ((a332.length : Nat) : Int)
    let x337 := (IntKind.i64.wrap (x336 - (1 : Int)))
    spec_l5DivSmall_L0 N N a332 a333 (0 : Int) x337 x335
     (fun x352 x353 =>
      spec_l5Trim N x353
       (fun x354 =>
        k0 x352 x354))
   else
    none
  else
   none
 else
  none
theorem spec_l5DivSmall.ex : ∃ f : ((α : Type) → Nat → List Int → Int → (Int → List Int → Option α) → Option α), f = fun α => @spec_l5DivSmall.b α := ⟨_, rfl⟩
noncomputable def spec_l5DivSmall {α : Type} : Nat → List Int → Int → (Int → List Int → Option α) → Option α := Classical.choose spec_l5DivSmall.ex α
theorem spec_l5DivSmall.eq : @spec_l5DivSmall = @spec_l5DivSmall.b := funext fun α => congrFun (Classical.choose_spec spec_l5DivSmall.ex) α

noncomputable def spec_NatOf_L0r {α : Type} (N : Nat) (next : Int → List Int → Option α) (k0 : List Int → Option α) (v359 : Int) (v360 : List Int) : Option α :=
 let x361 := (decide ((0 : Int) < v359))
 bif x361 then
  let x362 := (Int.tmod v359 (65536 : Int))
  let x363 := IntKind.i64.wrap x362
  let x364 := [x363]
  bif decide (v360.length + x364.length ≤ 8796093022208) then
   let x365 := v360 ++ x364
   let x366 := (IntKind.u64.wrap (Int.tdiv v359 (65536 : Int)))
   next x366 x365
  else
   none
 else
  k0 v360
noncomputable def spec_NatOf_L0.b {α : Type} (N n : Nat) (v359 : Int) (v360 : List Int) (k0 : List Int → Option α) : Option α :=
  Nat.rec (motive := fun _ => Int → List Int → Option α) (fun _ _ => none) (fun _ next => spec_NatOf_L0r N next k0) n v359 v360
theorem spec_NatOf_L0.ex : ∃ f : ((α : Type) → Nat → Nat → Int → List Int → (List Int → Option α) → Option α), f = fun α => @spec_NatOf_L0.b α := ⟨_, rfl⟩
noncomputable def spec_NatOf_L0 {α : Type} : Nat → Nat → Int → List Int → (List Int → Option α) → Option α := Classical.choose spec_NatOf_L0.ex α
theorem spec_NatOf_L0.eq : @spec_NatOf_L0 = @spec_NatOf_L0.b := funext fun α => congrFun (Classical.choose_spec spec_NatOf_L0.ex) α
theorem spec_NatOf_L0.zero {α : Type} (N : Nat) (v359 : Int) (v360 : List Int) (k0 : List Int → Option α) : spec_NatOf_L0 N 0 v359 v360 k0 = none := by rw [spec_NatOf_L0.eq]; rfl
theorem spec_NatOf_L0.succ {α : Type} (N n : Nat) (v359 : Int) (v360 : List Int) (k0 : List Int → Option α) : spec_NatOf_L0 N (n + 1) v359 v360 k0 = spec_NatOf_L0r N (fun y0 y1 => spec_NatOf_L0 N n y0 y1 k0) k0 v359 v360 := by rw [spec_NatOf_L0.eq]; rfl
/-- spec.NatOf -/
noncomputable def spec_NatOf.b {α : Type} (N : Nat) (a358 : Int) (k0 : List Int → Option α) : Option α :=
 spec_NatOf_L0 N N a358 []
  (fun x367 =>
   k0 x367)
theorem spec_NatOf.ex : ∃ f : ((α : Type) → Nat → Int → (List Int → Option α) → Option α), f = fun α => @spec_NatOf.b α := ⟨_, rfl⟩
noncomputable def spec_NatOf {α : Type} : Nat → Int → (List Int → Option α) → Option α := Classical.choose spec_NatOf.ex α
theorem spec_NatOf.eq : @spec_NatOf = @spec_NatOf.b := funext fun α => congrFun (Classical.choose_spec spec_NatOf.ex) α

/-- spec.l5Times -/
noncomputable def spec_l5Times.b {α : Type} (N : Nat) (a374 : List Int) (a375 : Int) (k0 : List Int → Option α) : Option α :=
 let x376 := (decide (a375 = (0 : Int)))
 bif x376 then
  k0 []
 else
  let x377 := [a375]
  spec_l5Mul N a374 x377
   (fun x378 =>
    k0 x378)
theorem spec_l5Times.ex : ∃ f : ((α : Type) → Nat → List Int → Int → (List Int → Option α) → Option α), f = fun α => @spec_l5Times.b α := ⟨_, rfl⟩
noncomputable def spec_l5Times {α : Type} : Nat → List Int → Int → (List Int → Option α) → Option α := Classical.choose spec_l5Times.ex α
theorem spec_l5Times.eq : @spec_l5Times = @spec_l5Times.b := funext fun α => congrFun (Classical.choose_spec spec_l5Times.ex) α

noncomputable def spec_l5Top_L0r {α : Type} (N : Nat) (next : List Int → Int → List Int → Option α) (k0 : List Int → Option α) (v391 : List Int) (v392 : Int) (v393 : List Int) : Option α :=
 let x394 := ((v391.length : Nat) : Int)
 let x395 := decide (v392 < x394)
 bif x395 then
  bif (decide (v392 < (0 : Int))) then
   none
  else
   match v391[v392.toNat]? with
   | some x396 =>
    let x397 := [x396]
    bif decide (v393.length + x397.length ≤ 8796093022208) then
     let x398 := v393 ++ x397
     let x399 := (IntKind.i64.wrap (v392 + (1 : Int)))
     next v391 x399 x398
    else
     none
   | none => none
 else
  k0 v393
noncomputable def spec_l5Top_L0.b {α : Type} (N n : Nat) (v391 : List Int) (v392 : Int) (v393 : List Int) (k0 : List Int → Option α) : Option α :=
  Nat.rec (motive := fun _ => List Int → Int → List Int → Option α) (fun _ _ _ => none) (fun _ next => spec_l5Top_L0r N next k0) n v391 v392 v393
theorem spec_l5Top_L0.ex : ∃ f : ((α : Type) → Nat → Nat → List Int → Int → List Int → (List Int → Option α) → Option α), f = fun α => @spec_l5Top_L0.b α := ⟨_, rfl⟩
noncomputable def spec_l5Top_L0 {α : Type} : Nat → Nat → List Int → Int → List Int → (List Int → Option α) → Option α := Classical.choose spec_l5Top_L0.ex α
theorem spec_l5Top_L0.eq : @spec_l5Top_L0 = @spec_l5Top_L0.b := funext fun α => congrFun (Classical.choose_spec spec_l5Top_L0.ex) α
theorem spec_l5Top_L0.zero {α : Type} (N : Nat) (v391 : List Int) (v392 : Int) (v393 : List Int) (k0 : List Int → Option α) : spec_l5Top_L0 N 0 v391 v392 v393 k0 = none := by rw [spec_l5Top_L0.eq]; rfl
theorem spec_l5Top_L0.succ {α : Type} (N n : Nat) (v391 : List Int) (v392 : Int) (v393 : List Int) (k0 : List Int → Option α) : spec_l5Top_L0 N (n + 1) v391 v392 v393 k0 = spec_l5Top_L0r N (fun y0 y1 y2 => spec_l5Top_L0 N n y0 y1 y2 k0) k0 v391 v392 v393 := by rw [spec_l5Top_L0.eq]; rfl
/-- spec.l5Top -/
noncomputable def spec_l5Top.b {α : Type} (N : Nat) (a389 : List Int) (a390 : Int) (k0 : List Int → Option α) : Option α :=
 spec_l5Top_L0 N N a389 a390 []
  (fun x400 =>
   k0 x400)
theorem spec_l5Top.ex : ∃ f : ((α : Type) → Nat → List Int → Int → (List Int → Option α) → Option α), f = fun α => @spec_l5Top.b α := ⟨_, rfl⟩
noncomputable def spec_l5Top {α : Type} : Nat → List Int → Int → (List Int → Option α) → Option α := Classical.choose spec_l5Top.ex α
theorem spec_l5Top.eq : @spec_l5Top = @spec_l5Top.b := funext fun α => congrFun (Classical.choose_spec spec_l5Top.ex) α

/-- spec.l5At -/
noncomputable def spec_l5At.b {α : Type} (N : Nat) (a435 : List Int) (a436 : Int) (k0 : Int → Option α) : Option α :=
 let x437 := ((a435.length : Nat) : Int)
 let x438 := decide (a436 < x437)
 bif x438 then
  bif (decide (a436 < (0 : Int))) then
   none
  else
   match a435[a436.toNat]? with
   | some x439 =>
    k0 x439
   | none => none
 else
  k0 (0 : Int)
theorem spec_l5At.ex : ∃ f : ((α : Type) → Nat → List Int → Int → (Int → Option α) → Option α), f = fun α => @spec_l5At.b α := ⟨_, rfl⟩
noncomputable def spec_l5At {α : Type} : Nat → List Int → Int → (Int → Option α) → Option α := Classical.choose spec_l5At.ex α
theorem spec_l5At.eq : @spec_l5At = @spec_l5At.b := funext fun α => congrFun (Classical.choose_spec spec_l5At.ex) α

noncomputable def spec_l5Add_J2.b {α : Type} (N : Nat) (v419 : List Int) (v420 : List Int) (v421 : Int) (k0 : List Int → List Int → Int → Option α) : Option α :=
 let x422 := ((v420.length : Nat) : Int)
 let x423 := decide (v421 < x422)
 bif x423 then
  let x424 := ((v420.length : Nat) : Int)
  k0 v419 v420 x424
 else
  k0 v419 v420 v421
theorem spec_l5Add_J2.ex : ∃ f : ((α : Type) → Nat → List Int → List Int → Int → (List Int → List Int → Int → Option α) → Option α), f = fun α => @spec_l5Add_J2.b α := ⟨_, rfl⟩
noncomputable def spec_l5Add_J2 {α : Type} : Nat → List Int → List Int → Int → (List Int → List Int → Int → Option α) → Option α := Classical.choose spec_l5Add_J2.ex α
theorem spec_l5Add_J2.eq : @spec_l5Add_J2 = @spec_l5Add_J2.b := funext fun α => congrFun (Classical.choose_spec spec_l5Add_J2.ex) α
noncomputable def spec_l5Add_L0r {α : Type} (N : Nat) (next : List Int → List Int → Int → Int → Int → List Int → Option α) (k0 : Int → List Int → Option α) (v428 : List Int) (v429 : List Int) (v430 : Int) (v431 : Int) (v432 : Int) (v433 : List Int) : Option α :=
 let x434 := decide (v432 < v430)
 bif x434 then
  spec_l5At N v428 v432
   (fun x440 =>
    spec_l5At N v429 v432
     (fun x441 =>
      let x442 := IntKind.i64.wrap (x440 + x441)
      let x443 := IntKind.i64.wrap (x442 + v431)
      let x444 := (Int.tmod x443 (65536 : Int))
      let x445 := [x444]
      bif decide (v433.length + x445.length ≤ 8796093022208) then
       let x446 := v433 ++ x445
       let x447 := (IntKind.i64.wrap (Int.tdiv x443 (65536 : Int)))
       let x448 := (IntKind.i64.wrap (v432 + (1 : Int)))
       next v428 v429 v430 x447 x448 x446
      else
       none))
 else
  k0 v431 v433
noncomputable def spec_l5Add_L0.b {α : Type} (N n : Nat) (v428 : List Int) (v429 : List Int) (v430 : Int) (v431 : Int) (v432 : Int) (v433 : List Int) (k0 : Int → List Int → Option α) : Option α :=
  Nat.rec (motive := fun _ => List Int → List Int → Int → Int → Int → List Int → Option α) (fun _ _ _ _ _ _ => none) (fun _ next => spec_l5Add_L0r N next k0) n v428 v429 v430 v431 v432 v433
theorem spec_l5Add_L0.ex : ∃ f : ((α : Type) → Nat → Nat → List Int → List Int → Int → Int → Int → List Int → (Int → List Int → Option α) → Option α), f = fun α => @spec_l5Add_L0.b α := ⟨_, rfl⟩
noncomputable def spec_l5Add_L0 {α : Type} : Nat → Nat → List Int → List Int → Int → Int → Int → List Int → (Int → List Int → Option α) → Option α := Classical.choose spec_l5Add_L0.ex α
theorem spec_l5Add_L0.eq : @spec_l5Add_L0 = @spec_l5Add_L0.b := funext fun α => congrFun (Classical.choose_spec spec_l5Add_L0.ex) α
theorem spec_l5Add_L0.zero {α : Type} (N : Nat) (v428 : List Int) (v429 : List Int) (v430 : Int) (v431 : Int) (v432 : Int) (v433 : List Int) (k0 : Int → List Int → Option α) : spec_l5Add_L0 N 0 v428 v429 v430 v431 v432 v433 k0 = none := by rw [spec_l5Add_L0.eq]; rfl
theorem spec_l5Add_L0.succ {α : Type} (N n : Nat) (v428 : List Int) (v429 : List Int) (v430 : Int) (v431 : Int) (v432 : Int) (v433 : List Int) (k0 : Int → List Int → Option α) : spec_l5Add_L0 N (n + 1) v428 v429 v430 v431 v432 v433 k0 = spec_l5Add_L0r N (fun y0 y1 y2 y3 y4 y5 => spec_l5Add_L0 N n y0 y1 y2 y3 y4 y5 k0) k0 v428 v429 v430 v431 v432 v433 := by rw [spec_l5Add_L0.eq]; rfl
noncomputable def spec_l5Add_J12.b {α : Type} (N : Nat) (v451 : Int) (v452 : List Int) (k0 : List Int → Option α) : Option α :=
 let x453 := (decide ((0 : Int) < v451))
 bif x453 then
  let x454 := [v451]
  bif decide (v452.length + x454.length ≤ 8796093022208) then
   let x455 := v452 ++ x454
   k0 x455
  else
   none
 else
  k0 v452
theorem spec_l5Add_J12.ex : ∃ f : ((α : Type) → Nat → Int → List Int → (List Int → Option α) → Option α), f = fun α => @spec_l5Add_J12.b α := ⟨_, rfl⟩
noncomputable def spec_l5Add_J12 {α : Type} : Nat → Int → List Int → (List Int → Option α) → Option α := Classical.choose spec_l5Add_J12.ex α
theorem spec_l5Add_J12.eq : @spec_l5Add_J12 = @spec_l5Add_J12.b := funext fun α => congrFun (Classical.choose_spec spec_l5Add_J12.ex) α
/-- spec.l5Add -/
noncomputable def spec_l5Add.b {α : Type} (N : Nat) (a416 : List Int) (a417 : List Int) (k0 : List Int → Option α) : Option α :=
 let x418 := ((a416.length : Nat) : Int)
 spec_l5Add_J2 N a416 a417 x418
  (fun x425 x426 x427 =>
   spec_l5Add_L0 N N x425 x426 x427 (0 : Int) (0 : Int) []
    (fun x449 x450 =>
     spec_l5Add_J12 N x449 x450
      (fun x456 =>
       k0 x456)))
theorem spec_l5Add.ex : ∃ f : ((α : Type) → Nat → List Int → List Int → (List Int → Option α) → Option α), f = fun α => @spec_l5Add.b α := ⟨_, rfl⟩
noncomputable def spec_l5Add {α : Type} : Nat → List Int → List Int → (List Int → Option α) → Option α := Classical.choose spec_l5Add.ex α
theorem spec_l5Add.eq : @spec_l5Add = @spec_l5Add.b := funext fun α => congrFun (Classical.choose_spec spec_l5Add.ex) α

noncomputable def spec_l5Sub_J8.b {α : Type} (N : Nat) (v509 : List Int) (v510 : List Int) (v511 : Int) (v512 : Int) (v513 : Int) (v514 : List Int) (k0 : List Int → List Int → Int → Int → Int → List Int → Option α) : Option α :=
 let x515 := (decide (v513 < (0 : Int)))
 bif x515 then
  let x516 := (IntKind.i64.wrap (v513 + (65536 : Int)))
  k0 v509 v510 (1 : Int) v512 x516 v514
 else
  k0 v509 v510 v511 v512 v513 v514
theorem spec_l5Sub_J8.ex : ∃ f : ((α : Type) → Nat → List Int → List Int → Int → Int → Int → List Int → (List Int → List Int → Int → Int → Int → List Int → Option α) → Option α), f = fun α => @spec_l5Sub_J8.b α := ⟨_, rfl⟩
noncomputable def spec_l5Sub_J8 {α : Type} : Nat → List Int → List Int → Int → Int → Int → List Int → (List Int → List Int → Int → Int → Int → List Int → Option α) → Option α := Classical.choose spec_l5Sub_J8.ex α
theorem spec_l5Sub_J8.eq : @spec_l5Sub_J8 = @spec_l5Sub_J8.b := funext fun α => congrFun (Classical.choose_spec spec_l5Sub_J8.ex) α
noncomputable def spec_l5Sub_L0r {α : Type} (N : Nat) (next : List Int → List Int → Int → Int → List Int → Option α) (k0 : List Int → Option α) (v498 : List Int) (v499 : List Int) (v500 : Int) (v501 : Int) (v502 : List Int) : Option α :=
 let x503 := ((v498.length : Nat) : Int)
 let x504 := decide (v501 < x503)
 bif x504 then
  bif (decide (v501 < (0 : Int))) then
   none
  else
   match v498[v501.toNat]? with
   | some x505 =>
    spec_l5At N v499 v501
     (fun x506 =>
      let x507 := IntKind.i64.wrap (x505 - x506)
      let x508 := IntKind.i64.wrap (x507 - v500)
      spec_l5Sub_J8 N v498 v499 (0 : Int) v501 x508 v502
       (fun x517 x518 x519 x520 x521 x522 =>
        let x523 := [x521]
        bif decide (x522.length + x523.length ≤ 8796093022208) then
         let x524 := x522 ++ x523
         let x525 := (IntKind.i64.wrap (x520 + (1 : Int)))
         next x517 x518 x519 x525 x524
        else
         none))
   | none => none
 else
  k0 v502
noncomputable def spec_l5Sub_L0.b {α : Type} (N n : Nat) (v498 : List Int) (v499 : List Int) (v500 : Int) (v501 : Int) (v502 : List Int) (k0 : List Int → Option α) : Option α :=
  Nat.rec (motive := fun _ => List Int → List Int → Int → Int → List Int → Option α) (fun _ _ _ _ _ => none) (fun _ next => spec_l5Sub_L0r N next k0) n v498 v499 v500 v501 v502
theorem spec_l5Sub_L0.ex : ∃ f : ((α : Type) → Nat → Nat → List Int → List Int → Int → Int → List Int → (List Int → Option α) → Option α), f = fun α => @spec_l5Sub_L0.b α := ⟨_, rfl⟩
noncomputable def spec_l5Sub_L0 {α : Type} : Nat → Nat → List Int → List Int → Int → Int → List Int → (List Int → Option α) → Option α := Classical.choose spec_l5Sub_L0.ex α
theorem spec_l5Sub_L0.eq : @spec_l5Sub_L0 = @spec_l5Sub_L0.b := funext fun α => congrFun (Classical.choose_spec spec_l5Sub_L0.ex) α
theorem spec_l5Sub_L0.zero {α : Type} (N : Nat) (v498 : List Int) (v499 : List Int) (v500 : Int) (v501 : Int) (v502 : List Int) (k0 : List Int → Option α) : spec_l5Sub_L0 N 0 v498 v499 v500 v501 v502 k0 = none := by rw [spec_l5Sub_L0.eq]; rfl
theorem spec_l5Sub_L0.succ {α : Type} (N n : Nat) (v498 : List Int) (v499 : List Int) (v500 : Int) (v501 : Int) (v502 : List Int) (k0 : List Int → Option α) : spec_l5Sub_L0 N (n + 1) v498 v499 v500 v501 v502 k0 = spec_l5Sub_L0r N (fun y0 y1 y2 y3 y4 => spec_l5Sub_L0 N n y0 y1 y2 y3 y4 k0) k0 v498 v499 v500 v501 v502 := by rw [spec_l5Sub_L0.eq]; rfl
/-- spec.l5Sub -/
noncomputable def spec_l5Sub.b {α : Type} (N : Nat) (a496 : List Int) (a497 : List Int) (k0 : List Int → Option α) : Option α :=
 spec_l5Sub_L0 N N a496 a497 (0 : Int) (0 : Int) []
  (fun x526 =>
   spec_l5Trim N x526
    (fun x527 =>
     k0 x527))
theorem spec_l5Sub.ex : ∃ f : ((α : Type) → Nat → List Int → List Int → (List Int → Option α) → Option α), f = fun α => @spec_l5Sub.b α := ⟨_, rfl⟩
noncomputable def spec_l5Sub {α : Type} : Nat → List Int → List Int → (List Int → Option α) → Option α := Classical.choose spec_l5Sub.ex α
theorem spec_l5Sub.eq : @spec_l5Sub = @spec_l5Sub.b := funext fun α => congrFun (Classical.choose_spec spec_l5Sub.ex) α

noncomputable def spec_l5Div_J17.b {α : Type} (N : Nat) (v467 : Int) (v468 : Int) (v469 : Int) (v470 : Int) (v471 : List Int) (v472 : List Int) (v473 : List Int) (v474 : List Int) (k0 : Int → Int → Int → Int → List Int → List Int → List Int → List Int → Option α) : Option α :=
 let x475 := (decide ((65536 : Int) ≤ v470))
 bif x475 then
  k0 v467 v468 v469 (65535 : Int) v471 v472 v473 v474
 else
  k0 v467 v468 v469 v470 v471 v472 v473 v474
theorem spec_l5Div_J17.ex : ∃ f : ((α : Type) → Nat → Int → Int → Int → Int → List Int → List Int → List Int → List Int → (Int → Int → Int → Int → List Int → List Int → List Int → List Int → Option α) → Option α), f = fun α => @spec_l5Div_J17.b α := ⟨_, rfl⟩
noncomputable def spec_l5Div_J17 {α : Type} : Nat → Int → Int → Int → Int → List Int → List Int → List Int → List Int → (Int → Int → Int → Int → List Int → List Int → List Int → List Int → Option α) → Option α := Classical.choose spec_l5Div_J17.ex α
theorem spec_l5Div_J17.eq : @spec_l5Div_J17 = @spec_l5Div_J17.b := funext fun α => congrFun (Classical.choose_spec spec_l5Div_J17.ex) α
noncomputable def spec_l5Div_L2r {α : Type} (N : Nat) (next : Int → Int → Int → Int → List Int → List Int → List Int → List Int → List Int → Option α) (k0 : Int → Int → Int → Int → List Int → List Int → List Int → List Int → List Int → Option α) (v485 : Int) (v486 : Int) (v487 : Int) (v488 : Int) (v489 : List Int) (v490 : List Int) (v491 : List Int) (v492 : List Int) (v493 : List Int) : Option α :=
 spec_l5Cmp N v493 v492
  (fun x494 =>
   let x495 := (decide ((0 : Int) < x494))
   bif x495 then
    spec_l5Sub N v493 v490
     (fun x528 =>
      let x529 := (IntKind.i64.wrap (v488 - (1 : Int)))
      next v485 v486 v487 x529 v489 v490 v491 v492 x528)
   else
    k0 v485 v486 v487 v488 v489 v490 v491 v492 v493)
noncomputable def spec_l5Div_L2.b {α : Type} (N n : Nat) (v485 : Int) (v486 : Int) (v487 : Int) (v488 : Int) (v489 : List Int) (v490 : List Int) (v491 : List Int) (v492 : List Int) (v493 : List Int) (k0 : Int → Int → Int → Int → List Int → List Int → List Int → List Int → List Int → Option α) : Option α :=
  Nat.rec (motive := fun _ => Int → Int → Int → Int → List Int → List Int → List Int → List Int → List Int → Option α) (fun _ _ _ _ _ _ _ _ _ => none) (fun _ next => spec_l5Div_L2r N next k0) n v485 v486 v487 v488 v489 v490 v491 v492 v493
theorem spec_l5Div_L2.ex : ∃ f : ((α : Type) → Nat → Nat → Int → Int → Int → Int → List Int → List Int → List Int → List Int → List Int → (Int → Int → Int → Int → List Int → List Int → List Int → List Int → List Int → Option α) → Option α), f = fun α => @spec_l5Div_L2.b α := ⟨_, rfl⟩
noncomputable def spec_l5Div_L2 {α : Type} : Nat → Nat → Int → Int → Int → Int → List Int → List Int → List Int → List Int → List Int → (Int → Int → Int → Int → List Int → List Int → List Int → List Int → List Int → Option α) → Option α := Classical.choose spec_l5Div_L2.ex α
theorem spec_l5Div_L2.eq : @spec_l5Div_L2 = @spec_l5Div_L2.b := funext fun α => congrFun (Classical.choose_spec spec_l5Div_L2.ex) α
theorem spec_l5Div_L2.zero {α : Type} (N : Nat) (v485 : Int) (v486 : Int) (v487 : Int) (v488 : Int) (v489 : List Int) (v490 : List Int) (v491 : List Int) (v492 : List Int) (v493 : List Int) (k0 : Int → Int → Int → Int → List Int → List Int → List Int → List Int → List Int → Option α) : spec_l5Div_L2 N 0 v485 v486 v487 v488 v489 v490 v491 v492 v493 k0 = none := by rw [spec_l5Div_L2.eq]; rfl
theorem spec_l5Div_L2.succ {α : Type} (N n : Nat) (v485 : Int) (v486 : Int) (v487 : Int) (v488 : Int) (v489 : List Int) (v490 : List Int) (v491 : List Int) (v492 : List Int) (v493 : List Int) (k0 : Int → Int → Int → Int → List Int → List Int → List Int → List Int → List Int → Option α) : spec_l5Div_L2 N (n + 1) v485 v486 v487 v488 v489 v490 v491 v492 v493 k0 = spec_l5Div_L2r N (fun y0 y1 y2 y3 y4 y5 y6 y7 y8 => spec_l5Div_L2 N n y0 y1 y2 y3 y4 y5 y6 y7 y8 k0) k0 v485 v486 v487 v488 v489 v490 v491 v492 v493 := by rw [spec_l5Div_L2.eq]; rfl
noncomputable def spec_l5Div_L0r {α : Type} (N : Nat) (next : Int → Int → Int → List Int → List Int → List Int → List Int → Option α) (k0 : Int → List Int → List Int → Option α) (v404 : Int) (v405 : Int) (v406 : Int) (v407 : List Int) (v408 : List Int) (v409 : List Int) (v410 : List Int) : Option α :=
 let x411 := (decide ((0 : Int) ≤ v406))
 bif x411 then
  spec_l5Shl N v410 (1 : Int)
   (fun x412 =>
    bif (decide (v406 < (0 : Int))) then
     none
    else
     bif decide (v406.toNat < v407.length) then
      match v407[v406.toNat]? with
      | some x413 =>
       let x414 := IntKind.u64.wrap x413
       spec_NatOf N x414
        (fun x415 =>
         spec_l5Add N x412 x415
          (fun x457 =>
           spec_l5Trim N x457
            (fun x458 =>
             spec_l5At N x458 v405
              (fun x459 =>
               let x460 := (IntKind.i64.wrap (x459 * (65536 : Int)))
               let x461 := (IntKind.i64.wrap (v405 - (1 : Int)))
               spec_l5At N x458 x461
                (fun x462 =>
                 let x463 := IntKind.i64.wrap (x460 + x462)
                 let x464 := (IntKind.i64.wrap (v405 - (1 : Int)))
                 bif (decide (x464 < (0 : Int))) then
                  none
                 else
                  bif decide (x464.toNat < v408.length) then
                   match v408[x464.toNat]? with
                   | some x465 =>
                    bif (decide (x465 = (0 : Int))) then
                     none
                    else
                     let x466 := IntKind.i64.wrap (Int.tdiv x463 x465)
                     spec_l5Div_J17 N v404 v405 v406 x466 v407 v408 v409 x458
                      (fun x476 x477 x478 x479 x480 x481 x482 x483 =>
                       spec_l5Times N x481 x479
                        (fun x484 =>
                         spec_l5Div_L2 N N x476 x477 x478 x479 x480 x481 x482 x483 x484
                          (fun x530 x531 x532 x533 x534 x535 x536 x537 x538 =>
                           bif (decide (x532 < (0 : Int))) then
                            none
                           else
                            bif decide (x532.toNat < x536.length) then
                             match x536[x532.toNat]? with
                             | some x539 =>
                              let x540 := x536.set x532.toNat x533
                              spec_l5Sub N x537 x538
                               (fun x541 =>
                                let x542 := (IntKind.i64.wrap (x532 - (1 : Int)))
                                next x530 x531 x542 x534 x535 x540 x541)
                             | none => none
                            else
                             none)))
                   | none => none
                  else
                   none)))))
      | none => none
     else
      none)
 else
  k0 v404 v409 v410
noncomputable def spec_l5Div_L0.b {α : Type} (N n : Nat) (v404 : Int) (v405 : Int) (v406 : Int) (v407 : List Int) (v408 : List Int) (v409 : List Int) (v410 : List Int) (k0 : Int → List Int → List Int → Option α) : Option α :=
  Nat.rec (motive := fun _ => Int → Int → Int → List Int → List Int → List Int → List Int → Option α) (fun _ _ _ _ _ _ _ => none) (fun _ next => spec_l5Div_L0r N next k0) n v404 v405 v406 v407 v408 v409 v410
theorem spec_l5Div_L0.ex : ∃ f : ((α : Type) → Nat → Nat → Int → Int → Int → List Int → List Int → List Int → List Int → (Int → List Int → List Int → Option α) → Option α), f = fun α => @spec_l5Div_L0.b α := ⟨_, rfl⟩
noncomputable def spec_l5Div_L0 {α : Type} : Nat → Nat → Int → Int → Int → List Int → List Int → List Int → List Int → (Int → List Int → List Int → Option α) → Option α := Classical.choose spec_l5Div_L0.ex α
theorem spec_l5Div_L0.eq : @spec_l5Div_L0 = @spec_l5Div_L0.b := funext fun α => congrFun (Classical.choose_spec spec_l5Div_L0.ex) α
theorem spec_l5Div_L0.zero {α : Type} (N : Nat) (v404 : Int) (v405 : Int) (v406 : Int) (v407 : List Int) (v408 : List Int) (v409 : List Int) (v410 : List Int) (k0 : Int → List Int → List Int → Option α) : spec_l5Div_L0 N 0 v404 v405 v406 v407 v408 v409 v410 k0 = none := by rw [spec_l5Div_L0.eq]; rfl
theorem spec_l5Div_L0.succ {α : Type} (N n : Nat) (v404 : Int) (v405 : Int) (v406 : Int) (v407 : List Int) (v408 : List Int) (v409 : List Int) (v410 : List Int) (k0 : Int → List Int → List Int → Option α) : spec_l5Div_L0 N (n + 1) v404 v405 v406 v407 v408 v409 v410 k0 = spec_l5Div_L0r N (fun y0 y1 y2 y3 y4 y5 y6 => spec_l5Div_L0 N n y0 y1 y2 y3 y4 y5 y6 k0) k0 v404 v405 v406 v407 v408 v409 v410 := by rw [spec_l5Div_L0.eq]; rfl
/-- spec.l5Div -/
noncomputable def spec_l5Div.b {α : Type} (N : Nat) (a302 : List Int) (a303 : List Int) (k0 : List Int → List Int → Option α) : Option α :=
 spec_l5Cmp N a302 a303
  (fun x326 =>
   let x327 := (decide (x326 < (0 : Int)))
   bif x327 then
    spec_l5Trim N a302
     (fun x328 =>
      k0 [] x328)
   else
    let x329 := ((a303.length : Nat) : Int)
    let x330 := (decide (x329 = (1 : Int)))
    bif x330 then
     match a303[0]? with
     | some x331 =>
      spec_l5DivSmall N a302 x331
       (fun x355 x356 =>
        let x357 := IntKind.u64.wrap x355
        spec_NatOf N x357
         (fun x368 =>
          k0 x356 x368))
     | none => none
    else
     let x369 := ((a303.length : Nat) : Int)
     let x370 := (IntKind.i64.wrap (x369 - (1 : Int)))
     bif (decide (x370 < (0 : Int))) then
      none
     else
      match a303[x370.toNat]? with
      | some x371 =>
       let x372 := (IntKind.i64.wrap (x371 + (1 : Int)))
       bif (decide (x372 = (0 : Int))) then
        none
       else
        let x373 := (IntKind.i64.wrap (Int.tdiv (65536 : Int) x372))
        spec_l5Times N a302 x373
         (fun x379 =>
          spec_l5Times N a303 x373
           (fun x380 =>
            let x381 := ((x380.length : Nat) : Int)
            let x382 := ((x379.length : Nat) : Int)
            let x383 := IntKind.i64.wrap (x382 - x381)
            let x384 := (IntKind.i64.wrap (x383 + (1 : Int)))
            bif (decide ((0 : Int) ≤ x384)) then
             bif decide (x384 ≤ x384) then
              bif (decide (x384 ≤ ((8796093022208 : Nat) : Int))) then
               let x385 := (List.replicate x384.toNat (0 : Int))
               let x386 := ((x379.length : Nat) : Int)
               let x387 := IntKind.i64.wrap (x386 - x381)
               let x388 := (IntKind.i64.wrap (x387 + (1 : Int)))
               spec_l5Top N x379 x388
                (fun x401 =>
                 let x402 := ((x379.length : Nat) : Int)
                 let x403 := IntKind.i64.wrap (x402 - x381)
                 spec_l5Div_L0 N N x373 x381 x403 x379 x380 x385 x401
                  (fun x543 x544 x545 =>
                   spec_l5DivSmall N x545 x543
                    (fun _ x547 =>
                     spec_l5Trim N x544
                      (fun x548 =>
                       k0 x548 x547))))
              else
               none
             else
              none
            else
             none))
      | none => none)
theorem spec_l5Div.ex : ∃ f : ((α : Type) → Nat → List Int → List Int → (List Int → List Int → Option α) → Option α), f = fun α => @spec_l5Div.b α := ⟨_, rfl⟩
noncomputable def spec_l5Div {α : Type} : Nat → List Int → List Int → (List Int → List Int → Option α) → Option α := Classical.choose spec_l5Div.ex α
theorem spec_l5Div.eq : @spec_l5Div = @spec_l5Div.b := funext fun α => congrFun (Classical.choose_spec spec_l5Div.ex) α

noncomputable def spec_l8Scaled_J3.b {α : Type} (N : Nat) (v203 : Int) (v204 : List Int) (v205 : List Int) (k0 : List Int → List Int → Option α) : Option α :=
 let x206 := (decide ((0 : Int) ≤ v203))
 bif x206 then
  spec_l5Pow2 N v203
   (fun x229 =>
    spec_l5Mul N v204 x229
     (fun x296 =>
      k0 x296 v205))
 else
  let x297 := IntKind.i64.wrap (0 - v203)
  spec_l5Pow2 N x297
   (fun x298 =>
    spec_l5Mul N v205 x298
     (fun x299 =>
      k0 v204 x299))
theorem spec_l8Scaled_J3.ex : ∃ f : ((α : Type) → Nat → Int → List Int → List Int → (List Int → List Int → Option α) → Option α), f = fun α => @spec_l8Scaled_J3.b α := ⟨_, rfl⟩
noncomputable def spec_l8Scaled_J3 {α : Type} : Nat → Int → List Int → List Int → (List Int → List Int → Option α) → Option α := Classical.choose spec_l8Scaled_J3.ex α
theorem spec_l8Scaled_J3.eq : @spec_l8Scaled_J3 = @spec_l8Scaled_J3.b := funext fun α => congrFun (Classical.choose_spec spec_l8Scaled_J3.ex) α
/-- spec.l8Scaled -/
noncomputable def spec_l8Scaled.b {α : Type} (N : Nat) (a201 : Bool × (List Int) × (List Int) × Unit) (a202 : Int) (k0 : Bool → List Int → Option α) : Option α :=
 spec_l8Scaled_J3 N a202 a201.2.1 a201.2.2.1
  (fun x300 x301 =>
   spec_l5Div N x300 x301
    (fun x549 x550 =>
     let x551 := ((x550.length : Nat) : Int)
     let x552 := (decide ((0 : Int) < x551))
     k0 x552 x549))
theorem spec_l8Scaled.ex : ∃ f : ((α : Type) → Nat → (Bool × (List Int) × (List Int) × Unit) → Int → (Bool → List Int → Option α) → Option α), f = fun α => @spec_l8Scaled.b α := ⟨_, rfl⟩
noncomputable def spec_l8Scaled {α : Type} : Nat → (Bool × (List Int) × (List Int) × Unit) → Int → (Bool → List Int → Option α) → Option α := Classical.choose spec_l8Scaled.ex α
theorem spec_l8Scaled.eq : @spec_l8Scaled = @spec_l8Scaled.b := funext fun α => congrFun (Classical.choose_spec spec_l8Scaled.ex) α

noncomputable def spec_NatOk_L0r {α : Type} (N : Nat) (next : List Int → Int → Option α) (k0 : Bool → Option α) (k1 : List Int → Option α) (v576 : List Int) (v577 : Int) : Option α :=
 let x578 := ((v576.length : Nat) : Int)
 let x579 := decide (v577 < x578)
 bif x579 then
  bif (decide (v577 < (0 : Int))) then
   none
  else
   match v576[v577.toNat]? with
   | some x580 =>
    let x581 := (decide (x580 < (0 : Int)))
    bif x581 then
     k0 false
    else
     bif (decide (v577 < (0 : Int))) then
      none
     else
      match v576[v577.toNat]? with
      | some x582 =>
       let x583 := (decide ((65536 : Int) ≤ x582))
       bif x583 then
        k0 false
       else
        let x584 := (IntKind.i64.wrap (v577 + (1 : Int)))
        next v576 x584
      | none => none
   | none => none
 else
  k1 v576
noncomputable def spec_NatOk_L0.b {α : Type} (N n : Nat) (v576 : List Int) (v577 : Int) (k0 : Bool → Option α) (k1 : List Int → Option α) : Option α :=
  Nat.rec (motive := fun _ => List Int → Int → Option α) (fun _ _ => none) (fun _ next => spec_NatOk_L0r N next k0 k1) n v576 v577
theorem spec_NatOk_L0.ex : ∃ f : ((α : Type) → Nat → Nat → List Int → Int → (Bool → Option α) → (List Int → Option α) → Option α), f = fun α => @spec_NatOk_L0.b α := ⟨_, rfl⟩
noncomputable def spec_NatOk_L0 {α : Type} : Nat → Nat → List Int → Int → (Bool → Option α) → (List Int → Option α) → Option α := Classical.choose spec_NatOk_L0.ex α
theorem spec_NatOk_L0.eq : @spec_NatOk_L0 = @spec_NatOk_L0.b := funext fun α => congrFun (Classical.choose_spec spec_NatOk_L0.ex) α
theorem spec_NatOk_L0.zero {α : Type} (N : Nat) (v576 : List Int) (v577 : Int) (k0 : Bool → Option α) (k1 : List Int → Option α) : spec_NatOk_L0 N 0 v576 v577 k0 k1 = none := by rw [spec_NatOk_L0.eq]; rfl
theorem spec_NatOk_L0.succ {α : Type} (N n : Nat) (v576 : List Int) (v577 : Int) (k0 : Bool → Option α) (k1 : List Int → Option α) : spec_NatOk_L0 N (n + 1) v576 v577 k0 k1 = spec_NatOk_L0r N (fun y0 y1 => spec_NatOk_L0 N n y0 y1 k0 k1) k0 k1 v576 v577 := by rw [spec_NatOk_L0.eq]; rfl
/-- spec.NatOk -/
noncomputable def spec_NatOk.b {α : Type} (N : Nat) (a573 : List Int) (k0 : Bool → Option α) : Option α :=
 let x574 := ((a573.length : Nat) : Int)
 let x575 := (decide ((256 : Int) < x574))
 bif x575 then
  k0 false
 else
  spec_NatOk_L0 N N a573 (0 : Int)
   (fun x585 =>
    k0 x585)
   (fun x586 =>
    let x587 := ((x586.length : Nat) : Int)
    let x588 := (decide (x587 = (0 : Int)))
    bif x588 then
     k0 true
    else
     let x589 := ((x586.length : Nat) : Int)
     let x590 := (IntKind.i64.wrap (x589 - (1 : Int)))
     bif (decide (x590 < (0 : Int))) then
      none
     else
      match x586[x590.toNat]? with
      | some x591 =>
       let x592 := (!(decide (x591 = (0 : Int))))
       k0 x592
      | none => none)
theorem spec_NatOk.ex : ∃ f : ((α : Type) → Nat → List Int → (Bool → Option α) → Option α), f = fun α => @spec_NatOk.b α := ⟨_, rfl⟩
noncomputable def spec_NatOk {α : Type} : Nat → List Int → (Bool → Option α) → Option α := Classical.choose spec_NatOk.ex α
theorem spec_NatOk.eq : @spec_NatOk = @spec_NatOk.b := funext fun α => congrFun (Classical.choose_spec spec_NatOk.ex) α

noncomputable def spec_NatSmall_L0r {α : Type} (N : Nat) (next : List Int → Int → Int → Option α) (k0 : Int → Option α) (v599 : List Int) (v600 : Int) (v601 : Int) : Option α :=
 let x602 := (decide ((0 : Int) ≤ v601))
 bif x602 then
  let x603 := (IntKind.u64.wrap (v600 * (65536 : Int)))
  bif (decide (v601 < (0 : Int))) then
   none
  else
   match v599[v601.toNat]? with
   | some x604 =>
    let x605 := IntKind.u64.wrap x604
    let x606 := IntKind.u64.wrap (x603 + x605)
    let x607 := (IntKind.i64.wrap (v601 - (1 : Int)))
    next v599 x606 x607
   | none => none
 else
  k0 v600
noncomputable def spec_NatSmall_L0.b {α : Type} (N n : Nat) (v599 : List Int) (v600 : Int) (v601 : Int) (k0 : Int → Option α) : Option α :=
  Nat.rec (motive := fun _ => List Int → Int → Int → Option α) (fun _ _ _ => none) (fun _ next => spec_NatSmall_L0r N next k0) n v599 v600 v601
theorem spec_NatSmall_L0.ex : ∃ f : ((α : Type) → Nat → Nat → List Int → Int → Int → (Int → Option α) → Option α), f = fun α => @spec_NatSmall_L0.b α := ⟨_, rfl⟩
noncomputable def spec_NatSmall_L0 {α : Type} : Nat → Nat → List Int → Int → Int → (Int → Option α) → Option α := Classical.choose spec_NatSmall_L0.ex α
theorem spec_NatSmall_L0.eq : @spec_NatSmall_L0 = @spec_NatSmall_L0.b := funext fun α => congrFun (Classical.choose_spec spec_NatSmall_L0.ex) α
theorem spec_NatSmall_L0.zero {α : Type} (N : Nat) (v599 : List Int) (v600 : Int) (v601 : Int) (k0 : Int → Option α) : spec_NatSmall_L0 N 0 v599 v600 v601 k0 = none := by rw [spec_NatSmall_L0.eq]; rfl
theorem spec_NatSmall_L0.succ {α : Type} (N n : Nat) (v599 : List Int) (v600 : Int) (v601 : Int) (k0 : Int → Option α) : spec_NatSmall_L0 N (n + 1) v599 v600 v601 k0 = spec_NatSmall_L0r N (fun y0 y1 y2 => spec_NatSmall_L0 N n y0 y1 y2 k0) k0 v599 v600 v601 := by rw [spec_NatSmall_L0.eq]; rfl
/-- spec.NatSmall -/
noncomputable def spec_NatSmall.b {α : Type} (N : Nat) (a572 : List Int) (k0 : Int → Bool → Option α) : Option α :=
 spec_NatOk N a572
  (fun x593 =>
   let x594 := !x593
   bif x594 then
    k0 (0 : Int) false
   else
    let x595 := ((a572.length : Nat) : Int)
    let x596 := (decide ((4 : Int) < x595))
    bif x596 then
     k0 (0 : Int) false
    else
     let x597 := ((a572.length : Nat) : Int)
     let x598 := (IntKind.i64.wrap (x597 - (1 : Int)))
     spec_NatSmall_L0 N N a572 (0 : Int) x598
      (fun x608 =>
       k0 x608 true))
theorem spec_NatSmall.ex : ∃ f : ((α : Type) → Nat → List Int → (Int → Bool → Option α) → Option α), f = fun α => @spec_NatSmall.b α := ⟨_, rfl⟩
noncomputable def spec_NatSmall {α : Type} : Nat → List Int → (Int → Bool → Option α) → Option α := Classical.choose spec_NatSmall.ex α
theorem spec_NatSmall.eq : @spec_NatSmall = @spec_NatSmall.b := funext fun α => congrFun (Classical.choose_spec spec_NatSmall.ex) α

noncomputable def spec_l8Size_J5.b {α : Type} (N : Nat) (v87 : Int) (v88 : Int) (v89 : Int) (v90 : Bool × (List Int) × (List Int) × Unit) (k0 : Int → Int → Int → (Bool × (List Int) × (List Int) × Unit) → Option α) : Option α :=
 spec_l1Least N v87
  (fun x93 =>
   let x94 := IntKind.i64.wrap (0 - x93)
   let x95 := decide (x94 < v89)
   bif x95 then
    spec_l1Least N v87
     (fun x96 =>
      let x97 := IntKind.i64.wrap (0 - x96)
      k0 v87 v88 x97 v90)
   else
    k0 v87 v88 v89 v90)
theorem spec_l8Size_J5.ex : ∃ f : ((α : Type) → Nat → Int → Int → Int → (Bool × (List Int) × (List Int) × Unit) → (Int → Int → Int → (Bool × (List Int) × (List Int) × Unit) → Option α) → Option α), f = fun α => @spec_l8Size_J5.b α := ⟨_, rfl⟩
noncomputable def spec_l8Size_J5 {α : Type} : Nat → Int → Int → Int → (Bool × (List Int) × (List Int) × Unit) → (Int → Int → Int → (Bool × (List Int) × (List Int) × Unit) → Option α) → Option α := Classical.choose spec_l8Size_J5.ex α
theorem spec_l8Size_J5.eq : @spec_l8Size_J5 = @spec_l8Size_J5.b := funext fun α => congrFun (Classical.choose_spec spec_l8Size_J5.ex) α
noncomputable def spec_l8Size_L0r {α : Type} (N : Nat) (next : Int → Int → Int → Bool → (Bool × (List Int) × (List Int) × Unit) → List Int → Option α) (k0 : Int → Int → Int → Bool → List Int → Option α) (v555 : Int) (v556 : Int) (v557 : Int) (v558 : Bool) (v559 : Bool × (List Int) × (List Int) × Unit) (v560 : List Int) : Option α :=
 spec_l5Bits N v560
  (fun x561 =>
   let x562 := (IntKind.i64.wrap (v556 + (1 : Int)))
   let x563 := decide (x562 < x561)
   bif x563 then
    let x564 := (IntKind.i64.wrap (v557 - (1 : Int)))
    spec_l8Scaled N v559 x564
     (fun x565 x566 =>
      next v555 v556 x564 x565 v559 x566)
   else
    k0 v555 v556 v557 v558 v560)
noncomputable def spec_l8Size_L0.b {α : Type} (N n : Nat) (v555 : Int) (v556 : Int) (v557 : Int) (v558 : Bool) (v559 : Bool × (List Int) × (List Int) × Unit) (v560 : List Int) (k0 : Int → Int → Int → Bool → List Int → Option α) : Option α :=
  Nat.rec (motive := fun _ => Int → Int → Int → Bool → (Bool × (List Int) × (List Int) × Unit) → List Int → Option α) (fun _ _ _ _ _ _ => none) (fun _ next => spec_l8Size_L0r N next k0) n v555 v556 v557 v558 v559 v560
theorem spec_l8Size_L0.ex : ∃ f : ((α : Type) → Nat → Nat → Int → Int → Int → Bool → (Bool × (List Int) × (List Int) × Unit) → List Int → (Int → Int → Int → Bool → List Int → Option α) → Option α), f = fun α => @spec_l8Size_L0.b α := ⟨_, rfl⟩
noncomputable def spec_l8Size_L0 {α : Type} : Nat → Nat → Int → Int → Int → Bool → (Bool × (List Int) × (List Int) × Unit) → List Int → (Int → Int → Int → Bool → List Int → Option α) → Option α := Classical.choose spec_l8Size_L0.ex α
theorem spec_l8Size_L0.eq : @spec_l8Size_L0 = @spec_l8Size_L0.b := funext fun α => congrFun (Classical.choose_spec spec_l8Size_L0.ex) α
theorem spec_l8Size_L0.zero {α : Type} (N : Nat) (v555 : Int) (v556 : Int) (v557 : Int) (v558 : Bool) (v559 : Bool × (List Int) × (List Int) × Unit) (v560 : List Int) (k0 : Int → Int → Int → Bool → List Int → Option α) : spec_l8Size_L0 N 0 v555 v556 v557 v558 v559 v560 k0 = none := by rw [spec_l8Size_L0.eq]; rfl
theorem spec_l8Size_L0.succ {α : Type} (N n : Nat) (v555 : Int) (v556 : Int) (v557 : Int) (v558 : Bool) (v559 : Bool × (List Int) × (List Int) × Unit) (v560 : List Int) (k0 : Int → Int → Int → Bool → List Int → Option α) : spec_l8Size_L0 N (n + 1) v555 v556 v557 v558 v559 v560 k0 = spec_l8Size_L0r N (fun y0 y1 y2 y3 y4 y5 => spec_l8Size_L0 N n y0 y1 y2 y3 y4 y5 k0) k0 v555 v556 v557 v558 v559 v560 := by rw [spec_l8Size_L0.eq]; rfl
/-- spec.l8Size -/
noncomputable def spec_l8Size.b {α : Type} (N : Nat) (a60 : Int) (a61 : Bool × (List Int) × (List Int) × Unit) (k0 : Int → Bool → Option α) : Option α :=
 let x62 := ((a61.2.1.length : Nat) : Int)
 let x63 := (decide (x62 = (0 : Int)))
 bif x63 then
  k0 (0 : Int) false
 else
  spec_l1Frac N a60
   (fun x66 =>
    let x67 := (IntKind.i64.wrap (x66 + (1 : Int)))
    spec_l5Bits N a61.2.1
     (fun x83 =>
      let x84 := IntKind.i64.wrap (x67 - x83)
      spec_l5Bits N a61.2.2.1
       (fun x85 =>
        let x86 := IntKind.i64.wrap (x84 + x85)
        spec_l8Size_J5 N a60 x66 x86 a61
         (fun x98 x99 x100 x101 =>
          spec_l8Scaled N x101 x100
           (fun x553 x554 =>
            spec_l8Size_L0 N N x98 x99 x100 x553 x101 x554
             (fun x567 x568 x569 x570 x571 =>
              spec_NatSmall N x571
               (fun x609 _ =>
                spec_l5Bits N x571
                 (fun x611 =>
                  let x612 := decide (x611 ≤ x568)
                  bif x612 then
                   let x613 := IntKind.i64.wrap x609
                   k0 x613 x570
                  else
                   let x614 := IntKind.i64.wrap (0 - x569)
                   spec_l1Least N x567
                    (fun x615 =>
                     let x616 := IntKind.i64.wrap (x614 - x615)
                     let x617 := (IntKind.i64.wrap (x616 + (1 : Int)))
                     spec_BitTop N x567
                      (fun x618 =>
                       let x619 := IntKind.u64.wrap x568
                       bif (decide (x619 < (0 : Int))) then
                        none
                       else
                        let x620 := shrI .i64 x618 x619
                        let x621 := (IntKind.i64.wrap (x620 - (1 : Int)))
                        let x622 := decide (x621 < x617)
                        bif x622 then
                         spec_BitTop N x567
                          (fun x623 =>
                           let x624 := (IntKind.i64.wrap (x623 - (1 : Int)))
                           k0 x624 true)
                        else
                         let x625 := IntKind.u64.wrap x568
                         bif (decide (x625 < (0 : Int))) then
                          none
                         else
                          let x626 := shlI .i64 x617 x625
                          let x627 := IntKind.i64.wrap x609
                          let x628 := IntKind.i64.wrap (x626 + x627)
                          let x629 := IntKind.u64.wrap x568
                          bif (decide (x629 < (0 : Int))) then
                           none
                          else
                           let x630 := (shlI .i64 (1 : Int) x629)
                           let x631 := IntKind.i64.wrap (x628 - x630)
                           k0 x631 x570))))))))))
theorem spec_l8Size.ex : ∃ f : ((α : Type) → Nat → Int → (Bool × (List Int) × (List Int) × Unit) → (Int → Bool → Option α) → Option α), f = fun α => @spec_l8Size.b α := ⟨_, rfl⟩
noncomputable def spec_l8Size {α : Type} : Nat → Int → (Bool × (List Int) × (List Int) × Unit) → (Int → Bool → Option α) → Option α := Classical.choose spec_l8Size.ex α
theorem spec_l8Size.eq : @spec_l8Size = @spec_l8Size.b := funext fun α => congrFun (Classical.choose_spec spec_l8Size.ex) α

noncomputable def spec_l8Round_J3.b {α : Type} (N : Nat) (v634 : Bool) (v635 : Int) (v636 : Bool) (k0 : Int → Option α) : Option α :=
 bif v636 then
  let x637 := !v634
  bif x637 then
   let x638 := (IntKind.i64.wrap (v635 + (1 : Int)))
   k0 x638
  else
   k0 v635
 else
  k0 v635
theorem spec_l8Round_J3.ex : ∃ f : ((α : Type) → Nat → Bool → Int → Bool → (Int → Option α) → Option α), f = fun α => @spec_l8Round_J3.b α := ⟨_, rfl⟩
noncomputable def spec_l8Round_J3 {α : Type} : Nat → Bool → Int → Bool → (Int → Option α) → Option α := Classical.choose spec_l8Round_J3.ex α
theorem spec_l8Round_J3.eq : @spec_l8Round_J3 = @spec_l8Round_J3.b := funext fun α => congrFun (Classical.choose_spec spec_l8Round_J3.ex) α
noncomputable def spec_l8Round_J6.b {α : Type} (N : Nat) (v641 : Bool) (v642 : Int) (v643 : Bool) (k0 : Int → Option α) : Option α :=
 bif v643 then
  bif v641 then
   let x644 := (IntKind.i64.wrap (v642 + (1 : Int)))
   k0 x644
  else
   k0 v642
 else
  k0 v642
theorem spec_l8Round_J6.ex : ∃ f : ((α : Type) → Nat → Bool → Int → Bool → (Int → Option α) → Option α), f = fun α => @spec_l8Round_J6.b α := ⟨_, rfl⟩
noncomputable def spec_l8Round_J6 {α : Type} : Nat → Bool → Int → Bool → (Int → Option α) → Option α := Classical.choose spec_l8Round_J6.ex α
theorem spec_l8Round_J6.eq : @spec_l8Round_J6 = @spec_l8Round_J6.b := funext fun α => congrFun (Classical.choose_spec spec_l8Round_J6.ex) α
/-- spec.l8Round -/
noncomputable def spec_l8Round.b {α : Type} (N : Nat) (a57 : Int) (a58 : Bool × (List Int) × (List Int) × Unit) (a59 : Bool) (k0 : Int → Option α) : Option α :=
 spec_l8Size N a57 a58
  (fun x632 x633 =>
   bif a58.1 then
    spec_l8Round_J3 N a59 x632 x633
     (fun x639 =>
      let x640 := IntKind.i64.wrap (0 - x639)
      k0 x640)
   else
    spec_l8Round_J6 N a59 x632 x633
     (fun x645 =>
      k0 x645))
theorem spec_l8Round.ex : ∃ f : ((α : Type) → Nat → Int → (Bool × (List Int) × (List Int) × Unit) → Bool → (Int → Option α) → Option α), f = fun α => @spec_l8Round.b α := ⟨_, rfl⟩
noncomputable def spec_l8Round {α : Type} : Nat → Int → (Bool × (List Int) × (List Int) × Unit) → Bool → (Int → Option α) → Option α := Classical.choose spec_l8Round.ex α
theorem spec_l8Round.eq : @spec_l8Round = @spec_l8Round.b := funext fun α => congrFun (Classical.choose_spec spec_l8Round.ex) α

/-- spec.l9One -/
noncomputable def spec_l9One.b {α : Type} (N : Nat) (a54 : Int) (k0 : Int → Option α) : Option α :=
 let x55 := [(1 : Int)]
 let x56 := [(1 : Int)]
 spec_l8Round N a54 (false, (x55, (x56, ()))) false
  (fun x646 =>
   k0 x646)
theorem spec_l9One.ex : ∃ f : ((α : Type) → Nat → Int → (Int → Option α) → Option α), f = fun α => @spec_l9One.b α := ⟨_, rfl⟩
noncomputable def spec_l9One {α : Type} : Nat → Int → (Int → Option α) → Option α := Classical.choose spec_l9One.ex α
theorem spec_l9One.eq : @spec_l9One = @spec_l9One.b := funext fun α => congrFun (Classical.choose_spec spec_l9One.ex) α

/-- loop.example/pinfold/spec.l9RootDown: called within itself once more: not followed. -/
noncomputable def spec_l9RootDown_b {α : Type} (N : Nat) (a662 : Int) (a663 : Int) (a664 : Int) : Option α := none

/-- spec.l9Infinite -/
noncomputable def spec_l9Infinite.b {α : Type} (N : Nat) (a668 : Int) (a669 : Int) (k0 : Bool → Option α) : Option α :=
 spec_BitTop N a668
  (fun x670 =>
   let x671 := decide (a669 = x670)
   bif x671 then
    k0 true
   else
    spec_BitTop N a668
     (fun x672 =>
      let x673 := IntKind.i64.wrap (0 - x672)
      let x674 := decide (a669 = x673)
      k0 x674))
theorem spec_l9Infinite.ex : ∃ f : ((α : Type) → Nat → Int → Int → (Bool → Option α) → Option α), f = fun α => @spec_l9Infinite.b α := ⟨_, rfl⟩
noncomputable def spec_l9Infinite {α : Type} : Nat → Int → Int → (Bool → Option α) → Option α := Classical.choose spec_l9Infinite.ex α
theorem spec_l9Infinite.eq : @spec_l9Infinite = @spec_l9Infinite.b := funext fun α => congrFun (Classical.choose_spec spec_l9Infinite.ex) α

noncomputable def spec_BitPartOf_J5.b {α : Type} (N : Nat) (v689 : Int) (v690 : Int) (v691 : Bool × Int × Int × Unit) (v692 : Bool × Int × Int × Unit) (k0 : Int → Int → (Bool × Int × Int × Unit) → (Bool × Int × Int × Unit) → Option α) : Option α :=
 let x693 := (decide (v690 < (0 : Int)))
 bif x693 then
  let x694 := IntKind.i64.wrap (0 - v690)
  k0 v689 x694 v691 v692
 else
  k0 v689 v690 v691 v692
theorem spec_BitPartOf_J5.ex : ∃ f : ((α : Type) → Nat → Int → Int → (Bool × Int × Int × Unit) → (Bool × Int × Int × Unit) → (Int → Int → (Bool × Int × Int × Unit) → (Bool × Int × Int × Unit) → Option α) → Option α), f = fun α => @spec_BitPartOf_J5.b α := ⟨_, rfl⟩
noncomputable def spec_BitPartOf_J5 {α : Type} : Nat → Int → Int → (Bool × Int × Int × Unit) → (Bool × Int × Int × Unit) → (Int → Int → (Bool × Int × Int × Unit) → (Bool × Int × Int × Unit) → Option α) → Option α := Classical.choose spec_BitPartOf_J5.ex α
theorem spec_BitPartOf_J5.eq : @spec_BitPartOf_J5 = @spec_BitPartOf_J5.b := funext fun α => congrFun (Classical.choose_spec spec_BitPartOf_J5.ex) α
noncomputable def spec_BitPartOf_J10.b {α : Type} (N : Nat) (v705 : Int) (v706 : Int) (v707 : Bool × Int × Int × Unit) (v708 : Bool × Int × Int × Unit) (k0 : (Bool × Int × Int × Unit) → (Bool × Int × Int × Unit) → Option α) : Option α :=
 let x709 := (decide ((0 : Int) < v706))
 bif x709 then
  let x710 := IntKind.u64.wrap v705
  let x711 := IntKind.u64.wrap (v708.2.1 + x710)
  let x712 := IntKind.i64.wrap (v708.2.2.1 + v706)
  let x713 := (IntKind.i64.wrap (x712 - (1 : Int)))
  k0 v707 (v708.1, (x711, (x713, ())))
 else
  k0 v707 v708
theorem spec_BitPartOf_J10.ex : ∃ f : ((α : Type) → Nat → Int → Int → (Bool × Int × Int × Unit) → (Bool × Int × Int × Unit) → ((Bool × Int × Int × Unit) → (Bool × Int × Int × Unit) → Option α) → Option α), f = fun α => @spec_BitPartOf_J10.b α := ⟨_, rfl⟩
noncomputable def spec_BitPartOf_J10 {α : Type} : Nat → Int → Int → (Bool × Int × Int × Unit) → (Bool × Int × Int × Unit) → ((Bool × Int × Int × Unit) → (Bool × Int × Int × Unit) → Option α) → Option α := Classical.choose spec_BitPartOf_J10.ex α
theorem spec_BitPartOf_J10.eq : @spec_BitPartOf_J10 = @spec_BitPartOf_J10.b := funext fun α => congrFun (Classical.choose_spec spec_BitPartOf_J10.ex) α
/-- spec.BitPartOf -/
noncomputable def spec_BitPartOf.b {α : Type} (N : Nat) (a678 : Int) (a679 : Int) (k0 : (Bool × Int × Int × Unit) → Bool → Option α) : Option α :=
 spec_BitOk N a678 a679
  (fun x680 =>
   let x681 := !x680
   bif x681 then
    k0 (false, ((0 : Int), ((0 : Int), ()))) false
   else
    spec_BitTop N a678
     (fun x682 =>
      let x683 := decide (a679 = x682)
      bif x683 then
       k0 (false, ((0 : Int), ((0 : Int), ()))) false
      else
       spec_BitTop N a678
        (fun x684 =>
         let x685 := IntKind.i64.wrap (0 - x684)
         let x686 := decide (a679 = x685)
         bif x686 then
          k0 (false, ((0 : Int), ((0 : Int), ()))) false
         else
          let x687 := (decide (a679 < (0 : Int)))
          spec_l1Least N a678
           (fun x688 =>
            spec_BitPartOf_J5 N a678 a679 (false, ((0 : Int), ((0 : Int), ()))) (x687, ((0 : Int), (x688, ())))
             (fun x695 x696 x697 x698 =>
              spec_l1Frac N x695
               (fun x699 =>
                let x700 := IntKind.u64.wrap x699
                bif (decide (x700 < (0 : Int))) then
                 none
                else
                 let x701 := (shlI .i64 (1 : Int) x700)
                 bif (decide (x701 = (0 : Int))) then
                  none
                 else
                  let x702 := IntKind.i64.wrap (Int.tdiv x696 x701)
                  bif (decide (x701 = (0 : Int))) then
                   none
                  else
                   let x703 := Int.tmod x696 x701
                   let x704 := IntKind.u64.wrap x703
                   spec_BitPartOf_J10 N x701 x702 x697 (x698.1, (x704, (x698.2.2.1, ())))
                    (fun _ x715 =>
                     k0 x715 true)))))))
theorem spec_BitPartOf.ex : ∃ f : ((α : Type) → Nat → Int → Int → ((Bool × Int × Int × Unit) → Bool → Option α) → Option α), f = fun α => @spec_BitPartOf.b α := ⟨_, rfl⟩
noncomputable def spec_BitPartOf {α : Type} : Nat → Int → Int → ((Bool × Int × Int × Unit) → Bool → Option α) → Option α := Classical.choose spec_BitPartOf.ex α
theorem spec_BitPartOf.eq : @spec_BitPartOf = @spec_BitPartOf.b := funext fun α => congrFun (Classical.choose_spec spec_BitPartOf.ex) α

noncomputable def spec_l8Of_J3.b {α : Type} (N : Nat) (v720 : Bool) (v721 : Bool × Int × Int × Unit) (v722 : Bool) (v723 : List Int) (v724 : List Int) (v725 : List Int) (v726 : List Int) (k0 : Bool → Bool → List Int → List Int → List Int → List Int → Option α) : Option α :=
 let x727 := (decide ((0 : Int) ≤ v721.2.2.1))
 bif x727 then
  spec_l5Pow2 N v721.2.2.1
   (fun x728 =>
    spec_l5Mul N v725 x728
     (fun x729 =>
      k0 v720 v722 v723 v724 x729 v726))
 else
  let x730 := IntKind.i64.wrap (0 - v721.2.2.1)
  spec_l5Pow2 N x730
   (fun x731 =>
    k0 v720 v722 v723 v724 v725 x731)
theorem spec_l8Of_J3.ex : ∃ f : ((α : Type) → Nat → Bool → (Bool × Int × Int × Unit) → Bool → List Int → List Int → List Int → List Int → (Bool → Bool → List Int → List Int → List Int → List Int → Option α) → Option α), f = fun α => @spec_l8Of_J3.b α := ⟨_, rfl⟩
noncomputable def spec_l8Of_J3 {α : Type} : Nat → Bool → (Bool × Int × Int × Unit) → Bool → List Int → List Int → List Int → List Int → (Bool → Bool → List Int → List Int → List Int → List Int → Option α) → Option α := Classical.choose spec_l8Of_J3.ex α
theorem spec_l8Of_J3.eq : @spec_l8Of_J3 = @spec_l8Of_J3.b := funext fun α => congrFun (Classical.choose_spec spec_l8Of_J3.ex) α
/-- spec.l8Of -/
noncomputable def spec_l8Of.b {α : Type} (N : Nat) (a676 : Int) (a677 : Int) (k0 : Bool → List Int → List Int → Option α) : Option α :=
 spec_BitPartOf N a676 a677
  (fun x716 _ =>
   spec_NatOf N x716.2.1
    (fun x718 =>
     let x719 := [(1 : Int)]
     spec_l8Of_J3 N false x716 x716.1 [] [] x718 x719
      (fun _ x733 _ _ x736 x737 =>
       k0 x733 x736 x737)))
theorem spec_l8Of.ex : ∃ f : ((α : Type) → Nat → Int → Int → (Bool → List Int → List Int → Option α) → Option α), f = fun α => @spec_l8Of.b α := ⟨_, rfl⟩
noncomputable def spec_l8Of {α : Type} : Nat → Int → Int → (Bool → List Int → List Int → Option α) → Option α := Classical.choose spec_l8Of.ex α
theorem spec_l8Of.eq : @spec_l8Of = @spec_l8Of.b := funext fun α => congrFun (Classical.choose_spec spec_l8Of.ex) α

noncomputable def spec_l9Power_L0r {α : Type} (N : Nat) (next : Int → Int → (Bool × (List Int) × (List Int) × Unit) → Bool → (Bool × (List Int) × (List Int) × Unit) → List Int → List Int → Option α) (k0 : Bool → (Bool × (List Int) × (List Int) × Unit) → List Int → List Int → Option α) (v781 : Int) (v782 : Int) (v783 : Bool × (List Int) × (List Int) × Unit) (v784 : Bool) (v785 : Bool × (List Int) × (List Int) × Unit) (v786 : List Int) (v787 : List Int) : Option α :=
 let x788 := decide (v782 < v781)
 bif x788 then
  let x789 := !(v785.1 == v783.1)
  spec_l5Mul N v785.2.1 v783.2.1
   (fun x790 =>
    spec_l5Mul N v785.2.2.1 v783.2.2.1
     (fun x791 =>
      let x792 := (IntKind.i64.wrap (v782 + (1 : Int)))
      next v781 x792 v783 v784 (x789, (x790, (x791, ()))) v786 v787))
 else
  k0 v784 v785 v786 v787
noncomputable def spec_l9Power_L0.b {α : Type} (N n : Nat) (v781 : Int) (v782 : Int) (v783 : Bool × (List Int) × (List Int) × Unit) (v784 : Bool) (v785 : Bool × (List Int) × (List Int) × Unit) (v786 : List Int) (v787 : List Int) (k0 : Bool → (Bool × (List Int) × (List Int) × Unit) → List Int → List Int → Option α) : Option α :=
  Nat.rec (motive := fun _ => Int → Int → (Bool × (List Int) × (List Int) × Unit) → Bool → (Bool × (List Int) × (List Int) × Unit) → List Int → List Int → Option α) (fun _ _ _ _ _ _ _ => none) (fun _ next => spec_l9Power_L0r N next k0) n v781 v782 v783 v784 v785 v786 v787
theorem spec_l9Power_L0.ex : ∃ f : ((α : Type) → Nat → Nat → Int → Int → (Bool × (List Int) × (List Int) × Unit) → Bool → (Bool × (List Int) × (List Int) × Unit) → List Int → List Int → (Bool → (Bool × (List Int) × (List Int) × Unit) → List Int → List Int → Option α) → Option α), f = fun α => @spec_l9Power_L0.b α := ⟨_, rfl⟩
noncomputable def spec_l9Power_L0 {α : Type} : Nat → Nat → Int → Int → (Bool × (List Int) × (List Int) × Unit) → Bool → (Bool × (List Int) × (List Int) × Unit) → List Int → List Int → (Bool → (Bool × (List Int) × (List Int) × Unit) → List Int → List Int → Option α) → Option α := Classical.choose spec_l9Power_L0.ex α
theorem spec_l9Power_L0.eq : @spec_l9Power_L0 = @spec_l9Power_L0.b := funext fun α => congrFun (Classical.choose_spec spec_l9Power_L0.ex) α
theorem spec_l9Power_L0.zero {α : Type} (N : Nat) (v781 : Int) (v782 : Int) (v783 : Bool × (List Int) × (List Int) × Unit) (v784 : Bool) (v785 : Bool × (List Int) × (List Int) × Unit) (v786 : List Int) (v787 : List Int) (k0 : Bool → (Bool × (List Int) × (List Int) × Unit) → List Int → List Int → Option α) : spec_l9Power_L0 N 0 v781 v782 v783 v784 v785 v786 v787 k0 = none := by rw [spec_l9Power_L0.eq]; rfl
theorem spec_l9Power_L0.succ {α : Type} (N n : Nat) (v781 : Int) (v782 : Int) (v783 : Bool × (List Int) × (List Int) × Unit) (v784 : Bool) (v785 : Bool × (List Int) × (List Int) × Unit) (v786 : List Int) (v787 : List Int) (k0 : Bool → (Bool × (List Int) × (List Int) × Unit) → List Int → List Int → Option α) : spec_l9Power_L0 N (n + 1) v781 v782 v783 v784 v785 v786 v787 k0 = spec_l9Power_L0r N (fun y0 y1 y2 y3 y4 y5 y6 => spec_l9Power_L0 N n y0 y1 y2 y3 y4 y5 y6 k0) k0 v781 v782 v783 v784 v785 v786 v787 := by rw [spec_l9Power_L0.eq]; rfl
/-- spec.l9Power -/
noncomputable def spec_l9Power.b {α : Type} (N : Nat) (a779 : Bool × (List Int) × (List Int) × Unit) (a780 : Int) (k0 : (Bool × (List Int) × (List Int) × Unit) → Option α) : Option α :=
 spec_l9Power_L0 N N a780 (1 : Int) a779 false a779 [] []
  (fun _ x794 _ _ =>
   k0 x794)
theorem spec_l9Power.ex : ∃ f : ((α : Type) → Nat → (Bool × (List Int) × (List Int) × Unit) → Int → ((Bool × (List Int) × (List Int) × Unit) → Option α) → Option α), f = fun α => @spec_l9Power.b α := ⟨_, rfl⟩
noncomputable def spec_l9Power {α : Type} : Nat → (Bool × (List Int) × (List Int) × Unit) → Int → ((Bool × (List Int) × (List Int) × Unit) → Option α) → Option α := Classical.choose spec_l9Power.ex α
theorem spec_l9Power.eq : @spec_l9Power = @spec_l9Power.b := funext fun α => congrFun (Classical.choose_spec spec_l9Power.ex) α

/-- spec.l8Cmp -/
noncomputable def spec_l8Cmp.b {α : Type} (N : Nat) (a798 : Bool × (List Int) × (List Int) × Unit) (a799 : Bool × (List Int) × (List Int) × Unit) (k0 : Int → Option α) : Option α :=
 spec_l5Mul N a798.2.1 a799.2.2.1
  (fun x800 =>
   spec_l5Mul N a799.2.1 a798.2.2.1
    (fun x801 =>
     let x802 := ((x800.length : Nat) : Int)
     let x803 := (decide (x802 = (0 : Int)))
     bif x803 then
      let x804 := ((x801.length : Nat) : Int)
      let x805 := (decide (x804 = (0 : Int)))
      bif x805 then
       k0 (0 : Int)
      else
       bif a798.1 then
        let x806 := ((x800.length : Nat) : Int)
        let x807 := (decide ((0 : Int) < x806))
        bif x807 then
         bif a799.1 then
          let x808 := ((x801.length : Nat) : Int)
          let x809 := (decide ((0 : Int) < x808))
          bif x809 then
           spec_l5Cmp N x801 x800
            (fun x810 =>
             k0 x810)
          else
           k0 (-1 : Int)
         else
          k0 (-1 : Int)
        else
         bif a799.1 then
          let x811 := ((x801.length : Nat) : Int)
          let x812 := (decide ((0 : Int) < x811))
          bif x812 then
           k0 (1 : Int)
          else
           spec_l5Cmp N x800 x801
            (fun x813 =>
             k0 x813)
         else
          spec_l5Cmp N x800 x801
           (fun x814 =>
            k0 x814)
       else
        bif a799.1 then
         let x815 := ((x801.length : Nat) : Int)
         let x816 := (decide ((0 : Int) < x815))
         bif x816 then
          k0 (1 : Int)
         else
          spec_l5Cmp N x800 x801
           (fun x817 =>
            k0 x817)
        else
         spec_l5Cmp N x800 x801
          (fun x818 =>
           k0 x818)
     else
      bif a798.1 then
       let x819 := ((x800.length : Nat) : Int)
       let x820 := (decide ((0 : Int) < x819))
       bif x820 then
        bif a799.1 then
         let x821 := ((x801.length : Nat) : Int)
         let x822 := (decide ((0 : Int) < x821))
         bif x822 then
          spec_l5Cmp N x801 x800
           (fun x823 =>
            k0 x823)
         else
          k0 (-1 : Int)
        else
         k0 (-1 : Int)
       else
        bif a799.1 then
         let x824 := ((x801.length : Nat) : Int)
         let x825 := (decide ((0 : Int) < x824))
         bif x825 then
          k0 (1 : Int)
         else
          spec_l5Cmp N x800 x801
           (fun x826 =>
            k0 x826)
        else
         spec_l5Cmp N x800 x801
          (fun x827 =>
           k0 x827)
      else
       bif a799.1 then
        let x828 := ((x801.length : Nat) : Int)
        let x829 := (decide ((0 : Int) < x828))
        bif x829 then
         k0 (1 : Int)
        else
         spec_l5Cmp N x800 x801
          (fun x830 =>
           k0 x830)
       else
        spec_l5Cmp N x800 x801
         (fun x831 =>
          k0 x831)))
theorem spec_l8Cmp.ex : ∃ f : ((α : Type) → Nat → (Bool × (List Int) × (List Int) × Unit) → (Bool × (List Int) × (List Int) × Unit) → (Int → Option α) → Option α), f = fun α => @spec_l8Cmp.b α := ⟨_, rfl⟩
noncomputable def spec_l8Cmp {α : Type} : Nat → (Bool × (List Int) × (List Int) × Unit) → (Bool × (List Int) × (List Int) × Unit) → (Int → Option α) → Option α := Classical.choose spec_l8Cmp.ex α
theorem spec_l8Cmp.eq : @spec_l8Cmp = @spec_l8Cmp.b := funext fun α => congrFun (Classical.choose_spec spec_l8Cmp.ex) α

noncomputable def spec_l9RootSize_J8.b {α : Type} (N : Nat) (v754 : Int) (v755 : Int) (v756 : Int) (v757 : Int) (v758 : Int) (v759 : Bool) (v760 : List Int) (v761 : List Int) (k0 : Int → Int → Int → Int → Bool → List Int → List Int → Option α) : Option α :=
 spec_l8Of N v754 v758
  (fun x762 x763 x764 =>
   spec_l9Power N (x762, (x763, (x764, ()))) v755
    (fun x797 =>
     spec_l8Cmp N x797 (v759, (v760, (v761, ())))
      (fun x832 =>
       let x833 := (decide (x832 ≤ (0 : Int)))
       bif x833 then
        k0 v754 v755 v758 v757 v759 v760 v761
       else
        let x834 := (IntKind.i64.wrap (v758 - (1 : Int)))
        k0 v754 v755 v756 x834 v759 v760 v761)))
theorem spec_l9RootSize_J8.ex : ∃ f : ((α : Type) → Nat → Int → Int → Int → Int → Int → Bool → List Int → List Int → (Int → Int → Int → Int → Bool → List Int → List Int → Option α) → Option α), f = fun α => @spec_l9RootSize_J8.b α := ⟨_, rfl⟩
noncomputable def spec_l9RootSize_J8 {α : Type} : Nat → Int → Int → Int → Int → Int → Bool → List Int → List Int → (Int → Int → Int → Int → Bool → List Int → List Int → Option α) → Option α := Classical.choose spec_l9RootSize_J8.ex α
theorem spec_l9RootSize_J8.eq : @spec_l9RootSize_J8 = @spec_l9RootSize_J8.b := funext fun α => congrFun (Classical.choose_spec spec_l9RootSize_J8.ex) α
noncomputable def spec_l9RootSize_L0r {α : Type} (N : Nat) (next : Int → Int → Int → Int → Bool → List Int → List Int → Option α) (k0 : Int → Int → Int → Bool → List Int → List Int → Option α) (v743 : Int) (v744 : Int) (v745 : Int) (v746 : Int) (v747 : Bool) (v748 : List Int) (v749 : List Int) : Option α :=
 let x750 := decide (v745 < v746)
 bif x750 then
  let x751 := IntKind.i64.wrap (v746 - v745)
  let x752 := (IntKind.i64.wrap (Int.tdiv x751 (2 : Int)))
  let x753 := IntKind.i64.wrap (v746 - x752)
  spec_l9RootSize_J8 N v743 v744 v745 v746 x753 v747 v748 v749
   (fun x835 x836 x837 x838 x839 x840 x841 =>
    next x835 x836 x837 x838 x839 x840 x841)
 else
  k0 v743 v744 v745 v747 v748 v749
noncomputable def spec_l9RootSize_L0.b {α : Type} (N n : Nat) (v743 : Int) (v744 : Int) (v745 : Int) (v746 : Int) (v747 : Bool) (v748 : List Int) (v749 : List Int) (k0 : Int → Int → Int → Bool → List Int → List Int → Option α) : Option α :=
  Nat.rec (motive := fun _ => Int → Int → Int → Int → Bool → List Int → List Int → Option α) (fun _ _ _ _ _ _ _ => none) (fun _ next => spec_l9RootSize_L0r N next k0) n v743 v744 v745 v746 v747 v748 v749
theorem spec_l9RootSize_L0.ex : ∃ f : ((α : Type) → Nat → Nat → Int → Int → Int → Int → Bool → List Int → List Int → (Int → Int → Int → Bool → List Int → List Int → Option α) → Option α), f = fun α => @spec_l9RootSize_L0.b α := ⟨_, rfl⟩
noncomputable def spec_l9RootSize_L0 {α : Type} : Nat → Nat → Int → Int → Int → Int → Bool → List Int → List Int → (Int → Int → Int → Bool → List Int → List Int → Option α) → Option α := Classical.choose spec_l9RootSize_L0.ex α
theorem spec_l9RootSize_L0.eq : @spec_l9RootSize_L0 = @spec_l9RootSize_L0.b := funext fun α => congrFun (Classical.choose_spec spec_l9RootSize_L0.ex) α
theorem spec_l9RootSize_L0.zero {α : Type} (N : Nat) (v743 : Int) (v744 : Int) (v745 : Int) (v746 : Int) (v747 : Bool) (v748 : List Int) (v749 : List Int) (k0 : Int → Int → Int → Bool → List Int → List Int → Option α) : spec_l9RootSize_L0 N 0 v743 v744 v745 v746 v747 v748 v749 k0 = none := by rw [spec_l9RootSize_L0.eq]; rfl
theorem spec_l9RootSize_L0.succ {α : Type} (N n : Nat) (v743 : Int) (v744 : Int) (v745 : Int) (v746 : Int) (v747 : Bool) (v748 : List Int) (v749 : List Int) (k0 : Int → Int → Int → Bool → List Int → List Int → Option α) : spec_l9RootSize_L0 N (n + 1) v743 v744 v745 v746 v747 v748 v749 k0 = spec_l9RootSize_L0r N (fun y0 y1 y2 y3 y4 y5 y6 => spec_l9RootSize_L0 N n y0 y1 y2 y3 y4 y5 y6 k0) k0 v743 v744 v745 v746 v747 v748 v749 := by rw [spec_l9RootSize_L0.eq]; rfl
/-- spec.l9RootSize -/
noncomputable def spec_l9RootSize.b {α : Type} (N : Nat) (a665 : Int) (a666 : Int) (a667 : Int) (k0 : Int → Bool → Option α) : Option α :=
 spec_l9Infinite N a665 a666
  (fun x675 =>
   bif x675 then
    k0 a666 false
   else
    spec_l8Of N a665 a666
     (fun x738 x739 x740 =>
      spec_BitTop N a665
       (fun x741 =>
        let x742 := (IntKind.i64.wrap (x741 - (1 : Int)))
        spec_l9RootSize_L0 N N a665 a667 (0 : Int) x742 x738 x739 x740
         (fun x842 x843 x844 x845 x846 x847 =>
          spec_l8Of N x842 x844
           (fun x848 x849 x850 =>
            spec_l9Power N (x848, (x849, (x850, ()))) x843
             (fun x851 =>
              spec_l8Cmp N x851 (x845, (x846, (x847, ())))
               (fun x852 =>
                let x853 := (decide (x852 < (0 : Int)))
                k0 x844 x853)))))))
theorem spec_l9RootSize.ex : ∃ f : ((α : Type) → Nat → Int → Int → Int → (Int → Bool → Option α) → Option α), f = fun α => @spec_l9RootSize.b α := ⟨_, rfl⟩
noncomputable def spec_l9RootSize {α : Type} : Nat → Int → Int → Int → (Int → Bool → Option α) → Option α := Classical.choose spec_l9RootSize.ex α
theorem spec_l9RootSize.eq : @spec_l9RootSize = @spec_l9RootSize.b := funext fun α => congrFun (Classical.choose_spec spec_l9RootSize.ex) α

noncomputable def spec_l9RootUp_J4.b {α : Type} (N : Nat) (v856 : Int) (v857 : Bool) (k0 : Int → Option α) : Option α :=
 bif v857 then
  let x858 := (IntKind.i64.wrap (v856 + (1 : Int)))
  k0 x858
 else
  k0 v856
theorem spec_l9RootUp_J4.ex : ∃ f : ((α : Type) → Nat → Int → Bool → (Int → Option α) → Option α), f = fun α => @spec_l9RootUp_J4.b α := ⟨_, rfl⟩
noncomputable def spec_l9RootUp_J4 {α : Type} : Nat → Int → Bool → (Int → Option α) → Option α := Classical.choose spec_l9RootUp_J4.ex α
theorem spec_l9RootUp_J4.eq : @spec_l9RootUp_J4 = @spec_l9RootUp_J4.b := funext fun α => congrFun (Classical.choose_spec spec_l9RootUp_J4.ex) α
/-- spec.l9RootUp -/
noncomputable def spec_l9RootUp.b {α : Type} (N : Nat) (a657 : Int) (a658 : Int) (a659 : Int) (k0 : Int → Option α) : Option α :=
 let x660 := (decide (a658 < (0 : Int)))
 bif x660 then
  let x661 := IntKind.i64.wrap (0 - a658)
  spec_l9RootDown_b N a657 x661 a659
 else
  spec_l9RootSize N a657 a658 a659
   (fun x854 x855 =>
    spec_l9RootUp_J4 N x854 x855
     (fun x859 =>
      k0 x859))
theorem spec_l9RootUp.ex : ∃ f : ((α : Type) → Nat → Int → Int → Int → (Int → Option α) → Option α), f = fun α => @spec_l9RootUp.b α := ⟨_, rfl⟩
noncomputable def spec_l9RootUp {α : Type} : Nat → Int → Int → Int → (Int → Option α) → Option α := Classical.choose spec_l9RootUp.ex α
theorem spec_l9RootUp.eq : @spec_l9RootUp = @spec_l9RootUp.b := funext fun α => congrFun (Classical.choose_spec spec_l9RootUp.ex) α

/-- spec.l9RootDown -/
noncomputable def spec_l9RootDown.b {α : Type} (N : Nat) (a652 : Int) (a653 : Int) (a654 : Int) (k0 : Int → Option α) : Option α :=
 let x655 := (decide (a653 < (0 : Int)))
 bif x655 then
  let x656 := IntKind.i64.wrap (0 - a653)
  spec_l9RootUp N a652 x656 a654
   (fun x860 =>
    let x861 := IntKind.i64.wrap (0 - x860)
    k0 x861)
 else
  spec_l9RootSize N a652 a653 a654
   (fun x862 _ =>
    k0 x862)
theorem spec_l9RootDown.ex : ∃ f : ((α : Type) → Nat → Int → Int → Int → (Int → Option α) → Option α), f = fun α => @spec_l9RootDown.b α := ⟨_, rfl⟩
noncomputable def spec_l9RootDown {α : Type} : Nat → Int → Int → Int → (Int → Option α) → Option α := Classical.choose spec_l9RootDown.ex α
theorem spec_l9RootDown.eq : @spec_l9RootDown = @spec_l9RootDown.b := funext fun α => congrFun (Classical.choose_spec spec_l9RootDown.ex) α

noncomputable def spec_l9RootUp_b_J4.b {α : Type} (N : Nat) (v874 : Int) (v875 : Bool) (k0 : Int → Option α) : Option α :=
 bif v875 then
  let x876 := (IntKind.i64.wrap (v874 + (1 : Int)))
  k0 x876
 else
  k0 v874
theorem spec_l9RootUp_b_J4.ex : ∃ f : ((α : Type) → Nat → Int → Bool → (Int → Option α) → Option α), f = fun α => @spec_l9RootUp_b_J4.b α := ⟨_, rfl⟩
noncomputable def spec_l9RootUp_b_J4 {α : Type} : Nat → Int → Bool → (Int → Option α) → Option α := Classical.choose spec_l9RootUp_b_J4.ex α
theorem spec_l9RootUp_b_J4.eq : @spec_l9RootUp_b_J4 = @spec_l9RootUp_b_J4.b := funext fun α => congrFun (Classical.choose_spec spec_l9RootUp_b_J4.ex) α
/-- spec.l9RootUp -/
noncomputable def spec_l9RootUp_b.b {α : Type} (N : Nat) (a865 : Int) (a866 : Int) (a867 : Int) (k0 : Int → Option α) : Option α :=
 let x868 := (decide (a866 < (0 : Int)))
 bif x868 then
  let x869 := IntKind.i64.wrap (0 - a866)
  spec_l9RootDown N a865 x869 a867
   (fun x870 =>
    let x871 := IntKind.i64.wrap (0 - x870)
    k0 x871)
 else
  spec_l9RootSize N a865 a866 a867
   (fun x872 x873 =>
    spec_l9RootUp_b_J4 N x872 x873
     (fun x877 =>
      k0 x877))
theorem spec_l9RootUp_b.ex : ∃ f : ((α : Type) → Nat → Int → Int → Int → (Int → Option α) → Option α), f = fun α => @spec_l9RootUp_b.b α := ⟨_, rfl⟩
noncomputable def spec_l9RootUp_b {α : Type} : Nat → Int → Int → Int → (Int → Option α) → Option α := Classical.choose spec_l9RootUp_b.ex α
theorem spec_l9RootUp_b.eq : @spec_l9RootUp_b = @spec_l9RootUp_b.b := funext fun α => congrFun (Classical.choose_spec spec_l9RootUp_b.ex) α

/-- spec.l9Of -/
noncomputable def spec_l9Of.b {α : Type} (N : Nat) (a879 : Int) (a880 : Int) (k0 : (Bool × Int × Int × Unit) → Option α) : Option α :=
 k0 (true, (a879, (a880, ())))
theorem spec_l9Of.ex : ∃ f : ((α : Type) → Nat → Int → Int → ((Bool × Int × Int × Unit) → Option α) → Option α), f = fun α => @spec_l9Of.b α := ⟨_, rfl⟩
noncomputable def spec_l9Of {α : Type} : Nat → Int → Int → ((Bool × Int × Int × Unit) → Option α) → Option α := Classical.choose spec_l9Of.ex α
theorem spec_l9Of.eq : @spec_l9Of = @spec_l9Of.b := funext fun α => congrFun (Classical.choose_spec spec_l9Of.ex) α

/-- spec.l3Max -/
noncomputable def spec_l3Max.b {α : Type} (N : Nat) (a892 : Int) (a893 : Int) (k0 : Int → Option α) : Option α :=
 let x894 := decide (a893 < a892)
 bif x894 then
  k0 a892
 else
  k0 a893
theorem spec_l3Max.ex : ∃ f : ((α : Type) → Nat → Int → Int → (Int → Option α) → Option α), f = fun α => @spec_l3Max.b α := ⟨_, rfl⟩
noncomputable def spec_l3Max {α : Type} : Nat → Int → Int → (Int → Option α) → Option α := Classical.choose spec_l3Max.ex α
theorem spec_l3Max.eq : @spec_l3Max = @spec_l3Max.b := funext fun α => congrFun (Classical.choose_spec spec_l3Max.ex) α

/-- spec.l3Min -/
noncomputable def spec_l3Min.b {α : Type} (N : Nat) (a896 : Int) (a897 : Int) (k0 : Int → Option α) : Option α :=
 let x898 := decide (a896 < a897)
 bif x898 then
  k0 a896
 else
  k0 a897
theorem spec_l3Min.ex : ∃ f : ((α : Type) → Nat → Int → Int → (Int → Option α) → Option α), f = fun α => @spec_l3Min.b α := ⟨_, rfl⟩
noncomputable def spec_l3Min {α : Type} : Nat → Int → Int → (Int → Option α) → Option α := Classical.choose spec_l3Min.ex α
theorem spec_l3Min.eq : @spec_l3Min = @spec_l3Min.b := funext fun α => congrFun (Classical.choose_spec spec_l3Min.ex) α

/-- spec.PairMeet -/
noncomputable def spec_PairMeet.b {α : Type} (N : Nat) (a889 : Int) (a890 : Int × Int × Unit) (a891 : Int × Int × Unit) (k0 : (Int × Int × Unit) → Bool → Option α) : Option α :=
 spec_l3Max N a890.1 a891.1
  (fun x895 =>
   spec_l3Min N a890.2.1 a891.2.1
    (fun x899 =>
     spec_PairOk N a889 a890
      (fun x900 =>
       let x901 := !x900
       bif x901 then
        k0 ((0 : Int), ((0 : Int), ())) false
       else
        spec_PairOk N a889 a891
         (fun x902 =>
          let x903 := !x902
          bif x903 then
           k0 ((0 : Int), ((0 : Int), ())) false
          else
           let x904 := decide (x899 < x895)
           bif x904 then
            k0 ((0 : Int), ((0 : Int), ())) false
           else
            k0 (x895, (x899, ())) true))))
theorem spec_PairMeet.ex : ∃ f : ((α : Type) → Nat → Int → (Int × Int × Unit) → (Int × Int × Unit) → ((Int × Int × Unit) → Bool → Option α) → Option α), f = fun α => @spec_PairMeet.b α := ⟨_, rfl⟩
noncomputable def spec_PairMeet {α : Type} : Nat → Int → (Int × Int × Unit) → (Int × Int × Unit) → ((Int × Int × Unit) → Bool → Option α) → Option α := Classical.choose spec_PairMeet.ex α
theorem spec_PairMeet.eq : @spec_PairMeet = @spec_PairMeet.b := funext fun α => congrFun (Classical.choose_spec spec_PairMeet.ex) α

/-- spec.SpanMeet -/
noncomputable def spec_SpanMeet.b {α : Type} (N : Nat) (a882 : Int) (a883 : Bool × Int × Int × Unit) (a884 : Bool × Int × Int × Unit) (k0 : (Bool × Int × Int × Unit) → Option α) : Option α :=
 spec_l9Both N a882 a883 a884
  (fun x885 =>
   let x886 := !x885
   bif x886 then
    k0 (false, ((0 : Int), ((0 : Int), ())))
   else
    spec_l9Pair N a883
     (fun x887 =>
      spec_l9Pair N a884
       (fun x888 =>
        spec_PairMeet N a882 x887 x888
         (fun x905 x906 =>
          let x907 := !x906
          bif x907 then
           k0 (false, ((0 : Int), ((0 : Int), ())))
          else
           spec_l9Of N x905.1 x905.2.1
            (fun x908 =>
             k0 x908)))))
theorem spec_SpanMeet.ex : ∃ f : ((α : Type) → Nat → Int → (Bool × Int × Int × Unit) → (Bool × Int × Int × Unit) → ((Bool × Int × Int × Unit) → Option α) → Option α), f = fun α => @spec_SpanMeet.b α := ⟨_, rfl⟩
noncomputable def spec_SpanMeet {α : Type} : Nat → Int → (Bool × Int × Int × Unit) → (Bool × Int × Int × Unit) → ((Bool × Int × Int × Unit) → Option α) → Option α := Classical.choose spec_SpanMeet.ex α
theorem spec_SpanMeet.eq : @spec_SpanMeet = @spec_SpanMeet.b := funext fun α => congrFun (Classical.choose_spec spec_SpanMeet.ex) α

/-- spec.l9From -/
noncomputable def spec_l9From.b {α : Type} (N : Nat) (a910 : Int) (a911 : Bool × Int × Int × Unit) (k0 : (Bool × Int × Int × Unit) → Option α) : Option α :=
 spec_BitTop N a910
  (fun x912 =>
   spec_l9Of N (0 : Int) x912
    (fun x913 =>
     spec_SpanMeet N a910 a911 x913
      (fun x914 =>
       k0 x914)))
theorem spec_l9From.ex : ∃ f : ((α : Type) → Nat → Int → (Bool × Int × Int × Unit) → ((Bool × Int × Int × Unit) → Option α) → Option α), f = fun α => @spec_l9From.b α := ⟨_, rfl⟩
noncomputable def spec_l9From {α : Type} : Nat → Int → (Bool × Int × Int × Unit) → ((Bool × Int × Int × Unit) → Option α) → Option α := Classical.choose spec_l9From.ex α
theorem spec_l9From.eq : @spec_l9From = @spec_l9From.b := funext fun α => congrFun (Classical.choose_spec spec_l9From.ex) α

/-- spec.SpanNeg -/
noncomputable def spec_SpanNeg.b {α : Type} (N : Nat) (a921 : Int) (a922 : Bool × Int × Int × Unit) (k0 : (Bool × Int × Int × Unit) → Option α) : Option α :=
 spec_SpanOk N a921 a922
  (fun x923 =>
   let x924 := !x923
   bif x924 then
    k0 (false, ((0 : Int), ((0 : Int), ())))
   else
    let x925 := !a922.1
    bif x925 then
     k0 (false, ((0 : Int), ((0 : Int), ())))
    else
     let x926 := IntKind.i64.wrap (0 - a922.2.2.1)
     let x927 := IntKind.i64.wrap (0 - a922.2.1)
     spec_l9Of N x926 x927
      (fun x928 =>
       k0 x928))
theorem spec_SpanNeg.ex : ∃ f : ((α : Type) → Nat → Int → (Bool × Int × Int × Unit) → ((Bool × Int × Int × Unit) → Option α) → Option α), f = fun α => @spec_SpanNeg.b α := ⟨_, rfl⟩
noncomputable def spec_SpanNeg {α : Type} : Nat → Int → (Bool × Int × Int × Unit) → ((Bool × Int × Int × Unit) → Option α) → Option α := Classical.choose spec_SpanNeg.ex α
theorem spec_SpanNeg.eq : @spec_SpanNeg = @spec_SpanNeg.b := funext fun α => congrFun (Classical.choose_spec spec_SpanNeg.ex) α

/-- spec.SpanHull -/
noncomputable def spec_SpanHull.b {α : Type} (N : Nat) (a931 : Int) (a932 : Bool × Int × Int × Unit) (a933 : Bool × Int × Int × Unit) (k0 : (Bool × Int × Int × Unit) → Option α) : Option α :=
 spec_SpanOk N a931 a932
  (fun x934 =>
   let x935 := !x934
   bif x935 then
    k0 (false, ((0 : Int), ((0 : Int), ())))
   else
    spec_SpanOk N a931 a933
     (fun x936 =>
      let x937 := !x936
      bif x937 then
       k0 (false, ((0 : Int), ((0 : Int), ())))
      else
       let x938 := !a932.1
       bif x938 then
        k0 a933
       else
        let x939 := !a933.1
        bif x939 then
         k0 a932
        else
         spec_l3Min N a932.2.1 a933.2.1
          (fun x940 =>
           spec_l3Max N a932.2.2.1 a933.2.2.1
            (fun x941 =>
             spec_l9Of N x940 x941
              (fun x942 =>
               k0 x942)))))
theorem spec_SpanHull.ex : ∃ f : ((α : Type) → Nat → Int → (Bool × Int × Int × Unit) → (Bool × Int × Int × Unit) → ((Bool × Int × Int × Unit) → Option α) → Option α), f = fun α => @spec_SpanHull.b α := ⟨_, rfl⟩
noncomputable def spec_SpanHull {α : Type} : Nat → Int → (Bool × Int × Int × Unit) → (Bool × Int × Int × Unit) → ((Bool × Int × Int × Unit) → Option α) → Option α := Classical.choose spec_SpanHull.ex α
theorem spec_SpanHull.eq : @spec_SpanHull = @spec_SpanHull.b := funext fun α => congrFun (Classical.choose_spec spec_SpanHull.ex) α

/-- spec.BackPow -/
noncomputable def spec_BackPow.b {α : Type} (N : Nat) (a8 : Int) (a9 : Bool × Int × Int × Unit) (a10 : Int) (a11 : Bool × Int × Int × Unit) (k0 : (Bool × Int × Int × Unit) → Option α) : Option α :=
 spec_l9Both N a8 a9 a11
  (fun x49 =>
   let x50 := !x49
   bif x50 then
    k0 (false, ((0 : Int), ((0 : Int), ())))
   else
    let x51 := (decide (a10 < (0 : Int)))
    bif x51 then
     k0 (false, ((0 : Int), ((0 : Int), ())))
    else
     let x52 := (decide ((8 : Int) < a10))
     bif x52 then
      k0 (false, ((0 : Int), ((0 : Int), ())))
     else
      let x53 := (decide (a10 = (0 : Int)))
      bif x53 then
       spec_l9One N a8
        (fun x647 =>
         let x648 := decide (a9.2.1 ≤ x647)
         bif x648 then
          let x649 := decide (x647 ≤ a9.2.2.1)
          bif x649 then
           k0 a11
          else
           k0 (false, ((0 : Int), ((0 : Int), ())))
         else
          k0 (false, ((0 : Int), ((0 : Int), ()))))
      else
       let x650 := (Int.tmod a10 (2 : Int))
       let x651 := (decide (x650 = (1 : Int)))
       bif x651 then
        spec_l9RootDown N a8 a9.2.1 a10
         (fun x864 =>
          spec_l9RootUp_b N a8 a9.2.2.1 a10
           (fun x878 =>
            spec_l9Of N x864 x878
             (fun x881 =>
              spec_SpanMeet N a8 a11 x881
               (fun x909 =>
                k0 x909))))
       else
        spec_l9From N a8 a9
         (fun x915 =>
          let x916 := !x915.1
          bif x916 then
           k0 x915
          else
           spec_l9RootDown N a8 x915.2.1 a10
            (fun x917 =>
             spec_l9RootUp_b N a8 x915.2.2.1 a10
              (fun x918 =>
               spec_l9Of N x917 x918
                (fun x919 =>
                 spec_SpanMeet N a8 a11 x919
                  (fun x920 =>
                   spec_SpanNeg N a8 x919
                    (fun x929 =>
                     spec_SpanMeet N a8 a11 x929
                      (fun x930 =>
                       spec_SpanHull N a8 x920 x930
                        (fun x943 =>
                         k0 x943)))))))))
theorem spec_BackPow.ex : ∃ f : ((α : Type) → Nat → Int → (Bool × Int × Int × Unit) → Int → (Bool × Int × Int × Unit) → ((Bool × Int × Int × Unit) → Option α) → Option α), f = fun α => @spec_BackPow.b α := ⟨_, rfl⟩
noncomputable def spec_BackPow {α : Type} : Nat → Int → (Bool × Int × Int × Unit) → Int → (Bool × Int × Int × Unit) → ((Bool × Int × Int × Unit) → Option α) → Option α := Classical.choose spec_BackPow.ex α
theorem spec_BackPow.eq : @spec_BackPow = @spec_BackPow.b := funext fun α => congrFun (Classical.choose_spec spec_BackPow.ex) α

/-- impl.formatOf -/
noncomputable def impl_formatOf.b {α : Type} (N : Nat) (a964 : Int) (k0 : (Int × Int × Int × Int × Unit) → Bool → Option α) : Option α :=
 let x965 := (decide (a964 = (32 : Int)))
 bif x965 then
  k0 ((23 : Int), ((-149 : Int), ((127 : Int), ((2139095040 : Int), ())))) true
 else
  let x966 := (decide (a964 = (64 : Int)))
  bif x966 then
   k0 ((52 : Int), ((-1074 : Int), ((1023 : Int), ((9218868437227405312 : Int), ())))) true
  else
   k0 ((0 : Int), ((0 : Int), ((0 : Int), ((0 : Int), ())))) false
theorem impl_formatOf.ex : ∃ f : ((α : Type) → Nat → Int → ((Int × Int × Int × Int × Unit) → Bool → Option α) → Option α), f = fun α => @impl_formatOf.b α := ⟨_, rfl⟩
noncomputable def impl_formatOf {α : Type} : Nat → Int → ((Int × Int × Int × Int × Unit) → Bool → Option α) → Option α := Classical.choose impl_formatOf.ex α
theorem impl_formatOf.eq : @impl_formatOf = @impl_formatOf.b := funext fun α => congrFun (Classical.choose_spec impl_formatOf.ex) α

/-- impl.BitTop -/
noncomputable def impl_BitTop.b {α : Type} (N : Nat) (a971 : Int) (k0 : Int → Option α) : Option α :=
 impl_formatOf N a971
  (fun x972 _ =>
   k0 x972.2.2.2.1)
theorem impl_BitTop.ex : ∃ f : ((α : Type) → Nat → Int → (Int → Option α) → Option α), f = fun α => @impl_BitTop.b α := ⟨_, rfl⟩
noncomputable def impl_BitTop {α : Type} : Nat → Int → (Int → Option α) → Option α := Classical.choose impl_BitTop.ex α
theorem impl_BitTop.eq : @impl_BitTop = @impl_BitTop.b := funext fun α => congrFun (Classical.choose_spec impl_BitTop.ex) α

/-- impl.in -/
noncomputable def impl_in.b {α : Type} (N : Nat) (a980 : Int) (a981 : Int) (a982 : Int) (k0 : Bool → Option α) : Option α :=
 let x983 := decide (a981 ≤ a980)
 bif x983 then
  let x984 := decide (a980 ≤ a982)
  k0 x984
 else
  k0 false
theorem impl_in.ex : ∃ f : ((α : Type) → Nat → Int → Int → Int → (Bool → Option α) → Option α), f = fun α => @impl_in.b α := ⟨_, rfl⟩
noncomputable def impl_in {α : Type} : Nat → Int → Int → Int → (Bool → Option α) → Option α := Classical.choose impl_in.ex α
theorem impl_in.eq : @impl_in = @impl_in.b := funext fun α => congrFun (Classical.choose_spec impl_in.ex) α

/-- impl.BitOk -/
noncomputable def impl_BitOk.b {α : Type} (N : Nat) (a975 : Int) (a976 : Int) (k0 : Bool → Option α) : Option α :=
 impl_formatOf N a975
  (fun x977 x978 =>
   bif x978 then
    let x979 := IntKind.i64.wrap (0 - x977.2.2.2.1)
    impl_in N a976 x979 x977.2.2.2.1
     (fun x985 =>
      k0 x985)
   else
    k0 false)
theorem impl_BitOk.ex : ∃ f : ((α : Type) → Nat → Int → Int → (Bool → Option α) → Option α), f = fun α => @impl_BitOk.b α := ⟨_, rfl⟩
noncomputable def impl_BitOk {α : Type} : Nat → Int → Int → (Bool → Option α) → Option α := Classical.choose impl_BitOk.ex α
theorem impl_BitOk.eq : @impl_BitOk = @impl_BitOk.b := funext fun α => congrFun (Classical.choose_spec impl_BitOk.ex) α

/-- impl.PairOk -/
noncomputable def impl_PairOk.b {α : Type} (N : Nat) (a969 : Int) (a970 : Int × Int × Unit) (k0 : Bool → Option α) : Option α :=
 impl_BitTop N a969
  (fun x974 =>
   impl_BitOk N a969 a970.1
    (fun x986 =>
     bif x986 then
      impl_BitOk N a969 a970.2.1
       (fun x987 =>
        bif x987 then
         let x988 := decide (a970.1 ≤ a970.2.1)
         bif x988 then
          let x989 := !(decide (a970.1 = x974))
          bif x989 then
           let x990 := IntKind.i64.wrap (0 - x974)
           let x991 := !(decide (a970.2.1 = x990))
           k0 x991
          else
           k0 false
         else
          k0 false
        else
         k0 false)
     else
      k0 false))
theorem impl_PairOk.ex : ∃ f : ((α : Type) → Nat → Int → (Int × Int × Unit) → (Bool → Option α) → Option α), f = fun α => @impl_PairOk.b α := ⟨_, rfl⟩
noncomputable def impl_PairOk {α : Type} : Nat → Int → (Int × Int × Unit) → (Bool → Option α) → Option α := Classical.choose impl_PairOk.ex α
theorem impl_PairOk.eq : @impl_PairOk = @impl_PairOk.b := funext fun α => congrFun (Classical.choose_spec impl_PairOk.ex) α

/-- impl.SpanOk -/
noncomputable def impl_SpanOk.b {α : Type} (N : Nat) (a962 : Int) (a963 : Bool × Int × Int × Unit) (k0 : Bool → Option α) : Option α :=
 impl_formatOf N a962
  (fun _ x968 =>
   bif x968 then
    bif a963.1 then
     impl_PairOk N a962 (a963.2.1, (a963.2.2.1, ()))
      (fun x992 =>
       bif x992 then
        k0 true
       else
        let x993 := ((a963.1 == false) && ((decide (a963.2.1 = (0 : Int))) && ((decide (a963.2.2.1 = (0 : Int))) && true)))
        k0 x993)
    else
     let x994 := ((a963.1 == false) && ((decide (a963.2.1 = (0 : Int))) && ((decide (a963.2.2.1 = (0 : Int))) && true)))
     k0 x994
   else
    k0 false)
theorem impl_SpanOk.ex : ∃ f : ((α : Type) → Nat → Int → (Bool × Int × Int × Unit) → (Bool → Option α) → Option α), f = fun α => @impl_SpanOk.b α := ⟨_, rfl⟩
noncomputable def impl_SpanOk {α : Type} : Nat → Int → (Bool × Int × Int × Unit) → (Bool → Option α) → Option α := Classical.choose impl_SpanOk.ex α
theorem impl_SpanOk.eq : @impl_SpanOk = @impl_SpanOk.b := funext fun α => congrFun (Classical.choose_spec impl_SpanOk.ex) α

noncomputable def impl_full_L0r {α : Type} (N : Nat) (next : Int → List (Bool × Int × Int × Unit) → Int → Int → Option α) (k0 : Bool → Option α) (k1 : Option α) (v955 : Int) (v956 : List (Bool × Int × Int × Unit)) (v957 : Int) (v958 : Int) : Option α :=
 let x959 := decide (v958 < v957)
 bif x959 then
  bif (decide (v958 < (0 : Int))) then
   none
  else
   match v956[v958.toNat]? with
   | some x960 =>
    let x961 := !x960.1
    bif x961 then
     k0 false
    else
     impl_SpanOk N v955 x960
      (fun x995 =>
       let x996 := !x995
       bif x996 then
        k0 false
       else
        let x997 := (IntKind.i64.wrap (v958 + (1 : Int)))
        next v955 v956 v957 x997)
   | none => none
 else
  k1
noncomputable def impl_full_L0.b {α : Type} (N n : Nat) (v955 : Int) (v956 : List (Bool × Int × Int × Unit)) (v957 : Int) (v958 : Int) (k0 : Bool → Option α) (k1 : Option α) : Option α :=
  Nat.rec (motive := fun _ => Int → List (Bool × Int × Int × Unit) → Int → Int → Option α) (fun _ _ _ _ => none) (fun _ next => impl_full_L0r N next k0 k1) n v955 v956 v957 v958
theorem impl_full_L0.ex : ∃ f : ((α : Type) → Nat → Nat → Int → List (Bool × Int × Int × Unit) → Int → Int → (Bool → Option α) → (Option α) → Option α), f = fun α => @impl_full_L0.b α := ⟨_, rfl⟩
noncomputable def impl_full_L0 {α : Type} : Nat → Nat → Int → List (Bool × Int × Int × Unit) → Int → Int → (Bool → Option α) → (Option α) → Option α := Classical.choose impl_full_L0.ex α
theorem impl_full_L0.eq : @impl_full_L0 = @impl_full_L0.b := funext fun α => congrFun (Classical.choose_spec impl_full_L0.ex) α
theorem impl_full_L0.zero {α : Type} (N : Nat) (v955 : Int) (v956 : List (Bool × Int × Int × Unit)) (v957 : Int) (v958 : Int) (k0 : Bool → Option α) (k1 : Option α) : impl_full_L0 N 0 v955 v956 v957 v958 k0 k1 = none := by rw [impl_full_L0.eq]; rfl
theorem impl_full_L0.succ {α : Type} (N n : Nat) (v955 : Int) (v956 : List (Bool × Int × Int × Unit)) (v957 : Int) (v958 : Int) (k0 : Bool → Option α) (k1 : Option α) : impl_full_L0 N (n + 1) v955 v956 v957 v958 k0 k1 = impl_full_L0r N (fun y0 y1 y2 y3 => impl_full_L0 N n y0 y1 y2 y3 k0 k1) k0 k1 v955 v956 v957 v958 := by rw [impl_full_L0.eq]; rfl
/-- impl.full -/
noncomputable def impl_full.b {α : Type} (N : Nat) (a952 : Int) (a953 : List (Bool × Int × Int × Unit)) (k0 : Bool → Option α) : Option α :=
 let x954 := ((a953.length : Nat) : Int)
 impl_full_L0 N N a952 a953 x954 (0 : Int)
  (fun x998 =>
   k0 x998)
  (
   k0 true)
theorem impl_full.ex : ∃ f : ((α : Type) → Nat → Int → List (Bool × Int × Int × Unit) → (Bool → Option α) → Option α), f = fun α => @impl_full.b α := ⟨_, rfl⟩
noncomputable def impl_full {α : Type} : Nat → Int → List (Bool × Int × Int × Unit) → (Bool → Option α) → Option α := Classical.choose impl_full.ex α
theorem impl_full.eq : @impl_full = @impl_full.b := funext fun α => congrFun (Classical.choose_spec impl_full.ex) α

/-- impl.whole -/
noncomputable def impl_whole.b {α : Type} (N : Nat) (a1005 : Bool) (a1006 : List Int) (k0 : Bool → List Int → List Int → Option α) : Option α :=
 bif a1005 then
  let x1007 := ((a1006.length : Nat) : Int)
  let x1008 := (decide ((0 : Int) < x1007))
  let x1009 := [(1 : Int)]
  k0 x1008 a1006 x1009
 else
  let x1010 := [(1 : Int)]
  k0 false a1006 x1010
theorem impl_whole.ex : ∃ f : ((α : Type) → Nat → Bool → List Int → (Bool → List Int → List Int → Option α) → Option α), f = fun α => @impl_whole.b α := ⟨_, rfl⟩
noncomputable def impl_whole {α : Type} : Nat → Bool → List Int → (Bool → List Int → List Int → Option α) → Option α := Classical.choose impl_whole.ex α
theorem impl_whole.eq : @impl_whole = @impl_whole.b := funext fun α => congrFun (Classical.choose_spec impl_whole.ex) α

/-- impl.NatOk$1 -/
noncomputable def impl_NatOk_1.b {α : Type} (N : Nat) (a1047 : Int) (k0 : Bool → Option α) : Option α :=
 impl_in N a1047 (0 : Int) (65535 : Int)
  (fun x1048 =>
   let x1049 := !x1048
   k0 x1049)
theorem impl_NatOk_1.ex : ∃ f : ((α : Type) → Nat → Int → (Bool → Option α) → Option α), f = fun α => @impl_NatOk_1.b α := ⟨_, rfl⟩
noncomputable def impl_NatOk_1 {α : Type} : Nat → Int → (Bool → Option α) → Option α := Classical.choose impl_NatOk_1.ex α
theorem impl_NatOk_1.eq : @impl_NatOk_1 = @impl_NatOk_1.b := funext fun α => congrFun (Classical.choose_spec impl_NatOk_1.ex) α

noncomputable def slices_IndexFunc_int_int__impl_NatOk_1_L0r {α : Type} (N : Nat) (next : List Int → Int → Int → Option α) (k0 : Int → Option α) (k1 : Option α) (v1042 : List Int) (v1043 : Int) (v1044 : Int) : Option α :=
 let x1045 := decide (v1044 < v1043)
 bif x1045 then
  bif (decide (v1044 < (0 : Int))) then
   none
  else
   match v1042[v1044.toNat]? with
   | some x1046 =>
    impl_NatOk_1 N x1046
     (fun x1050 =>
      bif x1050 then
       k0 v1044
      else
       let x1051 := (IntKind.i64.wrap (v1044 + (1 : Int)))
       next v1042 v1043 x1051)
   | none => none
 else
  k1
noncomputable def slices_IndexFunc_int_int__impl_NatOk_1_L0.b {α : Type} (N n : Nat) (v1042 : List Int) (v1043 : Int) (v1044 : Int) (k0 : Int → Option α) (k1 : Option α) : Option α :=
  Nat.rec (motive := fun _ => List Int → Int → Int → Option α) (fun _ _ _ => none) (fun _ next => slices_IndexFunc_int_int__impl_NatOk_1_L0r N next k0 k1) n v1042 v1043 v1044
theorem slices_IndexFunc_int_int__impl_NatOk_1_L0.ex : ∃ f : ((α : Type) → Nat → Nat → List Int → Int → Int → (Int → Option α) → (Option α) → Option α), f = fun α => @slices_IndexFunc_int_int__impl_NatOk_1_L0.b α := ⟨_, rfl⟩
noncomputable def slices_IndexFunc_int_int__impl_NatOk_1_L0 {α : Type} : Nat → Nat → List Int → Int → Int → (Int → Option α) → (Option α) → Option α := Classical.choose slices_IndexFunc_int_int__impl_NatOk_1_L0.ex α
theorem slices_IndexFunc_int_int__impl_NatOk_1_L0.eq : @slices_IndexFunc_int_int__impl_NatOk_1_L0 = @slices_IndexFunc_int_int__impl_NatOk_1_L0.b := funext fun α => congrFun (Classical.choose_spec slices_IndexFunc_int_int__impl_NatOk_1_L0.ex) α
theorem slices_IndexFunc_int_int__impl_NatOk_1_L0.zero {α : Type} (N : Nat) (v1042 : List Int) (v1043 : Int) (v1044 : Int) (k0 : Int → Option α) (k1 : Option α) : slices_IndexFunc_int_int__impl_NatOk_1_L0 N 0 v1042 v1043 v1044 k0 k1 = none := by rw [slices_IndexFunc_int_int__impl_NatOk_1_L0.eq]; rfl
theorem slices_IndexFunc_int_int__impl_NatOk_1_L0.succ {α : Type} (N n : Nat) (v1042 : List Int) (v1043 : Int) (v1044 : Int) (k0 : Int → Option α) (k1 : Option α) : slices_IndexFunc_int_int__impl_NatOk_1_L0 N (n + 1) v1042 v1043 v1044 k0 k1 = slices_IndexFunc_int_int__impl_NatOk_1_L0r N (fun y0 y1 y2 => slices_IndexFunc_int_int__impl_NatOk_1_L0 N n y0 y1 y2 k0 k1) k0 k1 v1042 v1043 v1044 := by rw [slices_IndexFunc_int_int__impl_NatOk_1_L0.eq]; rfl
/-- slices.IndexFunc[[]int,int] -/
noncomputable def slices_IndexFunc_int_int__impl_NatOk_1.b {α : Type} (N : Nat) (a1040 : List Int) (k0 : Int → Option α) : Option α :=
 let x1041 := ((a1040.length : Nat) : Int)
 slices_IndexFunc_int_int__impl_NatOk_1_L0 N N a1040 x1041 (0 : Int)
  (fun x1052 =>
   k0 x1052)
  (
   k0 (-1 : Int))
theorem slices_IndexFunc_int_int__impl_NatOk_1.ex : ∃ f : ((α : Type) → Nat → List Int → (Int → Option α) → Option α), f = fun α => @slices_IndexFunc_int_int__impl_NatOk_1.b α := ⟨_, rfl⟩
noncomputable def slices_IndexFunc_int_int__impl_NatOk_1 {α : Type} : Nat → List Int → (Int → Option α) → Option α := Classical.choose slices_IndexFunc_int_int__impl_NatOk_1.ex α
theorem slices_IndexFunc_int_int__impl_NatOk_1.eq : @slices_IndexFunc_int_int__impl_NatOk_1 = @slices_IndexFunc_int_int__impl_NatOk_1.b := funext fun α => congrFun (Classical.choose_spec slices_IndexFunc_int_int__impl_NatOk_1.ex) α

/-- slices.ContainsFunc[[]int,int] -/
noncomputable def slices_ContainsFunc_int_int__impl_NatOk_1.b {α : Type} (N : Nat) (a1039 : List Int) (k0 : Bool → Option α) : Option α :=
 slices_IndexFunc_int_int__impl_NatOk_1 N a1039
  (fun x1053 =>
   let x1054 := (decide ((0 : Int) ≤ x1053))
   k0 x1054)
theorem slices_ContainsFunc_int_int__impl_NatOk_1.ex : ∃ f : ((α : Type) → Nat → List Int → (Bool → Option α) → Option α), f = fun α => @slices_ContainsFunc_int_int__impl_NatOk_1.b α := ⟨_, rfl⟩
noncomputable def slices_ContainsFunc_int_int__impl_NatOk_1 {α : Type} : Nat → List Int → (Bool → Option α) → Option α := Classical.choose slices_ContainsFunc_int_int__impl_NatOk_1.ex α
theorem slices_ContainsFunc_int_int__impl_NatOk_1.eq : @slices_ContainsFunc_int_int__impl_NatOk_1 = @slices_ContainsFunc_int_int__impl_NatOk_1.b := funext fun α => congrFun (Classical.choose_spec slices_ContainsFunc_int_int__impl_NatOk_1.ex) α

/-- impl.NatOk -/
noncomputable def impl_NatOk.b {α : Type} (N : Nat) (a1034 : List Int) (k0 : Bool → Option α) : Option α :=
 let x1035 := ((a1034.length : Nat) : Int)
 let x1036 := (decide (x1035 ≤ (256 : Int)))
 bif x1036 then
  let x1037 := ((a1034.length : Nat) : Int)
  let x1038 := (decide (x1037 = (0 : Int)))
  bif x1038 then
   slices_ContainsFunc_int_int__impl_NatOk_1 N a1034
    (fun x1055 =>
     let x1056 := !x1055
     k0 x1056)
  else
   let x1057 := ((a1034.length : Nat) : Int)
   let x1058 := (IntKind.i64.wrap (x1057 - (1 : Int)))
   bif (decide (x1058 < (0 : Int))) then
    none
   else
    match a1034[x1058.toNat]? with
    | some x1059 =>
     let x1060 := (!(decide (x1059 = (0 : Int))))
     bif x1060 then
      slices_ContainsFunc_int_int__impl_NatOk_1 N a1034
       (fun x1061 =>
        let x1062 := !x1061
        k0 x1062)
     else
      k0 false
    | none => none
 else
  k0 false
theorem impl_NatOk.ex : ∃ f : ((α : Type) → Nat → List Int → (Bool → Option α) → Option α), f = fun α => @impl_NatOk.b α := ⟨_, rfl⟩
noncomputable def impl_NatOk {α : Type} : Nat → List Int → (Bool → Option α) → Option α := Classical.choose impl_NatOk.ex α
theorem impl_NatOk.eq : @impl_NatOk = @impl_NatOk.b := funext fun α => congrFun (Classical.choose_spec impl_NatOk.ex) α

/-- impl.nats$1 -/
noncomputable def impl_nats_1.b {α : Type} (N : Nat) (a1033 : List Int) (k0 : Bool → Option α) : Option α :=
 impl_NatOk N a1033
  (fun x1063 =>
   let x1064 := !x1063
   k0 x1064)
theorem impl_nats_1.ex : ∃ f : ((α : Type) → Nat → List Int → (Bool → Option α) → Option α), f = fun α => @impl_nats_1.b α := ⟨_, rfl⟩
noncomputable def impl_nats_1 {α : Type} : Nat → List Int → (Bool → Option α) → Option α := Classical.choose impl_nats_1.ex α
theorem impl_nats_1.eq : @impl_nats_1 = @impl_nats_1.b := funext fun α => congrFun (Classical.choose_spec impl_nats_1.ex) α

noncomputable def slices_IndexFunc_int_int__impl_nats_1_L0r {α : Type} (N : Nat) (next : List (List Int) → Int → Int → Option α) (k0 : Int → Option α) (k1 : Option α) (v1028 : List (List Int)) (v1029 : Int) (v1030 : Int) : Option α :=
 let x1031 := decide (v1030 < v1029)
 bif x1031 then
  bif (decide (v1030 < (0 : Int))) then
   none
  else
   match v1028[v1030.toNat]? with
   | some x1032 =>
    impl_nats_1 N x1032
     (fun x1065 =>
      bif x1065 then
       k0 v1030
      else
       let x1066 := (IntKind.i64.wrap (v1030 + (1 : Int)))
       next v1028 v1029 x1066)
   | none => none
 else
  k1
noncomputable def slices_IndexFunc_int_int__impl_nats_1_L0.b {α : Type} (N n : Nat) (v1028 : List (List Int)) (v1029 : Int) (v1030 : Int) (k0 : Int → Option α) (k1 : Option α) : Option α :=
  Nat.rec (motive := fun _ => List (List Int) → Int → Int → Option α) (fun _ _ _ => none) (fun _ next => slices_IndexFunc_int_int__impl_nats_1_L0r N next k0 k1) n v1028 v1029 v1030
theorem slices_IndexFunc_int_int__impl_nats_1_L0.ex : ∃ f : ((α : Type) → Nat → Nat → List (List Int) → Int → Int → (Int → Option α) → (Option α) → Option α), f = fun α => @slices_IndexFunc_int_int__impl_nats_1_L0.b α := ⟨_, rfl⟩
noncomputable def slices_IndexFunc_int_int__impl_nats_1_L0 {α : Type} : Nat → Nat → List (List Int) → Int → Int → (Int → Option α) → (Option α) → Option α := Classical.choose slices_IndexFunc_int_int__impl_nats_1_L0.ex α
theorem slices_IndexFunc_int_int__impl_nats_1_L0.eq : @slices_IndexFunc_int_int__impl_nats_1_L0 = @slices_IndexFunc_int_int__impl_nats_1_L0.b := funext fun α => congrFun (Classical.choose_spec slices_IndexFunc_int_int__impl_nats_1_L0.ex) α
theorem slices_IndexFunc_int_int__impl_nats_1_L0.zero {α : Type} (N : Nat) (v1028 : List (List Int)) (v1029 : Int) (v1030 : Int) (k0 : Int → Option α) (k1 : Option α) : slices_IndexFunc_int_int__impl_nats_1_L0 N 0 v1028 v1029 v1030 k0 k1 = none := by rw [slices_IndexFunc_int_int__impl_nats_1_L0.eq]; rfl
theorem slices_IndexFunc_int_int__impl_nats_1_L0.succ {α : Type} (N n : Nat) (v1028 : List (List Int)) (v1029 : Int) (v1030 : Int) (k0 : Int → Option α) (k1 : Option α) : slices_IndexFunc_int_int__impl_nats_1_L0 N (n + 1) v1028 v1029 v1030 k0 k1 = slices_IndexFunc_int_int__impl_nats_1_L0r N (fun y0 y1 y2 => slices_IndexFunc_int_int__impl_nats_1_L0 N n y0 y1 y2 k0 k1) k0 k1 v1028 v1029 v1030 := by rw [slices_IndexFunc_int_int__impl_nats_1_L0.eq]; rfl
/-- slices.IndexFunc[[][]int,[]int] -/
noncomputable def slices_IndexFunc_int_int__impl_nats_1.b {α : Type} (N : Nat) (a1026 : List (List Int)) (k0 : Int → Option α) : Option α :=
 let x1027 := ((a1026.length : Nat) : Int)
 slices_IndexFunc_int_int__impl_nats_1_L0 N N a1026 x1027 (0 : Int)
  (fun x1067 =>
   k0 x1067)
  (
   k0 (-1 : Int))
theorem slices_IndexFunc_int_int__impl_nats_1.ex : ∃ f : ((α : Type) → Nat → List (List Int) → (Int → Option α) → Option α), f = fun α => @slices_IndexFunc_int_int__impl_nats_1.b α := ⟨_, rfl⟩
noncomputable def slices_IndexFunc_int_int__impl_nats_1 {α : Type} : Nat → List (List Int) → (Int → Option α) → Option α := Classical.choose slices_IndexFunc_int_int__impl_nats_1.ex α
theorem slices_IndexFunc_int_int__impl_nats_1.eq : @slices_IndexFunc_int_int__impl_nats_1 = @slices_IndexFunc_int_int__impl_nats_1.b := funext fun α => congrFun (Classical.choose_spec slices_IndexFunc_int_int__impl_nats_1.ex) α

/-- slices.ContainsFunc[[][]int,[]int] -/
noncomputable def slices_ContainsFunc_int_int__impl_nats_1.b {α : Type} (N : Nat) (a1025 : List (List Int)) (k0 : Bool → Option α) : Option α :=
 slices_IndexFunc_int_int__impl_nats_1 N a1025
  (fun x1068 =>
   let x1069 := (decide ((0 : Int) ≤ x1068))
   k0 x1069)
theorem slices_ContainsFunc_int_int__impl_nats_1.ex : ∃ f : ((α : Type) → Nat → List (List Int) → (Bool → Option α) → Option α), f = fun α => @slices_ContainsFunc_int_int__impl_nats_1.b α := ⟨_, rfl⟩
noncomputable def slices_ContainsFunc_int_int__impl_nats_1 {α : Type} : Nat → List (List Int) → (Bool → Option α) → Option α := Classical.choose slices_ContainsFunc_int_int__impl_nats_1.ex α
theorem slices_ContainsFunc_int_int__impl_nats_1.eq : @slices_ContainsFunc_int_int__impl_nats_1 = @slices_ContainsFunc_int_int__impl_nats_1.b := funext fun α => congrFun (Classical.choose_spec slices_ContainsFunc_int_int__impl_nats_1.ex) α

/-- impl.nats -/
noncomputable def impl_nats.b {α : Type} (N : Nat) (a1024 : List (List Int)) (k0 : Bool → Option α) : Option α :=
 slices_ContainsFunc_int_int__impl_nats_1 N a1024
  (fun x1070 =>
   let x1071 := !x1070
   k0 x1071)
theorem impl_nats.ex : ∃ f : ((α : Type) → Nat → List (List Int) → (Bool → Option α) → Option α), f = fun α => @impl_nats.b α := ⟨_, rfl⟩
noncomputable def impl_nats {α : Type} : Nat → List (List Int) → (Bool → Option α) → Option α := Classical.choose impl_nats.ex α
theorem impl_nats.eq : @impl_nats = @impl_nats.b := funext fun α => congrFun (Classical.choose_spec impl_nats.ex) α

noncomputable def impl_natCmp_L0r {α : Type} (N : Nat) (next : List Int → List Int → Int → Option α) (k0 : Int → Option α) (k1 : Option α) (v1166 : List Int) (v1167 : List Int) (v1168 : Int) : Option α :=
 let x1169 := (decide ((0 : Int) ≤ v1168))
 bif x1169 then
  bif (decide (v1168 < (0 : Int))) then
   none
  else
   match v1166[v1168.toNat]? with
   | some x1170 =>
    bif (decide (v1168 < (0 : Int))) then
     none
    else
     match v1167[v1168.toNat]? with
     | some x1171 =>
      let x1172 := !(decide (x1170 = x1171))
      bif x1172 then
       bif (decide (v1168 < (0 : Int))) then
        none
       else
        match v1166[v1168.toNat]? with
        | some x1173 =>
         bif (decide (v1168 < (0 : Int))) then
          none
         else
          match v1167[v1168.toNat]? with
          | some x1174 =>
           let x1175 := IntKind.i64.wrap (x1173 - x1174)
           let x1176 := (minI (1 : Int) x1175)
           let x1177 := (maxI (-1 : Int) x1176)
           k0 x1177
          | none => none
        | none => none
      else
       let x1178 := (IntKind.i64.wrap (v1168 - (1 : Int)))
       next v1166 v1167 x1178
     | none => none
   | none => none
 else
  k1
noncomputable def impl_natCmp_L0.b {α : Type} (N n : Nat) (v1166 : List Int) (v1167 : List Int) (v1168 : Int) (k0 : Int → Option α) (k1 : Option α) : Option α :=
  Nat.rec (motive := fun _ => List Int → List Int → Int → Option α) (fun _ _ _ => none) (fun _ next => impl_natCmp_L0r N next k0 k1) n v1166 v1167 v1168
theorem impl_natCmp_L0.ex : ∃ f : ((α : Type) → Nat → Nat → List Int → List Int → Int → (Int → Option α) → (Option α) → Option α), f = fun α => @impl_natCmp_L0.b α := ⟨_, rfl⟩
noncomputable def impl_natCmp_L0 {α : Type} : Nat → Nat → List Int → List Int → Int → (Int → Option α) → (Option α) → Option α := Classical.choose impl_natCmp_L0.ex α
theorem impl_natCmp_L0.eq : @impl_natCmp_L0 = @impl_natCmp_L0.b := funext fun α => congrFun (Classical.choose_spec impl_natCmp_L0.ex) α
theorem impl_natCmp_L0.zero {α : Type} (N : Nat) (v1166 : List Int) (v1167 : List Int) (v1168 : Int) (k0 : Int → Option α) (k1 : Option α) : impl_natCmp_L0 N 0 v1166 v1167 v1168 k0 k1 = none := by rw [impl_natCmp_L0.eq]; rfl
theorem impl_natCmp_L0.succ {α : Type} (N n : Nat) (v1166 : List Int) (v1167 : List Int) (v1168 : Int) (k0 : Int → Option α) (k1 : Option α) : impl_natCmp_L0 N (n + 1) v1166 v1167 v1168 k0 k1 = impl_natCmp_L0r N (fun y0 y1 y2 => impl_natCmp_L0 N n y0 y1 y2 k0 k1) k0 k1 v1166 v1167 v1168 := by rw [impl_natCmp_L0.eq]; rfl
/-- impl.natCmp -/
noncomputable def impl_natCmp.b {α : Type} (N : Nat) (a1154 : List Int) (a1155 : List Int) (k0 : Int → Option α) : Option α :=
 let x1156 := ((a1154.length : Nat) : Int)
 let x1157 := ((a1155.length : Nat) : Int)
 let x1158 := !(decide (x1156 = x1157))
 bif x1158 then
  let x1159 := ((a1154.length : Nat) : Int)
  let x1160 := ((a1155.length : Nat) : Int)
  let x1161 := IntKind.i64.wrap (x1159 - x1160)
  let x1162 := (minI (1 : Int) x1161)
  let x1163 := (maxI (-1 : Int) x1162)
  k0 x1163
 else
  let x1164 := ((a1154.length : Nat) : Int)
  let x1165 := (IntKind.i64.wrap (x1164 - (1 : Int)))
  impl_natCmp_L0 N N a1154 a1155 x1165
   (fun x1179 =>
    k0 x1179)
   (
    k0 (0 : Int))
theorem impl_natCmp.ex : ∃ f : ((α : Type) → Nat → List Int → List Int → (Int → Option α) → Option α), f = fun α => @impl_natCmp.b α := ⟨_, rfl⟩
noncomputable def impl_natCmp {α : Type} : Nat → List Int → List Int → (Int → Option α) → Option α := Classical.choose impl_natCmp.ex α
theorem impl_natCmp.eq : @impl_natCmp = @impl_natCmp.b := funext fun α => congrFun (Classical.choose_spec impl_natCmp.ex) α

noncomputable def impl_trim_L0r {α : Type} (N : Nat) (next : List Int → Option α) (k0 : List Int → Option α) (v1207 : List Int) : Option α :=
 let x1208 := ((v1207.length : Nat) : Int)
 let x1209 := (decide ((0 : Int) < x1208))
 bif x1209 then
  let x1210 := ((v1207.length : Nat) : Int)
  let x1211 := (IntKind.i64.wrap (x1210 - (1 : Int)))
  bif (decide (x1211 < (0 : Int))) then
   none
  else
   match v1207[x1211.toNat]? with
   | some x1212 =>
    let x1213 := (decide (x1212 = (0 : Int)))
    bif x1213 then
     let x1214 := ((v1207.length : Nat) : Int)
     let x1215 := (IntKind.i64.wrap (x1214 - (1 : Int)))
     bif (decide ((0 : Int) ≤ x1215)) then
      bif (decide (x1215 ≤ ((v1207.length : Nat) : Int))) then
       let x1216 := v1207.take x1215.toNat
       next x1216
      else
       none
     else
      none
    else
     k0 v1207
   | none => none
 else
  k0 v1207
noncomputable def impl_trim_L0.b {α : Type} (N n : Nat) (v1207 : List Int) (k0 : List Int → Option α) : Option α :=
  Nat.rec (motive := fun _ => List Int → Option α) (fun _ => none) (fun _ next => impl_trim_L0r N next k0) n v1207
theorem impl_trim_L0.ex : ∃ f : ((α : Type) → Nat → Nat → List Int → (List Int → Option α) → Option α), f = fun α => @impl_trim_L0.b α := ⟨_, rfl⟩
noncomputable def impl_trim_L0 {α : Type} : Nat → Nat → List Int → (List Int → Option α) → Option α := Classical.choose impl_trim_L0.ex α
theorem impl_trim_L0.eq : @impl_trim_L0 = @impl_trim_L0.b := funext fun α => congrFun (Classical.choose_spec impl_trim_L0.ex) α
theorem impl_trim_L0.zero {α : Type} (N : Nat) (v1207 : List Int) (k0 : List Int → Option α) : impl_trim_L0 N 0 v1207 k0 = none := by rw [impl_trim_L0.eq]; rfl
theorem impl_trim_L0.succ {α : Type} (N n : Nat) (v1207 : List Int) (k0 : List Int → Option α) : impl_trim_L0 N (n + 1) v1207 k0 = impl_trim_L0r N (fun y0 => impl_trim_L0 N n y0 k0) k0 v1207 := by rw [impl_trim_L0.eq]; rfl
/-- impl.trim -/
noncomputable def impl_trim.b {α : Type} (N : Nat) (a1206 : List Int) (k0 : List Int → Option α) : Option α :=
 impl_trim_L0 N N a1206
  (fun x1217 =>
   k0 x1217)
theorem impl_trim.ex : ∃ f : ((α : Type) → Nat → List Int → (List Int → Option α) → Option α), f = fun α => @impl_trim.b α := ⟨_, rfl⟩
noncomputable def impl_trim {α : Type} : Nat → List Int → (List Int → Option α) → Option α := Classical.choose impl_trim.ex α
theorem impl_trim.eq : @impl_trim = @impl_trim.b := funext fun α => congrFun (Classical.choose_spec impl_trim.ex) α

noncomputable def math_bits_Len64_J1.b {α : Type} (N : Nat) (v1227 : Int) (v1228 : Int) (k0 : Int → Int → Option α) : Option α :=
 let x1229 := (decide ((4294967296 : Int) ≤ v1227))
 bif x1229 then
  let x1230 := (shrI .u64 v1227 (32 : Int))
  k0 x1230 (32 : Int)
 else
  k0 v1227 v1228
theorem math_bits_Len64_J1.ex : ∃ f : ((α : Type) → Nat → Int → Int → (Int → Int → Option α) → Option α), f = fun α => @math_bits_Len64_J1.b α := ⟨_, rfl⟩
noncomputable def math_bits_Len64_J1 {α : Type} : Nat → Int → Int → (Int → Int → Option α) → Option α := Classical.choose math_bits_Len64_J1.ex α
theorem math_bits_Len64_J1.eq : @math_bits_Len64_J1 = @math_bits_Len64_J1.b := funext fun α => congrFun (Classical.choose_spec math_bits_Len64_J1.ex) α
noncomputable def math_bits_Len64_J4.b {α : Type} (N : Nat) (v1233 : Int) (v1234 : Int) (k0 : Int → Int → Option α) : Option α :=
 let x1235 := (decide ((65536 : Int) ≤ v1233))
 bif x1235 then
  let x1236 := (shrI .u64 v1233 (16 : Int))
  let x1237 := (IntKind.i64.wrap (v1234 + (16 : Int)))
  k0 x1236 x1237
 else
  k0 v1233 v1234
theorem math_bits_Len64_J4.ex : ∃ f : ((α : Type) → Nat → Int → Int → (Int → Int → Option α) → Option α), f = fun α => @math_bits_Len64_J4.b α := ⟨_, rfl⟩
noncomputable def math_bits_Len64_J4 {α : Type} : Nat → Int → Int → (Int → Int → Option α) → Option α := Classical.choose math_bits_Len64_J4.ex α
theorem math_bits_Len64_J4.eq : @math_bits_Len64_J4 = @math_bits_Len64_J4.b := funext fun α => congrFun (Classical.choose_spec math_bits_Len64_J4.ex) α
noncomputable def math_bits_Len64_J7.b {α : Type} (N : Nat) (v1240 : Int) (v1241 : Int) (k0 : Int → Int → Option α) : Option α :=
 let x1242 := (decide ((256 : Int) ≤ v1240))
 bif x1242 then
  let x1243 := (shrI .u64 v1240 (8 : Int))
  let x1244 := (IntKind.i64.wrap (v1241 + (8 : Int)))
  k0 x1243 x1244
 else
  k0 v1240 v1241
theorem math_bits_Len64_J7.ex : ∃ f : ((α : Type) → Nat → Int → Int → (Int → Int → Option α) → Option α), f = fun α => @math_bits_Len64_J7.b α := ⟨_, rfl⟩
noncomputable def math_bits_Len64_J7 {α : Type} : Nat → Int → Int → (Int → Int → Option α) → Option α := Classical.choose math_bits_Len64_J7.ex α
theorem math_bits_Len64_J7.eq : @math_bits_Len64_J7 = @math_bits_Len64_J7.b := funext fun α => congrFun (Classical.choose_spec math_bits_Len64_J7.ex) α
/-- math/bits.Len64 -/
noncomputable def math_bits_Len64.b {α : Type} (N : Nat) (a1226 : Int) (k0 : Int → Option α) : Option α :=
 math_bits_Len64_J1 N a1226 (0 : Int)
  (fun x1231 x1232 =>
   math_bits_Len64_J4 N x1231 x1232
    (fun x1238 x1239 =>
     math_bits_Len64_J7 N x1238 x1239
      (fun x1245 x1246 =>
       let x1247 := IntKind.u8.wrap x1245
       bif (decide (x1247 < (0 : Int))) then
        none
       else
        match ((⟨#[0, 1, 2, 2, 3, 3, 3, 3, 4, 4, 4, 4, 4, 4, 4, 4, 5, 5, 5, 5, 5, 5, 5, 5, 5, 5, 5, 5, 5, 5, 5, 5, 6, 6, 6, 6, 6, 6, 6, 6, 6, 6, 6, 6, 6, 6, 6, 6, 6, 6, 6, 6, 6, 6, 6, 6, 6, 6, 6, 6, 6, 6, 6, 6, 7, 7, 7, 7, 7, 7, 7, 7, 7, 7, 7, 7, 7, 7, 7, 7, 7, 7, 7, 7, 7, 7, 7, 7, 7, 7, 7, 7, 7, 7, 7, 7, 7, 7, 7, 7, 7, 7, 7, 7, 7, 7, 7, 7, 7, 7, 7, 7, 7, 7, 7, 7, 7, 7, 7, 7, 7, 7, 7, 7, 7, 7, 7, 7, 8, 8, 8, 8, 8, 8, 8, 8, 8, 8, 8, 8, 8, 8, 8, 8, 8, 8, 8, 8, 8, 8, 8, 8, 8, 8, 8, 8, 8, 8, 8, 8, 8, 8, 8, 8, 8, 8, 8, 8, 8, 8, 8, 8, 8, 8, 8, 8, 8, 8, 8, 8, 8, 8, 8, 8, 8, 8, 8, 8, 8, 8, 8, 8, 8, 8, 8, 8, 8, 8, 8, 8, 8, 8, 8, 8, 8, 8, 8, 8, 8, 8, 8, 8, 8, 8, 8, 8, 8, 8, 8, 8, 8, 8, 8, 8, 8, 8, 8, 8, 8, 8, 8, 8, 8, 8, 8, 8, 8, 8, 8, 8, 8, 8, 8, 8, 8, 8, 8, 8, 8, 8, 8, 8, 8, 8, 8, 8]⟩ : ByteArray)[x1247.toNat]? : Option UInt8) with
        | some x1248 =>
         let x1249 := ((x1248.toNat : Nat) : Int)
         let x1250 := IntKind.i64.wrap x1249
         let x1251 := IntKind.i64.wrap (x1246 + x1250)
         k0 x1251
        | none => none)))
theorem math_bits_Len64.ex : ∃ f : ((α : Type) → Nat → Int → (Int → Option α) → Option α), f = fun α => @math_bits_Len64.b α := ⟨_, rfl⟩
noncomputable def math_bits_Len64 {α : Type} : Nat → Int → (Int → Option α) → Option α := Classical.choose math_bits_Len64.ex α
theorem math_bits_Len64.eq : @math_bits_Len64 = @math_bits_Len64.b := funext fun α => congrFun (Classical.choose_spec math_bits_Len64.ex) α

/-- math/bits.Len -/
noncomputable def math_bits_Len.b {α : Type} (N : Nat) (a1225 : Int) (k0 : Int → Option α) : Option α :=
 math_bits_Len64 N a1225
  (fun x1252 =>
   k0 x1252)
theorem math_bits_Len.ex : ∃ f : ((α : Type) → Nat → Int → (Int → Option α) → Option α), f = fun α => @math_bits_Len.b α := ⟨_, rfl⟩
noncomputable def math_bits_Len {α : Type} : Nat → Int → (Int → Option α) → Option α := Classical.choose math_bits_Len.ex α
theorem math_bits_Len.eq : @math_bits_Len = @math_bits_Len.b := funext fun α => congrFun (Classical.choose_spec math_bits_Len.ex) α

/-- slices.Clone[[]int,int] -/
noncomputable def slices_Clone_int_int {α : Type} (N : Nat) (a1 : List Int) (k0 : List Int → Option α) : Option α :=
  bif decide (([] : List Int).length + a1.length ≤ 8796093022208) then k0 a1 else none

noncomputable def impl_natShift_J10.b {α : Type} (N : Nat) (v1331 : List Int) (v1332 : Int) (v1333 : Int) (v1334 : Int) (v1335 : Int) (v1336 : Int) (v1337 : List Int) (k0 : List Int → Int → Int → Int → Int → List Int → Option α) : Option α :=
 let x1338 := IntKind.i64.wrap (v1332 + v1334)
 let x1339 := (IntKind.i64.wrap (x1338 + (1 : Int)))
 let x1340 := ((v1331.length : Nat) : Int)
 let x1341 := decide (x1339 < x1340)
 bif x1341 then
  bif (decide (v1334 < (0 : Int))) then
   none
  else
   bif decide (v1334.toNat < v1337.length) then
    match v1337[v1334.toNat]? with
    | some x1342 =>
     let x1343 := IntKind.i64.wrap (v1332 + v1334)
     let x1344 := (IntKind.i64.wrap (x1343 + (1 : Int)))
     bif (decide (x1344 < (0 : Int))) then
      none
     else
      match v1331[x1344.toNat]? with
      | some x1345 =>
       let x1346 := (IntKind.i64.wrap ((16 : Int) - v1333))
       bif (decide (x1346 < (0 : Int))) then
        none
       else
        let x1347 := shlI .i64 x1345 x1346
        let x1348 := (bitI .and .i64 x1347 (65535 : Int))
        let x1349 := bitI .or .i64 x1342 x1348
        bif (decide (v1334 < (0 : Int))) then
         none
        else
         bif decide (v1334.toNat < v1337.length) then
          match v1337[v1334.toNat]? with
          | some x1350 =>
           let x1351 := v1337.set v1334.toNat x1349
           k0 v1331 v1332 v1333 v1335 v1336 x1351
          | none => none
         else
          none
      | none => none
    | none => none
   else
    none
 else
  k0 v1331 v1332 v1333 v1335 v1336 v1337
theorem impl_natShift_J10.ex : ∃ f : ((α : Type) → Nat → List Int → Int → Int → Int → Int → Int → List Int → (List Int → Int → Int → Int → Int → List Int → Option α) → Option α), f = fun α => @impl_natShift_J10.b α := ⟨_, rfl⟩
noncomputable def impl_natShift_J10 {α : Type} : Nat → List Int → Int → Int → Int → Int → Int → List Int → (List Int → Int → Int → Int → Int → List Int → Option α) → Option α := Classical.choose impl_natShift_J10.ex α
theorem impl_natShift_J10.eq : @impl_natShift_J10 = @impl_natShift_J10.b := funext fun α => congrFun (Classical.choose_spec impl_natShift_J10.ex) α
noncomputable def impl_natShift_L0r {α : Type} (N : Nat) (next : List Int → Int → Int → Int → Int → List Int → Option α) (k0 : List Int → Option α) (v1320 : List Int) (v1321 : Int) (v1322 : Int) (v1323 : Int) (v1324 : Int) (v1325 : List Int) : Option α :=
 let x1326 := decide (v1324 < v1323)
 bif x1326 then
  bif (decide (v1324 < (0 : Int))) then
   none
  else
   bif decide (v1324.toNat < v1325.length) then
    match v1325[v1324.toNat]? with
    | some x1327 =>
     bif (decide (v1322 < (0 : Int))) then
      none
     else
      let x1328 := shrI .i64 x1327 v1322
      bif (decide (v1324 < (0 : Int))) then
       none
      else
       bif decide (v1324.toNat < v1325.length) then
        match v1325[v1324.toNat]? with
        | some x1329 =>
         let x1330 := v1325.set v1324.toNat x1328
         impl_natShift_J10 N v1320 v1321 v1322 v1324 v1323 v1324 x1330
          (fun x1352 x1353 x1354 x1355 x1356 x1357 =>
           let x1358 := (IntKind.i64.wrap (x1356 + (1 : Int)))
           next x1352 x1353 x1354 x1355 x1358 x1357)
        | none => none
       else
        none
    | none => none
   else
    none
 else
  k0 v1325
noncomputable def impl_natShift_L0.b {α : Type} (N n : Nat) (v1320 : List Int) (v1321 : Int) (v1322 : Int) (v1323 : Int) (v1324 : Int) (v1325 : List Int) (k0 : List Int → Option α) : Option α :=
  Nat.rec (motive := fun _ => List Int → Int → Int → Int → Int → List Int → Option α) (fun _ _ _ _ _ _ => none) (fun _ next => impl_natShift_L0r N next k0) n v1320 v1321 v1322 v1323 v1324 v1325
theorem impl_natShift_L0.ex : ∃ f : ((α : Type) → Nat → Nat → List Int → Int → Int → Int → Int → List Int → (List Int → Option α) → Option α), f = fun α => @impl_natShift_L0.b α := ⟨_, rfl⟩
noncomputable def impl_natShift_L0 {α : Type} : Nat → Nat → List Int → Int → Int → Int → Int → List Int → (List Int → Option α) → Option α := Classical.choose impl_natShift_L0.ex α
theorem impl_natShift_L0.eq : @impl_natShift_L0 = @impl_natShift_L0.b := funext fun α => congrFun (Classical.choose_spec impl_natShift_L0.ex) α
theorem impl_natShift_L0.zero {α : Type} (N : Nat) (v1320 : List Int) (v1321 : Int) (v1322 : Int) (v1323 : Int) (v1324 : Int) (v1325 : List Int) (k0 : List Int → Option α) : impl_natShift_L0 N 0 v1320 v1321 v1322 v1323 v1324 v1325 k0 = none := by rw [impl_natShift_L0.eq]; rfl
theorem impl_natShift_L0.succ {α : Type} (N n : Nat) (v1320 : List Int) (v1321 : Int) (v1322 : Int) (v1323 : Int) (v1324 : Int) (v1325 : List Int) (k0 : List Int → Option α) : impl_natShift_L0 N (n + 1) v1320 v1321 v1322 v1323 v1324 v1325 k0 = impl_natShift_L0r N (fun y0 y1 y2 y3 y4 y5 => impl_natShift_L0 N n y0 y1 y2 y3 y4 y5 k0) k0 v1320 v1321 v1322 v1323 v1324 v1325 := by rw [impl_natShift_L0.eq]; rfl
noncomputable def impl_natShift_L2r {α : Type} (N : Nat) (next : Int → List Int → Int → Int → List Int → Option α) (k0 : List Int → Option α) (v1367 : Int) (v1368 : List Int) (v1369 : Int) (v1370 : Int) (v1371 : List Int) : Option α :=
 let x1372 := decide (v1370 < v1369)
 bif x1372 then
  bif (decide (v1370 < (0 : Int))) then
   none
  else
   match v1368[v1370.toNat]? with
   | some x1373 =>
    let x1374 := (Int.tmod v1367 (16 : Int))
    bif (decide (x1374 < (0 : Int))) then
     none
    else
     let x1375 := shlI .i64 x1373 x1374
     let x1376 := (IntKind.i64.wrap (Int.tdiv v1367 (16 : Int)))
     let x1377 := IntKind.i64.wrap (x1376 + v1370)
     bif (decide (x1377 < (0 : Int))) then
      none
     else
      bif decide (x1377.toNat < v1371.length) then
       match v1371[x1377.toNat]? with
       | some x1378 =>
        let x1379 := (bitI .and .i64 x1375 (65535 : Int))
        let x1380 := bitI .or .i64 x1378 x1379
        bif (decide (x1377 < (0 : Int))) then
         none
        else
         bif decide (x1377.toNat < v1371.length) then
          match v1371[x1377.toNat]? with
          | some x1381 =>
           let x1382 := v1371.set x1377.toNat x1380
           let x1383 := (IntKind.i64.wrap (Int.tdiv v1367 (16 : Int)))
           let x1384 := IntKind.i64.wrap (x1383 + v1370)
           let x1385 := (IntKind.i64.wrap (x1384 + (1 : Int)))
           let x1386 := (shrI .i64 x1375 (16 : Int))
           bif (decide (x1385 < (0 : Int))) then
            none
           else
            bif decide (x1385.toNat < x1382.length) then
             match x1382[x1385.toNat]? with
             | some x1387 =>
              let x1388 := x1382.set x1385.toNat x1386
              let x1389 := (IntKind.i64.wrap (v1370 + (1 : Int)))
              next v1367 v1368 v1369 x1389 x1388
             | none => none
            else
             none
          | none => none
         else
          none
       | none => none
      else
       none
   | none => none
 else
  k0 v1371
noncomputable def impl_natShift_L2.b {α : Type} (N n : Nat) (v1367 : Int) (v1368 : List Int) (v1369 : Int) (v1370 : Int) (v1371 : List Int) (k0 : List Int → Option α) : Option α :=
  Nat.rec (motive := fun _ => Int → List Int → Int → Int → List Int → Option α) (fun _ _ _ _ _ => none) (fun _ next => impl_natShift_L2r N next k0) n v1367 v1368 v1369 v1370 v1371
theorem impl_natShift_L2.ex : ∃ f : ((α : Type) → Nat → Nat → Int → List Int → Int → Int → List Int → (List Int → Option α) → Option α), f = fun α => @impl_natShift_L2.b α := ⟨_, rfl⟩
noncomputable def impl_natShift_L2 {α : Type} : Nat → Nat → Int → List Int → Int → Int → List Int → (List Int → Option α) → Option α := Classical.choose impl_natShift_L2.ex α
theorem impl_natShift_L2.eq : @impl_natShift_L2 = @impl_natShift_L2.b := funext fun α => congrFun (Classical.choose_spec impl_natShift_L2.ex) α
theorem impl_natShift_L2.zero {α : Type} (N : Nat) (v1367 : Int) (v1368 : List Int) (v1369 : Int) (v1370 : Int) (v1371 : List Int) (k0 : List Int → Option α) : impl_natShift_L2 N 0 v1367 v1368 v1369 v1370 v1371 k0 = none := by rw [impl_natShift_L2.eq]; rfl
theorem impl_natShift_L2.succ {α : Type} (N n : Nat) (v1367 : Int) (v1368 : List Int) (v1369 : Int) (v1370 : Int) (v1371 : List Int) (k0 : List Int → Option α) : impl_natShift_L2 N (n + 1) v1367 v1368 v1369 v1370 v1371 k0 = impl_natShift_L2r N (fun y0 y1 y2 y3 y4 => impl_natShift_L2 N n y0 y1 y2 y3 y4 k0) k0 v1367 v1368 v1369 v1370 v1371 := by rw [impl_natShift_L2.eq]; rfl
/-- impl.natShift -/
noncomputable def impl_natShift.b {α : Type} (N : Nat) (a1308 : List Int) (a1309 : Int) (k0 : List Int → Option α) : Option α :=
 let x1310 := (decide (a1309 < (0 : Int)))
 bif x1310 then
  let x1311 := IntKind.i64.wrap (0 - a1309)
  let x1312 := (IntKind.i64.wrap (Int.tdiv x1311 (16 : Int)))
  let x1313 := IntKind.i64.wrap (0 - a1309)
  let x1314 := (Int.tmod x1313 (16 : Int))
  let x1315 := ((a1308.length : Nat) : Int)
  let x1316 := decide (x1315 ≤ x1312)
  bif x1316 then
   k0 []
  else
   bif (decide ((0 : Int) ≤ x1312)) then
    bif (decide (x1312 ≤ ((a1308.length : Nat) : Int))) then
     let x1317 := a1308.drop x1312.toNat
     slices_Clone_int_int N x1317
      (fun x1318 =>
       let x1319 := ((x1318.length : Nat) : Int)
       impl_natShift_L0 N N a1308 x1312 x1314 x1319 (0 : Int) x1318
        (fun x1359 =>
         impl_trim N x1359
          (fun x1360 =>
           k0 x1360)))
    else
     none
   else
    none
 else
  let x1361 := (IntKind.i64.wrap (Int.tdiv a1309 (16 : Int)))
  let x1362 := ((a1308.length : Nat) : Int)
  let x1363 := IntKind.i64.wrap (x1361 + x1362)
  let x1364 := (IntKind.i64.wrap (x1363 + (1 : Int)))
  bif (decide ((0 : Int) ≤ x1364)) then
   bif decide (x1364 ≤ x1364) then
    bif (decide (x1364 ≤ ((8796093022208 : Nat) : Int))) then
     let x1365 := (List.replicate x1364.toNat (0 : Int))
     let x1366 := ((a1308.length : Nat) : Int)
     impl_natShift_L2 N N a1309 a1308 x1366 (0 : Int) x1365
      (fun x1390 =>
       impl_trim N x1390
        (fun x1391 =>
         k0 x1391))
    else
     none
   else
    none
  else
   none
theorem impl_natShift.ex : ∃ f : ((α : Type) → Nat → List Int → Int → (List Int → Option α) → Option α), f = fun α => @impl_natShift.b α := ⟨_, rfl⟩
noncomputable def impl_natShift {α : Type} : Nat → List Int → Int → (List Int → Option α) → Option α := Classical.choose impl_natShift.ex α
theorem impl_natShift.eq : @impl_natShift = @impl_natShift.b := funext fun α => congrFun (Classical.choose_spec impl_natShift.ex) α

noncomputable def impl_natDiv_L0r {α : Type} (N : Nat) (next : List Int → List Int → Int → Int → List Int → Option α) (k0 : Int → List Int → Option α) (v1188 : List Int) (v1189 : List Int) (v1190 : Int) (v1191 : Int) (v1192 : List Int) : Option α :=
 let x1193 := (decide ((0 : Int) ≤ v1191))
 bif x1193 then
  let x1194 := (shlI .i64 v1190 (16 : Int))
  bif (decide (v1191 < (0 : Int))) then
   none
  else
   match v1188[v1191.toNat]? with
   | some x1195 =>
    let x1196 := bitI .or .i64 x1194 x1195
    match v1189[0]? with
    | some x1197 =>
     bif (decide (x1197 = (0 : Int))) then
      none
     else
      let x1198 := IntKind.i64.wrap (Int.tdiv x1196 x1197)
      match v1189[0]? with
      | some x1199 =>
       bif (decide (x1199 = (0 : Int))) then
        none
       else
        let x1200 := Int.tmod x1196 x1199
        bif (decide (v1191 < (0 : Int))) then
         none
        else
         bif decide (v1191.toNat < v1192.length) then
          match v1192[v1191.toNat]? with
          | some x1201 =>
           let x1202 := v1192.set v1191.toNat x1198
           let x1203 := (IntKind.i64.wrap (v1191 - (1 : Int)))
           next v1188 v1189 x1200 x1203 x1202
          | none => none
         else
          none
      | none => none
    | none => none
   | none => none
 else
  k0 v1190 v1192
noncomputable def impl_natDiv_L0.b {α : Type} (N n : Nat) (v1188 : List Int) (v1189 : List Int) (v1190 : Int) (v1191 : Int) (v1192 : List Int) (k0 : Int → List Int → Option α) : Option α :=
  Nat.rec (motive := fun _ => List Int → List Int → Int → Int → List Int → Option α) (fun _ _ _ _ _ => none) (fun _ next => impl_natDiv_L0r N next k0) n v1188 v1189 v1190 v1191 v1192
theorem impl_natDiv_L0.ex : ∃ f : ((α : Type) → Nat → Nat → List Int → List Int → Int → Int → List Int → (Int → List Int → Option α) → Option α), f = fun α => @impl_natDiv_L0.b α := ⟨_, rfl⟩
noncomputable def impl_natDiv_L0 {α : Type} : Nat → Nat → List Int → List Int → Int → Int → List Int → (Int → List Int → Option α) → Option α := Classical.choose impl_natDiv_L0.ex α
theorem impl_natDiv_L0.eq : @impl_natDiv_L0 = @impl_natDiv_L0.b := funext fun α => congrFun (Classical.choose_spec impl_natDiv_L0.ex) α
theorem impl_natDiv_L0.zero {α : Type} (N : Nat) (v1188 : List Int) (v1189 : List Int) (v1190 : Int) (v1191 : Int) (v1192 : List Int) (k0 : Int → List Int → Option α) : impl_natDiv_L0 N 0 v1188 v1189 v1190 v1191 v1192 k0 = none := by rw [impl_natDiv_L0.eq]; rfl
theorem impl_natDiv_L0.succ {α : Type} (N n : Nat) (v1188 : List Int) (v1189 : List Int) (v1190 : Int) (v1191 : Int) (v1192 : List Int) (k0 : Int → List Int → Option α) : impl_natDiv_L0 N (n + 1) v1188 v1189 v1190 v1191 v1192 k0 = impl_natDiv_L0r N (fun y0 y1 y2 y3 y4 => impl_natDiv_L0 N n y0 y1 y2 y3 y4 k0) k0 v1188 v1189 v1190 v1191 v1192 := by rw [impl_natDiv_L0.eq]; rfl
noncomputable def impl_natDiv_L2r {α : Type} (N : Nat) (next : List Int → Int → List Int → Int → List Int → Option α) (k0 : Int → List Int → Int → List Int → Option α) (v1398 : List Int) (v1399 : Int) (v1400 : List Int) (v1401 : Int) (v1402 : List Int) : Option α :=
 let x1403 := ((v1402.length : Nat) : Int)
 let x1404 := ((v1398.length : Nat) : Int)
 let x1405 := (IntKind.i64.wrap (x1404 + (1 : Int)))
 let x1406 := decide (x1403 < x1405)
 bif x1406 then
  let x1407 := [(0 : Int)]
  bif decide (v1402.length + x1407.length ≤ 8796093022208) then
   let x1408 := v1402 ++ x1407
   next v1398 v1399 v1400 v1401 x1408
  else
   none
 else
  k0 v1399 v1400 v1401 v1402
noncomputable def impl_natDiv_L2.b {α : Type} (N n : Nat) (v1398 : List Int) (v1399 : Int) (v1400 : List Int) (v1401 : Int) (v1402 : List Int) (k0 : Int → List Int → Int → List Int → Option α) : Option α :=
  Nat.rec (motive := fun _ => List Int → Int → List Int → Int → List Int → Option α) (fun _ _ _ _ _ => none) (fun _ next => impl_natDiv_L2r N next k0) n v1398 v1399 v1400 v1401 v1402
theorem impl_natDiv_L2.ex : ∃ f : ((α : Type) → Nat → Nat → List Int → Int → List Int → Int → List Int → (Int → List Int → Int → List Int → Option α) → Option α), f = fun α => @impl_natDiv_L2.b α := ⟨_, rfl⟩
noncomputable def impl_natDiv_L2 {α : Type} : Nat → Nat → List Int → Int → List Int → Int → List Int → (Int → List Int → Int → List Int → Option α) → Option α := Classical.choose impl_natDiv_L2.ex α
theorem impl_natDiv_L2.eq : @impl_natDiv_L2 = @impl_natDiv_L2.b := funext fun α => congrFun (Classical.choose_spec impl_natDiv_L2.ex) α
theorem impl_natDiv_L2.zero {α : Type} (N : Nat) (v1398 : List Int) (v1399 : Int) (v1400 : List Int) (v1401 : Int) (v1402 : List Int) (k0 : Int → List Int → Int → List Int → Option α) : impl_natDiv_L2 N 0 v1398 v1399 v1400 v1401 v1402 k0 = none := by rw [impl_natDiv_L2.eq]; rfl
theorem impl_natDiv_L2.succ {α : Type} (N n : Nat) (v1398 : List Int) (v1399 : Int) (v1400 : List Int) (v1401 : Int) (v1402 : List Int) (k0 : Int → List Int → Int → List Int → Option α) : impl_natDiv_L2 N (n + 1) v1398 v1399 v1400 v1401 v1402 k0 = impl_natDiv_L2r N (fun y0 y1 y2 y3 y4 => impl_natDiv_L2 N n y0 y1 y2 y3 y4 k0) k0 v1398 v1399 v1400 v1401 v1402 := by rw [impl_natDiv_L2.eq]; rfl
noncomputable def impl_natDiv_L6r {α : Type} (N : Nat) (next : Int → List Int → Int → Int → Int → Int → List Int → List Int → Option α) (k0 : Int → List Int → Int → Int → Int → List Int → List Int → Option α) (v1439 : Int) (v1440 : List Int) (v1441 : Int) (v1442 : Int) (v1443 : Int) (v1444 : Int) (v1445 : List Int) (v1446 : List Int) : Option α :=
 let x1447 := (decide ((65536 : Int) ≤ v1443))
 bif x1447 then
  let x1448 := (IntKind.i64.wrap (v1443 - (1 : Int)))
  let x1449 := (IntKind.i64.wrap (v1441 - (1 : Int)))
  bif (decide (x1449 < (0 : Int))) then
   none
  else
   match v1440[x1449.toNat]? with
   | some x1450 =>
    let x1451 := IntKind.i64.wrap (v1444 + x1450)
    let x1452 := (decide ((65536 : Int) ≤ x1451))
    bif x1452 then
     k0 v1439 v1440 v1441 v1442 x1448 v1445 v1446
    else
     next v1439 v1440 v1441 v1442 x1448 x1451 v1445 v1446
   | none => none
 else
  let x1453 := (IntKind.i64.wrap (v1441 - (2 : Int)))
  bif (decide (x1453 < (0 : Int))) then
   none
  else
   match v1440[x1453.toNat]? with
   | some x1454 =>
    let x1455 := IntKind.i64.wrap (v1443 * x1454)
    let x1456 := (shlI .i64 v1444 (16 : Int))
    let x1457 := IntKind.i64.wrap (v1442 + v1441)
    let x1458 := (IntKind.i64.wrap (x1457 - (2 : Int)))
    bif (decide (x1458 < (0 : Int))) then
     none
    else
     bif decide (x1458.toNat < v1445.length) then
      match v1445[x1458.toNat]? with
      | some x1459 =>
       let x1460 := bitI .or .i64 x1456 x1459
       let x1461 := decide (x1460 < x1455)
       bif x1461 then
        let x1462 := (IntKind.i64.wrap (v1443 - (1 : Int)))
        let x1463 := (IntKind.i64.wrap (v1441 - (1 : Int)))
        bif (decide (x1463 < (0 : Int))) then
         none
        else
         match v1440[x1463.toNat]? with
         | some x1464 =>
          let x1465 := IntKind.i64.wrap (v1444 + x1464)
          let x1466 := (decide ((65536 : Int) ≤ x1465))
          bif x1466 then
           k0 v1439 v1440 v1441 v1442 x1462 v1445 v1446
          else
           next v1439 v1440 v1441 v1442 x1462 x1465 v1445 v1446
         | none => none
       else
        k0 v1439 v1440 v1441 v1442 v1443 v1445 v1446
      | none => none
     else
      none
   | none => none
noncomputable def impl_natDiv_L6.b {α : Type} (N n : Nat) (v1439 : Int) (v1440 : List Int) (v1441 : Int) (v1442 : Int) (v1443 : Int) (v1444 : Int) (v1445 : List Int) (v1446 : List Int) (k0 : Int → List Int → Int → Int → Int → List Int → List Int → Option α) : Option α :=
  Nat.rec (motive := fun _ => Int → List Int → Int → Int → Int → Int → List Int → List Int → Option α) (fun _ _ _ _ _ _ _ _ => none) (fun _ next => impl_natDiv_L6r N next k0) n v1439 v1440 v1441 v1442 v1443 v1444 v1445 v1446
theorem impl_natDiv_L6.ex : ∃ f : ((α : Type) → Nat → Nat → Int → List Int → Int → Int → Int → Int → List Int → List Int → (Int → List Int → Int → Int → Int → List Int → List Int → Option α) → Option α), f = fun α => @impl_natDiv_L6.b α := ⟨_, rfl⟩
noncomputable def impl_natDiv_L6 {α : Type} : Nat → Nat → Int → List Int → Int → Int → Int → Int → List Int → List Int → (Int → List Int → Int → Int → Int → List Int → List Int → Option α) → Option α := Classical.choose impl_natDiv_L6.ex α
theorem impl_natDiv_L6.eq : @impl_natDiv_L6 = @impl_natDiv_L6.b := funext fun α => congrFun (Classical.choose_spec impl_natDiv_L6.ex) α
theorem impl_natDiv_L6.zero {α : Type} (N : Nat) (v1439 : Int) (v1440 : List Int) (v1441 : Int) (v1442 : Int) (v1443 : Int) (v1444 : Int) (v1445 : List Int) (v1446 : List Int) (k0 : Int → List Int → Int → Int → Int → List Int → List Int → Option α) : impl_natDiv_L6 N 0 v1439 v1440 v1441 v1442 v1443 v1444 v1445 v1446 k0 = none := by rw [impl_natDiv_L6.eq]; rfl
theorem impl_natDiv_L6.succ {α : Type} (N n : Nat) (v1439 : Int) (v1440 : List Int) (v1441 : Int) (v1442 : Int) (v1443 : Int) (v1444 : Int) (v1445 : List Int) (v1446 : List Int) (k0 : Int → List Int → Int → Int → Int → List Int → List Int → Option α) : impl_natDiv_L6 N (n + 1) v1439 v1440 v1441 v1442 v1443 v1444 v1445 v1446 k0 = impl_natDiv_L6r N (fun y0 y1 y2 y3 y4 y5 y6 y7 => impl_natDiv_L6 N n y0 y1 y2 y3 y4 y5 y6 y7 k0) k0 v1439 v1440 v1441 v1442 v1443 v1444 v1445 v1446 := by rw [impl_natDiv_L6.eq]; rfl
noncomputable def impl_natDiv_J34.b {α : Type} (N : Nat) (v1493 : Int) (v1494 : List Int) (v1495 : Int) (v1496 : Int) (v1497 : Int) (v1498 : Int) (v1499 : Int) (v1500 : Int) (v1501 : List Int) (v1502 : Int) (v1503 : Int) (v1504 : List Int) (v1505 : List Int) (k0 : Int → List Int → Int → Int → Int → Int → Int → Int → List Int → Int → Int → List Int → List Int → Option α) : Option α :=
 let x1506 := (decide (v1500 < (0 : Int)))
 bif x1506 then
  let x1507 := IntKind.i64.wrap (0 - v1500)
  let x1508 := (IntKind.i64.wrap (x1507 + (65536 : Int)))
  let x1509 := (IntKind.i64.wrap (x1508 - (1 : Int)))
  let x1510 := (IntKind.i64.wrap (Int.tdiv x1509 (65536 : Int)))
  let x1511 := (IntKind.i64.wrap (x1510 * (65536 : Int)))
  let x1512 := IntKind.i64.wrap (v1500 + x1511)
  k0 v1493 v1494 v1495 v1496 v1497 x1510 v1499 x1512 v1501 v1502 v1503 v1504 v1505
 else
  k0 v1493 v1494 v1495 v1496 v1497 v1498 v1499 v1500 v1501 v1502 v1503 v1504 v1505
theorem impl_natDiv_J34.ex : ∃ f : ((α : Type) → Nat → Int → List Int → Int → Int → Int → Int → Int → Int → List Int → Int → Int → List Int → List Int → (Int → List Int → Int → Int → Int → Int → Int → Int → List Int → Int → Int → List Int → List Int → Option α) → Option α), f = fun α => @impl_natDiv_J34.b α := ⟨_, rfl⟩
noncomputable def impl_natDiv_J34 {α : Type} : Nat → Int → List Int → Int → Int → Int → Int → Int → Int → List Int → Int → Int → List Int → List Int → (Int → List Int → Int → Int → Int → Int → Int → Int → List Int → Int → Int → List Int → List Int → Option α) → Option α := Classical.choose impl_natDiv_J34.ex α
theorem impl_natDiv_J34.eq : @impl_natDiv_J34 = @impl_natDiv_J34.b := funext fun α => congrFun (Classical.choose_spec impl_natDiv_J34.ex) α
noncomputable def impl_natDiv_L8r {α : Type} (N : Nat) (next : Int → List Int → Int → Int → Int → Int → List Int → Int → Int → List Int → List Int → Option α) (k0 : Int → List Int → Int → Int → Int → Int → List Int → List Int → Option α) (v1475 : Int) (v1476 : List Int) (v1477 : Int) (v1478 : Int) (v1479 : Int) (v1480 : Int) (v1481 : List Int) (v1482 : Int) (v1483 : Int) (v1484 : List Int) (v1485 : List Int) : Option α :=
 let x1486 := decide (v1483 < v1482)
 bif x1486 then
  bif (decide (v1483 < (0 : Int))) then
   none
  else
   match v1481[v1483.toNat]? with
   | some x1487 =>
    let x1488 := IntKind.i64.wrap (v1478 + v1483)
    bif (decide (x1488 < (0 : Int))) then
     none
    else
     bif decide (x1488.toNat < v1484.length) then
      match v1484[x1488.toNat]? with
      | some x1489 =>
       let x1490 := IntKind.i64.wrap (x1489 - v1480)
       let x1491 := IntKind.i64.wrap (v1479 * x1487)
       let x1492 := IntKind.i64.wrap (x1490 - x1491)
       impl_natDiv_J34 N v1475 v1476 v1477 v1478 v1479 (0 : Int) v1483 x1492 v1481 v1482 v1483 v1484 v1485
        (fun x1513 x1514 x1515 x1516 x1517 x1518 x1519 x1520 x1521 x1522 x1523 x1524 x1525 =>
         let x1526 := IntKind.i64.wrap (x1516 + x1519)
         bif (decide (x1526 < (0 : Int))) then
          none
         else
          bif decide (x1526.toNat < x1524.length) then
           match x1524[x1526.toNat]? with
           | some x1527 =>
            let x1528 := x1524.set x1526.toNat x1520
            let x1529 := (IntKind.i64.wrap (x1523 + (1 : Int)))
            next x1513 x1514 x1515 x1516 x1517 x1518 x1521 x1522 x1529 x1528 x1525
           | none => none
          else
           none)
      | none => none
     else
      none
   | none => none
 else
  k0 v1475 v1476 v1477 v1478 v1479 v1480 v1484 v1485
noncomputable def impl_natDiv_L8.b {α : Type} (N n : Nat) (v1475 : Int) (v1476 : List Int) (v1477 : Int) (v1478 : Int) (v1479 : Int) (v1480 : Int) (v1481 : List Int) (v1482 : Int) (v1483 : Int) (v1484 : List Int) (v1485 : List Int) (k0 : Int → List Int → Int → Int → Int → Int → List Int → List Int → Option α) : Option α :=
  Nat.rec (motive := fun _ => Int → List Int → Int → Int → Int → Int → List Int → Int → Int → List Int → List Int → Option α) (fun _ _ _ _ _ _ _ _ _ _ _ => none) (fun _ next => impl_natDiv_L8r N next k0) n v1475 v1476 v1477 v1478 v1479 v1480 v1481 v1482 v1483 v1484 v1485
theorem impl_natDiv_L8.ex : ∃ f : ((α : Type) → Nat → Nat → Int → List Int → Int → Int → Int → Int → List Int → Int → Int → List Int → List Int → (Int → List Int → Int → Int → Int → Int → List Int → List Int → Option α) → Option α), f = fun α => @impl_natDiv_L8.b α := ⟨_, rfl⟩
noncomputable def impl_natDiv_L8 {α : Type} : Nat → Nat → Int → List Int → Int → Int → Int → Int → List Int → Int → Int → List Int → List Int → (Int → List Int → Int → Int → Int → Int → List Int → List Int → Option α) → Option α := Classical.choose impl_natDiv_L8.ex α
theorem impl_natDiv_L8.eq : @impl_natDiv_L8 = @impl_natDiv_L8.b := funext fun α => congrFun (Classical.choose_spec impl_natDiv_L8.ex) α
theorem impl_natDiv_L8.zero {α : Type} (N : Nat) (v1475 : Int) (v1476 : List Int) (v1477 : Int) (v1478 : Int) (v1479 : Int) (v1480 : Int) (v1481 : List Int) (v1482 : Int) (v1483 : Int) (v1484 : List Int) (v1485 : List Int) (k0 : Int → List Int → Int → Int → Int → Int → List Int → List Int → Option α) : impl_natDiv_L8 N 0 v1475 v1476 v1477 v1478 v1479 v1480 v1481 v1482 v1483 v1484 v1485 k0 = none := by rw [impl_natDiv_L8.eq]; rfl
theorem impl_natDiv_L8.succ {α : Type} (N n : Nat) (v1475 : Int) (v1476 : List Int) (v1477 : Int) (v1478 : Int) (v1479 : Int) (v1480 : Int) (v1481 : List Int) (v1482 : Int) (v1483 : Int) (v1484 : List Int) (v1485 : List Int) (k0 : Int → List Int → Int → Int → Int → Int → List Int → List Int → Option α) : impl_natDiv_L8 N (n + 1) v1475 v1476 v1477 v1478 v1479 v1480 v1481 v1482 v1483 v1484 v1485 k0 = impl_natDiv_L8r N (fun y0 y1 y2 y3 y4 y5 y6 y7 y8 y9 y10 => impl_natDiv_L8 N n y0 y1 y2 y3 y4 y5 y6 y7 y8 y9 y10 k0) k0 v1475 v1476 v1477 v1478 v1479 v1480 v1481 v1482 v1483 v1484 v1485 := by rw [impl_natDiv_L8.eq]; rfl
noncomputable def impl_natDiv_L10r {α : Type} (N : Nat) (next : Int → List Int → Int → Int → Int → Int → List Int → Int → Int → List Int → List Int → Option α) (k0 : Int → List Int → Int → Int → Int → Int → List Int → List Int → Option α) (v1555 : Int) (v1556 : List Int) (v1557 : Int) (v1558 : Int) (v1559 : Int) (v1560 : Int) (v1561 : List Int) (v1562 : Int) (v1563 : Int) (v1564 : List Int) (v1565 : List Int) : Option α :=
 let x1566 := decide (v1563 < v1562)
 bif x1566 then
  bif (decide (v1563 < (0 : Int))) then
   none
  else
   match v1561[v1563.toNat]? with
   | some x1567 =>
    let x1568 := IntKind.i64.wrap (v1558 + v1563)
    bif (decide (x1568 < (0 : Int))) then
     none
    else
     bif decide (x1568.toNat < v1564.length) then
      match v1564[x1568.toNat]? with
      | some x1569 =>
       let x1570 := IntKind.i64.wrap (x1569 + x1567)
       let x1571 := IntKind.i64.wrap (x1570 + v1560)
       let x1572 := IntKind.i64.wrap (v1558 + v1563)
       let x1573 := (bitI .and .i64 x1571 (65535 : Int))
       let x1574 := (shrI .i64 x1571 (16 : Int))
       bif (decide (x1572 < (0 : Int))) then
        none
       else
        bif decide (x1572.toNat < v1564.length) then
         match v1564[x1572.toNat]? with
         | some x1575 =>
          let x1576 := v1564.set x1572.toNat x1573
          let x1577 := (IntKind.i64.wrap (v1563 + (1 : Int)))
          next v1555 v1556 v1557 v1558 v1559 x1574 v1561 v1562 x1577 x1576 v1565
         | none => none
        else
         none
      | none => none
     else
      none
   | none => none
 else
  k0 v1555 v1556 v1557 v1558 v1559 v1560 v1564 v1565
noncomputable def impl_natDiv_L10.b {α : Type} (N n : Nat) (v1555 : Int) (v1556 : List Int) (v1557 : Int) (v1558 : Int) (v1559 : Int) (v1560 : Int) (v1561 : List Int) (v1562 : Int) (v1563 : Int) (v1564 : List Int) (v1565 : List Int) (k0 : Int → List Int → Int → Int → Int → Int → List Int → List Int → Option α) : Option α :=
  Nat.rec (motive := fun _ => Int → List Int → Int → Int → Int → Int → List Int → Int → Int → List Int → List Int → Option α) (fun _ _ _ _ _ _ _ _ _ _ _ => none) (fun _ next => impl_natDiv_L10r N next k0) n v1555 v1556 v1557 v1558 v1559 v1560 v1561 v1562 v1563 v1564 v1565
theorem impl_natDiv_L10.ex : ∃ f : ((α : Type) → Nat → Nat → Int → List Int → Int → Int → Int → Int → List Int → Int → Int → List Int → List Int → (Int → List Int → Int → Int → Int → Int → List Int → List Int → Option α) → Option α), f = fun α => @impl_natDiv_L10.b α := ⟨_, rfl⟩
noncomputable def impl_natDiv_L10 {α : Type} : Nat → Nat → Int → List Int → Int → Int → Int → Int → List Int → Int → Int → List Int → List Int → (Int → List Int → Int → Int → Int → Int → List Int → List Int → Option α) → Option α := Classical.choose impl_natDiv_L10.ex α
theorem impl_natDiv_L10.eq : @impl_natDiv_L10 = @impl_natDiv_L10.b := funext fun α => congrFun (Classical.choose_spec impl_natDiv_L10.ex) α
theorem impl_natDiv_L10.zero {α : Type} (N : Nat) (v1555 : Int) (v1556 : List Int) (v1557 : Int) (v1558 : Int) (v1559 : Int) (v1560 : Int) (v1561 : List Int) (v1562 : Int) (v1563 : Int) (v1564 : List Int) (v1565 : List Int) (k0 : Int → List Int → Int → Int → Int → Int → List Int → List Int → Option α) : impl_natDiv_L10 N 0 v1555 v1556 v1557 v1558 v1559 v1560 v1561 v1562 v1563 v1564 v1565 k0 = none := by rw [impl_natDiv_L10.eq]; rfl
theorem impl_natDiv_L10.succ {α : Type} (N n : Nat) (v1555 : Int) (v1556 : List Int) (v1557 : Int) (v1558 : Int) (v1559 : Int) (v1560 : Int) (v1561 : List Int) (v1562 : Int) (v1563 : Int) (v1564 : List Int) (v1565 : List Int) (k0 : Int → List Int → Int → Int → Int → Int → List Int → List Int → Option α) : impl_natDiv_L10 N (n + 1) v1555 v1556 v1557 v1558 v1559 v1560 v1561 v1562 v1563 v1564 v1565 k0 = impl_natDiv_L10r N (fun y0 y1 y2 y3 y4 y5 y6 y7 y8 y9 y10 => impl_natDiv_L10 N n y0 y1 y2 y3 y4 y5 y6 y7 y8 y9 y10 k0) k0 v1555 v1556 v1557 v1558 v1559 v1560 v1561 v1562 v1563 v1564 v1565 := by rw [impl_natDiv_L10.eq]; rfl
noncomputable def impl_natDiv_J40.b {α : Type} (N : Nat) (v1543 : Int) (v1544 : List Int) (v1545 : Int) (v1546 : Int) (v1547 : Int) (v1548 : List Int) (v1549 : List Int) (k0 : Int → List Int → Int → Int → Int → List Int → List Int → Option α) : Option α :=
 let x1550 := IntKind.i64.wrap (v1546 + v1545)
 bif (decide (x1550 < (0 : Int))) then
  none
 else
  bif decide (x1550.toNat < v1548.length) then
   match v1548[x1550.toNat]? with
   | some x1551 =>
    let x1552 := (decide (x1551 < (0 : Int)))
    bif x1552 then
     let x1553 := (IntKind.i64.wrap (v1547 - (1 : Int)))
     let x1554 := ((v1544.length : Nat) : Int)
     impl_natDiv_L10 N N v1543 v1544 v1545 v1546 x1553 (0 : Int) v1544 x1554 (0 : Int) v1548 v1549
      (fun x1578 x1579 x1580 x1581 x1582 x1583 x1584 x1585 =>
       let x1586 := IntKind.i64.wrap (x1581 + x1580)
       bif (decide (x1586 < (0 : Int))) then
        none
       else
        bif decide (x1586.toNat < x1584.length) then
         match x1584[x1586.toNat]? with
         | some x1587 =>
          let x1588 := IntKind.i64.wrap (x1587 + x1583)
          bif (decide (x1586 < (0 : Int))) then
           none
          else
           bif decide (x1586.toNat < x1584.length) then
            match x1584[x1586.toNat]? with
            | some x1589 =>
             let x1590 := x1584.set x1586.toNat x1588
             k0 x1578 x1579 x1580 x1581 x1582 x1590 x1585
            | none => none
           else
            none
         | none => none
        else
         none)
    else
     k0 v1543 v1544 v1545 v1546 v1547 v1548 v1549
   | none => none
  else
   none
theorem impl_natDiv_J40.ex : ∃ f : ((α : Type) → Nat → Int → List Int → Int → Int → Int → List Int → List Int → (Int → List Int → Int → Int → Int → List Int → List Int → Option α) → Option α), f = fun α => @impl_natDiv_J40.b α := ⟨_, rfl⟩
noncomputable def impl_natDiv_J40 {α : Type} : Nat → Int → List Int → Int → Int → Int → List Int → List Int → (Int → List Int → Int → Int → Int → List Int → List Int → Option α) → Option α := Classical.choose impl_natDiv_J40.ex α
theorem impl_natDiv_J40.eq : @impl_natDiv_J40 = @impl_natDiv_J40.b := funext fun α => congrFun (Classical.choose_spec impl_natDiv_J40.ex) α
noncomputable def impl_natDiv_L4r {α : Type} (N : Nat) (next : Int → List Int → Int → Int → List Int → List Int → Option α) (k0 : Int → List Int → List Int → Option α) (v1419 : Int) (v1420 : List Int) (v1421 : Int) (v1422 : Int) (v1423 : List Int) (v1424 : List Int) : Option α :=
 let x1425 := (decide ((0 : Int) ≤ v1422))
 bif x1425 then
  let x1426 := IntKind.i64.wrap (v1422 + v1421)
  bif (decide (x1426 < (0 : Int))) then
   none
  else
   bif decide (x1426.toNat < v1423.length) then
    match v1423[x1426.toNat]? with
    | some x1427 =>
     let x1428 := (shlI .i64 x1427 (16 : Int))
     let x1429 := IntKind.i64.wrap (v1422 + v1421)
     let x1430 := (IntKind.i64.wrap (x1429 - (1 : Int)))
     bif (decide (x1430 < (0 : Int))) then
      none
     else
      bif decide (x1430.toNat < v1423.length) then
       match v1423[x1430.toNat]? with
       | some x1431 =>
        let x1432 := bitI .or .i64 x1428 x1431
        let x1433 := (IntKind.i64.wrap (v1421 - (1 : Int)))
        bif (decide (x1433 < (0 : Int))) then
         none
        else
         match v1420[x1433.toNat]? with
         | some x1434 =>
          bif (decide (x1434 = (0 : Int))) then
           none
          else
           let x1435 := IntKind.i64.wrap (Int.tdiv x1432 x1434)
           let x1436 := (IntKind.i64.wrap (v1421 - (1 : Int)))
           bif (decide (x1436 < (0 : Int))) then
            none
           else
            match v1420[x1436.toNat]? with
            | some x1437 =>
             bif (decide (x1437 = (0 : Int))) then
              none
             else
              let x1438 := Int.tmod x1432 x1437
              impl_natDiv_L6 N N v1419 v1420 v1421 v1422 x1435 x1438 v1423 v1424
               (fun x1467 x1468 x1469 x1470 x1471 x1472 x1473 =>
                let x1474 := ((x1468.length : Nat) : Int)
                impl_natDiv_L8 N N x1467 x1468 x1469 x1470 x1471 (0 : Int) x1468 x1474 (0 : Int) x1472 x1473
                 (fun x1530 x1531 x1532 x1533 x1534 x1535 x1536 x1537 =>
                  let x1538 := IntKind.i64.wrap (x1533 + x1532)
                  bif (decide (x1538 < (0 : Int))) then
                   none
                  else
                   bif decide (x1538.toNat < x1536.length) then
                    match x1536[x1538.toNat]? with
                    | some x1539 =>
                     let x1540 := IntKind.i64.wrap (x1539 - x1535)
                     bif (decide (x1538 < (0 : Int))) then
                      none
                     else
                      bif decide (x1538.toNat < x1536.length) then
                       match x1536[x1538.toNat]? with
                       | some x1541 =>
                        let x1542 := x1536.set x1538.toNat x1540
                        impl_natDiv_J40 N x1530 x1531 x1532 x1533 x1534 x1542 x1537
                         (fun x1591 x1592 x1593 x1594 x1595 x1596 x1597 =>
                          bif (decide (x1594 < (0 : Int))) then
                           none
                          else
                           bif decide (x1594.toNat < x1597.length) then
                            match x1597[x1594.toNat]? with
                            | some x1598 =>
                             let x1599 := x1597.set x1594.toNat x1595
                             let x1600 := (IntKind.i64.wrap (x1594 - (1 : Int)))
                             next x1591 x1592 x1593 x1600 x1596 x1599
                            | none => none
                           else
                            none)
                       | none => none
                      else
                       none
                    | none => none
                   else
                    none))
            | none => none
         | none => none
       | none => none
      else
       none
    | none => none
   else
    none
 else
  k0 v1419 v1423 v1424
noncomputable def impl_natDiv_L4.b {α : Type} (N n : Nat) (v1419 : Int) (v1420 : List Int) (v1421 : Int) (v1422 : Int) (v1423 : List Int) (v1424 : List Int) (k0 : Int → List Int → List Int → Option α) : Option α :=
  Nat.rec (motive := fun _ => Int → List Int → Int → Int → List Int → List Int → Option α) (fun _ _ _ _ _ _ => none) (fun _ next => impl_natDiv_L4r N next k0) n v1419 v1420 v1421 v1422 v1423 v1424
theorem impl_natDiv_L4.ex : ∃ f : ((α : Type) → Nat → Nat → Int → List Int → Int → Int → List Int → List Int → (Int → List Int → List Int → Option α) → Option α), f = fun α => @impl_natDiv_L4.b α := ⟨_, rfl⟩
noncomputable def impl_natDiv_L4 {α : Type} : Nat → Nat → Int → List Int → Int → Int → List Int → List Int → (Int → List Int → List Int → Option α) → Option α := Classical.choose impl_natDiv_L4.ex α
theorem impl_natDiv_L4.eq : @impl_natDiv_L4 = @impl_natDiv_L4.b := funext fun α => congrFun (Classical.choose_spec impl_natDiv_L4.ex) α
theorem impl_natDiv_L4.zero {α : Type} (N : Nat) (v1419 : Int) (v1420 : List Int) (v1421 : Int) (v1422 : Int) (v1423 : List Int) (v1424 : List Int) (k0 : Int → List Int → List Int → Option α) : impl_natDiv_L4 N 0 v1419 v1420 v1421 v1422 v1423 v1424 k0 = none := by rw [impl_natDiv_L4.eq]; rfl
theorem impl_natDiv_L4.succ {α : Type} (N n : Nat) (v1419 : Int) (v1420 : List Int) (v1421 : Int) (v1422 : Int) (v1423 : List Int) (v1424 : List Int) (k0 : Int → List Int → List Int → Option α) : impl_natDiv_L4 N (n + 1) v1419 v1420 v1421 v1422 v1423 v1424 k0 = impl_natDiv_L4r N (fun y0 y1 y2 y3 y4 y5 => impl_natDiv_L4 N n y0 y1 y2 y3 y4 y5 k0) k0 v1419 v1420 v1421 v1422 v1423 v1424 := by rw [impl_natDiv_L4.eq]; rfl
/-- impl.natDiv -/
noncomputable def impl_natDiv.b {α : Type} (N : Nat) (a1152 : List Int) (a1153 : List Int) (k0 : List Int → List Int → Option α) : Option α :=
 impl_natCmp N a1152 a1153
  (fun x1180 =>
   let x1181 := (decide (x1180 < (0 : Int)))
   bif x1181 then
    k0 [] a1152
   else
    let x1182 := ((a1153.length : Nat) : Int)
    let x1183 := (decide (x1182 = (1 : Int)))
    bif x1183 then
     let x1184 := ((a1152.length : Nat) : Int)
     bif (decide ((0 : Int) ≤ x1184)) then
      bif decide (x1184 ≤ x1184) then
       bif (decide (x1184 ≤ ((8796093022208 : Nat) : Int))) then
        let x1185 := (List.replicate x1184.toNat (0 : Int))
        let x1186 := ((a1152.length : Nat) : Int)
        let x1187 := (IntKind.i64.wrap (x1186 - (1 : Int)))
        impl_natDiv_L0 N N a1152 a1153 (0 : Int) x1187 x1185
         (fun x1204 x1205 =>
          impl_trim N x1205
           (fun x1218 =>
            let x1219 := [x1204]
            impl_trim N x1219
             (fun x1220 =>
              k0 x1218 x1220)))
       else
        none
      else
       none
     else
      none
    else
     let x1221 := ((a1153.length : Nat) : Int)
     let x1222 := (IntKind.i64.wrap (x1221 - (1 : Int)))
     bif (decide (x1222 < (0 : Int))) then
      none
     else
      match a1153[x1222.toNat]? with
      | some x1223 =>
       let x1224 := IntKind.u64.wrap x1223
       math_bits_Len N x1224
        (fun x1253 =>
         let x1254 := (IntKind.i64.wrap ((16 : Int) - x1253))
         impl_natShift N a1153 x1254
          (fun x1392 =>
           impl_natShift N a1152 x1254
            (fun x1393 =>
             slices_Clone_int_int N x1393
              (fun x1394 =>
               let x1395 := [(0 : Int)]
               bif decide (x1394.length + x1395.length ≤ 8796093022208) then
                let x1396 := x1394 ++ x1395
                let x1397 := ((x1392.length : Nat) : Int)
                impl_natDiv_L2 N N a1152 x1254 x1392 x1397 x1396
                 (fun x1409 x1410 x1411 x1412 =>
                  let x1413 := ((x1412.length : Nat) : Int)
                  let x1414 := IntKind.i64.wrap (x1413 - x1411)
                  bif (decide ((0 : Int) ≤ x1414)) then
                   bif decide (x1414 ≤ x1414) then
                    bif (decide (x1414 ≤ ((8796093022208 : Nat) : Int))) then
                     let x1415 := (List.replicate x1414.toNat (0 : Int))
                     let x1416 := ((x1412.length : Nat) : Int)
                     let x1417 := IntKind.i64.wrap (x1416 - x1411)
                     let x1418 := (IntKind.i64.wrap (x1417 - (1 : Int)))
                     impl_natDiv_L4 N N x1409 x1410 x1411 x1418 x1412 x1415
                      (fun x1601 x1602 x1603 =>
                       impl_trim N x1603
                        (fun x1604 =>
                         impl_trim N x1602
                          (fun x1605 =>
                           let x1606 := IntKind.i64.wrap (0 - x1601)
                           impl_natShift N x1605 x1606
                            (fun x1607 =>
                             k0 x1604 x1607))))
                    else
                     none
                   else
                    none
                  else
                   none)
               else
                none))))
      | none => none)
theorem impl_natDiv.ex : ∃ f : ((α : Type) → Nat → List Int → List Int → (List Int → List Int → Option α) → Option α), f = fun α => @impl_natDiv.b α := ⟨_, rfl⟩
noncomputable def impl_natDiv {α : Type} : Nat → List Int → List Int → (List Int → List Int → Option α) → Option α := Classical.choose impl_natDiv.ex α
theorem impl_natDiv.eq : @impl_natDiv = @impl_natDiv.b := funext fun α => congrFun (Classical.choose_spec impl_natDiv.ex) α

noncomputable def impl_natGcd_L0r {α : Type} (N : Nat) (next : List Int → List Int → Option α) (k0 : List Int → Option α) (v1079 : List Int) (v1080 : List Int) : Option α :=
 let x1081 := ((v1080.length : Nat) : Int)
 let x1082 := (decide ((0 : Int) < x1081))
 bif x1082 then
  impl_natDiv N v1079 v1080
   (fun _ x1609 =>
    next v1080 x1609)
 else
  k0 v1079
noncomputable def impl_natGcd_L0.b {α : Type} (N n : Nat) (v1079 : List Int) (v1080 : List Int) (k0 : List Int → Option α) : Option α :=
  Nat.rec (motive := fun _ => List Int → List Int → Option α) (fun _ _ => none) (fun _ next => impl_natGcd_L0r N next k0) n v1079 v1080
theorem impl_natGcd_L0.ex : ∃ f : ((α : Type) → Nat → Nat → List Int → List Int → (List Int → Option α) → Option α), f = fun α => @impl_natGcd_L0.b α := ⟨_, rfl⟩
noncomputable def impl_natGcd_L0 {α : Type} : Nat → Nat → List Int → List Int → (List Int → Option α) → Option α := Classical.choose impl_natGcd_L0.ex α
theorem impl_natGcd_L0.eq : @impl_natGcd_L0 = @impl_natGcd_L0.b := funext fun α => congrFun (Classical.choose_spec impl_natGcd_L0.ex) α
theorem impl_natGcd_L0.zero {α : Type} (N : Nat) (v1079 : List Int) (v1080 : List Int) (k0 : List Int → Option α) : impl_natGcd_L0 N 0 v1079 v1080 k0 = none := by rw [impl_natGcd_L0.eq]; rfl
theorem impl_natGcd_L0.succ {α : Type} (N n : Nat) (v1079 : List Int) (v1080 : List Int) (k0 : List Int → Option α) : impl_natGcd_L0 N (n + 1) v1079 v1080 k0 = impl_natGcd_L0r N (fun y0 y1 => impl_natGcd_L0 N n y0 y1 k0) k0 v1079 v1080 := by rw [impl_natGcd_L0.eq]; rfl
/-- impl.natGcd -/
noncomputable def impl_natGcd.b {α : Type} (N : Nat) (a1077 : List Int) (a1078 : List Int) (k0 : List Int → Option α) : Option α :=
 impl_natGcd_L0 N N a1077 a1078
  (fun x1610 =>
   k0 x1610)
theorem impl_natGcd.ex : ∃ f : ((α : Type) → Nat → List Int → List Int → (List Int → Option α) → Option α), f = fun α => @impl_natGcd.b α := ⟨_, rfl⟩
noncomputable def impl_natGcd {α : Type} : Nat → List Int → List Int → (List Int → Option α) → Option α := Classical.choose impl_natGcd.ex α
theorem impl_natGcd.eq : @impl_natGcd = @impl_natGcd.b := funext fun α => congrFun (Classical.choose_spec impl_natGcd.ex) α

/-- impl.FracOk -/
noncomputable def impl_FracOk.b {α : Type} (N : Nat) (a1022 : Bool × (List Int) × (List Int) × Unit) (k0 : Bool → Option α) : Option α :=
 let x1023 := [a1022.2.1, a1022.2.2.1]
 impl_nats N x1023
  (fun x1072 =>
   bif x1072 then
    let x1073 := ((a1022.2.2.1.length : Nat) : Int)
    let x1074 := (decide ((0 : Int) < x1073))
    bif x1074 then
     let x1075 := ((a1022.2.1.length : Nat) : Int)
     let x1076 := (decide ((0 : Int) < x1075))
     bif x1076 then
      impl_natGcd N a1022.2.1 a1022.2.2.1
       (fun x1611 =>
        let x1612 := [(1 : Int)]
        impl_natCmp N x1611 x1612
         (fun x1613 =>
          let x1614 := (decide (x1613 = (0 : Int)))
          k0 x1614))
     else
      let x1615 := !a1022.1
      bif x1615 then
       impl_natGcd N a1022.2.1 a1022.2.2.1
        (fun x1616 =>
         let x1617 := [(1 : Int)]
         impl_natCmp N x1616 x1617
          (fun x1618 =>
           let x1619 := (decide (x1618 = (0 : Int)))
           k0 x1619))
      else
       k0 false
    else
     k0 false
   else
    k0 false)
theorem impl_FracOk.ex : ∃ f : ((α : Type) → Nat → (Bool × (List Int) × (List Int) × Unit) → (Bool → Option α) → Option α), f = fun α => @impl_FracOk.b α := ⟨_, rfl⟩
noncomputable def impl_FracOk {α : Type} : Nat → (Bool × (List Int) × (List Int) × Unit) → (Bool → Option α) → Option α := Classical.choose impl_FracOk.ex α
theorem impl_FracOk.eq : @impl_FracOk = @impl_FracOk.b := funext fun α => congrFun (Classical.choose_spec impl_FracOk.ex) α

/-- impl.size -/
noncomputable def impl_size.b {α : Type} (N : Nat) (a1708 : Int) (k0 : Int → Option α) : Option α :=
 let x1709 := IntKind.i64.wrap (0 - a1708)
 let x1710 := maxI a1708 x1709
 k0 x1710
theorem impl_size.ex : ∃ f : ((α : Type) → Nat → Int → (Int → Option α) → Option α), f = fun α => @impl_size.b α := ⟨_, rfl⟩
noncomputable def impl_size {α : Type} : Nat → Int → (Int → Option α) → Option α := Classical.choose impl_size.ex α
theorem impl_size.eq : @impl_size = @impl_size.b := funext fun α => congrFun (Classical.choose_spec impl_size.ex) α

/-- impl.BitPartOf -/
noncomputable def impl_BitPartOf.b {α : Type} (N : Nat) (a1702 : Int) (a1703 : Int) (k0 : (Bool × Int × Int × Unit) → Bool → Option α) : Option α :=
 impl_formatOf N a1702
  (fun x1704 _ =>
   impl_BitOk N a1702 a1703
    (fun x1706 =>
     let x1707 := !x1706
     bif x1707 then
      k0 (false, ((0 : Int), ((0 : Int), ()))) false
     else
      impl_size N a1703
       (fun x1711 =>
        let x1712 := decide (x1711 = x1704.2.2.2.1)
        bif x1712 then
         k0 (false, ((0 : Int), ((0 : Int), ()))) false
        else
         impl_size N a1703
          (fun x1713 =>
           bif (decide (x1704.1 < (0 : Int))) then
            none
           else
            let x1714 := (shlI .i64 (1 : Int) x1704.1)
            let x1715 := (IntKind.i64.wrap (x1714 - (1 : Int)))
            let x1716 := bitI .and .i64 x1713 x1715
            impl_size N a1703
             (fun x1717 =>
              bif (decide (x1704.1 < (0 : Int))) then
               none
              else
               let x1718 := shrI .i64 x1717 x1704.1
               let x1719 := (decide (x1718 = (0 : Int)))
               bif x1719 then
                let x1720 := (decide (a1703 < (0 : Int)))
                let x1721 := IntKind.u64.wrap x1716
                k0 (x1720, (x1721, (x1704.2.1, ()))) true
               else
                let x1722 := (decide (a1703 < (0 : Int)))
                bif (decide (x1704.1 < (0 : Int))) then
                 none
                else
                 let x1723 := (shlI .i64 (1 : Int) x1704.1)
                 let x1724 := bitI .or .i64 x1716 x1723
                 let x1725 := IntKind.u64.wrap x1724
                 let x1726 := IntKind.i64.wrap (x1704.2.1 + x1718)
                 let x1727 := (IntKind.i64.wrap (x1726 - (1 : Int)))
                 k0 (x1722, (x1725, (x1727, ()))) true)))))
theorem impl_BitPartOf.ex : ∃ f : ((α : Type) → Nat → Int → Int → ((Bool × Int × Int × Unit) → Bool → Option α) → Option α), f = fun α => @impl_BitPartOf.b α := ⟨_, rfl⟩
noncomputable def impl_BitPartOf {α : Type} : Nat → Int → Int → ((Bool × Int × Int × Unit) → Bool → Option α) → Option α := Classical.choose impl_BitPartOf.ex α
theorem impl_BitPartOf.eq : @impl_BitPartOf = @impl_BitPartOf.b := funext fun α => congrFun (Classical.choose_spec impl_BitPartOf.ex) α

noncomputable def impl_natOf_L0r {α : Type} (N : Nat) (next : Int → List Int → Option α) (k0 : List Int → Option α) (v1731 : Int) (v1732 : List Int) : Option α :=
 let x1733 := (decide ((0 : Int) < v1731))
 bif x1733 then
  let x1734 := (bitI .and .u64 v1731 (65535 : Int))
  let x1735 := IntKind.i64.wrap x1734
  let x1736 := [x1735]
  bif decide (v1732.length + x1736.length ≤ 8796093022208) then
   let x1737 := v1732 ++ x1736
   let x1738 := (shrI .u64 v1731 (16 : Int))
   next x1738 x1737
  else
   none
 else
  k0 v1732
noncomputable def impl_natOf_L0.b {α : Type} (N n : Nat) (v1731 : Int) (v1732 : List Int) (k0 : List Int → Option α) : Option α :=
  Nat.rec (motive := fun _ => Int → List Int → Option α) (fun _ _ => none) (fun _ next => impl_natOf_L0r N next k0) n v1731 v1732
theorem impl_natOf_L0.ex : ∃ f : ((α : Type) → Nat → Nat → Int → List Int → (List Int → Option α) → Option α), f = fun α => @impl_natOf_L0.b α := ⟨_, rfl⟩
noncomputable def impl_natOf_L0 {α : Type} : Nat → Nat → Int → List Int → (List Int → Option α) → Option α := Classical.choose impl_natOf_L0.ex α
theorem impl_natOf_L0.eq : @impl_natOf_L0 = @impl_natOf_L0.b := funext fun α => congrFun (Classical.choose_spec impl_natOf_L0.ex) α
theorem impl_natOf_L0.zero {α : Type} (N : Nat) (v1731 : Int) (v1732 : List Int) (k0 : List Int → Option α) : impl_natOf_L0 N 0 v1731 v1732 k0 = none := by rw [impl_natOf_L0.eq]; rfl
theorem impl_natOf_L0.succ {α : Type} (N n : Nat) (v1731 : Int) (v1732 : List Int) (k0 : List Int → Option α) : impl_natOf_L0 N (n + 1) v1731 v1732 k0 = impl_natOf_L0r N (fun y0 y1 => impl_natOf_L0 N n y0 y1 k0) k0 v1731 v1732 := by rw [impl_natOf_L0.eq]; rfl
/-- impl.natOf -/
noncomputable def impl_natOf.b {α : Type} (N : Nat) (a1730 : Int) (k0 : List Int → Option α) : Option α :=
 impl_natOf_L0 N N a1730 []
  (fun x1739 =>
   k0 x1739)
theorem impl_natOf.ex : ∃ f : ((α : Type) → Nat → Int → (List Int → Option α) → Option α), f = fun α => @impl_natOf.b α := ⟨_, rfl⟩
noncomputable def impl_natOf {α : Type} : Nat → Int → (List Int → Option α) → Option α := Classical.choose impl_natOf.ex α
theorem impl_natOf.eq : @impl_natOf = @impl_natOf.b := funext fun α => congrFun (Classical.choose_spec impl_natOf.ex) α

noncomputable def impl_lowest_J2.b {α : Type} (N : Nat) (v1753 : Bool) (v1754 : List Int) (v1755 : List Int) (v1756 : List Int) (v1757 : Bool) (v1758 : List Int) (v1759 : List Int) (k0 : Bool → List Int → List Int → Bool → List Int → List Int → Option α) : Option α :=
 let x1760 := [(1 : Int)]
 impl_natCmp N v1756 x1760
  (fun x1761 =>
   let x1762 := (!(decide (x1761 = (0 : Int))))
   bif x1762 then
    impl_natDiv N v1754 v1756
     (fun x1763 _ =>
      impl_natDiv N v1755 v1756
       (fun x1765 _ =>
        k0 v1753 x1763 x1765 v1757 v1758 v1759))
   else
    k0 v1753 v1754 v1755 v1757 v1758 v1759)
theorem impl_lowest_J2.ex : ∃ f : ((α : Type) → Nat → Bool → List Int → List Int → List Int → Bool → List Int → List Int → (Bool → List Int → List Int → Bool → List Int → List Int → Option α) → Option α), f = fun α => @impl_lowest_J2.b α := ⟨_, rfl⟩
noncomputable def impl_lowest_J2 {α : Type} : Nat → Bool → List Int → List Int → List Int → Bool → List Int → List Int → (Bool → List Int → List Int → Bool → List Int → List Int → Option α) → Option α := Classical.choose impl_lowest_J2.ex α
theorem impl_lowest_J2.eq : @impl_lowest_J2 = @impl_lowest_J2.b := funext fun α => congrFun (Classical.choose_spec impl_lowest_J2.ex) α
/-- impl.lowest -/
noncomputable def impl_lowest.b {α : Type} (N : Nat) (a1749 : Bool) (a1750 : List Int) (a1751 : List Int) (k0 : (Bool × (List Int) × (List Int) × Unit) → Option α) : Option α :=
 impl_natGcd N a1750 a1751
  (fun x1752 =>
   impl_lowest_J2 N a1749 a1750 a1751 x1752 false [] []
    (fun x1767 x1768 x1769 _ _ _ =>
     bif x1767 then
      let x1773 := ((x1768.length : Nat) : Int)
      let x1774 := (decide ((0 : Int) < x1773))
      k0 (x1774, (x1768, (x1769, ())))
     else
      k0 (false, (x1768, (x1769, ())))))
theorem impl_lowest.ex : ∃ f : ((α : Type) → Nat → Bool → List Int → List Int → ((Bool × (List Int) × (List Int) × Unit) → Option α) → Option α), f = fun α => @impl_lowest.b α := ⟨_, rfl⟩
noncomputable def impl_lowest {α : Type} : Nat → Bool → List Int → List Int → ((Bool × (List Int) × (List Int) × Unit) → Option α) → Option α := Classical.choose impl_lowest.ex α
theorem impl_lowest.eq : @impl_lowest = @impl_lowest.b := funext fun α => congrFun (Classical.choose_spec impl_lowest.ex) α

/-- impl.value -/
noncomputable def impl_value.b {α : Type} (N : Nat) (a1700 : Int) (a1701 : Int) (k0 : (Bool × (List Int) × (List Int) × Unit) → Option α) : Option α :=
 impl_BitPartOf N a1700 a1701
  (fun x1728 _ =>
   impl_natOf N x1728.2.1
    (fun x1740 =>
     let x1741 := (decide ((0 : Int) ≤ x1728.2.2.1))
     bif x1741 then
      impl_natShift N x1740 x1728.2.2.1
       (fun x1742 =>
        impl_whole N x1728.1 x1742
         (fun x1743 x1744 x1745 =>
          k0 (x1743, (x1744, (x1745, ())))))
     else
      let x1746 := [(1 : Int)]
      let x1747 := IntKind.i64.wrap (0 - x1728.2.2.1)
      impl_natShift N x1746 x1747
       (fun x1748 =>
        impl_lowest N x1728.1 x1740 x1748
         (fun x1775 =>
          k0 x1775))))
theorem impl_value.ex : ∃ f : ((α : Type) → Nat → Int → Int → ((Bool × (List Int) × (List Int) × Unit) → Option α) → Option α), f = fun α => @impl_value.b α := ⟨_, rfl⟩
noncomputable def impl_value {α : Type} : Nat → Int → Int → ((Bool × (List Int) × (List Int) × Unit) → Option α) → Option α := Classical.choose impl_value.ex α
theorem impl_value.eq : @impl_value = @impl_value.b := funext fun α => congrFun (Classical.choose_spec impl_value.ex) α

/-- (impl.Frac).sign -/
noncomputable def impl_Frac_sign.b {α : Type} (N : Nat) (a1779 : Bool × (List Int) × (List Int) × Unit) (k0 : Int → Option α) : Option α :=
 bif a1779.1 then
  k0 (-1 : Int)
 else
  let x1780 := ((a1779.2.1.length : Nat) : Int)
  let x1781 := (decide (x1780 = (0 : Int)))
  bif x1781 then
   k0 (0 : Int)
  else
   k0 (1 : Int)
theorem impl_Frac_sign.ex : ∃ f : ((α : Type) → Nat → (Bool × (List Int) × (List Int) × Unit) → (Int → Option α) → Option α), f = fun α => @impl_Frac_sign.b α := ⟨_, rfl⟩
noncomputable def impl_Frac_sign {α : Type} : Nat → (Bool × (List Int) × (List Int) × Unit) → (Int → Option α) → Option α := Classical.choose impl_Frac_sign.ex α
theorem impl_Frac_sign.eq : @impl_Frac_sign = @impl_Frac_sign.b := funext fun α => congrFun (Classical.choose_spec impl_Frac_sign.ex) α

noncomputable def impl_natMul_L2r {α : Type} (N : Nat) (next : List Int → Int → Int → Int → List Int → Int → Int → List Int → Int → Int → List Int → Option α) (k0 : List Int → Int → Int → List Int → Int → Int → List Int → Option α) (v1806 : List Int) (v1807 : Int) (v1808 : Int) (v1809 : Int) (v1810 : List Int) (v1811 : Int) (v1812 : Int) (v1813 : List Int) (v1814 : Int) (v1815 : Int) (v1816 : List Int) : Option α :=
 let x1817 := decide (v1815 < v1814)
 bif x1817 then
  bif (decide (v1815 < (0 : Int))) then
   none
  else
   match v1813[v1815.toNat]? with
   | some x1818 =>
    let x1819 := IntKind.i64.wrap (v1807 + v1815)
    bif (decide (x1819 < (0 : Int))) then
     none
    else
     bif decide (x1819.toNat < v1816.length) then
      match v1816[x1819.toNat]? with
      | some x1820 =>
       let x1821 := IntKind.i64.wrap (v1808 * x1818)
       let x1822 := IntKind.i64.wrap (x1820 + x1821)
       let x1823 := IntKind.i64.wrap (x1822 + v1809)
       let x1824 := IntKind.i64.wrap (v1807 + v1815)
       let x1825 := (bitI .and .i64 x1823 (65535 : Int))
       bif (decide (x1824 < (0 : Int))) then
        none
       else
        bif decide (x1824.toNat < v1816.length) then
         match v1816[x1824.toNat]? with
         | some x1826 =>
          let x1827 := v1816.set x1824.toNat x1825
          let x1828 := (shrI .i64 x1823 (16 : Int))
          let x1829 := (IntKind.i64.wrap (v1815 + (1 : Int)))
          next v1806 v1807 v1808 x1828 v1810 v1811 v1812 v1813 v1814 x1829 x1827
         | none => none
        else
         none
      | none => none
     else
      none
   | none => none
 else
  k0 v1806 v1807 v1809 v1810 v1811 v1812 v1816
noncomputable def impl_natMul_L2.b {α : Type} (N n : Nat) (v1806 : List Int) (v1807 : Int) (v1808 : Int) (v1809 : Int) (v1810 : List Int) (v1811 : Int) (v1812 : Int) (v1813 : List Int) (v1814 : Int) (v1815 : Int) (v1816 : List Int) (k0 : List Int → Int → Int → List Int → Int → Int → List Int → Option α) : Option α :=
  Nat.rec (motive := fun _ => List Int → Int → Int → Int → List Int → Int → Int → List Int → Int → Int → List Int → Option α) (fun _ _ _ _ _ _ _ _ _ _ _ => none) (fun _ next => impl_natMul_L2r N next k0) n v1806 v1807 v1808 v1809 v1810 v1811 v1812 v1813 v1814 v1815 v1816
theorem impl_natMul_L2.ex : ∃ f : ((α : Type) → Nat → Nat → List Int → Int → Int → Int → List Int → Int → Int → List Int → Int → Int → List Int → (List Int → Int → Int → List Int → Int → Int → List Int → Option α) → Option α), f = fun α => @impl_natMul_L2.b α := ⟨_, rfl⟩
noncomputable def impl_natMul_L2 {α : Type} : Nat → Nat → List Int → Int → Int → Int → List Int → Int → Int → List Int → Int → Int → List Int → (List Int → Int → Int → List Int → Int → Int → List Int → Option α) → Option α := Classical.choose impl_natMul_L2.ex α
theorem impl_natMul_L2.eq : @impl_natMul_L2 = @impl_natMul_L2.b := funext fun α => congrFun (Classical.choose_spec impl_natMul_L2.ex) α
theorem impl_natMul_L2.zero {α : Type} (N : Nat) (v1806 : List Int) (v1807 : Int) (v1808 : Int) (v1809 : Int) (v1810 : List Int) (v1811 : Int) (v1812 : Int) (v1813 : List Int) (v1814 : Int) (v1815 : Int) (v1816 : List Int) (k0 : List Int → Int → Int → List Int → Int → Int → List Int → Option α) : impl_natMul_L2 N 0 v1806 v1807 v1808 v1809 v1810 v1811 v1812 v1813 v1814 v1815 v1816 k0 = none := by rw [impl_natMul_L2.eq]; rfl
theorem impl_natMul_L2.succ {α : Type} (N n : Nat) (v1806 : List Int) (v1807 : Int) (v1808 : Int) (v1809 : Int) (v1810 : List Int) (v1811 : Int) (v1812 : Int) (v1813 : List Int) (v1814 : Int) (v1815 : Int) (v1816 : List Int) (k0 : List Int → Int → Int → List Int → Int → Int → List Int → Option α) : impl_natMul_L2 N (n + 1) v1806 v1807 v1808 v1809 v1810 v1811 v1812 v1813 v1814 v1815 v1816 k0 = impl_natMul_L2r N (fun y0 y1 y2 y3 y4 y5 y6 y7 y8 y9 y10 => impl_natMul_L2 N n y0 y1 y2 y3 y4 y5 y6 y7 y8 y9 y10 k0) k0 v1806 v1807 v1808 v1809 v1810 v1811 v1812 v1813 v1814 v1815 v1816 := by rw [impl_natMul_L2.eq]; rfl
noncomputable def impl_natMul_L0r {α : Type} (N : Nat) (next : List Int → List Int → Int → Int → List Int → Option α) (k0 : List Int → Option α) (v1798 : List Int) (v1799 : List Int) (v1800 : Int) (v1801 : Int) (v1802 : List Int) : Option α :=
 let x1803 := decide (v1801 < v1800)
 bif x1803 then
  bif (decide (v1801 < (0 : Int))) then
   none
  else
   match v1799[v1801.toNat]? with
   | some x1804 =>
    let x1805 := ((v1798.length : Nat) : Int)
    impl_natMul_L2 N N v1798 v1801 x1804 (0 : Int) v1799 v1800 v1801 v1798 x1805 (0 : Int) v1802
     (fun x1830 x1831 x1832 x1833 x1834 x1835 x1836 =>
      let x1837 := ((x1830.length : Nat) : Int)
      let x1838 := IntKind.i64.wrap (x1831 + x1837)
      bif (decide (x1838 < (0 : Int))) then
       none
      else
       bif decide (x1838.toNat < x1836.length) then
        match x1836[x1838.toNat]? with
        | some x1839 =>
         let x1840 := IntKind.i64.wrap (x1839 + x1832)
         bif (decide (x1838 < (0 : Int))) then
          none
         else
          bif decide (x1838.toNat < x1836.length) then
           match x1836[x1838.toNat]? with
           | some x1841 =>
            let x1842 := x1836.set x1838.toNat x1840
            let x1843 := (IntKind.i64.wrap (x1835 + (1 : Int)))
            next x1830 x1833 x1834 x1843 x1842
           | none => none
          else
           none
        | none => none
       else
        none)
   | none => none
 else
  k0 v1802
noncomputable def impl_natMul_L0.b {α : Type} (N n : Nat) (v1798 : List Int) (v1799 : List Int) (v1800 : Int) (v1801 : Int) (v1802 : List Int) (k0 : List Int → Option α) : Option α :=
  Nat.rec (motive := fun _ => List Int → List Int → Int → Int → List Int → Option α) (fun _ _ _ _ _ => none) (fun _ next => impl_natMul_L0r N next k0) n v1798 v1799 v1800 v1801 v1802
theorem impl_natMul_L0.ex : ∃ f : ((α : Type) → Nat → Nat → List Int → List Int → Int → Int → List Int → (List Int → Option α) → Option α), f = fun α => @impl_natMul_L0.b α := ⟨_, rfl⟩
noncomputable def impl_natMul_L0 {α : Type} : Nat → Nat → List Int → List Int → Int → Int → List Int → (List Int → Option α) → Option α := Classical.choose impl_natMul_L0.ex α
theorem impl_natMul_L0.eq : @impl_natMul_L0 = @impl_natMul_L0.b := funext fun α => congrFun (Classical.choose_spec impl_natMul_L0.ex) α
theorem impl_natMul_L0.zero {α : Type} (N : Nat) (v1798 : List Int) (v1799 : List Int) (v1800 : Int) (v1801 : Int) (v1802 : List Int) (k0 : List Int → Option α) : impl_natMul_L0 N 0 v1798 v1799 v1800 v1801 v1802 k0 = none := by rw [impl_natMul_L0.eq]; rfl
theorem impl_natMul_L0.succ {α : Type} (N n : Nat) (v1798 : List Int) (v1799 : List Int) (v1800 : Int) (v1801 : Int) (v1802 : List Int) (k0 : List Int → Option α) : impl_natMul_L0 N (n + 1) v1798 v1799 v1800 v1801 v1802 k0 = impl_natMul_L0r N (fun y0 y1 y2 y3 y4 => impl_natMul_L0 N n y0 y1 y2 y3 y4 k0) k0 v1798 v1799 v1800 v1801 v1802 := by rw [impl_natMul_L0.eq]; rfl
/-- impl.natMul -/
noncomputable def impl_natMul.b {α : Type} (N : Nat) (a1790 : List Int) (a1791 : List Int) (k0 : List Int → Option α) : Option α :=
 let x1792 := ((a1790.length : Nat) : Int)
 let x1793 := ((a1791.length : Nat) : Int)
 let x1794 := IntKind.i64.wrap (x1792 + x1793)
 let x1795 := (IntKind.i64.wrap (x1794 + (1 : Int)))
 bif (decide ((0 : Int) ≤ x1795)) then
  bif decide (x1795 ≤ x1795) then
   bif (decide (x1795 ≤ ((8796093022208 : Nat) : Int))) then
    let x1796 := (List.replicate x1795.toNat (0 : Int))
    let x1797 := ((a1790.length : Nat) : Int)
    impl_natMul_L0 N N a1791 a1790 x1797 (0 : Int) x1796
     (fun x1844 =>
      impl_trim N x1844
       (fun x1845 =>
        k0 x1845))
   else
    none
  else
   none
 else
  none
theorem impl_natMul.ex : ∃ f : ((α : Type) → Nat → List Int → List Int → (List Int → Option α) → Option α), f = fun α => @impl_natMul.b α := ⟨_, rfl⟩
noncomputable def impl_natMul {α : Type} : Nat → List Int → List Int → (List Int → Option α) → Option α := Classical.choose impl_natMul.ex α
theorem impl_natMul.eq : @impl_natMul = @impl_natMul.b := funext fun α => congrFun (Classical.choose_spec impl_natMul.ex) α

/-- (impl.Frac).cmp -/
noncomputable def impl_Frac_cmp.b {α : Type} (N : Nat) (a1777 : Bool × (List Int) × (List Int) × Unit) (a1778 : Bool × (List Int) × (List Int) × Unit) (k0 : Int → Option α) : Option α :=
 impl_Frac_sign N a1777
  (fun x1782 =>
   impl_Frac_sign N a1778
    (fun x1783 =>
     let x1784 := !(decide (x1782 = x1783))
     bif x1784 then
      impl_Frac_sign N a1777
       (fun x1785 =>
        impl_Frac_sign N a1778
         (fun x1786 =>
          let x1787 := IntKind.i64.wrap (x1785 - x1786)
          let x1788 := (minI (1 : Int) x1787)
          let x1789 := (maxI (-1 : Int) x1788)
          k0 x1789))
     else
      impl_natMul N a1777.2.1 a1778.2.2.1
       (fun x1846 =>
        impl_natMul N a1778.2.1 a1777.2.2.1
         (fun x1847 =>
          impl_natCmp N x1846 x1847
           (fun x1848 =>
            bif a1777.1 then
             let x1849 := IntKind.i64.wrap (0 - x1848)
             k0 x1849
            else
             k0 x1848)))))
theorem impl_Frac_cmp.ex : ∃ f : ((α : Type) → Nat → (Bool × (List Int) × (List Int) × Unit) → (Bool × (List Int) × (List Int) × Unit) → (Int → Option α) → Option α), f = fun α => @impl_Frac_cmp.b α := ⟨_, rfl⟩
noncomputable def impl_Frac_cmp {α : Type} : Nat → (Bool × (List Int) × (List Int) × Unit) → (Bool × (List Int) × (List Int) × Unit) → (Int → Option α) → Option α := Classical.choose impl_Frac_cmp.ex α
theorem impl_Frac_cmp.eq : @impl_Frac_cmp = @impl_Frac_cmp.b := funext fun α => congrFun (Classical.choose_spec impl_Frac_cmp.ex) α

/-- impl.PairHas -/
noncomputable def impl_PairHas.b {α : Type} (N : Nat) (a1017 : Int) (a1018 : Int × Int × Unit) (a1019 : Bool × (List Int) × (List Int) × Unit) (k0 : Bool → Option α) : Option α :=
 impl_BitTop N a1017
  (fun x1020 =>
   impl_PairOk N a1017 a1018
    (fun x1021 =>
     bif x1021 then
      impl_FracOk N a1019
       (fun x1620 =>
        bif x1620 then
         let x1621 := IntKind.i64.wrap (0 - x1020)
         let x1622 := decide (a1018.1 = x1621)
         bif x1622 then
          let x1623 := decide (a1018.2.1 = x1020)
          bif x1623 then
           k0 true
          else
           impl_value N a1017 a1018.2.1
            (fun x1776 =>
             impl_Frac_cmp N a1019 x1776
              (fun x1850 =>
               let x1851 := (decide (x1850 ≤ (0 : Int)))
               k0 x1851))
         else
          impl_value N a1017 a1018.1
           (fun x1852 =>
            impl_Frac_cmp N x1852 a1019
             (fun x1853 =>
              let x1854 := (decide (x1853 ≤ (0 : Int)))
              bif x1854 then
               let x1855 := decide (a1018.2.1 = x1020)
               bif x1855 then
                k0 true
               else
                impl_value N a1017 a1018.2.1
                 (fun x1856 =>
                  impl_Frac_cmp N a1019 x1856
                   (fun x1857 =>
                    let x1858 := (decide (x1857 ≤ (0 : Int)))
                    k0 x1858))
              else
               k0 false))
        else
         k0 false)
     else
      k0 false))
theorem impl_PairHas.ex : ∃ f : ((α : Type) → Nat → Int → (Int × Int × Unit) → (Bool × (List Int) × (List Int) × Unit) → (Bool → Option α) → Option α), f = fun α => @impl_PairHas.b α := ⟨_, rfl⟩
noncomputable def impl_PairHas {α : Type} : Nat → Int → (Int × Int × Unit) → (Bool × (List Int) × (List Int) × Unit) → (Bool → Option α) → Option α := Classical.choose impl_PairHas.ex α
theorem impl_PairHas.eq : @impl_PairHas = @impl_PairHas.b := funext fun α => congrFun (Classical.choose_spec impl_PairHas.ex) α

/-- impl.SpanHas -/
noncomputable def impl_SpanHas.b {α : Type} (N : Nat) (a1014 : Int) (a1015 : Bool × Int × Int × Unit) (a1016 : Bool × (List Int) × (List Int) × Unit) (k0 : Bool → Option α) : Option α :=
 bif a1015.1 then
  impl_PairHas N a1014 (a1015.2.1, (a1015.2.2.1, ())) a1016
   (fun x1859 =>
    k0 x1859)
 else
  k0 false
theorem impl_SpanHas.ex : ∃ f : ((α : Type) → Nat → Int → (Bool × Int × Int × Unit) → (Bool × (List Int) × (List Int) × Unit) → (Bool → Option α) → Option α), f = fun α => @impl_SpanHas.b α := ⟨_, rfl⟩
noncomputable def impl_SpanHas {α : Type} : Nat → Int → (Bool × Int × Int × Unit) → (Bool × (List Int) × (List Int) × Unit) → (Bool → Option α) → Option α := Classical.choose impl_SpanHas.ex α
theorem impl_SpanHas.eq : @impl_SpanHas = @impl_SpanHas.b := funext fun α => congrFun (Classical.choose_spec impl_SpanHas.ex) α

/-- loop.example/pinfold/impl.rootDown: called within itself once more: not followed. -/
noncomputable def impl_rootDown_b {α : Type} (N : Nat) (a1874 : Int) (a1875 : Int) (a1876 : Int) : Option α := none

/-- impl.natBits -/
noncomputable def impl_natBits.b {α : Type} (N : Nat) (a1908 : List Int) (k0 : Int → Option α) : Option α :=
 let x1909 := ((a1908.length : Nat) : Int)
 let x1910 := (decide (x1909 = (0 : Int)))
 bif x1910 then
  k0 (0 : Int)
 else
  let x1911 := ((a1908.length : Nat) : Int)
  let x1912 := (IntKind.i64.wrap (x1911 - (1 : Int)))
  let x1913 := (IntKind.i64.wrap ((16 : Int) * x1912))
  let x1914 := ((a1908.length : Nat) : Int)
  let x1915 := (IntKind.i64.wrap (x1914 - (1 : Int)))
  bif (decide (x1915 < (0 : Int))) then
   none
  else
   match a1908[x1915.toNat]? with
   | some x1916 =>
    let x1917 := IntKind.u64.wrap x1916
    math_bits_Len N x1917
     (fun x1918 =>
      let x1919 := IntKind.i64.wrap (x1913 + x1918)
      k0 x1919)
   | none => none
theorem impl_natBits.ex : ∃ f : ((α : Type) → Nat → List Int → (Int → Option α) → Option α), f = fun α => @impl_natBits.b α := ⟨_, rfl⟩
noncomputable def impl_natBits {α : Type} : Nat → List Int → (Int → Option α) → Option α := Classical.choose impl_natBits.ex α
theorem impl_natBits.eq : @impl_natBits = @impl_natBits.b := funext fun α => congrFun (Classical.choose_spec impl_natBits.ex) α

noncomputable def impl_natPow_L0r {α : Type} (N : Nat) (next : List Int → List Int → Int → Int → Option α) (k0 : List Int → Option α) (v1954 : List Int) (v1955 : List Int) (v1956 : Int) (v1957 : Int) : Option α :=
 let x1958 := decide (v1957 < v1956)
 bif x1958 then
  impl_natMul N v1955 v1954
   (fun x1959 =>
    let x1960 := ((x1959.length : Nat) : Int)
    let x1961 := (decide ((1024 : Int) < x1960))
    bif x1961 then
     k0 x1959
    else
     let x1962 := (IntKind.i64.wrap (v1957 + (1 : Int)))
     next v1954 x1959 v1956 x1962)
 else
  k0 v1955
noncomputable def impl_natPow_L0.b {α : Type} (N n : Nat) (v1954 : List Int) (v1955 : List Int) (v1956 : Int) (v1957 : Int) (k0 : List Int → Option α) : Option α :=
  Nat.rec (motive := fun _ => List Int → List Int → Int → Int → Option α) (fun _ _ _ _ => none) (fun _ next => impl_natPow_L0r N next k0) n v1954 v1955 v1956 v1957
theorem impl_natPow_L0.ex : ∃ f : ((α : Type) → Nat → Nat → List Int → List Int → Int → Int → (List Int → Option α) → Option α), f = fun α => @impl_natPow_L0.b α := ⟨_, rfl⟩
noncomputable def impl_natPow_L0 {α : Type} : Nat → Nat → List Int → List Int → Int → Int → (List Int → Option α) → Option α := Classical.choose impl_natPow_L0.ex α
theorem impl_natPow_L0.eq : @impl_natPow_L0 = @impl_natPow_L0.b := funext fun α => congrFun (Classical.choose_spec impl_natPow_L0.ex) α
theorem impl_natPow_L0.zero {α : Type} (N : Nat) (v1954 : List Int) (v1955 : List Int) (v1956 : Int) (v1957 : Int) (k0 : List Int → Option α) : impl_natPow_L0 N 0 v1954 v1955 v1956 v1957 k0 = none := by rw [impl_natPow_L0.eq]; rfl
theorem impl_natPow_L0.succ {α : Type} (N n : Nat) (v1954 : List Int) (v1955 : List Int) (v1956 : Int) (v1957 : Int) (k0 : List Int → Option α) : impl_natPow_L0 N (n + 1) v1954 v1955 v1956 v1957 k0 = impl_natPow_L0r N (fun y0 y1 y2 y3 => impl_natPow_L0 N n y0 y1 y2 y3 k0) k0 v1954 v1955 v1956 v1957 := by rw [impl_natPow_L0.eq]; rfl
/-- impl.natPow -/
noncomputable def impl_natPow.b {α : Type} (N : Nat) (a1951 : List Int) (a1952 : Int) (k0 : List Int → Option α) : Option α :=
 let x1953 := [(1 : Int)]
 impl_natPow_L0 N N a1951 x1953 a1952 (0 : Int)
  (fun x1963 =>
   k0 x1963)
theorem impl_natPow.ex : ∃ f : ((α : Type) → Nat → List Int → Int → (List Int → Option α) → Option α), f = fun α => @impl_natPow.b α := ⟨_, rfl⟩
noncomputable def impl_natPow {α : Type} : Nat → List Int → Int → (List Int → Option α) → Option α := Classical.choose impl_natPow.ex α
theorem impl_natPow.eq : @impl_natPow = @impl_natPow.b := funext fun α => congrFun (Classical.choose_spec impl_natPow.ex) α

/-- (impl.Frac).pow -/
noncomputable def impl_Frac_pow.b {α : Type} (N : Nat) (a1935 : Bool × (List Int) × (List Int) × Unit) (a1936 : Int) (k0 : (Bool × (List Int) × (List Int) × Unit) → Option α) : Option α :=
 bif a1935.1 then
  let x1937 := (Int.tmod a1936 (2 : Int))
  let x1938 := (decide (x1937 = (1 : Int)))
  impl_natPow N a1935.2.1 a1936
   (fun x1964 =>
    impl_natPow N a1935.2.2.1 a1936
     (fun x1965 =>
      k0 (x1938, (x1964, (x1965, ())))))
 else
  impl_natPow N a1935.2.1 a1936
   (fun x1966 =>
    impl_natPow N a1935.2.2.1 a1936
     (fun x1967 =>
      k0 (false, (x1966, (x1967, ())))))
theorem impl_Frac_pow.ex : ∃ f : ((α : Type) → Nat → (Bool × (List Int) × (List Int) × Unit) → Int → ((Bool × (List Int) × (List Int) × Unit) → Option α) → Option α), f = fun α => @impl_Frac_pow.b α := ⟨_, rfl⟩
noncomputable def impl_Frac_pow {α : Type} : Nat → (Bool × (List Int) × (List Int) × Unit) → Int → ((Bool × (List Int) × (List Int) × Unit) → Option α) → Option α := Classical.choose impl_Frac_pow.ex α
theorem impl_Frac_pow.eq : @impl_Frac_pow = @impl_Frac_pow.b := funext fun α => congrFun (Classical.choose_spec impl_Frac_pow.ex) α

/-- impl.powerAbove -/
noncomputable def impl_powerAbove.b {α : Type} (N : Nat) (a1901 : Int) (a1902 : Int) (a1903 : Int) (a1904 : Bool × (List Int) × (List Int) × Unit) (k0 : Bool → Option α) : Option α :=
 impl_BitPartOf N a1901 a1902
  (fun x1905 _ =>
   impl_natOf N x1905.2.1
    (fun x1907 =>
     impl_natBits N x1907
      (fun x1920 =>
       let x1921 := (IntKind.i64.wrap (x1920 - (1 : Int)))
       let x1922 := IntKind.i64.wrap (x1921 + x1905.2.2.1)
       let x1923 := IntKind.i64.wrap (a1903 * x1922)
       impl_natBits N a1904.2.1
        (fun x1924 =>
         impl_natBits N a1904.2.2.1
          (fun x1925 =>
           let x1926 := IntKind.i64.wrap (x1924 - x1925)
           let x1927 := ((a1904.2.1.length : Nat) : Int)
           let x1928 := (decide (x1927 = (0 : Int)))
           bif x1928 then
            k0 true
           else
            let x1929 := (IntKind.i64.wrap (x1926 + (1 : Int)))
            let x1930 := decide (x1929 < x1923)
            bif x1930 then
             k0 true
            else
             let x1931 := IntKind.i64.wrap (x1923 + a1903)
             let x1932 := (IntKind.i64.wrap (x1926 - (1 : Int)))
             let x1933 := decide (x1931 < x1932)
             bif x1933 then
              k0 false
             else
              impl_value N a1901 a1902
               (fun x1934 =>
                impl_Frac_pow N x1934 a1903
                 (fun x1968 =>
                  impl_Frac_cmp N x1968 a1904
                   (fun x1969 =>
                    let x1970 := (decide ((0 : Int) < x1969))
                    k0 x1970))))))))
theorem impl_powerAbove.ex : ∃ f : ((α : Type) → Nat → Int → Int → Int → (Bool × (List Int) × (List Int) × Unit) → (Bool → Option α) → Option α), f = fun α => @impl_powerAbove.b α := ⟨_, rfl⟩
noncomputable def impl_powerAbove {α : Type} : Nat → Int → Int → Int → (Bool × (List Int) × (List Int) × Unit) → (Bool → Option α) → Option α := Classical.choose impl_powerAbove.ex α
theorem impl_powerAbove.eq : @impl_powerAbove = @impl_powerAbove.b := funext fun α => congrFun (Classical.choose_spec impl_powerAbove.ex) α

noncomputable def impl_root_J5.b {α : Type} (N : Nat) (v1895 : Int) (v1896 : Int) (v1897 : Int) (v1898 : Int) (v1899 : Int) (v1900 : Bool × (List Int) × (List Int) × Unit) (k0 : Int → Int → Int → Int → (Bool × (List Int) × (List Int) × Unit) → Option α) : Option α :=
 impl_powerAbove N v1895 v1899 v1896 v1900
  (fun x1971 =>
   bif x1971 then
    let x1972 := (IntKind.i64.wrap (v1899 - (1 : Int)))
    k0 v1895 v1896 v1897 x1972 v1900
   else
    k0 v1895 v1896 v1899 v1898 v1900)
theorem impl_root_J5.ex : ∃ f : ((α : Type) → Nat → Int → Int → Int → Int → Int → (Bool × (List Int) × (List Int) × Unit) → (Int → Int → Int → Int → (Bool × (List Int) × (List Int) × Unit) → Option α) → Option α), f = fun α => @impl_root_J5.b α := ⟨_, rfl⟩
noncomputable def impl_root_J5 {α : Type} : Nat → Int → Int → Int → Int → Int → (Bool × (List Int) × (List Int) × Unit) → (Int → Int → Int → Int → (Bool × (List Int) × (List Int) × Unit) → Option α) → Option α := Classical.choose impl_root_J5.ex α
theorem impl_root_J5.eq : @impl_root_J5 = @impl_root_J5.b := funext fun α => congrFun (Classical.choose_spec impl_root_J5.ex) α
noncomputable def impl_root_L0r {α : Type} (N : Nat) (next : Int → Int → Int → Int → (Bool × (List Int) × (List Int) × Unit) → Option α) (k0 : Int → Int → Int → (Bool × (List Int) × (List Int) × Unit) → Option α) (v1885 : Int) (v1886 : Int) (v1887 : Int) (v1888 : Int) (v1889 : Bool × (List Int) × (List Int) × Unit) : Option α :=
 let x1890 := decide (v1887 < v1888)
 bif x1890 then
  let x1891 := IntKind.i64.wrap (v1888 - v1887)
  let x1892 := (IntKind.i64.wrap (x1891 + (1 : Int)))
  let x1893 := (IntKind.i64.wrap (Int.tdiv x1892 (2 : Int)))
  let x1894 := IntKind.i64.wrap (v1887 + x1893)
  impl_root_J5 N v1885 v1886 v1887 v1888 x1894 v1889
   (fun x1973 x1974 x1975 x1976 x1977 =>
    next x1973 x1974 x1975 x1976 x1977)
 else
  k0 v1885 v1886 v1887 v1889
noncomputable def impl_root_L0.b {α : Type} (N n : Nat) (v1885 : Int) (v1886 : Int) (v1887 : Int) (v1888 : Int) (v1889 : Bool × (List Int) × (List Int) × Unit) (k0 : Int → Int → Int → (Bool × (List Int) × (List Int) × Unit) → Option α) : Option α :=
  Nat.rec (motive := fun _ => Int → Int → Int → Int → (Bool × (List Int) × (List Int) × Unit) → Option α) (fun _ _ _ _ _ => none) (fun _ next => impl_root_L0r N next k0) n v1885 v1886 v1887 v1888 v1889
theorem impl_root_L0.ex : ∃ f : ((α : Type) → Nat → Nat → Int → Int → Int → Int → (Bool × (List Int) × (List Int) × Unit) → (Int → Int → Int → (Bool × (List Int) × (List Int) × Unit) → Option α) → Option α), f = fun α => @impl_root_L0.b α := ⟨_, rfl⟩
noncomputable def impl_root_L0 {α : Type} : Nat → Nat → Int → Int → Int → Int → (Bool × (List Int) × (List Int) × Unit) → (Int → Int → Int → (Bool × (List Int) × (List Int) × Unit) → Option α) → Option α := Classical.choose impl_root_L0.ex α
theorem impl_root_L0.eq : @impl_root_L0 = @impl_root_L0.b := funext fun α => congrFun (Classical.choose_spec impl_root_L0.ex) α
theorem impl_root_L0.zero {α : Type} (N : Nat) (v1885 : Int) (v1886 : Int) (v1887 : Int) (v1888 : Int) (v1889 : Bool × (List Int) × (List Int) × Unit) (k0 : Int → Int → Int → (Bool × (List Int) × (List Int) × Unit) → Option α) : impl_root_L0 N 0 v1885 v1886 v1887 v1888 v1889 k0 = none := by rw [impl_root_L0.eq]; rfl
theorem impl_root_L0.succ {α : Type} (N n : Nat) (v1885 : Int) (v1886 : Int) (v1887 : Int) (v1888 : Int) (v1889 : Bool × (List Int) × (List Int) × Unit) (k0 : Int → Int → Int → (Bool × (List Int) × (List Int) × Unit) → Option α) : impl_root_L0 N (n + 1) v1885 v1886 v1887 v1888 v1889 k0 = impl_root_L0r N (fun y0 y1 y2 y3 y4 => impl_root_L0 N n y0 y1 y2 y3 y4 k0) k0 v1885 v1886 v1887 v1888 v1889 := by rw [impl_root_L0.eq]; rfl
/-- impl.root -/
noncomputable def impl_root.b {α : Type} (N : Nat) (a1879 : Int) (a1880 : Int) (a1881 : Int) (k0 : Int → Bool → Option α) : Option α :=
 impl_value N a1879 a1880
  (fun x1882 =>
   impl_BitTop N a1879
    (fun x1883 =>
     let x1884 := (IntKind.i64.wrap (x1883 - (1 : Int)))
     impl_root_L0 N N a1879 a1881 (0 : Int) x1884 x1882
      (fun x1978 x1979 x1980 x1981 =>
       impl_value N x1978 x1980
        (fun x1982 =>
         impl_Frac_pow N x1982 x1979
          (fun x1983 =>
           impl_Frac_cmp N x1983 x1981
            (fun x1984 =>
             let x1985 := (decide (x1984 = (0 : Int)))
             k0 x1980 x1985))))))
theorem impl_root.ex : ∃ f : ((α : Type) → Nat → Int → Int → Int → (Int → Bool → Option α) → Option α), f = fun α => @impl_root.b α := ⟨_, rfl⟩
noncomputable def impl_root {α : Type} : Nat → Int → Int → Int → (Int → Bool → Option α) → Option α := Classical.choose impl_root.ex α
theorem impl_root.eq : @impl_root = @impl_root.b := funext fun α => congrFun (Classical.choose_spec impl_root.ex) α

noncomputable def impl_rootUp_J6.b {α : Type} (N : Nat) (v1988 : Int) (v1989 : Bool) (k0 : Int → Option α) : Option α :=
 let x1990 := !v1989
 bif x1990 then
  let x1991 := (IntKind.i64.wrap (v1988 + (1 : Int)))
  k0 x1991
 else
  k0 v1988
theorem impl_rootUp_J6.ex : ∃ f : ((α : Type) → Nat → Int → Bool → (Int → Option α) → Option α), f = fun α => @impl_rootUp_J6.b α := ⟨_, rfl⟩
noncomputable def impl_rootUp_J6 {α : Type} : Nat → Int → Bool → (Int → Option α) → Option α := Classical.choose impl_rootUp_J6.ex α
theorem impl_rootUp_J6.eq : @impl_rootUp_J6 = @impl_rootUp_J6.b := funext fun α => congrFun (Classical.choose_spec impl_rootUp_J6.ex) α
/-- impl.rootUp -/
noncomputable def impl_rootUp.b {α : Type} (N : Nat) (a1869 : Int) (a1870 : Int) (a1871 : Int) (k0 : Int → Option α) : Option α :=
 let x1872 := (decide (a1870 < (0 : Int)))
 bif x1872 then
  let x1873 := IntKind.i64.wrap (0 - a1870)
  impl_rootDown_b N a1869 x1873 a1871
 else
  impl_BitTop N a1869
   (fun x1877 =>
    let x1878 := decide (a1870 = x1877)
    bif x1878 then
     k0 a1870
    else
     impl_root N a1869 a1870 a1871
      (fun x1986 x1987 =>
       impl_rootUp_J6 N x1986 x1987
        (fun x1992 =>
         k0 x1992)))
theorem impl_rootUp.ex : ∃ f : ((α : Type) → Nat → Int → Int → Int → (Int → Option α) → Option α), f = fun α => @impl_rootUp.b α := ⟨_, rfl⟩
noncomputable def impl_rootUp {α : Type} : Nat → Int → Int → Int → (Int → Option α) → Option α := Classical.choose impl_rootUp.ex α
theorem impl_rootUp.eq : @impl_rootUp = @impl_rootUp.b := funext fun α => congrFun (Classical.choose_spec impl_rootUp.ex) α

/-- impl.rootDown -/
noncomputable def impl_rootDown.b {α : Type} (N : Nat) (a1864 : Int) (a1865 : Int) (a1866 : Int) (k0 : Int → Option α) : Option α :=
 let x1867 := (decide (a1865 < (0 : Int)))
 bif x1867 then
  let x1868 := IntKind.i64.wrap (0 - a1865)
  impl_rootUp N a1864 x1868 a1866
   (fun x1993 =>
    let x1994 := IntKind.i64.wrap (0 - x1993)
    k0 x1994)
 else
  impl_BitTop N a1864
   (fun x1995 =>
    let x1996 := decide (a1865 = x1995)
    bif x1996 then
     k0 a1865
    else
     impl_root N a1864 a1865 a1866
      (fun x1997 _ =>
       k0 x1997))
theorem impl_rootDown.ex : ∃ f : ((α : Type) → Nat → Int → Int → Int → (Int → Option α) → Option α), f = fun α => @impl_rootDown.b α := ⟨_, rfl⟩
noncomputable def impl_rootDown {α : Type} : Nat → Int → Int → Int → (Int → Option α) → Option α := Classical.choose impl_rootDown.ex α
theorem impl_rootDown.eq : @impl_rootDown = @impl_rootDown.b := funext fun α => congrFun (Classical.choose_spec impl_rootDown.ex) α

noncomputable def impl_rootUp_b_J6.b {α : Type} (N : Nat) (v2011 : Int) (v2012 : Bool) (k0 : Int → Option α) : Option α :=
 let x2013 := !v2012
 bif x2013 then
  let x2014 := (IntKind.i64.wrap (v2011 + (1 : Int)))
  k0 x2014
 else
  k0 v2011
theorem impl_rootUp_b_J6.ex : ∃ f : ((α : Type) → Nat → Int → Bool → (Int → Option α) → Option α), f = fun α => @impl_rootUp_b_J6.b α := ⟨_, rfl⟩
noncomputable def impl_rootUp_b_J6 {α : Type} : Nat → Int → Bool → (Int → Option α) → Option α := Classical.choose impl_rootUp_b_J6.ex α
theorem impl_rootUp_b_J6.eq : @impl_rootUp_b_J6 = @impl_rootUp_b_J6.b := funext fun α => congrFun (Classical.choose_spec impl_rootUp_b_J6.ex) α
/-- impl.rootUp -/
noncomputable def impl_rootUp_b.b {α : Type} (N : Nat) (a2000 : Int) (a2001 : Int) (a2002 : Int) (k0 : Int → Option α) : Option α :=
 let x2003 := (decide (a2001 < (0 : Int)))
 bif x2003 then
  let x2004 := IntKind.i64.wrap (0 - a2001)
  impl_rootDown N a2000 x2004 a2002
   (fun x2005 =>
    let x2006 := IntKind.i64.wrap (0 - x2005)
    k0 x2006)
 else
  impl_BitTop N a2000
   (fun x2007 =>
    let x2008 := decide (a2001 = x2007)
    bif x2008 then
     k0 a2001
    else
     impl_root N a2000 a2001 a2002
      (fun x2009 x2010 =>
       impl_rootUp_b_J6 N x2009 x2010
        (fun x2015 =>
         k0 x2015)))
theorem impl_rootUp_b.ex : ∃ f : ((α : Type) → Nat → Int → Int → Int → (Int → Option α) → Option α), f = fun α => @impl_rootUp_b.b α := ⟨_, rfl⟩
noncomputable def impl_rootUp_b {α : Type} : Nat → Int → Int → Int → (Int → Option α) → Option α := Classical.choose impl_rootUp_b.ex α
theorem impl_rootUp_b.eq : @impl_rootUp_b = @impl_rootUp_b.b := funext fun α => congrFun (Classical.choose_spec impl_rootUp_b.ex) α

/-- impl.some -/
noncomputable def impl_some.b {α : Type} (N : Nat) (a2017 : Int) (a2018 : Int) (k0 : (Bool × Int × Int × Unit) → Option α) : Option α :=
 k0 (true, (a2017, (a2018, ())))
theorem impl_some.ex : ∃ f : ((α : Type) → Nat → Int → Int → ((Bool × Int × Int × Unit) → Option α) → Option α), f = fun α => @impl_some.b α := ⟨_, rfl⟩
noncomputable def impl_some {α : Type} : Nat → Int → Int → ((Bool × Int × Int × Unit) → Option α) → Option α := Classical.choose impl_some.ex α
theorem impl_some.eq : @impl_some = @impl_some.b := funext fun α => congrFun (Classical.choose_spec impl_some.ex) α

/-- impl.SpanMeet -/
noncomputable def impl_SpanMeet.b {α : Type} (N : Nat) (a2020 : Int) (a2021 : Bool × Int × Int × Unit) (a2022 : Bool × Int × Int × Unit) (k0 : (Bool × Int × Int × Unit) → Option α) : Option α :=
 let x2023 := [a2021, a2022]
 impl_full N a2020 x2023
  (fun x2024 =>
   let x2025 := !x2024
   bif x2025 then
    k0 (false, ((0 : Int), ((0 : Int), ())))
   else
    let x2026 := maxI a2021.2.1 a2022.2.1
    let x2027 := minI a2021.2.2.1 a2022.2.2.1
    impl_some N x2026 x2027
     (fun x2028 =>
      impl_SpanOk N a2020 x2028
       (fun x2029 =>
        let x2030 := !x2029
        bif x2030 then
         k0 (false, ((0 : Int), ((0 : Int), ())))
        else
         k0 x2028)))
theorem impl_SpanMeet.ex : ∃ f : ((α : Type) → Nat → Int → (Bool × Int × Int × Unit) → (Bool × Int × Int × Unit) → ((Bool × Int × Int × Unit) → Option α) → Option α), f = fun α => @impl_SpanMeet.b α := ⟨_, rfl⟩
noncomputable def impl_SpanMeet {α : Type} : Nat → Int → (Bool × Int × Int × Unit) → (Bool × Int × Int × Unit) → ((Bool × Int × Int × Unit) → Option α) → Option α := Classical.choose impl_SpanMeet.ex α
theorem impl_SpanMeet.eq : @impl_SpanMeet = @impl_SpanMeet.b := funext fun α => congrFun (Classical.choose_spec impl_SpanMeet.ex) α

/-- impl.from -/
noncomputable def impl_from.b {α : Type} (N : Nat) (a2032 : Int) (a2033 : Int) (k0 : (Bool × Int × Int × Unit) → Option α) : Option α :=
 impl_BitTop N a2032
  (fun x2034 =>
   impl_some N a2033 x2034
    (fun x2035 =>
     k0 x2035))
theorem impl_from.ex : ∃ f : ((α : Type) → Nat → Int → Int → ((Bool × Int × Int × Unit) → Option α) → Option α), f = fun α => @impl_from.b α := ⟨_, rfl⟩
noncomputable def impl_from {α : Type} : Nat → Int → Int → ((Bool × Int × Int × Unit) → Option α) → Option α := Classical.choose impl_from.ex α
theorem impl_from.eq : @impl_from = @impl_from.b := funext fun α => congrFun (Classical.choose_spec impl_from.ex) α

/-- impl.SpanNeg -/
noncomputable def impl_SpanNeg.b {α : Type} (N : Nat) (a2046 : Int) (a2047 : Bool × Int × Int × Unit) (k0 : (Bool × Int × Int × Unit) → Option α) : Option α :=
 let x2048 := [a2047]
 impl_full N a2046 x2048
  (fun x2049 =>
   let x2050 := !x2049
   bif x2050 then
    k0 (false, ((0 : Int), ((0 : Int), ())))
   else
    let x2051 := IntKind.i64.wrap (0 - a2047.2.2.1)
    let x2052 := IntKind.i64.wrap (0 - a2047.2.1)
    impl_some N x2051 x2052
     (fun x2053 =>
      k0 x2053))
theorem impl_SpanNeg.ex : ∃ f : ((α : Type) → Nat → Int → (Bool × Int × Int × Unit) → ((Bool × Int × Int × Unit) → Option α) → Option α), f = fun α => @impl_SpanNeg.b α := ⟨_, rfl⟩
noncomputable def impl_SpanNeg {α : Type} : Nat → Int → (Bool × Int × Int × Unit) → ((Bool × Int × Int × Unit) → Option α) → Option α := Classical.choose impl_SpanNeg.ex α
theorem impl_SpanNeg.eq : @impl_SpanNeg = @impl_SpanNeg.b := funext fun α => congrFun (Classical.choose_spec impl_SpanNeg.ex) α

/-- impl.SpanHull -/
noncomputable def impl_SpanHull.b {α : Type} (N : Nat) (a2056 : Int) (a2057 : Bool × Int × Int × Unit) (a2058 : Bool × Int × Int × Unit) (k0 : (Bool × Int × Int × Unit) → Option α) : Option α :=
 impl_SpanOk N a2056 a2057
  (fun x2059 =>
   let x2060 := !x2059
   bif x2060 then
    k0 (false, ((0 : Int), ((0 : Int), ())))
   else
    impl_SpanOk N a2056 a2058
     (fun x2061 =>
      let x2062 := !x2061
      bif x2062 then
       k0 (false, ((0 : Int), ((0 : Int), ())))
      else
       let x2063 := !a2057.1
       bif x2063 then
        k0 a2058
       else
        let x2064 := !a2058.1
        bif x2064 then
         k0 a2057
        else
         let x2065 := minI a2057.2.1 a2058.2.1
         let x2066 := maxI a2057.2.2.1 a2058.2.2.1
         impl_some N x2065 x2066
          (fun x2067 =>
           k0 x2067)))
theorem impl_SpanHull.ex : ∃ f : ((α : Type) → Nat → Int → (Bool × Int × Int × Unit) → (Bool × Int × Int × Unit) → ((Bool × Int × Int × Unit) → Option α) → Option α), f = fun α => @impl_SpanHull.b α := ⟨_, rfl⟩
noncomputable def impl_SpanHull {α : Type} : Nat → Int → (Bool × Int × Int × Unit) → (Bool × Int × Int × Unit) → ((Bool × Int × Int × Unit) → Option α) → Option α := Classical.choose impl_SpanHull.ex α
theorem impl_SpanHull.eq : @impl_SpanHull = @impl_SpanHull.b := funext fun α => congrFun (Classical.choose_spec impl_SpanHull.ex) α

/-- impl.either -/
noncomputable def impl_either.b {α : Type} (N : Nat) (a2042 : Int) (a2043 : Bool × Int × Int × Unit) (a2044 : Bool × Int × Int × Unit) (k0 : (Bool × Int × Int × Unit) → Option α) : Option α :=
 impl_SpanMeet N a2042 a2043 a2044
  (fun x2045 =>
   impl_SpanNeg N a2042 a2044
    (fun x2054 =>
     impl_SpanMeet N a2042 a2043 x2054
      (fun x2055 =>
       impl_SpanHull N a2042 x2045 x2055
        (fun x2068 =>
         k0 x2068))))
theorem impl_either.ex : ∃ f : ((α : Type) → Nat → Int → (Bool × Int × Int × Unit) → (Bool × Int × Int × Unit) → ((Bool × Int × Int × Unit) → Option α) → Option α), f = fun α => @impl_either.b α := ⟨_, rfl⟩
noncomputable def impl_either {α : Type} : Nat → Int → (Bool × Int × Int × Unit) → (Bool × Int × Int × Unit) → ((Bool × Int × Int × Unit) → Option α) → Option α := Classical.choose impl_either.ex α
theorem impl_either.eq : @impl_either = @impl_either.b := funext fun α => congrFun (Classical.choose_spec impl_either.ex) α

/-- impl.BackPow -/
noncomputable def impl_BackPow.b {α : Type} (N : Nat) (a947 : Int) (a948 : Bool × Int × Int × Unit) (a949 : Int) (a950 : Bool × Int × Int × Unit) (k0 : (Bool × Int × Int × Unit) → Option α) : Option α :=
 let x951 := [a948, a950]
 impl_full N a947 x951
  (fun x999 =>
   let x1000 := !x999
   bif x1000 then
    k0 (false, ((0 : Int), ((0 : Int), ())))
   else
    impl_in N a949 (0 : Int) (8 : Int)
     (fun x1001 =>
      let x1002 := !x1001
      bif x1002 then
       k0 (false, ((0 : Int), ((0 : Int), ())))
      else
       let x1003 := (decide (a949 = (0 : Int)))
       bif x1003 then
        let x1004 := [(1 : Int)]
        impl_whole N false x1004
         (fun x1011 x1012 x1013 =>
          impl_SpanHas N a947 a948 (x1011, (x1012, (x1013, ())))
           (fun x1860 =>
            bif x1860 then
             k0 a950
            else
             let x1861 := (decide (a949 = (0 : Int)))
             bif x1861 then
              k0 (false, ((0 : Int), ((0 : Int), ())))
             else
              let x1862 := (Int.tmod a949 (2 : Int))
              let x1863 := (decide (x1862 = (1 : Int)))
              bif x1863 then
               impl_rootDown N a947 a948.2.1 a949
                (fun x1999 =>
                 impl_rootUp_b N a947 a948.2.2.1 a949
                  (fun x2016 =>
                   impl_some N x1999 x2016
                    (fun x2019 =>
                     impl_SpanMeet N a947 a950 x2019
                      (fun x2031 =>
                       k0 x2031))))
              else
               impl_from N a947 (0 : Int)
                (fun x2036 =>
                 impl_SpanMeet N a947 a948 x2036
                  (fun x2037 =>
                   let x2038 := !x2037.1
                   bif x2038 then
                    k0 (false, ((0 : Int), ((0 : Int), ())))
                   else
                    impl_rootDown N a947 x2037.2.1 a949
                     (fun x2039 =>
                      impl_rootUp_b N a947 x2037.2.2.1 a949
                       (fun x2040 =>
                        impl_some N x2039 x2040
                         (fun x2041 =>
                          impl_either N a947 a950 x2041
                           (fun x2069 =>
                            k0 x2069))))))))
       else
        let x2070 := (decide (a949 = (0 : Int)))
        bif x2070 then
         k0 (false, ((0 : Int), ((0 : Int), ())))
        else
         let x2071 := (Int.tmod a949 (2 : Int))
         let x2072 := (decide (x2071 = (1 : Int)))
         bif x2072 then
          impl_rootDown N a947 a948.2.1 a949
           (fun x2073 =>
            impl_rootUp_b N a947 a948.2.2.1 a949
             (fun x2074 =>
              impl_some N x2073 x2074
               (fun x2075 =>
                impl_SpanMeet N a947 a950 x2075
                 (fun x2076 =>
                  k0 x2076))))
         else
          impl_from N a947 (0 : Int)
           (fun x2077 =>
            impl_SpanMeet N a947 a948 x2077
             (fun x2078 =>
              let x2079 := !x2078.1
              bif x2079 then
               k0 (false, ((0 : Int), ((0 : Int), ())))
              else
               impl_rootDown N a947 x2078.2.1 a949
                (fun x2080 =>
                 impl_rootUp_b N a947 x2078.2.2.1 a949
                  (fun x2081 =>
                   impl_some N x2080 x2081
                    (fun x2082 =>
                     impl_either N a947 a950 x2082
                      (fun x2083 =>
                       k0 x2083))))))))
theorem impl_BackPow.ex : ∃ f : ((α : Type) → Nat → Int → (Bool × Int × Int × Unit) → Int → (Bool × Int × Int × Unit) → ((Bool × Int × Int × Unit) → Option α) → Option α), f = fun α => @impl_BackPow.b α := ⟨_, rfl⟩
noncomputable def impl_BackPow {α : Type} : Nat → Int → (Bool × Int × Int × Unit) → Int → (Bool × Int × Int × Unit) → ((Bool × Int × Int × Unit) → Option α) → Option α := Classical.choose impl_BackPow.ex α
theorem impl_BackPow.eq : @impl_BackPow = @impl_BackPow.b := funext fun α => congrFun (Classical.choose_spec impl_BackPow.ex) α

/-- laws.eqSpan -/
noncomputable def laws_eqSpan.b {α : Type} (N : Nat) (a2085 : Bool × Int × Int × Unit) (a2086 : Bool × Int × Int × Unit) (k0 : Bool → Option α) : Option α :=
 let x2087 := !(a2085.1 == a2086.1)
 bif x2087 then
  k0 false
 else
  let x2088 := !(decide (a2085.2.1 = a2086.2.1))
  bif x2088 then
   k0 false
  else
   let x2089 := !(decide (a2085.2.2.1 = a2086.2.2.1))
   bif x2089 then
    k0 false
   else
    k0 true
theorem laws_eqSpan.ex : ∃ f : ((α : Type) → Nat → (Bool × Int × Int × Unit) → (Bool × Int × Int × Unit) → (Bool → Option α) → Option α), f = fun α => @laws_eqSpan.b α := ⟨_, rfl⟩
noncomputable def laws_eqSpan {α : Type} : Nat → (Bool × Int × Int × Unit) → (Bool × Int × Int × Unit) → (Bool → Option α) → Option α := Classical.choose laws_eqSpan.ex α
theorem laws_eqSpan.eq : @laws_eqSpan = @laws_eqSpan.b := funext fun α => congrFun (Classical.choose_spec laws_eqSpan.ex) α

/-- laws.FnExactBackPow -/
noncomputable def laws_FnExactBackPow.b {α : Type} (N : Nat) (a1 : Int) (a2 : Bool × Int × Int × Unit) (a3 : Int) (a4 : Bool × Int × Int × Unit) (k0 : Bool → Option α) : Option α :=
 laws_toSpan N a2
  (fun x6 =>
   laws_toSpan N a4
    (fun x7 =>
     spec_BackPow N a1 x6 a3 x7
      (fun x944 =>
       laws_toSpan N a2
        (fun x945 =>
         laws_toSpan N a4
          (fun x946 =>
           impl_BackPow N a1 x945 a3 x946
            (fun x2084 =>
             laws_eqSpan N x2084 x944
              (fun x2090 =>
               let x2091 := !x2090
               bif x2091 then
                k0 false
               else
                k0 true)))))))
theorem laws_FnExactBackPow.ex : ∃ f : ((α : Type) → Nat → Int → (Bool × Int × Int × Unit) → Int → (Bool × Int × Int × Unit) → (Bool → Option α) → Option α), f = fun α => @laws_FnExactBackPow.b α := ⟨_, rfl⟩
noncomputable def laws_FnExactBackPow {α : Type} : Nat → Int → (Bool × Int × Int × Unit) → Int → (Bool × Int × Int × Unit) → (Bool → Option α) → Option α := Classical.choose laws_FnExactBackPow.ex α
theorem laws_FnExactBackPow.eq : @laws_FnExactBackPow = @laws_FnExactBackPow.b := funext fun α => congrFun (Classical.choose_spec laws_FnExactBackPow.ex) α

end
end Go.Proofs.YtlbihmicbncdiaaAm
