/-
  The functions that the program computes, as the abstract machine tells them. Printed by amp.py.
-/
import Derived.Test.YtlbihmicbncdiaaDoorAmc
namespace Go.Proofs.YtlbihmicbncdiaaDoorAm
open Go
noncomputable section
set_option linter.unusedVariables false
set_option linter.unusedSimpArgs false

/-- laws.toSpan -/
noncomputable def laws_toSpan.b {α : Type} (N : Nat) (a4 : Bool × Int × Int × Unit) (k0 : (Bool × Int × Int × Unit) → Option α) : Option α :=
 k0 (a4.1, (a4.2.1, (a4.2.2.1, ())))
theorem laws_toSpan.ex : ∃ f : ((α : Type) → Nat → (Bool × Int × Int × Unit) → ((Bool × Int × Int × Unit) → Option α) → Option α), f = fun α => @laws_toSpan.b α := ⟨_, rfl⟩
noncomputable def laws_toSpan {α : Type} : Nat → (Bool × Int × Int × Unit) → ((Bool × Int × Int × Unit) → Option α) → Option α := Classical.choose laws_toSpan.ex α
theorem laws_toSpan.eq : @laws_toSpan = @laws_toSpan.b := funext fun α => congrFun (Classical.choose_spec laws_toSpan.ex) α

/-- spec.l1Width -/
noncomputable def spec_l1Width.b {α : Type} (N : Nat) (a12 : Int) (k0 : Bool → Option α) : Option α :=
 let x13 := (decide (a12 = (32 : Int)))
 bif x13 then
  k0 true
 else
  let x14 := (decide (a12 = (64 : Int)))
  k0 x14
theorem spec_l1Width.ex : ∃ f : ((α : Type) → Nat → Int → (Bool → Option α) → Option α), f = fun α => @spec_l1Width.b α := ⟨_, rfl⟩
noncomputable def spec_l1Width {α : Type} : Nat → Int → (Bool → Option α) → Option α := Classical.choose spec_l1Width.ex α
theorem spec_l1Width.eq : @spec_l1Width = @spec_l1Width.b := funext fun α => congrFun (Classical.choose_spec spec_l1Width.ex) α

/-- spec.l9Pair -/
noncomputable def spec_l9Pair.b {α : Type} (N : Nat) (a18 : Bool × Int × Int × Unit) (k0 : (Int × Int × Unit) → Option α) : Option α :=
 k0 (a18.2.1, (a18.2.2.1, ()))
theorem spec_l9Pair.ex : ∃ f : ((α : Type) → Nat → (Bool × Int × Int × Unit) → ((Int × Int × Unit) → Option α) → Option α), f = fun α => @spec_l9Pair.b α := ⟨_, rfl⟩
noncomputable def spec_l9Pair {α : Type} : Nat → (Bool × Int × Int × Unit) → ((Int × Int × Unit) → Option α) → Option α := Classical.choose spec_l9Pair.ex α
theorem spec_l9Pair.eq : @spec_l9Pair = @spec_l9Pair.b := funext fun α => congrFun (Classical.choose_spec spec_l9Pair.ex) α

/-- spec.BitTop -/
noncomputable def spec_BitTop.b {α : Type} (N : Nat) (a22 : Int) (k0 : Int → Option α) : Option α :=
 let x23 := (decide (a22 = (32 : Int)))
 bif x23 then
  k0 (2139095040 : Int)
 else
  let x24 := (decide (a22 = (64 : Int)))
  bif x24 then
   k0 (9218868437227405312 : Int)
  else
   k0 (0 : Int)
theorem spec_BitTop.ex : ∃ f : ((α : Type) → Nat → Int → (Int → Option α) → Option α), f = fun α => @spec_BitTop.b α := ⟨_, rfl⟩
noncomputable def spec_BitTop {α : Type} : Nat → Int → (Int → Option α) → Option α := Classical.choose spec_BitTop.ex α
theorem spec_BitTop.eq : @spec_BitTop = @spec_BitTop.b := funext fun α => congrFun (Classical.choose_spec spec_BitTop.ex) α

/-- spec.BitOk -/
noncomputable def spec_BitOk.b {α : Type} (N : Nat) (a26 : Int) (a27 : Int) (k0 : Bool → Option α) : Option α :=
 spec_l1Width N a26
  (fun x28 =>
   bif x28 then
    spec_BitTop N a26
     (fun x29 =>
      let x30 := IntKind.i64.wrap (0 - x29)
      let x31 := decide (x30 ≤ a27)
      bif x31 then
       spec_BitTop N a26
        (fun x32 =>
         let x33 := decide (a27 ≤ x32)
         k0 x33)
      else
       k0 false)
   else
    k0 false)
theorem spec_BitOk.ex : ∃ f : ((α : Type) → Nat → Int → Int → (Bool → Option α) → Option α), f = fun α => @spec_BitOk.b α := ⟨_, rfl⟩
noncomputable def spec_BitOk {α : Type} : Nat → Int → Int → (Bool → Option α) → Option α := Classical.choose spec_BitOk.ex α
theorem spec_BitOk.eq : @spec_BitOk = @spec_BitOk.b := funext fun α => congrFun (Classical.choose_spec spec_BitOk.ex) α

/-- spec.PairOk -/
noncomputable def spec_PairOk.b {α : Type} (N : Nat) (a20 : Int) (a21 : Int × Int × Unit) (k0 : Bool → Option α) : Option α :=
 spec_BitTop N a20
  (fun x25 =>
   spec_BitOk N a20 a21.1
    (fun x34 =>
     bif x34 then
      spec_BitOk N a20 a21.2.1
       (fun x35 =>
        bif x35 then
         let x36 := decide (a21.1 ≤ a21.2.1)
         bif x36 then
          let x37 := decide (a21.1 < x25)
          bif x37 then
           let x38 := IntKind.i64.wrap (0 - x25)
           let x39 := decide (x38 < a21.2.1)
           k0 x39
          else
           k0 false
         else
          k0 false
        else
         k0 false)
     else
      k0 false))
theorem spec_PairOk.ex : ∃ f : ((α : Type) → Nat → Int → (Int × Int × Unit) → (Bool → Option α) → Option α), f = fun α => @spec_PairOk.b α := ⟨_, rfl⟩
noncomputable def spec_PairOk {α : Type} : Nat → Int → (Int × Int × Unit) → (Bool → Option α) → Option α := Classical.choose spec_PairOk.ex α
theorem spec_PairOk.eq : @spec_PairOk = @spec_PairOk.b := funext fun α => congrFun (Classical.choose_spec spec_PairOk.ex) α

/-- spec.SpanOk -/
noncomputable def spec_SpanOk.b {α : Type} (N : Nat) (a9 : Int) (a10 : Bool × Int × Int × Unit) (k0 : Bool → Option α) : Option α :=
 let x11 := !a10.1
 bif x11 then
  spec_l1Width N a9
   (fun x15 =>
    bif x15 then
     let x16 := (decide (a10.2.1 = (0 : Int)))
     bif x16 then
      let x17 := (decide (a10.2.2.1 = (0 : Int)))
      k0 x17
     else
      k0 false
    else
     k0 false)
 else
  spec_l9Pair N a10
   (fun x19 =>
    spec_PairOk N a9 x19
     (fun x40 =>
      k0 x40))
theorem spec_SpanOk.ex : ∃ f : ((α : Type) → Nat → Int → (Bool × Int × Int × Unit) → (Bool → Option α) → Option α), f = fun α => @spec_SpanOk.b α := ⟨_, rfl⟩
noncomputable def spec_SpanOk {α : Type} : Nat → Int → (Bool × Int × Int × Unit) → (Bool → Option α) → Option α := Classical.choose spec_SpanOk.ex α
theorem spec_SpanOk.eq : @spec_SpanOk = @spec_SpanOk.b := funext fun α => congrFun (Classical.choose_spec spec_SpanOk.ex) α

/-- spec.l1Frac -/
noncomputable def spec_l1Frac.b {α : Type} (N : Nat) (a57 : Int) (k0 : Int → Option α) : Option α :=
 let x58 := (decide (a57 = (32 : Int)))
 bif x58 then
  k0 (23 : Int)
 else
  k0 (52 : Int)
theorem spec_l1Frac.ex : ∃ f : ((α : Type) → Nat → Int → (Int → Option α) → Option α), f = fun α => @spec_l1Frac.b α := ⟨_, rfl⟩
noncomputable def spec_l1Frac {α : Type} : Nat → Int → (Int → Option α) → Option α := Classical.choose spec_l1Frac.ex α
theorem spec_l1Frac.eq : @spec_l1Frac = @spec_l1Frac.b := funext fun α => congrFun (Classical.choose_spec spec_l1Frac.ex) α

noncomputable def spec_l5Bits_L0r {α : Type} (N : Nat) (next : Int → Int → Option α) (k0 : Int → Option α) (v70 : Int) (v71 : Int) : Option α :=
 let x72 := (decide ((0 : Int) < v71))
 bif x72 then
  let x73 := (IntKind.i64.wrap (v70 + (1 : Int)))
  let x74 := (IntKind.i64.wrap (Int.tdiv v71 (2 : Int)))
  next x73 x74
 else
  k0 v70
noncomputable def spec_l5Bits_L0.b {α : Type} (N n : Nat) (v70 : Int) (v71 : Int) (k0 : Int → Option α) : Option α :=
  Nat.rec (motive := fun _ => Int → Int → Option α) (fun _ _ => none) (fun _ next => spec_l5Bits_L0r N next k0) n v70 v71
theorem spec_l5Bits_L0.ex : ∃ f : ((α : Type) → Nat → Nat → Int → Int → (Int → Option α) → Option α), f = fun α => @spec_l5Bits_L0.b α := ⟨_, rfl⟩
noncomputable def spec_l5Bits_L0 {α : Type} : Nat → Nat → Int → Int → (Int → Option α) → Option α := Classical.choose spec_l5Bits_L0.ex α
theorem spec_l5Bits_L0.eq : @spec_l5Bits_L0 = @spec_l5Bits_L0.b := funext fun α => congrFun (Classical.choose_spec spec_l5Bits_L0.ex) α
theorem spec_l5Bits_L0.zero {α : Type} (N : Nat) (v70 : Int) (v71 : Int) (k0 : Int → Option α) : spec_l5Bits_L0 N 0 v70 v71 k0 = none := by rw [spec_l5Bits_L0.eq]; rfl
theorem spec_l5Bits_L0.succ {α : Type} (N n : Nat) (v70 : Int) (v71 : Int) (k0 : Int → Option α) : spec_l5Bits_L0 N (n + 1) v70 v71 k0 = spec_l5Bits_L0r N (fun y0 y1 => spec_l5Bits_L0 N n y0 y1 k0) k0 v70 v71 := by rw [spec_l5Bits_L0.eq]; rfl
/-- spec.l5Bits -/
noncomputable def spec_l5Bits.b {α : Type} (N : Nat) (a61 : List Int) (k0 : Int → Option α) : Option α :=
 let x62 := ((a61.length : Nat) : Int)
 let x63 := (decide (x62 = (0 : Int)))
 bif x63 then
  k0 (0 : Int)
 else
  let x64 := ((a61.length : Nat) : Int)
  let x65 := (IntKind.i64.wrap (x64 - (1 : Int)))
  let x66 := (IntKind.i64.wrap ((16 : Int) * x65))
  let x67 := ((a61.length : Nat) : Int)
  let x68 := (IntKind.i64.wrap (x67 - (1 : Int)))
  bif (decide (x68 < (0 : Int))) then
   none
  else
   match a61[x68.toNat]? with
   | some x69 =>
    spec_l5Bits_L0 N N x66 x69
     (fun x75 =>
      k0 x75)
   | none => none
theorem spec_l5Bits.ex : ∃ f : ((α : Type) → Nat → List Int → (Int → Option α) → Option α), f = fun α => @spec_l5Bits.b α := ⟨_, rfl⟩
noncomputable def spec_l5Bits {α : Type} : Nat → List Int → (Int → Option α) → Option α := Classical.choose spec_l5Bits.ex α
theorem spec_l5Bits.eq : @spec_l5Bits = @spec_l5Bits.b := funext fun α => congrFun (Classical.choose_spec spec_l5Bits.ex) α

/-- spec.l1Least -/
noncomputable def spec_l1Least.b {α : Type} (N : Nat) (a84 : Int) (k0 : Int → Option α) : Option α :=
 let x85 := (decide (a84 = (32 : Int)))
 bif x85 then
  k0 (-149 : Int)
 else
  k0 (-1074 : Int)
theorem spec_l1Least.ex : ∃ f : ((α : Type) → Nat → Int → (Int → Option α) → Option α), f = fun α => @spec_l1Least.b α := ⟨_, rfl⟩
noncomputable def spec_l1Least {α : Type} : Nat → Int → (Int → Option α) → Option α := Classical.choose spec_l1Least.ex α
theorem spec_l1Least.eq : @spec_l1Least = @spec_l1Least.b := funext fun α => congrFun (Classical.choose_spec spec_l1Least.ex) α

noncomputable def spec_l5Shl_L0r {α : Type} (N : Nat) (next : List Int → Int → List Int → Option α) (k0 : List Int → Option α) (v211 : List Int) (v212 : Int) (v213 : List Int) : Option α :=
 let x214 := ((v211.length : Nat) : Int)
 let x215 := decide (v212 < x214)
 bif x215 then
  bif (decide (v212 < (0 : Int))) then
   none
  else
   match v211[v212.toNat]? with
   | some x216 =>
    let x217 := [x216]
    bif decide (v213.length + x217.length ≤ 8796093022208) then
     let x218 := v213 ++ x217
     let x219 := (IntKind.i64.wrap (v212 + (1 : Int)))
     next v211 x219 x218
    else
     none
   | none => none
 else
  k0 v213
noncomputable def spec_l5Shl_L0.b {α : Type} (N n : Nat) (v211 : List Int) (v212 : Int) (v213 : List Int) (k0 : List Int → Option α) : Option α :=
  Nat.rec (motive := fun _ => List Int → Int → List Int → Option α) (fun _ _ _ => none) (fun _ next => spec_l5Shl_L0r N next k0) n v211 v212 v213
theorem spec_l5Shl_L0.ex : ∃ f : ((α : Type) → Nat → Nat → List Int → Int → List Int → (List Int → Option α) → Option α), f = fun α => @spec_l5Shl_L0.b α := ⟨_, rfl⟩
noncomputable def spec_l5Shl_L0 {α : Type} : Nat → Nat → List Int → Int → List Int → (List Int → Option α) → Option α := Classical.choose spec_l5Shl_L0.ex α
theorem spec_l5Shl_L0.eq : @spec_l5Shl_L0 = @spec_l5Shl_L0.b := funext fun α => congrFun (Classical.choose_spec spec_l5Shl_L0.ex) α
theorem spec_l5Shl_L0.zero {α : Type} (N : Nat) (v211 : List Int) (v212 : Int) (v213 : List Int) (k0 : List Int → Option α) : spec_l5Shl_L0 N 0 v211 v212 v213 k0 = none := by rw [spec_l5Shl_L0.eq]; rfl
theorem spec_l5Shl_L0.succ {α : Type} (N n : Nat) (v211 : List Int) (v212 : Int) (v213 : List Int) (k0 : List Int → Option α) : spec_l5Shl_L0 N (n + 1) v211 v212 v213 k0 = spec_l5Shl_L0r N (fun y0 y1 y2 => spec_l5Shl_L0 N n y0 y1 y2 k0) k0 v211 v212 v213 := by rw [spec_l5Shl_L0.eq]; rfl
/-- spec.l5Shl -/
noncomputable def spec_l5Shl.b {α : Type} (N : Nat) (a206 : List Int) (a207 : Int) (k0 : List Int → Option α) : Option α :=
 let x208 := ((a206.length : Nat) : Int)
 let x209 := (decide (x208 = (0 : Int)))
 bif x209 then
  k0 []
 else
  bif (decide ((0 : Int) ≤ a207)) then
   bif decide (a207 ≤ a207) then
    bif (decide (a207 ≤ ((8796093022208 : Nat) : Int))) then
     let x210 := (List.replicate a207.toNat (0 : Int))
     spec_l5Shl_L0 N N a206 (0 : Int) x210
      (fun x220 =>
       k0 x220)
    else
     none
   else
    none
  else
   none
theorem spec_l5Shl.ex : ∃ f : ((α : Type) → Nat → List Int → Int → (List Int → Option α) → Option α), f = fun α => @spec_l5Shl.b α := ⟨_, rfl⟩
noncomputable def spec_l5Shl {α : Type} : Nat → List Int → Int → (List Int → Option α) → Option α := Classical.choose spec_l5Shl.ex α
theorem spec_l5Shl.eq : @spec_l5Shl = @spec_l5Shl.b := funext fun α => congrFun (Classical.choose_spec spec_l5Shl.ex) α

/-- spec.l5Pow2 -/
noncomputable def spec_l5Pow2.b {α : Type} (N : Nat) (a200 : Int) (k0 : List Int → Option α) : Option α :=
 let x201 := (Int.tmod a200 (16 : Int))
 let x202 := IntKind.u64.wrap x201
 bif (decide (x202 < (0 : Int))) then
  none
 else
  let x203 := (shlI .i64 (1 : Int) x202)
  let x204 := [x203]
  let x205 := (IntKind.i64.wrap (Int.tdiv a200 (16 : Int)))
  spec_l5Shl N x204 x205
   (fun x221 =>
    k0 x221)
theorem spec_l5Pow2.ex : ∃ f : ((α : Type) → Nat → Int → (List Int → Option α) → Option α), f = fun α => @spec_l5Pow2.b α := ⟨_, rfl⟩
noncomputable def spec_l5Pow2 {α : Type} : Nat → Int → (List Int → Option α) → Option α := Classical.choose spec_l5Pow2.ex α
theorem spec_l5Pow2.eq : @spec_l5Pow2 = @spec_l5Pow2.b := funext fun α => congrFun (Classical.choose_spec spec_l5Pow2.ex) α

noncomputable def spec_l5Trim_L0r {α : Type} (N : Nat) (next : List Int → Int → Option α) (k0 : List Int → Int → Option α) (v269 : List Int) (v270 : Int) : Option α :=
 let x271 := (decide ((0 : Int) < v270))
 bif x271 then
  let x272 := (IntKind.i64.wrap (v270 - (1 : Int)))
  bif (decide (x272 < (0 : Int))) then
   none
  else
   match v269[x272.toNat]? with
   | some x273 =>
    let x274 := (decide (x273 = (0 : Int)))
    bif x274 then
     let x275 := (IntKind.i64.wrap (v270 - (1 : Int)))
     next v269 x275
    else
     k0 v269 v270
   | none => none
 else
  k0 v269 v270
noncomputable def spec_l5Trim_L0.b {α : Type} (N n : Nat) (v269 : List Int) (v270 : Int) (k0 : List Int → Int → Option α) : Option α :=
  Nat.rec (motive := fun _ => List Int → Int → Option α) (fun _ _ => none) (fun _ next => spec_l5Trim_L0r N next k0) n v269 v270
theorem spec_l5Trim_L0.ex : ∃ f : ((α : Type) → Nat → Nat → List Int → Int → (List Int → Int → Option α) → Option α), f = fun α => @spec_l5Trim_L0.b α := ⟨_, rfl⟩
noncomputable def spec_l5Trim_L0 {α : Type} : Nat → Nat → List Int → Int → (List Int → Int → Option α) → Option α := Classical.choose spec_l5Trim_L0.ex α
theorem spec_l5Trim_L0.eq : @spec_l5Trim_L0 = @spec_l5Trim_L0.b := funext fun α => congrFun (Classical.choose_spec spec_l5Trim_L0.ex) α
theorem spec_l5Trim_L0.zero {α : Type} (N : Nat) (v269 : List Int) (v270 : Int) (k0 : List Int → Int → Option α) : spec_l5Trim_L0 N 0 v269 v270 k0 = none := by rw [spec_l5Trim_L0.eq]; rfl
theorem spec_l5Trim_L0.succ {α : Type} (N n : Nat) (v269 : List Int) (v270 : Int) (k0 : List Int → Int → Option α) : spec_l5Trim_L0 N (n + 1) v269 v270 k0 = spec_l5Trim_L0r N (fun y0 y1 => spec_l5Trim_L0 N n y0 y1 k0) k0 v269 v270 := by rw [spec_l5Trim_L0.eq]; rfl
noncomputable def spec_l5Trim_L2r {α : Type} (N : Nat) (next : List Int → Int → Int → List Int → Option α) (k0 : List Int → Option α) (v278 : List Int) (v279 : Int) (v280 : Int) (v281 : List Int) : Option α :=
 let x282 := decide (v280 < v279)
 bif x282 then
  bif (decide (v280 < (0 : Int))) then
   none
  else
   match v278[v280.toNat]? with
   | some x283 =>
    let x284 := [x283]
    bif decide (v281.length + x284.length ≤ 8796093022208) then
     let x285 := v281 ++ x284
     let x286 := (IntKind.i64.wrap (v280 + (1 : Int)))
     next v278 v279 x286 x285
    else
     none
   | none => none
 else
  k0 v281
noncomputable def spec_l5Trim_L2.b {α : Type} (N n : Nat) (v278 : List Int) (v279 : Int) (v280 : Int) (v281 : List Int) (k0 : List Int → Option α) : Option α :=
  Nat.rec (motive := fun _ => List Int → Int → Int → List Int → Option α) (fun _ _ _ _ => none) (fun _ next => spec_l5Trim_L2r N next k0) n v278 v279 v280 v281
theorem spec_l5Trim_L2.ex : ∃ f : ((α : Type) → Nat → Nat → List Int → Int → Int → List Int → (List Int → Option α) → Option α), f = fun α => @spec_l5Trim_L2.b α := ⟨_, rfl⟩
noncomputable def spec_l5Trim_L2 {α : Type} : Nat → Nat → List Int → Int → Int → List Int → (List Int → Option α) → Option α := Classical.choose spec_l5Trim_L2.ex α
theorem spec_l5Trim_L2.eq : @spec_l5Trim_L2 = @spec_l5Trim_L2.b := funext fun α => congrFun (Classical.choose_spec spec_l5Trim_L2.ex) α
theorem spec_l5Trim_L2.zero {α : Type} (N : Nat) (v278 : List Int) (v279 : Int) (v280 : Int) (v281 : List Int) (k0 : List Int → Option α) : spec_l5Trim_L2 N 0 v278 v279 v280 v281 k0 = none := by rw [spec_l5Trim_L2.eq]; rfl
theorem spec_l5Trim_L2.succ {α : Type} (N n : Nat) (v278 : List Int) (v279 : Int) (v280 : Int) (v281 : List Int) (k0 : List Int → Option α) : spec_l5Trim_L2 N (n + 1) v278 v279 v280 v281 k0 = spec_l5Trim_L2r N (fun y0 y1 y2 y3 => spec_l5Trim_L2 N n y0 y1 y2 y3 k0) k0 v278 v279 v280 v281 := by rw [spec_l5Trim_L2.eq]; rfl
/-- spec.l5Trim -/
noncomputable def spec_l5Trim.b {α : Type} (N : Nat) (a267 : List Int) (k0 : List Int → Option α) : Option α :=
 let x268 := ((a267.length : Nat) : Int)
 spec_l5Trim_L0 N N a267 x268
  (fun x276 x277 =>
   spec_l5Trim_L2 N N x276 x277 (0 : Int) []
    (fun x287 =>
     k0 x287))
theorem spec_l5Trim.ex : ∃ f : ((α : Type) → Nat → List Int → (List Int → Option α) → Option α), f = fun α => @spec_l5Trim.b α := ⟨_, rfl⟩
noncomputable def spec_l5Trim {α : Type} : Nat → List Int → (List Int → Option α) → Option α := Classical.choose spec_l5Trim.ex α
theorem spec_l5Trim.eq : @spec_l5Trim = @spec_l5Trim.b := funext fun α => congrFun (Classical.choose_spec spec_l5Trim.ex) α

noncomputable def spec_l5Mul_L2r {α : Type} (N : Nat) (next : List Int → List Int → Int → Int → Int → List Int → Option α) (k0 : List Int → List Int → Int → Int → List Int → Option α) (v235 : List Int) (v236 : List Int) (v237 : Int) (v238 : Int) (v239 : Int) (v240 : List Int) : Option α :=
 let x241 := ((v236.length : Nat) : Int)
 let x242 := decide (v239 < x241)
 bif x242 then
  let x243 := IntKind.i64.wrap (v237 + v239)
  bif (decide (x243 < (0 : Int))) then
   none
  else
   bif decide (x243.toNat < v240.length) then
    match v240[x243.toNat]? with
    | some x244 =>
     bif (decide (v237 < (0 : Int))) then
      none
     else
      match v235[v237.toNat]? with
      | some x245 =>
       bif (decide (v239 < (0 : Int))) then
        none
       else
        match v236[v239.toNat]? with
        | some x246 =>
         let x247 := IntKind.i64.wrap (x245 * x246)
         let x248 := IntKind.i64.wrap (x244 + x247)
         let x249 := IntKind.i64.wrap (x248 + v238)
         let x250 := IntKind.i64.wrap (v237 + v239)
         let x251 := (Int.tmod x249 (65536 : Int))
         bif (decide (x250 < (0 : Int))) then
          none
         else
          bif decide (x250.toNat < v240.length) then
           match v240[x250.toNat]? with
           | some x252 =>
            let x253 := v240.set x250.toNat x251
            let x254 := (IntKind.i64.wrap (Int.tdiv x249 (65536 : Int)))
            let x255 := (IntKind.i64.wrap (v239 + (1 : Int)))
            next v235 v236 v237 x254 x255 x253
           | none => none
          else
           none
        | none => none
      | none => none
    | none => none
   else
    none
 else
  k0 v235 v236 v237 v238 v240
noncomputable def spec_l5Mul_L2.b {α : Type} (N n : Nat) (v235 : List Int) (v236 : List Int) (v237 : Int) (v238 : Int) (v239 : Int) (v240 : List Int) (k0 : List Int → List Int → Int → Int → List Int → Option α) : Option α :=
  Nat.rec (motive := fun _ => List Int → List Int → Int → Int → Int → List Int → Option α) (fun _ _ _ _ _ _ => none) (fun _ next => spec_l5Mul_L2r N next k0) n v235 v236 v237 v238 v239 v240
theorem spec_l5Mul_L2.ex : ∃ f : ((α : Type) → Nat → Nat → List Int → List Int → Int → Int → Int → List Int → (List Int → List Int → Int → Int → List Int → Option α) → Option α), f = fun α => @spec_l5Mul_L2.b α := ⟨_, rfl⟩
noncomputable def spec_l5Mul_L2 {α : Type} : Nat → Nat → List Int → List Int → Int → Int → Int → List Int → (List Int → List Int → Int → Int → List Int → Option α) → Option α := Classical.choose spec_l5Mul_L2.ex α
theorem spec_l5Mul_L2.eq : @spec_l5Mul_L2 = @spec_l5Mul_L2.b := funext fun α => congrFun (Classical.choose_spec spec_l5Mul_L2.ex) α
theorem spec_l5Mul_L2.zero {α : Type} (N : Nat) (v235 : List Int) (v236 : List Int) (v237 : Int) (v238 : Int) (v239 : Int) (v240 : List Int) (k0 : List Int → List Int → Int → Int → List Int → Option α) : spec_l5Mul_L2 N 0 v235 v236 v237 v238 v239 v240 k0 = none := by rw [spec_l5Mul_L2.eq]; rfl
theorem spec_l5Mul_L2.succ {α : Type} (N n : Nat) (v235 : List Int) (v236 : List Int) (v237 : Int) (v238 : Int) (v239 : Int) (v240 : List Int) (k0 : List Int → List Int → Int → Int → List Int → Option α) : spec_l5Mul_L2 N (n + 1) v235 v236 v237 v238 v239 v240 k0 = spec_l5Mul_L2r N (fun y0 y1 y2 y3 y4 y5 => spec_l5Mul_L2 N n y0 y1 y2 y3 y4 y5 k0) k0 v235 v236 v237 v238 v239 v240 := by rw [spec_l5Mul_L2.eq]; rfl
noncomputable def spec_l5Mul_L0r {α : Type} (N : Nat) (next : List Int → List Int → Int → List Int → Option α) (k0 : List Int → Option α) (v229 : List Int) (v230 : List Int) (v231 : Int) (v232 : List Int) : Option α :=
 let x233 := ((v229.length : Nat) : Int)
 let x234 := decide (v231 < x233)
 bif x234 then
  spec_l5Mul_L2 N N v229 v230 v231 (0 : Int) (0 : Int) v232
   (fun x256 x257 x258 x259 x260 =>
    let x261 := ((x257.length : Nat) : Int)
    let x262 := IntKind.i64.wrap (x258 + x261)
    bif (decide (x262 < (0 : Int))) then
     none
    else
     bif decide (x262.toNat < x260.length) then
      match x260[x262.toNat]? with
      | some x263 =>
       let x264 := x260.set x262.toNat x259
       let x265 := (IntKind.i64.wrap (x258 + (1 : Int)))
       next x256 x257 x265 x264
      | none => none
     else
      none)
 else
  k0 v232
noncomputable def spec_l5Mul_L0.b {α : Type} (N n : Nat) (v229 : List Int) (v230 : List Int) (v231 : Int) (v232 : List Int) (k0 : List Int → Option α) : Option α :=
  Nat.rec (motive := fun _ => List Int → List Int → Int → List Int → Option α) (fun _ _ _ _ => none) (fun _ next => spec_l5Mul_L0r N next k0) n v229 v230 v231 v232
theorem spec_l5Mul_L0.ex : ∃ f : ((α : Type) → Nat → Nat → List Int → List Int → Int → List Int → (List Int → Option α) → Option α), f = fun α => @spec_l5Mul_L0.b α := ⟨_, rfl⟩
noncomputable def spec_l5Mul_L0 {α : Type} : Nat → Nat → List Int → List Int → Int → List Int → (List Int → Option α) → Option α := Classical.choose spec_l5Mul_L0.ex α
theorem spec_l5Mul_L0.eq : @spec_l5Mul_L0 = @spec_l5Mul_L0.b := funext fun α => congrFun (Classical.choose_spec spec_l5Mul_L0.ex) α
theorem spec_l5Mul_L0.zero {α : Type} (N : Nat) (v229 : List Int) (v230 : List Int) (v231 : Int) (v232 : List Int) (k0 : List Int → Option α) : spec_l5Mul_L0 N 0 v229 v230 v231 v232 k0 = none := by rw [spec_l5Mul_L0.eq]; rfl
theorem spec_l5Mul_L0.succ {α : Type} (N n : Nat) (v229 : List Int) (v230 : List Int) (v231 : Int) (v232 : List Int) (k0 : List Int → Option α) : spec_l5Mul_L0 N (n + 1) v229 v230 v231 v232 k0 = spec_l5Mul_L0r N (fun y0 y1 y2 y3 => spec_l5Mul_L0 N n y0 y1 y2 y3 k0) k0 v229 v230 v231 v232 := by rw [spec_l5Mul_L0.eq]; rfl
/-- spec.l5Mul -/
noncomputable def spec_l5Mul.b {α : Type} (N : Nat) (a223 : List Int) (a224 : List Int) (k0 : List Int → Option α) : Option α :=
 let x225 := ((a223.length : Nat) : Int)
 let x226 := ((a224.length : Nat) : Int)
 let x227 := IntKind.i64.wrap (x225 + x226)
 bif (decide ((0 : Int) ≤ x227)) then
  bif decide (x227 ≤ x227) then
   bif (decide (x227 ≤ ((8796093022208 : Nat) : Int))) then
    let x228 := (List.replicate x227.toNat (0 : Int))
    spec_l5Mul_L0 N N a223 a224 (0 : Int) x228
     (fun x266 =>
      spec_l5Trim N x266
       (fun x288 =>
        k0 x288))
   else
    none
  else
   none
 else
  none
theorem spec_l5Mul.ex : ∃ f : ((α : Type) → Nat → List Int → List Int → (List Int → Option α) → Option α), f = fun α => @spec_l5Mul.b α := ⟨_, rfl⟩
noncomputable def spec_l5Mul {α : Type} : Nat → List Int → List Int → (List Int → Option α) → Option α := Classical.choose spec_l5Mul.ex α
theorem spec_l5Mul.eq : @spec_l5Mul = @spec_l5Mul.b := funext fun α => congrFun (Classical.choose_spec spec_l5Mul.ex) α

noncomputable def spec_l5Cmp_L0r {α : Type} (N : Nat) (next : List Int → List Int → Int → Option α) (k0 : Int → Option α) (k1 : Option α) (v307 : List Int) (v308 : List Int) (v309 : Int) : Option α :=
 let x310 := (decide ((0 : Int) ≤ v309))
 bif x310 then
  bif (decide (v309 < (0 : Int))) then
   none
  else
   match v307[v309.toNat]? with
   | some x311 =>
    bif (decide (v309 < (0 : Int))) then
     none
    else
     match v308[v309.toNat]? with
     | some x312 =>
      let x313 := decide (x311 < x312)
      bif x313 then
       k0 (-1 : Int)
      else
       bif (decide (v309 < (0 : Int))) then
        none
       else
        match v307[v309.toNat]? with
        | some x314 =>
         bif (decide (v309 < (0 : Int))) then
          none
         else
          match v308[v309.toNat]? with
          | some x315 =>
           let x316 := decide (x315 < x314)
           bif x316 then
            k0 (1 : Int)
           else
            let x317 := (IntKind.i64.wrap (v309 - (1 : Int)))
            next v307 v308 x317
          | none => none
        | none => none
     | none => none
   | none => none
 else
  k1
noncomputable def spec_l5Cmp_L0.b {α : Type} (N n : Nat) (v307 : List Int) (v308 : List Int) (v309 : Int) (k0 : Int → Option α) (k1 : Option α) : Option α :=
  Nat.rec (motive := fun _ => List Int → List Int → Int → Option α) (fun _ _ _ => none) (fun _ next => spec_l5Cmp_L0r N next k0 k1) n v307 v308 v309
theorem spec_l5Cmp_L0.ex : ∃ f : ((α : Type) → Nat → Nat → List Int → List Int → Int → (Int → Option α) → (Option α) → Option α), f = fun α => @spec_l5Cmp_L0.b α := ⟨_, rfl⟩
noncomputable def spec_l5Cmp_L0 {α : Type} : Nat → Nat → List Int → List Int → Int → (Int → Option α) → (Option α) → Option α := Classical.choose spec_l5Cmp_L0.ex α
theorem spec_l5Cmp_L0.eq : @spec_l5Cmp_L0 = @spec_l5Cmp_L0.b := funext fun α => congrFun (Classical.choose_spec spec_l5Cmp_L0.ex) α
theorem spec_l5Cmp_L0.zero {α : Type} (N : Nat) (v307 : List Int) (v308 : List Int) (v309 : Int) (k0 : Int → Option α) (k1 : Option α) : spec_l5Cmp_L0 N 0 v307 v308 v309 k0 k1 = none := by rw [spec_l5Cmp_L0.eq]; rfl
theorem spec_l5Cmp_L0.succ {α : Type} (N n : Nat) (v307 : List Int) (v308 : List Int) (v309 : Int) (k0 : Int → Option α) (k1 : Option α) : spec_l5Cmp_L0 N (n + 1) v307 v308 v309 k0 k1 = spec_l5Cmp_L0r N (fun y0 y1 y2 => spec_l5Cmp_L0 N n y0 y1 y2 k0 k1) k0 k1 v307 v308 v309 := by rw [spec_l5Cmp_L0.eq]; rfl
/-- spec.l5Cmp -/
noncomputable def spec_l5Cmp.b {α : Type} (N : Nat) (a297 : List Int) (a298 : List Int) (k0 : Int → Option α) : Option α :=
 let x299 := ((a297.length : Nat) : Int)
 let x300 := ((a298.length : Nat) : Int)
 let x301 := decide (x299 < x300)
 bif x301 then
  k0 (-1 : Int)
 else
  let x302 := ((a297.length : Nat) : Int)
  let x303 := ((a298.length : Nat) : Int)
  let x304 := decide (x303 < x302)
  bif x304 then
   k0 (1 : Int)
  else
   let x305 := ((a297.length : Nat) : Int)
   let x306 := (IntKind.i64.wrap (x305 - (1 : Int)))
   spec_l5Cmp_L0 N N a297 a298 x306
    (fun x318 =>
     k0 x318)
    (
     k0 (0 : Int))
theorem spec_l5Cmp.ex : ∃ f : ((α : Type) → Nat → List Int → List Int → (Int → Option α) → Option α), f = fun α => @spec_l5Cmp.b α := ⟨_, rfl⟩
noncomputable def spec_l5Cmp {α : Type} : Nat → List Int → List Int → (Int → Option α) → Option α := Classical.choose spec_l5Cmp.ex α
theorem spec_l5Cmp.eq : @spec_l5Cmp = @spec_l5Cmp.b := funext fun α => congrFun (Classical.choose_spec spec_l5Cmp.ex) α

noncomputable def spec_l5DivSmall_L0r {α : Type} (N : Nat) (next : List Int → Int → Int → Int → List Int → Option α) (k0 : Int → List Int → Option α) (v331 : List Int) (v332 : Int) (v333 : Int) (v334 : Int) (v335 : List Int) : Option α :=
 let x336 := (decide ((0 : Int) ≤ v334))
 bif x336 then
  let x337 := (IntKind.i64.wrap (v333 * (65536 : Int)))
  bif (decide (v334 < (0 : Int))) then
   none
  else
   match v331[v334.toNat]? with
   | some x338 =>
    let x339 := IntKind.i64.wrap (x337 + x338)
    bif (decide (v332 = (0 : Int))) then
     none
    else
     let x340 := IntKind.i64.wrap (Int.tdiv x339 v332)
     bif (decide (v334 < (0 : Int))) then
      none
     else
      bif decide (v334.toNat < v335.length) then
       match v335[v334.toNat]? with
       | some x341 =>
        let x342 := v335.set v334.toNat x340
        bif (decide (v332 = (0 : Int))) then
         none
        else
         let x343 := Int.tmod x339 v332
         let x344 := (IntKind.i64.wrap (v334 - (1 : Int)))
         next v331 v332 x343 x344 x342
       | none => none
      else
       none
   | none => none
 else
  k0 v333 v335
noncomputable def spec_l5DivSmall_L0.b {α : Type} (N n : Nat) (v331 : List Int) (v332 : Int) (v333 : Int) (v334 : Int) (v335 : List Int) (k0 : Int → List Int → Option α) : Option α :=
  Nat.rec (motive := fun _ => List Int → Int → Int → Int → List Int → Option α) (fun _ _ _ _ _ => none) (fun _ next => spec_l5DivSmall_L0r N next k0) n v331 v332 v333 v334 v335
theorem spec_l5DivSmall_L0.ex : ∃ f : ((α : Type) → Nat → Nat → List Int → Int → Int → Int → List Int → (Int → List Int → Option α) → Option α), f = fun α => @spec_l5DivSmall_L0.b α := ⟨_, rfl⟩
noncomputable def spec_l5DivSmall_L0 {α : Type} : Nat → Nat → List Int → Int → Int → Int → List Int → (Int → List Int → Option α) → Option α := Classical.choose spec_l5DivSmall_L0.ex α
theorem spec_l5DivSmall_L0.eq : @spec_l5DivSmall_L0 = @spec_l5DivSmall_L0.b := funext fun α => congrFun (Classical.choose_spec spec_l5DivSmall_L0.ex) α
theorem spec_l5DivSmall_L0.zero {α : Type} (N : Nat) (v331 : List Int) (v332 : Int) (v333 : Int) (v334 : Int) (v335 : List Int) (k0 : Int → List Int → Option α) : spec_l5DivSmall_L0 N 0 v331 v332 v333 v334 v335 k0 = none := by rw [spec_l5DivSmall_L0.eq]; rfl
theorem spec_l5DivSmall_L0.succ {α : Type} (N n : Nat) (v331 : List Int) (v332 : Int) (v333 : Int) (v334 : Int) (v335 : List Int) (k0 : Int → List Int → Option α) : spec_l5DivSmall_L0 N (n + 1) v331 v332 v333 v334 v335 k0 = spec_l5DivSmall_L0r N (fun y0 y1 y2 y3 y4 => spec_l5DivSmall_L0 N n y0 y1 y2 y3 y4 k0) k0 v331 v332 v333 v334 v335 := by rw [spec_l5DivSmall_L0.eq]; rfl
/-- spec.l5DivSmall -/
noncomputable def spec_l5DivSmall.b {α : Type} (N : Nat) (a325 : List Int) (a326 : Int) (k0 : Int → List Int → Option α) : Option α :=
 let x327 := ((a325.length : Nat) : Int)
 bif (decide ((0 : Int) ≤ x327)) then
  bif decide (x327 ≤ x327) then
   bif (decide (x327 ≤ ((8796093022208 : Nat) : Int))) then
    let x328 := (List.replicate x327.toNat (0 : Int))
    let x329 := ((a325.length : Nat) : Int)
    let x330 := (IntKind.i64.wrap (x329 - (1 : Int)))
    spec_l5DivSmall_L0 N N a325 a326 (0 : Int) x330 x328
     (fun x345 x346 =>
      spec_l5Trim N x346
       (fun x347 =>
        k0 x345 x347))
   else
    none
  else
   none
 else
  none
theorem spec_l5DivSmall.ex : ∃ f : ((α : Type) → Nat → List Int → Int → (Int → List Int → Option α) → Option α), f = fun α => @spec_l5DivSmall.b α := ⟨_, rfl⟩
noncomputable def spec_l5DivSmall {α : Type} : Nat → List Int → Int → (Int → List Int → Option α) → Option α := Classical.choose spec_l5DivSmall.ex α
theorem spec_l5DivSmall.eq : @spec_l5DivSmall = @spec_l5DivSmall.b := funext fun α => congrFun (Classical.choose_spec spec_l5DivSmall.ex) α

noncomputable def spec_NatOf_L0r {α : Type} (N : Nat) (next : Int → List Int → Option α) (k0 : List Int → Option α) (v352 : Int) (v353 : List Int) : Option α :=
 let x354 := (decide ((0 : Int) < v352))
 bif x354 then
  let x355 := (Int.tmod v352 (65536 : Int))
  let x356 := IntKind.i64.wrap x355
  let x357 := [x356]
  bif decide (v353.length + x357.length ≤ 8796093022208) then
   let x358 := v353 ++ x357
   let x359 := (IntKind.u64.wrap (Int.tdiv v352 (65536 : Int)))
   next x359 x358
  else
   none
 else
  k0 v353
noncomputable def spec_NatOf_L0.b {α : Type} (N n : Nat) (v352 : Int) (v353 : List Int) (k0 : List Int → Option α) : Option α :=
  Nat.rec (motive := fun _ => Int → List Int → Option α) (fun _ _ => none) (fun _ next => spec_NatOf_L0r N next k0) n v352 v353
theorem spec_NatOf_L0.ex : ∃ f : ((α : Type) → Nat → Nat → Int → List Int → (List Int → Option α) → Option α), f = fun α => @spec_NatOf_L0.b α := ⟨_, rfl⟩
noncomputable def spec_NatOf_L0 {α : Type} : Nat → Nat → Int → List Int → (List Int → Option α) → Option α := Classical.choose spec_NatOf_L0.ex α
theorem spec_NatOf_L0.eq : @spec_NatOf_L0 = @spec_NatOf_L0.b := funext fun α => congrFun (Classical.choose_spec spec_NatOf_L0.ex) α
theorem spec_NatOf_L0.zero {α : Type} (N : Nat) (v352 : Int) (v353 : List Int) (k0 : List Int → Option α) : spec_NatOf_L0 N 0 v352 v353 k0 = none := by rw [spec_NatOf_L0.eq]; rfl
theorem spec_NatOf_L0.succ {α : Type} (N n : Nat) (v352 : Int) (v353 : List Int) (k0 : List Int → Option α) : spec_NatOf_L0 N (n + 1) v352 v353 k0 = spec_NatOf_L0r N (fun y0 y1 => spec_NatOf_L0 N n y0 y1 k0) k0 v352 v353 := by rw [spec_NatOf_L0.eq]; rfl
/-- spec.NatOf -/
noncomputable def spec_NatOf.b {α : Type} (N : Nat) (a351 : Int) (k0 : List Int → Option α) : Option α :=
 spec_NatOf_L0 N N a351 []
  (fun x360 =>
   k0 x360)
theorem spec_NatOf.ex : ∃ f : ((α : Type) → Nat → Int → (List Int → Option α) → Option α), f = fun α => @spec_NatOf.b α := ⟨_, rfl⟩
noncomputable def spec_NatOf {α : Type} : Nat → Int → (List Int → Option α) → Option α := Classical.choose spec_NatOf.ex α
theorem spec_NatOf.eq : @spec_NatOf = @spec_NatOf.b := funext fun α => congrFun (Classical.choose_spec spec_NatOf.ex) α

/-- spec.l5Times -/
noncomputable def spec_l5Times.b {α : Type} (N : Nat) (a367 : List Int) (a368 : Int) (k0 : List Int → Option α) : Option α :=
 let x369 := (decide (a368 = (0 : Int)))
 bif x369 then
  k0 []
 else
  let x370 := [a368]
  spec_l5Mul N a367 x370
   (fun x371 =>
    k0 x371)
theorem spec_l5Times.ex : ∃ f : ((α : Type) → Nat → List Int → Int → (List Int → Option α) → Option α), f = fun α => @spec_l5Times.b α := ⟨_, rfl⟩
noncomputable def spec_l5Times {α : Type} : Nat → List Int → Int → (List Int → Option α) → Option α := Classical.choose spec_l5Times.ex α
theorem spec_l5Times.eq : @spec_l5Times = @spec_l5Times.b := funext fun α => congrFun (Classical.choose_spec spec_l5Times.ex) α

noncomputable def spec_l5Top_L0r {α : Type} (N : Nat) (next : List Int → Int → List Int → Option α) (k0 : List Int → Option α) (v384 : List Int) (v385 : Int) (v386 : List Int) : Option α :=
 let x387 := ((v384.length : Nat) : Int)
 let x388 := decide (v385 < x387)
 bif x388 then
  bif (decide (v385 < (0 : Int))) then
   none
  else
   match v384[v385.toNat]? with
   | some x389 =>
    let x390 := [x389]
    bif decide (v386.length + x390.length ≤ 8796093022208) then
     let x391 := v386 ++ x390
     let x392 := (IntKind.i64.wrap (v385 + (1 : Int)))
     next v384 x392 x391
    else
     none
   | none => none
 else
  k0 v386
noncomputable def spec_l5Top_L0.b {α : Type} (N n : Nat) (v384 : List Int) (v385 : Int) (v386 : List Int) (k0 : List Int → Option α) : Option α :=
  Nat.rec (motive := fun _ => List Int → Int → List Int → Option α) (fun _ _ _ => none) (fun _ next => spec_l5Top_L0r N next k0) n v384 v385 v386
theorem spec_l5Top_L0.ex : ∃ f : ((α : Type) → Nat → Nat → List Int → Int → List Int → (List Int → Option α) → Option α), f = fun α => @spec_l5Top_L0.b α := ⟨_, rfl⟩
noncomputable def spec_l5Top_L0 {α : Type} : Nat → Nat → List Int → Int → List Int → (List Int → Option α) → Option α := Classical.choose spec_l5Top_L0.ex α
theorem spec_l5Top_L0.eq : @spec_l5Top_L0 = @spec_l5Top_L0.b := funext fun α => congrFun (Classical.choose_spec spec_l5Top_L0.ex) α
theorem spec_l5Top_L0.zero {α : Type} (N : Nat) (v384 : List Int) (v385 : Int) (v386 : List Int) (k0 : List Int → Option α) : spec_l5Top_L0 N 0 v384 v385 v386 k0 = none := by rw [spec_l5Top_L0.eq]; rfl
theorem spec_l5Top_L0.succ {α : Type} (N n : Nat) (v384 : List Int) (v385 : Int) (v386 : List Int) (k0 : List Int → Option α) : spec_l5Top_L0 N (n + 1) v384 v385 v386 k0 = spec_l5Top_L0r N (fun y0 y1 y2 => spec_l5Top_L0 N n y0 y1 y2 k0) k0 v384 v385 v386 := by rw [spec_l5Top_L0.eq]; rfl
/-- spec.l5Top -/
noncomputable def spec_l5Top.b {α : Type} (N : Nat) (a382 : List Int) (a383 : Int) (k0 : List Int → Option α) : Option α :=
 spec_l5Top_L0 N N a382 a383 []
  (fun x393 =>
   k0 x393)
theorem spec_l5Top.ex : ∃ f : ((α : Type) → Nat → List Int → Int → (List Int → Option α) → Option α), f = fun α => @spec_l5Top.b α := ⟨_, rfl⟩
noncomputable def spec_l5Top {α : Type} : Nat → List Int → Int → (List Int → Option α) → Option α := Classical.choose spec_l5Top.ex α
theorem spec_l5Top.eq : @spec_l5Top = @spec_l5Top.b := funext fun α => congrFun (Classical.choose_spec spec_l5Top.ex) α

/-- spec.l5At -/
noncomputable def spec_l5At.b {α : Type} (N : Nat) (a428 : List Int) (a429 : Int) (k0 : Int → Option α) : Option α :=
 let x430 := ((a428.length : Nat) : Int)
 let x431 := decide (a429 < x430)
 bif x431 then
  bif (decide (a429 < (0 : Int))) then
   none
  else
   match a428[a429.toNat]? with
   | some x432 =>
    k0 x432
   | none => none
 else
  k0 (0 : Int)
theorem spec_l5At.ex : ∃ f : ((α : Type) → Nat → List Int → Int → (Int → Option α) → Option α), f = fun α => @spec_l5At.b α := ⟨_, rfl⟩
noncomputable def spec_l5At {α : Type} : Nat → List Int → Int → (Int → Option α) → Option α := Classical.choose spec_l5At.ex α
theorem spec_l5At.eq : @spec_l5At = @spec_l5At.b := funext fun α => congrFun (Classical.choose_spec spec_l5At.ex) α

noncomputable def spec_l5Add_J2.b {α : Type} (N : Nat) (v412 : List Int) (v413 : List Int) (v414 : Int) (k0 : List Int → List Int → Int → Option α) : Option α :=
 let x415 := ((v413.length : Nat) : Int)
 let x416 := decide (v414 < x415)
 bif x416 then
  let x417 := ((v413.length : Nat) : Int)
  k0 v412 v413 x417
 else
  k0 v412 v413 v414
theorem spec_l5Add_J2.ex : ∃ f : ((α : Type) → Nat → List Int → List Int → Int → (List Int → List Int → Int → Option α) → Option α), f = fun α => @spec_l5Add_J2.b α := ⟨_, rfl⟩
noncomputable def spec_l5Add_J2 {α : Type} : Nat → List Int → List Int → Int → (List Int → List Int → Int → Option α) → Option α := Classical.choose spec_l5Add_J2.ex α
theorem spec_l5Add_J2.eq : @spec_l5Add_J2 = @spec_l5Add_J2.b := funext fun α => congrFun (Classical.choose_spec spec_l5Add_J2.ex) α
noncomputable def spec_l5Add_L0r {α : Type} (N : Nat) (next : List Int → List Int → Int → Int → Int → List Int → Option α) (k0 : Int → List Int → Option α) (v421 : List Int) (v422 : List Int) (v423 : Int) (v424 : Int) (v425 : Int) (v426 : List Int) : Option α :=
 let x427 := decide (v425 < v423)
 bif x427 then
  spec_l5At N v421 v425
   (fun x433 =>
    spec_l5At N v422 v425
     (fun x434 =>
      let x435 := IntKind.i64.wrap (x433 + x434)
      let x436 := IntKind.i64.wrap (x435 + v424)
      let x437 := (Int.tmod x436 (65536 : Int))
      let x438 := [x437]
      bif decide (v426.length + x438.length ≤ 8796093022208) then
       let x439 := v426 ++ x438
       let x440 := (IntKind.i64.wrap (Int.tdiv x436 (65536 : Int)))
       let x441 := (IntKind.i64.wrap (v425 + (1 : Int)))
       next v421 v422 v423 x440 x441 x439
      else
       none))
 else
  k0 v424 v426
noncomputable def spec_l5Add_L0.b {α : Type} (N n : Nat) (v421 : List Int) (v422 : List Int) (v423 : Int) (v424 : Int) (v425 : Int) (v426 : List Int) (k0 : Int → List Int → Option α) : Option α :=
  Nat.rec (motive := fun _ => List Int → List Int → Int → Int → Int → List Int → Option α) (fun _ _ _ _ _ _ => none) (fun _ next => spec_l5Add_L0r N next k0) n v421 v422 v423 v424 v425 v426
theorem spec_l5Add_L0.ex : ∃ f : ((α : Type) → Nat → Nat → List Int → List Int → Int → Int → Int → List Int → (Int → List Int → Option α) → Option α), f = fun α => @spec_l5Add_L0.b α := ⟨_, rfl⟩
noncomputable def spec_l5Add_L0 {α : Type} : Nat → Nat → List Int → List Int → Int → Int → Int → List Int → (Int → List Int → Option α) → Option α := Classical.choose spec_l5Add_L0.ex α
theorem spec_l5Add_L0.eq : @spec_l5Add_L0 = @spec_l5Add_L0.b := funext fun α => congrFun (Classical.choose_spec spec_l5Add_L0.ex) α
theorem spec_l5Add_L0.zero {α : Type} (N : Nat) (v421 : List Int) (v422 : List Int) (v423 : Int) (v424 : Int) (v425 : Int) (v426 : List Int) (k0 : Int → List Int → Option α) : spec_l5Add_L0 N 0 v421 v422 v423 v424 v425 v426 k0 = none := by rw [spec_l5Add_L0.eq]; rfl
theorem spec_l5Add_L0.succ {α : Type} (N n : Nat) (v421 : List Int) (v422 : List Int) (v423 : Int) (v424 : Int) (v425 : Int) (v426 : List Int) (k0 : Int → List Int → Option α) : spec_l5Add_L0 N (n + 1) v421 v422 v423 v424 v425 v426 k0 = spec_l5Add_L0r N (fun y0 y1 y2 y3 y4 y5 => spec_l5Add_L0 N n y0 y1 y2 y3 y4 y5 k0) k0 v421 v422 v423 v424 v425 v426 := by rw [spec_l5Add_L0.eq]; rfl
noncomputable def spec_l5Add_J12.b {α : Type} (N : Nat) (v444 : Int) (v445 : List Int) (k0 : List Int → Option α) : Option α :=
 let x446 := (decide ((0 : Int) < v444))
 bif x446 then
  let x447 := [v444]
  bif decide (v445.length + x447.length ≤ 8796093022208) then
   let x448 := v445 ++ x447
   k0 x448
  else
   none
 else
  k0 v445
theorem spec_l5Add_J12.ex : ∃ f : ((α : Type) → Nat → Int → List Int → (List Int → Option α) → Option α), f = fun α => @spec_l5Add_J12.b α := ⟨_, rfl⟩
noncomputable def spec_l5Add_J12 {α : Type} : Nat → Int → List Int → (List Int → Option α) → Option α := Classical.choose spec_l5Add_J12.ex α
theorem spec_l5Add_J12.eq : @spec_l5Add_J12 = @spec_l5Add_J12.b := funext fun α => congrFun (Classical.choose_spec spec_l5Add_J12.ex) α
/-- spec.l5Add -/
noncomputable def spec_l5Add.b {α : Type} (N : Nat) (a409 : List Int) (a410 : List Int) (k0 : List Int → Option α) : Option α :=
 let x411 := ((a409.length : Nat) : Int)
 spec_l5Add_J2 N a409 a410 x411
  (fun x418 x419 x420 =>
   spec_l5Add_L0 N N x418 x419 x420 (0 : Int) (0 : Int) []
    (fun x442 x443 =>
     spec_l5Add_J12 N x442 x443
      (fun x449 =>
       k0 x449)))
theorem spec_l5Add.ex : ∃ f : ((α : Type) → Nat → List Int → List Int → (List Int → Option α) → Option α), f = fun α => @spec_l5Add.b α := ⟨_, rfl⟩
noncomputable def spec_l5Add {α : Type} : Nat → List Int → List Int → (List Int → Option α) → Option α := Classical.choose spec_l5Add.ex α
theorem spec_l5Add.eq : @spec_l5Add = @spec_l5Add.b := funext fun α => congrFun (Classical.choose_spec spec_l5Add.ex) α

noncomputable def spec_l5Sub_J8.b {α : Type} (N : Nat) (v502 : List Int) (v503 : List Int) (v504 : Int) (v505 : Int) (v506 : Int) (v507 : List Int) (k0 : List Int → List Int → Int → Int → Int → List Int → Option α) : Option α :=
 let x508 := (decide (v506 < (0 : Int)))
 bif x508 then
  let x509 := (IntKind.i64.wrap (v506 + (65536 : Int)))
  k0 v502 v503 (1 : Int) v505 x509 v507
 else
  k0 v502 v503 v504 v505 v506 v507
theorem spec_l5Sub_J8.ex : ∃ f : ((α : Type) → Nat → List Int → List Int → Int → Int → Int → List Int → (List Int → List Int → Int → Int → Int → List Int → Option α) → Option α), f = fun α => @spec_l5Sub_J8.b α := ⟨_, rfl⟩
noncomputable def spec_l5Sub_J8 {α : Type} : Nat → List Int → List Int → Int → Int → Int → List Int → (List Int → List Int → Int → Int → Int → List Int → Option α) → Option α := Classical.choose spec_l5Sub_J8.ex α
theorem spec_l5Sub_J8.eq : @spec_l5Sub_J8 = @spec_l5Sub_J8.b := funext fun α => congrFun (Classical.choose_spec spec_l5Sub_J8.ex) α
noncomputable def spec_l5Sub_L0r {α : Type} (N : Nat) (next : List Int → List Int → Int → Int → List Int → Option α) (k0 : List Int → Option α) (v491 : List Int) (v492 : List Int) (v493 : Int) (v494 : Int) (v495 : List Int) : Option α :=
 let x496 := ((v491.length : Nat) : Int)
 let x497 := decide (v494 < x496)
 bif x497 then
  bif (decide (v494 < (0 : Int))) then
   none
  else
   match v491[v494.toNat]? with
   | some x498 =>
    spec_l5At N v492 v494
     (fun x499 =>
      let x500 := IntKind.i64.wrap (x498 - x499)
      let x501 := IntKind.i64.wrap (x500 - v493)
      spec_l5Sub_J8 N v491 v492 (0 : Int) v494 x501 v495
       (fun x510 x511 x512 x513 x514 x515 =>
        let x516 := [x514]
        bif decide (x515.length + x516.length ≤ 8796093022208) then
         let x517 := x515 ++ x516
         let x518 := (IntKind.i64.wrap (x513 + (1 : Int)))
         next x510 x511 x512 x518 x517
        else
         none))
   | none => none
 else
  k0 v495
noncomputable def spec_l5Sub_L0.b {α : Type} (N n : Nat) (v491 : List Int) (v492 : List Int) (v493 : Int) (v494 : Int) (v495 : List Int) (k0 : List Int → Option α) : Option α :=
  Nat.rec (motive := fun _ => List Int → List Int → Int → Int → List Int → Option α) (fun _ _ _ _ _ => none) (fun _ next => spec_l5Sub_L0r N next k0) n v491 v492 v493 v494 v495
theorem spec_l5Sub_L0.ex : ∃ f : ((α : Type) → Nat → Nat → List Int → List Int → Int → Int → List Int → (List Int → Option α) → Option α), f = fun α => @spec_l5Sub_L0.b α := ⟨_, rfl⟩
noncomputable def spec_l5Sub_L0 {α : Type} : Nat → Nat → List Int → List Int → Int → Int → List Int → (List Int → Option α) → Option α := Classical.choose spec_l5Sub_L0.ex α
theorem spec_l5Sub_L0.eq : @spec_l5Sub_L0 = @spec_l5Sub_L0.b := funext fun α => congrFun (Classical.choose_spec spec_l5Sub_L0.ex) α
theorem spec_l5Sub_L0.zero {α : Type} (N : Nat) (v491 : List Int) (v492 : List Int) (v493 : Int) (v494 : Int) (v495 : List Int) (k0 : List Int → Option α) : spec_l5Sub_L0 N 0 v491 v492 v493 v494 v495 k0 = none := by rw [spec_l5Sub_L0.eq]; rfl
theorem spec_l5Sub_L0.succ {α : Type} (N n : Nat) (v491 : List Int) (v492 : List Int) (v493 : Int) (v494 : Int) (v495 : List Int) (k0 : List Int → Option α) : spec_l5Sub_L0 N (n + 1) v491 v492 v493 v494 v495 k0 = spec_l5Sub_L0r N (fun y0 y1 y2 y3 y4 => spec_l5Sub_L0 N n y0 y1 y2 y3 y4 k0) k0 v491 v492 v493 v494 v495 := by rw [spec_l5Sub_L0.eq]; rfl
/-- spec.l5Sub -/
noncomputable def spec_l5Sub.b {α : Type} (N : Nat) (a489 : List Int) (a490 : List Int) (k0 : List Int → Option α) : Option α :=
 spec_l5Sub_L0 N N a489 a490 (0 : Int) (0 : Int) []
  (fun x519 =>
   spec_l5Trim N x519
    (fun x520 =>
     k0 x520))
theorem spec_l5Sub.ex : ∃ f : ((α : Type) → Nat → List Int → List Int → (List Int → Option α) → Option α), f = fun α => @spec_l5Sub.b α := ⟨_, rfl⟩
noncomputable def spec_l5Sub {α : Type} : Nat → List Int → List Int → (List Int → Option α) → Option α := Classical.choose spec_l5Sub.ex α
theorem spec_l5Sub.eq : @spec_l5Sub = @spec_l5Sub.b := funext fun α => congrFun (Classical.choose_spec spec_l5Sub.ex) α

noncomputable def spec_l5Div_J17.b {α : Type} (N : Nat) (v460 : Int) (v461 : Int) (v462 : Int) (v463 : Int) (v464 : List Int) (v465 : List Int) (v466 : List Int) (v467 : List Int) (k0 : Int → Int → Int → Int → List Int → List Int → List Int → List Int → Option α) : Option α :=
 let x468 := (decide ((65536 : Int) ≤ v463))
 bif x468 then
  k0 v460 v461 v462 (65535 : Int) v464 v465 v466 v467
 else
  k0 v460 v461 v462 v463 v464 v465 v466 v467
theorem spec_l5Div_J17.ex : ∃ f : ((α : Type) → Nat → Int → Int → Int → Int → List Int → List Int → List Int → List Int → (Int → Int → Int → Int → List Int → List Int → List Int → List Int → Option α) → Option α), f = fun α => @spec_l5Div_J17.b α := ⟨_, rfl⟩
noncomputable def spec_l5Div_J17 {α : Type} : Nat → Int → Int → Int → Int → List Int → List Int → List Int → List Int → (Int → Int → Int → Int → List Int → List Int → List Int → List Int → Option α) → Option α := Classical.choose spec_l5Div_J17.ex α
theorem spec_l5Div_J17.eq : @spec_l5Div_J17 = @spec_l5Div_J17.b := funext fun α => congrFun (Classical.choose_spec spec_l5Div_J17.ex) α
noncomputable def spec_l5Div_L2r {α : Type} (N : Nat) (next : Int → Int → Int → Int → List Int → List Int → List Int → List Int → List Int → Option α) (k0 : Int → Int → Int → Int → List Int → List Int → List Int → List Int → List Int → Option α) (v478 : Int) (v479 : Int) (v480 : Int) (v481 : Int) (v482 : List Int) (v483 : List Int) (v484 : List Int) (v485 : List Int) (v486 : List Int) : Option α :=
 spec_l5Cmp N v486 v485
  (fun x487 =>
   let x488 := (decide ((0 : Int) < x487))
   bif x488 then
    spec_l5Sub N v486 v483
     (fun x521 =>
      let x522 := (IntKind.i64.wrap (v481 - (1 : Int)))
      next v478 v479 v480 x522 v482 v483 v484 v485 x521)
   else
    k0 v478 v479 v480 v481 v482 v483 v484 v485 v486)
noncomputable def spec_l5Div_L2.b {α : Type} (N n : Nat) (v478 : Int) (v479 : Int) (v480 : Int) (v481 : Int) (v482 : List Int) (v483 : List Int) (v484 : List Int) (v485 : List Int) (v486 : List Int) (k0 : Int → Int → Int → Int → List Int → List Int → List Int → List Int → List Int → Option α) : Option α :=
  Nat.rec (motive := fun _ => Int → Int → Int → Int → List Int → List Int → List Int → List Int → List Int → Option α) (fun _ _ _ _ _ _ _ _ _ => none) (fun _ next => spec_l5Div_L2r N next k0) n v478 v479 v480 v481 v482 v483 v484 v485 v486
theorem spec_l5Div_L2.ex : ∃ f : ((α : Type) → Nat → Nat → Int → Int → Int → Int → List Int → List Int → List Int → List Int → List Int → (Int → Int → Int → Int → List Int → List Int → List Int → List Int → List Int → Option α) → Option α), f = fun α => @spec_l5Div_L2.b α := ⟨_, rfl⟩
noncomputable def spec_l5Div_L2 {α : Type} : Nat → Nat → Int → Int → Int → Int → List Int → List Int → List Int → List Int → List Int → (Int → Int → Int → Int → List Int → List Int → List Int → List Int → List Int → Option α) → Option α := Classical.choose spec_l5Div_L2.ex α
theorem spec_l5Div_L2.eq : @spec_l5Div_L2 = @spec_l5Div_L2.b := funext fun α => congrFun (Classical.choose_spec spec_l5Div_L2.ex) α
theorem spec_l5Div_L2.zero {α : Type} (N : Nat) (v478 : Int) (v479 : Int) (v480 : Int) (v481 : Int) (v482 : List Int) (v483 : List Int) (v484 : List Int) (v485 : List Int) (v486 : List Int) (k0 : Int → Int → Int → Int → List Int → List Int → List Int → List Int → List Int → Option α) : spec_l5Div_L2 N 0 v478 v479 v480 v481 v482 v483 v484 v485 v486 k0 = none := by rw [spec_l5Div_L2.eq]; rfl
theorem spec_l5Div_L2.succ {α : Type} (N n : Nat) (v478 : Int) (v479 : Int) (v480 : Int) (v481 : Int) (v482 : List Int) (v483 : List Int) (v484 : List Int) (v485 : List Int) (v486 : List Int) (k0 : Int → Int → Int → Int → List Int → List Int → List Int → List Int → List Int → Option α) : spec_l5Div_L2 N (n + 1) v478 v479 v480 v481 v482 v483 v484 v485 v486 k0 = spec_l5Div_L2r N (fun y0 y1 y2 y3 y4 y5 y6 y7 y8 => spec_l5Div_L2 N n y0 y1 y2 y3 y4 y5 y6 y7 y8 k0) k0 v478 v479 v480 v481 v482 v483 v484 v485 v486 := by rw [spec_l5Div_L2.eq]; rfl
noncomputable def spec_l5Div_L0r {α : Type} (N : Nat) (next : Int → Int → Int → List Int → List Int → List Int → List Int → Option α) (k0 : Int → List Int → List Int → Option α) (v397 : Int) (v398 : Int) (v399 : Int) (v400 : List Int) (v401 : List Int) (v402 : List Int) (v403 : List Int) : Option α :=
 let x404 := (decide ((0 : Int) ≤ v399))
 bif x404 then
  spec_l5Shl N v403 (1 : Int)
   (fun x405 =>
    bif (decide (v399 < (0 : Int))) then
     none
    else
     bif decide (v399.toNat < v400.length) then
      match v400[v399.toNat]? with
      | some x406 =>
       let x407 := IntKind.u64.wrap x406
       spec_NatOf N x407
        (fun x408 =>
         spec_l5Add N x405 x408
          (fun x450 =>
           spec_l5Trim N x450
            (fun x451 =>
             spec_l5At N x451 v398
              (fun x452 =>
               let x453 := (IntKind.i64.wrap (x452 * (65536 : Int)))
               let x454 := (IntKind.i64.wrap (v398 - (1 : Int)))
               spec_l5At N x451 x454
                (fun x455 =>
                 let x456 := IntKind.i64.wrap (x453 + x455)
                 let x457 := (IntKind.i64.wrap (v398 - (1 : Int)))
                 bif (decide (x457 < (0 : Int))) then
                  none
                 else
                  bif decide (x457.toNat < v401.length) then
                   match v401[x457.toNat]? with
                   | some x458 =>
                    bif (decide (x458 = (0 : Int))) then
                     none
                    else
                     let x459 := IntKind.i64.wrap (Int.tdiv x456 x458)
                     spec_l5Div_J17 N v397 v398 v399 x459 v400 v401 v402 x451
                      (fun x469 x470 x471 x472 x473 x474 x475 x476 =>
                       spec_l5Times N x474 x472
                        (fun x477 =>
                         spec_l5Div_L2 N N x469 x470 x471 x472 x473 x474 x475 x476 x477
                          (fun x523 x524 x525 x526 x527 x528 x529 x530 x531 =>
                           bif (decide (x525 < (0 : Int))) then
                            none
                           else
                            bif decide (x525.toNat < x529.length) then
                             match x529[x525.toNat]? with
                             | some x532 =>
                              let x533 := x529.set x525.toNat x526
                              spec_l5Sub N x530 x531
                               (fun x534 =>
                                let x535 := (IntKind.i64.wrap (x525 - (1 : Int)))
                                next x523 x524 x535 x527 x528 x533 x534)
                             | none => none
                            else
                             none)))
                   | none => none
                  else
                   none)))))
      | none => none
     else
      none)
 else
  k0 v397 v402 v403
noncomputable def spec_l5Div_L0.b {α : Type} (N n : Nat) (v397 : Int) (v398 : Int) (v399 : Int) (v400 : List Int) (v401 : List Int) (v402 : List Int) (v403 : List Int) (k0 : Int → List Int → List Int → Option α) : Option α :=
  Nat.rec (motive := fun _ => Int → Int → Int → List Int → List Int → List Int → List Int → Option α) (fun _ _ _ _ _ _ _ => none) (fun _ next => spec_l5Div_L0r N next k0) n v397 v398 v399 v400 v401 v402 v403
theorem spec_l5Div_L0.ex : ∃ f : ((α : Type) → Nat → Nat → Int → Int → Int → List Int → List Int → List Int → List Int → (Int → List Int → List Int → Option α) → Option α), f = fun α => @spec_l5Div_L0.b α := ⟨_, rfl⟩
noncomputable def spec_l5Div_L0 {α : Type} : Nat → Nat → Int → Int → Int → List Int → List Int → List Int → List Int → (Int → List Int → List Int → Option α) → Option α := Classical.choose spec_l5Div_L0.ex α
theorem spec_l5Div_L0.eq : @spec_l5Div_L0 = @spec_l5Div_L0.b := funext fun α => congrFun (Classical.choose_spec spec_l5Div_L0.ex) α
theorem spec_l5Div_L0.zero {α : Type} (N : Nat) (v397 : Int) (v398 : Int) (v399 : Int) (v400 : List Int) (v401 : List Int) (v402 : List Int) (v403 : List Int) (k0 : Int → List Int → List Int → Option α) : spec_l5Div_L0 N 0 v397 v398 v399 v400 v401 v402 v403 k0 = none := by rw [spec_l5Div_L0.eq]; rfl
theorem spec_l5Div_L0.succ {α : Type} (N n : Nat) (v397 : Int) (v398 : Int) (v399 : Int) (v400 : List Int) (v401 : List Int) (v402 : List Int) (v403 : List Int) (k0 : Int → List Int → List Int → Option α) : spec_l5Div_L0 N (n + 1) v397 v398 v399 v400 v401 v402 v403 k0 = spec_l5Div_L0r N (fun y0 y1 y2 y3 y4 y5 y6 => spec_l5Div_L0 N n y0 y1 y2 y3 y4 y5 y6 k0) k0 v397 v398 v399 v400 v401 v402 v403 := by rw [spec_l5Div_L0.eq]; rfl
/-- spec.l5Div -/
noncomputable def spec_l5Div.b {α : Type} (N : Nat) (a295 : List Int) (a296 : List Int) (k0 : List Int → List Int → Option α) : Option α :=
 spec_l5Cmp N a295 a296
  (fun x319 =>
   let x320 := (decide (x319 < (0 : Int)))
   bif x320 then
    spec_l5Trim N a295
     (fun x321 =>
      k0 [] x321)
   else
    let x322 := ((a296.length : Nat) : Int)
    let x323 := (decide (x322 = (1 : Int)))
    bif x323 then
     match a296[0]? with
     | some x324 =>
      spec_l5DivSmall N a295 x324
       (fun x348 x349 =>
        let x350 := IntKind.u64.wrap x348
        spec_NatOf N x350
         (fun x361 =>
          k0 x349 x361))
     | none => none
    else
     let x362 := ((a296.length : Nat) : Int)
     let x363 := (IntKind.i64.wrap (x362 - (1 : Int)))
     bif (decide (x363 < (0 : Int))) then
      none
     else
      match a296[x363.toNat]? with
      | some x364 =>
       let x365 := (IntKind.i64.wrap (x364 + (1 : Int)))
       bif (decide (x365 = (0 : Int))) then
        none
       else
        let x366 := (IntKind.i64.wrap (Int.tdiv (65536 : Int) x365))
        spec_l5Times N a295 x366
         (fun x372 =>
          spec_l5Times N a296 x366
           (fun x373 =>
            let x374 := ((x373.length : Nat) : Int)
            let x375 := ((x372.length : Nat) : Int)
            let x376 := IntKind.i64.wrap (x375 - x374)
            let x377 := (IntKind.i64.wrap (x376 + (1 : Int)))
            bif (decide ((0 : Int) ≤ x377)) then
             bif decide (x377 ≤ x377) then
              bif (decide (x377 ≤ ((8796093022208 : Nat) : Int))) then
               let x378 := (List.replicate x377.toNat (0 : Int))
               let x379 := ((x372.length : Nat) : Int)
               let x380 := IntKind.i64.wrap (x379 - x374)
               let x381 := (IntKind.i64.wrap (x380 + (1 : Int)))
               spec_l5Top N x372 x381
                (fun x394 =>
                 let x395 := ((x372.length : Nat) : Int)
                 let x396 := IntKind.i64.wrap (x395 - x374)
                 spec_l5Div_L0 N N x366 x374 x396 x372 x373 x378 x394
                  (fun x536 x537 x538 =>
                   spec_l5DivSmall N x538 x536
                    (fun _ x540 =>
                     spec_l5Trim N x537
                      (fun x541 =>
                       k0 x541 x540))))
              else
               none
             else
              none
            else
             none))
      | none => none)
theorem spec_l5Div.ex : ∃ f : ((α : Type) → Nat → List Int → List Int → (List Int → List Int → Option α) → Option α), f = fun α => @spec_l5Div.b α := ⟨_, rfl⟩
noncomputable def spec_l5Div {α : Type} : Nat → List Int → List Int → (List Int → List Int → Option α) → Option α := Classical.choose spec_l5Div.ex α
theorem spec_l5Div.eq : @spec_l5Div = @spec_l5Div.b := funext fun α => congrFun (Classical.choose_spec spec_l5Div.ex) α

noncomputable def spec_l8Scaled_J3.b {α : Type} (N : Nat) (v196 : Int) (v197 : List Int) (v198 : List Int) (k0 : List Int → List Int → Option α) : Option α :=
 let x199 := (decide ((0 : Int) ≤ v196))
 bif x199 then
  spec_l5Pow2 N v196
   (fun x222 =>
    spec_l5Mul N v197 x222
     (fun x289 =>
      k0 x289 v198))
 else
  let x290 := IntKind.i64.wrap (0 - v196)
  spec_l5Pow2 N x290
   (fun x291 =>
    spec_l5Mul N v198 x291
     (fun x292 =>
      k0 v197 x292))
theorem spec_l8Scaled_J3.ex : ∃ f : ((α : Type) → Nat → Int → List Int → List Int → (List Int → List Int → Option α) → Option α), f = fun α => @spec_l8Scaled_J3.b α := ⟨_, rfl⟩
noncomputable def spec_l8Scaled_J3 {α : Type} : Nat → Int → List Int → List Int → (List Int → List Int → Option α) → Option α := Classical.choose spec_l8Scaled_J3.ex α
theorem spec_l8Scaled_J3.eq : @spec_l8Scaled_J3 = @spec_l8Scaled_J3.b := funext fun α => congrFun (Classical.choose_spec spec_l8Scaled_J3.ex) α
/-- spec.l8Scaled -/
noncomputable def spec_l8Scaled.b {α : Type} (N : Nat) (a194 : Bool × (List Int) × (List Int) × Unit) (a195 : Int) (k0 : Bool → List Int → Option α) : Option α :=
 spec_l8Scaled_J3 N a195 a194.2.1 a194.2.2.1
  (fun x293 x294 =>
   spec_l5Div N x293 x294
    (fun x542 x543 =>
     let x544 := ((x543.length : Nat) : Int)
     let x545 := (decide ((0 : Int) < x544))
     k0 x545 x542))
theorem spec_l8Scaled.ex : ∃ f : ((α : Type) → Nat → (Bool × (List Int) × (List Int) × Unit) → Int → (Bool → List Int → Option α) → Option α), f = fun α => @spec_l8Scaled.b α := ⟨_, rfl⟩
noncomputable def spec_l8Scaled {α : Type} : Nat → (Bool × (List Int) × (List Int) × Unit) → Int → (Bool → List Int → Option α) → Option α := Classical.choose spec_l8Scaled.ex α
theorem spec_l8Scaled.eq : @spec_l8Scaled = @spec_l8Scaled.b := funext fun α => congrFun (Classical.choose_spec spec_l8Scaled.ex) α

noncomputable def spec_NatOk_L0r {α : Type} (N : Nat) (next : List Int → Int → Option α) (k0 : Bool → Option α) (k1 : List Int → Option α) (v569 : List Int) (v570 : Int) : Option α :=
 let x571 := ((v569.length : Nat) : Int)
 let x572 := decide (v570 < x571)
 bif x572 then
  bif (decide (v570 < (0 : Int))) then
   none
  else
   match v569[v570.toNat]? with
   | some x573 =>
    let x574 := (decide (x573 < (0 : Int)))
    bif x574 then
     k0 false
    else
     bif (decide (v570 < (0 : Int))) then
      none
     else
      match v569[v570.toNat]? with
      | some x575 =>
       let x576 := (decide ((65536 : Int) ≤ x575))
       bif x576 then
        k0 false
       else
        let x577 := (IntKind.i64.wrap (v570 + (1 : Int)))
        next v569 x577
      | none => none
   | none => none
 else
  k1 v569
noncomputable def spec_NatOk_L0.b {α : Type} (N n : Nat) (v569 : List Int) (v570 : Int) (k0 : Bool → Option α) (k1 : List Int → Option α) : Option α :=
  Nat.rec (motive := fun _ => List Int → Int → Option α) (fun _ _ => none) (fun _ next => spec_NatOk_L0r N next k0 k1) n v569 v570
theorem spec_NatOk_L0.ex : ∃ f : ((α : Type) → Nat → Nat → List Int → Int → (Bool → Option α) → (List Int → Option α) → Option α), f = fun α => @spec_NatOk_L0.b α := ⟨_, rfl⟩
noncomputable def spec_NatOk_L0 {α : Type} : Nat → Nat → List Int → Int → (Bool → Option α) → (List Int → Option α) → Option α := Classical.choose spec_NatOk_L0.ex α
theorem spec_NatOk_L0.eq : @spec_NatOk_L0 = @spec_NatOk_L0.b := funext fun α => congrFun (Classical.choose_spec spec_NatOk_L0.ex) α
theorem spec_NatOk_L0.zero {α : Type} (N : Nat) (v569 : List Int) (v570 : Int) (k0 : Bool → Option α) (k1 : List Int → Option α) : spec_NatOk_L0 N 0 v569 v570 k0 k1 = none := by rw [spec_NatOk_L0.eq]; rfl
theorem spec_NatOk_L0.succ {α : Type} (N n : Nat) (v569 : List Int) (v570 : Int) (k0 : Bool → Option α) (k1 : List Int → Option α) : spec_NatOk_L0 N (n + 1) v569 v570 k0 k1 = spec_NatOk_L0r N (fun y0 y1 => spec_NatOk_L0 N n y0 y1 k0 k1) k0 k1 v569 v570 := by rw [spec_NatOk_L0.eq]; rfl
/-- spec.NatOk -/
noncomputable def spec_NatOk.b {α : Type} (N : Nat) (a566 : List Int) (k0 : Bool → Option α) : Option α :=
 let x567 := ((a566.length : Nat) : Int)
 let x568 := (decide ((256 : Int) < x567))
 bif x568 then
  k0 false
 else
  spec_NatOk_L0 N N a566 (0 : Int)
   (fun x578 =>
    k0 x578)
   (fun x579 =>
    let x580 := ((x579.length : Nat) : Int)
    let x581 := (decide (x580 = (0 : Int)))
    bif x581 then
     k0 true
    else
     let x582 := ((x579.length : Nat) : Int)
     let x583 := (IntKind.i64.wrap (x582 - (1 : Int)))
     bif (decide (x583 < (0 : Int))) then
      none
     else
      match x579[x583.toNat]? with
      | some x584 =>
       let x585 := (!(decide (x584 = (0 : Int))))
       k0 x585
      | none => none)
theorem spec_NatOk.ex : ∃ f : ((α : Type) → Nat → List Int → (Bool → Option α) → Option α), f = fun α => @spec_NatOk.b α := ⟨_, rfl⟩
noncomputable def spec_NatOk {α : Type} : Nat → List Int → (Bool → Option α) → Option α := Classical.choose spec_NatOk.ex α
theorem spec_NatOk.eq : @spec_NatOk = @spec_NatOk.b := funext fun α => congrFun (Classical.choose_spec spec_NatOk.ex) α

noncomputable def spec_NatSmall_L0r {α : Type} (N : Nat) (next : List Int → Int → Int → Option α) (k0 : Int → Option α) (v592 : List Int) (v593 : Int) (v594 : Int) : Option α :=
 let x595 := (decide ((0 : Int) ≤ v594))
 bif x595 then
  let x596 := (IntKind.u64.wrap (v593 * (65536 : Int)))
  bif (decide (v594 < (0 : Int))) then
   none
  else
   match v592[v594.toNat]? with
   | some x597 =>
    let x598 := IntKind.u64.wrap x597
    let x599 := IntKind.u64.wrap (x596 + x598)
    let x600 := (IntKind.i64.wrap (v594 - (1 : Int)))
    next v592 x599 x600
   | none => none
 else
  k0 v593
noncomputable def spec_NatSmall_L0.b {α : Type} (N n : Nat) (v592 : List Int) (v593 : Int) (v594 : Int) (k0 : Int → Option α) : Option α :=
  Nat.rec (motive := fun _ => List Int → Int → Int → Option α) (fun _ _ _ => none) (fun _ next => spec_NatSmall_L0r N next k0) n v592 v593 v594
theorem spec_NatSmall_L0.ex : ∃ f : ((α : Type) → Nat → Nat → List Int → Int → Int → (Int → Option α) → Option α), f = fun α => @spec_NatSmall_L0.b α := ⟨_, rfl⟩
noncomputable def spec_NatSmall_L0 {α : Type} : Nat → Nat → List Int → Int → Int → (Int → Option α) → Option α := Classical.choose spec_NatSmall_L0.ex α
theorem spec_NatSmall_L0.eq : @spec_NatSmall_L0 = @spec_NatSmall_L0.b := funext fun α => congrFun (Classical.choose_spec spec_NatSmall_L0.ex) α
theorem spec_NatSmall_L0.zero {α : Type} (N : Nat) (v592 : List Int) (v593 : Int) (v594 : Int) (k0 : Int → Option α) : spec_NatSmall_L0 N 0 v592 v593 v594 k0 = none := by rw [spec_NatSmall_L0.eq]; rfl
theorem spec_NatSmall_L0.succ {α : Type} (N n : Nat) (v592 : List Int) (v593 : Int) (v594 : Int) (k0 : Int → Option α) : spec_NatSmall_L0 N (n + 1) v592 v593 v594 k0 = spec_NatSmall_L0r N (fun y0 y1 y2 => spec_NatSmall_L0 N n y0 y1 y2 k0) k0 v592 v593 v594 := by rw [spec_NatSmall_L0.eq]; rfl
/-- spec.NatSmall -/
noncomputable def spec_NatSmall.b {α : Type} (N : Nat) (a565 : List Int) (k0 : Int → Bool → Option α) : Option α :=
 spec_NatOk N a565
  (fun x586 =>
   let x587 := !x586
   bif x587 then
    k0 (0 : Int) false
   else
    let x588 := ((a565.length : Nat) : Int)
    let x589 := (decide ((4 : Int) < x588))
    bif x589 then
     k0 (0 : Int) false
    else
     let x590 := ((a565.length : Nat) : Int)
     let x591 := (IntKind.i64.wrap (x590 - (1 : Int)))
     spec_NatSmall_L0 N N a565 (0 : Int) x591
      (fun x601 =>
       k0 x601 true))
theorem spec_NatSmall.ex : ∃ f : ((α : Type) → Nat → List Int → (Int → Bool → Option α) → Option α), f = fun α => @spec_NatSmall.b α := ⟨_, rfl⟩
noncomputable def spec_NatSmall {α : Type} : Nat → List Int → (Int → Bool → Option α) → Option α := Classical.choose spec_NatSmall.ex α
theorem spec_NatSmall.eq : @spec_NatSmall = @spec_NatSmall.b := funext fun α => congrFun (Classical.choose_spec spec_NatSmall.ex) α

noncomputable def spec_l8Size_J5.b {α : Type} (N : Nat) (v80 : Int) (v81 : Int) (v82 : Int) (v83 : Bool × (List Int) × (List Int) × Unit) (k0 : Int → Int → Int → (Bool × (List Int) × (List Int) × Unit) → Option α) : Option α :=
 spec_l1Least N v80
  (fun x86 =>
   let x87 := IntKind.i64.wrap (0 - x86)
   let x88 := decide (x87 < v82)
   bif x88 then
    spec_l1Least N v80
     (fun x89 =>
      let x90 := IntKind.i64.wrap (0 - x89)
      k0 v80 v81 x90 v83)
   else
    k0 v80 v81 v82 v83)
theorem spec_l8Size_J5.ex : ∃ f : ((α : Type) → Nat → Int → Int → Int → (Bool × (List Int) × (List Int) × Unit) → (Int → Int → Int → (Bool × (List Int) × (List Int) × Unit) → Option α) → Option α), f = fun α => @spec_l8Size_J5.b α := ⟨_, rfl⟩
noncomputable def spec_l8Size_J5 {α : Type} : Nat → Int → Int → Int → (Bool × (List Int) × (List Int) × Unit) → (Int → Int → Int → (Bool × (List Int) × (List Int) × Unit) → Option α) → Option α := Classical.choose spec_l8Size_J5.ex α
theorem spec_l8Size_J5.eq : @spec_l8Size_J5 = @spec_l8Size_J5.b := funext fun α => congrFun (Classical.choose_spec spec_l8Size_J5.ex) α
noncomputable def spec_l8Size_L0r {α : Type} (N : Nat) (next : Int → Int → Int → Bool → (Bool × (List Int) × (List Int) × Unit) → List Int → Option α) (k0 : Int → Int → Int → Bool → List Int → Option α) (v548 : Int) (v549 : Int) (v550 : Int) (v551 : Bool) (v552 : Bool × (List Int) × (List Int) × Unit) (v553 : List Int) : Option α :=
 spec_l5Bits N v553
  (fun x554 =>
   let x555 := (IntKind.i64.wrap (v549 + (1 : Int)))
   let x556 := decide (x555 < x554)
   bif x556 then
    let x557 := (IntKind.i64.wrap (v550 - (1 : Int)))
    spec_l8Scaled N v552 x557
     (fun x558 x559 =>
      next v548 v549 x557 x558 v552 x559)
   else
    k0 v548 v549 v550 v551 v553)
noncomputable def spec_l8Size_L0.b {α : Type} (N n : Nat) (v548 : Int) (v549 : Int) (v550 : Int) (v551 : Bool) (v552 : Bool × (List Int) × (List Int) × Unit) (v553 : List Int) (k0 : Int → Int → Int → Bool → List Int → Option α) : Option α :=
  Nat.rec (motive := fun _ => Int → Int → Int → Bool → (Bool × (List Int) × (List Int) × Unit) → List Int → Option α) (fun _ _ _ _ _ _ => none) (fun _ next => spec_l8Size_L0r N next k0) n v548 v549 v550 v551 v552 v553
theorem spec_l8Size_L0.ex : ∃ f : ((α : Type) → Nat → Nat → Int → Int → Int → Bool → (Bool × (List Int) × (List Int) × Unit) → List Int → (Int → Int → Int → Bool → List Int → Option α) → Option α), f = fun α => @spec_l8Size_L0.b α := ⟨_, rfl⟩
noncomputable def spec_l8Size_L0 {α : Type} : Nat → Nat → Int → Int → Int → Bool → (Bool × (List Int) × (List Int) × Unit) → List Int → (Int → Int → Int → Bool → List Int → Option α) → Option α := Classical.choose spec_l8Size_L0.ex α
theorem spec_l8Size_L0.eq : @spec_l8Size_L0 = @spec_l8Size_L0.b := funext fun α => congrFun (Classical.choose_spec spec_l8Size_L0.ex) α
theorem spec_l8Size_L0.zero {α : Type} (N : Nat) (v548 : Int) (v549 : Int) (v550 : Int) (v551 : Bool) (v552 : Bool × (List Int) × (List Int) × Unit) (v553 : List Int) (k0 : Int → Int → Int → Bool → List Int → Option α) : spec_l8Size_L0 N 0 v548 v549 v550 v551 v552 v553 k0 = none := by rw [spec_l8Size_L0.eq]; rfl
theorem spec_l8Size_L0.succ {α : Type} (N n : Nat) (v548 : Int) (v549 : Int) (v550 : Int) (v551 : Bool) (v552 : Bool × (List Int) × (List Int) × Unit) (v553 : List Int) (k0 : Int → Int → Int → Bool → List Int → Option α) : spec_l8Size_L0 N (n + 1) v548 v549 v550 v551 v552 v553 k0 = spec_l8Size_L0r N (fun y0 y1 y2 y3 y4 y5 => spec_l8Size_L0 N n y0 y1 y2 y3 y4 y5 k0) k0 v548 v549 v550 v551 v552 v553 := by rw [spec_l8Size_L0.eq]; rfl
/-- spec.l8Size -/
noncomputable def spec_l8Size.b {α : Type} (N : Nat) (a53 : Int) (a54 : Bool × (List Int) × (List Int) × Unit) (k0 : Int → Bool → Option α) : Option α :=
 let x55 := ((a54.2.1.length : Nat) : Int)
 let x56 := (decide (x55 = (0 : Int)))
 bif x56 then
  k0 (0 : Int) false
 else
  spec_l1Frac N a53
   (fun x59 =>
    let x60 := (IntKind.i64.wrap (x59 + (1 : Int)))
    spec_l5Bits N a54.2.1
     (fun x76 =>
      let x77 := IntKind.i64.wrap (x60 - x76)
      spec_l5Bits N a54.2.2.1
       (fun x78 =>
        let x79 := IntKind.i64.wrap (x77 + x78)
        spec_l8Size_J5 N a53 x59 x79 a54
         (fun x91 x92 x93 x94 =>
          spec_l8Scaled N x94 x93
           (fun x546 x547 =>
            spec_l8Size_L0 N N x91 x92 x93 x546 x94 x547
             (fun x560 x561 x562 x563 x564 =>
              spec_NatSmall N x564
               (fun x602 _ =>
                spec_l5Bits N x564
                 (fun x604 =>
                  let x605 := decide (x604 ≤ x561)
                  bif x605 then
                   let x606 := IntKind.i64.wrap x602
                   k0 x606 x563
                  else
                   let x607 := IntKind.i64.wrap (0 - x562)
                   spec_l1Least N x560
                    (fun x608 =>
                     let x609 := IntKind.i64.wrap (x607 - x608)
                     let x610 := (IntKind.i64.wrap (x609 + (1 : Int)))
                     spec_BitTop N x560
                      (fun x611 =>
                       let x612 := IntKind.u64.wrap x561
                       bif (decide (x612 < (0 : Int))) then
                        none
                       else
                        let x613 := shrI .i64 x611 x612
                        let x614 := (IntKind.i64.wrap (x613 - (1 : Int)))
                        let x615 := decide (x614 < x610)
                        bif x615 then
                         spec_BitTop N x560
                          (fun x616 =>
                           let x617 := (IntKind.i64.wrap (x616 - (1 : Int)))
                           k0 x617 true)
                        else
                         let x618 := IntKind.u64.wrap x561
                         bif (decide (x618 < (0 : Int))) then
                          none
                         else
                          let x619 := shlI .i64 x610 x618
                          let x620 := IntKind.i64.wrap x602
                          let x621 := IntKind.i64.wrap (x619 + x620)
                          let x622 := IntKind.u64.wrap x561
                          bif (decide (x622 < (0 : Int))) then
                           none
                          else
                           let x623 := (shlI .i64 (1 : Int) x622)
                           let x624 := IntKind.i64.wrap (x621 - x623)
                           k0 x624 x563))))))))))
theorem spec_l8Size.ex : ∃ f : ((α : Type) → Nat → Int → (Bool × (List Int) × (List Int) × Unit) → (Int → Bool → Option α) → Option α), f = fun α => @spec_l8Size.b α := ⟨_, rfl⟩
noncomputable def spec_l8Size {α : Type} : Nat → Int → (Bool × (List Int) × (List Int) × Unit) → (Int → Bool → Option α) → Option α := Classical.choose spec_l8Size.ex α
theorem spec_l8Size.eq : @spec_l8Size = @spec_l8Size.b := funext fun α => congrFun (Classical.choose_spec spec_l8Size.ex) α

noncomputable def spec_l8Round_J3.b {α : Type} (N : Nat) (v627 : Bool) (v628 : Int) (v629 : Bool) (k0 : Int → Option α) : Option α :=
 bif v629 then
  let x630 := !v627
  bif x630 then
   let x631 := (IntKind.i64.wrap (v628 + (1 : Int)))
   k0 x631
  else
   k0 v628
 else
  k0 v628
theorem spec_l8Round_J3.ex : ∃ f : ((α : Type) → Nat → Bool → Int → Bool → (Int → Option α) → Option α), f = fun α => @spec_l8Round_J3.b α := ⟨_, rfl⟩
noncomputable def spec_l8Round_J3 {α : Type} : Nat → Bool → Int → Bool → (Int → Option α) → Option α := Classical.choose spec_l8Round_J3.ex α
theorem spec_l8Round_J3.eq : @spec_l8Round_J3 = @spec_l8Round_J3.b := funext fun α => congrFun (Classical.choose_spec spec_l8Round_J3.ex) α
noncomputable def spec_l8Round_J6.b {α : Type} (N : Nat) (v634 : Bool) (v635 : Int) (v636 : Bool) (k0 : Int → Option α) : Option α :=
 bif v636 then
  bif v634 then
   let x637 := (IntKind.i64.wrap (v635 + (1 : Int)))
   k0 x637
  else
   k0 v635
 else
  k0 v635
theorem spec_l8Round_J6.ex : ∃ f : ((α : Type) → Nat → Bool → Int → Bool → (Int → Option α) → Option α), f = fun α => @spec_l8Round_J6.b α := ⟨_, rfl⟩
noncomputable def spec_l8Round_J6 {α : Type} : Nat → Bool → Int → Bool → (Int → Option α) → Option α := Classical.choose spec_l8Round_J6.ex α
theorem spec_l8Round_J6.eq : @spec_l8Round_J6 = @spec_l8Round_J6.b := funext fun α => congrFun (Classical.choose_spec spec_l8Round_J6.ex) α
/-- spec.l8Round -/
noncomputable def spec_l8Round.b {α : Type} (N : Nat) (a50 : Int) (a51 : Bool × (List Int) × (List Int) × Unit) (a52 : Bool) (k0 : Int → Option α) : Option α :=
 spec_l8Size N a50 a51
  (fun x625 x626 =>
   bif a51.1 then
    spec_l8Round_J3 N a52 x625 x626
     (fun x632 =>
      let x633 := IntKind.i64.wrap (0 - x632)
      k0 x633)
   else
    spec_l8Round_J6 N a52 x625 x626
     (fun x638 =>
      k0 x638))
theorem spec_l8Round.ex : ∃ f : ((α : Type) → Nat → Int → (Bool × (List Int) × (List Int) × Unit) → Bool → (Int → Option α) → Option α), f = fun α => @spec_l8Round.b α := ⟨_, rfl⟩
noncomputable def spec_l8Round {α : Type} : Nat → Int → (Bool × (List Int) × (List Int) × Unit) → Bool → (Int → Option α) → Option α := Classical.choose spec_l8Round.ex α
theorem spec_l8Round.eq : @spec_l8Round = @spec_l8Round.b := funext fun α => congrFun (Classical.choose_spec spec_l8Round.ex) α

/-- spec.l9One -/
noncomputable def spec_l9One.b {α : Type} (N : Nat) (a47 : Int) (k0 : Int → Option α) : Option α :=
 let x48 := [(1 : Int)]
 let x49 := [(1 : Int)]
 spec_l8Round N a47 (false, (x48, (x49, ()))) false
  (fun x639 =>
   k0 x639)
theorem spec_l9One.ex : ∃ f : ((α : Type) → Nat → Int → (Int → Option α) → Option α), f = fun α => @spec_l9One.b α := ⟨_, rfl⟩
noncomputable def spec_l9One {α : Type} : Nat → Int → (Int → Option α) → Option α := Classical.choose spec_l9One.ex α
theorem spec_l9One.eq : @spec_l9One = @spec_l9One.b := funext fun α => congrFun (Classical.choose_spec spec_l9One.ex) α

/-- spec.l9Of -/
noncomputable def spec_l9Of.b {α : Type} (N : Nat) (a642 : Int) (a643 : Int) (k0 : (Bool × Int × Int × Unit) → Option α) : Option α :=
 k0 (true, (a642, (a643, ())))
theorem spec_l9Of.ex : ∃ f : ((α : Type) → Nat → Int → Int → ((Bool × Int × Int × Unit) → Option α) → Option α), f = fun α => @spec_l9Of.b α := ⟨_, rfl⟩
noncomputable def spec_l9Of {α : Type} : Nat → Int → Int → ((Bool × Int × Int × Unit) → Option α) → Option α := Classical.choose spec_l9Of.ex α
theorem spec_l9Of.eq : @spec_l9Of = @spec_l9Of.b := funext fun α => congrFun (Classical.choose_spec spec_l9Of.ex) α

/-- spec.l3Max -/
noncomputable def spec_l3Max.b {α : Type} (N : Nat) (a668 : Int) (a669 : Int) (k0 : Int → Option α) : Option α :=
 let x670 := decide (a669 < a668)
 bif x670 then
  k0 a668
 else
  k0 a669
theorem spec_l3Max.ex : ∃ f : ((α : Type) → Nat → Int → Int → (Int → Option α) → Option α), f = fun α => @spec_l3Max.b α := ⟨_, rfl⟩
noncomputable def spec_l3Max {α : Type} : Nat → Int → Int → (Int → Option α) → Option α := Classical.choose spec_l3Max.ex α
theorem spec_l3Max.eq : @spec_l3Max = @spec_l3Max.b := funext fun α => congrFun (Classical.choose_spec spec_l3Max.ex) α

/-- spec.SpanAbs -/
noncomputable def spec_SpanAbs.b {α : Type} (N : Nat) (a651 : Int) (a652 : Bool × Int × Int × Unit) (k0 : (Bool × Int × Int × Unit) → Option α) : Option α :=
 spec_SpanOk N a651 a652
  (fun x653 =>
   let x654 := !x653
   bif x654 then
    spec_SpanOk N a651 a652
     (fun x655 =>
      let x656 := !x655
      bif x656 then
       k0 (false, ((0 : Int), ((0 : Int), ())))
      else
       k0 a652)
   else
    let x657 := !a652.1
    bif x657 then
     spec_SpanOk N a651 a652
      (fun x658 =>
       let x659 := !x658
       bif x659 then
        k0 (false, ((0 : Int), ((0 : Int), ())))
       else
        k0 a652)
    else
     let x660 := (decide ((0 : Int) ≤ a652.2.1))
     bif x660 then
      spec_SpanOk N a651 a652
       (fun x661 =>
        let x662 := !x661
        bif x662 then
         k0 (false, ((0 : Int), ((0 : Int), ())))
        else
         k0 a652)
     else
      let x663 := (decide (a652.2.2.1 ≤ (0 : Int)))
      bif x663 then
       let x664 := IntKind.i64.wrap (0 - a652.2.2.1)
       let x665 := IntKind.i64.wrap (0 - a652.2.1)
       spec_l9Of N x664 x665
        (fun x666 =>
         k0 x666)
      else
       let x667 := IntKind.i64.wrap (0 - a652.2.1)
       spec_l3Max N x667 a652.2.2.1
        (fun x671 =>
         spec_l9Of N (0 : Int) x671
          (fun x672 =>
           k0 x672)))
theorem spec_SpanAbs.ex : ∃ f : ((α : Type) → Nat → Int → (Bool × Int × Int × Unit) → ((Bool × Int × Int × Unit) → Option α) → Option α), f = fun α => @spec_SpanAbs.b α := ⟨_, rfl⟩
noncomputable def spec_SpanAbs {α : Type} : Nat → Int → (Bool × Int × Int × Unit) → ((Bool × Int × Int × Unit) → Option α) → Option α := Classical.choose spec_SpanAbs.ex α
theorem spec_SpanAbs.eq : @spec_SpanAbs = @spec_SpanAbs.b := funext fun α => congrFun (Classical.choose_spec spec_SpanAbs.ex) α

/-- spec.l9Infinite -/
noncomputable def spec_l9Infinite.b {α : Type} (N : Nat) (a682 : Int) (a683 : Int) (k0 : Bool → Option α) : Option α :=
 spec_BitTop N a682
  (fun x684 =>
   let x685 := decide (a683 = x684)
   bif x685 then
    k0 true
   else
    spec_BitTop N a682
     (fun x686 =>
      let x687 := IntKind.i64.wrap (0 - x686)
      let x688 := decide (a683 = x687)
      k0 x688))
theorem spec_l9Infinite.ex : ∃ f : ((α : Type) → Nat → Int → Int → (Bool → Option α) → Option α), f = fun α => @spec_l9Infinite.b α := ⟨_, rfl⟩
noncomputable def spec_l9Infinite {α : Type} : Nat → Int → Int → (Bool → Option α) → Option α := Classical.choose spec_l9Infinite.ex α
theorem spec_l9Infinite.eq : @spec_l9Infinite = @spec_l9Infinite.b := funext fun α => congrFun (Classical.choose_spec spec_l9Infinite.ex) α

noncomputable def spec_BitPartOf_J5.b {α : Type} (N : Nat) (v706 : Int) (v707 : Int) (v708 : Bool × Int × Int × Unit) (v709 : Bool × Int × Int × Unit) (k0 : Int → Int → (Bool × Int × Int × Unit) → (Bool × Int × Int × Unit) → Option α) : Option α :=
 let x710 := (decide (v707 < (0 : Int)))
 bif x710 then
  let x711 := IntKind.i64.wrap (0 - v707)
  k0 v706 x711 v708 v709
 else
  k0 v706 v707 v708 v709
theorem spec_BitPartOf_J5.ex : ∃ f : ((α : Type) → Nat → Int → Int → (Bool × Int × Int × Unit) → (Bool × Int × Int × Unit) → (Int → Int → (Bool × Int × Int × Unit) → (Bool × Int × Int × Unit) → Option α) → Option α), f = fun α => @spec_BitPartOf_J5.b α := ⟨_, rfl⟩
noncomputable def spec_BitPartOf_J5 {α : Type} : Nat → Int → Int → (Bool × Int × Int × Unit) → (Bool × Int × Int × Unit) → (Int → Int → (Bool × Int × Int × Unit) → (Bool × Int × Int × Unit) → Option α) → Option α := Classical.choose spec_BitPartOf_J5.ex α
theorem spec_BitPartOf_J5.eq : @spec_BitPartOf_J5 = @spec_BitPartOf_J5.b := funext fun α => congrFun (Classical.choose_spec spec_BitPartOf_J5.ex) α
noncomputable def spec_BitPartOf_J10.b {α : Type} (N : Nat) (v722 : Int) (v723 : Int) (v724 : Bool × Int × Int × Unit) (v725 : Bool × Int × Int × Unit) (k0 : (Bool × Int × Int × Unit) → (Bool × Int × Int × Unit) → Option α) : Option α :=
 let x726 := (decide ((0 : Int) < v723))
 bif x726 then
  let x727 := IntKind.u64.wrap v722
  let x728 := IntKind.u64.wrap (v725.2.1 + x727)
  let x729 := IntKind.i64.wrap (v725.2.2.1 + v723)
  let x730 := (IntKind.i64.wrap (x729 - (1 : Int)))
  k0 v724 (v725.1, (x728, (x730, ())))
 else
  k0 v724 v725
theorem spec_BitPartOf_J10.ex : ∃ f : ((α : Type) → Nat → Int → Int → (Bool × Int × Int × Unit) → (Bool × Int × Int × Unit) → ((Bool × Int × Int × Unit) → (Bool × Int × Int × Unit) → Option α) → Option α), f = fun α => @spec_BitPartOf_J10.b α := ⟨_, rfl⟩
noncomputable def spec_BitPartOf_J10 {α : Type} : Nat → Int → Int → (Bool × Int × Int × Unit) → (Bool × Int × Int × Unit) → ((Bool × Int × Int × Unit) → (Bool × Int × Int × Unit) → Option α) → Option α := Classical.choose spec_BitPartOf_J10.ex α
theorem spec_BitPartOf_J10.eq : @spec_BitPartOf_J10 = @spec_BitPartOf_J10.b := funext fun α => congrFun (Classical.choose_spec spec_BitPartOf_J10.ex) α
/-- spec.BitPartOf -/
noncomputable def spec_BitPartOf.b {α : Type} (N : Nat) (a695 : Int) (a696 : Int) (k0 : (Bool × Int × Int × Unit) → Bool → Option α) : Option α :=
 spec_BitOk N a695 a696
  (fun x697 =>
   let x698 := !x697
   bif x698 then
    k0 (false, ((0 : Int), ((0 : Int), ()))) false
   else
    spec_BitTop N a695
     (fun x699 =>
      let x700 := decide (a696 = x699)
      bif x700 then
       k0 (false, ((0 : Int), ((0 : Int), ()))) false
      else
       spec_BitTop N a695
        (fun x701 =>
         let x702 := IntKind.i64.wrap (0 - x701)
         let x703 := decide (a696 = x702)
         bif x703 then
          k0 (false, ((0 : Int), ((0 : Int), ()))) false
         else
          let x704 := (decide (a696 < (0 : Int)))
          spec_l1Least N a695
           (fun x705 =>
            spec_BitPartOf_J5 N a695 a696 (false, ((0 : Int), ((0 : Int), ()))) (x704, ((0 : Int), (x705, ())))
             (fun x712 x713 x714 x715 =>
              spec_l1Frac N x712
               (fun x716 =>
                let x717 := IntKind.u64.wrap x716
                bif (decide (x717 < (0 : Int))) then
                 none
                else
                 let x718 := (shlI .i64 (1 : Int) x717)
                 bif (decide (x718 = (0 : Int))) then
                  none
                 else
                  let x719 := IntKind.i64.wrap (Int.tdiv x713 x718)
                  bif (decide (x718 = (0 : Int))) then
                   none
                  else
                   let x720 := Int.tmod x713 x718
                   let x721 := IntKind.u64.wrap x720
                   spec_BitPartOf_J10 N x718 x719 x714 (x715.1, (x721, (x715.2.2.1, ())))
                    (fun _ x732 =>
                     k0 x732 true)))))))
theorem spec_BitPartOf.ex : ∃ f : ((α : Type) → Nat → Int → Int → ((Bool × Int × Int × Unit) → Bool → Option α) → Option α), f = fun α => @spec_BitPartOf.b α := ⟨_, rfl⟩
noncomputable def spec_BitPartOf {α : Type} : Nat → Int → Int → ((Bool × Int × Int × Unit) → Bool → Option α) → Option α := Classical.choose spec_BitPartOf.ex α
theorem spec_BitPartOf.eq : @spec_BitPartOf = @spec_BitPartOf.b := funext fun α => congrFun (Classical.choose_spec spec_BitPartOf.ex) α

noncomputable def spec_l8Of_J3.b {α : Type} (N : Nat) (v737 : Bool) (v738 : Bool × Int × Int × Unit) (v739 : Bool) (v740 : List Int) (v741 : List Int) (v742 : List Int) (v743 : List Int) (k0 : Bool → Bool → List Int → List Int → List Int → List Int → Option α) : Option α :=
 let x744 := (decide ((0 : Int) ≤ v738.2.2.1))
 bif x744 then
  spec_l5Pow2 N v738.2.2.1
   (fun x745 =>
    spec_l5Mul N v742 x745
     (fun x746 =>
      k0 v737 v739 v740 v741 x746 v743))
 else
  let x747 := IntKind.i64.wrap (0 - v738.2.2.1)
  spec_l5Pow2 N x747
   (fun x748 =>
    k0 v737 v739 v740 v741 v742 x748)
theorem spec_l8Of_J3.ex : ∃ f : ((α : Type) → Nat → Bool → (Bool × Int × Int × Unit) → Bool → List Int → List Int → List Int → List Int → (Bool → Bool → List Int → List Int → List Int → List Int → Option α) → Option α), f = fun α => @spec_l8Of_J3.b α := ⟨_, rfl⟩
noncomputable def spec_l8Of_J3 {α : Type} : Nat → Bool → (Bool × Int × Int × Unit) → Bool → List Int → List Int → List Int → List Int → (Bool → Bool → List Int → List Int → List Int → List Int → Option α) → Option α := Classical.choose spec_l8Of_J3.ex α
theorem spec_l8Of_J3.eq : @spec_l8Of_J3 = @spec_l8Of_J3.b := funext fun α => congrFun (Classical.choose_spec spec_l8Of_J3.ex) α
/-- spec.l8Of -/
noncomputable def spec_l8Of.b {α : Type} (N : Nat) (a693 : Int) (a694 : Int) (k0 : Bool → List Int → List Int → Option α) : Option α :=
 spec_BitPartOf N a693 a694
  (fun x733 _ =>
   spec_NatOf N x733.2.1
    (fun x735 =>
     let x736 := [(1 : Int)]
     spec_l8Of_J3 N false x733 x733.1 [] [] x735 x736
      (fun _ x750 _ _ x753 x754 =>
       k0 x750 x753 x754)))
theorem spec_l8Of.ex : ∃ f : ((α : Type) → Nat → Int → Int → (Bool → List Int → List Int → Option α) → Option α), f = fun α => @spec_l8Of.b α := ⟨_, rfl⟩
noncomputable def spec_l8Of {α : Type} : Nat → Int → Int → (Bool → List Int → List Int → Option α) → Option α := Classical.choose spec_l8Of.ex α
theorem spec_l8Of.eq : @spec_l8Of = @spec_l8Of.b := funext fun α => congrFun (Classical.choose_spec spec_l8Of.ex) α

noncomputable def spec_l9Power_L0r {α : Type} (N : Nat) (next : Int → Int → (Bool × (List Int) × (List Int) × Unit) → Bool → (Bool × (List Int) × (List Int) × Unit) → List Int → List Int → Option α) (k0 : Bool → (Bool × (List Int) × (List Int) × Unit) → List Int → List Int → Option α) (v774 : Int) (v775 : Int) (v776 : Bool × (List Int) × (List Int) × Unit) (v777 : Bool) (v778 : Bool × (List Int) × (List Int) × Unit) (v779 : List Int) (v780 : List Int) : Option α :=
 let x781 := decide (v775 < v774)
 bif x781 then
  let x782 := !(v778.1 == v776.1)
  spec_l5Mul N v778.2.1 v776.2.1
   (fun x783 =>
    spec_l5Mul N v778.2.2.1 v776.2.2.1
     (fun x784 =>
      let x785 := (IntKind.i64.wrap (v775 + (1 : Int)))
      next v774 x785 v776 v777 (x782, (x783, (x784, ()))) v779 v780))
 else
  k0 v777 v778 v779 v780
noncomputable def spec_l9Power_L0.b {α : Type} (N n : Nat) (v774 : Int) (v775 : Int) (v776 : Bool × (List Int) × (List Int) × Unit) (v777 : Bool) (v778 : Bool × (List Int) × (List Int) × Unit) (v779 : List Int) (v780 : List Int) (k0 : Bool → (Bool × (List Int) × (List Int) × Unit) → List Int → List Int → Option α) : Option α :=
  Nat.rec (motive := fun _ => Int → Int → (Bool × (List Int) × (List Int) × Unit) → Bool → (Bool × (List Int) × (List Int) × Unit) → List Int → List Int → Option α) (fun _ _ _ _ _ _ _ => none) (fun _ next => spec_l9Power_L0r N next k0) n v774 v775 v776 v777 v778 v779 v780
theorem spec_l9Power_L0.ex : ∃ f : ((α : Type) → Nat → Nat → Int → Int → (Bool × (List Int) × (List Int) × Unit) → Bool → (Bool × (List Int) × (List Int) × Unit) → List Int → List Int → (Bool → (Bool × (List Int) × (List Int) × Unit) → List Int → List Int → Option α) → Option α), f = fun α => @spec_l9Power_L0.b α := ⟨_, rfl⟩
noncomputable def spec_l9Power_L0 {α : Type} : Nat → Nat → Int → Int → (Bool × (List Int) × (List Int) × Unit) → Bool → (Bool × (List Int) × (List Int) × Unit) → List Int → List Int → (Bool → (Bool × (List Int) × (List Int) × Unit) → List Int → List Int → Option α) → Option α := Classical.choose spec_l9Power_L0.ex α
theorem spec_l9Power_L0.eq : @spec_l9Power_L0 = @spec_l9Power_L0.b := funext fun α => congrFun (Classical.choose_spec spec_l9Power_L0.ex) α
theorem spec_l9Power_L0.zero {α : Type} (N : Nat) (v774 : Int) (v775 : Int) (v776 : Bool × (List Int) × (List Int) × Unit) (v777 : Bool) (v778 : Bool × (List Int) × (List Int) × Unit) (v779 : List Int) (v780 : List Int) (k0 : Bool → (Bool × (List Int) × (List Int) × Unit) → List Int → List Int → Option α) : spec_l9Power_L0 N 0 v774 v775 v776 v777 v778 v779 v780 k0 = none := by rw [spec_l9Power_L0.eq]; rfl
theorem spec_l9Power_L0.succ {α : Type} (N n : Nat) (v774 : Int) (v775 : Int) (v776 : Bool × (List Int) × (List Int) × Unit) (v777 : Bool) (v778 : Bool × (List Int) × (List Int) × Unit) (v779 : List Int) (v780 : List Int) (k0 : Bool → (Bool × (List Int) × (List Int) × Unit) → List Int → List Int → Option α) : spec_l9Power_L0 N (n + 1) v774 v775 v776 v777 v778 v779 v780 k0 = spec_l9Power_L0r N (fun y0 y1 y2 y3 y4 y5 y6 => spec_l9Power_L0 N n y0 y1 y2 y3 y4 y5 y6 k0) k0 v774 v775 v776 v777 v778 v779 v780 := by rw [spec_l9Power_L0.eq]; rfl
/-- spec.l9Power -/
noncomputable def spec_l9Power.b {α : Type} (N : Nat) (a772 : Bool × (List Int) × (List Int) × Unit) (a773 : Int) (k0 : (Bool × (List Int) × (List Int) × Unit) → Option α) : Option α :=
 spec_l9Power_L0 N N a773 (1 : Int) a772 false a772 [] []
  (fun _ x787 _ _ =>
   k0 x787)
theorem spec_l9Power.ex : ∃ f : ((α : Type) → Nat → (Bool × (List Int) × (List Int) × Unit) → Int → ((Bool × (List Int) × (List Int) × Unit) → Option α) → Option α), f = fun α => @spec_l9Power.b α := ⟨_, rfl⟩
noncomputable def spec_l9Power {α : Type} : Nat → (Bool × (List Int) × (List Int) × Unit) → Int → ((Bool × (List Int) × (List Int) × Unit) → Option α) → Option α := Classical.choose spec_l9Power.ex α
theorem spec_l9Power.eq : @spec_l9Power = @spec_l9Power.b := funext fun α => congrFun (Classical.choose_spec spec_l9Power.ex) α

/-- spec.l9Pow -/
noncomputable def spec_l9Pow.b {α : Type} (N : Nat) (a678 : Int) (a679 : Int) (a680 : Int) (a681 : Bool) (k0 : Int → Option α) : Option α :=
 spec_l9Infinite N a678 a679
  (fun x689 =>
   bif x689 then
    let x690 := (Int.tmod a680 (2 : Int))
    let x691 := (decide (x690 = (0 : Int)))
    bif x691 then
     spec_BitTop N a678
      (fun x692 =>
       k0 x692)
    else
     k0 a679
   else
    spec_l8Of N a678 a679
     (fun x755 x756 x757 =>
      spec_l9Power N (x755, (x756, (x757, ()))) a680
       (fun x790 =>
        spec_l8Round N a678 x790 a681
         (fun x791 =>
          k0 x791))))
theorem spec_l9Pow.ex : ∃ f : ((α : Type) → Nat → Int → Int → Int → Bool → (Int → Option α) → Option α), f = fun α => @spec_l9Pow.b α := ⟨_, rfl⟩
noncomputable def spec_l9Pow {α : Type} : Nat → Int → Int → Int → Bool → (Int → Option α) → Option α := Classical.choose spec_l9Pow.ex α
theorem spec_l9Pow.eq : @spec_l9Pow = @spec_l9Pow.b := funext fun α => congrFun (Classical.choose_spec spec_l9Pow.ex) α

noncomputable def spec_SpanPow_J5.b {α : Type} (N : Nat) (v645 : Int) (v646 : Int) (v647 : Bool × Int × Int × Unit) (v648 : Bool × Int × Int × Unit) (k0 : Int → Int → (Bool × Int × Int × Unit) → (Bool × Int × Int × Unit) → Option α) : Option α :=
 let x649 := (Int.tmod v646 (2 : Int))
 let x650 := (decide (x649 = (0 : Int)))
 bif x650 then
  spec_SpanAbs N v645 v647
   (fun x673 =>
    k0 v645 v646 x673 v648)
 else
  k0 v645 v646 v647 v648
theorem spec_SpanPow_J5.ex : ∃ f : ((α : Type) → Nat → Int → Int → (Bool × Int × Int × Unit) → (Bool × Int × Int × Unit) → (Int → Int → (Bool × Int × Int × Unit) → (Bool × Int × Int × Unit) → Option α) → Option α), f = fun α => @spec_SpanPow_J5.b α := ⟨_, rfl⟩
noncomputable def spec_SpanPow_J5 {α : Type} : Nat → Int → Int → (Bool × Int × Int × Unit) → (Bool × Int × Int × Unit) → (Int → Int → (Bool × Int × Int × Unit) → (Bool × Int × Int × Unit) → Option α) → Option α := Classical.choose spec_SpanPow_J5.ex α
theorem spec_SpanPow_J5.eq : @spec_SpanPow_J5 = @spec_SpanPow_J5.b := funext fun α => congrFun (Classical.choose_spec spec_SpanPow_J5.ex) α
/-- spec.SpanPow -/
noncomputable def spec_SpanPow.b {α : Type} (N : Nat) (a6 : Int) (a7 : Bool × Int × Int × Unit) (a8 : Int) (k0 : (Bool × Int × Int × Unit) → Option α) : Option α :=
 spec_SpanOk N a6 a7
  (fun x41 =>
   let x42 := !x41
   bif x42 then
    k0 (false, ((0 : Int), ((0 : Int), ())))
   else
    let x43 := !a7.1
    bif x43 then
     k0 (false, ((0 : Int), ((0 : Int), ())))
    else
     let x44 := (decide (a8 < (0 : Int)))
     bif x44 then
      k0 (false, ((0 : Int), ((0 : Int), ())))
     else
      let x45 := (decide ((8 : Int) < a8))
      bif x45 then
       k0 (false, ((0 : Int), ((0 : Int), ())))
      else
       let x46 := (decide (a8 = (0 : Int)))
       bif x46 then
        spec_l9One N a6
         (fun x640 =>
          spec_l9One N a6
           (fun x641 =>
            spec_l9Of N x640 x641
             (fun x644 =>
              k0 x644)))
       else
        spec_SpanPow_J5 N a6 a8 a7 (false, ((0 : Int), ((0 : Int), ())))
         (fun x674 x675 x676 _ =>
          spec_l9Pow N x674 x676.2.1 x675 false
           (fun x792 =>
            spec_l9Pow N x674 x676.2.2.1 x675 true
             (fun x793 =>
              spec_l9Of N x792 x793
               (fun x794 =>
                k0 x794)))))
theorem spec_SpanPow.ex : ∃ f : ((α : Type) → Nat → Int → (Bool × Int × Int × Unit) → Int → ((Bool × Int × Int × Unit) → Option α) → Option α), f = fun α => @spec_SpanPow.b α := ⟨_, rfl⟩
noncomputable def spec_SpanPow {α : Type} : Nat → Int → (Bool × Int × Int × Unit) → Int → ((Bool × Int × Int × Unit) → Option α) → Option α := Classical.choose spec_SpanPow.ex α
theorem spec_SpanPow.eq : @spec_SpanPow = @spec_SpanPow.b := funext fun α => congrFun (Classical.choose_spec spec_SpanPow.ex) α

/-- impl.formatOf -/
noncomputable def impl_formatOf.b {α : Type} (N : Nat) (a813 : Int) (k0 : (Int × Int × Int × Int × Unit) → Bool → Option α) : Option α :=
 let x814 := (decide (a813 = (32 : Int)))
 bif x814 then
  k0 ((23 : Int), ((-149 : Int), ((127 : Int), ((2139095040 : Int), ())))) true
 else
  let x815 := (decide (a813 = (64 : Int)))
  bif x815 then
   k0 ((52 : Int), ((-1074 : Int), ((1023 : Int), ((9218868437227405312 : Int), ())))) true
  else
   k0 ((0 : Int), ((0 : Int), ((0 : Int), ((0 : Int), ())))) false
theorem impl_formatOf.ex : ∃ f : ((α : Type) → Nat → Int → ((Int × Int × Int × Int × Unit) → Bool → Option α) → Option α), f = fun α => @impl_formatOf.b α := ⟨_, rfl⟩
noncomputable def impl_formatOf {α : Type} : Nat → Int → ((Int × Int × Int × Int × Unit) → Bool → Option α) → Option α := Classical.choose impl_formatOf.ex α
theorem impl_formatOf.eq : @impl_formatOf = @impl_formatOf.b := funext fun α => congrFun (Classical.choose_spec impl_formatOf.ex) α

/-- impl.BitTop -/
noncomputable def impl_BitTop.b {α : Type} (N : Nat) (a820 : Int) (k0 : Int → Option α) : Option α :=
 impl_formatOf N a820
  (fun x821 _ =>
   k0 x821.2.2.2.1)
theorem impl_BitTop.ex : ∃ f : ((α : Type) → Nat → Int → (Int → Option α) → Option α), f = fun α => @impl_BitTop.b α := ⟨_, rfl⟩
noncomputable def impl_BitTop {α : Type} : Nat → Int → (Int → Option α) → Option α := Classical.choose impl_BitTop.ex α
theorem impl_BitTop.eq : @impl_BitTop = @impl_BitTop.b := funext fun α => congrFun (Classical.choose_spec impl_BitTop.ex) α

/-- impl.in -/
noncomputable def impl_in.b {α : Type} (N : Nat) (a829 : Int) (a830 : Int) (a831 : Int) (k0 : Bool → Option α) : Option α :=
 let x832 := decide (a830 ≤ a829)
 bif x832 then
  let x833 := decide (a829 ≤ a831)
  k0 x833
 else
  k0 false
theorem impl_in.ex : ∃ f : ((α : Type) → Nat → Int → Int → Int → (Bool → Option α) → Option α), f = fun α => @impl_in.b α := ⟨_, rfl⟩
noncomputable def impl_in {α : Type} : Nat → Int → Int → Int → (Bool → Option α) → Option α := Classical.choose impl_in.ex α
theorem impl_in.eq : @impl_in = @impl_in.b := funext fun α => congrFun (Classical.choose_spec impl_in.ex) α

/-- impl.BitOk -/
noncomputable def impl_BitOk.b {α : Type} (N : Nat) (a824 : Int) (a825 : Int) (k0 : Bool → Option α) : Option α :=
 impl_formatOf N a824
  (fun x826 x827 =>
   bif x827 then
    let x828 := IntKind.i64.wrap (0 - x826.2.2.2.1)
    impl_in N a825 x828 x826.2.2.2.1
     (fun x834 =>
      k0 x834)
   else
    k0 false)
theorem impl_BitOk.ex : ∃ f : ((α : Type) → Nat → Int → Int → (Bool → Option α) → Option α), f = fun α => @impl_BitOk.b α := ⟨_, rfl⟩
noncomputable def impl_BitOk {α : Type} : Nat → Int → Int → (Bool → Option α) → Option α := Classical.choose impl_BitOk.ex α
theorem impl_BitOk.eq : @impl_BitOk = @impl_BitOk.b := funext fun α => congrFun (Classical.choose_spec impl_BitOk.ex) α

/-- impl.PairOk -/
noncomputable def impl_PairOk.b {α : Type} (N : Nat) (a818 : Int) (a819 : Int × Int × Unit) (k0 : Bool → Option α) : Option α :=
 impl_BitTop N a818
  (fun x823 =>
   impl_BitOk N a818 a819.1
    (fun x835 =>
     bif x835 then
      impl_BitOk N a818 a819.2.1
       (fun x836 =>
        bif x836 then
         let x837 := decide (a819.1 ≤ a819.2.1)
         bif x837 then
          let x838 := !(decide (a819.1 = x823))
          bif x838 then
           let x839 := IntKind.i64.wrap (0 - x823)
           let x840 := !(decide (a819.2.1 = x839))
           k0 x840
          else
           k0 false
         else
          k0 false
        else
         k0 false)
     else
      k0 false))
theorem impl_PairOk.ex : ∃ f : ((α : Type) → Nat → Int → (Int × Int × Unit) → (Bool → Option α) → Option α), f = fun α => @impl_PairOk.b α := ⟨_, rfl⟩
noncomputable def impl_PairOk {α : Type} : Nat → Int → (Int × Int × Unit) → (Bool → Option α) → Option α := Classical.choose impl_PairOk.ex α
theorem impl_PairOk.eq : @impl_PairOk = @impl_PairOk.b := funext fun α => congrFun (Classical.choose_spec impl_PairOk.ex) α

/-- impl.SpanOk -/
noncomputable def impl_SpanOk.b {α : Type} (N : Nat) (a811 : Int) (a812 : Bool × Int × Int × Unit) (k0 : Bool → Option α) : Option α :=
 impl_formatOf N a811
  (fun _ x817 =>
   bif x817 then
    bif a812.1 then
     impl_PairOk N a811 (a812.2.1, (a812.2.2.1, ()))
      (fun x841 =>
       bif x841 then
        k0 true
       else
        let x842 := ((a812.1 == false) && ((decide (a812.2.1 = (0 : Int))) && ((decide (a812.2.2.1 = (0 : Int))) && true)))
        k0 x842)
    else
     let x843 := ((a812.1 == false) && ((decide (a812.2.1 = (0 : Int))) && ((decide (a812.2.2.1 = (0 : Int))) && true)))
     k0 x843
   else
    k0 false)
theorem impl_SpanOk.ex : ∃ f : ((α : Type) → Nat → Int → (Bool × Int × Int × Unit) → (Bool → Option α) → Option α), f = fun α => @impl_SpanOk.b α := ⟨_, rfl⟩
noncomputable def impl_SpanOk {α : Type} : Nat → Int → (Bool × Int × Int × Unit) → (Bool → Option α) → Option α := Classical.choose impl_SpanOk.ex α
theorem impl_SpanOk.eq : @impl_SpanOk = @impl_SpanOk.b := funext fun α => congrFun (Classical.choose_spec impl_SpanOk.ex) α

noncomputable def impl_full_L0r {α : Type} (N : Nat) (next : Int → List (Bool × Int × Int × Unit) → Int → Int → Option α) (k0 : Bool → Option α) (k1 : Option α) (v804 : Int) (v805 : List (Bool × Int × Int × Unit)) (v806 : Int) (v807 : Int) : Option α :=
 let x808 := decide (v807 < v806)
 bif x808 then
  bif (decide (v807 < (0 : Int))) then
   none
  else
   match v805[v807.toNat]? with
   | some x809 =>
    let x810 := !x809.1
    bif x810 then
     k0 false
    else
     impl_SpanOk N v804 x809
      (fun x844 =>
       let x845 := !x844
       bif x845 then
        k0 false
       else
        let x846 := (IntKind.i64.wrap (v807 + (1 : Int)))
        next v804 v805 v806 x846)
   | none => none
 else
  k1
noncomputable def impl_full_L0.b {α : Type} (N n : Nat) (v804 : Int) (v805 : List (Bool × Int × Int × Unit)) (v806 : Int) (v807 : Int) (k0 : Bool → Option α) (k1 : Option α) : Option α :=
  Nat.rec (motive := fun _ => Int → List (Bool × Int × Int × Unit) → Int → Int → Option α) (fun _ _ _ _ => none) (fun _ next => impl_full_L0r N next k0 k1) n v804 v805 v806 v807
theorem impl_full_L0.ex : ∃ f : ((α : Type) → Nat → Nat → Int → List (Bool × Int × Int × Unit) → Int → Int → (Bool → Option α) → (Option α) → Option α), f = fun α => @impl_full_L0.b α := ⟨_, rfl⟩
noncomputable def impl_full_L0 {α : Type} : Nat → Nat → Int → List (Bool × Int × Int × Unit) → Int → Int → (Bool → Option α) → (Option α) → Option α := Classical.choose impl_full_L0.ex α
theorem impl_full_L0.eq : @impl_full_L0 = @impl_full_L0.b := funext fun α => congrFun (Classical.choose_spec impl_full_L0.ex) α
theorem impl_full_L0.zero {α : Type} (N : Nat) (v804 : Int) (v805 : List (Bool × Int × Int × Unit)) (v806 : Int) (v807 : Int) (k0 : Bool → Option α) (k1 : Option α) : impl_full_L0 N 0 v804 v805 v806 v807 k0 k1 = none := by rw [impl_full_L0.eq]; rfl
theorem impl_full_L0.succ {α : Type} (N n : Nat) (v804 : Int) (v805 : List (Bool × Int × Int × Unit)) (v806 : Int) (v807 : Int) (k0 : Bool → Option α) (k1 : Option α) : impl_full_L0 N (n + 1) v804 v805 v806 v807 k0 k1 = impl_full_L0r N (fun y0 y1 y2 y3 => impl_full_L0 N n y0 y1 y2 y3 k0 k1) k0 k1 v804 v805 v806 v807 := by rw [impl_full_L0.eq]; rfl
/-- impl.full -/
noncomputable def impl_full.b {α : Type} (N : Nat) (a801 : Int) (a802 : List (Bool × Int × Int × Unit)) (k0 : Bool → Option α) : Option α :=
 let x803 := ((a802.length : Nat) : Int)
 impl_full_L0 N N a801 a802 x803 (0 : Int)
  (fun x847 =>
   k0 x847)
  (
   k0 true)
theorem impl_full.ex : ∃ f : ((α : Type) → Nat → Int → List (Bool × Int × Int × Unit) → (Bool → Option α) → Option α), f = fun α => @impl_full.b α := ⟨_, rfl⟩
noncomputable def impl_full {α : Type} : Nat → Int → List (Bool × Int × Int × Unit) → (Bool → Option α) → Option α := Classical.choose impl_full.ex α
theorem impl_full.eq : @impl_full = @impl_full.b := funext fun α => congrFun (Classical.choose_spec impl_full.ex) α

/-- impl.size -/
noncomputable def impl_size.b {α : Type} (N : Nat) (a865 : Int) (k0 : Int → Option α) : Option α :=
 let x866 := IntKind.i64.wrap (0 - a865)
 let x867 := maxI a865 x866
 k0 x867
theorem impl_size.ex : ∃ f : ((α : Type) → Nat → Int → (Int → Option α) → Option α), f = fun α => @impl_size.b α := ⟨_, rfl⟩
noncomputable def impl_size {α : Type} : Nat → Int → (Int → Option α) → Option α := Classical.choose impl_size.ex α
theorem impl_size.eq : @impl_size = @impl_size.b := funext fun α => congrFun (Classical.choose_spec impl_size.ex) α

/-- impl.some -/
noncomputable def impl_some.b {α : Type} (N : Nat) (a871 : Int) (a872 : Int) (k0 : (Bool × Int × Int × Unit) → Option α) : Option α :=
 k0 (true, (a871, (a872, ())))
theorem impl_some.ex : ∃ f : ((α : Type) → Nat → Int → Int → ((Bool × Int × Int × Unit) → Option α) → Option α), f = fun α => @impl_some.b α := ⟨_, rfl⟩
noncomputable def impl_some {α : Type} : Nat → Int → Int → ((Bool × Int × Int × Unit) → Option α) → Option α := Classical.choose impl_some.ex α
theorem impl_some.eq : @impl_some = @impl_some.b := funext fun α => congrFun (Classical.choose_spec impl_some.ex) α

/-- impl.SpanAbs -/
noncomputable def impl_SpanAbs.b {α : Type} (N : Nat) (a858 : Int) (a859 : Bool × Int × Int × Unit) (k0 : (Bool × Int × Int × Unit) → Option α) : Option α :=
 let x860 := [a859]
 impl_full N a858 x860
  (fun x861 =>
   let x862 := !x861
   bif x862 then
    k0 (false, ((0 : Int), ((0 : Int), ())))
   else
    let x863 := IntKind.i64.wrap (0 - a859.2.2.1)
    let x864 := (maxI (maxI (0 : Int) a859.2.1) x863)
    impl_size N a859.2.1
     (fun x868 =>
      impl_size N a859.2.2.1
       (fun x869 =>
        let x870 := maxI x868 x869
        impl_some N x864 x870
         (fun x873 =>
          k0 x873))))
theorem impl_SpanAbs.ex : ∃ f : ((α : Type) → Nat → Int → (Bool × Int × Int × Unit) → ((Bool × Int × Int × Unit) → Option α) → Option α), f = fun α => @impl_SpanAbs.b α := ⟨_, rfl⟩
noncomputable def impl_SpanAbs {α : Type} : Nat → Int → (Bool × Int × Int × Unit) → ((Bool × Int × Int × Unit) → Option α) → Option α := Classical.choose impl_SpanAbs.ex α
theorem impl_SpanAbs.eq : @impl_SpanAbs = @impl_SpanAbs.b := funext fun α => congrFun (Classical.choose_spec impl_SpanAbs.ex) α

/-- impl.BitPartOf -/
noncomputable def impl_BitPartOf.b {α : Type} (N : Nat) (a2736 : Int) (a2737 : Int) (k0 : (Bool × Int × Int × Unit) → Bool → Option α) : Option α :=
 impl_formatOf N a2736
  (fun x2738 _ =>
   impl_BitOk N a2736 a2737
    (fun x2740 =>
     let x2741 := !x2740
     bif x2741 then
      k0 (false, ((0 : Int), ((0 : Int), ()))) false
     else
      impl_size N a2737
       (fun x2742 =>
        let x2743 := decide (x2742 = x2738.2.2.2.1)
        bif x2743 then
         k0 (false, ((0 : Int), ((0 : Int), ()))) false
        else
         impl_size N a2737
          (fun x2744 =>
           bif (decide (x2738.1 < (0 : Int))) then
            none
           else
            let x2745 := (shlI .i64 (1 : Int) x2738.1)
            let x2746 := (IntKind.i64.wrap (x2745 - (1 : Int)))
            let x2747 := bitI .and .i64 x2744 x2746
            impl_size N a2737
             (fun x2748 =>
              bif (decide (x2738.1 < (0 : Int))) then
               none
              else
               let x2749 := shrI .i64 x2748 x2738.1
               let x2750 := (decide (x2749 = (0 : Int)))
               bif x2750 then
                let x2751 := (decide (a2737 < (0 : Int)))
                let x2752 := IntKind.u64.wrap x2747
                k0 (x2751, (x2752, (x2738.2.1, ()))) true
               else
                let x2753 := (decide (a2737 < (0 : Int)))
                bif (decide (x2738.1 < (0 : Int))) then
                 none
                else
                 let x2754 := (shlI .i64 (1 : Int) x2738.1)
                 let x2755 := bitI .or .i64 x2747 x2754
                 let x2756 := IntKind.u64.wrap x2755
                 let x2757 := IntKind.i64.wrap (x2738.2.1 + x2749)
                 let x2758 := (IntKind.i64.wrap (x2757 - (1 : Int)))
                 k0 (x2753, (x2756, (x2758, ()))) true)))))
theorem impl_BitPartOf.ex : ∃ f : ((α : Type) → Nat → Int → Int → ((Bool × Int × Int × Unit) → Bool → Option α) → Option α), f = fun α => @impl_BitPartOf.b α := ⟨_, rfl⟩
noncomputable def impl_BitPartOf {α : Type} : Nat → Int → Int → ((Bool × Int × Int × Unit) → Bool → Option α) → Option α := Classical.choose impl_BitPartOf.ex α
theorem impl_BitPartOf.eq : @impl_BitPartOf = @impl_BitPartOf.b := funext fun α => congrFun (Classical.choose_spec impl_BitPartOf.ex) α

noncomputable def impl_natOf_L0r {α : Type} (N : Nat) (next : Int → List Int → Option α) (k0 : List Int → Option α) (v2762 : Int) (v2763 : List Int) : Option α :=
 let x2764 := (decide ((0 : Int) < v2762))
 bif x2764 then
  let x2765 := (bitI .and .u64 v2762 (65535 : Int))
  let x2766 := IntKind.i64.wrap x2765
  let x2767 := [x2766]
  bif decide (v2763.length + x2767.length ≤ 8796093022208) then
   let x2768 := v2763 ++ x2767
   let x2769 := (shrI .u64 v2762 (16 : Int))
   next x2769 x2768
  else
   none
 else
  k0 v2763
noncomputable def impl_natOf_L0.b {α : Type} (N n : Nat) (v2762 : Int) (v2763 : List Int) (k0 : List Int → Option α) : Option α :=
  Nat.rec (motive := fun _ => Int → List Int → Option α) (fun _ _ => none) (fun _ next => impl_natOf_L0r N next k0) n v2762 v2763
theorem impl_natOf_L0.ex : ∃ f : ((α : Type) → Nat → Nat → Int → List Int → (List Int → Option α) → Option α), f = fun α => @impl_natOf_L0.b α := ⟨_, rfl⟩
noncomputable def impl_natOf_L0 {α : Type} : Nat → Nat → Int → List Int → (List Int → Option α) → Option α := Classical.choose impl_natOf_L0.ex α
theorem impl_natOf_L0.eq : @impl_natOf_L0 = @impl_natOf_L0.b := funext fun α => congrFun (Classical.choose_spec impl_natOf_L0.ex) α
theorem impl_natOf_L0.zero {α : Type} (N : Nat) (v2762 : Int) (v2763 : List Int) (k0 : List Int → Option α) : impl_natOf_L0 N 0 v2762 v2763 k0 = none := by rw [impl_natOf_L0.eq]; rfl
theorem impl_natOf_L0.succ {α : Type} (N n : Nat) (v2762 : Int) (v2763 : List Int) (k0 : List Int → Option α) : impl_natOf_L0 N (n + 1) v2762 v2763 k0 = impl_natOf_L0r N (fun y0 y1 => impl_natOf_L0 N n y0 y1 k0) k0 v2762 v2763 := by rw [impl_natOf_L0.eq]; rfl
/-- impl.natOf -/
noncomputable def impl_natOf.b {α : Type} (N : Nat) (a2761 : Int) (k0 : List Int → Option α) : Option α :=
 impl_natOf_L0 N N a2761 []
  (fun x2770 =>
   k0 x2770)
theorem impl_natOf.ex : ∃ f : ((α : Type) → Nat → Int → (List Int → Option α) → Option α), f = fun α => @impl_natOf.b α := ⟨_, rfl⟩
noncomputable def impl_natOf {α : Type} : Nat → Int → (List Int → Option α) → Option α := Classical.choose impl_natOf.ex α
theorem impl_natOf.eq : @impl_natOf = @impl_natOf.b := funext fun α => congrFun (Classical.choose_spec impl_natOf.ex) α

/-- slices.Clone[[]int,int] -/
noncomputable def slices_Clone_int_int {α : Type} (N : Nat) (a1 : List Int) (k0 : List Int → Option α) : Option α :=
  bif decide (([] : List Int).length + a1.length ≤ 8796093022208) then k0 a1 else none

noncomputable def impl_trim_L0r {α : Type} (N : Nat) (next : List Int → Option α) (k0 : List Int → Option α) (v2891 : List Int) : Option α :=
 let x2892 := ((v2891.length : Nat) : Int)
 let x2893 := (decide ((0 : Int) < x2892))
 bif x2893 then
  let x2894 := ((v2891.length : Nat) : Int)
  let x2895 := (IntKind.i64.wrap (x2894 - (1 : Int)))
  bif (decide (x2895 < (0 : Int))) then
   none
  else
   match v2891[x2895.toNat]? with
   | some x2896 =>
    let x2897 := (decide (x2896 = (0 : Int)))
    bif x2897 then
     let x2898 := ((v2891.length : Nat) : Int)
     let x2899 := (IntKind.i64.wrap (x2898 - (1 : Int)))
     bif (decide ((0 : Int) ≤ x2899)) then
      bif (decide (x2899 ≤ ((v2891.length : Nat) : Int))) then
       let x2900 := v2891.take x2899.toNat
       next x2900
      else
       none
     else
      none
    else
     k0 v2891
   | none => none
 else
  k0 v2891
noncomputable def impl_trim_L0.b {α : Type} (N n : Nat) (v2891 : List Int) (k0 : List Int → Option α) : Option α :=
  Nat.rec (motive := fun _ => List Int → Option α) (fun _ => none) (fun _ next => impl_trim_L0r N next k0) n v2891
theorem impl_trim_L0.ex : ∃ f : ((α : Type) → Nat → Nat → List Int → (List Int → Option α) → Option α), f = fun α => @impl_trim_L0.b α := ⟨_, rfl⟩
noncomputable def impl_trim_L0 {α : Type} : Nat → Nat → List Int → (List Int → Option α) → Option α := Classical.choose impl_trim_L0.ex α
theorem impl_trim_L0.eq : @impl_trim_L0 = @impl_trim_L0.b := funext fun α => congrFun (Classical.choose_spec impl_trim_L0.ex) α
theorem impl_trim_L0.zero {α : Type} (N : Nat) (v2891 : List Int) (k0 : List Int → Option α) : impl_trim_L0 N 0 v2891 k0 = none := by rw [impl_trim_L0.eq]; rfl
theorem impl_trim_L0.succ {α : Type} (N n : Nat) (v2891 : List Int) (k0 : List Int → Option α) : impl_trim_L0 N (n + 1) v2891 k0 = impl_trim_L0r N (fun y0 => impl_trim_L0 N n y0 k0) k0 v2891 := by rw [impl_trim_L0.eq]; rfl
/-- impl.trim -/
noncomputable def impl_trim.b {α : Type} (N : Nat) (a2890 : List Int) (k0 : List Int → Option α) : Option α :=
 impl_trim_L0 N N a2890
  (fun x2901 =>
   k0 x2901)
theorem impl_trim.ex : ∃ f : ((α : Type) → Nat → List Int → (List Int → Option α) → Option α), f = fun α => @impl_trim.b α := ⟨_, rfl⟩
noncomputable def impl_trim {α : Type} : Nat → List Int → (List Int → Option α) → Option α := Classical.choose impl_trim.ex α
theorem impl_trim.eq : @impl_trim = @impl_trim.b := funext fun α => congrFun (Classical.choose_spec impl_trim.ex) α

noncomputable def impl_natShift_J10.b {α : Type} (N : Nat) (v2861 : List Int) (v2862 : Int) (v2863 : Int) (v2864 : Int) (v2865 : Int) (v2866 : Int) (v2867 : List Int) (k0 : List Int → Int → Int → Int → Int → List Int → Option α) : Option α :=
 let x2868 := IntKind.i64.wrap (v2862 + v2864)
 let x2869 := (IntKind.i64.wrap (x2868 + (1 : Int)))
 let x2870 := ((v2861.length : Nat) : Int)
 let x2871 := decide (x2869 < x2870)
 bif x2871 then
  bif (decide (v2864 < (0 : Int))) then
   none
  else
   bif decide (v2864.toNat < v2867.length) then
    match v2867[v2864.toNat]? with
    | some x2872 =>
     let x2873 := IntKind.i64.wrap (v2862 + v2864)
     let x2874 := (IntKind.i64.wrap (x2873 + (1 : Int)))
     bif (decide (x2874 < (0 : Int))) then
      none
     else
      match v2861[x2874.toNat]? with
      | some x2875 =>
       let x2876 := (IntKind.i64.wrap ((16 : Int) - v2863))
       bif (decide (x2876 < (0 : Int))) then
        none
       else
        let x2877 := shlI .i64 x2875 x2876
        let x2878 := (bitI .and .i64 x2877 (65535 : Int))
        let x2879 := bitI .or .i64 x2872 x2878
        bif (decide (v2864 < (0 : Int))) then
         none
        else
         bif decide (v2864.toNat < v2867.length) then
          match v2867[v2864.toNat]? with
          | some x2880 =>
           let x2881 := v2867.set v2864.toNat x2879
           k0 v2861 v2862 v2863 v2865 v2866 x2881
          | none => none
         else
          none
      | none => none
    | none => none
   else
    none
 else
  k0 v2861 v2862 v2863 v2865 v2866 v2867
theorem impl_natShift_J10.ex : ∃ f : ((α : Type) → Nat → List Int → Int → Int → Int → Int → Int → List Int → (List Int → Int → Int → Int → Int → List Int → Option α) → Option α), f = fun α => @impl_natShift_J10.b α := ⟨_, rfl⟩
noncomputable def impl_natShift_J10 {α : Type} : Nat → List Int → Int → Int → Int → Int → Int → List Int → (List Int → Int → Int → Int → Int → List Int → Option α) → Option α := Classical.choose impl_natShift_J10.ex α
theorem impl_natShift_J10.eq : @impl_natShift_J10 = @impl_natShift_J10.b := funext fun α => congrFun (Classical.choose_spec impl_natShift_J10.ex) α
noncomputable def impl_natShift_L0r {α : Type} (N : Nat) (next : List Int → Int → Int → Int → Int → List Int → Option α) (k0 : List Int → Option α) (v2850 : List Int) (v2851 : Int) (v2852 : Int) (v2853 : Int) (v2854 : Int) (v2855 : List Int) : Option α :=
 let x2856 := decide (v2854 < v2853)
 bif x2856 then
  bif (decide (v2854 < (0 : Int))) then
   none
  else
   bif decide (v2854.toNat < v2855.length) then
    match v2855[v2854.toNat]? with
    | some x2857 =>
     bif (decide (v2852 < (0 : Int))) then
      none
     else
      let x2858 := shrI .i64 x2857 v2852
      bif (decide (v2854 < (0 : Int))) then
       none
      else
       bif decide (v2854.toNat < v2855.length) then
        match v2855[v2854.toNat]? with
        | some x2859 =>
         let x2860 := v2855.set v2854.toNat x2858
         impl_natShift_J10 N v2850 v2851 v2852 v2854 v2853 v2854 x2860
          (fun x2882 x2883 x2884 x2885 x2886 x2887 =>
           let x2888 := (IntKind.i64.wrap (x2886 + (1 : Int)))
           next x2882 x2883 x2884 x2885 x2888 x2887)
        | none => none
       else
        none
    | none => none
   else
    none
 else
  k0 v2855
noncomputable def impl_natShift_L0.b {α : Type} (N n : Nat) (v2850 : List Int) (v2851 : Int) (v2852 : Int) (v2853 : Int) (v2854 : Int) (v2855 : List Int) (k0 : List Int → Option α) : Option α :=
  Nat.rec (motive := fun _ => List Int → Int → Int → Int → Int → List Int → Option α) (fun _ _ _ _ _ _ => none) (fun _ next => impl_natShift_L0r N next k0) n v2850 v2851 v2852 v2853 v2854 v2855
theorem impl_natShift_L0.ex : ∃ f : ((α : Type) → Nat → Nat → List Int → Int → Int → Int → Int → List Int → (List Int → Option α) → Option α), f = fun α => @impl_natShift_L0.b α := ⟨_, rfl⟩
noncomputable def impl_natShift_L0 {α : Type} : Nat → Nat → List Int → Int → Int → Int → Int → List Int → (List Int → Option α) → Option α := Classical.choose impl_natShift_L0.ex α
theorem impl_natShift_L0.eq : @impl_natShift_L0 = @impl_natShift_L0.b := funext fun α => congrFun (Classical.choose_spec impl_natShift_L0.ex) α
theorem impl_natShift_L0.zero {α : Type} (N : Nat) (v2850 : List Int) (v2851 : Int) (v2852 : Int) (v2853 : Int) (v2854 : Int) (v2855 : List Int) (k0 : List Int → Option α) : impl_natShift_L0 N 0 v2850 v2851 v2852 v2853 v2854 v2855 k0 = none := by rw [impl_natShift_L0.eq]; rfl
theorem impl_natShift_L0.succ {α : Type} (N n : Nat) (v2850 : List Int) (v2851 : Int) (v2852 : Int) (v2853 : Int) (v2854 : Int) (v2855 : List Int) (k0 : List Int → Option α) : impl_natShift_L0 N (n + 1) v2850 v2851 v2852 v2853 v2854 v2855 k0 = impl_natShift_L0r N (fun y0 y1 y2 y3 y4 y5 => impl_natShift_L0 N n y0 y1 y2 y3 y4 y5 k0) k0 v2850 v2851 v2852 v2853 v2854 v2855 := by rw [impl_natShift_L0.eq]; rfl
noncomputable def impl_natShift_L2r {α : Type} (N : Nat) (next : Int → List Int → Int → Int → List Int → Option α) (k0 : List Int → Option α) (v2909 : Int) (v2910 : List Int) (v2911 : Int) (v2912 : Int) (v2913 : List Int) : Option α :=
 let x2914 := decide (v2912 < v2911)
 bif x2914 then
  bif (decide (v2912 < (0 : Int))) then
   none
  else
   match v2910[v2912.toNat]? with
   | some x2915 =>
    let x2916 := (Int.tmod v2909 (16 : Int))
    bif (decide (x2916 < (0 : Int))) then
     none
    else
     let x2917 := shlI .i64 x2915 x2916
     let x2918 := (IntKind.i64.wrap (Int.tdiv v2909 (16 : Int)))
     let x2919 := IntKind.i64.wrap (x2918 + v2912)
     bif (decide (x2919 < (0 : Int))) then
      none
     else
      bif decide (x2919.toNat < v2913.length) then
       match v2913[x2919.toNat]? with
       | some x2920 =>
        let x2921 := (bitI .and .i64 x2917 (65535 : Int))
        let x2922 := bitI .or .i64 x2920 x2921
        bif (decide (x2919 < (0 : Int))) then
         none
        else
         bif decide (x2919.toNat < v2913.length) then
          match v2913[x2919.toNat]? with
          | some x2923 =>
           let x2924 := v2913.set x2919.toNat x2922
           let x2925 := (IntKind.i64.wrap (Int.tdiv v2909 (16 : Int)))
           let x2926 := IntKind.i64.wrap (x2925 + v2912)
           let x2927 := (IntKind.i64.wrap (x2926 + (1 : Int)))
           let x2928 := (shrI .i64 x2917 (16 : Int))
           bif (decide (x2927 < (0 : Int))) then
            none
           else
            bif decide (x2927.toNat < x2924.length) then
             match x2924[x2927.toNat]? with
             | some x2929 =>
              let x2930 := x2924.set x2927.toNat x2928
              let x2931 := (IntKind.i64.wrap (v2912 + (1 : Int)))
              next v2909 v2910 v2911 x2931 x2930
             | none => none
            else
             none
          | none => none
         else
          none
       | none => none
      else
       none
   | none => none
 else
  k0 v2913
noncomputable def impl_natShift_L2.b {α : Type} (N n : Nat) (v2909 : Int) (v2910 : List Int) (v2911 : Int) (v2912 : Int) (v2913 : List Int) (k0 : List Int → Option α) : Option α :=
  Nat.rec (motive := fun _ => Int → List Int → Int → Int → List Int → Option α) (fun _ _ _ _ _ => none) (fun _ next => impl_natShift_L2r N next k0) n v2909 v2910 v2911 v2912 v2913
theorem impl_natShift_L2.ex : ∃ f : ((α : Type) → Nat → Nat → Int → List Int → Int → Int → List Int → (List Int → Option α) → Option α), f = fun α => @impl_natShift_L2.b α := ⟨_, rfl⟩
noncomputable def impl_natShift_L2 {α : Type} : Nat → Nat → Int → List Int → Int → Int → List Int → (List Int → Option α) → Option α := Classical.choose impl_natShift_L2.ex α
theorem impl_natShift_L2.eq : @impl_natShift_L2 = @impl_natShift_L2.b := funext fun α => congrFun (Classical.choose_spec impl_natShift_L2.ex) α
theorem impl_natShift_L2.zero {α : Type} (N : Nat) (v2909 : Int) (v2910 : List Int) (v2911 : Int) (v2912 : Int) (v2913 : List Int) (k0 : List Int → Option α) : impl_natShift_L2 N 0 v2909 v2910 v2911 v2912 v2913 k0 = none := by rw [impl_natShift_L2.eq]; rfl
theorem impl_natShift_L2.succ {α : Type} (N n : Nat) (v2909 : Int) (v2910 : List Int) (v2911 : Int) (v2912 : Int) (v2913 : List Int) (k0 : List Int → Option α) : impl_natShift_L2 N (n + 1) v2909 v2910 v2911 v2912 v2913 k0 = impl_natShift_L2r N (fun y0 y1 y2 y3 y4 => impl_natShift_L2 N n y0 y1 y2 y3 y4 k0) k0 v2909 v2910 v2911 v2912 v2913 := by rw [impl_natShift_L2.eq]; rfl
/-- impl.natShift -/
noncomputable def impl_natShift.b {α : Type} (N : Nat) (a2838 : List Int) (a2839 : Int) (k0 : List Int → Option α) : Option α :=
 let x2840 := (decide (a2839 < (0 : Int)))
 bif x2840 then
  let x2841 := IntKind.i64.wrap (0 - a2839)
  let x2842 := (IntKind.i64.wrap (Int.tdiv x2841 (16 : Int)))
  let x2843 := IntKind.i64.wrap (0 - a2839)
  let x2844 := (Int.tmod x2843 (16 : Int))
  let x2845 := ((a2838.length : Nat) : Int)
  let x2846 := decide (x2845 ≤ x2842)
  bif x2846 then
   k0 []
  else
   bif (decide ((0 : Int) ≤ x2842)) then
    bif (decide (x2842 ≤ ((a2838.length : Nat) : Int))) then
     let x2847 := a2838.drop x2842.toNat
     slices_Clone_int_int N x2847
      (fun x2848 =>
       let x2849 := ((x2848.length : Nat) : Int)
       impl_natShift_L0 N N a2838 x2842 x2844 x2849 (0 : Int) x2848
        (fun x2889 =>
         impl_trim N x2889
          (fun x2902 =>
           k0 x2902)))
    else
     none
   else
    none
 else
  let x2903 := (IntKind.i64.wrap (Int.tdiv a2839 (16 : Int)))
  let x2904 := ((a2838.length : Nat) : Int)
  let x2905 := IntKind.i64.wrap (x2903 + x2904)
  let x2906 := (IntKind.i64.wrap (x2905 + (1 : Int)))
  bif (decide ((0 : Int) ≤ x2906)) then
   bif decide (x2906 ≤ x2906) then
    bif (decide (x2906 ≤ ((8796093022208 : Nat) : Int))) then
     let x2907 := (List.replicate x2906.toNat (0 : Int))
     let x2908 := ((a2838.length : Nat) : Int)
     impl_natShift_L2 N N a2839 a2838 x2908 (0 : Int) x2907
      (fun x2932 =>
       impl_trim N x2932
        (fun x2933 =>
         k0 x2933))
    else
     none
   else
    none
  else
   none
theorem impl_natShift.ex : ∃ f : ((α : Type) → Nat → List Int → Int → (List Int → Option α) → Option α), f = fun α => @impl_natShift.b α := ⟨_, rfl⟩
noncomputable def impl_natShift {α : Type} : Nat → List Int → Int → (List Int → Option α) → Option α := Classical.choose impl_natShift.ex α
theorem impl_natShift.eq : @impl_natShift = @impl_natShift.b := funext fun α => congrFun (Classical.choose_spec impl_natShift.ex) α

/-- impl.whole -/
noncomputable def impl_whole.b {α : Type} (N : Nat) (a2935 : Bool) (a2936 : List Int) (k0 : Bool → List Int → List Int → Option α) : Option α :=
 bif a2935 then
  let x2937 := ((a2936.length : Nat) : Int)
  let x2938 := (decide ((0 : Int) < x2937))
  let x2939 := [(1 : Int)]
  k0 x2938 a2936 x2939
 else
  let x2940 := [(1 : Int)]
  k0 false a2936 x2940
theorem impl_whole.ex : ∃ f : ((α : Type) → Nat → Bool → List Int → (Bool → List Int → List Int → Option α) → Option α), f = fun α => @impl_whole.b α := ⟨_, rfl⟩
noncomputable def impl_whole {α : Type} : Nat → Bool → List Int → (Bool → List Int → List Int → Option α) → Option α := Classical.choose impl_whole.ex α
theorem impl_whole.eq : @impl_whole = @impl_whole.b := funext fun α => congrFun (Classical.choose_spec impl_whole.ex) α

noncomputable def impl_natCmp_L0r {α : Type} (N : Nat) (next : List Int → List Int → Int → Option α) (k0 : Int → Option α) (k1 : Option α) (v3027 : List Int) (v3028 : List Int) (v3029 : Int) : Option α :=
 let x3030 := (decide ((0 : Int) ≤ v3029))
 bif x3030 then
  bif (decide (v3029 < (0 : Int))) then
   none
  else
   match v3027[v3029.toNat]? with
   | some x3031 =>
    bif (decide (v3029 < (0 : Int))) then
     none
    else
     match v3028[v3029.toNat]? with
     | some x3032 =>
      let x3033 := !(decide (x3031 = x3032))
      bif x3033 then
       bif (decide (v3029 < (0 : Int))) then
        none
       else
        match v3027[v3029.toNat]? with
        | some x3034 =>
         bif (decide (v3029 < (0 : Int))) then
          none
         else
          match v3028[v3029.toNat]? with
          | some x3035 =>
           let x3036 := IntKind.i64.wrap (x3034 - x3035)
           let x3037 := (minI (1 : Int) x3036)
           let x3038 := (maxI (-1 : Int) x3037)
           k0 x3038
          | none => none
        | none => none
      else
       let x3039 := (IntKind.i64.wrap (v3029 - (1 : Int)))
       next v3027 v3028 x3039
     | none => none
   | none => none
 else
  k1
noncomputable def impl_natCmp_L0.b {α : Type} (N n : Nat) (v3027 : List Int) (v3028 : List Int) (v3029 : Int) (k0 : Int → Option α) (k1 : Option α) : Option α :=
  Nat.rec (motive := fun _ => List Int → List Int → Int → Option α) (fun _ _ _ => none) (fun _ next => impl_natCmp_L0r N next k0 k1) n v3027 v3028 v3029
theorem impl_natCmp_L0.ex : ∃ f : ((α : Type) → Nat → Nat → List Int → List Int → Int → (Int → Option α) → (Option α) → Option α), f = fun α => @impl_natCmp_L0.b α := ⟨_, rfl⟩
noncomputable def impl_natCmp_L0 {α : Type} : Nat → Nat → List Int → List Int → Int → (Int → Option α) → (Option α) → Option α := Classical.choose impl_natCmp_L0.ex α
theorem impl_natCmp_L0.eq : @impl_natCmp_L0 = @impl_natCmp_L0.b := funext fun α => congrFun (Classical.choose_spec impl_natCmp_L0.ex) α
theorem impl_natCmp_L0.zero {α : Type} (N : Nat) (v3027 : List Int) (v3028 : List Int) (v3029 : Int) (k0 : Int → Option α) (k1 : Option α) : impl_natCmp_L0 N 0 v3027 v3028 v3029 k0 k1 = none := by rw [impl_natCmp_L0.eq]; rfl
theorem impl_natCmp_L0.succ {α : Type} (N n : Nat) (v3027 : List Int) (v3028 : List Int) (v3029 : Int) (k0 : Int → Option α) (k1 : Option α) : impl_natCmp_L0 N (n + 1) v3027 v3028 v3029 k0 k1 = impl_natCmp_L0r N (fun y0 y1 y2 => impl_natCmp_L0 N n y0 y1 y2 k0 k1) k0 k1 v3027 v3028 v3029 := by rw [impl_natCmp_L0.eq]; rfl
/-- impl.natCmp -/
noncomputable def impl_natCmp.b {α : Type} (N : Nat) (a3015 : List Int) (a3016 : List Int) (k0 : Int → Option α) : Option α :=
 let x3017 := ((a3015.length : Nat) : Int)
 let x3018 := ((a3016.length : Nat) : Int)
 let x3019 := !(decide (x3017 = x3018))
 bif x3019 then
  let x3020 := ((a3015.length : Nat) : Int)
  let x3021 := ((a3016.length : Nat) : Int)
  let x3022 := IntKind.i64.wrap (x3020 - x3021)
  let x3023 := (minI (1 : Int) x3022)
  let x3024 := (maxI (-1 : Int) x3023)
  k0 x3024
 else
  let x3025 := ((a3015.length : Nat) : Int)
  let x3026 := (IntKind.i64.wrap (x3025 - (1 : Int)))
  impl_natCmp_L0 N N a3015 a3016 x3026
   (fun x3040 =>
    k0 x3040)
   (
    k0 (0 : Int))
theorem impl_natCmp.ex : ∃ f : ((α : Type) → Nat → List Int → List Int → (Int → Option α) → Option α), f = fun α => @impl_natCmp.b α := ⟨_, rfl⟩
noncomputable def impl_natCmp {α : Type} : Nat → List Int → List Int → (Int → Option α) → Option α := Classical.choose impl_natCmp.ex α
theorem impl_natCmp.eq : @impl_natCmp = @impl_natCmp.b := funext fun α => congrFun (Classical.choose_spec impl_natCmp.ex) α

noncomputable def math_bits_Len64_J1.b {α : Type} (N : Nat) (v3076 : Int) (v3077 : Int) (k0 : Int → Int → Option α) : Option α :=
 let x3078 := (decide ((4294967296 : Int) ≤ v3076))
 bif x3078 then
  let x3079 := (shrI .u64 v3076 (32 : Int))
  k0 x3079 (32 : Int)
 else
  k0 v3076 v3077
theorem math_bits_Len64_J1.ex : ∃ f : ((α : Type) → Nat → Int → Int → (Int → Int → Option α) → Option α), f = fun α => @math_bits_Len64_J1.b α := ⟨_, rfl⟩
noncomputable def math_bits_Len64_J1 {α : Type} : Nat → Int → Int → (Int → Int → Option α) → Option α := Classical.choose math_bits_Len64_J1.ex α
theorem math_bits_Len64_J1.eq : @math_bits_Len64_J1 = @math_bits_Len64_J1.b := funext fun α => congrFun (Classical.choose_spec math_bits_Len64_J1.ex) α
noncomputable def math_bits_Len64_J4.b {α : Type} (N : Nat) (v3082 : Int) (v3083 : Int) (k0 : Int → Int → Option α) : Option α :=
 let x3084 := (decide ((65536 : Int) ≤ v3082))
 bif x3084 then
  let x3085 := (shrI .u64 v3082 (16 : Int))
  let x3086 := (IntKind.i64.wrap (v3083 + (16 : Int)))
  k0 x3085 x3086
 else
  k0 v3082 v3083
theorem math_bits_Len64_J4.ex : ∃ f : ((α : Type) → Nat → Int → Int → (Int → Int → Option α) → Option α), f = fun α => @math_bits_Len64_J4.b α := ⟨_, rfl⟩
noncomputable def math_bits_Len64_J4 {α : Type} : Nat → Int → Int → (Int → Int → Option α) → Option α := Classical.choose math_bits_Len64_J4.ex α
theorem math_bits_Len64_J4.eq : @math_bits_Len64_J4 = @math_bits_Len64_J4.b := funext fun α => congrFun (Classical.choose_spec math_bits_Len64_J4.ex) α
noncomputable def math_bits_Len64_J7.b {α : Type} (N : Nat) (v3089 : Int) (v3090 : Int) (k0 : Int → Int → Option α) : Option α :=
 let x3091 := (decide ((256 : Int) ≤ v3089))
 bif x3091 then
  let x3092 := (shrI .u64 v3089 (8 : Int))
  let x3093 := (IntKind.i64.wrap (v3090 + (8 : Int)))
  k0 x3092 x3093
 else
  k0 v3089 v3090
theorem math_bits_Len64_J7.ex : ∃ f : ((α : Type) → Nat → Int → Int → (Int → Int → Option α) → Option α), f = fun α => @math_bits_Len64_J7.b α := ⟨_, rfl⟩
noncomputable def math_bits_Len64_J7 {α : Type} : Nat → Int → Int → (Int → Int → Option α) → Option α := Classical.choose math_bits_Len64_J7.ex α
theorem math_bits_Len64_J7.eq : @math_bits_Len64_J7 = @math_bits_Len64_J7.b := funext fun α => congrFun (Classical.choose_spec math_bits_Len64_J7.ex) α
/-- math/bits.Len64 -/
noncomputable def math_bits_Len64.b {α : Type} (N : Nat) (a3075 : Int) (k0 : Int → Option α) : Option α :=
 math_bits_Len64_J1 N a3075 (0 : Int)
  (fun x3080 x3081 =>
   math_bits_Len64_J4 N x3080 x3081
    (fun x3087 x3088 =>
     math_bits_Len64_J7 N x3087 x3088
      (fun x3094 x3095 =>
       let x3096 := IntKind.u8.wrap x3094
       bif (decide (x3096 < (0 : Int))) then
        none
       else
        match ((⟨#[0, 1, 2, 2, 3, 3, 3, 3, 4, 4, 4, 4, 4, 4, 4, 4, 5, 5, 5, 5, 5, 5, 5, 5, 5, 5, 5, 5, 5, 5, 5, 5, 6, 6, 6, 6, 6, 6, 6, 6, 6, 6, 6, 6, 6, 6, 6, 6, 6, 6, 6, 6, 6, 6, 6, 6, 6, 6, 6, 6, 6, 6, 6, 6, 7, 7, 7, 7, 7, 7, 7, 7, 7, 7, 7, 7, 7, 7, 7, 7, 7, 7, 7, 7, 7, 7, 7, 7, 7, 7, 7, 7, 7, 7, 7, 7, 7, 7, 7, 7, 7, 7, 7, 7, 7, 7, 7, 7, 7, 7, 7, 7, 7, 7, 7, 7, 7, 7, 7, 7, 7, 7, 7, 7, 7, 7, 7, 7, 8, 8, 8, 8, 8, 8, 8, 8, 8, 8, 8, 8, 8, 8, 8, 8, 8, 8, 8, 8, 8, 8, 8, 8, 8, 8, 8, 8, 8, 8, 8, 8, 8, 8, 8, 8, 8, 8, 8, 8, 8, 8, 8, 8, 8, 8, 8, 8, 8, 8, 8, 8, 8, 8, 8, 8, 8, 8, 8, 8, 8, 8, 8, 8, 8, 8, 8, 8, 8, 8, 8, 8, 8, 8, 8, 8, 8, 8, 8, 8, 8, 8, 8, 8, 8, 8, 8, 8, 8, 8, 8, 8, 8, 8, 8, 8, 8, 8, 8, 8, 8, 8, 8, 8, 8, 8, 8, 8, 8, 8, 8, 8, 8, 8, 8, 8, 8, 8, 8, 8, 8, 8, 8, 8, 8, 8, 8, 8]⟩ : ByteArray)[x3096.toNat]? : Option UInt8) with
        | some x3097 =>
         let x3098 := ((x3097.toNat : Nat) : Int)
         let x3099 := IntKind.i64.wrap x3098
         let x3100 := IntKind.i64.wrap (x3095 + x3099)
         k0 x3100
        | none => none)))
theorem math_bits_Len64.ex : ∃ f : ((α : Type) → Nat → Int → (Int → Option α) → Option α), f = fun α => @math_bits_Len64.b α := ⟨_, rfl⟩
noncomputable def math_bits_Len64 {α : Type} : Nat → Int → (Int → Option α) → Option α := Classical.choose math_bits_Len64.ex α
theorem math_bits_Len64.eq : @math_bits_Len64 = @math_bits_Len64.b := funext fun α => congrFun (Classical.choose_spec math_bits_Len64.ex) α

/-- math/bits.Len -/
noncomputable def math_bits_Len.b {α : Type} (N : Nat) (a3074 : Int) (k0 : Int → Option α) : Option α :=
 math_bits_Len64 N a3074
  (fun x3101 =>
   k0 x3101)
theorem math_bits_Len.ex : ∃ f : ((α : Type) → Nat → Int → (Int → Option α) → Option α), f = fun α => @math_bits_Len.b α := ⟨_, rfl⟩
noncomputable def math_bits_Len {α : Type} : Nat → Int → (Int → Option α) → Option α := Classical.choose math_bits_Len.ex α
theorem math_bits_Len.eq : @math_bits_Len = @math_bits_Len.b := funext fun α => congrFun (Classical.choose_spec math_bits_Len.ex) α

noncomputable def impl_natDiv_L0r {α : Type} (N : Nat) (next : List Int → List Int → Int → Int → List Int → Option α) (k0 : Int → List Int → Option α) (v3049 : List Int) (v3050 : List Int) (v3051 : Int) (v3052 : Int) (v3053 : List Int) : Option α :=
 let x3054 := (decide ((0 : Int) ≤ v3052))
 bif x3054 then
  let x3055 := (shlI .i64 v3051 (16 : Int))
  bif (decide (v3052 < (0 : Int))) then
   none
  else
   match v3049[v3052.toNat]? with
   | some x3056 =>
    let x3057 := bitI .or .i64 x3055 x3056
    match v3050[0]? with
    | some x3058 =>
     bif (decide (x3058 = (0 : Int))) then
      none
     else
      let x3059 := IntKind.i64.wrap (Int.tdiv x3057 x3058)
      match v3050[0]? with
      | some x3060 =>
       bif (decide (x3060 = (0 : Int))) then
        none
       else
        let x3061 := Int.tmod x3057 x3060
        bif (decide (v3052 < (0 : Int))) then
         none
        else
         bif decide (v3052.toNat < v3053.length) then
          match v3053[v3052.toNat]? with
          | some x3062 =>
           let x3063 := v3053.set v3052.toNat x3059
           let x3064 := (IntKind.i64.wrap (v3052 - (1 : Int)))
           next v3049 v3050 x3061 x3064 x3063
          | none => none
         else
          none
      | none => none
    | none => none
   | none => none
 else
  k0 v3051 v3053
noncomputable def impl_natDiv_L0.b {α : Type} (N n : Nat) (v3049 : List Int) (v3050 : List Int) (v3051 : Int) (v3052 : Int) (v3053 : List Int) (k0 : Int → List Int → Option α) : Option α :=
  Nat.rec (motive := fun _ => List Int → List Int → Int → Int → List Int → Option α) (fun _ _ _ _ _ => none) (fun _ next => impl_natDiv_L0r N next k0) n v3049 v3050 v3051 v3052 v3053
theorem impl_natDiv_L0.ex : ∃ f : ((α : Type) → Nat → Nat → List Int → List Int → Int → Int → List Int → (Int → List Int → Option α) → Option α), f = fun α => @impl_natDiv_L0.b α := ⟨_, rfl⟩
noncomputable def impl_natDiv_L0 {α : Type} : Nat → Nat → List Int → List Int → Int → Int → List Int → (Int → List Int → Option α) → Option α := Classical.choose impl_natDiv_L0.ex α
theorem impl_natDiv_L0.eq : @impl_natDiv_L0 = @impl_natDiv_L0.b := funext fun α => congrFun (Classical.choose_spec impl_natDiv_L0.ex) α
theorem impl_natDiv_L0.zero {α : Type} (N : Nat) (v3049 : List Int) (v3050 : List Int) (v3051 : Int) (v3052 : Int) (v3053 : List Int) (k0 : Int → List Int → Option α) : impl_natDiv_L0 N 0 v3049 v3050 v3051 v3052 v3053 k0 = none := by rw [impl_natDiv_L0.eq]; rfl
theorem impl_natDiv_L0.succ {α : Type} (N n : Nat) (v3049 : List Int) (v3050 : List Int) (v3051 : Int) (v3052 : Int) (v3053 : List Int) (k0 : Int → List Int → Option α) : impl_natDiv_L0 N (n + 1) v3049 v3050 v3051 v3052 v3053 k0 = impl_natDiv_L0r N (fun y0 y1 y2 y3 y4 => impl_natDiv_L0 N n y0 y1 y2 y3 y4 k0) k0 v3049 v3050 v3051 v3052 v3053 := by rw [impl_natDiv_L0.eq]; rfl
noncomputable def impl_natDiv_L2r {α : Type} (N : Nat) (next : List Int → Int → List Int → Int → List Int → Option α) (k0 : Int → List Int → Int → List Int → Option α) (v3110 : List Int) (v3111 : Int) (v3112 : List Int) (v3113 : Int) (v3114 : List Int) : Option α :=
 let x3115 := ((v3114.length : Nat) : Int)
 let x3116 := ((v3110.length : Nat) : Int)
 let x3117 := (IntKind.i64.wrap (x3116 + (1 : Int)))
 let x3118 := decide (x3115 < x3117)
 bif x3118 then
  let x3119 := [(0 : Int)]
  bif decide (v3114.length + x3119.length ≤ 8796093022208) then
   let x3120 := v3114 ++ x3119
   next v3110 v3111 v3112 v3113 x3120
  else
   none
 else
  k0 v3111 v3112 v3113 v3114
noncomputable def impl_natDiv_L2.b {α : Type} (N n : Nat) (v3110 : List Int) (v3111 : Int) (v3112 : List Int) (v3113 : Int) (v3114 : List Int) (k0 : Int → List Int → Int → List Int → Option α) : Option α :=
  Nat.rec (motive := fun _ => List Int → Int → List Int → Int → List Int → Option α) (fun _ _ _ _ _ => none) (fun _ next => impl_natDiv_L2r N next k0) n v3110 v3111 v3112 v3113 v3114
theorem impl_natDiv_L2.ex : ∃ f : ((α : Type) → Nat → Nat → List Int → Int → List Int → Int → List Int → (Int → List Int → Int → List Int → Option α) → Option α), f = fun α => @impl_natDiv_L2.b α := ⟨_, rfl⟩
noncomputable def impl_natDiv_L2 {α : Type} : Nat → Nat → List Int → Int → List Int → Int → List Int → (Int → List Int → Int → List Int → Option α) → Option α := Classical.choose impl_natDiv_L2.ex α
theorem impl_natDiv_L2.eq : @impl_natDiv_L2 = @impl_natDiv_L2.b := funext fun α => congrFun (Classical.choose_spec impl_natDiv_L2.ex) α
theorem impl_natDiv_L2.zero {α : Type} (N : Nat) (v3110 : List Int) (v3111 : Int) (v3112 : List Int) (v3113 : Int) (v3114 : List Int) (k0 : Int → List Int → Int → List Int → Option α) : impl_natDiv_L2 N 0 v3110 v3111 v3112 v3113 v3114 k0 = none := by rw [impl_natDiv_L2.eq]; rfl
theorem impl_natDiv_L2.succ {α : Type} (N n : Nat) (v3110 : List Int) (v3111 : Int) (v3112 : List Int) (v3113 : Int) (v3114 : List Int) (k0 : Int → List Int → Int → List Int → Option α) : impl_natDiv_L2 N (n + 1) v3110 v3111 v3112 v3113 v3114 k0 = impl_natDiv_L2r N (fun y0 y1 y2 y3 y4 => impl_natDiv_L2 N n y0 y1 y2 y3 y4 k0) k0 v3110 v3111 v3112 v3113 v3114 := by rw [impl_natDiv_L2.eq]; rfl
noncomputable def impl_natDiv_L6r {α : Type} (N : Nat) (next : Int → List Int → Int → Int → Int → Int → List Int → List Int → Option α) (k0 : Int → List Int → Int → Int → Int → List Int → List Int → Option α) (v3151 : Int) (v3152 : List Int) (v3153 : Int) (v3154 : Int) (v3155 : Int) (v3156 : Int) (v3157 : List Int) (v3158 : List Int) : Option α :=
 let x3159 := (decide ((65536 : Int) ≤ v3155))
 bif x3159 then
  let x3160 := (IntKind.i64.wrap (v3155 - (1 : Int)))
  let x3161 := (IntKind.i64.wrap (v3153 - (1 : Int)))
  bif (decide (x3161 < (0 : Int))) then
   none
  else
   match v3152[x3161.toNat]? with
   | some x3162 =>
    let x3163 := IntKind.i64.wrap (v3156 + x3162)
    let x3164 := (decide ((65536 : Int) ≤ x3163))
    bif x3164 then
     k0 v3151 v3152 v3153 v3154 x3160 v3157 v3158
    else
     next v3151 v3152 v3153 v3154 x3160 x3163 v3157 v3158
   | none => none
 else
  let x3165 := (IntKind.i64.wrap (v3153 - (2 : Int)))
  bif (decide (x3165 < (0 : Int))) then
   none
  else
   match v3152[x3165.toNat]? with
   | some x3166 =>
    let x3167 := IntKind.i64.wrap (v3155 * x3166)
    let x3168 := (shlI .i64 v3156 (16 : Int))
    let x3169 := IntKind.i64.wrap (v3154 + v3153)
    let x3170 := (IntKind.i64.wrap (x3169 - (2 : Int)))
    bif (decide (x3170 < (0 : Int))) then
     none
    else
     bif decide (x3170.toNat < v3157.length) then
      match v3157[x3170.toNat]? with
      | some x3171 =>
       let x3172 := bitI .or .i64 x3168 x3171
       let x3173 := decide (x3172 < x3167)
       bif x3173 then
        let x3174 := (IntKind.i64.wrap (v3155 - (1 : Int)))
        let x3175 := (IntKind.i64.wrap (v3153 - (1 : Int)))
        bif (decide (x3175 < (0 : Int))) then
         none
        else
         match v3152[x3175.toNat]? with
         | some x3176 =>
          let x3177 := IntKind.i64.wrap (v3156 + x3176)
          let x3178 := (decide ((65536 : Int) ≤ x3177))
          bif x3178 then
           k0 v3151 v3152 v3153 v3154 x3174 v3157 v3158
          else
           next v3151 v3152 v3153 v3154 x3174 x3177 v3157 v3158
         | none => none
       else
        k0 v3151 v3152 v3153 v3154 v3155 v3157 v3158
      | none => none
     else
      none
   | none => none
noncomputable def impl_natDiv_L6.b {α : Type} (N n : Nat) (v3151 : Int) (v3152 : List Int) (v3153 : Int) (v3154 : Int) (v3155 : Int) (v3156 : Int) (v3157 : List Int) (v3158 : List Int) (k0 : Int → List Int → Int → Int → Int → List Int → List Int → Option α) : Option α :=
  Nat.rec (motive := fun _ => Int → List Int → Int → Int → Int → Int → List Int → List Int → Option α) (fun _ _ _ _ _ _ _ _ => none) (fun _ next => impl_natDiv_L6r N next k0) n v3151 v3152 v3153 v3154 v3155 v3156 v3157 v3158
theorem impl_natDiv_L6.ex : ∃ f : ((α : Type) → Nat → Nat → Int → List Int → Int → Int → Int → Int → List Int → List Int → (Int → List Int → Int → Int → Int → List Int → List Int → Option α) → Option α), f = fun α => @impl_natDiv_L6.b α := ⟨_, rfl⟩
noncomputable def impl_natDiv_L6 {α : Type} : Nat → Nat → Int → List Int → Int → Int → Int → Int → List Int → List Int → (Int → List Int → Int → Int → Int → List Int → List Int → Option α) → Option α := Classical.choose impl_natDiv_L6.ex α
theorem impl_natDiv_L6.eq : @impl_natDiv_L6 = @impl_natDiv_L6.b := funext fun α => congrFun (Classical.choose_spec impl_natDiv_L6.ex) α
theorem impl_natDiv_L6.zero {α : Type} (N : Nat) (v3151 : Int) (v3152 : List Int) (v3153 : Int) (v3154 : Int) (v3155 : Int) (v3156 : Int) (v3157 : List Int) (v3158 : List Int) (k0 : Int → List Int → Int → Int → Int → List Int → List Int → Option α) : impl_natDiv_L6 N 0 v3151 v3152 v3153 v3154 v3155 v3156 v3157 v3158 k0 = none := by rw [impl_natDiv_L6.eq]; rfl
theorem impl_natDiv_L6.succ {α : Type} (N n : Nat) (v3151 : Int) (v3152 : List Int) (v3153 : Int) (v3154 : Int) (v3155 : Int) (v3156 : Int) (v3157 : List Int) (v3158 : List Int) (k0 : Int → List Int → Int → Int → Int → List Int → List Int → Option α) : impl_natDiv_L6 N (n + 1) v3151 v3152 v3153 v3154 v3155 v3156 v3157 v3158 k0 = impl_natDiv_L6r N (fun y0 y1 y2 y3 y4 y5 y6 y7 => impl_natDiv_L6 N n y0 y1 y2 y3 y4 y5 y6 y7 k0) k0 v3151 v3152 v3153 v3154 v3155 v3156 v3157 v3158 := by rw [impl_natDiv_L6.eq]; rfl
noncomputable def impl_natDiv_J34.b {α : Type} (N : Nat) (v3205 : Int) (v3206 : List Int) (v3207 : Int) (v3208 : Int) (v3209 : Int) (v3210 : Int) (v3211 : Int) (v3212 : Int) (v3213 : List Int) (v3214 : Int) (v3215 : Int) (v3216 : List Int) (v3217 : List Int) (k0 : Int → List Int → Int → Int → Int → Int → Int → Int → List Int → Int → Int → List Int → List Int → Option α) : Option α :=
 let x3218 := (decide (v3212 < (0 : Int)))
 bif x3218 then
  let x3219 := IntKind.i64.wrap (0 - v3212)
  let x3220 := (IntKind.i64.wrap (x3219 + (65536 : Int)))
  let x3221 := (IntKind.i64.wrap (x3220 - (1 : Int)))
  let x3222 := (IntKind.i64.wrap (Int.tdiv x3221 (65536 : Int)))
  let x3223 := (IntKind.i64.wrap (x3222 * (65536 : Int)))
  let x3224 := IntKind.i64.wrap (v3212 + x3223)
  k0 v3205 v3206 v3207 v3208 v3209 x3222 v3211 x3224 v3213 v3214 v3215 v3216 v3217
 else
  k0 v3205 v3206 v3207 v3208 v3209 v3210 v3211 v3212 v3213 v3214 v3215 v3216 v3217
theorem impl_natDiv_J34.ex : ∃ f : ((α : Type) → Nat → Int → List Int → Int → Int → Int → Int → Int → Int → List Int → Int → Int → List Int → List Int → (Int → List Int → Int → Int → Int → Int → Int → Int → List Int → Int → Int → List Int → List Int → Option α) → Option α), f = fun α => @impl_natDiv_J34.b α := ⟨_, rfl⟩
noncomputable def impl_natDiv_J34 {α : Type} : Nat → Int → List Int → Int → Int → Int → Int → Int → Int → List Int → Int → Int → List Int → List Int → (Int → List Int → Int → Int → Int → Int → Int → Int → List Int → Int → Int → List Int → List Int → Option α) → Option α := Classical.choose impl_natDiv_J34.ex α
theorem impl_natDiv_J34.eq : @impl_natDiv_J34 = @impl_natDiv_J34.b := funext fun α => congrFun (Classical.choose_spec impl_natDiv_J34.ex) α
noncomputable def impl_natDiv_L8r {α : Type} (N : Nat) (next : Int → List Int → Int → Int → Int → Int → List Int → Int → Int → List Int → List Int → Option α) (k0 : Int → List Int → Int → Int → Int → Int → List Int → List Int → Option α) (v3187 : Int) (v3188 : List Int) (v3189 : Int) (v3190 : Int) (v3191 : Int) (v3192 : Int) (v3193 : List Int) (v3194 : Int) (v3195 : Int) (v3196 : List Int) (v3197 : List Int) : Option α :=
 let x3198 := decide (v3195 < v3194)
 bif x3198 then
  bif (decide (v3195 < (0 : Int))) then
   none
  else
   match v3193[v3195.toNat]? with
   | some x3199 =>
    let x3200 := IntKind.i64.wrap (v3190 + v3195)
    bif (decide (x3200 < (0 : Int))) then
     none
    else
     bif decide (x3200.toNat < v3196.length) then
      match v3196[x3200.toNat]? with
      | some x3201 =>
       let x3202 := IntKind.i64.wrap (x3201 - v3192)
       let x3203 := IntKind.i64.wrap (v3191 * x3199)
       let x3204 := IntKind.i64.wrap (x3202 - x3203)
       impl_natDiv_J34 N v3187 v3188 v3189 v3190 v3191 (0 : Int) v3195 x3204 v3193 v3194 v3195 v3196 v3197
        (fun x3225 x3226 x3227 x3228 x3229 x3230 x3231 x3232 x3233 x3234 x3235 x3236 x3237 =>
         let x3238 := IntKind.i64.wrap (x3228 + x3231)
         bif (decide (x3238 < (0 : Int))) then
          none
         else
          bif decide (x3238.toNat < x3236.length) then
           match x3236[x3238.toNat]? with
           | some x3239 =>
            let x3240 := x3236.set x3238.toNat x3232
            let x3241 := (IntKind.i64.wrap (x3235 + (1 : Int)))
            next x3225 x3226 x3227 x3228 x3229 x3230 x3233 x3234 x3241 x3240 x3237
           | none => none
          else
           none)
      | none => none
     else
      none
   | none => none
 else
  k0 v3187 v3188 v3189 v3190 v3191 v3192 v3196 v3197
noncomputable def impl_natDiv_L8.b {α : Type} (N n : Nat) (v3187 : Int) (v3188 : List Int) (v3189 : Int) (v3190 : Int) (v3191 : Int) (v3192 : Int) (v3193 : List Int) (v3194 : Int) (v3195 : Int) (v3196 : List Int) (v3197 : List Int) (k0 : Int → List Int → Int → Int → Int → Int → List Int → List Int → Option α) : Option α :=
  Nat.rec (motive := fun _ => Int → List Int → Int → Int → Int → Int → List Int → Int → Int → List Int → List Int → Option α) (fun _ _ _ _ _ _ _ _ _ _ _ => none) (fun _ next => impl_natDiv_L8r N next k0) n v3187 v3188 v3189 v3190 v3191 v3192 v3193 v3194 v3195 v3196 v3197
theorem impl_natDiv_L8.ex : ∃ f : ((α : Type) → Nat → Nat → Int → List Int → Int → Int → Int → Int → List Int → Int → Int → List Int → List Int → (Int → List Int → Int → Int → Int → Int → List Int → List Int → Option α) → Option α), f = fun α => @impl_natDiv_L8.b α := ⟨_, rfl⟩
noncomputable def impl_natDiv_L8 {α : Type} : Nat → Nat → Int → List Int → Int → Int → Int → Int → List Int → Int → Int → List Int → List Int → (Int → List Int → Int → Int → Int → Int → List Int → List Int → Option α) → Option α := Classical.choose impl_natDiv_L8.ex α
theorem impl_natDiv_L8.eq : @impl_natDiv_L8 = @impl_natDiv_L8.b := funext fun α => congrFun (Classical.choose_spec impl_natDiv_L8.ex) α
theorem impl_natDiv_L8.zero {α : Type} (N : Nat) (v3187 : Int) (v3188 : List Int) (v3189 : Int) (v3190 : Int) (v3191 : Int) (v3192 : Int) (v3193 : List Int) (v3194 : Int) (v3195 : Int) (v3196 : List Int) (v3197 : List Int) (k0 : Int → List Int → Int → Int → Int → Int → List Int → List Int → Option α) : impl_natDiv_L8 N 0 v3187 v3188 v3189 v3190 v3191 v3192 v3193 v3194 v3195 v3196 v3197 k0 = none := by rw [impl_natDiv_L8.eq]; rfl
theorem impl_natDiv_L8.succ {α : Type} (N n : Nat) (v3187 : Int) (v3188 : List Int) (v3189 : Int) (v3190 : Int) (v3191 : Int) (v3192 : Int) (v3193 : List Int) (v3194 : Int) (v3195 : Int) (v3196 : List Int) (v3197 : List Int) (k0 : Int → List Int → Int → Int → Int → Int → List Int → List Int → Option α) : impl_natDiv_L8 N (n + 1) v3187 v3188 v3189 v3190 v3191 v3192 v3193 v3194 v3195 v3196 v3197 k0 = impl_natDiv_L8r N (fun y0 y1 y2 y3 y4 y5 y6 y7 y8 y9 y10 => impl_natDiv_L8 N n y0 y1 y2 y3 y4 y5 y6 y7 y8 y9 y10 k0) k0 v3187 v3188 v3189 v3190 v3191 v3192 v3193 v3194 v3195 v3196 v3197 := by rw [impl_natDiv_L8.eq]; rfl
noncomputable def impl_natDiv_L10r {α : Type} (N : Nat) (next : Int → List Int → Int → Int → Int → Int → List Int → Int → Int → List Int → List Int → Option α) (k0 : Int → List Int → Int → Int → Int → Int → List Int → List Int → Option α) (v3267 : Int) (v3268 : List Int) (v3269 : Int) (v3270 : Int) (v3271 : Int) (v3272 : Int) (v3273 : List Int) (v3274 : Int) (v3275 : Int) (v3276 : List Int) (v3277 : List Int) : Option α :=
 let x3278 := decide (v3275 < v3274)
 bif x3278 then
  bif (decide (v3275 < (0 : Int))) then
   none
  else
   match v3273[v3275.toNat]? with
   | some x3279 =>
    let x3280 := IntKind.i64.wrap (v3270 + v3275)
    bif (decide (x3280 < (0 : Int))) then
     none
    else
     bif decide (x3280.toNat < v3276.length) then
      match v3276[x3280.toNat]? with
      | some x3281 =>
       let x3282 := IntKind.i64.wrap (x3281 + x3279)
       let x3283 := IntKind.i64.wrap (x3282 + v3272)
       let x3284 := IntKind.i64.wrap (v3270 + v3275)
       let x3285 := (bitI .and .i64 x3283 (65535 : Int))
       let x3286 := (shrI .i64 x3283 (16 : Int))
       bif (decide (x3284 < (0 : Int))) then
        none
       else
        bif decide (x3284.toNat < v3276.length) then
         match v3276[x3284.toNat]? with
         | some x3287 =>
          let x3288 := v3276.set x3284.toNat x3285
          let x3289 := (IntKind.i64.wrap (v3275 + (1 : Int)))
          next v3267 v3268 v3269 v3270 v3271 x3286 v3273 v3274 x3289 x3288 v3277
         | none => none
        else
         none
      | none => none
     else
      none
   | none => none
 else
  k0 v3267 v3268 v3269 v3270 v3271 v3272 v3276 v3277
noncomputable def impl_natDiv_L10.b {α : Type} (N n : Nat) (v3267 : Int) (v3268 : List Int) (v3269 : Int) (v3270 : Int) (v3271 : Int) (v3272 : Int) (v3273 : List Int) (v3274 : Int) (v3275 : Int) (v3276 : List Int) (v3277 : List Int) (k0 : Int → List Int → Int → Int → Int → Int → List Int → List Int → Option α) : Option α :=
  Nat.rec (motive := fun _ => Int → List Int → Int → Int → Int → Int → List Int → Int → Int → List Int → List Int → Option α) (fun _ _ _ _ _ _ _ _ _ _ _ => none) (fun _ next => impl_natDiv_L10r N next k0) n v3267 v3268 v3269 v3270 v3271 v3272 v3273 v3274 v3275 v3276 v3277
theorem impl_natDiv_L10.ex : ∃ f : ((α : Type) → Nat → Nat → Int → List Int → Int → Int → Int → Int → List Int → Int → Int → List Int → List Int → (Int → List Int → Int → Int → Int → Int → List Int → List Int → Option α) → Option α), f = fun α => @impl_natDiv_L10.b α := ⟨_, rfl⟩
noncomputable def impl_natDiv_L10 {α : Type} : Nat → Nat → Int → List Int → Int → Int → Int → Int → List Int → Int → Int → List Int → List Int → (Int → List Int → Int → Int → Int → Int → List Int → List Int → Option α) → Option α := Classical.choose impl_natDiv_L10.ex α
theorem impl_natDiv_L10.eq : @impl_natDiv_L10 = @impl_natDiv_L10.b := funext fun α => congrFun (Classical.choose_spec impl_natDiv_L10.ex) α
theorem impl_natDiv_L10.zero {α : Type} (N : Nat) (v3267 : Int) (v3268 : List Int) (v3269 : Int) (v3270 : Int) (v3271 : Int) (v3272 : Int) (v3273 : List Int) (v3274 : Int) (v3275 : Int) (v3276 : List Int) (v3277 : List Int) (k0 : Int → List Int → Int → Int → Int → Int → List Int → List Int → Option α) : impl_natDiv_L10 N 0 v3267 v3268 v3269 v3270 v3271 v3272 v3273 v3274 v3275 v3276 v3277 k0 = none := by rw [impl_natDiv_L10.eq]; rfl
theorem impl_natDiv_L10.succ {α : Type} (N n : Nat) (v3267 : Int) (v3268 : List Int) (v3269 : Int) (v3270 : Int) (v3271 : Int) (v3272 : Int) (v3273 : List Int) (v3274 : Int) (v3275 : Int) (v3276 : List Int) (v3277 : List Int) (k0 : Int → List Int → Int → Int → Int → Int → List Int → List Int → Option α) : impl_natDiv_L10 N (n + 1) v3267 v3268 v3269 v3270 v3271 v3272 v3273 v3274 v3275 v3276 v3277 k0 = impl_natDiv_L10r N (fun y0 y1 y2 y3 y4 y5 y6 y7 y8 y9 y10 => impl_natDiv_L10 N n y0 y1 y2 y3 y4 y5 y6 y7 y8 y9 y10 k0) k0 v3267 v3268 v3269 v3270 v3271 v3272 v3273 v3274 v3275 v3276 v3277 := by rw [impl_natDiv_L10.eq]; rfl
noncomputable def impl_natDiv_J40.b {α : Type} (N : Nat) (v3255 : Int) (v3256 : List Int) (v3257 : Int) (v3258 : Int) (v3259 : Int) (v3260 : List Int) (v3261 : List Int) (k0 : Int → List Int → Int → Int → Int → List Int → List Int → Option α) : Option α :=
 let x3262 := IntKind.i64.wrap (v3258 + v3257)
 bif (decide (x3262 < (0 : Int))) then
  none
 else
  bif decide (x3262.toNat < v3260.length) then
   match v3260[x3262.toNat]? with
   | some x3263 =>
    let x3264 := (decide (x3263 < (0 : Int)))
    bif x3264 then
     let x3265 := (IntKind.i64.wrap (v3259 - (1 : Int)))
     let x3266 := ((v3256.length : Nat) : Int)
     impl_natDiv_L10 N N v3255 v3256 v3257 v3258 x3265 (0 : Int) v3256 x3266 (0 : Int) v3260 v3261
      (fun x3290 x3291 x3292 x3293 x3294 x3295 x3296 x3297 =>
       let x3298 := IntKind.i64.wrap (x3293 + x3292)
       bif (decide (x3298 < (0 : Int))) then
        none
       else
        bif decide (x3298.toNat < x3296.length) then
         match x3296[x3298.toNat]? with
         | some x3299 =>
          let x3300 := IntKind.i64.wrap (x3299 + x3295)
          bif (decide (x3298 < (0 : Int))) then
           none
          else
           bif decide (x3298.toNat < x3296.length) then
            match x3296[x3298.toNat]? with
            | some x3301 =>
             let x3302 := x3296.set x3298.toNat x3300
             k0 x3290 x3291 x3292 x3293 x3294 x3302 x3297
            | none => none
           else
            none
         | none => none
        else
         none)
    else
     k0 v3255 v3256 v3257 v3258 v3259 v3260 v3261
   | none => none
  else
   none
theorem impl_natDiv_J40.ex : ∃ f : ((α : Type) → Nat → Int → List Int → Int → Int → Int → List Int → List Int → (Int → List Int → Int → Int → Int → List Int → List Int → Option α) → Option α), f = fun α => @impl_natDiv_J40.b α := ⟨_, rfl⟩
noncomputable def impl_natDiv_J40 {α : Type} : Nat → Int → List Int → Int → Int → Int → List Int → List Int → (Int → List Int → Int → Int → Int → List Int → List Int → Option α) → Option α := Classical.choose impl_natDiv_J40.ex α
theorem impl_natDiv_J40.eq : @impl_natDiv_J40 = @impl_natDiv_J40.b := funext fun α => congrFun (Classical.choose_spec impl_natDiv_J40.ex) α
noncomputable def impl_natDiv_L4r {α : Type} (N : Nat) (next : Int → List Int → Int → Int → List Int → List Int → Option α) (k0 : Int → List Int → List Int → Option α) (v3131 : Int) (v3132 : List Int) (v3133 : Int) (v3134 : Int) (v3135 : List Int) (v3136 : List Int) : Option α :=
 let x3137 := (decide ((0 : Int) ≤ v3134))
 bif x3137 then
  let x3138 := IntKind.i64.wrap (v3134 + v3133)
  bif (decide (x3138 < (0 : Int))) then
   none
  else
   bif decide (x3138.toNat < v3135.length) then
    match v3135[x3138.toNat]? with
    | some x3139 =>
     let x3140 := (shlI .i64 x3139 (16 : Int))
     let x3141 := IntKind.i64.wrap (v3134 + v3133)
     let x3142 := (IntKind.i64.wrap (x3141 - (1 : Int)))
     bif (decide (x3142 < (0 : Int))) then
      none
     else
      bif decide (x3142.toNat < v3135.length) then
       match v3135[x3142.toNat]? with
       | some x3143 =>
        let x3144 := bitI .or .i64 x3140 x3143
        let x3145 := (IntKind.i64.wrap (v3133 - (1 : Int)))
        bif (decide (x3145 < (0 : Int))) then
         none
        else
         match v3132[x3145.toNat]? with
         | some x3146 =>
          bif (decide (x3146 = (0 : Int))) then
           none
          else
           let x3147 := IntKind.i64.wrap (Int.tdiv x3144 x3146)
           let x3148 := (IntKind.i64.wrap (v3133 - (1 : Int)))
           bif (decide (x3148 < (0 : Int))) then
            none
           else
            match v3132[x3148.toNat]? with
            | some x3149 =>
             bif (decide (x3149 = (0 : Int))) then
              none
             else
              let x3150 := Int.tmod x3144 x3149
              impl_natDiv_L6 N N v3131 v3132 v3133 v3134 x3147 x3150 v3135 v3136
               (fun x3179 x3180 x3181 x3182 x3183 x3184 x3185 =>
                let x3186 := ((x3180.length : Nat) : Int)
                impl_natDiv_L8 N N x3179 x3180 x3181 x3182 x3183 (0 : Int) x3180 x3186 (0 : Int) x3184 x3185
                 (fun x3242 x3243 x3244 x3245 x3246 x3247 x3248 x3249 =>
                  let x3250 := IntKind.i64.wrap (x3245 + x3244)
                  bif (decide (x3250 < (0 : Int))) then
                   none
                  else
                   bif decide (x3250.toNat < x3248.length) then
                    match x3248[x3250.toNat]? with
                    | some x3251 =>
                     let x3252 := IntKind.i64.wrap (x3251 - x3247)
                     bif (decide (x3250 < (0 : Int))) then
                      none
                     else
                      bif decide (x3250.toNat < x3248.length) then
                       match x3248[x3250.toNat]? with
                       | some x3253 =>
                        let x3254 := x3248.set x3250.toNat x3252
                        impl_natDiv_J40 N x3242 x3243 x3244 x3245 x3246 x3254 x3249
                         (fun x3303 x3304 x3305 x3306 x3307 x3308 x3309 =>
                          bif (decide (x3306 < (0 : Int))) then
                           none
                          else
                           bif decide (x3306.toNat < x3309.length) then
                            match x3309[x3306.toNat]? with
                            | some x3310 =>
                             let x3311 := x3309.set x3306.toNat x3307
                             let x3312 := (IntKind.i64.wrap (x3306 - (1 : Int)))
                             next x3303 x3304 x3305 x3312 x3308 x3311
                            | none => none
                           else
                            none)
                       | none => none
                      else
                       none
                    | none => none
                   else
                    none))
            | none => none
         | none => none
       | none => none
      else
       none
    | none => none
   else
    none
 else
  k0 v3131 v3135 v3136
noncomputable def impl_natDiv_L4.b {α : Type} (N n : Nat) (v3131 : Int) (v3132 : List Int) (v3133 : Int) (v3134 : Int) (v3135 : List Int) (v3136 : List Int) (k0 : Int → List Int → List Int → Option α) : Option α :=
  Nat.rec (motive := fun _ => Int → List Int → Int → Int → List Int → List Int → Option α) (fun _ _ _ _ _ _ => none) (fun _ next => impl_natDiv_L4r N next k0) n v3131 v3132 v3133 v3134 v3135 v3136
theorem impl_natDiv_L4.ex : ∃ f : ((α : Type) → Nat → Nat → Int → List Int → Int → Int → List Int → List Int → (Int → List Int → List Int → Option α) → Option α), f = fun α => @impl_natDiv_L4.b α := ⟨_, rfl⟩
noncomputable def impl_natDiv_L4 {α : Type} : Nat → Nat → Int → List Int → Int → Int → List Int → List Int → (Int → List Int → List Int → Option α) → Option α := Classical.choose impl_natDiv_L4.ex α
theorem impl_natDiv_L4.eq : @impl_natDiv_L4 = @impl_natDiv_L4.b := funext fun α => congrFun (Classical.choose_spec impl_natDiv_L4.ex) α
theorem impl_natDiv_L4.zero {α : Type} (N : Nat) (v3131 : Int) (v3132 : List Int) (v3133 : Int) (v3134 : Int) (v3135 : List Int) (v3136 : List Int) (k0 : Int → List Int → List Int → Option α) : impl_natDiv_L4 N 0 v3131 v3132 v3133 v3134 v3135 v3136 k0 = none := by rw [impl_natDiv_L4.eq]; rfl
theorem impl_natDiv_L4.succ {α : Type} (N n : Nat) (v3131 : Int) (v3132 : List Int) (v3133 : Int) (v3134 : Int) (v3135 : List Int) (v3136 : List Int) (k0 : Int → List Int → List Int → Option α) : impl_natDiv_L4 N (n + 1) v3131 v3132 v3133 v3134 v3135 v3136 k0 = impl_natDiv_L4r N (fun y0 y1 y2 y3 y4 y5 => impl_natDiv_L4 N n y0 y1 y2 y3 y4 y5 k0) k0 v3131 v3132 v3133 v3134 v3135 v3136 := by rw [impl_natDiv_L4.eq]; rfl
/-- impl.natDiv -/
noncomputable def impl_natDiv.b {α : Type} (N : Nat) (a3013 : List Int) (a3014 : List Int) (k0 : List Int → List Int → Option α) : Option α :=
 impl_natCmp N a3013 a3014
  (fun x3041 =>
   let x3042 := (decide (x3041 < (0 : Int)))
   bif x3042 then
    k0 [] a3013
   else
    let x3043 := ((a3014.length : Nat) : Int)
    let x3044 := (decide (x3043 = (1 : Int)))
    bif x3044 then
     let x3045 := ((a3013.length : Nat) : Int)
     bif (decide ((0 : Int) ≤ x3045)) then
      bif decide (x3045 ≤ x3045) then
       bif (decide (x3045 ≤ ((8796093022208 : Nat) : Int))) then
        let x3046 := (List.replicate x3045.toNat (0 : Int))
        let x3047 := ((a3013.length : Nat) : Int)
        let x3048 := (IntKind.i64.wrap (x3047 - (1 : Int)))
        impl_natDiv_L0 N N a3013 a3014 (0 : Int) x3048 x3046
         (fun x3065 x3066 =>
          impl_trim N x3066
           (fun x3067 =>
            let x3068 := [x3065]
            impl_trim N x3068
             (fun x3069 =>
              k0 x3067 x3069)))
       else
        none
      else
       none
     else
      none
    else
     let x3070 := ((a3014.length : Nat) : Int)
     let x3071 := (IntKind.i64.wrap (x3070 - (1 : Int)))
     bif (decide (x3071 < (0 : Int))) then
      none
     else
      match a3014[x3071.toNat]? with
      | some x3072 =>
       let x3073 := IntKind.u64.wrap x3072
       math_bits_Len N x3073
        (fun x3102 =>
         let x3103 := (IntKind.i64.wrap ((16 : Int) - x3102))
         impl_natShift N a3014 x3103
          (fun x3104 =>
           impl_natShift N a3013 x3103
            (fun x3105 =>
             slices_Clone_int_int N x3105
              (fun x3106 =>
               let x3107 := [(0 : Int)]
               bif decide (x3106.length + x3107.length ≤ 8796093022208) then
                let x3108 := x3106 ++ x3107
                let x3109 := ((x3104.length : Nat) : Int)
                impl_natDiv_L2 N N a3013 x3103 x3104 x3109 x3108
                 (fun x3121 x3122 x3123 x3124 =>
                  let x3125 := ((x3124.length : Nat) : Int)
                  let x3126 := IntKind.i64.wrap (x3125 - x3123)
                  bif (decide ((0 : Int) ≤ x3126)) then
                   bif decide (x3126 ≤ x3126) then
                    bif (decide (x3126 ≤ ((8796093022208 : Nat) : Int))) then
                     let x3127 := (List.replicate x3126.toNat (0 : Int))
                     let x3128 := ((x3124.length : Nat) : Int)
                     let x3129 := IntKind.i64.wrap (x3128 - x3123)
                     let x3130 := (IntKind.i64.wrap (x3129 - (1 : Int)))
                     impl_natDiv_L4 N N x3121 x3122 x3123 x3130 x3124 x3127
                      (fun x3313 x3314 x3315 =>
                       impl_trim N x3315
                        (fun x3316 =>
                         impl_trim N x3314
                          (fun x3317 =>
                           let x3318 := IntKind.i64.wrap (0 - x3313)
                           impl_natShift N x3317 x3318
                            (fun x3319 =>
                             k0 x3316 x3319))))
                    else
                     none
                   else
                    none
                  else
                   none)
               else
                none))))
      | none => none)
theorem impl_natDiv.ex : ∃ f : ((α : Type) → Nat → List Int → List Int → (List Int → List Int → Option α) → Option α), f = fun α => @impl_natDiv.b α := ⟨_, rfl⟩
noncomputable def impl_natDiv {α : Type} : Nat → List Int → List Int → (List Int → List Int → Option α) → Option α := Classical.choose impl_natDiv.ex α
theorem impl_natDiv.eq : @impl_natDiv = @impl_natDiv.b := funext fun α => congrFun (Classical.choose_spec impl_natDiv.ex) α

noncomputable def impl_natGcd_L0r {α : Type} (N : Nat) (next : List Int → List Int → Option α) (k0 : List Int → Option α) (v2952 : List Int) (v2953 : List Int) : Option α :=
 let x2954 := ((v2953.length : Nat) : Int)
 let x2955 := (decide ((0 : Int) < x2954))
 bif x2955 then
  impl_natDiv N v2952 v2953
   (fun _ x3321 =>
    next v2953 x3321)
 else
  k0 v2952
noncomputable def impl_natGcd_L0.b {α : Type} (N n : Nat) (v2952 : List Int) (v2953 : List Int) (k0 : List Int → Option α) : Option α :=
  Nat.rec (motive := fun _ => List Int → List Int → Option α) (fun _ _ => none) (fun _ next => impl_natGcd_L0r N next k0) n v2952 v2953
theorem impl_natGcd_L0.ex : ∃ f : ((α : Type) → Nat → Nat → List Int → List Int → (List Int → Option α) → Option α), f = fun α => @impl_natGcd_L0.b α := ⟨_, rfl⟩
noncomputable def impl_natGcd_L0 {α : Type} : Nat → Nat → List Int → List Int → (List Int → Option α) → Option α := Classical.choose impl_natGcd_L0.ex α
theorem impl_natGcd_L0.eq : @impl_natGcd_L0 = @impl_natGcd_L0.b := funext fun α => congrFun (Classical.choose_spec impl_natGcd_L0.ex) α
theorem impl_natGcd_L0.zero {α : Type} (N : Nat) (v2952 : List Int) (v2953 : List Int) (k0 : List Int → Option α) : impl_natGcd_L0 N 0 v2952 v2953 k0 = none := by rw [impl_natGcd_L0.eq]; rfl
theorem impl_natGcd_L0.succ {α : Type} (N n : Nat) (v2952 : List Int) (v2953 : List Int) (k0 : List Int → Option α) : impl_natGcd_L0 N (n + 1) v2952 v2953 k0 = impl_natGcd_L0r N (fun y0 y1 => impl_natGcd_L0 N n y0 y1 k0) k0 v2952 v2953 := by rw [impl_natGcd_L0.eq]; rfl
/-- impl.natGcd -/
noncomputable def impl_natGcd.b {α : Type} (N : Nat) (a2950 : List Int) (a2951 : List Int) (k0 : List Int → Option α) : Option α :=
 impl_natGcd_L0 N N a2950 a2951
  (fun x3322 =>
   k0 x3322)
theorem impl_natGcd.ex : ∃ f : ((α : Type) → Nat → List Int → List Int → (List Int → Option α) → Option α), f = fun α => @impl_natGcd.b α := ⟨_, rfl⟩
noncomputable def impl_natGcd {α : Type} : Nat → List Int → List Int → (List Int → Option α) → Option α := Classical.choose impl_natGcd.ex α
theorem impl_natGcd.eq : @impl_natGcd = @impl_natGcd.b := funext fun α => congrFun (Classical.choose_spec impl_natGcd.ex) α

noncomputable def impl_lowest_J2.b {α : Type} (N : Nat) (v3324 : Bool) (v3325 : List Int) (v3326 : List Int) (v3327 : List Int) (v3328 : Bool) (v3329 : List Int) (v3330 : List Int) (k0 : Bool → List Int → List Int → Bool → List Int → List Int → Option α) : Option α :=
 let x3331 := [(1 : Int)]
 impl_natCmp N v3327 x3331
  (fun x3332 =>
   let x3333 := (!(decide (x3332 = (0 : Int))))
   bif x3333 then
    impl_natDiv N v3325 v3327
     (fun x3334 _ =>
      impl_natDiv N v3326 v3327
       (fun x3336 _ =>
        k0 v3324 x3334 x3336 v3328 v3329 v3330))
   else
    k0 v3324 v3325 v3326 v3328 v3329 v3330)
theorem impl_lowest_J2.ex : ∃ f : ((α : Type) → Nat → Bool → List Int → List Int → List Int → Bool → List Int → List Int → (Bool → List Int → List Int → Bool → List Int → List Int → Option α) → Option α), f = fun α => @impl_lowest_J2.b α := ⟨_, rfl⟩
noncomputable def impl_lowest_J2 {α : Type} : Nat → Bool → List Int → List Int → List Int → Bool → List Int → List Int → (Bool → List Int → List Int → Bool → List Int → List Int → Option α) → Option α := Classical.choose impl_lowest_J2.ex α
theorem impl_lowest_J2.eq : @impl_lowest_J2 = @impl_lowest_J2.b := funext fun α => congrFun (Classical.choose_spec impl_lowest_J2.ex) α
/-- impl.lowest -/
noncomputable def impl_lowest.b {α : Type} (N : Nat) (a2947 : Bool) (a2948 : List Int) (a2949 : List Int) (k0 : (Bool × (List Int) × (List Int) × Unit) → Option α) : Option α :=
 impl_natGcd N a2948 a2949
  (fun x3323 =>
   impl_lowest_J2 N a2947 a2948 a2949 x3323 false [] []
    (fun x3338 x3339 x3340 _ _ _ =>
     bif x3338 then
      let x3344 := ((x3339.length : Nat) : Int)
      let x3345 := (decide ((0 : Int) < x3344))
      k0 (x3345, (x3339, (x3340, ())))
     else
      k0 (false, (x3339, (x3340, ())))))
theorem impl_lowest.ex : ∃ f : ((α : Type) → Nat → Bool → List Int → List Int → ((Bool × (List Int) × (List Int) × Unit) → Option α) → Option α), f = fun α => @impl_lowest.b α := ⟨_, rfl⟩
noncomputable def impl_lowest {α : Type} : Nat → Bool → List Int → List Int → ((Bool × (List Int) × (List Int) × Unit) → Option α) → Option α := Classical.choose impl_lowest.ex α
theorem impl_lowest.eq : @impl_lowest = @impl_lowest.b := funext fun α => congrFun (Classical.choose_spec impl_lowest.ex) α

/-- impl.value -/
noncomputable def impl_value.b {α : Type} (N : Nat) (a2734 : Int) (a2735 : Int) (k0 : (Bool × (List Int) × (List Int) × Unit) → Option α) : Option α :=
 impl_BitPartOf N a2734 a2735
  (fun x2759 _ =>
   impl_natOf N x2759.2.1
    (fun x2771 =>
     let x2772 := (decide ((0 : Int) ≤ x2759.2.2.1))
     bif x2772 then
      impl_natShift N x2771 x2759.2.2.1
       (fun x2934 =>
        impl_whole N x2759.1 x2934
         (fun x2941 x2942 x2943 =>
          k0 (x2941, (x2942, (x2943, ())))))
     else
      let x2944 := [(1 : Int)]
      let x2945 := IntKind.i64.wrap (0 - x2759.2.2.1)
      impl_natShift N x2944 x2945
       (fun x2946 =>
        impl_lowest N x2759.1 x2771 x2946
         (fun x3346 =>
          k0 x3346))))
theorem impl_value.ex : ∃ f : ((α : Type) → Nat → Int → Int → ((Bool × (List Int) × (List Int) × Unit) → Option α) → Option α), f = fun α => @impl_value.b α := ⟨_, rfl⟩
noncomputable def impl_value {α : Type} : Nat → Int → Int → ((Bool × (List Int) × (List Int) × Unit) → Option α) → Option α := Classical.choose impl_value.ex α
theorem impl_value.eq : @impl_value = @impl_value.b := funext fun α => congrFun (Classical.choose_spec impl_value.ex) α

/-- impl.limitOf -/
noncomputable def impl_limitOf.b {α : Type} (N : Nat) (a2115 : Int) (a2116 : Int) (k0 : (Int × (Bool × (List Int) × (List Int) × Unit) × Unit) → Option α) : Option α :=
 impl_BitTop N a2115
  (fun x2117 =>
   let x2118 := decide (a2116 = x2117)
   bif x2118 then
    k0 ((1 : Int), ((false, ([], ([], ()))), ()))
   else
    let x2119 := IntKind.i64.wrap (0 - x2117)
    let x2120 := decide (a2116 = x2119)
    bif x2120 then
     k0 ((-1 : Int), ((false, ([], ([], ()))), ()))
    else
     impl_value N a2115 a2116
      (fun x3347 =>
       k0 ((0 : Int), (x3347, ()))))
theorem impl_limitOf.ex : ∃ f : ((α : Type) → Nat → Int → Int → ((Int × (Bool × (List Int) × (List Int) × Unit) × Unit) → Option α) → Option α), f = fun α => @impl_limitOf.b α := ⟨_, rfl⟩
noncomputable def impl_limitOf {α : Type} : Nat → Int → Int → ((Int × (Bool × (List Int) × (List Int) × Unit) × Unit) → Option α) → Option α := Classical.choose impl_limitOf.ex α
theorem impl_limitOf.eq : @impl_limitOf = @impl_limitOf.b := funext fun α => congrFun (Classical.choose_spec impl_limitOf.ex) α

/-- impl.natBits -/
noncomputable def impl_natBits.b {α : Type} (N : Nat) (a3363 : List Int) (k0 : Int → Option α) : Option α :=
 let x3364 := ((a3363.length : Nat) : Int)
 let x3365 := (decide (x3364 = (0 : Int)))
 bif x3365 then
  k0 (0 : Int)
 else
  let x3366 := ((a3363.length : Nat) : Int)
  let x3367 := (IntKind.i64.wrap (x3366 - (1 : Int)))
  let x3368 := (IntKind.i64.wrap ((16 : Int) * x3367))
  let x3369 := ((a3363.length : Nat) : Int)
  let x3370 := (IntKind.i64.wrap (x3369 - (1 : Int)))
  bif (decide (x3370 < (0 : Int))) then
   none
  else
   match a3363[x3370.toNat]? with
   | some x3371 =>
    let x3372 := IntKind.u64.wrap x3371
    math_bits_Len N x3372
     (fun x3373 =>
      let x3374 := IntKind.i64.wrap (x3368 + x3373)
      k0 x3374)
   | none => none
theorem impl_natBits.ex : ∃ f : ((α : Type) → Nat → List Int → (Int → Option α) → Option α), f = fun α => @impl_natBits.b α := ⟨_, rfl⟩
noncomputable def impl_natBits {α : Type} : Nat → List Int → (Int → Option α) → Option α := Classical.choose impl_natBits.ex α
theorem impl_natBits.eq : @impl_natBits = @impl_natBits.b := funext fun α => congrFun (Classical.choose_spec impl_natBits.ex) α

-- prim math_bits_TrailingZeros64
noncomputable def impl_BitMake_J14.b {α : Type} (N : Nat) (v3460 : Int) (v3461 : Int) (v3462 : Int) (v3463 : Int) (v3464 : Bool × Int × Int × Unit) (v3465 : Int × Int × Int × Int × Unit) (k0 : Int → (Bool × Int × Int × Unit) → Option α) : Option α :=
 let x3466 := (decide ((1 : Int) ≤ v3463))
 bif x3466 then
  bif (decide (v3465.1 < (0 : Int))) then
   none
  else
   let x3467 := shlI .i64 v3463 v3465.1
   let x3468 := (IntKind.i64.wrap (v3465.1 + (1 : Int)))
   let x3469 := IntKind.i64.wrap (x3468 - v3462)
   bif (decide (x3469 < (0 : Int))) then
    none
   else
    let x3470 := shlI .u64 v3460 x3469
    let x3471 := IntKind.i64.wrap x3470
    bif (decide (v3465.1 < (0 : Int))) then
     none
    else
     let x3472 := (shlI .i64 (1 : Int) v3465.1)
     let x3473 := (IntKind.i64.wrap (x3472 - (1 : Int)))
     let x3474 := bitI .and .i64 x3471 x3473
     let x3475 := bitI .or .i64 x3467 x3474
     k0 x3475 v3464
 else
  let x3476 := IntKind.i64.wrap (v3461 - v3465.2.1)
  bif (decide (x3476 < (0 : Int))) then
   none
  else
   let x3477 := shlI .u64 v3460 x3476
   let x3478 := IntKind.i64.wrap x3477
   k0 x3478 v3464
theorem impl_BitMake_J14.ex : ∃ f : ((α : Type) → Nat → Int → Int → Int → Int → (Bool × Int × Int × Unit) → (Int × Int × Int × Int × Unit) → (Int → (Bool × Int × Int × Unit) → Option α) → Option α), f = fun α => @impl_BitMake_J14.b α := ⟨_, rfl⟩
noncomputable def impl_BitMake_J14 {α : Type} : Nat → Int → Int → Int → Int → (Bool × Int × Int × Unit) → (Int × Int × Int × Int × Unit) → (Int → (Bool × Int × Int × Unit) → Option α) → Option α := Classical.choose impl_BitMake_J14.ex α
theorem impl_BitMake_J14.eq : @impl_BitMake_J14 = @impl_BitMake_J14.b := funext fun α => congrFun (Classical.choose_spec impl_BitMake_J14.ex) α
noncomputable def impl_BitMake_J17.b {α : Type} (N : Nat) (v3481 : Int) (v3482 : Bool × Int × Int × Unit) (k0 : Int → Option α) : Option α :=
 bif v3482.1 then
  let x3483 := IntKind.i64.wrap (0 - v3481)
  k0 x3483
 else
  k0 v3481
theorem impl_BitMake_J17.ex : ∃ f : ((α : Type) → Nat → Int → (Bool × Int × Int × Unit) → (Int → Option α) → Option α), f = fun α => @impl_BitMake_J17.b α := ⟨_, rfl⟩
noncomputable def impl_BitMake_J17 {α : Type} : Nat → Int → (Bool × Int × Int × Unit) → (Int → Option α) → Option α := Classical.choose impl_BitMake_J17.ex α
theorem impl_BitMake_J17.eq : @impl_BitMake_J17 = @impl_BitMake_J17.b := funext fun α => congrFun (Classical.choose_spec impl_BitMake_J17.ex) α
/-- impl.BitMake -/
noncomputable def impl_BitMake.b {α : Type} (N : Nat) (a3441 : Int) (a3442 : Bool × Int × Int × Unit) (k0 : Int → Bool → Option α) : Option α :=
 impl_formatOf N a3441
  (fun x3443 x3444 =>
   let x3445 := !x3444
   bif x3445 then
    k0 (0 : Int) false
   else
    impl_in N a3442.2.2.1 (-2000 : Int) (2000 : Int)
     (fun x3446 =>
      let x3447 := !x3446
      bif x3447 then
       k0 (0 : Int) false
      else
       let x3448 := (decide (a3442.2.1 = (0 : Int)))
       bif x3448 then
        k0 (0 : Int) true
       else
        math_bits_TrailingZeros64 N a3442.2.1
         (fun x3449 =>
          bif (decide (x3449 < (0 : Int))) then
           none
          else
           let x3450 := shrI .u64 a3442.2.1 x3449
           let x3451 := IntKind.i64.wrap (a3442.2.2.1 + x3449)
           math_bits_Len64 N x3450
            (fun x3452 =>
             let x3453 := IntKind.i64.wrap (x3451 + x3452)
             let x3454 := (IntKind.i64.wrap (x3453 - (1 : Int)))
             let x3455 := (IntKind.i64.wrap (x3443.1 + (1 : Int)))
             let x3456 := decide (x3455 < x3452)
             bif x3456 then
              k0 (0 : Int) false
             else
              let x3457 := decide (x3451 < x3443.2.1)
              bif x3457 then
               k0 (0 : Int) false
              else
               let x3458 := decide (x3443.2.2.1 < x3454)
               bif x3458 then
                k0 (0 : Int) false
               else
                let x3459 := IntKind.i64.wrap (x3454 + x3443.2.2.1)
                impl_BitMake_J14 N x3450 x3451 x3452 x3459 a3442 x3443
                 (fun x3479 x3480 =>
                  impl_BitMake_J17 N x3479 x3480
                   (fun x3484 =>
                    k0 x3484 true))))))
theorem impl_BitMake.ex : ∃ f : ((α : Type) → Nat → Int → (Bool × Int × Int × Unit) → (Int → Bool → Option α) → Option α), f = fun α => @impl_BitMake.b α := ⟨_, rfl⟩
noncomputable def impl_BitMake {α : Type} : Nat → Int → (Bool × Int × Int × Unit) → (Int → Bool → Option α) → Option α := Classical.choose impl_BitMake.ex α
theorem impl_BitMake.eq : @impl_BitMake = @impl_BitMake.b := funext fun α => congrFun (Classical.choose_spec impl_BitMake.ex) α

noncomputable def impl_truncated_J7.b {α : Type} (N : Nat) (v3380 : Int) (v3381 : Int) (v3382 : Int) (v3383 : List Int) (v3384 : List Int) (v3385 : Int × Int × Int × Int × Unit) (k0 : Int → Int → Int → List Int → List Int → (Int × Int × Int × Int × Unit) → Option α) : Option α :=
 let x3386 := (decide (v3382 < (0 : Int)))
 bif x3386 then
  let x3387 := IntKind.i64.wrap (0 - v3382)
  impl_natShift N v3383 x3387
   (fun x3388 =>
    k0 v3380 v3381 v3382 x3388 v3384 v3385)
 else
  impl_natShift N v3384 v3382
   (fun x3389 =>
    k0 v3380 v3381 v3382 v3383 x3389 v3385)
theorem impl_truncated_J7.ex : ∃ f : ((α : Type) → Nat → Int → Int → Int → List Int → List Int → (Int × Int × Int × Int × Unit) → (Int → Int → Int → List Int → List Int → (Int × Int × Int × Int × Unit) → Option α) → Option α), f = fun α => @impl_truncated_J7.b α := ⟨_, rfl⟩
noncomputable def impl_truncated_J7 {α : Type} : Nat → Int → Int → Int → List Int → List Int → (Int × Int × Int × Int × Unit) → (Int → Int → Int → List Int → List Int → (Int × Int × Int × Int × Unit) → Option α) → Option α := Classical.choose impl_truncated_J7.ex α
theorem impl_truncated_J7.eq : @impl_truncated_J7 = @impl_truncated_J7.b := funext fun α => congrFun (Classical.choose_spec impl_truncated_J7.ex) α
noncomputable def impl_truncated_J12.b {α : Type} (N : Nat) (v3400 : Int) (v3401 : Int) (v3402 : Int) (v3403 : List Int) (v3404 : Bool) (v3405 : Int × Int × Int × Int × Unit) (k0 : Int → Int → List Int → Bool → (Int × Int × Int × Int × Unit) → Option α) : Option α :=
 impl_natBits N v3403
  (fun x3406 =>
   let x3407 := decide (v3401 < x3406)
   bif x3407 then
    bif v3404 then
     match v3403[0]? with
     | some x3408 =>
      let x3409 := (bitI .and .i64 x3408 (1 : Int))
      let x3410 := (decide (x3409 = (0 : Int)))
      impl_natShift N v3403 (-1 : Int)
       (fun x3411 =>
        let x3412 := (IntKind.i64.wrap (v3402 + (1 : Int)))
        k0 v3400 x3412 x3411 x3410 v3405)
     | none => none
    else
     impl_natShift N v3403 (-1 : Int)
      (fun x3413 =>
       let x3414 := (IntKind.i64.wrap (v3402 + (1 : Int)))
       k0 v3400 x3414 x3413 false v3405)
   else
    k0 v3400 v3402 v3403 v3404 v3405)
theorem impl_truncated_J12.ex : ∃ f : ((α : Type) → Nat → Int → Int → Int → List Int → Bool → (Int × Int × Int × Int × Unit) → (Int → Int → List Int → Bool → (Int × Int × Int × Int × Unit) → Option α) → Option α), f = fun α => @impl_truncated_J12.b α := ⟨_, rfl⟩
noncomputable def impl_truncated_J12 {α : Type} : Nat → Int → Int → Int → List Int → Bool → (Int × Int × Int × Int × Unit) → (Int → Int → List Int → Bool → (Int × Int × Int × Int × Unit) → Option α) → Option α := Classical.choose impl_truncated_J12.ex α
theorem impl_truncated_J12.eq : @impl_truncated_J12 = @impl_truncated_J12.b := funext fun α => congrFun (Classical.choose_spec impl_truncated_J12.ex) α
noncomputable def impl_truncated_L0r {α : Type} (N : Nat) (next : Int → Int → Bool → Int → List Int → Int → Int → (Int × Int × Int × Int × Unit) → Option α) (k0 : Int → Int → Bool → Int → (Int × Int × Int × Int × Unit) → Option α) (v3421 : Int) (v3422 : Int) (v3423 : Bool) (v3424 : Int) (v3425 : List Int) (v3426 : Int) (v3427 : Int) (v3428 : Int × Int × Int × Int × Unit) : Option α :=
 let x3429 := decide (v3427 < v3426)
 bif x3429 then
  bif (decide (v3427 < (0 : Int))) then
   none
  else
   match v3425[v3427.toNat]? with
   | some x3430 =>
    let x3431 := IntKind.u64.wrap x3430
    let x3432 := (IntKind.i64.wrap ((16 : Int) * v3427))
    bif (decide (x3432 < (0 : Int))) then
     none
    else
     let x3433 := shlI .u64 x3431 x3432
     let x3434 := bitI .or .u64 v3424 x3433
     let x3435 := (IntKind.i64.wrap (v3427 + (1 : Int)))
     next v3421 v3422 v3423 x3434 v3425 v3426 x3435 v3428
   | none => none
 else
  k0 v3421 v3422 v3423 v3424 v3428
noncomputable def impl_truncated_L0.b {α : Type} (N n : Nat) (v3421 : Int) (v3422 : Int) (v3423 : Bool) (v3424 : Int) (v3425 : List Int) (v3426 : Int) (v3427 : Int) (v3428 : Int × Int × Int × Int × Unit) (k0 : Int → Int → Bool → Int → (Int × Int × Int × Int × Unit) → Option α) : Option α :=
  Nat.rec (motive := fun _ => Int → Int → Bool → Int → List Int → Int → Int → (Int × Int × Int × Int × Unit) → Option α) (fun _ _ _ _ _ _ _ _ => none) (fun _ next => impl_truncated_L0r N next k0) n v3421 v3422 v3423 v3424 v3425 v3426 v3427 v3428
theorem impl_truncated_L0.ex : ∃ f : ((α : Type) → Nat → Nat → Int → Int → Bool → Int → List Int → Int → Int → (Int × Int × Int × Int × Unit) → (Int → Int → Bool → Int → (Int × Int × Int × Int × Unit) → Option α) → Option α), f = fun α => @impl_truncated_L0.b α := ⟨_, rfl⟩
noncomputable def impl_truncated_L0 {α : Type} : Nat → Nat → Int → Int → Bool → Int → List Int → Int → Int → (Int × Int × Int × Int × Unit) → (Int → Int → Bool → Int → (Int × Int × Int × Int × Unit) → Option α) → Option α := Classical.choose impl_truncated_L0.ex α
theorem impl_truncated_L0.eq : @impl_truncated_L0 = @impl_truncated_L0.b := funext fun α => congrFun (Classical.choose_spec impl_truncated_L0.ex) α
theorem impl_truncated_L0.zero {α : Type} (N : Nat) (v3421 : Int) (v3422 : Int) (v3423 : Bool) (v3424 : Int) (v3425 : List Int) (v3426 : Int) (v3427 : Int) (v3428 : Int × Int × Int × Int × Unit) (k0 : Int → Int → Bool → Int → (Int × Int × Int × Int × Unit) → Option α) : impl_truncated_L0 N 0 v3421 v3422 v3423 v3424 v3425 v3426 v3427 v3428 k0 = none := by rw [impl_truncated_L0.eq]; rfl
theorem impl_truncated_L0.succ {α : Type} (N n : Nat) (v3421 : Int) (v3422 : Int) (v3423 : Bool) (v3424 : Int) (v3425 : List Int) (v3426 : Int) (v3427 : Int) (v3428 : Int × Int × Int × Int × Unit) (k0 : Int → Int → Bool → Int → (Int × Int × Int × Int × Unit) → Option α) : impl_truncated_L0 N (n + 1) v3421 v3422 v3423 v3424 v3425 v3426 v3427 v3428 k0 = impl_truncated_L0r N (fun y0 y1 y2 y3 y4 y5 y6 y7 => impl_truncated_L0 N n y0 y1 y2 y3 y4 y5 y6 y7 k0) k0 v3421 v3422 v3423 v3424 v3425 v3426 v3427 v3428 := by rw [impl_truncated_L0.eq]; rfl
/-- impl.truncated -/
noncomputable def impl_truncated.b {α : Type} (N : Nat) (a3356 : Int) (a3357 : Bool × (List Int) × (List Int) × Unit) (k0 : Int → Bool → Option α) : Option α :=
 impl_formatOf N a3356
  (fun x3358 _ =>
   let x3360 := ((a3357.2.1.length : Nat) : Int)
   let x3361 := (decide (x3360 = (0 : Int)))
   bif x3361 then
    k0 (0 : Int) true
   else
    let x3362 := (IntKind.i64.wrap (x3358.1 + (1 : Int)))
    impl_natBits N a3357.2.1
     (fun x3375 =>
      impl_natBits N a3357.2.2.1
       (fun x3376 =>
        let x3377 := IntKind.i64.wrap (x3375 - x3376)
        let x3378 := IntKind.i64.wrap (x3377 - x3362)
        let x3379 := maxI x3358.2.1 x3378
        impl_truncated_J7 N a3356 x3362 x3379 a3357.2.1 a3357.2.2.1 x3358
         (fun x3390 x3391 x3392 x3393 x3394 x3395 =>
          impl_natDiv N x3393 x3394
           (fun x3396 x3397 =>
            let x3398 := ((x3397.length : Nat) : Int)
            let x3399 := (decide (x3398 = (0 : Int)))
            impl_truncated_J12 N x3390 x3391 x3392 x3396 x3399 x3395
             (fun x3415 x3416 x3417 x3418 x3419 =>
              let x3420 := ((x3417.length : Nat) : Int)
              impl_truncated_L0 N N x3415 x3416 x3418 (0 : Int) x3417 x3420 (0 : Int) x3419
               (fun x3436 x3437 x3438 x3439 x3440 =>
                impl_BitMake N x3436 (false, (x3439, (x3437, ())))
                 (fun x3485 x3486 =>
                  let x3487 := !x3486
                  bif x3487 then
                   let x3488 := (IntKind.i64.wrap (x3440.2.2.2.1 - (1 : Int)))
                   k0 x3488 false
                  else
                   k0 x3485 x3438))))))))
theorem impl_truncated.ex : ∃ f : ((α : Type) → Nat → Int → (Bool × (List Int) × (List Int) × Unit) → (Int → Bool → Option α) → Option α), f = fun α => @impl_truncated.b α := ⟨_, rfl⟩
noncomputable def impl_truncated {α : Type} : Nat → Int → (Bool × (List Int) × (List Int) × Unit) → (Int → Bool → Option α) → Option α := Classical.choose impl_truncated.ex α
theorem impl_truncated.eq : @impl_truncated = @impl_truncated.b := funext fun α => congrFun (Classical.choose_spec impl_truncated.ex) α

noncomputable def impl_around_J3.b {α : Type} (N : Nat) (v3491 : Int) (v3492 : Bool) (v3493 : Int) (v3494 : Bool × (List Int) × (List Int) × Unit) (k0 : Int → Int → (Bool × (List Int) × (List Int) × Unit) → Option α) : Option α :=
 let x3495 := !v3492
 bif x3495 then
  let x3496 := (IntKind.i64.wrap (v3493 + (1 : Int)))
  k0 v3491 x3496 v3494
 else
  k0 v3491 v3493 v3494
theorem impl_around_J3.ex : ∃ f : ((α : Type) → Nat → Int → Bool → Int → (Bool × (List Int) × (List Int) × Unit) → (Int → Int → (Bool × (List Int) × (List Int) × Unit) → Option α) → Option α), f = fun α => @impl_around_J3.b α := ⟨_, rfl⟩
noncomputable def impl_around_J3 {α : Type} : Nat → Int → Bool → Int → (Bool × (List Int) × (List Int) × Unit) → (Int → Int → (Bool × (List Int) × (List Int) × Unit) → Option α) → Option α := Classical.choose impl_around_J3.ex α
theorem impl_around_J3.eq : @impl_around_J3 = @impl_around_J3.b := funext fun α => congrFun (Classical.choose_spec impl_around_J3.ex) α
/-- impl.around -/
noncomputable def impl_around.b {α : Type} (N : Nat) (a3354 : Int) (a3355 : Bool × (List Int) × (List Int) × Unit) (k0 : Int → Int → Option α) : Option α :=
 impl_truncated N a3354 a3355
  (fun x3489 x3490 =>
   impl_around_J3 N x3489 x3490 x3489 a3355
    (fun x3497 x3498 x3499 =>
     bif x3499.1 then
      let x3500 := IntKind.i64.wrap (0 - x3498)
      let x3501 := IntKind.i64.wrap (0 - x3497)
      k0 x3500 x3501
     else
      k0 x3497 x3498))
theorem impl_around.ex : ∃ f : ((α : Type) → Nat → Int → (Bool × (List Int) × (List Int) × Unit) → (Int → Int → Option α) → Option α), f = fun α => @impl_around.b α := ⟨_, rfl⟩
noncomputable def impl_around {α : Type} : Nat → Int → (Bool × (List Int) × (List Int) × Unit) → (Int → Int → Option α) → Option α := Classical.choose impl_around.ex α
theorem impl_around.eq : @impl_around = @impl_around.b := funext fun α => congrFun (Classical.choose_spec impl_around.ex) α

noncomputable def impl_natMul_L2r {α : Type} (N : Nat) (next : List Int → Int → Int → Int → List Int → Int → Int → List Int → Int → Int → List Int → Option α) (k0 : List Int → Int → Int → List Int → Int → Int → List Int → Option α) (v3610 : List Int) (v3611 : Int) (v3612 : Int) (v3613 : Int) (v3614 : List Int) (v3615 : Int) (v3616 : Int) (v3617 : List Int) (v3618 : Int) (v3619 : Int) (v3620 : List Int) : Option α :=
 let x3621 := decide (v3619 < v3618)
 bif x3621 then
  bif (decide (v3619 < (0 : Int))) then
   none
  else
   match v3617[v3619.toNat]? with
   | some x3622 =>
    let x3623 := IntKind.i64.wrap (v3611 + v3619)
    bif (decide (x3623 < (0 : Int))) then
     none
    else
     bif decide (x3623.toNat < v3620.length) then
      match v3620[x3623.toNat]? with
      | some x3624 =>
       let x3625 := IntKind.i64.wrap (v3612 * x3622)
       let x3626 := IntKind.i64.wrap (x3624 + x3625)
       let x3627 := IntKind.i64.wrap (x3626 + v3613)
       let x3628 := IntKind.i64.wrap (v3611 + v3619)
       let x3629 := (bitI .and .i64 x3627 (65535 : Int))
       bif (decide (x3628 < (0 : Int))) then
        none
       else
        bif decide (x3628.toNat < v3620.length) then
         match v3620[x3628.toNat]? with
         | some x3630 =>
          let x3631 := v3620.set x3628.toNat x3629
          let x3632 := (shrI .i64 x3627 (16 : Int))
          let x3633 := (IntKind.i64.wrap (v3619 + (1 : Int)))
          next v3610 v3611 v3612 x3632 v3614 v3615 v3616 v3617 v3618 x3633 x3631
         | none => none
        else
         none
      | none => none
     else
      none
   | none => none
 else
  k0 v3610 v3611 v3613 v3614 v3615 v3616 v3620
noncomputable def impl_natMul_L2.b {α : Type} (N n : Nat) (v3610 : List Int) (v3611 : Int) (v3612 : Int) (v3613 : Int) (v3614 : List Int) (v3615 : Int) (v3616 : Int) (v3617 : List Int) (v3618 : Int) (v3619 : Int) (v3620 : List Int) (k0 : List Int → Int → Int → List Int → Int → Int → List Int → Option α) : Option α :=
  Nat.rec (motive := fun _ => List Int → Int → Int → Int → List Int → Int → Int → List Int → Int → Int → List Int → Option α) (fun _ _ _ _ _ _ _ _ _ _ _ => none) (fun _ next => impl_natMul_L2r N next k0) n v3610 v3611 v3612 v3613 v3614 v3615 v3616 v3617 v3618 v3619 v3620
theorem impl_natMul_L2.ex : ∃ f : ((α : Type) → Nat → Nat → List Int → Int → Int → Int → List Int → Int → Int → List Int → Int → Int → List Int → (List Int → Int → Int → List Int → Int → Int → List Int → Option α) → Option α), f = fun α => @impl_natMul_L2.b α := ⟨_, rfl⟩
noncomputable def impl_natMul_L2 {α : Type} : Nat → Nat → List Int → Int → Int → Int → List Int → Int → Int → List Int → Int → Int → List Int → (List Int → Int → Int → List Int → Int → Int → List Int → Option α) → Option α := Classical.choose impl_natMul_L2.ex α
theorem impl_natMul_L2.eq : @impl_natMul_L2 = @impl_natMul_L2.b := funext fun α => congrFun (Classical.choose_spec impl_natMul_L2.ex) α
theorem impl_natMul_L2.zero {α : Type} (N : Nat) (v3610 : List Int) (v3611 : Int) (v3612 : Int) (v3613 : Int) (v3614 : List Int) (v3615 : Int) (v3616 : Int) (v3617 : List Int) (v3618 : Int) (v3619 : Int) (v3620 : List Int) (k0 : List Int → Int → Int → List Int → Int → Int → List Int → Option α) : impl_natMul_L2 N 0 v3610 v3611 v3612 v3613 v3614 v3615 v3616 v3617 v3618 v3619 v3620 k0 = none := by rw [impl_natMul_L2.eq]; rfl
theorem impl_natMul_L2.succ {α : Type} (N n : Nat) (v3610 : List Int) (v3611 : Int) (v3612 : Int) (v3613 : Int) (v3614 : List Int) (v3615 : Int) (v3616 : Int) (v3617 : List Int) (v3618 : Int) (v3619 : Int) (v3620 : List Int) (k0 : List Int → Int → Int → List Int → Int → Int → List Int → Option α) : impl_natMul_L2 N (n + 1) v3610 v3611 v3612 v3613 v3614 v3615 v3616 v3617 v3618 v3619 v3620 k0 = impl_natMul_L2r N (fun y0 y1 y2 y3 y4 y5 y6 y7 y8 y9 y10 => impl_natMul_L2 N n y0 y1 y2 y3 y4 y5 y6 y7 y8 y9 y10 k0) k0 v3610 v3611 v3612 v3613 v3614 v3615 v3616 v3617 v3618 v3619 v3620 := by rw [impl_natMul_L2.eq]; rfl
noncomputable def impl_natMul_L0r {α : Type} (N : Nat) (next : List Int → List Int → Int → Int → List Int → Option α) (k0 : List Int → Option α) (v3602 : List Int) (v3603 : List Int) (v3604 : Int) (v3605 : Int) (v3606 : List Int) : Option α :=
 let x3607 := decide (v3605 < v3604)
 bif x3607 then
  bif (decide (v3605 < (0 : Int))) then
   none
  else
   match v3603[v3605.toNat]? with
   | some x3608 =>
    let x3609 := ((v3602.length : Nat) : Int)
    impl_natMul_L2 N N v3602 v3605 x3608 (0 : Int) v3603 v3604 v3605 v3602 x3609 (0 : Int) v3606
     (fun x3634 x3635 x3636 x3637 x3638 x3639 x3640 =>
      let x3641 := ((x3634.length : Nat) : Int)
      let x3642 := IntKind.i64.wrap (x3635 + x3641)
      bif (decide (x3642 < (0 : Int))) then
       none
      else
       bif decide (x3642.toNat < x3640.length) then
        match x3640[x3642.toNat]? with
        | some x3643 =>
         let x3644 := IntKind.i64.wrap (x3643 + x3636)
         bif (decide (x3642 < (0 : Int))) then
          none
         else
          bif decide (x3642.toNat < x3640.length) then
           match x3640[x3642.toNat]? with
           | some x3645 =>
            let x3646 := x3640.set x3642.toNat x3644
            let x3647 := (IntKind.i64.wrap (x3639 + (1 : Int)))
            next x3634 x3637 x3638 x3647 x3646
           | none => none
          else
           none
        | none => none
       else
        none)
   | none => none
 else
  k0 v3606
noncomputable def impl_natMul_L0.b {α : Type} (N n : Nat) (v3602 : List Int) (v3603 : List Int) (v3604 : Int) (v3605 : Int) (v3606 : List Int) (k0 : List Int → Option α) : Option α :=
  Nat.rec (motive := fun _ => List Int → List Int → Int → Int → List Int → Option α) (fun _ _ _ _ _ => none) (fun _ next => impl_natMul_L0r N next k0) n v3602 v3603 v3604 v3605 v3606
theorem impl_natMul_L0.ex : ∃ f : ((α : Type) → Nat → Nat → List Int → List Int → Int → Int → List Int → (List Int → Option α) → Option α), f = fun α => @impl_natMul_L0.b α := ⟨_, rfl⟩
noncomputable def impl_natMul_L0 {α : Type} : Nat → Nat → List Int → List Int → Int → Int → List Int → (List Int → Option α) → Option α := Classical.choose impl_natMul_L0.ex α
theorem impl_natMul_L0.eq : @impl_natMul_L0 = @impl_natMul_L0.b := funext fun α => congrFun (Classical.choose_spec impl_natMul_L0.ex) α
theorem impl_natMul_L0.zero {α : Type} (N : Nat) (v3602 : List Int) (v3603 : List Int) (v3604 : Int) (v3605 : Int) (v3606 : List Int) (k0 : List Int → Option α) : impl_natMul_L0 N 0 v3602 v3603 v3604 v3605 v3606 k0 = none := by rw [impl_natMul_L0.eq]; rfl
theorem impl_natMul_L0.succ {α : Type} (N n : Nat) (v3602 : List Int) (v3603 : List Int) (v3604 : Int) (v3605 : Int) (v3606 : List Int) (k0 : List Int → Option α) : impl_natMul_L0 N (n + 1) v3602 v3603 v3604 v3605 v3606 k0 = impl_natMul_L0r N (fun y0 y1 y2 y3 y4 => impl_natMul_L0 N n y0 y1 y2 y3 y4 k0) k0 v3602 v3603 v3604 v3605 v3606 := by rw [impl_natMul_L0.eq]; rfl
/-- impl.natMul -/
noncomputable def impl_natMul.b {α : Type} (N : Nat) (a3594 : List Int) (a3595 : List Int) (k0 : List Int → Option α) : Option α :=
 let x3596 := ((a3594.length : Nat) : Int)
 let x3597 := ((a3595.length : Nat) : Int)
 let x3598 := IntKind.i64.wrap (x3596 + x3597)
 let x3599 := (IntKind.i64.wrap (x3598 + (1 : Int)))
 bif (decide ((0 : Int) ≤ x3599)) then
  bif decide (x3599 ≤ x3599) then
   bif (decide (x3599 ≤ ((8796093022208 : Nat) : Int))) then
    let x3600 := (List.replicate x3599.toNat (0 : Int))
    let x3601 := ((a3594.length : Nat) : Int)
    impl_natMul_L0 N N a3595 a3594 x3601 (0 : Int) x3600
     (fun x3648 =>
      impl_trim N x3648
       (fun x3649 =>
        k0 x3649))
   else
    none
  else
   none
 else
  none
theorem impl_natMul.ex : ∃ f : ((α : Type) → Nat → List Int → List Int → (List Int → Option α) → Option α), f = fun α => @impl_natMul.b α := ⟨_, rfl⟩
noncomputable def impl_natMul {α : Type} : Nat → List Int → List Int → (List Int → Option α) → Option α := Classical.choose impl_natMul.ex α
theorem impl_natMul.eq : @impl_natMul = @impl_natMul.b := funext fun α => congrFun (Classical.choose_spec impl_natMul.ex) α

noncomputable def impl_natPow_L0r {α : Type} (N : Nat) (next : List Int → List Int → Int → Int → Option α) (k0 : List Int → Option α) (v3589 : List Int) (v3590 : List Int) (v3591 : Int) (v3592 : Int) : Option α :=
 let x3593 := decide (v3592 < v3591)
 bif x3593 then
  impl_natMul N v3590 v3589
   (fun x3650 =>
    let x3651 := ((x3650.length : Nat) : Int)
    let x3652 := (decide ((1024 : Int) < x3651))
    bif x3652 then
     k0 x3650
    else
     let x3653 := (IntKind.i64.wrap (v3592 + (1 : Int)))
     next v3589 x3650 v3591 x3653)
 else
  k0 v3590
noncomputable def impl_natPow_L0.b {α : Type} (N n : Nat) (v3589 : List Int) (v3590 : List Int) (v3591 : Int) (v3592 : Int) (k0 : List Int → Option α) : Option α :=
  Nat.rec (motive := fun _ => List Int → List Int → Int → Int → Option α) (fun _ _ _ _ => none) (fun _ next => impl_natPow_L0r N next k0) n v3589 v3590 v3591 v3592
theorem impl_natPow_L0.ex : ∃ f : ((α : Type) → Nat → Nat → List Int → List Int → Int → Int → (List Int → Option α) → Option α), f = fun α => @impl_natPow_L0.b α := ⟨_, rfl⟩
noncomputable def impl_natPow_L0 {α : Type} : Nat → Nat → List Int → List Int → Int → Int → (List Int → Option α) → Option α := Classical.choose impl_natPow_L0.ex α
theorem impl_natPow_L0.eq : @impl_natPow_L0 = @impl_natPow_L0.b := funext fun α => congrFun (Classical.choose_spec impl_natPow_L0.ex) α
theorem impl_natPow_L0.zero {α : Type} (N : Nat) (v3589 : List Int) (v3590 : List Int) (v3591 : Int) (v3592 : Int) (k0 : List Int → Option α) : impl_natPow_L0 N 0 v3589 v3590 v3591 v3592 k0 = none := by rw [impl_natPow_L0.eq]; rfl
theorem impl_natPow_L0.succ {α : Type} (N n : Nat) (v3589 : List Int) (v3590 : List Int) (v3591 : Int) (v3592 : Int) (k0 : List Int → Option α) : impl_natPow_L0 N (n + 1) v3589 v3590 v3591 v3592 k0 = impl_natPow_L0r N (fun y0 y1 y2 y3 => impl_natPow_L0 N n y0 y1 y2 y3 k0) k0 v3589 v3590 v3591 v3592 := by rw [impl_natPow_L0.eq]; rfl
/-- impl.natPow -/
noncomputable def impl_natPow.b {α : Type} (N : Nat) (a3586 : List Int) (a3587 : Int) (k0 : List Int → Option α) : Option α :=
 let x3588 := [(1 : Int)]
 impl_natPow_L0 N N a3586 x3588 a3587 (0 : Int)
  (fun x3654 =>
   k0 x3654)
theorem impl_natPow.ex : ∃ f : ((α : Type) → Nat → List Int → Int → (List Int → Option α) → Option α), f = fun α => @impl_natPow.b α := ⟨_, rfl⟩
noncomputable def impl_natPow {α : Type} : Nat → List Int → Int → (List Int → Option α) → Option α := Classical.choose impl_natPow.ex α
theorem impl_natPow.eq : @impl_natPow = @impl_natPow.b := funext fun α => congrFun (Classical.choose_spec impl_natPow.ex) α

/-- (impl.Frac).pow -/
noncomputable def impl_Frac_pow.b {α : Type} (N : Nat) (a3514 : Bool × (List Int) × (List Int) × Unit) (a3515 : Int) (k0 : (Bool × (List Int) × (List Int) × Unit) → Option α) : Option α :=
 bif a3514.1 then
  let x3516 := (Int.tmod a3515 (2 : Int))
  let x3517 := (decide (x3516 = (1 : Int)))
  impl_natPow N a3514.2.1 a3515
   (fun x3655 =>
    impl_natPow N a3514.2.2.1 a3515
     (fun x3656 =>
      k0 (x3517, (x3655, (x3656, ())))))
 else
  impl_natPow N a3514.2.1 a3515
   (fun x3657 =>
    impl_natPow N a3514.2.2.1 a3515
     (fun x3658 =>
      k0 (false, (x3657, (x3658, ())))))
theorem impl_Frac_pow.ex : ∃ f : ((α : Type) → Nat → (Bool × (List Int) × (List Int) × Unit) → Int → ((Bool × (List Int) × (List Int) × Unit) → Option α) → Option α), f = fun α => @impl_Frac_pow.b α := ⟨_, rfl⟩
noncomputable def impl_Frac_pow {α : Type} : Nat → (Bool × (List Int) × (List Int) × Unit) → Int → ((Bool × (List Int) × (List Int) × Unit) → Option α) → Option α := Classical.choose impl_Frac_pow.ex α
theorem impl_Frac_pow.eq : @impl_Frac_pow = @impl_Frac_pow.b := funext fun α => congrFun (Classical.choose_spec impl_Frac_pow.ex) α

/-- (impl.limit).floats -/
noncomputable def impl_limit_floats.b {α : Type} (N : Nat) (a3666 : Int × (Bool × (List Int) × (List Int) × Unit) × Unit) (a3667 : Int) (k0 : Int → Int → Option α) : Option α :=
 let x3668 := (!(decide (a3666.1 = (0 : Int))))
 bif x3668 then
  impl_BitTop N a3667
   (fun x3669 =>
    let x3670 := IntKind.i64.wrap (a3666.1 * x3669)
    impl_BitTop N a3667
     (fun x3671 =>
      let x3672 := IntKind.i64.wrap (a3666.1 * x3671)
      k0 x3670 x3672))
 else
  impl_around N a3667 a3666.2.1
   (fun x3673 x3674 =>
    k0 x3673 x3674)
theorem impl_limit_floats.ex : ∃ f : ((α : Type) → Nat → (Int × (Bool × (List Int) × (List Int) × Unit) × Unit) → Int → (Int → Int → Option α) → Option α), f = fun α => @impl_limit_floats.b α := ⟨_, rfl⟩
noncomputable def impl_limit_floats {α : Type} : Nat → (Int × (Bool × (List Int) × (List Int) × Unit) × Unit) → Int → (Int → Int → Option α) → Option α := Classical.choose impl_limit_floats.ex α
theorem impl_limit_floats.eq : @impl_limit_floats = @impl_limit_floats.b := funext fun α => congrFun (Classical.choose_spec impl_limit_floats.ex) α

noncomputable def impl_power_J6.b {α : Type} (N : Nat) (v3510 : Int) (v3511 : Int) (v3512 : Int × (Bool × (List Int) × (List Int) × Unit) × Unit) (k0 : Int → (Int × (Bool × (List Int) × (List Int) × Unit) × Unit) → Option α) : Option α :=
 let x3513 := (decide (v3512.1 = (0 : Int)))
 bif x3513 then
  impl_Frac_pow N v3512.2.1 v3511
   (fun x3659 =>
    k0 v3510 (v3512.1, (x3659, ())))
 else
  k0 v3510 v3512
theorem impl_power_J6.ex : ∃ f : ((α : Type) → Nat → Int → Int → (Int × (Bool × (List Int) × (List Int) × Unit) × Unit) → (Int → (Int × (Bool × (List Int) × (List Int) × Unit) × Unit) → Option α) → Option α), f = fun α => @impl_power_J6.b α := ⟨_, rfl⟩
noncomputable def impl_power_J6 {α : Type} : Nat → Int → Int → (Int × (Bool × (List Int) × (List Int) × Unit) × Unit) → (Int → (Int × (Bool × (List Int) × (List Int) × Unit) × Unit) → Option α) → Option α := Classical.choose impl_power_J6.ex α
theorem impl_power_J6.eq : @impl_power_J6 = @impl_power_J6.b := funext fun α => congrFun (Classical.choose_spec impl_power_J6.ex) α
noncomputable def impl_power_J4.b {α : Type} (N : Nat) (v3504 : Int) (v3505 : Int) (v3506 : Int × (Bool × (List Int) × (List Int) × Unit) × Unit) (k0 : Int → (Int × (Bool × (List Int) × (List Int) × Unit) × Unit) → Option α) : Option α :=
 let x3507 := (decide (v3506.1 < (0 : Int)))
 bif x3507 then
  let x3508 := (Int.tmod v3505 (2 : Int))
  let x3509 := (decide (x3508 = (0 : Int)))
  bif x3509 then
   k0 v3504 ((1 : Int), (v3506.2.1, ()))
  else
   impl_power_J6 N v3504 v3505 v3506
    (fun x3660 x3661 =>
     k0 x3660 x3661)
 else
  impl_power_J6 N v3504 v3505 v3506
   (fun x3662 x3663 =>
    k0 x3662 x3663)
theorem impl_power_J4.ex : ∃ f : ((α : Type) → Nat → Int → Int → (Int × (Bool × (List Int) × (List Int) × Unit) × Unit) → (Int → (Int × (Bool × (List Int) × (List Int) × Unit) × Unit) → Option α) → Option α), f = fun α => @impl_power_J4.b α := ⟨_, rfl⟩
noncomputable def impl_power_J4 {α : Type} : Nat → Int → Int → (Int × (Bool × (List Int) × (List Int) × Unit) × Unit) → (Int → (Int × (Bool × (List Int) × (List Int) × Unit) × Unit) → Option α) → Option α := Classical.choose impl_power_J4.ex α
theorem impl_power_J4.eq : @impl_power_J4 = @impl_power_J4.b := funext fun α => congrFun (Classical.choose_spec impl_power_J4.ex) α
/-- impl.power -/
noncomputable def impl_power.b {α : Type} (N : Nat) (a879 : Int) (a880 : Int) (a881 : Int) (k0 : Int → Int → Option α) : Option α :=
 impl_limitOf N a879 a880
  (fun x3348 =>
   let x3349 := (decide (a881 = (0 : Int)))
   bif x3349 then
    let x3350 := [(1 : Int)]
    impl_whole N false x3350
     (fun x3351 x3352 x3353 =>
      impl_around N a879 (x3351, (x3352, (x3353, ())))
       (fun x3502 x3503 =>
        k0 x3502 x3503))
   else
    impl_power_J4 N a879 a881 x3348
     (fun x3664 x3665 =>
      impl_limit_floats N x3665 x3664
       (fun x3675 x3676 =>
        k0 x3675 x3676)))
theorem impl_power.ex : ∃ f : ((α : Type) → Nat → Int → Int → Int → (Int → Int → Option α) → Option α), f = fun α => @impl_power.b α := ⟨_, rfl⟩
noncomputable def impl_power {α : Type} : Nat → Int → Int → Int → (Int → Int → Option α) → Option α := Classical.choose impl_power.ex α
theorem impl_power.eq : @impl_power = @impl_power.b := funext fun α => congrFun (Classical.choose_spec impl_power.ex) α

noncomputable def impl_SpanPow_J3.b {α : Type} (N : Nat) (v852 : Int) (v853 : Int) (v854 : Bool × Int × Int × Unit) (v855 : Bool × Int × Int × Unit) (k0 : Int → Int → (Bool × Int × Int × Unit) → (Bool × Int × Int × Unit) → Option α) : Option α :=
 let x856 := (Int.tmod v853 (2 : Int))
 let x857 := (decide (x856 = (0 : Int)))
 bif x857 then
  impl_SpanAbs N v852 v854
   (fun x874 =>
    k0 v852 v853 x874 v855)
 else
  k0 v852 v853 v854 v855
theorem impl_SpanPow_J3.ex : ∃ f : ((α : Type) → Nat → Int → Int → (Bool × Int × Int × Unit) → (Bool × Int × Int × Unit) → (Int → Int → (Bool × Int × Int × Unit) → (Bool × Int × Int × Unit) → Option α) → Option α), f = fun α => @impl_SpanPow_J3.b α := ⟨_, rfl⟩
noncomputable def impl_SpanPow_J3 {α : Type} : Nat → Int → Int → (Bool × Int × Int × Unit) → (Bool × Int × Int × Unit) → (Int → Int → (Bool × Int × Int × Unit) → (Bool × Int × Int × Unit) → Option α) → Option α := Classical.choose impl_SpanPow_J3.ex α
theorem impl_SpanPow_J3.eq : @impl_SpanPow_J3 = @impl_SpanPow_J3.b := funext fun α => congrFun (Classical.choose_spec impl_SpanPow_J3.ex) α
/-- impl.SpanPow -/
noncomputable def impl_SpanPow.b {α : Type} (N : Nat) (a797 : Int) (a798 : Bool × Int × Int × Unit) (a799 : Int) (k0 : (Bool × Int × Int × Unit) → Option α) : Option α :=
 let x800 := [a798]
 impl_full N a797 x800
  (fun x848 =>
   let x849 := !x848
   bif x849 then
    k0 (false, ((0 : Int), ((0 : Int), ())))
   else
    impl_in N a799 (0 : Int) (8 : Int)
     (fun x850 =>
      let x851 := !x850
      bif x851 then
       k0 (false, ((0 : Int), ((0 : Int), ())))
      else
       impl_SpanPow_J3 N a797 a799 a798 (false, ((0 : Int), ((0 : Int), ())))
        (fun x875 x876 x877 _ =>
         impl_power N x875 x877.2.1 x876
          (fun x3677 _ =>
           impl_power N x875 x877.2.2.1 x876
            (fun _ x3680 =>
             impl_some N x3677 x3680
              (fun x3681 =>
               k0 x3681))))))
theorem impl_SpanPow.ex : ∃ f : ((α : Type) → Nat → Int → (Bool × Int × Int × Unit) → Int → ((Bool × Int × Int × Unit) → Option α) → Option α), f = fun α => @impl_SpanPow.b α := ⟨_, rfl⟩
noncomputable def impl_SpanPow {α : Type} : Nat → Int → (Bool × Int × Int × Unit) → Int → ((Bool × Int × Int × Unit) → Option α) → Option α := Classical.choose impl_SpanPow.ex α
theorem impl_SpanPow.eq : @impl_SpanPow = @impl_SpanPow.b := funext fun α => congrFun (Classical.choose_spec impl_SpanPow.ex) α

/-- laws.eqSpan -/
noncomputable def laws_eqSpan.b {α : Type} (N : Nat) (a3683 : Bool × Int × Int × Unit) (a3684 : Bool × Int × Int × Unit) (k0 : Bool → Option α) : Option α :=
 let x3685 := !(a3683.1 == a3684.1)
 bif x3685 then
  k0 false
 else
  let x3686 := !(decide (a3683.2.1 = a3684.2.1))
  bif x3686 then
   k0 false
  else
   let x3687 := !(decide (a3683.2.2.1 = a3684.2.2.1))
   bif x3687 then
    k0 false
   else
    k0 true
theorem laws_eqSpan.ex : ∃ f : ((α : Type) → Nat → (Bool × Int × Int × Unit) → (Bool × Int × Int × Unit) → (Bool → Option α) → Option α), f = fun α => @laws_eqSpan.b α := ⟨_, rfl⟩
noncomputable def laws_eqSpan {α : Type} : Nat → (Bool × Int × Int × Unit) → (Bool × Int × Int × Unit) → (Bool → Option α) → Option α := Classical.choose laws_eqSpan.ex α
theorem laws_eqSpan.eq : @laws_eqSpan = @laws_eqSpan.b := funext fun α => congrFun (Classical.choose_spec laws_eqSpan.ex) α

/-- laws.FnExactSpanPow -/
noncomputable def laws_FnExactSpanPow.b {α : Type} (N : Nat) (a1 : Int) (a2 : Bool × Int × Int × Unit) (a3 : Int) (k0 : Bool → Option α) : Option α :=
 laws_toSpan N a2
  (fun x5 =>
   spec_SpanPow N a1 x5 a3
    (fun x795 =>
     laws_toSpan N a2
      (fun x796 =>
       impl_SpanPow N a1 x796 a3
        (fun x3682 =>
         laws_eqSpan N x3682 x795
          (fun x3688 =>
           let x3689 := !x3688
           bif x3689 then
            k0 false
           else
            k0 true)))))
theorem laws_FnExactSpanPow.ex : ∃ f : ((α : Type) → Nat → Int → (Bool × Int × Int × Unit) → Int → (Bool → Option α) → Option α), f = fun α => @laws_FnExactSpanPow.b α := ⟨_, rfl⟩
noncomputable def laws_FnExactSpanPow {α : Type} : Nat → Int → (Bool × Int × Int × Unit) → Int → (Bool → Option α) → Option α := Classical.choose laws_FnExactSpanPow.ex α
theorem laws_FnExactSpanPow.eq : @laws_FnExactSpanPow = @laws_FnExactSpanPow.b := funext fun α => congrFun (Classical.choose_spec laws_FnExactSpanPow.ex) α

end
end Go.Proofs.YtlbihmicbncdiaaDoorAm
