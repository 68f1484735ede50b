/-
  The functions that the program computes, as the abstract machine tells them. Printed by amp.py.
-/
import Derived.Test.YtgabephijgjogaaAmc
namespace Go.Proofs.YtgabephijgjogaaAm
open Go
noncomputable section
set_option linter.unusedVariables false
set_option linter.unusedSimpArgs false

noncomputable def spec_l32Open_J1.b {α : Type} (N : Nat) (v9 : List Int) (k0 : List Int → Option α) : Option α :=
 let x10 := ((v9.length : Nat) : Int)
 let x11 := (decide ((2000 : Int) < x10))
 bif x11 then
  bif (decide ((2000 : Int) ≤ ((v9.length : Nat) : Int))) then
   let x12 := v9.take 2000
   k0 x12
  else
   none
 else
  k0 v9
theorem spec_l32Open_J1.ex : ∃ f : ((α : Type) → Nat → List Int → (List Int → Option α) → Option α), f = fun α => @spec_l32Open_J1.b α := ⟨_, rfl⟩
noncomputable def spec_l32Open_J1 {α : Type} : Nat → List Int → (List Int → Option α) → Option α := Classical.choose spec_l32Open_J1.ex α
theorem spec_l32Open_J1.eq : @spec_l32Open_J1 = @spec_l32Open_J1.b := funext fun α => congrFun (Classical.choose_spec spec_l32Open_J1.ex) α
/-- spec.l32Open -/
noncomputable def spec_l32Open.b {α : Type} (N : Nat) (a8 : List Int) (k0 : ((List Int) × Int × Unit) → Option α) : Option α :=
 spec_l32Open_J1 N a8
  (fun x13 =>
   k0 (x13, ((0 : Int), ())))
theorem spec_l32Open.ex : ∃ f : ((α : Type) → Nat → List Int → (((List Int) × Int × Unit) → Option α) → Option α), f = fun α => @spec_l32Open.b α := ⟨_, rfl⟩
noncomputable def spec_l32Open {α : Type} : Nat → List Int → (((List Int) × Int × Unit) → Option α) → Option α := Classical.choose spec_l32Open.ex α
theorem spec_l32Open.eq : @spec_l32Open = @spec_l32Open.b := funext fun α => congrFun (Classical.choose_spec spec_l32Open.ex) α

/-- (*spec.l32Rd).pick -/
noncomputable def spec_l32Rd_pick.b {α : Type} (N : Nat) (a15 : Int) (a16 : (List Int) × Int × Unit) (k0 : Int → ((List Int) × Int × Unit) → Option α) : Option α :=
 let x17 := (IntKind.i64.wrap (a16.2.1 + (1 : Int)))
 let x18 := (decide (a15 < (1 : Int)))
 bif x18 then
  k0 (0 : Int) (a16.1, (x17, ()))
 else
  let x19 := ((a16.1.length : Nat) : Int)
  let x20 := (decide (x19 = (0 : Int)))
  bif x20 then
   k0 (0 : Int) (a16.1, (x17, ()))
  else
   let x21 := (IntKind.i64.wrap (x17 - (1 : Int)))
   let x22 := ((a16.1.length : Nat) : Int)
   let x23 := decide (x21 < x22)
   bif x23 then
    bif (decide (x21 < (0 : Int))) then
     none
    else
     match a16.1[x21.toNat]? with
     | some x24 =>
      let x25 := IntKind.i64.wrap x24
      bif (decide (a15 = (0 : Int))) then
       none
      else
       let x26 := Int.tmod x25 a15
       k0 x26 (a16.1, (x17, ()))
     | none => none
   else
    let x27 := ((a16.1.length : Nat) : Int)
    bif (decide (x27 = (0 : Int))) then
     none
    else
     let x28 := Int.tmod x21 x27
     bif (decide (x28 < (0 : Int))) then
      none
     else
      match a16.1[x28.toNat]? with
      | some x29 =>
       let x30 := IntKind.i64.wrap x29
       let x31 := (IntKind.i64.wrap (x30 * (131 : Int)))
       let x32 := (IntKind.i64.wrap (x21 * (7 : Int)))
       let x33 := (IntKind.i64.wrap (x32 + (3 : Int)))
       let x34 := ((a16.1.length : Nat) : Int)
       bif (decide (x34 = (0 : Int))) then
        none
       else
        let x35 := Int.tmod x33 x34
        bif (decide (x35 < (0 : Int))) then
         none
        else
         match a16.1[x35.toNat]? with
         | some x36 =>
          let x37 := IntKind.i64.wrap x36
          let x38 := (IntKind.i64.wrap (x37 * (1117 : Int)))
          let x39 := IntKind.i64.wrap (x31 + x38)
          let x40 := (IntKind.i64.wrap (x21 * (29 : Int)))
          let x41 := IntKind.i64.wrap (x39 + x40)
          let x42 := ((a16.1.length : Nat) : Int)
          bif (decide (x42 = (0 : Int))) then
           none
          else
           let x43 := IntKind.i64.wrap (Int.tdiv x21 x42)
           let x44 := (IntKind.i64.wrap (x43 * (53 : Int)))
           let x45 := IntKind.i64.wrap (x41 + x44)
           let x46 := (IntKind.i64.wrap (Int.tdiv x45 (64 : Int)))
           let x47 := bitI .xor .i64 x45 x46
           bif (decide (a15 = (0 : Int))) then
            none
           else
            let x48 := Int.tmod x47 a15
            k0 x48 (a16.1, (x17, ()))
         | none => none
      | none => none
theorem spec_l32Rd_pick.ex : ∃ f : ((α : Type) → Nat → Int → ((List Int) × Int × Unit) → (Int → ((List Int) × Int × Unit) → Option α) → Option α), f = fun α => @spec_l32Rd_pick.b α := ⟨_, rfl⟩
noncomputable def spec_l32Rd_pick {α : Type} : Nat → Int → ((List Int) × Int × Unit) → (Int → ((List Int) × Int × Unit) → Option α) → Option α := Classical.choose spec_l32Rd_pick.ex α
theorem spec_l32Rd_pick.eq : @spec_l32Rd_pick = @spec_l32Rd_pick.b := funext fun α => congrFun (Classical.choose_spec spec_l32Rd_pick.ex) α

noncomputable def spec_DrawNatOf_L0r {α : Type} (N : Nat) (next : Int → Int → Int → ((List Int) × Int × Unit) → Option α) (k0 : Int → Option α) (v51 : Int) (v52 : Int) (v53 : Int) (v54 : (List Int) × Int × Unit) : Option α :=
 let x55 := decide (v53 < v52)
 bif x55 then
  let x56 := (IntKind.u64.wrap (v51 * (256 : Int)))
  spec_l32Rd_pick N (256 : Int) v54
   (fun x57 x58 =>
    let x59 := IntKind.u64.wrap x57
    let x60 := IntKind.u64.wrap (x56 + x59)
    let x61 := (IntKind.i64.wrap (v53 + (1 : Int)))
    next x60 v52 x61 x58)
 else
  k0 v51
noncomputable def spec_DrawNatOf_L0.b {α : Type} (N n : Nat) (v51 : Int) (v52 : Int) (v53 : Int) (v54 : (List Int) × Int × Unit) (k0 : Int → Option α) : Option α :=
  Nat.rec (motive := fun _ => Int → Int → Int → ((List Int) × Int × Unit) → Option α) (fun _ _ _ _ => none) (fun _ next => spec_DrawNatOf_L0r N next k0) n v51 v52 v53 v54
theorem spec_DrawNatOf_L0.ex : ∃ f : ((α : Type) → Nat → Nat → Int → Int → Int → ((List Int) × Int × Unit) → (Int → Option α) → Option α), f = fun α => @spec_DrawNatOf_L0.b α := ⟨_, rfl⟩
noncomputable def spec_DrawNatOf_L0 {α : Type} : Nat → Nat → Int → Int → Int → ((List Int) × Int × Unit) → (Int → Option α) → Option α := Classical.choose spec_DrawNatOf_L0.ex α
theorem spec_DrawNatOf_L0.eq : @spec_DrawNatOf_L0 = @spec_DrawNatOf_L0.b := funext fun α => congrFun (Classical.choose_spec spec_DrawNatOf_L0.ex) α
theorem spec_DrawNatOf_L0.zero {α : Type} (N : Nat) (v51 : Int) (v52 : Int) (v53 : Int) (v54 : (List Int) × Int × Unit) (k0 : Int → Option α) : spec_DrawNatOf_L0 N 0 v51 v52 v53 v54 k0 = none := by rw [spec_DrawNatOf_L0.eq]; rfl
theorem spec_DrawNatOf_L0.succ {α : Type} (N n : Nat) (v51 : Int) (v52 : Int) (v53 : Int) (v54 : (List Int) × Int × Unit) (k0 : Int → Option α) : spec_DrawNatOf_L0 N (n + 1) v51 v52 v53 v54 k0 = spec_DrawNatOf_L0r N (fun y0 y1 y2 y3 => spec_DrawNatOf_L0 N n y0 y1 y2 y3 k0) k0 v51 v52 v53 v54 := by rw [spec_DrawNatOf_L0.eq]; rfl
/-- spec.DrawNatOf -/
noncomputable def spec_DrawNatOf.b {α : Type} (N : Nat) (a7 : List Int) (k0 : Int → Option α) : Option α :=
 spec_l32Open N a7
  (fun x14 =>
   spec_l32Rd_pick N (9 : Int) x14
    (fun x49 x50 =>
     spec_DrawNatOf_L0 N N (0 : Int) x49 (0 : Int) x50
      (fun x62 =>
       k0 x62)))
theorem spec_DrawNatOf.ex : ∃ f : ((α : Type) → Nat → List Int → (Int → Option α) → Option α), f = fun α => @spec_DrawNatOf.b α := ⟨_, rfl⟩
noncomputable def spec_DrawNatOf {α : Type} : Nat → List Int → (Int → Option α) → Option α := Classical.choose spec_DrawNatOf.ex α
theorem spec_DrawNatOf.eq : @spec_DrawNatOf = @spec_DrawNatOf.b := funext fun α => congrFun (Classical.choose_spec spec_DrawNatOf.ex) α

noncomputable def impl_natOf_L0r {α : Type} (N : Nat) (next : Int → List Int → Option α) (k0 : List Int → Option α) (v67 : Int) (v68 : List Int) : Option α :=
 let x69 := (decide ((0 : Int) < v67))
 bif x69 then
  let x70 := (bitI .and .u64 v67 (65535 : Int))
  let x71 := IntKind.i64.wrap x70
  let x72 := [x71]
  bif decide (v68.length + x72.length ≤ 8796093022208) then
   let x73 := v68 ++ x72
   let x74 := (shrI .u64 v67 (16 : Int))
   next x74 x73
  else
   none
 else
  k0 v68
noncomputable def impl_natOf_L0.b {α : Type} (N n : Nat) (v67 : Int) (v68 : List Int) (k0 : List Int → Option α) : Option α :=
  Nat.rec (motive := fun _ => Int → List Int → Option α) (fun _ _ => none) (fun _ next => impl_natOf_L0r N next k0) n v67 v68
theorem impl_natOf_L0.ex : ∃ f : ((α : Type) → Nat → Nat → Int → List Int → (List Int → Option α) → Option α), f = fun α => @impl_natOf_L0.b α := ⟨_, rfl⟩
noncomputable def impl_natOf_L0 {α : Type} : Nat → Nat → Int → List Int → (List Int → Option α) → Option α := Classical.choose impl_natOf_L0.ex α
theorem impl_natOf_L0.eq : @impl_natOf_L0 = @impl_natOf_L0.b := funext fun α => congrFun (Classical.choose_spec impl_natOf_L0.ex) α
theorem impl_natOf_L0.zero {α : Type} (N : Nat) (v67 : Int) (v68 : List Int) (k0 : List Int → Option α) : impl_natOf_L0 N 0 v67 v68 k0 = none := by rw [impl_natOf_L0.eq]; rfl
theorem impl_natOf_L0.succ {α : Type} (N n : Nat) (v67 : Int) (v68 : List Int) (k0 : List Int → Option α) : impl_natOf_L0 N (n + 1) v67 v68 k0 = impl_natOf_L0r N (fun y0 y1 => impl_natOf_L0 N n y0 y1 k0) k0 v67 v68 := by rw [impl_natOf_L0.eq]; rfl
/-- impl.natOf -/
noncomputable def impl_natOf.b {α : Type} (N : Nat) (a66 : Int) (k0 : List Int → Option α) : Option α :=
 impl_natOf_L0 N N a66 []
  (fun x75 =>
   k0 x75)
theorem impl_natOf.ex : ∃ f : ((α : Type) → Nat → Int → (List Int → Option α) → Option α), f = fun α => @impl_natOf.b α := ⟨_, rfl⟩
noncomputable def impl_natOf {α : Type} : Nat → Int → (List Int → Option α) → Option α := Classical.choose impl_natOf.ex α
theorem impl_natOf.eq : @impl_natOf = @impl_natOf.b := funext fun α => congrFun (Classical.choose_spec impl_natOf.ex) α

/-- slices.Clone[[]int,int] -/
noncomputable def slices_Clone_int_int {α : Type} (N : Nat) (a1 : List Int) (k0 : List Int → Option α) : Option α :=
  bif decide (([] : List Int).length + a1.length ≤ 8796093022208) then k0 a1 else none

/-- slices.Clip[[]int,int] -/
noncomputable def slices_Clip_int_int.b {α : Type} (N : Nat) (a79 : List Int) (k0 : List Int → Option α) : Option α :=
 let x80 := ((a79.length : Nat) : Int)
 let x81 := ((a79.length : Nat) : Int)
 bif (decide ((0 : Int) ≤ x81)) then
  bif (decide (x81 ≤ ((a79.length : Nat) : Int))) then
   bif (decide ((0 : Int) ≤ x80)) then
    bif (decide (x80 ≤ ((x81.toNat : Nat) : Int))) then
     let x82 := a79.take x80.toNat
     k0 x82
    else
     none
   else
    none
  else
   none
 else
  none
theorem slices_Clip_int_int.ex : ∃ f : ((α : Type) → Nat → List Int → (List Int → Option α) → Option α), f = fun α => @slices_Clip_int_int.b α := ⟨_, rfl⟩
noncomputable def slices_Clip_int_int {α : Type} : Nat → List Int → (List Int → Option α) → Option α := Classical.choose slices_Clip_int_int.ex α
theorem slices_Clip_int_int.eq : @slices_Clip_int_int = @slices_Clip_int_int.b := funext fun α => congrFun (Classical.choose_spec slices_Clip_int_int.ex) α

/-- impl.clone[int] -/
noncomputable def impl_clone_int.b {α : Type} (N : Nat) (a77 : List Int) (k0 : List Int → Option α) : Option α :=
 slices_Clone_int_int N a77
  (fun x78 =>
   slices_Clip_int_int N x78
    (fun x83 =>
     k0 x83))
theorem impl_clone_int.ex : ∃ f : ((α : Type) → Nat → List Int → (List Int → Option α) → Option α), f = fun α => @impl_clone_int.b α := ⟨_, rfl⟩
noncomputable def impl_clone_int {α : Type} : Nat → List Int → (List Int → Option α) → Option α := Classical.choose impl_clone_int.ex α
theorem impl_clone_int.eq : @impl_clone_int = @impl_clone_int.b := funext fun α => congrFun (Classical.choose_spec impl_clone_int.ex) α

/-- impl.NatOf -/
noncomputable def impl_NatOf.b {α : Type} (N : Nat) (a65 : Int) (k0 : List Int → Option α) : Option α :=
 impl_natOf N a65
  (fun x76 =>
   impl_clone_int N x76
    (fun x84 =>
     k0 x84))
theorem impl_NatOf.ex : ∃ f : ((α : Type) → Nat → Int → (List Int → Option α) → Option α), f = fun α => @impl_NatOf.b α := ⟨_, rfl⟩
noncomputable def impl_NatOf {α : Type} : Nat → Int → (List Int → Option α) → Option α := Classical.choose impl_NatOf.ex α
theorem impl_NatOf.eq : @impl_NatOf = @impl_NatOf.b := funext fun α => congrFun (Classical.choose_spec impl_NatOf.ex) α

/-- impl.in -/
noncomputable def impl_in.b {α : Type} (N : Nat) (a101 : Int) (a102 : Int) (a103 : Int) (k0 : Bool → Option α) : Option α :=
 let x104 := decide (a102 ≤ a101)
 bif x104 then
  let x105 := decide (a101 ≤ a103)
  k0 x105
 else
  k0 false
theorem impl_in.ex : ∃ f : ((α : Type) → Nat → Int → Int → Int → (Bool → Option α) → Option α), f = fun α => @impl_in.b α := ⟨_, rfl⟩
noncomputable def impl_in {α : Type} : Nat → Int → Int → Int → (Bool → Option α) → Option α := Classical.choose impl_in.ex α
theorem impl_in.eq : @impl_in = @impl_in.b := funext fun α => congrFun (Classical.choose_spec impl_in.ex) α

/-- impl.NatOk$1 -/
noncomputable def impl_NatOk_1.b {α : Type} (N : Nat) (a100 : Int) (k0 : Bool → Option α) : Option α :=
 impl_in N a100 (0 : Int) (65535 : Int)
  (fun x106 =>
   let x107 := !x106
   k0 x107)
theorem impl_NatOk_1.ex : ∃ f : ((α : Type) → Nat → Int → (Bool → Option α) → Option α), f = fun α => @impl_NatOk_1.b α := ⟨_, rfl⟩
noncomputable def impl_NatOk_1 {α : Type} : Nat → Int → (Bool → Option α) → Option α := Classical.choose impl_NatOk_1.ex α
theorem impl_NatOk_1.eq : @impl_NatOk_1 = @impl_NatOk_1.b := funext fun α => congrFun (Classical.choose_spec impl_NatOk_1.ex) α

noncomputable def slices_IndexFunc_int_int__impl_NatOk_1_L0r {α : Type} (N : Nat) (next : List Int → Int → Int → Option α) (k0 : Int → Option α) (k1 : Option α) (v95 : List Int) (v96 : Int) (v97 : Int) : Option α :=
 let x98 := decide (v97 < v96)
 bif x98 then
  bif (decide (v97 < (0 : Int))) then
   none
  else
   match v95[v97.toNat]? with
   | some x99 =>
    impl_NatOk_1 N x99
     (fun x108 =>
      bif x108 then
       k0 v97
      else
       let x109 := (IntKind.i64.wrap (v97 + (1 : Int)))
       next v95 v96 x109)
   | none => none
 else
  k1
noncomputable def slices_IndexFunc_int_int__impl_NatOk_1_L0.b {α : Type} (N n : Nat) (v95 : List Int) (v96 : Int) (v97 : Int) (k0 : Int → Option α) (k1 : Option α) : Option α :=
  Nat.rec (motive := fun _ => List Int → Int → Int → Option α) (fun _ _ _ => none) (fun _ next => slices_IndexFunc_int_int__impl_NatOk_1_L0r N next k0 k1) n v95 v96 v97
theorem slices_IndexFunc_int_int__impl_NatOk_1_L0.ex : ∃ f : ((α : Type) → Nat → Nat → List Int → Int → Int → (Int → Option α) → (Option α) → Option α), f = fun α => @slices_IndexFunc_int_int__impl_NatOk_1_L0.b α := ⟨_, rfl⟩
noncomputable def slices_IndexFunc_int_int__impl_NatOk_1_L0 {α : Type} : Nat → Nat → List Int → Int → Int → (Int → Option α) → (Option α) → Option α := Classical.choose slices_IndexFunc_int_int__impl_NatOk_1_L0.ex α
theorem slices_IndexFunc_int_int__impl_NatOk_1_L0.eq : @slices_IndexFunc_int_int__impl_NatOk_1_L0 = @slices_IndexFunc_int_int__impl_NatOk_1_L0.b := funext fun α => congrFun (Classical.choose_spec slices_IndexFunc_int_int__impl_NatOk_1_L0.ex) α
theorem slices_IndexFunc_int_int__impl_NatOk_1_L0.zero {α : Type} (N : Nat) (v95 : List Int) (v96 : Int) (v97 : Int) (k0 : Int → Option α) (k1 : Option α) : slices_IndexFunc_int_int__impl_NatOk_1_L0 N 0 v95 v96 v97 k0 k1 = none := by rw [slices_IndexFunc_int_int__impl_NatOk_1_L0.eq]; rfl
theorem slices_IndexFunc_int_int__impl_NatOk_1_L0.succ {α : Type} (N n : Nat) (v95 : List Int) (v96 : Int) (v97 : Int) (k0 : Int → Option α) (k1 : Option α) : slices_IndexFunc_int_int__impl_NatOk_1_L0 N (n + 1) v95 v96 v97 k0 k1 = slices_IndexFunc_int_int__impl_NatOk_1_L0r N (fun y0 y1 y2 => slices_IndexFunc_int_int__impl_NatOk_1_L0 N n y0 y1 y2 k0 k1) k0 k1 v95 v96 v97 := by rw [slices_IndexFunc_int_int__impl_NatOk_1_L0.eq]; rfl
/-- slices.IndexFunc[[]int,int] -/
noncomputable def slices_IndexFunc_int_int__impl_NatOk_1.b {α : Type} (N : Nat) (a93 : List Int) (k0 : Int → Option α) : Option α :=
 let x94 := ((a93.length : Nat) : Int)
 slices_IndexFunc_int_int__impl_NatOk_1_L0 N N a93 x94 (0 : Int)
  (fun x110 =>
   k0 x110)
  (
   k0 (-1 : Int))
theorem slices_IndexFunc_int_int__impl_NatOk_1.ex : ∃ f : ((α : Type) → Nat → List Int → (Int → Option α) → Option α), f = fun α => @slices_IndexFunc_int_int__impl_NatOk_1.b α := ⟨_, rfl⟩
noncomputable def slices_IndexFunc_int_int__impl_NatOk_1 {α : Type} : Nat → List Int → (Int → Option α) → Option α := Classical.choose slices_IndexFunc_int_int__impl_NatOk_1.ex α
theorem slices_IndexFunc_int_int__impl_NatOk_1.eq : @slices_IndexFunc_int_int__impl_NatOk_1 = @slices_IndexFunc_int_int__impl_NatOk_1.b := funext fun α => congrFun (Classical.choose_spec slices_IndexFunc_int_int__impl_NatOk_1.ex) α

/-- slices.ContainsFunc[[]int,int] -/
noncomputable def slices_ContainsFunc_int_int__impl_NatOk_1.b {α : Type} (N : Nat) (a92 : List Int) (k0 : Bool → Option α) : Option α :=
 slices_IndexFunc_int_int__impl_NatOk_1 N a92
  (fun x111 =>
   let x112 := (decide ((0 : Int) ≤ x111))
   k0 x112)
theorem slices_ContainsFunc_int_int__impl_NatOk_1.ex : ∃ f : ((α : Type) → Nat → List Int → (Bool → Option α) → Option α), f = fun α => @slices_ContainsFunc_int_int__impl_NatOk_1.b α := ⟨_, rfl⟩
noncomputable def slices_ContainsFunc_int_int__impl_NatOk_1 {α : Type} : Nat → List Int → (Bool → Option α) → Option α := Classical.choose slices_ContainsFunc_int_int__impl_NatOk_1.ex α
theorem slices_ContainsFunc_int_int__impl_NatOk_1.eq : @slices_ContainsFunc_int_int__impl_NatOk_1 = @slices_ContainsFunc_int_int__impl_NatOk_1.b := funext fun α => congrFun (Classical.choose_spec slices_ContainsFunc_int_int__impl_NatOk_1.ex) α

/-- impl.NatOk -/
noncomputable def impl_NatOk.b {α : Type} (N : Nat) (a87 : List Int) (k0 : Bool → Option α) : Option α :=
 let x88 := ((a87.length : Nat) : Int)
 let x89 := (decide (x88 ≤ (256 : Int)))
 bif x89 then
  let x90 := ((a87.length : Nat) : Int)
  let x91 := (decide (x90 = (0 : Int)))
  bif x91 then
   slices_ContainsFunc_int_int__impl_NatOk_1 N a87
    (fun x113 =>
     let x114 := !x113
     k0 x114)
  else
   let x115 := ((a87.length : Nat) : Int)
   let x116 := (IntKind.i64.wrap (x115 - (1 : Int)))
   bif (decide (x116 < (0 : Int))) then
    none
   else
    match a87[x116.toNat]? with
    | some x117 =>
     let x118 := (!(decide (x117 = (0 : Int))))
     bif x118 then
      slices_ContainsFunc_int_int__impl_NatOk_1 N a87
       (fun x119 =>
        let x120 := !x119
        k0 x120)
     else
      k0 false
    | none => none
 else
  k0 false
theorem impl_NatOk.ex : ∃ f : ((α : Type) → Nat → List Int → (Bool → Option α) → Option α), f = fun α => @impl_NatOk.b α := ⟨_, rfl⟩
noncomputable def impl_NatOk {α : Type} : Nat → List Int → (Bool → Option α) → Option α := Classical.choose impl_NatOk.ex α
theorem impl_NatOk.eq : @impl_NatOk = @impl_NatOk.b := funext fun α => congrFun (Classical.choose_spec impl_NatOk.ex) α

noncomputable def smallI (l : List Int) : Int := l.foldr (fun d n => bitI .or .u64 (IntKind.u64.wrap (n * 65536)) (IntKind.u64.wrap d)) 0
/-- impl.NatSmall -/
noncomputable def impl_NatSmall.b {α : Type} (N : Nat) (a1 : List Int) (k0 : Int → Bool → Option α) : Option α :=
  impl_NatOk N a1 (fun b => bif b then (bif decide (List.length a1 ≤ 4) then k0 (smallI a1) true else k0 0 false) else k0 0 false)
theorem impl_NatSmall.ex : ∃ f : ((α : Type) → Nat → List Int → (Int → Bool → Option α) → Option α), f = fun α => @impl_NatSmall.b α := ⟨_, rfl⟩
noncomputable def impl_NatSmall {α : Type} : Nat → List Int → (Int → Bool → Option α) → Option α := Classical.choose impl_NatSmall.ex α
theorem impl_NatSmall.eq : @impl_NatSmall = @impl_NatSmall.b := funext fun α => congrFun (Classical.choose_spec impl_NatSmall.ex) α

/-- impl.nats$1 -/
noncomputable def impl_nats_1.b {α : Type} (N : Nat) (a139 : List Int) (k0 : Bool → Option α) : Option α :=
 impl_NatOk N a139
  (fun x140 =>
   let x141 := !x140
   k0 x141)
theorem impl_nats_1.ex : ∃ f : ((α : Type) → Nat → List Int → (Bool → Option α) → Option α), f = fun α => @impl_nats_1.b α := ⟨_, rfl⟩
noncomputable def impl_nats_1 {α : Type} : Nat → List Int → (Bool → Option α) → Option α := Classical.choose impl_nats_1.ex α
theorem impl_nats_1.eq : @impl_nats_1 = @impl_nats_1.b := funext fun α => congrFun (Classical.choose_spec impl_nats_1.ex) α

noncomputable def slices_IndexFunc_int_int__impl_nats_1_L0r {α : Type} (N : Nat) (next : List (List Int) → Int → Int → Option α) (k0 : Int → Option α) (k1 : Option α) (v134 : List (List Int)) (v135 : Int) (v136 : Int) : Option α :=
 let x137 := decide (v136 < v135)
 bif x137 then
  bif (decide (v136 < (0 : Int))) then
   none
  else
   match v134[v136.toNat]? with
   | some x138 =>
    impl_nats_1 N x138
     (fun x142 =>
      bif x142 then
       k0 v136
      else
       let x143 := (IntKind.i64.wrap (v136 + (1 : Int)))
       next v134 v135 x143)
   | none => none
 else
  k1
noncomputable def slices_IndexFunc_int_int__impl_nats_1_L0.b {α : Type} (N n : Nat) (v134 : List (List Int)) (v135 : Int) (v136 : Int) (k0 : Int → Option α) (k1 : Option α) : Option α :=
  Nat.rec (motive := fun _ => List (List Int) → Int → Int → Option α) (fun _ _ _ => none) (fun _ next => slices_IndexFunc_int_int__impl_nats_1_L0r N next k0 k1) n v134 v135 v136
theorem slices_IndexFunc_int_int__impl_nats_1_L0.ex : ∃ f : ((α : Type) → Nat → Nat → List (List Int) → Int → Int → (Int → Option α) → (Option α) → Option α), f = fun α => @slices_IndexFunc_int_int__impl_nats_1_L0.b α := ⟨_, rfl⟩
noncomputable def slices_IndexFunc_int_int__impl_nats_1_L0 {α : Type} : Nat → Nat → List (List Int) → Int → Int → (Int → Option α) → (Option α) → Option α := Classical.choose slices_IndexFunc_int_int__impl_nats_1_L0.ex α
theorem slices_IndexFunc_int_int__impl_nats_1_L0.eq : @slices_IndexFunc_int_int__impl_nats_1_L0 = @slices_IndexFunc_int_int__impl_nats_1_L0.b := funext fun α => congrFun (Classical.choose_spec slices_IndexFunc_int_int__impl_nats_1_L0.ex) α
theorem slices_IndexFunc_int_int__impl_nats_1_L0.zero {α : Type} (N : Nat) (v134 : List (List Int)) (v135 : Int) (v136 : Int) (k0 : Int → Option α) (k1 : Option α) : slices_IndexFunc_int_int__impl_nats_1_L0 N 0 v134 v135 v136 k0 k1 = none := by rw [slices_IndexFunc_int_int__impl_nats_1_L0.eq]; rfl
theorem slices_IndexFunc_int_int__impl_nats_1_L0.succ {α : Type} (N n : Nat) (v134 : List (List Int)) (v135 : Int) (v136 : Int) (k0 : Int → Option α) (k1 : Option α) : slices_IndexFunc_int_int__impl_nats_1_L0 N (n + 1) v134 v135 v136 k0 k1 = slices_IndexFunc_int_int__impl_nats_1_L0r N (fun y0 y1 y2 => slices_IndexFunc_int_int__impl_nats_1_L0 N n y0 y1 y2 k0 k1) k0 k1 v134 v135 v136 := by rw [slices_IndexFunc_int_int__impl_nats_1_L0.eq]; rfl
/-- slices.IndexFunc[[][]int,[]int] -/
noncomputable def slices_IndexFunc_int_int__impl_nats_1.b {α : Type} (N : Nat) (a132 : List (List Int)) (k0 : Int → Option α) : Option α :=
 let x133 := ((a132.length : Nat) : Int)
 slices_IndexFunc_int_int__impl_nats_1_L0 N N a132 x133 (0 : Int)
  (fun x144 =>
   k0 x144)
  (
   k0 (-1 : Int))
theorem slices_IndexFunc_int_int__impl_nats_1.ex : ∃ f : ((α : Type) → Nat → List (List Int) → (Int → Option α) → Option α), f = fun α => @slices_IndexFunc_int_int__impl_nats_1.b α := ⟨_, rfl⟩
noncomputable def slices_IndexFunc_int_int__impl_nats_1 {α : Type} : Nat → List (List Int) → (Int → Option α) → Option α := Classical.choose slices_IndexFunc_int_int__impl_nats_1.ex α
theorem slices_IndexFunc_int_int__impl_nats_1.eq : @slices_IndexFunc_int_int__impl_nats_1 = @slices_IndexFunc_int_int__impl_nats_1.b := funext fun α => congrFun (Classical.choose_spec slices_IndexFunc_int_int__impl_nats_1.ex) α

/-- slices.ContainsFunc[[][]int,[]int] -/
noncomputable def slices_ContainsFunc_int_int__impl_nats_1.b {α : Type} (N : Nat) (a131 : List (List Int)) (k0 : Bool → Option α) : Option α :=
 slices_IndexFunc_int_int__impl_nats_1 N a131
  (fun x145 =>
   let x146 := (decide ((0 : Int) ≤ x145))
   k0 x146)
theorem slices_ContainsFunc_int_int__impl_nats_1.ex : ∃ f : ((α : Type) → Nat → List (List Int) → (Bool → Option α) → Option α), f = fun α => @slices_ContainsFunc_int_int__impl_nats_1.b α := ⟨_, rfl⟩
noncomputable def slices_ContainsFunc_int_int__impl_nats_1 {α : Type} : Nat → List (List Int) → (Bool → Option α) → Option α := Classical.choose slices_ContainsFunc_int_int__impl_nats_1.ex α
theorem slices_ContainsFunc_int_int__impl_nats_1.eq : @slices_ContainsFunc_int_int__impl_nats_1 = @slices_ContainsFunc_int_int__impl_nats_1.b := funext fun α => congrFun (Classical.choose_spec slices_ContainsFunc_int_int__impl_nats_1.ex) α

/-- impl.nats -/
noncomputable def impl_nats.b {α : Type} (N : Nat) (a130 : List (List Int)) (k0 : Bool → Option α) : Option α :=
 slices_ContainsFunc_int_int__impl_nats_1 N a130
  (fun x147 =>
   let x148 := !x147
   k0 x148)
theorem impl_nats.ex : ∃ f : ((α : Type) → Nat → List (List Int) → (Bool → Option α) → Option α), f = fun α => @impl_nats.b α := ⟨_, rfl⟩
noncomputable def impl_nats {α : Type} : Nat → List (List Int) → (Bool → Option α) → Option α := Classical.choose impl_nats.ex α
theorem impl_nats.eq : @impl_nats = @impl_nats.b := funext fun α => congrFun (Classical.choose_spec impl_nats.ex) α

noncomputable def impl_natCmp_L0r {α : Type} (N : Nat) (next : List Int → List Int → Int → Option α) (k0 : Int → Option α) (k1 : Option α) (v163 : List Int) (v164 : List Int) (v165 : Int) : Option α :=
 let x166 := (decide ((0 : Int) ≤ v165))
 bif x166 then
  bif (decide (v165 < (0 : Int))) then
   none
  else
   match v163[v165.toNat]? with
   | some x167 =>
    bif (decide (v165 < (0 : Int))) then
     none
    else
     match v164[v165.toNat]? with
     | some x168 =>
      let x169 := !(decide (x167 = x168))
      bif x169 then
       bif (decide (v165 < (0 : Int))) then
        none
       else
        match v163[v165.toNat]? with
        | some x170 =>
         bif (decide (v165 < (0 : Int))) then
          none
         else
          match v164[v165.toNat]? with
          | some x171 =>
           let x172 := IntKind.i64.wrap (x170 - x171)
           let x173 := (minI (1 : Int) x172)
           let x174 := (maxI (-1 : Int) x173)
           k0 x174
          | none => none
        | none => none
      else
       let x175 := (IntKind.i64.wrap (v165 - (1 : Int)))
       next v163 v164 x175
     | none => none
   | none => none
 else
  k1
noncomputable def impl_natCmp_L0.b {α : Type} (N n : Nat) (v163 : List Int) (v164 : List Int) (v165 : Int) (k0 : Int → Option α) (k1 : Option α) : Option α :=
  Nat.rec (motive := fun _ => List Int → List Int → Int → Option α) (fun _ _ _ => none) (fun _ next => impl_natCmp_L0r N next k0 k1) n v163 v164 v165
theorem impl_natCmp_L0.ex : ∃ f : ((α : Type) → Nat → Nat → List Int → List Int → Int → (Int → Option α) → (Option α) → Option α), f = fun α => @impl_natCmp_L0.b α := ⟨_, rfl⟩
noncomputable def impl_natCmp_L0 {α : Type} : Nat → Nat → List Int → List Int → Int → (Int → Option α) → (Option α) → Option α := Classical.choose impl_natCmp_L0.ex α
theorem impl_natCmp_L0.eq : @impl_natCmp_L0 = @impl_natCmp_L0.b := funext fun α => congrFun (Classical.choose_spec impl_natCmp_L0.ex) α
theorem impl_natCmp_L0.zero {α : Type} (N : Nat) (v163 : List Int) (v164 : List Int) (v165 : Int) (k0 : Int → Option α) (k1 : Option α) : impl_natCmp_L0 N 0 v163 v164 v165 k0 k1 = none := by rw [impl_natCmp_L0.eq]; rfl
theorem impl_natCmp_L0.succ {α : Type} (N n : Nat) (v163 : List Int) (v164 : List Int) (v165 : Int) (k0 : Int → Option α) (k1 : Option α) : impl_natCmp_L0 N (n + 1) v163 v164 v165 k0 k1 = impl_natCmp_L0r N (fun y0 y1 y2 => impl_natCmp_L0 N n y0 y1 y2 k0 k1) k0 k1 v163 v164 v165 := by rw [impl_natCmp_L0.eq]; rfl
/-- impl.natCmp -/
noncomputable def impl_natCmp.b {α : Type} (N : Nat) (a151 : List Int) (a152 : List Int) (k0 : Int → Option α) : Option α :=
 let x153 := ((a151.length : Nat) : Int)
 let x154 := ((a152.length : Nat) : Int)
 let x155 := !(decide (x153 = x154))
 bif x155 then
  let x156 := ((a151.length : Nat) : Int)
  let x157 := ((a152.length : Nat) : Int)
  let x158 := IntKind.i64.wrap (x156 - x157)
  let x159 := (minI (1 : Int) x158)
  let x160 := (maxI (-1 : Int) x159)
  k0 x160
 else
  let x161 := ((a151.length : Nat) : Int)
  let x162 := (IntKind.i64.wrap (x161 - (1 : Int)))
  impl_natCmp_L0 N N a151 a152 x162
   (fun x176 =>
    k0 x176)
   (
    k0 (0 : Int))
theorem impl_natCmp.ex : ∃ f : ((α : Type) → Nat → List Int → List Int → (Int → Option α) → Option α), f = fun α => @impl_natCmp.b α := ⟨_, rfl⟩
noncomputable def impl_natCmp {α : Type} : Nat → List Int → List Int → (Int → Option α) → Option α := Classical.choose impl_natCmp.ex α
theorem impl_natCmp.eq : @impl_natCmp = @impl_natCmp.b := funext fun α => congrFun (Classical.choose_spec impl_natCmp.ex) α

/-- impl.NatCmp -/
noncomputable def impl_NatCmp.b {α : Type} (N : Nat) (a127 : List Int) (a128 : List Int) (k0 : Int → Option α) : Option α :=
 let x129 := [a127, a128]
 impl_nats N x129
  (fun x149 =>
   let x150 := !x149
   bif x150 then
    k0 (2 : Int)
   else
    impl_natCmp N a127 a128
     (fun x177 =>
      k0 x177))
theorem impl_NatCmp.ex : ∃ f : ((α : Type) → Nat → List Int → List Int → (Int → Option α) → Option α), f = fun α => @impl_NatCmp.b α := ⟨_, rfl⟩
noncomputable def impl_NatCmp {α : Type} : Nat → List Int → List Int → (Int → Option α) → Option α := Classical.choose impl_NatCmp.ex α
theorem impl_NatCmp.eq : @impl_NatCmp = @impl_NatCmp.b := funext fun α => congrFun (Classical.choose_spec impl_NatCmp.ex) α

noncomputable def impl_trim_L0r {α : Type} (N : Nat) (next : List Int → Option α) (k0 : List Int → Option α) (v239 : List Int) : Option α :=
 let x240 := ((v239.length : Nat) : Int)
 let x241 := (decide ((0 : Int) < x240))
 bif x241 then
  let x242 := ((v239.length : Nat) : Int)
  let x243 := (IntKind.i64.wrap (x242 - (1 : Int)))
  bif (decide (x243 < (0 : Int))) then
   none
  else
   match v239[x243.toNat]? with
   | some x244 =>
    let x245 := (decide (x244 = (0 : Int)))
    bif x245 then
     let x246 := ((v239.length : Nat) : Int)
     let x247 := (IntKind.i64.wrap (x246 - (1 : Int)))
     bif (decide ((0 : Int) ≤ x247)) then
      bif (decide (x247 ≤ ((v239.length : Nat) : Int))) then
       let x248 := v239.take x247.toNat
       next x248
      else
       none
     else
      none
    else
     k0 v239
   | none => none
 else
  k0 v239
noncomputable def impl_trim_L0.b {α : Type} (N n : Nat) (v239 : List Int) (k0 : List Int → Option α) : Option α :=
  Nat.rec (motive := fun _ => List Int → Option α) (fun _ => none) (fun _ next => impl_trim_L0r N next k0) n v239
theorem impl_trim_L0.ex : ∃ f : ((α : Type) → Nat → Nat → List Int → (List Int → Option α) → Option α), f = fun α => @impl_trim_L0.b α := ⟨_, rfl⟩
noncomputable def impl_trim_L0 {α : Type} : Nat → Nat → List Int → (List Int → Option α) → Option α := Classical.choose impl_trim_L0.ex α
theorem impl_trim_L0.eq : @impl_trim_L0 = @impl_trim_L0.b := funext fun α => congrFun (Classical.choose_spec impl_trim_L0.ex) α
theorem impl_trim_L0.zero {α : Type} (N : Nat) (v239 : List Int) (k0 : List Int → Option α) : impl_trim_L0 N 0 v239 k0 = none := by rw [impl_trim_L0.eq]; rfl
theorem impl_trim_L0.succ {α : Type} (N n : Nat) (v239 : List Int) (k0 : List Int → Option α) : impl_trim_L0 N (n + 1) v239 k0 = impl_trim_L0r N (fun y0 => impl_trim_L0 N n y0 k0) k0 v239 := by rw [impl_trim_L0.eq]; rfl
/-- impl.trim -/
noncomputable def impl_trim.b {α : Type} (N : Nat) (a238 : List Int) (k0 : List Int → Option α) : Option α :=
 impl_trim_L0 N N a238
  (fun x249 =>
   k0 x249)
theorem impl_trim.ex : ∃ f : ((α : Type) → Nat → List Int → (List Int → Option α) → Option α), f = fun α => @impl_trim.b α := ⟨_, rfl⟩
noncomputable def impl_trim {α : Type} : Nat → List Int → (List Int → Option α) → Option α := Classical.choose impl_trim.ex α
theorem impl_trim.eq : @impl_trim = @impl_trim.b := funext fun α => congrFun (Classical.choose_spec impl_trim.ex) α

noncomputable def impl_natSub_L0r {α : Type} (N : Nat) (next : List Int → Int → Int → List Int → Option α) (k0 : List Int → Option α) (v201 : List Int) (v202 : Int) (v203 : Int) (v204 : List Int) : Option α :=
 let x205 := decide (v203 < v202)
 bif x205 then
  bif (decide (v203 < (0 : Int))) then
   none
  else
   match v201[v203.toNat]? with
   | some x206 =>
    bif (decide (v203 < (0 : Int))) then
     none
    else
     bif decide (v203.toNat < v204.length) then
      match v204[v203.toNat]? with
      | some x207 =>
       let x208 := IntKind.i64.wrap (x207 - x206)
       bif (decide (v203 < (0 : Int))) then
        none
       else
        bif decide (v203.toNat < v204.length) then
         match v204[v203.toNat]? with
         | some x209 =>
          let x210 := v204.set v203.toNat x208
          let x211 := (IntKind.i64.wrap (v203 + (1 : Int)))
          next v201 v202 x211 x210
         | none => none
        else
         none
      | none => none
     else
      none
   | none => none
 else
  k0 v204
noncomputable def impl_natSub_L0.b {α : Type} (N n : Nat) (v201 : List Int) (v202 : Int) (v203 : Int) (v204 : List Int) (k0 : List Int → Option α) : Option α :=
  Nat.rec (motive := fun _ => List Int → Int → Int → List Int → Option α) (fun _ _ _ _ => none) (fun _ next => impl_natSub_L0r N next k0) n v201 v202 v203 v204
theorem impl_natSub_L0.ex : ∃ f : ((α : Type) → Nat → Nat → List Int → Int → Int → List Int → (List Int → Option α) → Option α), f = fun α => @impl_natSub_L0.b α := ⟨_, rfl⟩
noncomputable def impl_natSub_L0 {α : Type} : Nat → Nat → List Int → Int → Int → List Int → (List Int → Option α) → Option α := Classical.choose impl_natSub_L0.ex α
theorem impl_natSub_L0.eq : @impl_natSub_L0 = @impl_natSub_L0.b := funext fun α => congrFun (Classical.choose_spec impl_natSub_L0.ex) α
theorem impl_natSub_L0.zero {α : Type} (N : Nat) (v201 : List Int) (v202 : Int) (v203 : Int) (v204 : List Int) (k0 : List Int → Option α) : impl_natSub_L0 N 0 v201 v202 v203 v204 k0 = none := by rw [impl_natSub_L0.eq]; rfl
theorem impl_natSub_L0.succ {α : Type} (N n : Nat) (v201 : List Int) (v202 : Int) (v203 : Int) (v204 : List Int) (k0 : List Int → Option α) : impl_natSub_L0 N (n + 1) v201 v202 v203 v204 k0 = impl_natSub_L0r N (fun y0 y1 y2 y3 => impl_natSub_L0 N n y0 y1 y2 y3 k0) k0 v201 v202 v203 v204 := by rw [impl_natSub_L0.eq]; rfl
noncomputable def impl_natSub_J10.b {α : Type} (N : Nat) (v218 : Int) (v219 : Int) (v220 : Int) (v221 : List Int) (k0 : Int → Int → List Int → Option α) : Option α :=
 bif (decide (v218 < (0 : Int))) then
  none
 else
  bif decide (v218.toNat < v221.length) then
   match v221[v218.toNat]? with
   | some x222 =>
    let x223 := (decide (x222 < (0 : Int)))
    bif x223 then
     bif (decide (v218 < (0 : Int))) then
      none
     else
      bif decide (v218.toNat < v221.length) then
       match v221[v218.toNat]? with
       | some x224 =>
        let x225 := (IntKind.i64.wrap (x224 + (65536 : Int)))
        bif (decide (v218 < (0 : Int))) then
         none
        else
         bif decide (v218.toNat < v221.length) then
          match v221[v218.toNat]? with
          | some x226 =>
           let x227 := v221.set v218.toNat x225
           let x228 := (IntKind.i64.wrap (v218 + (1 : Int)))
           bif (decide (x228 < (0 : Int))) then
            none
           else
            bif decide (x228.toNat < x227.length) then
             match x227[x228.toNat]? with
             | some x229 =>
              let x230 := (IntKind.i64.wrap (x229 - (1 : Int)))
              bif (decide (x228 < (0 : Int))) then
               none
              else
               bif decide (x228.toNat < x227.length) then
                match x227[x228.toNat]? with
                | some x231 =>
                 let x232 := x227.set x228.toNat x230
                 k0 v219 v220 x232
                | none => none
               else
                none
             | none => none
            else
             none
          | none => none
         else
          none
       | none => none
      else
       none
    else
     k0 v219 v220 v221
   | none => none
  else
   none
theorem impl_natSub_J10.ex : ∃ f : ((α : Type) → Nat → Int → Int → Int → List Int → (Int → Int → List Int → Option α) → Option α), f = fun α => @impl_natSub_J10.b α := ⟨_, rfl⟩
noncomputable def impl_natSub_J10 {α : Type} : Nat → Int → Int → Int → List Int → (Int → Int → List Int → Option α) → Option α := Classical.choose impl_natSub_J10.ex α
theorem impl_natSub_J10.eq : @impl_natSub_J10 = @impl_natSub_J10.b := funext fun α => congrFun (Classical.choose_spec impl_natSub_J10.ex) α
noncomputable def impl_natSub_L2r {α : Type} (N : Nat) (next : Int → Int → List Int → Option α) (k0 : List Int → Option α) (v214 : Int) (v215 : Int) (v216 : List Int) : Option α :=
 let x217 := decide (v215 < v214)
 bif x217 then
  impl_natSub_J10 N v215 v214 v215 v216
   (fun x233 x234 x235 =>
    let x236 := (IntKind.i64.wrap (x234 + (1 : Int)))
    next x233 x236 x235)
 else
  k0 v216
noncomputable def impl_natSub_L2.b {α : Type} (N n : Nat) (v214 : Int) (v215 : Int) (v216 : List Int) (k0 : List Int → Option α) : Option α :=
  Nat.rec (motive := fun _ => Int → Int → List Int → Option α) (fun _ _ _ => none) (fun _ next => impl_natSub_L2r N next k0) n v214 v215 v216
theorem impl_natSub_L2.ex : ∃ f : ((α : Type) → Nat → Nat → Int → Int → List Int → (List Int → Option α) → Option α), f = fun α => @impl_natSub_L2.b α := ⟨_, rfl⟩
noncomputable def impl_natSub_L2 {α : Type} : Nat → Nat → Int → Int → List Int → (List Int → Option α) → Option α := Classical.choose impl_natSub_L2.ex α
theorem impl_natSub_L2.eq : @impl_natSub_L2 = @impl_natSub_L2.b := funext fun α => congrFun (Classical.choose_spec impl_natSub_L2.ex) α
theorem impl_natSub_L2.zero {α : Type} (N : Nat) (v214 : Int) (v215 : Int) (v216 : List Int) (k0 : List Int → Option α) : impl_natSub_L2 N 0 v214 v215 v216 k0 = none := by rw [impl_natSub_L2.eq]; rfl
theorem impl_natSub_L2.succ {α : Type} (N n : Nat) (v214 : Int) (v215 : Int) (v216 : List Int) (k0 : List Int → Option α) : impl_natSub_L2 N (n + 1) v214 v215 v216 k0 = impl_natSub_L2r N (fun y0 y1 y2 => impl_natSub_L2 N n y0 y1 y2 k0) k0 v214 v215 v216 := by rw [impl_natSub_L2.eq]; rfl
/-- impl.natSub -/
noncomputable def impl_natSub.b {α : Type} (N : Nat) (a197 : List Int) (a198 : List Int) (k0 : List Int → Option α) : Option α :=
 slices_Clone_int_int N a197
  (fun x199 =>
   let x200 := ((a198.length : Nat) : Int)
   impl_natSub_L0 N N a198 x200 (0 : Int) x199
    (fun x212 =>
     let x213 := ((x212.length : Nat) : Int)
     impl_natSub_L2 N N x213 (0 : Int) x212
      (fun x237 =>
       impl_trim N x237
        (fun x250 =>
         k0 x250))))
theorem impl_natSub.ex : ∃ f : ((α : Type) → Nat → List Int → List Int → (List Int → Option α) → Option α), f = fun α => @impl_natSub.b α := ⟨_, rfl⟩
noncomputable def impl_natSub {α : Type} : Nat → List Int → List Int → (List Int → Option α) → Option α := Classical.choose impl_natSub.ex α
theorem impl_natSub.eq : @impl_natSub = @impl_natSub.b := funext fun α => congrFun (Classical.choose_spec impl_natSub.ex) α

/-- impl.told -/
noncomputable def impl_told.b {α : Type} (N : Nat) (a252 : List Int) (a253 : Bool) (k0 : Bool → List Int → Option α) : Option α :=
 impl_trim N a252
  (fun x254 =>
   let x255 := !a253
   bif x255 then
    k0 false []
   else
    let x256 := ((x254.length : Nat) : Int)
    let x257 := (decide ((256 : Int) < x256))
    bif x257 then
     k0 false []
    else
     impl_clone_int N x254
      (fun x258 =>
       k0 true x258))
theorem impl_told.ex : ∃ f : ((α : Type) → Nat → List Int → Bool → (Bool → List Int → Option α) → Option α), f = fun α => @impl_told.b α := ⟨_, rfl⟩
noncomputable def impl_told {α : Type} : Nat → List Int → Bool → (Bool → List Int → Option α) → Option α := Classical.choose impl_told.ex α
theorem impl_told.eq : @impl_told = @impl_told.b := funext fun α => congrFun (Classical.choose_spec impl_told.ex) α

/-- impl.NatSub -/
noncomputable def impl_NatSub.b {α : Type} (N : Nat) (a190 : List Int) (a191 : List Int) (k0 : Bool → List Int → Option α) : Option α :=
 let x192 := [a190, a191]
 impl_nats N x192
  (fun x193 =>
   let x194 := !x193
   bif x194 then
    k0 false []
   else
    impl_natCmp N a190 a191
     (fun x195 =>
      let x196 := (decide (x195 < (0 : Int)))
      bif x196 then
       k0 false []
      else
       impl_natSub N a190 a191
        (fun x251 =>
         impl_told N x251 true
          (fun x259 x260 =>
           k0 x259 x260))))
theorem impl_NatSub.ex : ∃ f : ((α : Type) → Nat → List Int → List Int → (Bool → List Int → Option α) → Option α), f = fun α => @impl_NatSub.b α := ⟨_, rfl⟩
noncomputable def impl_NatSub {α : Type} : Nat → List Int → List Int → (Bool → List Int → Option α) → Option α := Classical.choose impl_NatSub.ex α
theorem impl_NatSub.eq : @impl_NatSub = @impl_NatSub.b := funext fun α => congrFun (Classical.choose_spec impl_NatSub.ex) α

noncomputable def math_bits_Len64_J1.b {α : Type} (N : Nat) (v354 : Int) (v355 : Int) (k0 : Int → Int → Option α) : Option α :=
 let x356 := (decide ((4294967296 : Int) ≤ v354))
 bif x356 then
  let x357 := (shrI .u64 v354 (32 : Int))
  k0 x357 (32 : Int)
 else
  k0 v354 v355
theorem math_bits_Len64_J1.ex : ∃ f : ((α : Type) → Nat → Int → Int → (Int → Int → Option α) → Option α), f = fun α => @math_bits_Len64_J1.b α := ⟨_, rfl⟩
noncomputable def math_bits_Len64_J1 {α : Type} : Nat → Int → Int → (Int → Int → Option α) → Option α := Classical.choose math_bits_Len64_J1.ex α
theorem math_bits_Len64_J1.eq : @math_bits_Len64_J1 = @math_bits_Len64_J1.b := funext fun α => congrFun (Classical.choose_spec math_bits_Len64_J1.ex) α
noncomputable def math_bits_Len64_J4.b {α : Type} (N : Nat) (v360 : Int) (v361 : Int) (k0 : Int → Int → Option α) : Option α :=
 let x362 := (decide ((65536 : Int) ≤ v360))
 bif x362 then
  let x363 := (shrI .u64 v360 (16 : Int))
  let x364 := (IntKind.i64.wrap (v361 + (16 : Int)))
  k0 x363 x364
 else
  k0 v360 v361
theorem math_bits_Len64_J4.ex : ∃ f : ((α : Type) → Nat → Int → Int → (Int → Int → Option α) → Option α), f = fun α => @math_bits_Len64_J4.b α := ⟨_, rfl⟩
noncomputable def math_bits_Len64_J4 {α : Type} : Nat → Int → Int → (Int → Int → Option α) → Option α := Classical.choose math_bits_Len64_J4.ex α
theorem math_bits_Len64_J4.eq : @math_bits_Len64_J4 = @math_bits_Len64_J4.b := funext fun α => congrFun (Classical.choose_spec math_bits_Len64_J4.ex) α
noncomputable def math_bits_Len64_J7.b {α : Type} (N : Nat) (v367 : Int) (v368 : Int) (k0 : Int → Int → Option α) : Option α :=
 let x369 := (decide ((256 : Int) ≤ v367))
 bif x369 then
  let x370 := (shrI .u64 v367 (8 : Int))
  let x371 := (IntKind.i64.wrap (v368 + (8 : Int)))
  k0 x370 x371
 else
  k0 v367 v368
theorem math_bits_Len64_J7.ex : ∃ f : ((α : Type) → Nat → Int → Int → (Int → Int → Option α) → Option α), f = fun α => @math_bits_Len64_J7.b α := ⟨_, rfl⟩
noncomputable def math_bits_Len64_J7 {α : Type} : Nat → Int → Int → (Int → Int → Option α) → Option α := Classical.choose math_bits_Len64_J7.ex α
theorem math_bits_Len64_J7.eq : @math_bits_Len64_J7 = @math_bits_Len64_J7.b := funext fun α => congrFun (Classical.choose_spec math_bits_Len64_J7.ex) α
/-- math/bits.Len64 -/
noncomputable def math_bits_Len64.b {α : Type} (N : Nat) (a353 : Int) (k0 : Int → Option α) : Option α :=
 math_bits_Len64_J1 N a353 (0 : Int)
  (fun x358 x359 =>
   math_bits_Len64_J4 N x358 x359
    (fun x365 x366 =>
     math_bits_Len64_J7 N x365 x366
      (fun x372 x373 =>
       let x374 := IntKind.u8.wrap x372
       bif (decide (x374 < (0 : Int))) then
        none
       else
        match ((⟨#[0, 1, 2, 2, 3, 3, 3, 3, 4, 4, 4, 4, 4, 4, 4, 4, 5, 5, 5, 5, 5, 5, 5, 5, 5, 5, 5, 5, 5, 5, 5, 5, 6, 6, 6, 6, 6, 6, 6, 6, 6, 6, 6, 6, 6, 6, 6, 6, 6, 6, 6, 6, 6, 6, 6, 6, 6, 6, 6, 6, 6, 6, 6, 6, 7, 7, 7, 7, 7, 7, 7, 7, 7, 7, 7, 7, 7, 7, 7, 7, 7, 7, 7, 7, 7, 7, 7, 7, 7, 7, 7, 7, 7, 7, 7, 7, 7, 7, 7, 7, 7, 7, 7, 7, 7, 7, 7, 7, 7, 7, 7, 7, 7, 7, 7, 7, 7, 7, 7, 7, 7, 7, 7, 7, 7, 7, 7, 7, 8, 8, 8, 8, 8, 8, 8, 8, 8, 8, 8, 8, 8, 8, 8, 8, 8, 8, 8, 8, 8, 8, 8, 8, 8, 8, 8, 8, 8, 8, 8, 8, 8, 8, 8, 8, 8, 8, 8, 8, 8, 8, 8, 8, 8, 8, 8, 8, 8, 8, 8, 8, 8, 8, 8, 8, 8, 8, 8, 8, 8, 8, 8, 8, 8, 8, 8, 8, 8, 8, 8, 8, 8, 8, 8, 8, 8, 8, 8, 8, 8, 8, 8, 8, 8, 8, 8, 8, 8, 8, 8, 8, 8, 8, 8, 8, 8, 8, 8, 8, 8, 8, 8, 8, 8, 8, 8, 8, 8, 8, 8, 8, 8, 8, 8, 8, 8, 8, 8, 8, 8, 8, 8, 8, 8, 8, 8, 8]⟩ : ByteArray)[x374.toNat]? : Option UInt8) with
        | some x375 =>
         let x376 := ((x375.toNat : Nat) : Int)
         let x377 := IntKind.i64.wrap x376
         let x378 := IntKind.i64.wrap (x373 + x377)
         k0 x378
        | none => none)))
theorem math_bits_Len64.ex : ∃ f : ((α : Type) → Nat → Int → (Int → Option α) → Option α), f = fun α => @math_bits_Len64.b α := ⟨_, rfl⟩
noncomputable def math_bits_Len64 {α : Type} : Nat → Int → (Int → Option α) → Option α := Classical.choose math_bits_Len64.ex α
theorem math_bits_Len64.eq : @math_bits_Len64 = @math_bits_Len64.b := funext fun α => congrFun (Classical.choose_spec math_bits_Len64.ex) α

/-- math/bits.Len -/
noncomputable def math_bits_Len.b {α : Type} (N : Nat) (a352 : Int) (k0 : Int → Option α) : Option α :=
 math_bits_Len64 N a352
  (fun x379 =>
   k0 x379)
theorem math_bits_Len.ex : ∃ f : ((α : Type) → Nat → Int → (Int → Option α) → Option α), f = fun α => @math_bits_Len.b α := ⟨_, rfl⟩
noncomputable def math_bits_Len {α : Type} : Nat → Int → (Int → Option α) → Option α := Classical.choose math_bits_Len.ex α
theorem math_bits_Len.eq : @math_bits_Len = @math_bits_Len.b := funext fun α => congrFun (Classical.choose_spec math_bits_Len.ex) α

noncomputable def impl_natShift_J10.b {α : Type} (N : Nat) (v458 : List Int) (v459 : Int) (v460 : Int) (v461 : Int) (v462 : Int) (v463 : Int) (v464 : List Int) (k0 : List Int → Int → Int → Int → Int → List Int → Option α) : Option α :=
 let x465 := IntKind.i64.wrap (v459 + v461)
 let x466 := (IntKind.i64.wrap (x465 + (1 : Int)))
 let x467 := ((v458.length : Nat) : Int)
 let x468 := decide (x466 < x467)
 bif x468 then
  bif (decide (v461 < (0 : Int))) then
   none
  else
   bif decide (v461.toNat < v464.length) then
    match v464[v461.toNat]? with
    | some x469 =>
     let x470 := IntKind.i64.wrap (v459 + v461)
     let x471 := (IntKind.i64.wrap (x470 + (1 : Int)))
     bif (decide (x471 < (0 : Int))) then
      none
     else
      match v458[x471.toNat]? with
      | some x472 =>
       let x473 := (IntKind.i64.wrap ((16 : Int) - v460))
       bif (decide (x473 < (0 : Int))) then
        none
       else
        let x474 := shlI .i64 x472 x473
        let x475 := (bitI .and .i64 x474 (65535 : Int))
        let x476 := bitI .or .i64 x469 x475
        bif (decide (v461 < (0 : Int))) then
         none
        else
         bif decide (v461.toNat < v464.length) then
          match v464[v461.toNat]? with
          | some x477 =>
           let x478 := v464.set v461.toNat x476
           k0 v458 v459 v460 v462 v463 x478
          | none => none
         else
          none
      | none => none
    | none => none
   else
    none
 else
  k0 v458 v459 v460 v462 v463 v464
theorem impl_natShift_J10.ex : ∃ f : ((α : Type) → Nat → List Int → Int → Int → Int → Int → Int → List Int → (List Int → Int → Int → Int → Int → List Int → Option α) → Option α), f = fun α => @impl_natShift_J10.b α := ⟨_, rfl⟩
noncomputable def impl_natShift_J10 {α : Type} : Nat → List Int → Int → Int → Int → Int → Int → List Int → (List Int → Int → Int → Int → Int → List Int → Option α) → Option α := Classical.choose impl_natShift_J10.ex α
theorem impl_natShift_J10.eq : @impl_natShift_J10 = @impl_natShift_J10.b := funext fun α => congrFun (Classical.choose_spec impl_natShift_J10.ex) α
noncomputable def impl_natShift_L0r {α : Type} (N : Nat) (next : List Int → Int → Int → Int → Int → List Int → Option α) (k0 : List Int → Option α) (v447 : List Int) (v448 : Int) (v449 : Int) (v450 : Int) (v451 : Int) (v452 : List Int) : Option α :=
 let x453 := decide (v451 < v450)
 bif x453 then
  bif (decide (v451 < (0 : Int))) then
   none
  else
   bif decide (v451.toNat < v452.length) then
    match v452[v451.toNat]? with
    | some x454 =>
     bif (decide (v449 < (0 : Int))) then
      none
     else
      let x455 := shrI .i64 x454 v449
      bif (decide (v451 < (0 : Int))) then
       none
      else
       bif decide (v451.toNat < v452.length) then
        match v452[v451.toNat]? with
        | some x456 =>
         let x457 := v452.set v451.toNat x455
         impl_natShift_J10 N v447 v448 v449 v451 v450 v451 x457
          (fun x479 x480 x481 x482 x483 x484 =>
           let x485 := (IntKind.i64.wrap (x483 + (1 : Int)))
           next x479 x480 x481 x482 x485 x484)
        | none => none
       else
        none
    | none => none
   else
    none
 else
  k0 v452
noncomputable def impl_natShift_L0.b {α : Type} (N n : Nat) (v447 : List Int) (v448 : Int) (v449 : Int) (v450 : Int) (v451 : Int) (v452 : List Int) (k0 : List Int → Option α) : Option α :=
  Nat.rec (motive := fun _ => List Int → Int → Int → Int → Int → List Int → Option α) (fun _ _ _ _ _ _ => none) (fun _ next => impl_natShift_L0r N next k0) n v447 v448 v449 v450 v451 v452
theorem impl_natShift_L0.ex : ∃ f : ((α : Type) → Nat → Nat → List Int → Int → Int → Int → Int → List Int → (List Int → Option α) → Option α), f = fun α => @impl_natShift_L0.b α := ⟨_, rfl⟩
noncomputable def impl_natShift_L0 {α : Type} : Nat → Nat → List Int → Int → Int → Int → Int → List Int → (List Int → Option α) → Option α := Classical.choose impl_natShift_L0.ex α
theorem impl_natShift_L0.eq : @impl_natShift_L0 = @impl_natShift_L0.b := funext fun α => congrFun (Classical.choose_spec impl_natShift_L0.ex) α
theorem impl_natShift_L0.zero {α : Type} (N : Nat) (v447 : List Int) (v448 : Int) (v449 : Int) (v450 : Int) (v451 : Int) (v452 : List Int) (k0 : List Int → Option α) : impl_natShift_L0 N 0 v447 v448 v449 v450 v451 v452 k0 = none := by rw [impl_natShift_L0.eq]; rfl
theorem impl_natShift_L0.succ {α : Type} (N n : Nat) (v447 : List Int) (v448 : Int) (v449 : Int) (v450 : Int) (v451 : Int) (v452 : List Int) (k0 : List Int → Option α) : impl_natShift_L0 N (n + 1) v447 v448 v449 v450 v451 v452 k0 = impl_natShift_L0r N (fun y0 y1 y2 y3 y4 y5 => impl_natShift_L0 N n y0 y1 y2 y3 y4 y5 k0) k0 v447 v448 v449 v450 v451 v452 := by rw [impl_natShift_L0.eq]; rfl
noncomputable def impl_natShift_L2r {α : Type} (N : Nat) (next : Int → List Int → Int → Int → List Int → Option α) (k0 : List Int → Option α) (v494 : Int) (v495 : List Int) (v496 : Int) (v497 : Int) (v498 : List Int) : Option α :=
 let x499 := decide (v497 < v496)
 bif x499 then
  bif (decide (v497 < (0 : Int))) then
   none
  else
   match v495[v497.toNat]? with
   | some x500 =>
    let x501 := (Int.tmod v494 (16 : Int))
    bif (decide (x501 < (0 : Int))) then
     none
    else
     let x502 := shlI .i64 x500 x501
     let x503 := (IntKind.i64.wrap (Int.tdiv v494 (16 : Int)))
     let x504 := IntKind.i64.wrap (x503 + v497)
     bif (decide (x504 < (0 : Int))) then
      none
     else
      bif decide (x504.toNat < v498.length) then
       match v498[x504.toNat]? with
       | some x505 =>
        let x506 := (bitI .and .i64 x502 (65535 : Int))
        let x507 := bitI .or .i64 x505 x506
        bif (decide (x504 < (0 : Int))) then
         none
        else
         bif decide (x504.toNat < v498.length) then
          match v498[x504.toNat]? with
          | some x508 =>
           let x509 := v498.set x504.toNat x507
           let x510 := (IntKind.i64.wrap (Int.tdiv v494 (16 : Int)))
           let x511 := IntKind.i64.wrap (x510 + v497)
           let x512 := (IntKind.i64.wrap (x511 + (1 : Int)))
           let x513 := (shrI .i64 x502 (16 : Int))
           bif (decide (x512 < (0 : Int))) then
            none
           else
            bif decide (x512.toNat < x509.length) then
             match x509[x512.toNat]? with
             | some x514 =>
              let x515 := x509.set x512.toNat x513
              let x516 := (IntKind.i64.wrap (v497 + (1 : Int)))
              next v494 v495 v496 x516 x515
             | none => none
            else
             none
          | none => none
         else
          none
       | none => none
      else
       none
   | none => none
 else
  k0 v498
noncomputable def impl_natShift_L2.b {α : Type} (N n : Nat) (v494 : Int) (v495 : List Int) (v496 : Int) (v497 : Int) (v498 : List Int) (k0 : List Int → Option α) : Option α :=
  Nat.rec (motive := fun _ => Int → List Int → Int → Int → List Int → Option α) (fun _ _ _ _ _ => none) (fun _ next => impl_natShift_L2r N next k0) n v494 v495 v496 v497 v498
theorem impl_natShift_L2.ex : ∃ f : ((α : Type) → Nat → Nat → Int → List Int → Int → Int → List Int → (List Int → Option α) → Option α), f = fun α => @impl_natShift_L2.b α := ⟨_, rfl⟩
noncomputable def impl_natShift_L2 {α : Type} : Nat → Nat → Int → List Int → Int → Int → List Int → (List Int → Option α) → Option α := Classical.choose impl_natShift_L2.ex α
theorem impl_natShift_L2.eq : @impl_natShift_L2 = @impl_natShift_L2.b := funext fun α => congrFun (Classical.choose_spec impl_natShift_L2.ex) α
theorem impl_natShift_L2.zero {α : Type} (N : Nat) (v494 : Int) (v495 : List Int) (v496 : Int) (v497 : Int) (v498 : List Int) (k0 : List Int → Option α) : impl_natShift_L2 N 0 v494 v495 v496 v497 v498 k0 = none := by rw [impl_natShift_L2.eq]; rfl
theorem impl_natShift_L2.succ {α : Type} (N n : Nat) (v494 : Int) (v495 : List Int) (v496 : Int) (v497 : Int) (v498 : List Int) (k0 : List Int → Option α) : impl_natShift_L2 N (n + 1) v494 v495 v496 v497 v498 k0 = impl_natShift_L2r N (fun y0 y1 y2 y3 y4 => impl_natShift_L2 N n y0 y1 y2 y3 y4 k0) k0 v494 v495 v496 v497 v498 := by rw [impl_natShift_L2.eq]; rfl
/-- impl.natShift -/
noncomputable def impl_natShift.b {α : Type} (N : Nat) (a435 : List Int) (a436 : Int) (k0 : List Int → Option α) : Option α :=
 let x437 := (decide (a436 < (0 : Int)))
 bif x437 then
  let x438 := IntKind.i64.wrap (0 - a436)
  let x439 := (IntKind.i64.wrap (Int.tdiv x438 (16 : Int)))
  let x440 := IntKind.i64.wrap (0 - a436)
  let x441 := (Int.tmod x440 (16 : Int))
  let x442 := ((a435.length : Nat) : Int)
  let x443 := decide (x442 ≤ x439)
  bif x443 then
   k0 []
  else
   bif (decide ((0 : Int) ≤ x439)) then
    bif (decide (x439 ≤ ((a435.length : Nat) : Int))) then
     let x444 := a435.drop x439.toNat
     slices_Clone_int_int N x444
      (fun x445 =>
       let x446 := ((x445.length : Nat) : Int)
       impl_natShift_L0 N N a435 x439 x441 x446 (0 : Int) x445
        (fun x486 =>
         impl_trim N x486
          (fun x487 =>
           k0 x487)))
    else
     none
   else
    none
 else
  let x488 := (IntKind.i64.wrap (Int.tdiv a436 (16 : Int)))
  let x489 := ((a435.length : Nat) : Int)
  let x490 := IntKind.i64.wrap (x488 + x489)
  let x491 := (IntKind.i64.wrap (x490 + (1 : Int)))
  bif (decide ((0 : Int) ≤ x491)) then
   bif decide (x491 ≤ x491) then
    bif (decide (x491 ≤ ((8796093022208 : Nat) : Int))) then
     let x492 := (List.replicate x491.toNat (0 : Int))
     let x493 := ((a435.length : Nat) : Int)
     impl_natShift_L2 N N a436 a435 x493 (0 : Int) x492
      (fun x517 =>
       impl_trim N x517
        (fun x518 =>
         k0 x518))
    else
     none
   else
    none
  else
   none
theorem impl_natShift.ex : ∃ f : ((α : Type) → Nat → List Int → Int → (List Int → Option α) → Option α), f = fun α => @impl_natShift.b α := ⟨_, rfl⟩
noncomputable def impl_natShift {α : Type} : Nat → List Int → Int → (List Int → Option α) → Option α := Classical.choose impl_natShift.ex α
theorem impl_natShift.eq : @impl_natShift = @impl_natShift.b := funext fun α => congrFun (Classical.choose_spec impl_natShift.ex) α

noncomputable def impl_natDiv_L0r {α : Type} (N : Nat) (next : List Int → List Int → Int → Int → List Int → Option α) (k0 : Int → List Int → Option α) (v327 : List Int) (v328 : List Int) (v329 : Int) (v330 : Int) (v331 : List Int) : Option α :=
 let x332 := (decide ((0 : Int) ≤ v330))
 bif x332 then
  let x333 := (shlI .i64 v329 (16 : Int))
  bif (decide (v330 < (0 : Int))) then
   none
  else
   match v327[v330.toNat]? with
   | some x334 =>
    let x335 := bitI .or .i64 x333 x334
    match v328[0]? with
    | some x336 =>
     bif (decide (x336 = (0 : Int))) then
      none
     else
      let x337 := IntKind.i64.wrap (Int.tdiv x335 x336)
      match v328[0]? with
      | some x338 =>
       bif (decide (x338 = (0 : Int))) then
        none
       else
        let x339 := Int.tmod x335 x338
        bif (decide (v330 < (0 : Int))) then
         none
        else
         bif decide (v330.toNat < v331.length) then
          match v331[v330.toNat]? with
          | some x340 =>
           let x341 := v331.set v330.toNat x337
           let x342 := (IntKind.i64.wrap (v330 - (1 : Int)))
           next v327 v328 x339 x342 x341
          | none => none
         else
          none
      | none => none
    | none => none
   | none => none
 else
  k0 v329 v331
noncomputable def impl_natDiv_L0.b {α : Type} (N n : Nat) (v327 : List Int) (v328 : List Int) (v329 : Int) (v330 : Int) (v331 : List Int) (k0 : Int → List Int → Option α) : Option α :=
  Nat.rec (motive := fun _ => List Int → List Int → Int → Int → List Int → Option α) (fun _ _ _ _ _ => none) (fun _ next => impl_natDiv_L0r N next k0) n v327 v328 v329 v330 v331
theorem impl_natDiv_L0.ex : ∃ f : ((α : Type) → Nat → Nat → List Int → List Int → Int → Int → List Int → (Int → List Int → Option α) → Option α), f = fun α => @impl_natDiv_L0.b α := ⟨_, rfl⟩
noncomputable def impl_natDiv_L0 {α : Type} : Nat → Nat → List Int → List Int → Int → Int → List Int → (Int → List Int → Option α) → Option α := Classical.choose impl_natDiv_L0.ex α
theorem impl_natDiv_L0.eq : @impl_natDiv_L0 = @impl_natDiv_L0.b := funext fun α => congrFun (Classical.choose_spec impl_natDiv_L0.ex) α
theorem impl_natDiv_L0.zero {α : Type} (N : Nat) (v327 : List Int) (v328 : List Int) (v329 : Int) (v330 : Int) (v331 : List Int) (k0 : Int → List Int → Option α) : impl_natDiv_L0 N 0 v327 v328 v329 v330 v331 k0 = none := by rw [impl_natDiv_L0.eq]; rfl
theorem impl_natDiv_L0.succ {α : Type} (N n : Nat) (v327 : List Int) (v328 : List Int) (v329 : Int) (v330 : Int) (v331 : List Int) (k0 : Int → List Int → Option α) : impl_natDiv_L0 N (n + 1) v327 v328 v329 v330 v331 k0 = impl_natDiv_L0r N (fun y0 y1 y2 y3 y4 => impl_natDiv_L0 N n y0 y1 y2 y3 y4 k0) k0 v327 v328 v329 v330 v331 := by rw [impl_natDiv_L0.eq]; rfl
noncomputable def impl_natDiv_L2r {α : Type} (N : Nat) (next : List Int → Int → List Int → Int → List Int → Option α) (k0 : Int → List Int → Int → List Int → Option α) (v525 : List Int) (v526 : Int) (v527 : List Int) (v528 : Int) (v529 : List Int) : Option α :=
 let x530 := ((v529.length : Nat) : Int)
 let x531 := ((v525.length : Nat) : Int)
 let x532 := (IntKind.i64.wrap (x531 + (1 : Int)))
 let x533 := decide (x530 < x532)
 bif x533 then
  let x534 := [(0 : Int)]
  bif decide (v529.length + x534.length ≤ 8796093022208) then
   let x535 := v529 ++ x534
   next v525 v526 v527 v528 x535
  else
   none
 else
  k0 v526 v527 v528 v529
noncomputable def impl_natDiv_L2.b {α : Type} (N n : Nat) (v525 : List Int) (v526 : Int) (v527 : List Int) (v528 : Int) (v529 : List Int) (k0 : Int → List Int → Int → List Int → Option α) : Option α :=
  Nat.rec (motive := fun _ => List Int → Int → List Int → Int → List Int → Option α) (fun _ _ _ _ _ => none) (fun _ next => impl_natDiv_L2r N next k0) n v525 v526 v527 v528 v529
theorem impl_natDiv_L2.ex : ∃ f : ((α : Type) → Nat → Nat → List Int → Int → List Int → Int → List Int → (Int → List Int → Int → List Int → Option α) → Option α), f = fun α => @impl_natDiv_L2.b α := ⟨_, rfl⟩
noncomputable def impl_natDiv_L2 {α : Type} : Nat → Nat → List Int → Int → List Int → Int → List Int → (Int → List Int → Int → List Int → Option α) → Option α := Classical.choose impl_natDiv_L2.ex α
theorem impl_natDiv_L2.eq : @impl_natDiv_L2 = @impl_natDiv_L2.b := funext fun α => congrFun (Classical.choose_spec impl_natDiv_L2.ex) α
theorem impl_natDiv_L2.zero {α : Type} (N : Nat) (v525 : List Int) (v526 : Int) (v527 : List Int) (v528 : Int) (v529 : List Int) (k0 : Int → List Int → Int → List Int → Option α) : impl_natDiv_L2 N 0 v525 v526 v527 v528 v529 k0 = none := by rw [impl_natDiv_L2.eq]; rfl
theorem impl_natDiv_L2.succ {α : Type} (N n : Nat) (v525 : List Int) (v526 : Int) (v527 : List Int) (v528 : Int) (v529 : List Int) (k0 : Int → List Int → Int → List Int → Option α) : impl_natDiv_L2 N (n + 1) v525 v526 v527 v528 v529 k0 = impl_natDiv_L2r N (fun y0 y1 y2 y3 y4 => impl_natDiv_L2 N n y0 y1 y2 y3 y4 k0) k0 v525 v526 v527 v528 v529 := by rw [impl_natDiv_L2.eq]; rfl
noncomputable def impl_natDiv_L6r {α : Type} (N : Nat) (next : Int → List Int → Int → Int → Int → Int → List Int → List Int → Option α) (k0 : Int → List Int → Int → Int → Int → List Int → List Int → Option α) (v566 : Int) (v567 : List Int) (v568 : Int) (v569 : Int) (v570 : Int) (v571 : Int) (v572 : List Int) (v573 : List Int) : Option α :=
 let x574 := (decide ((65536 : Int) ≤ v570))
 bif x574 then
  let x575 := (IntKind.i64.wrap (v570 - (1 : Int)))
  let x576 := (IntKind.i64.wrap (v568 - (1 : Int)))
  bif (decide (x576 < (0 : Int))) then
   none
  else
   match v567[x576.toNat]? with
   | some x577 =>
    let x578 := IntKind.i64.wrap (v571 + x577)
    let x579 := (decide ((65536 : Int) ≤ x578))
    bif x579 then
     k0 v566 v567 v568 v569 x575 v572 v573
    else
     next v566 v567 v568 v569 x575 x578 v572 v573
   | none => none
 else
  let x580 := (IntKind.i64.wrap (v568 - (2 : Int)))
  bif (decide (x580 < (0 : Int))) then
   none
  else
   match v567[x580.toNat]? with
   | some x581 =>
    let x582 := IntKind.i64.wrap (v570 * x581)
    let x583 := (shlI .i64 v571 (16 : Int))
    let x584 := IntKind.i64.wrap (v569 + v568)
    let x585 := (IntKind.i64.wrap (x584 - (2 : Int)))
    bif (decide (x585 < (0 : Int))) then
     none
    else
     bif decide (x585.toNat < v572.length) then
      match v572[x585.toNat]? with
      | some x586 =>
       let x587 := bitI .or .i64 x583 x586
       let x588 := decide (x587 < x582)
       bif x588 then
        let x589 := (IntKind.i64.wrap (v570 - (1 : Int)))
        let x590 := (IntKind.i64.wrap (v568 - (1 : Int)))
        bif (decide (x590 < (0 : Int))) then
         none
        else
         match v567[x590.toNat]? with
         | some x591 =>
          let x592 := IntKind.i64.wrap (v571 + x591)
          let x593 := (decide ((65536 : Int) ≤ x592))
          bif x593 then
           k0 v566 v567 v568 v569 x589 v572 v573
          else
           next v566 v567 v568 v569 x589 x592 v572 v573
         | none => none
       else
        k0 v566 v567 v568 v569 v570 v572 v573
      | none => none
     else
      none
   | none => none
noncomputable def impl_natDiv_L6.b {α : Type} (N n : Nat) (v566 : Int) (v567 : List Int) (v568 : Int) (v569 : Int) (v570 : Int) (v571 : Int) (v572 : List Int) (v573 : List Int) (k0 : Int → List Int → Int → Int → Int → List Int → List Int → Option α) : Option α :=
  Nat.rec (motive := fun _ => Int → List Int → Int → Int → Int → Int → List Int → List Int → Option α) (fun _ _ _ _ _ _ _ _ => none) (fun _ next => impl_natDiv_L6r N next k0) n v566 v567 v568 v569 v570 v571 v572 v573
theorem impl_natDiv_L6.ex : ∃ f : ((α : Type) → Nat → Nat → Int → List Int → Int → Int → Int → Int → List Int → List Int → (Int → List Int → Int → Int → Int → List Int → List Int → Option α) → Option α), f = fun α => @impl_natDiv_L6.b α := ⟨_, rfl⟩
noncomputable def impl_natDiv_L6 {α : Type} : Nat → Nat → Int → List Int → Int → Int → Int → Int → List Int → List Int → (Int → List Int → Int → Int → Int → List Int → List Int → Option α) → Option α := Classical.choose impl_natDiv_L6.ex α
theorem impl_natDiv_L6.eq : @impl_natDiv_L6 = @impl_natDiv_L6.b := funext fun α => congrFun (Classical.choose_spec impl_natDiv_L6.ex) α
theorem impl_natDiv_L6.zero {α : Type} (N : Nat) (v566 : Int) (v567 : List Int) (v568 : Int) (v569 : Int) (v570 : Int) (v571 : Int) (v572 : List Int) (v573 : List Int) (k0 : Int → List Int → Int → Int → Int → List Int → List Int → Option α) : impl_natDiv_L6 N 0 v566 v567 v568 v569 v570 v571 v572 v573 k0 = none := by rw [impl_natDiv_L6.eq]; rfl
theorem impl_natDiv_L6.succ {α : Type} (N n : Nat) (v566 : Int) (v567 : List Int) (v568 : Int) (v569 : Int) (v570 : Int) (v571 : Int) (v572 : List Int) (v573 : List Int) (k0 : Int → List Int → Int → Int → Int → List Int → List Int → Option α) : impl_natDiv_L6 N (n + 1) v566 v567 v568 v569 v570 v571 v572 v573 k0 = impl_natDiv_L6r N (fun y0 y1 y2 y3 y4 y5 y6 y7 => impl_natDiv_L6 N n y0 y1 y2 y3 y4 y5 y6 y7 k0) k0 v566 v567 v568 v569 v570 v571 v572 v573 := by rw [impl_natDiv_L6.eq]; rfl
noncomputable def impl_natDiv_J34.b {α : Type} (N : Nat) (v620 : Int) (v621 : List Int) (v622 : Int) (v623 : Int) (v624 : Int) (v625 : Int) (v626 : Int) (v627 : Int) (v628 : List Int) (v629 : Int) (v630 : Int) (v631 : List Int) (v632 : List Int) (k0 : Int → List Int → Int → Int → Int → Int → Int → Int → List Int → Int → Int → List Int → List Int → Option α) : Option α :=
 let x633 := (decide (v627 < (0 : Int)))
 bif x633 then
  let x634 := IntKind.i64.wrap (0 - v627)
  let x635 := (IntKind.i64.wrap (x634 + (65536 : Int)))
  let x636 := (IntKind.i64.wrap (x635 - (1 : Int)))
  let x637 := (IntKind.i64.wrap (Int.tdiv x636 (65536 : Int)))
  let x638 := (IntKind.i64.wrap (x637 * (65536 : Int)))
  let x639 := IntKind.i64.wrap (v627 + x638)
  k0 v620 v621 v622 v623 v624 x637 v626 x639 v628 v629 v630 v631 v632
 else
  k0 v620 v621 v622 v623 v624 v625 v626 v627 v628 v629 v630 v631 v632
theorem impl_natDiv_J34.ex : ∃ f : ((α : Type) → Nat → Int → List Int → Int → Int → Int → Int → Int → Int → List Int → Int → Int → List Int → List Int → (Int → List Int → Int → Int → Int → Int → Int → Int → List Int → Int → Int → List Int → List Int → Option α) → Option α), f = fun α => @impl_natDiv_J34.b α := ⟨_, rfl⟩
noncomputable def impl_natDiv_J34 {α : Type} : Nat → Int → List Int → Int → Int → Int → Int → Int → Int → List Int → Int → Int → List Int → List Int → (Int → List Int → Int → Int → Int → Int → Int → Int → List Int → Int → Int → List Int → List Int → Option α) → Option α := Classical.choose impl_natDiv_J34.ex α
theorem impl_natDiv_J34.eq : @impl_natDiv_J34 = @impl_natDiv_J34.b := funext fun α => congrFun (Classical.choose_spec impl_natDiv_J34.ex) α
noncomputable def impl_natDiv_L8r {α : Type} (N : Nat) (next : Int → List Int → Int → Int → Int → Int → List Int → Int → Int → List Int → List Int → Option α) (k0 : Int → List Int → Int → Int → Int → Int → List Int → List Int → Option α) (v602 : Int) (v603 : List Int) (v604 : Int) (v605 : Int) (v606 : Int) (v607 : Int) (v608 : List Int) (v609 : Int) (v610 : Int) (v611 : List Int) (v612 : List Int) : Option α :=
 let x613 := decide (v610 < v609)
 bif x613 then
  bif (decide (v610 < (0 : Int))) then
   none
  else
   match v608[v610.toNat]? with
   | some x614 =>
    let x615 := IntKind.i64.wrap (v605 + v610)
    bif (decide (x615 < (0 : Int))) then
     none
    else
     bif decide (x615.toNat < v611.length) then
      match v611[x615.toNat]? with
      | some x616 =>
       let x617 := IntKind.i64.wrap (x616 - v607)
       let x618 := IntKind.i64.wrap (v606 * x614)
       let x619 := IntKind.i64.wrap (x617 - x618)
       impl_natDiv_J34 N v602 v603 v604 v605 v606 (0 : Int) v610 x619 v608 v609 v610 v611 v612
        (fun x640 x641 x642 x643 x644 x645 x646 x647 x648 x649 x650 x651 x652 =>
         let x653 := IntKind.i64.wrap (x643 + x646)
         bif (decide (x653 < (0 : Int))) then
          none
         else
          bif decide (x653.toNat < x651.length) then
           match x651[x653.toNat]? with
           | some x654 =>
            let x655 := x651.set x653.toNat x647
            let x656 := (IntKind.i64.wrap (x650 + (1 : Int)))
            next x640 x641 x642 x643 x644 x645 x648 x649 x656 x655 x652
           | none => none
          else
           none)
      | none => none
     else
      none
   | none => none
 else
  k0 v602 v603 v604 v605 v606 v607 v611 v612
noncomputable def impl_natDiv_L8.b {α : Type} (N n : Nat) (v602 : Int) (v603 : List Int) (v604 : Int) (v605 : Int) (v606 : Int) (v607 : Int) (v608 : List Int) (v609 : Int) (v610 : Int) (v611 : List Int) (v612 : List Int) (k0 : Int → List Int → Int → Int → Int → Int → List Int → List Int → Option α) : Option α :=
  Nat.rec (motive := fun _ => Int → List Int → Int → Int → Int → Int → List Int → Int → Int → List Int → List Int → Option α) (fun _ _ _ _ _ _ _ _ _ _ _ => none) (fun _ next => impl_natDiv_L8r N next k0) n v602 v603 v604 v605 v606 v607 v608 v609 v610 v611 v612
theorem impl_natDiv_L8.ex : ∃ f : ((α : Type) → Nat → Nat → Int → List Int → Int → Int → Int → Int → List Int → Int → Int → List Int → List Int → (Int → List Int → Int → Int → Int → Int → List Int → List Int → Option α) → Option α), f = fun α => @impl_natDiv_L8.b α := ⟨_, rfl⟩
noncomputable def impl_natDiv_L8 {α : Type} : Nat → Nat → Int → List Int → Int → Int → Int → Int → List Int → Int → Int → List Int → List Int → (Int → List Int → Int → Int → Int → Int → List Int → List Int → Option α) → Option α := Classical.choose impl_natDiv_L8.ex α
theorem impl_natDiv_L8.eq : @impl_natDiv_L8 = @impl_natDiv_L8.b := funext fun α => congrFun (Classical.choose_spec impl_natDiv_L8.ex) α
theorem impl_natDiv_L8.zero {α : Type} (N : Nat) (v602 : Int) (v603 : List Int) (v604 : Int) (v605 : Int) (v606 : Int) (v607 : Int) (v608 : List Int) (v609 : Int) (v610 : Int) (v611 : List Int) (v612 : List Int) (k0 : Int → List Int → Int → Int → Int → Int → List Int → List Int → Option α) : impl_natDiv_L8 N 0 v602 v603 v604 v605 v606 v607 v608 v609 v610 v611 v612 k0 = none := by rw [impl_natDiv_L8.eq]; rfl
theorem impl_natDiv_L8.succ {α : Type} (N n : Nat) (v602 : Int) (v603 : List Int) (v604 : Int) (v605 : Int) (v606 : Int) (v607 : Int) (v608 : List Int) (v609 : Int) (v610 : Int) (v611 : List Int) (v612 : List Int) (k0 : Int → List Int → Int → Int → Int → Int → List Int → List Int → Option α) : impl_natDiv_L8 N (n + 1) v602 v603 v604 v605 v606 v607 v608 v609 v610 v611 v612 k0 = impl_natDiv_L8r N (fun y0 y1 y2 y3 y4 y5 y6 y7 y8 y9 y10 => impl_natDiv_L8 N n y0 y1 y2 y3 y4 y5 y6 y7 y8 y9 y10 k0) k0 v602 v603 v604 v605 v606 v607 v608 v609 v610 v611 v612 := by rw [impl_natDiv_L8.eq]; rfl
noncomputable def impl_natDiv_L10r {α : Type} (N : Nat) (next : Int → List Int → Int → Int → Int → Int → List Int → Int → Int → List Int → List Int → Option α) (k0 : Int → List Int → Int → Int → Int → Int → List Int → List Int → Option α) (v682 : Int) (v683 : List Int) (v684 : Int) (v685 : Int) (v686 : Int) (v687 : Int) (v688 : List Int) (v689 : Int) (v690 : Int) (v691 : List Int) (v692 : List Int) : Option α :=
 let x693 := decide (v690 < v689)
 bif x693 then
  bif (decide (v690 < (0 : Int))) then
   none
  else
   match v688[v690.toNat]? with
   | some x694 =>
    let x695 := IntKind.i64.wrap (v685 + v690)
    bif (decide (x695 < (0 : Int))) then
     none
    else
     bif decide (x695.toNat < v691.length) then
      match v691[x695.toNat]? with
      | some x696 =>
       let x697 := IntKind.i64.wrap (x696 + x694)
       let x698 := IntKind.i64.wrap (x697 + v687)
       let x699 := IntKind.i64.wrap (v685 + v690)
       let x700 := (bitI .and .i64 x698 (65535 : Int))
       let x701 := (shrI .i64 x698 (16 : Int))
       bif (decide (x699 < (0 : Int))) then
        none
       else
        bif decide (x699.toNat < v691.length) then
         match v691[x699.toNat]? with
         | some x702 =>
          let x703 := v691.set x699.toNat x700
          let x704 := (IntKind.i64.wrap (v690 + (1 : Int)))
          next v682 v683 v684 v685 v686 x701 v688 v689 x704 x703 v692
         | none => none
        else
         none
      | none => none
     else
      none
   | none => none
 else
  k0 v682 v683 v684 v685 v686 v687 v691 v692
noncomputable def impl_natDiv_L10.b {α : Type} (N n : Nat) (v682 : Int) (v683 : List Int) (v684 : Int) (v685 : Int) (v686 : Int) (v687 : Int) (v688 : List Int) (v689 : Int) (v690 : Int) (v691 : List Int) (v692 : List Int) (k0 : Int → List Int → Int → Int → Int → Int → List Int → List Int → Option α) : Option α :=
  Nat.rec (motive := fun _ => Int → List Int → Int → Int → Int → Int → List Int → Int → Int → List Int → List Int → Option α) (fun _ _ _ _ _ _ _ _ _ _ _ => none) (fun _ next => impl_natDiv_L10r N next k0) n v682 v683 v684 v685 v686 v687 v688 v689 v690 v691 v692
theorem impl_natDiv_L10.ex : ∃ f : ((α : Type) → Nat → Nat → Int → List Int → Int → Int → Int → Int → List Int → Int → Int → List Int → List Int → (Int → List Int → Int → Int → Int → Int → List Int → List Int → Option α) → Option α), f = fun α => @impl_natDiv_L10.b α := ⟨_, rfl⟩
noncomputable def impl_natDiv_L10 {α : Type} : Nat → Nat → Int → List Int → Int → Int → Int → Int → List Int → Int → Int → List Int → List Int → (Int → List Int → Int → Int → Int → Int → List Int → List Int → Option α) → Option α := Classical.choose impl_natDiv_L10.ex α
theorem impl_natDiv_L10.eq : @impl_natDiv_L10 = @impl_natDiv_L10.b := funext fun α => congrFun (Classical.choose_spec impl_natDiv_L10.ex) α
theorem impl_natDiv_L10.zero {α : Type} (N : Nat) (v682 : Int) (v683 : List Int) (v684 : Int) (v685 : Int) (v686 : Int) (v687 : Int) (v688 : List Int) (v689 : Int) (v690 : Int) (v691 : List Int) (v692 : List Int) (k0 : Int → List Int → Int → Int → Int → Int → List Int → List Int → Option α) : impl_natDiv_L10 N 0 v682 v683 v684 v685 v686 v687 v688 v689 v690 v691 v692 k0 = none := by rw [impl_natDiv_L10.eq]; rfl
theorem impl_natDiv_L10.succ {α : Type} (N n : Nat) (v682 : Int) (v683 : List Int) (v684 : Int) (v685 : Int) (v686 : Int) (v687 : Int) (v688 : List Int) (v689 : Int) (v690 : Int) (v691 : List Int) (v692 : List Int) (k0 : Int → List Int → Int → Int → Int → Int → List Int → List Int → Option α) : impl_natDiv_L10 N (n + 1) v682 v683 v684 v685 v686 v687 v688 v689 v690 v691 v692 k0 = impl_natDiv_L10r N (fun y0 y1 y2 y3 y4 y5 y6 y7 y8 y9 y10 => impl_natDiv_L10 N n y0 y1 y2 y3 y4 y5 y6 y7 y8 y9 y10 k0) k0 v682 v683 v684 v685 v686 v687 v688 v689 v690 v691 v692 := by rw [impl_natDiv_L10.eq]; rfl
noncomputable def impl_natDiv_J40.b {α : Type} (N : Nat) (v670 : Int) (v671 : List Int) (v672 : Int) (v673 : Int) (v674 : Int) (v675 : List Int) (v676 : List Int) (k0 : Int → List Int → Int → Int → Int → List Int → List Int → Option α) : Option α :=
 let x677 := IntKind.i64.wrap (v673 + v672)
 bif (decide (x677 < (0 : Int))) then
  none
 else
  bif decide (x677.toNat < v675.length) then
   match v675[x677.toNat]? with
   | some x678 =>
    let x679 := (decide (x678 < (0 : Int)))
    bif x679 then
     let x680 := (IntKind.i64.wrap (v674 - (1 : Int)))
     let x681 := ((v671.length : Nat) : Int)
     impl_natDiv_L10 N N v670 v671 v672 v673 x680 (0 : Int) v671 x681 (0 : Int) v675 v676
      (fun x705 x706 x707 x708 x709 x710 x711 x712 =>
       let x713 := IntKind.i64.wrap (x708 + x707)
       bif (decide (x713 < (0 : Int))) then
        none
       else
        bif decide (x713.toNat < x711.length) then
         match x711[x713.toNat]? with
         | some x714 =>
          let x715 := IntKind.i64.wrap (x714 + x710)
          bif (decide (x713 < (0 : Int))) then
           none
          else
           bif decide (x713.toNat < x711.length) then
            match x711[x713.toNat]? with
            | some x716 =>
             let x717 := x711.set x713.toNat x715
             k0 x705 x706 x707 x708 x709 x717 x712
            | none => none
           else
            none
         | none => none
        else
         none)
    else
     k0 v670 v671 v672 v673 v674 v675 v676
   | none => none
  else
   none
theorem impl_natDiv_J40.ex : ∃ f : ((α : Type) → Nat → Int → List Int → Int → Int → Int → List Int → List Int → (Int → List Int → Int → Int → Int → List Int → List Int → Option α) → Option α), f = fun α => @impl_natDiv_J40.b α := ⟨_, rfl⟩
noncomputable def impl_natDiv_J40 {α : Type} : Nat → Int → List Int → Int → Int → Int → List Int → List Int → (Int → List Int → Int → Int → Int → List Int → List Int → Option α) → Option α := Classical.choose impl_natDiv_J40.ex α
theorem impl_natDiv_J40.eq : @impl_natDiv_J40 = @impl_natDiv_J40.b := funext fun α => congrFun (Classical.choose_spec impl_natDiv_J40.ex) α
noncomputable def impl_natDiv_L4r {α : Type} (N : Nat) (next : Int → List Int → Int → Int → List Int → List Int → Option α) (k0 : Int → List Int → List Int → Option α) (v546 : Int) (v547 : List Int) (v548 : Int) (v549 : Int) (v550 : List Int) (v551 : List Int) : Option α :=
 let x552 := (decide ((0 : Int) ≤ v549))
 bif x552 then
  let x553 := IntKind.i64.wrap (v549 + v548)
  bif (decide (x553 < (0 : Int))) then
   none
  else
   bif decide (x553.toNat < v550.length) then
    match v550[x553.toNat]? with
    | some x554 =>
     let x555 := (shlI .i64 x554 (16 : Int))
     let x556 := IntKind.i64.wrap (v549 + v548)
     let x557 := (IntKind.i64.wrap (x556 - (1 : Int)))
     bif (decide (x557 < (0 : Int))) then
      none
     else
      bif decide (x557.toNat < v550.length) then
       match v550[x557.toNat]? with
       | some x558 =>
        let x559 := bitI .or .i64 x555 x558
        let x560 := (IntKind.i64.wrap (v548 - (1 : Int)))
        bif (decide (x560 < (0 : Int))) then
         none
        else
         match v547[x560.toNat]? with
         | some x561 =>
          bif (decide (x561 = (0 : Int))) then
           none
          else
           let x562 := IntKind.i64.wrap (Int.tdiv x559 x561)
           let x563 := (IntKind.i64.wrap (v548 - (1 : Int)))
           bif (decide (x563 < (0 : Int))) then
            none
           else
            match v547[x563.toNat]? with
            | some x564 =>
             bif (decide (x564 = (0 : Int))) then
              none
             else
              let x565 := Int.tmod x559 x564
              impl_natDiv_L6 N N v546 v547 v548 v549 x562 x565 v550 v551
               (fun x594 x595 x596 x597 x598 x599 x600 =>
                let x601 := ((x595.length : Nat) : Int)
                impl_natDiv_L8 N N x594 x595 x596 x597 x598 (0 : Int) x595 x601 (0 : Int) x599 x600
                 (fun x657 x658 x659 x660 x661 x662 x663 x664 =>
                  let x665 := IntKind.i64.wrap (x660 + x659)
                  bif (decide (x665 < (0 : Int))) then
                   none
                  else
                   bif decide (x665.toNat < x663.length) then
                    match x663[x665.toNat]? with
                    | some x666 =>
                     let x667 := IntKind.i64.wrap (x666 - x662)
                     bif (decide (x665 < (0 : Int))) then
                      none
                     else
                      bif decide (x665.toNat < x663.length) then
                       match x663[x665.toNat]? with
                       | some x668 =>
                        let x669 := x663.set x665.toNat x667
                        impl_natDiv_J40 N x657 x658 x659 x660 x661 x669 x664
                         (fun x718 x719 x720 x721 x722 x723 x724 =>
                          bif (decide (x721 < (0 : Int))) then
                           none
                          else
                           bif decide (x721.toNat < x724.length) then
                            match x724[x721.toNat]? with
                            | some x725 =>
                             let x726 := x724.set x721.toNat x722
                             let x727 := (IntKind.i64.wrap (x721 - (1 : Int)))
                             next x718 x719 x720 x727 x723 x726
                            | none => none
                           else
                            none)
                       | none => none
                      else
                       none
                    | none => none
                   else
                    none))
            | none => none
         | none => none
       | none => none
      else
       none
    | none => none
   else
    none
 else
  k0 v546 v550 v551
noncomputable def impl_natDiv_L4.b {α : Type} (N n : Nat) (v546 : Int) (v547 : List Int) (v548 : Int) (v549 : Int) (v550 : List Int) (v551 : List Int) (k0 : Int → List Int → List Int → Option α) : Option α :=
  Nat.rec (motive := fun _ => Int → List Int → Int → Int → List Int → List Int → Option α) (fun _ _ _ _ _ _ => none) (fun _ next => impl_natDiv_L4r N next k0) n v546 v547 v548 v549 v550 v551
theorem impl_natDiv_L4.ex : ∃ f : ((α : Type) → Nat → Nat → Int → List Int → Int → Int → List Int → List Int → (Int → List Int → List Int → Option α) → Option α), f = fun α => @impl_natDiv_L4.b α := ⟨_, rfl⟩
noncomputable def impl_natDiv_L4 {α : Type} : Nat → Nat → Int → List Int → Int → Int → List Int → List Int → (Int → List Int → List Int → Option α) → Option α := Classical.choose impl_natDiv_L4.ex α
theorem impl_natDiv_L4.eq : @impl_natDiv_L4 = @impl_natDiv_L4.b := funext fun α => congrFun (Classical.choose_spec impl_natDiv_L4.ex) α
theorem impl_natDiv_L4.zero {α : Type} (N : Nat) (v546 : Int) (v547 : List Int) (v548 : Int) (v549 : Int) (v550 : List Int) (v551 : List Int) (k0 : Int → List Int → List Int → Option α) : impl_natDiv_L4 N 0 v546 v547 v548 v549 v550 v551 k0 = none := by rw [impl_natDiv_L4.eq]; rfl
theorem impl_natDiv_L4.succ {α : Type} (N n : Nat) (v546 : Int) (v547 : List Int) (v548 : Int) (v549 : Int) (v550 : List Int) (v551 : List Int) (k0 : Int → List Int → List Int → Option α) : impl_natDiv_L4 N (n + 1) v546 v547 v548 v549 v550 v551 k0 = impl_natDiv_L4r N (fun y0 y1 y2 y3 y4 y5 => impl_natDiv_L4 N n y0 y1 y2 y3 y4 y5 k0) k0 v546 v547 v548 v549 v550 v551 := by rw [impl_natDiv_L4.eq]; rfl
/-- impl.natDiv -/
noncomputable def impl_natDiv.b {α : Type} (N : Nat) (a317 : List Int) (a318 : List Int) (k0 : List Int → List Int → Option α) : Option α :=
 impl_natCmp N a317 a318
  (fun x319 =>
   let x320 := (decide (x319 < (0 : Int)))
   bif x320 then
    k0 [] a317
   else
    let x321 := ((a318.length : Nat) : Int)
    let x322 := (decide (x321 = (1 : Int)))
    bif x322 then
     let x323 := ((a317.length : Nat) : Int)
     bif (decide ((0 : Int) ≤ x323)) then
      bif decide (x323 ≤ x323) then
       bif (decide (x323 ≤ ((8796093022208 : Nat) : Int))) then
        let x324 := (List.replicate x323.toNat (0 : Int))
        let x325 := ((a317.length : Nat) : Int)
        let x326 := (IntKind.i64.wrap (x325 - (1 : Int)))
        impl_natDiv_L0 N N a317 a318 (0 : Int) x326 x324
         (fun x343 x344 =>
          impl_trim N x344
           (fun x345 =>
            let x346 := [x343]
            impl_trim N x346
             (fun x347 =>
              k0 x345 x347)))
       else
        none
      else
       none
     else
      none
    else
     let x348 := ((a318.length : Nat) : Int)
     let x349 := (IntKind.i64.wrap (x348 - (1 : Int)))
     bif (decide (x349 < (0 : Int))) then
      none
     else
      match a318[x349.toNat]? with
      | some x350 =>
       let x351 := IntKind.u64.wrap x350
       math_bits_Len N x351
        (fun x380 =>
         let x381 := (IntKind.i64.wrap ((16 : Int) - x380))
         impl_natShift N a318 x381
          (fun x519 =>
           impl_natShift N a317 x381
            (fun x520 =>
             slices_Clone_int_int N x520
              (fun x521 =>
               let x522 := [(0 : Int)]
               bif decide (x521.length + x522.length ≤ 8796093022208) then
                let x523 := x521 ++ x522
                let x524 := ((x519.length : Nat) : Int)
                impl_natDiv_L2 N N a317 x381 x519 x524 x523
                 (fun x536 x537 x538 x539 =>
                  let x540 := ((x539.length : Nat) : Int)
                  let x541 := IntKind.i64.wrap (x540 - x538)
                  bif (decide ((0 : Int) ≤ x541)) then
                   bif decide (x541 ≤ x541) then
                    bif (decide (x541 ≤ ((8796093022208 : Nat) : Int))) then
                     let x542 := (List.replicate x541.toNat (0 : Int))
                     let x543 := ((x539.length : Nat) : Int)
                     let x544 := IntKind.i64.wrap (x543 - x538)
                     let x545 := (IntKind.i64.wrap (x544 - (1 : Int)))
                     impl_natDiv_L4 N N x536 x537 x538 x545 x539 x542
                      (fun x728 x729 x730 =>
                       impl_trim N x730
                        (fun x731 =>
                         impl_trim N x729
                          (fun x732 =>
                           let x733 := IntKind.i64.wrap (0 - x728)
                           impl_natShift N x732 x733
                            (fun x734 =>
                             k0 x731 x734))))
                    else
                     none
                   else
                    none
                  else
                   none)
               else
                none))))
      | none => none)
theorem impl_natDiv.ex : ∃ f : ((α : Type) → Nat → List Int → List Int → (List Int → List Int → Option α) → Option α), f = fun α => @impl_natDiv.b α := ⟨_, rfl⟩
noncomputable def impl_natDiv {α : Type} : Nat → List Int → List Int → (List Int → List Int → Option α) → Option α := Classical.choose impl_natDiv.ex α
theorem impl_natDiv.eq : @impl_natDiv = @impl_natDiv.b := funext fun α => congrFun (Classical.choose_spec impl_natDiv.ex) α

/-- impl.NatDiv -/
noncomputable def impl_NatDiv.b {α : Type} (N : Nat) (a279 : List Int) (a280 : List Int) (k0 : Bool → List Int → List Int → Option α) : Option α :=
 let x281 := [a279, a280]
 impl_nats N x281
  (fun x282 =>
   let x283 := !x282
   bif x283 then
    k0 false [] []
   else
    let x284 := ((a280.length : Nat) : Int)
    let x285 := (decide (x284 = (0 : Int)))
    bif x285 then
     k0 false [] []
    else
     impl_natDiv N a279 a280
      (fun x735 x736 =>
       impl_clone_int N x735
        (fun x737 =>
         impl_clone_int N x736
          (fun x738 =>
           k0 true x737 x738))))
theorem impl_NatDiv.ex : ∃ f : ((α : Type) → Nat → List Int → List Int → (Bool → List Int → List Int → Option α) → Option α), f = fun α => @impl_NatDiv.b α := ⟨_, rfl⟩
noncomputable def impl_NatDiv {α : Type} : Nat → List Int → List Int → (Bool → List Int → List Int → Option α) → Option α := Classical.choose impl_NatDiv.ex α
theorem impl_NatDiv.eq : @impl_NatDiv = @impl_NatDiv.b := funext fun α => congrFun (Classical.choose_spec impl_NatDiv.ex) α

noncomputable def impl_natAdd_L0r {α : Type} (N : Nat) (next : List Int → Int → Int → List Int → Option α) (k0 : List Int → Option α) (v773 : List Int) (v774 : Int) (v775 : Int) (v776 : List Int) : Option α :=
 let x777 := decide (v775 < v774)
 bif x777 then
  bif (decide (v775 < (0 : Int))) then
   none
  else
   match v773[v775.toNat]? with
   | some x778 =>
    bif (decide (v775 < (0 : Int))) then
     none
    else
     bif decide (v775.toNat < v776.length) then
      match v776[v775.toNat]? with
      | some x779 =>
       let x780 := IntKind.i64.wrap (x779 + x778)
       bif (decide (v775 < (0 : Int))) then
        none
       else
        bif decide (v775.toNat < v776.length) then
         match v776[v775.toNat]? with
         | some x781 =>
          let x782 := v776.set v775.toNat x780
          let x783 := (IntKind.i64.wrap (v775 + (1 : Int)))
          next v773 v774 x783 x782
         | none => none
        else
         none
      | none => none
     else
      none
   | none => none
 else
  k0 v776
noncomputable def impl_natAdd_L0.b {α : Type} (N n : Nat) (v773 : List Int) (v774 : Int) (v775 : Int) (v776 : List Int) (k0 : List Int → Option α) : Option α :=
  Nat.rec (motive := fun _ => List Int → Int → Int → List Int → Option α) (fun _ _ _ _ => none) (fun _ next => impl_natAdd_L0r N next k0) n v773 v774 v775 v776
theorem impl_natAdd_L0.ex : ∃ f : ((α : Type) → Nat → Nat → List Int → Int → Int → List Int → (List Int → Option α) → Option α), f = fun α => @impl_natAdd_L0.b α := ⟨_, rfl⟩
noncomputable def impl_natAdd_L0 {α : Type} : Nat → Nat → List Int → Int → Int → List Int → (List Int → Option α) → Option α := Classical.choose impl_natAdd_L0.ex α
theorem impl_natAdd_L0.eq : @impl_natAdd_L0 = @impl_natAdd_L0.b := funext fun α => congrFun (Classical.choose_spec impl_natAdd_L0.ex) α
theorem impl_natAdd_L0.zero {α : Type} (N : Nat) (v773 : List Int) (v774 : Int) (v775 : Int) (v776 : List Int) (k0 : List Int → Option α) : impl_natAdd_L0 N 0 v773 v774 v775 v776 k0 = none := by rw [impl_natAdd_L0.eq]; rfl
theorem impl_natAdd_L0.succ {α : Type} (N n : Nat) (v773 : List Int) (v774 : Int) (v775 : Int) (v776 : List Int) (k0 : List Int → Option α) : impl_natAdd_L0 N (n + 1) v773 v774 v775 v776 k0 = impl_natAdd_L0r N (fun y0 y1 y2 y3 => impl_natAdd_L0 N n y0 y1 y2 y3 k0) k0 v773 v774 v775 v776 := by rw [impl_natAdd_L0.eq]; rfl
noncomputable def impl_natAdd_L2r {α : Type} (N : Nat) (next : Int → Int → List Int → Option α) (k0 : List Int → Option α) (v787 : Int) (v788 : Int) (v789 : List Int) : Option α :=
 let x790 := decide (v788 < v787)
 bif x790 then
  let x791 := (IntKind.i64.wrap (v788 + (1 : Int)))
  bif (decide (x791 < (0 : Int))) then
   none
  else
   bif decide (x791.toNat < v789.length) then
    match v789[x791.toNat]? with
    | some x792 =>
     bif (decide (v788 < (0 : Int))) then
      none
     else
      bif decide (v788.toNat < v789.length) then
       match v789[v788.toNat]? with
       | some x793 =>
        let x794 := (shrI .i64 x793 (16 : Int))
        let x795 := IntKind.i64.wrap (x792 + x794)
        bif (decide (x791 < (0 : Int))) then
         none
        else
         bif decide (x791.toNat < v789.length) then
          match v789[x791.toNat]? with
          | some x796 =>
           let x797 := v789.set x791.toNat x795
           bif (decide (v788 < (0 : Int))) then
            none
           else
            bif decide (v788.toNat < x797.length) then
             match x797[v788.toNat]? with
             | some x798 =>
              let x799 := (bitI .and .i64 x798 (65535 : Int))
              bif (decide (v788 < (0 : Int))) then
               none
              else
               bif decide (v788.toNat < x797.length) then
                match x797[v788.toNat]? with
                | some x800 =>
                 let x801 := x797.set v788.toNat x799
                 let x802 := (IntKind.i64.wrap (v788 + (1 : Int)))
                 next v787 x802 x801
                | none => none
               else
                none
             | none => none
            else
             none
          | none => none
         else
          none
       | none => none
      else
       none
    | none => none
   else
    none
 else
  k0 v789
noncomputable def impl_natAdd_L2.b {α : Type} (N n : Nat) (v787 : Int) (v788 : Int) (v789 : List Int) (k0 : List Int → Option α) : Option α :=
  Nat.rec (motive := fun _ => Int → Int → List Int → Option α) (fun _ _ _ => none) (fun _ next => impl_natAdd_L2r N next k0) n v787 v788 v789
theorem impl_natAdd_L2.ex : ∃ f : ((α : Type) → Nat → Nat → Int → Int → List Int → (List Int → Option α) → Option α), f = fun α => @impl_natAdd_L2.b α := ⟨_, rfl⟩
noncomputable def impl_natAdd_L2 {α : Type} : Nat → Nat → Int → Int → List Int → (List Int → Option α) → Option α := Classical.choose impl_natAdd_L2.ex α
theorem impl_natAdd_L2.eq : @impl_natAdd_L2 = @impl_natAdd_L2.b := funext fun α => congrFun (Classical.choose_spec impl_natAdd_L2.ex) α
theorem impl_natAdd_L2.zero {α : Type} (N : Nat) (v787 : Int) (v788 : Int) (v789 : List Int) (k0 : List Int → Option α) : impl_natAdd_L2 N 0 v787 v788 v789 k0 = none := by rw [impl_natAdd_L2.eq]; rfl
theorem impl_natAdd_L2.succ {α : Type} (N n : Nat) (v787 : Int) (v788 : Int) (v789 : List Int) (k0 : List Int → Option α) : impl_natAdd_L2 N (n + 1) v787 v788 v789 k0 = impl_natAdd_L2r N (fun y0 y1 y2 => impl_natAdd_L2 N n y0 y1 y2 k0) k0 v787 v788 v789 := by rw [impl_natAdd_L2.eq]; rfl
/-- impl.natAdd -/
noncomputable def impl_natAdd.b {α : Type} (N : Nat) (a763 : List Int) (a764 : List Int) (k0 : List Int → Option α) : Option α :=
 let x765 := ((a763.length : Nat) : Int)
 let x766 := ((a764.length : Nat) : Int)
 let x767 := maxI x765 x766
 let x768 := (IntKind.i64.wrap (x767 + (1 : Int)))
 bif (decide ((0 : Int) ≤ x768)) then
  bif decide (x768 ≤ x768) then
   bif (decide (x768 ≤ ((8796093022208 : Nat) : Int))) then
    let x769 := (List.replicate x768.toNat (0 : Int))
    let x770 := List.take (min a763.length x769.length) a763 ++ List.drop (min a763.length x769.length) x769
    let x772 := ((a764.length : Nat) : Int)
    impl_natAdd_L0 N N a764 x772 (0 : Int) x770
     (fun x784 =>
      let x785 := ((x784.length : Nat) : Int)
      let x786 := (IntKind.i64.wrap (x785 - (1 : Int)))
      impl_natAdd_L2 N N x786 (0 : Int) x784
       (fun x803 =>
        impl_trim N x803
         (fun x804 =>
          k0 x804)))
   else
    none
  else
   none
 else
  none
theorem impl_natAdd.ex : ∃ f : ((α : Type) → Nat → List Int → List Int → (List Int → Option α) → Option α), f = fun α => @impl_natAdd.b α := ⟨_, rfl⟩
noncomputable def impl_natAdd {α : Type} : Nat → List Int → List Int → (List Int → Option α) → Option α := Classical.choose impl_natAdd.ex α
theorem impl_natAdd.eq : @impl_natAdd = @impl_natAdd.b := funext fun α => congrFun (Classical.choose_spec impl_natAdd.ex) α

/-- impl.NatAdd -/
noncomputable def impl_NatAdd.b {α : Type} (N : Nat) (a758 : List Int) (a759 : List Int) (k0 : Bool → List Int → Option α) : Option α :=
 let x760 := [a758, a759]
 impl_nats N x760
  (fun x761 =>
   let x762 := !x761
   bif x762 then
    k0 false []
   else
    impl_natAdd N a758 a759
     (fun x805 =>
      impl_told N x805 true
       (fun x806 x807 =>
        k0 x806 x807)))
theorem impl_NatAdd.ex : ∃ f : ((α : Type) → Nat → List Int → List Int → (Bool → List Int → Option α) → Option α), f = fun α => @impl_NatAdd.b α := ⟨_, rfl⟩
noncomputable def impl_NatAdd {α : Type} : Nat → List Int → List Int → (Bool → List Int → Option α) → Option α := Classical.choose impl_NatAdd.ex α
theorem impl_NatAdd.eq : @impl_NatAdd = @impl_NatAdd.b := funext fun α => congrFun (Classical.choose_spec impl_NatAdd.ex) α

noncomputable def laws_FnNatSmall_J13.b {α : Type} (N : Nat) (v185 : Int) (v186 : Int) (v187 : List Int) (v188 : List Int) (k0 : Bool → Option α) (k1 : Int → Int → List Int → List Int → Option α) : Option α :=
 let x189 := decide (v186 ≤ v185)
 bif x189 then
  impl_NatSub N v187 v188
   (fun x261 x262 =>
    impl_NatSmall N x262
     (fun x263 x264 =>
      let x265 := !x261
      bif x265 then
       k0 false
      else
       let x266 := !x264
       bif x266 then
        k0 false
       else
        let x267 := IntKind.u64.wrap (v185 - v186)
        let x268 := !(decide (x263 = x267))
        bif x268 then
         k0 false
        else
         k1 v185 v186 v187 v188))
 else
  k1 v185 v186 v187 v188
theorem laws_FnNatSmall_J13.ex : ∃ f : ((α : Type) → Nat → Int → Int → List Int → List Int → (Bool → Option α) → (Int → Int → List Int → List Int → Option α) → Option α), f = fun α => @laws_FnNatSmall_J13.b α := ⟨_, rfl⟩
noncomputable def laws_FnNatSmall_J13 {α : Type} : Nat → Int → Int → List Int → List Int → (Bool → Option α) → (Int → Int → List Int → List Int → Option α) → Option α := Classical.choose laws_FnNatSmall_J13.ex α
theorem laws_FnNatSmall_J13.eq : @laws_FnNatSmall_J13 = @laws_FnNatSmall_J13.b := funext fun α => congrFun (Classical.choose_spec laws_FnNatSmall_J13.ex) α
noncomputable def laws_FnNatSmall_J18.b {α : Type} (N : Nat) (v274 : Int) (v275 : Int) (v276 : List Int) (v277 : List Int) (k0 : Bool → Option α) (k1 : Int → Int → List Int → List Int → Option α) : Option α :=
 let x278 := (decide ((0 : Int) < v275))
 bif x278 then
  impl_NatDiv N v276 v277
   (fun x739 x740 x741 =>
    impl_NatSmall N x740
     (fun x742 x743 =>
      impl_NatSmall N x741
       (fun x744 x745 =>
        let x746 := !x739
        bif x746 then
         k0 false
        else
         let x747 := !x743
         bif x747 then
          k0 false
         else
          let x748 := !x745
          bif x748 then
           k0 false
          else
           bif (decide (v275 = (0 : Int))) then
            none
           else
            let x749 := IntKind.u64.wrap (Int.tdiv v274 v275)
            let x750 := !(decide (x742 = x749))
            bif x750 then
             k0 false
            else
             bif (decide (v275 = (0 : Int))) then
              none
             else
              let x751 := Int.tmod v274 v275
              let x752 := !(decide (x744 = x751))
              bif x752 then
               k0 false
              else
               k1 v274 v275 v276 v277)))
 else
  k1 v274 v275 v276 v277
theorem laws_FnNatSmall_J18.ex : ∃ f : ((α : Type) → Nat → Int → Int → List Int → List Int → (Bool → Option α) → (Int → Int → List Int → List Int → Option α) → Option α), f = fun α => @laws_FnNatSmall_J18.b α := ⟨_, rfl⟩
noncomputable def laws_FnNatSmall_J18 {α : Type} : Nat → Int → Int → List Int → List Int → (Bool → Option α) → (Int → Int → List Int → List Int → Option α) → Option α := Classical.choose laws_FnNatSmall_J18.ex α
theorem laws_FnNatSmall_J18.eq : @laws_FnNatSmall_J18 = @laws_FnNatSmall_J18.b := funext fun α => congrFun (Classical.choose_spec laws_FnNatSmall_J18.ex) α
/-- laws.FnNatSmall -/
noncomputable def laws_FnNatSmall.b {α : Type} (N : Nat) (a1 : List Int) (a2 : List Int) (k0 : Bool → Option α) : Option α :=
 let x3 := ((a1.length : Nat) : Int)
 let x4 := (decide ((1048576 : Int) < x3))
 bif x4 then
  k0 true
 else
  let x5 := ((a2.length : Nat) : Int)
  let x6 := (decide ((1048576 : Int) < x5))
  bif x6 then
   k0 true
  else
   spec_DrawNatOf N a1
    (fun x63 =>
     spec_DrawNatOf N a2
      (fun x64 =>
       impl_NatOf N x63
        (fun x85 =>
         impl_NatOf N x64
          (fun x86 =>
           impl_NatSmall N x85
            (fun x121 x122 =>
             let x123 := !x122
             bif x123 then
              k0 false
             else
              let x124 := !(decide (x121 = x63))
              bif x124 then
               k0 false
              else
               impl_NatOk N x85
                (fun x125 =>
                 let x126 := !x125
                 bif x126 then
                  k0 false
                 else
                  impl_NatCmp N x85 x86
                   (fun x178 =>
                    let x179 := (decide (x178 = (-1 : Int)))
                    let x180 := decide (x63 < x64)
                    let x181 := !(x179 == x180)
                    bif x181 then
                     k0 false
                    else
                     let x182 := (decide (x178 = (0 : Int)))
                     let x183 := decide (x63 = x64)
                     let x184 := !(x182 == x183)
                     bif x184 then
                      k0 false
                     else
                      laws_FnNatSmall_J13 N x63 x64 x85 x86
                       (fun x269 =>
                        k0 x269)
                       (fun x270 x271 x272 x273 =>
                        laws_FnNatSmall_J18 N x270 x271 x272 x273
                         (fun x753 =>
                          k0 x753)
                         (fun x754 x755 x756 x757 =>
                          impl_NatAdd N x756 x757
                           (fun x808 x809 =>
                            impl_NatSmall N x809
                             (fun x810 x811 =>
                              bif x808 then
                               let x812 := IntKind.u64.wrap (x754 + x755)
                               let x813 := decide (x754 ≤ x812)
                               let x814 := x811 == x813
                               bif x814 then
                                let x815 := !x811
                                bif x815 then
                                 k0 true
                                else
                                 let x816 := IntKind.u64.wrap (x754 + x755)
                                 let x817 := decide (x810 = x816)
                                 k0 x817
                               else
                                k0 false
                              else
                               k0 false)))))))))))
theorem laws_FnNatSmall.ex : ∃ f : ((α : Type) → Nat → List Int → List Int → (Bool → Option α) → Option α), f = fun α => @laws_FnNatSmall.b α := ⟨_, rfl⟩
noncomputable def laws_FnNatSmall {α : Type} : Nat → List Int → List Int → (Bool → Option α) → Option α := Classical.choose laws_FnNatSmall.ex α
theorem laws_FnNatSmall.eq : @laws_FnNatSmall = @laws_FnNatSmall.b := funext fun α => congrFun (Classical.choose_spec laws_FnNatSmall.ex) α

end
end Go.Proofs.YtgabephijgjogaaAm
