/-
  The functions that the program computes, as the abstract machine tells them. Printed by amp.py.
-/
import Derived.Test.YtnhbcpmmdblkjaaGreatDoorAmc
namespace Go.Proofs.YtnhbcpmmdblkjaaGreatDoorAm
open Go
noncomputable section
set_option linter.unusedVariables false
set_option linter.unusedSimpArgs false

noncomputable def spec_l32Open_J1.b {α : Type} (N : Nat) (v6 : List Int) (k0 : List Int → Option α) : Option α :=
 let x7 := ((v6.length : Nat) : Int)
 let x8 := (decide ((2000 : Int) < x7))
 bif x8 then
  bif (decide ((2000 : Int) ≤ ((v6.length : Nat) : Int))) then
   let x9 := v6.take 2000
   k0 x9
  else
   none
 else
  k0 v6
theorem spec_l32Open_J1.ex : ∃ f : ((α : Type) → Nat → List Int → (List Int → Option α) → Option α), f = fun α => @spec_l32Open_J1.b α := ⟨_, rfl⟩
noncomputable def spec_l32Open_J1 {α : Type} : Nat → List Int → (List Int → Option α) → Option α := Classical.choose spec_l32Open_J1.ex α
theorem spec_l32Open_J1.eq : @spec_l32Open_J1 = @spec_l32Open_J1.b := funext fun α => congrFun (Classical.choose_spec spec_l32Open_J1.ex) α
/-- spec.l32Open -/
noncomputable def spec_l32Open.b {α : Type} (N : Nat) (a5 : List Int) (k0 : ((List Int) × Int × Unit) → Option α) : Option α :=
 spec_l32Open_J1 N a5
  (fun x10 =>
   k0 (x10, ((0 : Int), ())))
theorem spec_l32Open.ex : ∃ f : ((α : Type) → Nat → List Int → (((List Int) × Int × Unit) → Option α) → Option α), f = fun α => @spec_l32Open.b α := ⟨_, rfl⟩
noncomputable def spec_l32Open {α : Type} : Nat → List Int → (((List Int) × Int × Unit) → Option α) → Option α := Classical.choose spec_l32Open.ex α
theorem spec_l32Open.eq : @spec_l32Open = @spec_l32Open.b := funext fun α => congrFun (Classical.choose_spec spec_l32Open.ex) α

/-- (*spec.l32Rd).pick -/
noncomputable def spec_l32Rd_pick.b {α : Type} (N : Nat) (a15 : Int) (a16 : (List Int) × Int × Unit) (k0 : Int → ((List Int) × Int × Unit) → Option α) : Option α :=
 let x17 := (IntKind.i64.wrap (a16.2.1 + (1 : Int)))
 let x18 := (decide (a15 < (1 : Int)))
 bif x18 then
  k0 (0 : Int) (a16.1, (x17, ()))
 else
  let x19 := ((a16.1.length : Nat) : Int)
  let x20 := (decide (x19 = (0 : Int)))
  bif x20 then
   k0 (0 : Int) (a16.1, (x17, ()))
  else
   let x21 := (IntKind.i64.wrap (x17 - (1 : Int)))
   let x22 := ((a16.1.length : Nat) : Int)
   let x23 := decide (x21 < x22)
   bif x23 then
    bif (decide (x21 < (0 : Int))) then
     none
    else
     match a16.1[x21.toNat]? with
     | some x24 =>
      let x25 := IntKind.i64.wrap x24
      bif (decide (a15 = (0 : Int))) then
       none
      else
       let x26 := Int.tmod x25 a15
       k0 x26 (a16.1, (x17, ()))
     | none => none
   else
    let x27 := ((a16.1.length : Nat) : Int)
    bif (decide (x27 = (0 : Int))) then
     none
    else
     let x28 := Int.tmod x21 x27
     bif (decide (x28 < (0 : Int))) then
      none
     else
      match a16.1[x28.toNat]? with
      | some x29 =>
       let x30 := IntKind.i64.wrap x29
       let x31 := (IntKind.i64.wrap (x30 * (131 : Int)))
       let x32 := (IntKind.i64.wrap (x21 * (7 : Int)))
       let x33 := (IntKind.i64.wrap (x32 + (3 : Int)))
       let x34 := ((a16.1.length : Nat) : Int)
       bif (decide (x34 = (0 : Int))) then
        none
       else
        let x35 := Int.tmod x33 x34
        bif (decide (x35 < (0 : Int))) then
         none
        else
         match a16.1[x35.toNat]? with
         | some x36 =>
          let x37 := IntKind.i64.wrap x36
          let x38 := (IntKind.i64.wrap (x37 * (1117 : Int)))
          let x39 := IntKind.i64.wrap (x31 + x38)
          let x40 := (IntKind.i64.wrap (x21 * (29 : Int)))
          let x41 := IntKind.i64.wrap (x39 + x40)
          let x42 := ((a16.1.length : Nat) : Int)
          bif (decide (x42 = (0 : Int))) then
           none
          else
           let x43 := IntKind.i64.wrap (Int.tdiv x21 x42)
           let x44 := (IntKind.i64.wrap (x43 * (53 : Int)))
           let x45 := IntKind.i64.wrap (x41 + x44)
           let x46 := (IntKind.i64.wrap (Int.tdiv x45 (64 : Int)))
           let x47 := bitI .xor .i64 x45 x46
           bif (decide (a15 = (0 : Int))) then
            none
           else
            let x48 := Int.tmod x47 a15
            k0 x48 (a16.1, (x17, ()))
         | none => none
      | none => none
theorem spec_l32Rd_pick.ex : ∃ f : ((α : Type) → Nat → Int → ((List Int) × Int × Unit) → (Int → ((List Int) × Int × Unit) → Option α) → Option α), f = fun α => @spec_l32Rd_pick.b α := ⟨_, rfl⟩
noncomputable def spec_l32Rd_pick {α : Type} : Nat → Int → ((List Int) × Int × Unit) → (Int → ((List Int) × Int × Unit) → Option α) → Option α := Classical.choose spec_l32Rd_pick.ex α
theorem spec_l32Rd_pick.eq : @spec_l32Rd_pick = @spec_l32Rd_pick.b := funext fun α => congrFun (Classical.choose_spec spec_l32Rd_pick.ex) α

noncomputable def spec_NatOf_L0r {α : Type} (N : Nat) (next : Int → List Int → Option α) (k0 : List Int → Option α) (v78 : Int) (v79 : List Int) : Option α :=
 let x80 := (decide ((0 : Int) < v78))
 bif x80 then
  let x81 := (Int.tmod v78 (65536 : Int))
  let x82 := IntKind.i64.wrap x81
  let x83 := [x82]
  bif decide (v79.length + x83.length ≤ 8796093022208) then
   let x84 := v79 ++ x83
   let x85 := (IntKind.u64.wrap (Int.tdiv v78 (65536 : Int)))
   next x85 x84
  else
   none
 else
  k0 v79
noncomputable def spec_NatOf_L0.b {α : Type} (N n : Nat) (v78 : Int) (v79 : List Int) (k0 : List Int → Option α) : Option α :=
  Nat.rec (motive := fun _ => Int → List Int → Option α) (fun _ _ => none) (fun _ next => spec_NatOf_L0r N next k0) n v78 v79
theorem spec_NatOf_L0.ex : ∃ f : ((α : Type) → Nat → Nat → Int → List Int → (List Int → Option α) → Option α), f = fun α => @spec_NatOf_L0.b α := ⟨_, rfl⟩
noncomputable def spec_NatOf_L0 {α : Type} : Nat → Nat → Int → List Int → (List Int → Option α) → Option α := Classical.choose spec_NatOf_L0.ex α
theorem spec_NatOf_L0.eq : @spec_NatOf_L0 = @spec_NatOf_L0.b := funext fun α => congrFun (Classical.choose_spec spec_NatOf_L0.ex) α
theorem spec_NatOf_L0.zero {α : Type} (N : Nat) (v78 : Int) (v79 : List Int) (k0 : List Int → Option α) : spec_NatOf_L0 N 0 v78 v79 k0 = none := by rw [spec_NatOf_L0.eq]; rfl
theorem spec_NatOf_L0.succ {α : Type} (N n : Nat) (v78 : Int) (v79 : List Int) (k0 : List Int → Option α) : spec_NatOf_L0 N (n + 1) v78 v79 k0 = spec_NatOf_L0r N (fun y0 y1 => spec_NatOf_L0 N n y0 y1 k0) k0 v78 v79 := by rw [spec_NatOf_L0.eq]; rfl
/-- spec.NatOf -/
noncomputable def spec_NatOf.b {α : Type} (N : Nat) (a77 : Int) (k0 : List Int → Option α) : Option α :=
 spec_NatOf_L0 N N a77 []
  (fun x86 =>
   k0 x86)
theorem spec_NatOf.ex : ∃ f : ((α : Type) → Nat → Int → (List Int → Option α) → Option α), f = fun α => @spec_NatOf.b α := ⟨_, rfl⟩
noncomputable def spec_NatOf {α : Type} : Nat → Int → (List Int → Option α) → Option α := Classical.choose spec_NatOf.ex α
theorem spec_NatOf.eq : @spec_NatOf = @spec_NatOf.b := funext fun α => congrFun (Classical.choose_spec spec_NatOf.ex) α

noncomputable def spec_l32Rd_nat_J6.b {α : Type} (N : Nat) (v63 : Int) (v64 : (List Int) × Int × Unit) (k0 : Int → ((List Int) × Int × Unit) → Option α) : Option α :=
 spec_l32Rd_pick N (6 : Int) v64
  (fun x65 x66 =>
   let x67 := (decide (x65 = (0 : Int)))
   bif x67 then
    spec_l32Rd_pick N (3 : Int) x66
     (fun x68 x69 =>
      let x70 := (IntKind.i64.wrap ((256 : Int) - x68))
      k0 x70 x69)
   else
    k0 v63 x66)
theorem spec_l32Rd_nat_J6.ex : ∃ f : ((α : Type) → Nat → Int → ((List Int) × Int × Unit) → (Int → ((List Int) × Int × Unit) → Option α) → Option α), f = fun α => @spec_l32Rd_nat_J6.b α := ⟨_, rfl⟩
noncomputable def spec_l32Rd_nat_J6 {α : Type} : Nat → Int → ((List Int) × Int × Unit) → (Int → ((List Int) × Int × Unit) → Option α) → Option α := Classical.choose spec_l32Rd_nat_J6.ex α
theorem spec_l32Rd_nat_J6.eq : @spec_l32Rd_nat_J6 = @spec_l32Rd_nat_J6.b := funext fun α => congrFun (Classical.choose_spec spec_l32Rd_nat_J6.ex) α
noncomputable def spec_l32Rd_nat_J5.b {α : Type} (N : Nat) (v59 : Int) (v60 : Int) (v61 : (List Int) × Int × Unit) (k0 : Int → ((List Int) × Int × Unit) → Option α) (k1 : ((List Int) × Int × Unit) → List Int → Option α) : Option α :=
 let x62 := (decide (v60 = (1 : Int)))
 bif x62 then
  spec_l32Rd_nat_J6 N v59 v61
   (fun x71 x72 =>
    k0 x71 x72)
 else
  let x73 := (decide (v60 = (2 : Int)))
  bif x73 then
   spec_l32Rd_pick N (12 : Int) v61
    (fun x74 x75 =>
     let x76 := IntKind.u64.wrap x74
     spec_NatOf N x76
      (fun x87 =>
       k1 x75 x87))
  else
   k0 v59 v61
theorem spec_l32Rd_nat_J5.ex : ∃ f : ((α : Type) → Nat → Int → Int → ((List Int) × Int × Unit) → (Int → ((List Int) × Int × Unit) → Option α) → (((List Int) × Int × Unit) → List Int → Option α) → Option α), f = fun α => @spec_l32Rd_nat_J5.b α := ⟨_, rfl⟩
noncomputable def spec_l32Rd_nat_J5 {α : Type} : Nat → Int → Int → ((List Int) × Int × Unit) → (Int → ((List Int) × Int × Unit) → Option α) → (((List Int) × Int × Unit) → List Int → Option α) → Option α := Classical.choose spec_l32Rd_nat_J5.ex α
theorem spec_l32Rd_nat_J5.eq : @spec_l32Rd_nat_J5 = @spec_l32Rd_nat_J5.b := funext fun α => congrFun (Classical.choose_spec spec_l32Rd_nat_J5.ex) α
noncomputable def spec_l32Rd_nat_J3.b {α : Type} (N : Nat) (v53 : Int) (v54 : Int) (v55 : (List Int) × Int × Unit) (k0 : Int → ((List Int) × Int × Unit) → Option α) (k1 : ((List Int) × Int × Unit) → List Int → Option α) : Option α :=
 let x56 := (decide (v54 = (0 : Int)))
 bif x56 then
  spec_l32Rd_pick N (24 : Int) v55
   (fun x57 x58 =>
    k0 x57 x58)
 else
  spec_l32Rd_nat_J5 N v53 v54 v55
   (fun x88 x89 =>
    k0 x88 x89)
   (fun x90 x91 =>
    k1 x90 x91)
theorem spec_l32Rd_nat_J3.ex : ∃ f : ((α : Type) → Nat → Int → Int → ((List Int) × Int × Unit) → (Int → ((List Int) × Int × Unit) → Option α) → (((List Int) × Int × Unit) → List Int → Option α) → Option α), f = fun α => @spec_l32Rd_nat_J3.b α := ⟨_, rfl⟩
noncomputable def spec_l32Rd_nat_J3 {α : Type} : Nat → Int → Int → ((List Int) × Int × Unit) → (Int → ((List Int) × Int × Unit) → Option α) → (((List Int) × Int × Unit) → List Int → Option α) → Option α := Classical.choose spec_l32Rd_nat_J3.ex α
theorem spec_l32Rd_nat_J3.eq : @spec_l32Rd_nat_J3 = @spec_l32Rd_nat_J3.b := funext fun α => congrFun (Classical.choose_spec spec_l32Rd_nat_J3.ex) α
noncomputable def spec_l32Rd_nat_J16.b {α : Type} (N : Nat) (v108 : Int) (v109 : Int) (v110 : Int) (v111 : Int) (v112 : (List Int) × Int × Unit) (v113 : List Int) (k0 : Int → Int → Int → Int → ((List Int) × Int × Unit) → List Int → Option α) : Option α :=
 let x114 := (decide (v109 = (0 : Int)))
 bif x114 then
  k0 v108 v109 v110 (65535 : Int) v112 v113
 else
  k0 v108 v109 v110 v111 v112 v113
theorem spec_l32Rd_nat_J16.ex : ∃ f : ((α : Type) → Nat → Int → Int → Int → Int → ((List Int) × Int × Unit) → List Int → (Int → Int → Int → Int → ((List Int) × Int × Unit) → List Int → Option α) → Option α), f = fun α => @spec_l32Rd_nat_J16.b α := ⟨_, rfl⟩
noncomputable def spec_l32Rd_nat_J16 {α : Type} : Nat → Int → Int → Int → Int → ((List Int) × Int × Unit) → List Int → (Int → Int → Int → Int → ((List Int) × Int × Unit) → List Int → Option α) → Option α := Classical.choose spec_l32Rd_nat_J16.ex α
theorem spec_l32Rd_nat_J16.eq : @spec_l32Rd_nat_J16 = @spec_l32Rd_nat_J16.b := funext fun α => congrFun (Classical.choose_spec spec_l32Rd_nat_J16.ex) α
noncomputable def spec_l32Rd_nat_J18.b {α : Type} (N : Nat) (v121 : Int) (v122 : Int) (v123 : Int) (v124 : Int) (v125 : (List Int) × Int × Unit) (v126 : List Int) (k0 : Int → Int → Int → Int → ((List Int) × Int × Unit) → List Int → Option α) : Option α :=
 let x127 := (decide (v122 = (1 : Int)))
 bif x127 then
  k0 v121 v122 v123 (0 : Int) v125 v126
 else
  k0 v121 v122 v123 v124 v125 v126
theorem spec_l32Rd_nat_J18.ex : ∃ f : ((α : Type) → Nat → Int → Int → Int → Int → ((List Int) × Int × Unit) → List Int → (Int → Int → Int → Int → ((List Int) × Int × Unit) → List Int → Option α) → Option α), f = fun α => @spec_l32Rd_nat_J18.b α := ⟨_, rfl⟩
noncomputable def spec_l32Rd_nat_J18 {α : Type} : Nat → Int → Int → Int → Int → ((List Int) × Int × Unit) → List Int → (Int → Int → Int → Int → ((List Int) × Int × Unit) → List Int → Option α) → Option α := Classical.choose spec_l32Rd_nat_J18.ex α
theorem spec_l32Rd_nat_J18.eq : @spec_l32Rd_nat_J18 = @spec_l32Rd_nat_J18.b := funext fun α => congrFun (Classical.choose_spec spec_l32Rd_nat_J18.ex) α
noncomputable def spec_l32Rd_nat_L1r {α : Type} (N : Nat) (next : Int → Int → Int → ((List Int) × Int × Unit) → List Int → Option α) (k0 : Int → ((List Int) × Int × Unit) → List Int → Option α) (v96 : Int) (v97 : Int) (v98 : Int) (v99 : (List Int) × Int × Unit) (v100 : List Int) : Option α :=
 let x101 := decide (v98 < v96)
 bif x101 then
  spec_l32Rd_pick N (256 : Int) v99
   (fun x102 x103 =>
    let x104 := (IntKind.i64.wrap (x102 * (256 : Int)))
    spec_l32Rd_pick N (256 : Int) x103
     (fun x105 x106 =>
      let x107 := IntKind.i64.wrap (x104 + x105)
      spec_l32Rd_nat_J16 N v96 v97 v98 x107 x106 v100
       (fun x115 x116 x117 x118 x119 x120 =>
        spec_l32Rd_nat_J18 N x115 x116 x117 x118 x119 x120
         (fun x128 x129 x130 x131 x132 x133 =>
          let x134 := [x131]
          bif decide (x133.length + x134.length ≤ 8796093022208) then
           let x135 := x133 ++ x134
           let x136 := (IntKind.i64.wrap (x130 + (1 : Int)))
           next x128 x129 x136 x132 x135
          else
           none))))
 else
  k0 v96 v99 v100
noncomputable def spec_l32Rd_nat_L1.b {α : Type} (N n : Nat) (v96 : Int) (v97 : Int) (v98 : Int) (v99 : (List Int) × Int × Unit) (v100 : List Int) (k0 : Int → ((List Int) × Int × Unit) → List Int → Option α) : Option α :=
  Nat.rec (motive := fun _ => Int → Int → Int → ((List Int) × Int × Unit) → List Int → Option α) (fun _ _ _ _ _ => none) (fun _ next => spec_l32Rd_nat_L1r N next k0) n v96 v97 v98 v99 v100
theorem spec_l32Rd_nat_L1.ex : ∃ f : ((α : Type) → Nat → Nat → Int → Int → Int → ((List Int) × Int × Unit) → List Int → (Int → ((List Int) × Int × Unit) → List Int → Option α) → Option α), f = fun α => @spec_l32Rd_nat_L1.b α := ⟨_, rfl⟩
noncomputable def spec_l32Rd_nat_L1 {α : Type} : Nat → Nat → Int → Int → Int → ((List Int) × Int × Unit) → List Int → (Int → ((List Int) × Int × Unit) → List Int → Option α) → Option α := Classical.choose spec_l32Rd_nat_L1.ex α
theorem spec_l32Rd_nat_L1.eq : @spec_l32Rd_nat_L1 = @spec_l32Rd_nat_L1.b := funext fun α => congrFun (Classical.choose_spec spec_l32Rd_nat_L1.ex) α
theorem spec_l32Rd_nat_L1.zero {α : Type} (N : Nat) (v96 : Int) (v97 : Int) (v98 : Int) (v99 : (List Int) × Int × Unit) (v100 : List Int) (k0 : Int → ((List Int) × Int × Unit) → List Int → Option α) : spec_l32Rd_nat_L1 N 0 v96 v97 v98 v99 v100 k0 = none := by rw [spec_l32Rd_nat_L1.eq]; rfl
theorem spec_l32Rd_nat_L1.succ {α : Type} (N n : Nat) (v96 : Int) (v97 : Int) (v98 : Int) (v99 : (List Int) × Int × Unit) (v100 : List Int) (k0 : Int → ((List Int) × Int × Unit) → List Int → Option α) : spec_l32Rd_nat_L1 N (n + 1) v96 v97 v98 v99 v100 k0 = spec_l32Rd_nat_L1r N (fun y0 y1 y2 y3 y4 => spec_l32Rd_nat_L1 N n y0 y1 y2 y3 y4 k0) k0 v96 v97 v98 v99 v100 := by rw [spec_l32Rd_nat_L1.eq]; rfl
noncomputable def spec_l32Rd_nat_J21.b {α : Type} (N : Nat) (v140 : Int) (v141 : (List Int) × Int × Unit) (v142 : List Int) (k0 : ((List Int) × Int × Unit) → List Int → Option α) : Option α :=
 let x143 := (decide ((0 : Int) < v140))
 bif x143 then
  let x144 := (IntKind.i64.wrap (v140 - (1 : Int)))
  bif (decide (x144 < (0 : Int))) then
   none
  else
   bif decide (x144.toNat < v142.length) then
    match v142[x144.toNat]? with
    | some x145 =>
     let x146 := (decide (x145 = (0 : Int)))
     bif x146 then
      let x147 := (IntKind.i64.wrap (v140 - (1 : Int)))
      spec_l32Rd_pick N (16 : Int) v141
       (fun x148 x149 =>
        let x150 := IntKind.u64.wrap x148
        bif (decide (x150 < (0 : Int))) then
         none
        else
         let x151 := (shlI .i64 (1 : Int) x150)
         bif (decide (x147 < (0 : Int))) then
          none
         else
          bif decide (x147.toNat < v142.length) then
           match v142[x147.toNat]? with
           | some x152 =>
            let x153 := v142.set x147.toNat x151
            k0 x149 x153
           | none => none
          else
           none)
     else
      k0 v141 v142
    | none => none
   else
    none
 else
  k0 v141 v142
theorem spec_l32Rd_nat_J21.ex : ∃ f : ((α : Type) → Nat → Int → ((List Int) × Int × Unit) → List Int → (((List Int) × Int × Unit) → List Int → Option α) → Option α), f = fun α => @spec_l32Rd_nat_J21.b α := ⟨_, rfl⟩
noncomputable def spec_l32Rd_nat_J21 {α : Type} : Nat → Int → ((List Int) × Int × Unit) → List Int → (((List Int) × Int × Unit) → List Int → Option α) → Option α := Classical.choose spec_l32Rd_nat_J21.ex α
theorem spec_l32Rd_nat_J21.eq : @spec_l32Rd_nat_J21 = @spec_l32Rd_nat_J21.b := funext fun α => congrFun (Classical.choose_spec spec_l32Rd_nat_J21.ex) α
/-- (*spec.l32Rd).nat -/
noncomputable def spec_l32Rd_nat.b {α : Type} (N : Nat) (a14 : (List Int) × Int × Unit) (k0 : ((List Int) × Int × Unit) → List Int → Option α) : Option α :=
 spec_l32Rd_pick N (4 : Int) a14
  (fun x49 x50 =>
   spec_l32Rd_pick N (16 : Int) x50
    (fun x51 x52 =>
     spec_l32Rd_nat_J3 N x49 x51 x52
      (fun x92 x93 =>
       spec_l32Rd_pick N (5 : Int) x93
        (fun x94 x95 =>
         spec_l32Rd_nat_L1 N N x92 x94 (0 : Int) x95 []
          (fun x137 x138 x139 =>
           spec_l32Rd_nat_J21 N x137 x138 x139
            (fun x154 x155 =>
             k0 x154 x155))))
      (fun x156 x157 =>
       k0 x156 x157)))
theorem spec_l32Rd_nat.ex : ∃ f : ((α : Type) → Nat → ((List Int) × Int × Unit) → (((List Int) × Int × Unit) → List Int → Option α) → Option α), f = fun α => @spec_l32Rd_nat.b α := ⟨_, rfl⟩
noncomputable def spec_l32Rd_nat {α : Type} : Nat → ((List Int) × Int × Unit) → (((List Int) × Int × Unit) → List Int → Option α) → Option α := Classical.choose spec_l32Rd_nat.ex α
theorem spec_l32Rd_nat.eq : @spec_l32Rd_nat = @spec_l32Rd_nat.b := funext fun α => congrFun (Classical.choose_spec spec_l32Rd_nat.ex) α

noncomputable def spec_NatOk_L0r {α : Type} (N : Nat) (next : List Int → Int → Option α) (k0 : Bool → Option α) (k1 : List Int → Option α) (v194 : List Int) (v195 : Int) : Option α :=
 let x196 := ((v194.length : Nat) : Int)
 let x197 := decide (v195 < x196)
 bif x197 then
  bif (decide (v195 < (0 : Int))) then
   none
  else
   match v194[v195.toNat]? with
   | some x198 =>
    let x199 := (decide (x198 < (0 : Int)))
    bif x199 then
     k0 false
    else
     bif (decide (v195 < (0 : Int))) then
      none
     else
      match v194[v195.toNat]? with
      | some x200 =>
       let x201 := (decide ((65536 : Int) ≤ x200))
       bif x201 then
        k0 false
       else
        let x202 := (IntKind.i64.wrap (v195 + (1 : Int)))
        next v194 x202
      | none => none
   | none => none
 else
  k1 v194
noncomputable def spec_NatOk_L0.b {α : Type} (N n : Nat) (v194 : List Int) (v195 : Int) (k0 : Bool → Option α) (k1 : List Int → Option α) : Option α :=
  Nat.rec (motive := fun _ => List Int → Int → Option α) (fun _ _ => none) (fun _ next => spec_NatOk_L0r N next k0 k1) n v194 v195
theorem spec_NatOk_L0.ex : ∃ f : ((α : Type) → Nat → Nat → List Int → Int → (Bool → Option α) → (List Int → Option α) → Option α), f = fun α => @spec_NatOk_L0.b α := ⟨_, rfl⟩
noncomputable def spec_NatOk_L0 {α : Type} : Nat → Nat → List Int → Int → (Bool → Option α) → (List Int → Option α) → Option α := Classical.choose spec_NatOk_L0.ex α
theorem spec_NatOk_L0.eq : @spec_NatOk_L0 = @spec_NatOk_L0.b := funext fun α => congrFun (Classical.choose_spec spec_NatOk_L0.ex) α
theorem spec_NatOk_L0.zero {α : Type} (N : Nat) (v194 : List Int) (v195 : Int) (k0 : Bool → Option α) (k1 : List Int → Option α) : spec_NatOk_L0 N 0 v194 v195 k0 k1 = none := by rw [spec_NatOk_L0.eq]; rfl
theorem spec_NatOk_L0.succ {α : Type} (N n : Nat) (v194 : List Int) (v195 : Int) (k0 : Bool → Option α) (k1 : List Int → Option α) : spec_NatOk_L0 N (n + 1) v194 v195 k0 k1 = spec_NatOk_L0r N (fun y0 y1 => spec_NatOk_L0 N n y0 y1 k0 k1) k0 k1 v194 v195 := by rw [spec_NatOk_L0.eq]; rfl
/-- spec.NatOk -/
noncomputable def spec_NatOk.b {α : Type} (N : Nat) (a191 : List Int) (k0 : Bool → Option α) : Option α :=
 let x192 := ((a191.length : Nat) : Int)
 let x193 := (decide ((256 : Int) < x192))
 bif x193 then
  k0 false
 else
  spec_NatOk_L0 N N a191 (0 : Int)
   (fun x203 =>
    k0 x203)
   (fun x204 =>
    let x205 := ((x204.length : Nat) : Int)
    let x206 := (decide (x205 = (0 : Int)))
    bif x206 then
     k0 true
    else
     let x207 := ((x204.length : Nat) : Int)
     let x208 := (IntKind.i64.wrap (x207 - (1 : Int)))
     bif (decide (x208 < (0 : Int))) then
      none
     else
      match x204[x208.toNat]? with
      | some x209 =>
       let x210 := (!(decide (x209 = (0 : Int))))
       k0 x210
      | none => none)
theorem spec_NatOk.ex : ∃ f : ((α : Type) → Nat → List Int → (Bool → Option α) → Option α), f = fun α => @spec_NatOk.b α := ⟨_, rfl⟩
noncomputable def spec_NatOk {α : Type} : Nat → List Int → (Bool → Option α) → Option α := Classical.choose spec_NatOk.ex α
theorem spec_NatOk.eq : @spec_NatOk = @spec_NatOk.b := funext fun α => congrFun (Classical.choose_spec spec_NatOk.ex) α

noncomputable def spec_l5Trim_L0r {α : Type} (N : Nat) (next : List Int → Int → Option α) (k0 : List Int → Int → Option α) (v227 : List Int) (v228 : Int) : Option α :=
 let x229 := (decide ((0 : Int) < v228))
 bif x229 then
  let x230 := (IntKind.i64.wrap (v228 - (1 : Int)))
  bif (decide (x230 < (0 : Int))) then
   none
  else
   match v227[x230.toNat]? with
   | some x231 =>
    let x232 := (decide (x231 = (0 : Int)))
    bif x232 then
     let x233 := (IntKind.i64.wrap (v228 - (1 : Int)))
     next v227 x233
    else
     k0 v227 v228
   | none => none
 else
  k0 v227 v228
noncomputable def spec_l5Trim_L0.b {α : Type} (N n : Nat) (v227 : List Int) (v228 : Int) (k0 : List Int → Int → Option α) : Option α :=
  Nat.rec (motive := fun _ => List Int → Int → Option α) (fun _ _ => none) (fun _ next => spec_l5Trim_L0r N next k0) n v227 v228
theorem spec_l5Trim_L0.ex : ∃ f : ((α : Type) → Nat → Nat → List Int → Int → (List Int → Int → Option α) → Option α), f = fun α => @spec_l5Trim_L0.b α := ⟨_, rfl⟩
noncomputable def spec_l5Trim_L0 {α : Type} : Nat → Nat → List Int → Int → (List Int → Int → Option α) → Option α := Classical.choose spec_l5Trim_L0.ex α
theorem spec_l5Trim_L0.eq : @spec_l5Trim_L0 = @spec_l5Trim_L0.b := funext fun α => congrFun (Classical.choose_spec spec_l5Trim_L0.ex) α
theorem spec_l5Trim_L0.zero {α : Type} (N : Nat) (v227 : List Int) (v228 : Int) (k0 : List Int → Int → Option α) : spec_l5Trim_L0 N 0 v227 v228 k0 = none := by rw [spec_l5Trim_L0.eq]; rfl
theorem spec_l5Trim_L0.succ {α : Type} (N n : Nat) (v227 : List Int) (v228 : Int) (k0 : List Int → Int → Option α) : spec_l5Trim_L0 N (n + 1) v227 v228 k0 = spec_l5Trim_L0r N (fun y0 y1 => spec_l5Trim_L0 N n y0 y1 k0) k0 v227 v228 := by rw [spec_l5Trim_L0.eq]; rfl
noncomputable def spec_l5Trim_L2r {α : Type} (N : Nat) (next : List Int → Int → Int → List Int → Option α) (k0 : List Int → Option α) (v236 : List Int) (v237 : Int) (v238 : Int) (v239 : List Int) : Option α :=
 let x240 := decide (v238 < v237)
 bif x240 then
  bif (decide (v238 < (0 : Int))) then
   none
  else
   match v236[v238.toNat]? with
   | some x241 =>
    let x242 := [x241]
    bif decide (v239.length + x242.length ≤ 8796093022208) then
     let x243 := v239 ++ x242
     let x244 := (IntKind.i64.wrap (v238 + (1 : Int)))
     next v236 v237 x244 x243
    else
     none
   | none => none
 else
  k0 v239
noncomputable def spec_l5Trim_L2.b {α : Type} (N n : Nat) (v236 : List Int) (v237 : Int) (v238 : Int) (v239 : List Int) (k0 : List Int → Option α) : Option α :=
  Nat.rec (motive := fun _ => List Int → Int → Int → List Int → Option α) (fun _ _ _ _ => none) (fun _ next => spec_l5Trim_L2r N next k0) n v236 v237 v238 v239
theorem spec_l5Trim_L2.ex : ∃ f : ((α : Type) → Nat → Nat → List Int → Int → Int → List Int → (List Int → Option α) → Option α), f = fun α => @spec_l5Trim_L2.b α := ⟨_, rfl⟩
noncomputable def spec_l5Trim_L2 {α : Type} : Nat → Nat → List Int → Int → Int → List Int → (List Int → Option α) → Option α := Classical.choose spec_l5Trim_L2.ex α
theorem spec_l5Trim_L2.eq : @spec_l5Trim_L2 = @spec_l5Trim_L2.b := funext fun α => congrFun (Classical.choose_spec spec_l5Trim_L2.ex) α
theorem spec_l5Trim_L2.zero {α : Type} (N : Nat) (v236 : List Int) (v237 : Int) (v238 : Int) (v239 : List Int) (k0 : List Int → Option α) : spec_l5Trim_L2 N 0 v236 v237 v238 v239 k0 = none := by rw [spec_l5Trim_L2.eq]; rfl
theorem spec_l5Trim_L2.succ {α : Type} (N n : Nat) (v236 : List Int) (v237 : Int) (v238 : Int) (v239 : List Int) (k0 : List Int → Option α) : spec_l5Trim_L2 N (n + 1) v236 v237 v238 v239 k0 = spec_l5Trim_L2r N (fun y0 y1 y2 y3 => spec_l5Trim_L2 N n y0 y1 y2 y3 k0) k0 v236 v237 v238 v239 := by rw [spec_l5Trim_L2.eq]; rfl
/-- spec.l5Trim -/
noncomputable def spec_l5Trim.b {α : Type} (N : Nat) (a225 : List Int) (k0 : List Int → Option α) : Option α :=
 let x226 := ((a225.length : Nat) : Int)
 spec_l5Trim_L0 N N a225 x226
  (fun x234 x235 =>
   spec_l5Trim_L2 N N x234 x235 (0 : Int) []
    (fun x245 =>
     k0 x245))
theorem spec_l5Trim.ex : ∃ f : ((α : Type) → Nat → List Int → (List Int → Option α) → Option α), f = fun α => @spec_l5Trim.b α := ⟨_, rfl⟩
noncomputable def spec_l5Trim {α : Type} : Nat → List Int → (List Int → Option α) → Option α := Classical.choose spec_l5Trim.ex α
theorem spec_l5Trim.eq : @spec_l5Trim = @spec_l5Trim.b := funext fun α => congrFun (Classical.choose_spec spec_l5Trim.ex) α

noncomputable def spec_l5Cmp_L0r {α : Type} (N : Nat) (next : List Int → List Int → Int → Option α) (k0 : Int → Option α) (k1 : Option α) (v264 : List Int) (v265 : List Int) (v266 : Int) : Option α :=
 let x267 := (decide ((0 : Int) ≤ v266))
 bif x267 then
  bif (decide (v266 < (0 : Int))) then
   none
  else
   match v264[v266.toNat]? with
   | some x268 =>
    bif (decide (v266 < (0 : Int))) then
     none
    else
     match v265[v266.toNat]? with
     | some x269 =>
      let x270 := decide (x268 < x269)
      bif x270 then
       k0 (-1 : Int)
      else
       bif (decide (v266 < (0 : Int))) then
        none
       else
        match v264[v266.toNat]? with
        | some x271 =>
         bif (decide (v266 < (0 : Int))) then
          none
         else
          match v265[v266.toNat]? with
          | some x272 =>
           let x273 := decide (x272 < x271)
           bif x273 then
            k0 (1 : Int)
           else
            let x274 := (IntKind.i64.wrap (v266 - (1 : Int)))
            next v264 v265 x274
          | none => none
        | none => none
     | none => none
   | none => none
 else
  k1
noncomputable def spec_l5Cmp_L0.b {α : Type} (N n : Nat) (v264 : List Int) (v265 : List Int) (v266 : Int) (k0 : Int → Option α) (k1 : Option α) : Option α :=
  Nat.rec (motive := fun _ => List Int → List Int → Int → Option α) (fun _ _ _ => none) (fun _ next => spec_l5Cmp_L0r N next k0 k1) n v264 v265 v266
theorem spec_l5Cmp_L0.ex : ∃ f : ((α : Type) → Nat → Nat → List Int → List Int → Int → (Int → Option α) → (Option α) → Option α), f = fun α => @spec_l5Cmp_L0.b α := ⟨_, rfl⟩
noncomputable def spec_l5Cmp_L0 {α : Type} : Nat → Nat → List Int → List Int → Int → (Int → Option α) → (Option α) → Option α := Classical.choose spec_l5Cmp_L0.ex α
theorem spec_l5Cmp_L0.eq : @spec_l5Cmp_L0 = @spec_l5Cmp_L0.b := funext fun α => congrFun (Classical.choose_spec spec_l5Cmp_L0.ex) α
theorem spec_l5Cmp_L0.zero {α : Type} (N : Nat) (v264 : List Int) (v265 : List Int) (v266 : Int) (k0 : Int → Option α) (k1 : Option α) : spec_l5Cmp_L0 N 0 v264 v265 v266 k0 k1 = none := by rw [spec_l5Cmp_L0.eq]; rfl
theorem spec_l5Cmp_L0.succ {α : Type} (N n : Nat) (v264 : List Int) (v265 : List Int) (v266 : Int) (k0 : Int → Option α) (k1 : Option α) : spec_l5Cmp_L0 N (n + 1) v264 v265 v266 k0 k1 = spec_l5Cmp_L0r N (fun y0 y1 y2 => spec_l5Cmp_L0 N n y0 y1 y2 k0 k1) k0 k1 v264 v265 v266 := by rw [spec_l5Cmp_L0.eq]; rfl
/-- spec.l5Cmp -/
noncomputable def spec_l5Cmp.b {α : Type} (N : Nat) (a254 : List Int) (a255 : List Int) (k0 : Int → Option α) : Option α :=
 let x256 := ((a254.length : Nat) : Int)
 let x257 := ((a255.length : Nat) : Int)
 let x258 := decide (x256 < x257)
 bif x258 then
  k0 (-1 : Int)
 else
  let x259 := ((a254.length : Nat) : Int)
  let x260 := ((a255.length : Nat) : Int)
  let x261 := decide (x260 < x259)
  bif x261 then
   k0 (1 : Int)
  else
   let x262 := ((a254.length : Nat) : Int)
   let x263 := (IntKind.i64.wrap (x262 - (1 : Int)))
   spec_l5Cmp_L0 N N a254 a255 x263
    (fun x275 =>
     k0 x275)
    (
     k0 (0 : Int))
theorem spec_l5Cmp.ex : ∃ f : ((α : Type) → Nat → List Int → List Int → (Int → Option α) → Option α), f = fun α => @spec_l5Cmp.b α := ⟨_, rfl⟩
noncomputable def spec_l5Cmp {α : Type} : Nat → List Int → List Int → (Int → Option α) → Option α := Classical.choose spec_l5Cmp.ex α
theorem spec_l5Cmp.eq : @spec_l5Cmp = @spec_l5Cmp.b := funext fun α => congrFun (Classical.choose_spec spec_l5Cmp.ex) α

noncomputable def spec_l5DivSmall_L0r {α : Type} (N : Nat) (next : List Int → Int → Int → Int → List Int → Option α) (k0 : Int → List Int → Option α) (v288 : List Int) (v289 : Int) (v290 : Int) (v291 : Int) (v292 : List Int) : Option α :=
 let x293 := (decide ((0 : Int) ≤ v291))
 bif x293 then
  let x294 := (IntKind.i64.wrap (v290 * (65536 : Int)))
  bif (decide (v291 < (0 : Int))) then
   none
  else
   match v288[v291.toNat]? with
   | some x295 =>
    let x296 := IntKind.i64.wrap (x294 + x295)
    bif (decide (v289 = (0 : Int))) then
     none
    else
     let x297 := IntKind.i64.wrap (Int.tdiv x296 v289)
     bif (decide (v291 < (0 : Int))) then
      none
     else
      bif decide (v291.toNat < v292.length) then
       match v292[v291.toNat]? with
       | some x298 =>
        let x299 := v292.set v291.toNat x297
        bif (decide (v289 = (0 : Int))) then
         none
        else
         let x300 := Int.tmod x296 v289
         let x301 := (IntKind.i64.wrap (v291 - (1 : Int)))
         next v288 v289 x300 x301 x299
       | none => none
      else
       none
   | none => none
 else
  k0 v290 v292
noncomputable def spec_l5DivSmall_L0.b {α : Type} (N n : Nat) (v288 : List Int) (v289 : Int) (v290 : Int) (v291 : Int) (v292 : List Int) (k0 : Int → List Int → Option α) : Option α :=
  Nat.rec (motive := fun _ => List Int → Int → Int → Int → List Int → Option α) (fun _ _ _ _ _ => none) (fun _ next => spec_l5DivSmall_L0r N next k0) n v288 v289 v290 v291 v292
theorem spec_l5DivSmall_L0.ex : ∃ f : ((α : Type) → Nat → Nat → List Int → Int → Int → Int → List Int → (Int → List Int → Option α) → Option α), f = fun α => @spec_l5DivSmall_L0.b α := ⟨_, rfl⟩
noncomputable def spec_l5DivSmall_L0 {α : Type} : Nat → Nat → List Int → Int → Int → Int → List Int → (Int → List Int → Option α) → Option α := Classical.choose spec_l5DivSmall_L0.ex α
theorem spec_l5DivSmall_L0.eq : @spec_l5DivSmall_L0 = @spec_l5DivSmall_L0.b := funext fun α => congrFun (Classical.choose_spec spec_l5DivSmall_L0.ex) α
theorem spec_l5DivSmall_L0.zero {α : Type} (N : Nat) (v288 : List Int) (v289 : Int) (v290 : Int) (v291 : Int) (v292 : List Int) (k0 : Int → List Int → Option α) : spec_l5DivSmall_L0 N 0 v288 v289 v290 v291 v292 k0 = none := by rw [spec_l5DivSmall_L0.eq]; rfl
theorem spec_l5DivSmall_L0.succ {α : Type} (N n : Nat) (v288 : List Int) (v289 : Int) (v290 : Int) (v291 : Int) (v292 : List Int) (k0 : Int → List Int → Option α) : spec_l5DivSmall_L0 N (n + 1) v288 v289 v290 v291 v292 k0 = spec_l5DivSmall_L0r N (fun y0 y1 y2 y3 y4 => spec_l5DivSmall_L0 N n y0 y1 y2 y3 y4 k0) k0 v288 v289 v290 v291 v292 := by rw [spec_l5DivSmall_L0.eq]; rfl
/-- spec.l5DivSmall -/
noncomputable def spec_l5DivSmall.b {α : Type} (N : Nat) (a282 : List Int) (a283 : Int) (k0 : Int → List Int → Option α) : Option α :=
 let x284 := ((a282.length : Nat) : Int)
 bif (decide ((0 : Int) ≤ x284)) then
  bif decide (x284 ≤ x284) then
   bif (decide (x284 ≤ ((8796093022208 : Nat) : Int))) then
    let x285 := (List.replicate x284.toNat (0 : Int))
    let x286 := ((a282.length : Nat) : Int)
    let x287 := (IntKind.i64.wrap (x286 - (1 : Int)))
    spec_l5DivSmall_L0 N N a282 a283 (0 : Int) x287 x285
     (fun x302 x303 =>
      spec_l5Trim N x303
       (fun x304 =>
        k0 x302 x304))
   else
    none
  else
   none
 else
  none
theorem spec_l5DivSmall.ex : ∃ f : ((α : Type) → Nat → List Int → Int → (Int → List Int → Option α) → Option α), f = fun α => @spec_l5DivSmall.b α := ⟨_, rfl⟩
noncomputable def spec_l5DivSmall {α : Type} : Nat → List Int → Int → (Int → List Int → Option α) → Option α := Classical.choose spec_l5DivSmall.ex α
theorem spec_l5DivSmall.eq : @spec_l5DivSmall = @spec_l5DivSmall.b := funext fun α => congrFun (Classical.choose_spec spec_l5DivSmall.ex) α

noncomputable def spec_l5Mul_L2r {α : Type} (N : Nat) (next : List Int → List Int → Int → Int → Int → List Int → Option α) (k0 : List Int → List Int → Int → Int → List Int → Option α) (v330 : List Int) (v331 : List Int) (v332 : Int) (v333 : Int) (v334 : Int) (v335 : List Int) : Option α :=
 let x336 := ((v331.length : Nat) : Int)
 let x337 := decide (v334 < x336)
 bif x337 then
  let x338 := IntKind.i64.wrap (v332 + v334)
  bif (decide (x338 < (0 : Int))) then
   none
  else
   bif decide (x338.toNat < v335.length) then
    match v335[x338.toNat]? with
    | some x339 =>
     bif (decide (v332 < (0 : Int))) then
      none
     else
      match v330[v332.toNat]? with
      | some x340 =>
       bif (decide (v334 < (0 : Int))) then
        none
       else
        match v331[v334.toNat]? with
        | some x341 =>
         let x342 := IntKind.i64.wrap (x340 * x341)
         let x343 := IntKind.i64.wrap (x339 + x342)
         let x344 := IntKind.i64.wrap (x343 + v333)
         let x345 := IntKind.i64.wrap (v332 + v334)
         let x346 := (Int.tmod x344 (65536 : Int))
         bif (decide (x345 < (0 : Int))) then
          none
         else
          bif decide (x345.toNat < v335.length) then
           match v335[x345.toNat]? with
           | some x347 =>
            let x348 := v335.set x345.toNat x346
            let x349 := (IntKind.i64.wrap (Int.tdiv x344 (65536 : Int)))
            let x350 := (IntKind.i64.wrap (v334 + (1 : Int)))
            next v330 v331 v332 x349 x350 x348
           | none => none
          else
           none
        | none => none
      | none => none
    | none => none
   else
    none
 else
  k0 v330 v331 v332 v333 v335
noncomputable def spec_l5Mul_L2.b {α : Type} (N n : Nat) (v330 : List Int) (v331 : List Int) (v332 : Int) (v333 : Int) (v334 : Int) (v335 : List Int) (k0 : List Int → List Int → Int → Int → List Int → Option α) : Option α :=
  Nat.rec (motive := fun _ => List Int → List Int → Int → Int → Int → List Int → Option α) (fun _ _ _ _ _ _ => none) (fun _ next => spec_l5Mul_L2r N next k0) n v330 v331 v332 v333 v334 v335
theorem spec_l5Mul_L2.ex : ∃ f : ((α : Type) → Nat → Nat → List Int → List Int → Int → Int → Int → List Int → (List Int → List Int → Int → Int → List Int → Option α) → Option α), f = fun α => @spec_l5Mul_L2.b α := ⟨_, rfl⟩
noncomputable def spec_l5Mul_L2 {α : Type} : Nat → Nat → List Int → List Int → Int → Int → Int → List Int → (List Int → List Int → Int → Int → List Int → Option α) → Option α := Classical.choose spec_l5Mul_L2.ex α
theorem spec_l5Mul_L2.eq : @spec_l5Mul_L2 = @spec_l5Mul_L2.b := funext fun α => congrFun (Classical.choose_spec spec_l5Mul_L2.ex) α
theorem spec_l5Mul_L2.zero {α : Type} (N : Nat) (v330 : List Int) (v331 : List Int) (v332 : Int) (v333 : Int) (v334 : Int) (v335 : List Int) (k0 : List Int → List Int → Int → Int → List Int → Option α) : spec_l5Mul_L2 N 0 v330 v331 v332 v333 v334 v335 k0 = none := by rw [spec_l5Mul_L2.eq]; rfl
theorem spec_l5Mul_L2.succ {α : Type} (N n : Nat) (v330 : List Int) (v331 : List Int) (v332 : Int) (v333 : Int) (v334 : Int) (v335 : List Int) (k0 : List Int → List Int → Int → Int → List Int → Option α) : spec_l5Mul_L2 N (n + 1) v330 v331 v332 v333 v334 v335 k0 = spec_l5Mul_L2r N (fun y0 y1 y2 y3 y4 y5 => spec_l5Mul_L2 N n y0 y1 y2 y3 y4 y5 k0) k0 v330 v331 v332 v333 v334 v335 := by rw [spec_l5Mul_L2.eq]; rfl
noncomputable def spec_l5Mul_L0r {α : Type} (N : Nat) (next : List Int → List Int → Int → List Int → Option α) (k0 : List Int → Option α) (v324 : List Int) (v325 : List Int) (v326 : Int) (v327 : List Int) : Option α :=
 let x328 := ((v324.length : Nat) : Int)
 let x329 := decide (v326 < x328)
 bif x329 then
  spec_l5Mul_L2 N N v324 v325 v326 (0 : Int) (0 : Int) v327
   (fun x351 x352 x353 x354 x355 =>
    let x356 := ((x352.length : Nat) : Int)
    let x357 := IntKind.i64.wrap (x353 + x356)
    bif (decide (x357 < (0 : Int))) then
     none
    else
     bif decide (x357.toNat < x355.length) then
      match x355[x357.toNat]? with
      | some x358 =>
       let x359 := x355.set x357.toNat x354
       let x360 := (IntKind.i64.wrap (x353 + (1 : Int)))
       next x351 x352 x360 x359
      | none => none
     else
      none)
 else
  k0 v327
noncomputable def spec_l5Mul_L0.b {α : Type} (N n : Nat) (v324 : List Int) (v325 : List Int) (v326 : Int) (v327 : List Int) (k0 : List Int → Option α) : Option α :=
  Nat.rec (motive := fun _ => List Int → List Int → Int → List Int → Option α) (fun _ _ _ _ => none) (fun _ next => spec_l5Mul_L0r N next k0) n v324 v325 v326 v327
theorem spec_l5Mul_L0.ex : ∃ f : ((α : Type) → Nat → Nat → List Int → List Int → Int → List Int → (List Int → Option α) → Option α), f = fun α => @spec_l5Mul_L0.b α := ⟨_, rfl⟩
noncomputable def spec_l5Mul_L0 {α : Type} : Nat → Nat → List Int → List Int → Int → List Int → (List Int → Option α) → Option α := Classical.choose spec_l5Mul_L0.ex α
theorem spec_l5Mul_L0.eq : @spec_l5Mul_L0 = @spec_l5Mul_L0.b := funext fun α => congrFun (Classical.choose_spec spec_l5Mul_L0.ex) α
theorem spec_l5Mul_L0.zero {α : Type} (N : Nat) (v324 : List Int) (v325 : List Int) (v326 : Int) (v327 : List Int) (k0 : List Int → Option α) : spec_l5Mul_L0 N 0 v324 v325 v326 v327 k0 = none := by rw [spec_l5Mul_L0.eq]; rfl
theorem spec_l5Mul_L0.succ {α : Type} (N n : Nat) (v324 : List Int) (v325 : List Int) (v326 : Int) (v327 : List Int) (k0 : List Int → Option α) : spec_l5Mul_L0 N (n + 1) v324 v325 v326 v327 k0 = spec_l5Mul_L0r N (fun y0 y1 y2 y3 => spec_l5Mul_L0 N n y0 y1 y2 y3 k0) k0 v324 v325 v326 v327 := by rw [spec_l5Mul_L0.eq]; rfl
/-- spec.l5Mul -/
noncomputable def spec_l5Mul.b {α : Type} (N : Nat) (a318 : List Int) (a319 : List Int) (k0 : List Int → Option α) : Option α :=
 let x320 := ((a318.length : Nat) : Int)
 let x321 := ((a319.length : Nat) : Int)
 let x322 := IntKind.i64.wrap (x320 + x321)
 bif (decide ((0 : Int) ≤ x322)) then
  bif decide (x322 ≤ x322) then
   bif (decide (x322 ≤ ((8796093022208 : Nat) : Int))) then
    let x323 := (List.replicate x322.toNat (0 : Int))
    spec_l5Mul_L0 N N a318 a319 (0 : Int) x323
     (fun x361 =>
      spec_l5Trim N x361
       (fun x362 =>
        k0 x362))
   else
    none
  else
   none
 else
  none
theorem spec_l5Mul.ex : ∃ f : ((α : Type) → Nat → List Int → List Int → (List Int → Option α) → Option α), f = fun α => @spec_l5Mul.b α := ⟨_, rfl⟩
noncomputable def spec_l5Mul {α : Type} : Nat → List Int → List Int → (List Int → Option α) → Option α := Classical.choose spec_l5Mul.ex α
theorem spec_l5Mul.eq : @spec_l5Mul = @spec_l5Mul.b := funext fun α => congrFun (Classical.choose_spec spec_l5Mul.ex) α

/-- spec.l5Times -/
noncomputable def spec_l5Times.b {α : Type} (N : Nat) (a314 : List Int) (a315 : Int) (k0 : List Int → Option α) : Option α :=
 let x316 := (decide (a315 = (0 : Int)))
 bif x316 then
  k0 []
 else
  let x317 := [a315]
  spec_l5Mul N a314 x317
   (fun x363 =>
    k0 x363)
theorem spec_l5Times.ex : ∃ f : ((α : Type) → Nat → List Int → Int → (List Int → Option α) → Option α), f = fun α => @spec_l5Times.b α := ⟨_, rfl⟩
noncomputable def spec_l5Times {α : Type} : Nat → List Int → Int → (List Int → Option α) → Option α := Classical.choose spec_l5Times.ex α
theorem spec_l5Times.eq : @spec_l5Times = @spec_l5Times.b := funext fun α => congrFun (Classical.choose_spec spec_l5Times.ex) α

noncomputable def spec_l5Top_L0r {α : Type} (N : Nat) (next : List Int → Int → List Int → Option α) (k0 : List Int → Option α) (v376 : List Int) (v377 : Int) (v378 : List Int) : Option α :=
 let x379 := ((v376.length : Nat) : Int)
 let x380 := decide (v377 < x379)
 bif x380 then
  bif (decide (v377 < (0 : Int))) then
   none
  else
   match v376[v377.toNat]? with
   | some x381 =>
    let x382 := [x381]
    bif decide (v378.length + x382.length ≤ 8796093022208) then
     let x383 := v378 ++ x382
     let x384 := (IntKind.i64.wrap (v377 + (1 : Int)))
     next v376 x384 x383
    else
     none
   | none => none
 else
  k0 v378
noncomputable def spec_l5Top_L0.b {α : Type} (N n : Nat) (v376 : List Int) (v377 : Int) (v378 : List Int) (k0 : List Int → Option α) : Option α :=
  Nat.rec (motive := fun _ => List Int → Int → List Int → Option α) (fun _ _ _ => none) (fun _ next => spec_l5Top_L0r N next k0) n v376 v377 v378
theorem spec_l5Top_L0.ex : ∃ f : ((α : Type) → Nat → Nat → List Int → Int → List Int → (List Int → Option α) → Option α), f = fun α => @spec_l5Top_L0.b α := ⟨_, rfl⟩
noncomputable def spec_l5Top_L0 {α : Type} : Nat → Nat → List Int → Int → List Int → (List Int → Option α) → Option α := Classical.choose spec_l5Top_L0.ex α
theorem spec_l5Top_L0.eq : @spec_l5Top_L0 = @spec_l5Top_L0.b := funext fun α => congrFun (Classical.choose_spec spec_l5Top_L0.ex) α
theorem spec_l5Top_L0.zero {α : Type} (N : Nat) (v376 : List Int) (v377 : Int) (v378 : List Int) (k0 : List Int → Option α) : spec_l5Top_L0 N 0 v376 v377 v378 k0 = none := by rw [spec_l5Top_L0.eq]; rfl
theorem spec_l5Top_L0.succ {α : Type} (N n : Nat) (v376 : List Int) (v377 : Int) (v378 : List Int) (k0 : List Int → Option α) : spec_l5Top_L0 N (n + 1) v376 v377 v378 k0 = spec_l5Top_L0r N (fun y0 y1 y2 => spec_l5Top_L0 N n y0 y1 y2 k0) k0 v376 v377 v378 := by rw [spec_l5Top_L0.eq]; rfl
/-- spec.l5Top -/
noncomputable def spec_l5Top.b {α : Type} (N : Nat) (a374 : List Int) (a375 : Int) (k0 : List Int → Option α) : Option α :=
 spec_l5Top_L0 N N a374 a375 []
  (fun x385 =>
   k0 x385)
theorem spec_l5Top.ex : ∃ f : ((α : Type) → Nat → List Int → Int → (List Int → Option α) → Option α), f = fun α => @spec_l5Top.b α := ⟨_, rfl⟩
noncomputable def spec_l5Top {α : Type} : Nat → List Int → Int → (List Int → Option α) → Option α := Classical.choose spec_l5Top.ex α
theorem spec_l5Top.eq : @spec_l5Top = @spec_l5Top.b := funext fun α => congrFun (Classical.choose_spec spec_l5Top.ex) α

noncomputable def spec_l5Shl_L0r {α : Type} (N : Nat) (next : List Int → Int → List Int → Option α) (k0 : List Int → Option α) (v402 : List Int) (v403 : Int) (v404 : List Int) : Option α :=
 let x405 := ((v402.length : Nat) : Int)
 let x406 := decide (v403 < x405)
 bif x406 then
  bif (decide (v403 < (0 : Int))) then
   none
  else
   match v402[v403.toNat]? with
   | some x407 =>
    let x408 := [x407]
    bif decide (v404.length + x408.length ≤ 8796093022208) then
     let x409 := v404 ++ x408
     let x410 := (IntKind.i64.wrap (v403 + (1 : Int)))
     next v402 x410 x409
    else
     none
   | none => none
 else
  k0 v404
noncomputable def spec_l5Shl_L0.b {α : Type} (N n : Nat) (v402 : List Int) (v403 : Int) (v404 : List Int) (k0 : List Int → Option α) : Option α :=
  Nat.rec (motive := fun _ => List Int → Int → List Int → Option α) (fun _ _ _ => none) (fun _ next => spec_l5Shl_L0r N next k0) n v402 v403 v404
theorem spec_l5Shl_L0.ex : ∃ f : ((α : Type) → Nat → Nat → List Int → Int → List Int → (List Int → Option α) → Option α), f = fun α => @spec_l5Shl_L0.b α := ⟨_, rfl⟩
noncomputable def spec_l5Shl_L0 {α : Type} : Nat → Nat → List Int → Int → List Int → (List Int → Option α) → Option α := Classical.choose spec_l5Shl_L0.ex α
theorem spec_l5Shl_L0.eq : @spec_l5Shl_L0 = @spec_l5Shl_L0.b := funext fun α => congrFun (Classical.choose_spec spec_l5Shl_L0.ex) α
theorem spec_l5Shl_L0.zero {α : Type} (N : Nat) (v402 : List Int) (v403 : Int) (v404 : List Int) (k0 : List Int → Option α) : spec_l5Shl_L0 N 0 v402 v403 v404 k0 = none := by rw [spec_l5Shl_L0.eq]; rfl
theorem spec_l5Shl_L0.succ {α : Type} (N n : Nat) (v402 : List Int) (v403 : Int) (v404 : List Int) (k0 : List Int → Option α) : spec_l5Shl_L0 N (n + 1) v402 v403 v404 k0 = spec_l5Shl_L0r N (fun y0 y1 y2 => spec_l5Shl_L0 N n y0 y1 y2 k0) k0 v402 v403 v404 := by rw [spec_l5Shl_L0.eq]; rfl
/-- spec.l5Shl -/
noncomputable def spec_l5Shl.b {α : Type} (N : Nat) (a397 : List Int) (a398 : Int) (k0 : List Int → Option α) : Option α :=
 let x399 := ((a397.length : Nat) : Int)
 let x400 := (decide (x399 = (0 : Int)))
 bif x400 then
  k0 []
 else
  bif (decide ((0 : Int) ≤ a398)) then
   bif decide (a398 ≤ a398) then
    bif (decide (a398 ≤ ((8796093022208 : Nat) : Int))) then
     let x401 := (List.replicate a398.toNat (0 : Int))
     spec_l5Shl_L0 N N a397 (0 : Int) x401
      (fun x411 =>
       k0 x411)
    else
     none
   else
    none
  else
   none
theorem spec_l5Shl.ex : ∃ f : ((α : Type) → Nat → List Int → Int → (List Int → Option α) → Option α), f = fun α => @spec_l5Shl.b α := ⟨_, rfl⟩
noncomputable def spec_l5Shl {α : Type} : Nat → List Int → Int → (List Int → Option α) → Option α := Classical.choose spec_l5Shl.ex α
theorem spec_l5Shl.eq : @spec_l5Shl = @spec_l5Shl.b := funext fun α => congrFun (Classical.choose_spec spec_l5Shl.ex) α

/-- spec.l5At -/
noncomputable def spec_l5At.b {α : Type} (N : Nat) (a435 : List Int) (a436 : Int) (k0 : Int → Option α) : Option α :=
 let x437 := ((a435.length : Nat) : Int)
 let x438 := decide (a436 < x437)
 bif x438 then
  bif (decide (a436 < (0 : Int))) then
   none
  else
   match a435[a436.toNat]? with
   | some x439 =>
    k0 x439
   | none => none
 else
  k0 (0 : Int)
theorem spec_l5At.ex : ∃ f : ((α : Type) → Nat → List Int → Int → (Int → Option α) → Option α), f = fun α => @spec_l5At.b α := ⟨_, rfl⟩
noncomputable def spec_l5At {α : Type} : Nat → List Int → Int → (Int → Option α) → Option α := Classical.choose spec_l5At.ex α
theorem spec_l5At.eq : @spec_l5At = @spec_l5At.b := funext fun α => congrFun (Classical.choose_spec spec_l5At.ex) α

noncomputable def spec_l5Add_J2.b {α : Type} (N : Nat) (v419 : List Int) (v420 : List Int) (v421 : Int) (k0 : List Int → List Int → Int → Option α) : Option α :=
 let x422 := ((v420.length : Nat) : Int)
 let x423 := decide (v421 < x422)
 bif x423 then
  let x424 := ((v420.length : Nat) : Int)
  k0 v419 v420 x424
 else
  k0 v419 v420 v421
theorem spec_l5Add_J2.ex : ∃ f : ((α : Type) → Nat → List Int → List Int → Int → (List Int → List Int → Int → Option α) → Option α), f = fun α => @spec_l5Add_J2.b α := ⟨_, rfl⟩
noncomputable def spec_l5Add_J2 {α : Type} : Nat → List Int → List Int → Int → (List Int → List Int → Int → Option α) → Option α := Classical.choose spec_l5Add_J2.ex α
theorem spec_l5Add_J2.eq : @spec_l5Add_J2 = @spec_l5Add_J2.b := funext fun α => congrFun (Classical.choose_spec spec_l5Add_J2.ex) α
noncomputable def spec_l5Add_L0r {α : Type} (N : Nat) (next : List Int → List Int → Int → Int → Int → List Int → Option α) (k0 : Int → List Int → Option α) (v428 : List Int) (v429 : List Int) (v430 : Int) (v431 : Int) (v432 : Int) (v433 : List Int) : Option α :=
 let x434 := decide (v432 < v430)
 bif x434 then
  spec_l5At N v428 v432
   (fun x440 =>
    spec_l5At N v429 v432
     (fun x441 =>
      let x442 := IntKind.i64.wrap (x440 + x441)
      let x443 := IntKind.i64.wrap (x442 + v431)
      let x444 := (Int.tmod x443 (65536 : Int))
      let x445 := [x444]
      bif decide (v433.length + x445.length ≤ 8796093022208) then
       let x446 := v433 ++ x445
       let x447 := (IntKind.i64.wrap (Int.tdiv x443 (65536 : Int)))
       let x448 := (IntKind.i64.wrap (v432 + (1 : Int)))
       next v428 v429 v430 x447 x448 x446
      else
       none))
 else
  k0 v431 v433
noncomputable def spec_l5Add_L0.b {α : Type} (N n : Nat) (v428 : List Int) (v429 : List Int) (v430 : Int) (v431 : Int) (v432 : Int) (v433 : List Int) (k0 : Int → List Int → Option α) : Option α :=
  Nat.rec (motive := fun _ => List Int → List Int → Int → Int → Int → List Int → Option α) (fun _ _ _ _ _ _ => none) (fun _ next => spec_l5Add_L0r N next k0) n v428 v429 v430 v431 v432 v433
theorem spec_l5Add_L0.ex : ∃ f : ((α : Type) → Nat → Nat → List Int → List Int → Int → Int → Int → List Int → (Int → List Int → Option α) → Option α), f = fun α => @spec_l5Add_L0.b α := ⟨_, rfl⟩
noncomputable def spec_l5Add_L0 {α : Type} : Nat → Nat → List Int → List Int → Int → Int → Int → List Int → (Int → List Int → Option α) → Option α := Classical.choose spec_l5Add_L0.ex α
theorem spec_l5Add_L0.eq : @spec_l5Add_L0 = @spec_l5Add_L0.b := funext fun α => congrFun (Classical.choose_spec spec_l5Add_L0.ex) α
theorem spec_l5Add_L0.zero {α : Type} (N : Nat) (v428 : List Int) (v429 : List Int) (v430 : Int) (v431 : Int) (v432 : Int) (v433 : List Int) (k0 : Int → List Int → Option α) : spec_l5Add_L0 N 0 v428 v429 v430 v431 v432 v433 k0 = none := by rw [spec_l5Add_L0.eq]; rfl
theorem spec_l5Add_L0.succ {α : Type} (N n : Nat) (v428 : List Int) (v429 : List Int) (v430 : Int) (v431 : Int) (v432 : Int) (v433 : List Int) (k0 : Int → List Int → Option α) : spec_l5Add_L0 N (n + 1) v428 v429 v430 v431 v432 v433 k0 = spec_l5Add_L0r N (fun y0 y1 y2 y3 y4 y5 => spec_l5Add_L0 N n y0 y1 y2 y3 y4 y5 k0) k0 v428 v429 v430 v431 v432 v433 := by rw [spec_l5Add_L0.eq]; rfl
noncomputable def spec_l5Add_J12.b {α : Type} (N : Nat) (v451 : Int) (v452 : List Int) (k0 : List Int → Option α) : Option α :=
 let x453 := (decide ((0 : Int) < v451))
 bif x453 then
  let x454 := [v451]
  bif decide (v452.length + x454.length ≤ 8796093022208) then
   let x455 := v452 ++ x454
   k0 x455
  else
   none
 else
  k0 v452
theorem spec_l5Add_J12.ex : ∃ f : ((α : Type) → Nat → Int → List Int → (List Int → Option α) → Option α), f = fun α => @spec_l5Add_J12.b α := ⟨_, rfl⟩
noncomputable def spec_l5Add_J12 {α : Type} : Nat → Int → List Int → (List Int → Option α) → Option α := Classical.choose spec_l5Add_J12.ex α
theorem spec_l5Add_J12.eq : @spec_l5Add_J12 = @spec_l5Add_J12.b := funext fun α => congrFun (Classical.choose_spec spec_l5Add_J12.ex) α
/-- spec.l5Add -/
noncomputable def spec_l5Add.b {α : Type} (N : Nat) (a416 : List Int) (a417 : List Int) (k0 : List Int → Option α) : Option α :=
 let x418 := ((a416.length : Nat) : Int)
 spec_l5Add_J2 N a416 a417 x418
  (fun x425 x426 x427 =>
   spec_l5Add_L0 N N x425 x426 x427 (0 : Int) (0 : Int) []
    (fun x449 x450 =>
     spec_l5Add_J12 N x449 x450
      (fun x456 =>
       k0 x456)))
theorem spec_l5Add.ex : ∃ f : ((α : Type) → Nat → List Int → List Int → (List Int → Option α) → Option α), f = fun α => @spec_l5Add.b α := ⟨_, rfl⟩
noncomputable def spec_l5Add {α : Type} : Nat → List Int → List Int → (List Int → Option α) → Option α := Classical.choose spec_l5Add.ex α
theorem spec_l5Add.eq : @spec_l5Add = @spec_l5Add.b := funext fun α => congrFun (Classical.choose_spec spec_l5Add.ex) α

noncomputable def spec_l5Sub_J8.b {α : Type} (N : Nat) (v509 : List Int) (v510 : List Int) (v511 : Int) (v512 : Int) (v513 : Int) (v514 : List Int) (k0 : List Int → List Int → Int → Int → Int → List Int → Option α) : Option α :=
 let x515 := (decide (v513 < (0 : Int)))
 bif x515 then
  let x516 := (IntKind.i64.wrap (v513 + (65536 : Int)))
  k0 v509 v510 (1 : Int) v512 x516 v514
 else
  k0 v509 v510 v511 v512 v513 v514
theorem spec_l5Sub_J8.ex : ∃ f : ((α : Type) → Nat → List Int → List Int → Int → Int → Int → List Int → (List Int → List Int → Int → Int → Int → List Int → Option α) → Option α), f = fun α => @spec_l5Sub_J8.b α := ⟨_, rfl⟩
noncomputable def spec_l5Sub_J8 {α : Type} : Nat → List Int → List Int → Int → Int → Int → List Int → (List Int → List Int → Int → Int → Int → List Int → Option α) → Option α := Classical.choose spec_l5Sub_J8.ex α
theorem spec_l5Sub_J8.eq : @spec_l5Sub_J8 = @spec_l5Sub_J8.b := funext fun α => congrFun (Classical.choose_spec spec_l5Sub_J8.ex) α
noncomputable def spec_l5Sub_L0r {α : Type} (N : Nat) (next : List Int → List Int → Int → Int → List Int → Option α) (k0 : List Int → Option α) (v498 : List Int) (v499 : List Int) (v500 : Int) (v501 : Int) (v502 : List Int) : Option α :=
 let x503 := ((v498.length : Nat) : Int)
 let x504 := decide (v501 < x503)
 bif x504 then
  bif (decide (v501 < (0 : Int))) then
   none
  else
   match v498[v501.toNat]? with
   | some x505 =>
    spec_l5At N v499 v501
     (fun x506 =>
      let x507 := IntKind.i64.wrap (x505 - x506)
      let x508 := IntKind.i64.wrap (x507 - v500)
      spec_l5Sub_J8 N v498 v499 (0 : Int) v501 x508 v502
       (fun x517 x518 x519 x520 x521 x522 =>
        let x523 := [x521]
        bif decide (x522.length + x523.length ≤ 8796093022208) then
         let x524 := x522 ++ x523
         let x525 := (IntKind.i64.wrap (x520 + (1 : Int)))
         next x517 x518 x519 x525 x524
        else
         none))
   | none => none
 else
  k0 v502
noncomputable def spec_l5Sub_L0.b {α : Type} (N n : Nat) (v498 : List Int) (v499 : List Int) (v500 : Int) (v501 : Int) (v502 : List Int) (k0 : List Int → Option α) : Option α :=
  Nat.rec (motive := fun _ => List Int → List Int → Int → Int → List Int → Option α) (fun _ _ _ _ _ => none) (fun _ next => spec_l5Sub_L0r N next k0) n v498 v499 v500 v501 v502
theorem spec_l5Sub_L0.ex : ∃ f : ((α : Type) → Nat → Nat → List Int → List Int → Int → Int → List Int → (List Int → Option α) → Option α), f = fun α => @spec_l5Sub_L0.b α := ⟨_, rfl⟩
noncomputable def spec_l5Sub_L0 {α : Type} : Nat → Nat → List Int → List Int → Int → Int → List Int → (List Int → Option α) → Option α := Classical.choose spec_l5Sub_L0.ex α
theorem spec_l5Sub_L0.eq : @spec_l5Sub_L0 = @spec_l5Sub_L0.b := funext fun α => congrFun (Classical.choose_spec spec_l5Sub_L0.ex) α
theorem spec_l5Sub_L0.zero {α : Type} (N : Nat) (v498 : List Int) (v499 : List Int) (v500 : Int) (v501 : Int) (v502 : List Int) (k0 : List Int → Option α) : spec_l5Sub_L0 N 0 v498 v499 v500 v501 v502 k0 = none := by rw [spec_l5Sub_L0.eq]; rfl
theorem spec_l5Sub_L0.succ {α : Type} (N n : Nat) (v498 : List Int) (v499 : List Int) (v500 : Int) (v501 : Int) (v502 : List Int) (k0 : List Int → Option α) : spec_l5Sub_L0 N (n + 1) v498 v499 v500 v501 v502 k0 = spec_l5Sub_L0r N (fun y0 y1 y2 y3 y4 => spec_l5Sub_L0 N n y0 y1 y2 y3 y4 k0) k0 v498 v499 v500 v501 v502 := by rw [spec_l5Sub_L0.eq]; rfl
/-- spec.l5Sub -/
noncomputable def spec_l5Sub.b {α : Type} (N : Nat) (a496 : List Int) (a497 : List Int) (k0 : List Int → Option α) : Option α :=
 spec_l5Sub_L0 N N a496 a497 (0 : Int) (0 : Int) []
  (fun x526 =>
   spec_l5Trim N x526
    (fun x527 =>
     k0 x527))
theorem spec_l5Sub.ex : ∃ f : ((α : Type) → Nat → List Int → List Int → (List Int → Option α) → Option α), f = fun α => @spec_l5Sub.b α := ⟨_, rfl⟩
noncomputable def spec_l5Sub {α : Type} : Nat → List Int → List Int → (List Int → Option α) → Option α := Classical.choose spec_l5Sub.ex α
theorem spec_l5Sub.eq : @spec_l5Sub = @spec_l5Sub.b := funext fun α => congrFun (Classical.choose_spec spec_l5Sub.ex) α

noncomputable def spec_l5Div_J17.b {α : Type} (N : Nat) (v467 : Int) (v468 : Int) (v469 : Int) (v470 : Int) (v471 : List Int) (v472 : List Int) (v473 : List Int) (v474 : List Int) (k0 : Int → Int → Int → Int → List Int → List Int → List Int → List Int → Option α) : Option α :=
 let x475 := (decide ((65536 : Int) ≤ v470))
 bif x475 then
  k0 v467 v468 v469 (65535 : Int) v471 v472 v473 v474
 else
  k0 v467 v468 v469 v470 v471 v472 v473 v474
theorem spec_l5Div_J17.ex : ∃ f : ((α : Type) → Nat → Int → Int → Int → Int → List Int → List Int → List Int → List Int → (Int → Int → Int → Int → List Int → List Int → List Int → List Int → Option α) → Option α), f = fun α => @spec_l5Div_J17.b α := ⟨_, rfl⟩
noncomputable def spec_l5Div_J17 {α : Type} : Nat → Int → Int → Int → Int → List Int → List Int → List Int → List Int → (Int → Int → Int → Int → List Int → List Int → List Int → List Int → Option α) → Option α := Classical.choose spec_l5Div_J17.ex α
theorem spec_l5Div_J17.eq : @spec_l5Div_J17 = @spec_l5Div_J17.b := funext fun α => congrFun (Classical.choose_spec spec_l5Div_J17.ex) α
noncomputable def spec_l5Div_L2r {α : Type} (N : Nat) (next : Int → Int → Int → Int → List Int → List Int → List Int → List Int → List Int → Option α) (k0 : Int → Int → Int → Int → List Int → List Int → List Int → List Int → List Int → Option α) (v485 : Int) (v486 : Int) (v487 : Int) (v488 : Int) (v489 : List Int) (v490 : List Int) (v491 : List Int) (v492 : List Int) (v493 : List Int) : Option α :=
 spec_l5Cmp N v493 v492
  (fun x494 =>
   let x495 := (decide ((0 : Int) < x494))
   bif x495 then
    spec_l5Sub N v493 v490
     (fun x528 =>
      let x529 := (IntKind.i64.wrap (v488 - (1 : Int)))
      next v485 v486 v487 x529 v489 v490 v491 v492 x528)
   else
    k0 v485 v486 v487 v488 v489 v490 v491 v492 v493)
noncomputable def spec_l5Div_L2.b {α : Type} (N n : Nat) (v485 : Int) (v486 : Int) (v487 : Int) (v488 : Int) (v489 : List Int) (v490 : List Int) (v491 : List Int) (v492 : List Int) (v493 : List Int) (k0 : Int → Int → Int → Int → List Int → List Int → List Int → List Int → List Int → Option α) : Option α :=
  Nat.rec (motive := fun _ => Int → Int → Int → Int → List Int → List Int → List Int → List Int → List Int → Option α) (fun _ _ _ _ _ _ _ _ _ => none) (fun _ next => spec_l5Div_L2r N next k0) n v485 v486 v487 v488 v489 v490 v491 v492 v493
theorem spec_l5Div_L2.ex : ∃ f : ((α : Type) → Nat → Nat → Int → Int → Int → Int → List Int → List Int → List Int → List Int → List Int → (Int → Int → Int → Int → List Int → List Int → List Int → List Int → List Int → Option α) → Option α), f = fun α => @spec_l5Div_L2.b α := ⟨_, rfl⟩
noncomputable def spec_l5Div_L2 {α : Type} : Nat → Nat → Int → Int → Int → Int → List Int → List Int → List Int → List Int → List Int → (Int → Int → Int → Int → List Int → List Int → List Int → List Int → List Int → Option α) → Option α := Classical.choose spec_l5Div_L2.ex α
theorem spec_l5Div_L2.eq : @spec_l5Div_L2 = @spec_l5Div_L2.b := funext fun α => congrFun (Classical.choose_spec spec_l5Div_L2.ex) α
theorem spec_l5Div_L2.zero {α : Type} (N : Nat) (v485 : Int) (v486 : Int) (v487 : Int) (v488 : Int) (v489 : List Int) (v490 : List Int) (v491 : List Int) (v492 : List Int) (v493 : List Int) (k0 : Int → Int → Int → Int → List Int → List Int → List Int → List Int → List Int → Option α) : spec_l5Div_L2 N 0 v485 v486 v487 v488 v489 v490 v491 v492 v493 k0 = none := by rw [spec_l5Div_L2.eq]; rfl
theorem spec_l5Div_L2.succ {α : Type} (N n : Nat) (v485 : Int) (v486 : Int) (v487 : Int) (v488 : Int) (v489 : List Int) (v490 : List Int) (v491 : List Int) (v492 : List Int) (v493 : List Int) (k0 : Int → Int → Int → Int → List Int → List Int → List Int → List Int → List Int → Option α) : spec_l5Div_L2 N (n + 1) v485 v486 v487 v488 v489 v490 v491 v492 v493 k0 = spec_l5Div_L2r N (fun y0 y1 y2 y3 y4 y5 y6 y7 y8 => spec_l5Div_L2 N n y0 y1 y2 y3 y4 y5 y6 y7 y8 k0) k0 v485 v486 v487 v488 v489 v490 v491 v492 v493 := by rw [spec_l5Div_L2.eq]; rfl
noncomputable def spec_l5Div_L0r {α : Type} (N : Nat) (next : Int → Int → Int → List Int → List Int → List Int → List Int → Option α) (k0 : Int → List Int → List Int → Option α) (v389 : Int) (v390 : Int) (v391 : Int) (v392 : List Int) (v393 : List Int) (v394 : List Int) (v395 : List Int) : Option α :=
 let x396 := (decide ((0 : Int) ≤ v391))
 bif x396 then
  spec_l5Shl N v395 (1 : Int)
   (fun x412 =>
    bif (decide (v391 < (0 : Int))) then
     none
    else
     bif decide (v391.toNat < v392.length) then
      match v392[v391.toNat]? with
      | some x413 =>
       let x414 := IntKind.u64.wrap x413
       spec_NatOf N x414
        (fun x415 =>
         spec_l5Add N x412 x415
          (fun x457 =>
           spec_l5Trim N x457
            (fun x458 =>
             spec_l5At N x458 v390
              (fun x459 =>
               let x460 := (IntKind.i64.wrap (x459 * (65536 : Int)))
               let x461 := (IntKind.i64.wrap (v390 - (1 : Int)))
               spec_l5At N x458 x461
                (fun x462 =>
                 let x463 := IntKind.i64.wrap (x460 + x462)
                 let x464 := (IntKind.i64.wrap (v390 - (1 : Int)))
                 bif (decide (x464 < (0 : Int))) then
                  none
                 else
                  bif decide (x464.toNat < v393.length) then
                   match v393[x464.toNat]? with
                   | some x465 =>
                    bif (decide (x465 = (0 : Int))) then
                     none
                    else
                     let x466 := IntKind.i64.wrap (Int.tdiv x463 x465)
                     spec_l5Div_J17 N v389 v390 v391 x466 v392 v393 v394 x458
                      (fun x476 x477 x478 x479 x480 x481 x482 x483 =>
                       spec_l5Times N x481 x479
                        (fun x484 =>
                         spec_l5Div_L2 N N x476 x477 x478 x479 x480 x481 x482 x483 x484
                          (fun x530 x531 x532 x533 x534 x535 x536 x537 x538 =>
                           bif (decide (x532 < (0 : Int))) then
                            none
                           else
                            bif decide (x532.toNat < x536.length) then
                             match x536[x532.toNat]? with
                             | some x539 =>
                              let x540 := x536.set x532.toNat x533
                              spec_l5Sub N x537 x538
                               (fun x541 =>
                                let x542 := (IntKind.i64.wrap (x532 - (1 : Int)))
                                next x530 x531 x542 x534 x535 x540 x541)
                             | none => none
                            else
                             none)))
                   | none => none
                  else
                   none)))))
      | none => none
     else
      none)
 else
  k0 v389 v394 v395
noncomputable def spec_l5Div_L0.b {α : Type} (N n : Nat) (v389 : Int) (v390 : Int) (v391 : Int) (v392 : List Int) (v393 : List Int) (v394 : List Int) (v395 : List Int) (k0 : Int → List Int → List Int → Option α) : Option α :=
  Nat.rec (motive := fun _ => Int → Int → Int → List Int → List Int → List Int → List Int → Option α) (fun _ _ _ _ _ _ _ => none) (fun _ next => spec_l5Div_L0r N next k0) n v389 v390 v391 v392 v393 v394 v395
theorem spec_l5Div_L0.ex : ∃ f : ((α : Type) → Nat → Nat → Int → Int → Int → List Int → List Int → List Int → List Int → (Int → List Int → List Int → Option α) → Option α), f = fun α => @spec_l5Div_L0.b α := ⟨_, rfl⟩
noncomputable def spec_l5Div_L0 {α : Type} : Nat → Nat → Int → Int → Int → List Int → List Int → List Int → List Int → (Int → List Int → List Int → Option α) → Option α := Classical.choose spec_l5Div_L0.ex α
theorem spec_l5Div_L0.eq : @spec_l5Div_L0 = @spec_l5Div_L0.b := funext fun α => congrFun (Classical.choose_spec spec_l5Div_L0.ex) α
theorem spec_l5Div_L0.zero {α : Type} (N : Nat) (v389 : Int) (v390 : Int) (v391 : Int) (v392 : List Int) (v393 : List Int) (v394 : List Int) (v395 : List Int) (k0 : Int → List Int → List Int → Option α) : spec_l5Div_L0 N 0 v389 v390 v391 v392 v393 v394 v395 k0 = none := by rw [spec_l5Div_L0.eq]; rfl
theorem spec_l5Div_L0.succ {α : Type} (N n : Nat) (v389 : Int) (v390 : Int) (v391 : Int) (v392 : List Int) (v393 : List Int) (v394 : List Int) (v395 : List Int) (k0 : Int → List Int → List Int → Option α) : spec_l5Div_L0 N (n + 1) v389 v390 v391 v392 v393 v394 v395 k0 = spec_l5Div_L0r N (fun y0 y1 y2 y3 y4 y5 y6 => spec_l5Div_L0 N n y0 y1 y2 y3 y4 y5 y6 k0) k0 v389 v390 v391 v392 v393 v394 v395 := by rw [spec_l5Div_L0.eq]; rfl
/-- spec.l5Div -/
noncomputable def spec_l5Div.b {α : Type} (N : Nat) (a252 : List Int) (a253 : List Int) (k0 : List Int → List Int → Option α) : Option α :=
 spec_l5Cmp N a252 a253
  (fun x276 =>
   let x277 := (decide (x276 < (0 : Int)))
   bif x277 then
    spec_l5Trim N a252
     (fun x278 =>
      k0 [] x278)
   else
    let x279 := ((a253.length : Nat) : Int)
    let x280 := (decide (x279 = (1 : Int)))
    bif x280 then
     match a253[0]? with
     | some x281 =>
      spec_l5DivSmall N a252 x281
       (fun x305 x306 =>
        let x307 := IntKind.u64.wrap x305
        spec_NatOf N x307
         (fun x308 =>
          k0 x306 x308))
     | none => none
    else
     let x309 := ((a253.length : Nat) : Int)
     let x310 := (IntKind.i64.wrap (x309 - (1 : Int)))
     bif (decide (x310 < (0 : Int))) then
      none
     else
      match a253[x310.toNat]? with
      | some x311 =>
       let x312 := (IntKind.i64.wrap (x311 + (1 : Int)))
       bif (decide (x312 = (0 : Int))) then
        none
       else
        let x313 := (IntKind.i64.wrap (Int.tdiv (65536 : Int) x312))
        spec_l5Times N a252 x313
         (fun x364 =>
          spec_l5Times N a253 x313
           (fun x365 =>
            let x366 := ((x365.length : Nat) : Int)
            let x367 := ((x364.length : Nat) : Int)
            let x368 := IntKind.i64.wrap (x367 - x366)
            let x369 := (IntKind.i64.wrap (x368 + (1 : Int)))
            bif (decide ((0 : Int) ≤ x369)) then
             bif decide (x369 ≤ x369) then
              bif (decide (x369 ≤ ((8796093022208 : Nat) : Int))) then
               let x370 := (List.replicate x369.toNat (0 : Int))
               let x371 := ((x364.length : Nat) : Int)
               let x372 := IntKind.i64.wrap (x371 - x366)
               let x373 := (IntKind.i64.wrap (x372 + (1 : Int)))
               spec_l5Top N x364 x373
                (fun x386 =>
                 let x387 := ((x364.length : Nat) : Int)
                 let x388 := IntKind.i64.wrap (x387 - x366)
                 spec_l5Div_L0 N N x313 x366 x388 x364 x365 x370 x386
                  (fun x543 x544 x545 =>
                   spec_l5DivSmall N x545 x543
                    (fun _ x547 =>
                     spec_l5Trim N x544
                      (fun x548 =>
                       k0 x548 x547))))
              else
               none
             else
              none
            else
             none))
      | none => none)
theorem spec_l5Div.ex : ∃ f : ((α : Type) → Nat → List Int → List Int → (List Int → List Int → Option α) → Option α), f = fun α => @spec_l5Div.b α := ⟨_, rfl⟩
noncomputable def spec_l5Div {α : Type} : Nat → List Int → List Int → (List Int → List Int → Option α) → Option α := Classical.choose spec_l5Div.ex α
theorem spec_l5Div.eq : @spec_l5Div = @spec_l5Div.b := funext fun α => congrFun (Classical.choose_spec spec_l5Div.ex) α

noncomputable def spec_l5Gcd_L0r {α : Type} (N : Nat) (next : List Int → List Int → Option α) (k0 : List Int → Option α) (v248 : List Int) (v249 : List Int) : Option α :=
 let x250 := ((v249.length : Nat) : Int)
 let x251 := (decide ((0 : Int) < x250))
 bif x251 then
  spec_l5Div N v248 v249
   (fun _ x550 =>
    next v249 x550)
 else
  k0 v248
noncomputable def spec_l5Gcd_L0.b {α : Type} (N n : Nat) (v248 : List Int) (v249 : List Int) (k0 : List Int → Option α) : Option α :=
  Nat.rec (motive := fun _ => List Int → List Int → Option α) (fun _ _ => none) (fun _ next => spec_l5Gcd_L0r N next k0) n v248 v249
theorem spec_l5Gcd_L0.ex : ∃ f : ((α : Type) → Nat → Nat → List Int → List Int → (List Int → Option α) → Option α), f = fun α => @spec_l5Gcd_L0.b α := ⟨_, rfl⟩
noncomputable def spec_l5Gcd_L0 {α : Type} : Nat → Nat → List Int → List Int → (List Int → Option α) → Option α := Classical.choose spec_l5Gcd_L0.ex α
theorem spec_l5Gcd_L0.eq : @spec_l5Gcd_L0 = @spec_l5Gcd_L0.b := funext fun α => congrFun (Classical.choose_spec spec_l5Gcd_L0.ex) α
theorem spec_l5Gcd_L0.zero {α : Type} (N : Nat) (v248 : List Int) (v249 : List Int) (k0 : List Int → Option α) : spec_l5Gcd_L0 N 0 v248 v249 k0 = none := by rw [spec_l5Gcd_L0.eq]; rfl
theorem spec_l5Gcd_L0.succ {α : Type} (N n : Nat) (v248 : List Int) (v249 : List Int) (k0 : List Int → Option α) : spec_l5Gcd_L0 N (n + 1) v248 v249 k0 = spec_l5Gcd_L0r N (fun y0 y1 => spec_l5Gcd_L0 N n y0 y1 k0) k0 v248 v249 := by rw [spec_l5Gcd_L0.eq]; rfl
/-- spec.l5Gcd -/
noncomputable def spec_l5Gcd.b {α : Type} (N : Nat) (a223 : List Int) (a224 : List Int) (k0 : List Int → Option α) : Option α :=
 spec_l5Trim N a223
  (fun x246 =>
   spec_l5Trim N a224
    (fun x247 =>
     spec_l5Gcd_L0 N N x246 x247
      (fun x551 =>
       k0 x551)))
theorem spec_l5Gcd.ex : ∃ f : ((α : Type) → Nat → List Int → List Int → (List Int → Option α) → Option α), f = fun α => @spec_l5Gcd.b α := ⟨_, rfl⟩
noncomputable def spec_l5Gcd {α : Type} : Nat → List Int → List Int → (List Int → Option α) → Option α := Classical.choose spec_l5Gcd.ex α
theorem spec_l5Gcd.eq : @spec_l5Gcd = @spec_l5Gcd.b := funext fun α => congrFun (Classical.choose_spec spec_l5Gcd.ex) α

/-- spec.l6Make -/
noncomputable def spec_l6Make.b {α : Type} (N : Nat) (a217 : Bool) (a218 : List Int) (a219 : List Int) (k0 : Bool → Bool → List Int → List Int → Option α) : Option α :=
 let x220 := ((a218.length : Nat) : Int)
 let x221 := (decide (x220 = (0 : Int)))
 bif x221 then
  let x222 := [(1 : Int)]
  k0 false true [] x222
 else
  spec_l5Gcd N a218 a219
   (fun x552 =>
    spec_l5Div N a218 x552
     (fun x553 _ =>
      spec_l5Div N a219 x552
       (fun x555 _ =>
        let x557 := ((x553.length : Nat) : Int)
        let x558 := (decide ((256 : Int) < x557))
        bif x558 then
         k0 false false [] []
        else
         let x559 := ((x555.length : Nat) : Int)
         let x560 := (decide ((256 : Int) < x559))
         bif x560 then
          k0 false false [] []
         else
          k0 a217 true x553 x555)))
theorem spec_l6Make.ex : ∃ f : ((α : Type) → Nat → Bool → List Int → List Int → (Bool → Bool → List Int → List Int → Option α) → Option α), f = fun α => @spec_l6Make.b α := ⟨_, rfl⟩
noncomputable def spec_l6Make {α : Type} : Nat → Bool → List Int → List Int → (Bool → Bool → List Int → List Int → Option α) → Option α := Classical.choose spec_l6Make.ex α
theorem spec_l6Make.eq : @spec_l6Make = @spec_l6Make.b := funext fun α => congrFun (Classical.choose_spec spec_l6Make.ex) α

/-- spec.FracOf -/
noncomputable def spec_FracOf.b {α : Type} (N : Nat) (a188 : Bool) (a189 : List Int) (a190 : List Int) (k0 : Bool → Bool → List Int → List Int → Option α) : Option α :=
 spec_NatOk N a189
  (fun x211 =>
   let x212 := !x211
   bif x212 then
    k0 false false [] []
   else
    spec_NatOk N a190
     (fun x213 =>
      let x214 := !x213
      bif x214 then
       k0 false false [] []
      else
       let x215 := ((a190.length : Nat) : Int)
       let x216 := (decide (x215 = (0 : Int)))
       bif x216 then
        k0 false false [] []
       else
        spec_l6Make N a188 a189 a190
         (fun x561 x562 x563 x564 =>
          k0 x561 x562 x563 x564)))
theorem spec_FracOf.ex : ∃ f : ((α : Type) → Nat → Bool → List Int → List Int → (Bool → Bool → List Int → List Int → Option α) → Option α), f = fun α => @spec_FracOf.b α := ⟨_, rfl⟩
noncomputable def spec_FracOf {α : Type} : Nat → Bool → List Int → List Int → (Bool → Bool → List Int → List Int → Option α) → Option α := Classical.choose spec_FracOf.ex α
theorem spec_FracOf.eq : @spec_FracOf = @spec_FracOf.b := funext fun α => congrFun (Classical.choose_spec spec_FracOf.ex) α

noncomputable def spec_FracInt_J2.b {α : Type} (N : Nat) (v576 : Int) (v577 : Bool) (v578 : Bool) (v579 : List Int) (v580 : List Int) (v581 : List Int) (v582 : List Int) (k0 : Bool → Bool → List Int → List Int → List Int → List Int → Option α) : Option α :=
 let x583 := (decide (v576 < (0 : Int)))
 bif x583 then
  let x584 := IntKind.u64.wrap v576
  let x585 := IntKind.u64.wrap (0 - x584)
  spec_NatOf N x585
   (fun x586 =>
    k0 v577 v578 v579 v580 x586 v582)
 else
  let x587 := IntKind.u64.wrap v576
  spec_NatOf N x587
   (fun x588 =>
    k0 v577 v578 v579 v580 x588 v582)
theorem spec_FracInt_J2.ex : ∃ f : ((α : Type) → Nat → Int → Bool → Bool → List Int → List Int → List Int → List Int → (Bool → Bool → List Int → List Int → List Int → List Int → Option α) → Option α), f = fun α => @spec_FracInt_J2.b α := ⟨_, rfl⟩
noncomputable def spec_FracInt_J2 {α : Type} : Nat → Int → Bool → Bool → List Int → List Int → List Int → List Int → (Bool → Bool → List Int → List Int → List Int → List Int → Option α) → Option α := Classical.choose spec_FracInt_J2.ex α
theorem spec_FracInt_J2.eq : @spec_FracInt_J2 = @spec_FracInt_J2.b := funext fun α => congrFun (Classical.choose_spec spec_FracInt_J2.ex) α
/-- spec.FracInt -/
noncomputable def spec_FracInt.b {α : Type} (N : Nat) (a573 : Int) (k0 : Bool → List Int → List Int → Option α) : Option α :=
 let x574 := (decide (a573 < (0 : Int)))
 let x575 := [(1 : Int)]
 spec_FracInt_J2 N a573 false x574 [] [] [] x575
  (fun _ x590 _ _ x593 x594 =>
   k0 x590 x593 x594)
theorem spec_FracInt.ex : ∃ f : ((α : Type) → Nat → Int → (Bool → List Int → List Int → Option α) → Option α), f = fun α => @spec_FracInt.b α := ⟨_, rfl⟩
noncomputable def spec_FracInt {α : Type} : Nat → Int → (Bool → List Int → List Int → Option α) → Option α := Classical.choose spec_FracInt.ex α
theorem spec_FracInt.eq : @spec_FracInt = @spec_FracInt.b := funext fun α => congrFun (Classical.choose_spec spec_FracInt.ex) α

noncomputable def spec_l32Rd_good_J2.b {α : Type} (N : Nat) (v160 : (List Int) × Int × Unit) (v161 : Bool) (v162 : List Int) (v163 : List Int) (v164 : List Int) (k0 : ((List Int) × Int × Unit) → Bool → List Int → List Int → List Int → Option α) : Option α :=
 let x165 := ((v162.length : Nat) : Int)
 let x166 := (decide (x165 = (0 : Int)))
 bif x166 then
  spec_l32Rd_pick N (9 : Int) v160
   (fun x167 x168 =>
    let x169 := (IntKind.i64.wrap ((1 : Int) + x167))
    let x170 := [x169]
    k0 x168 v161 x170 v163 v164)
 else
  spec_l32Rd_pick N (3 : Int) v160
   (fun x171 x172 =>
    let x173 := (decide (x171 = (0 : Int)))
    bif x173 then
     spec_l32Rd_pick N (9 : Int) x172
      (fun x174 x175 =>
       let x176 := (IntKind.i64.wrap ((1 : Int) + x174))
       let x177 := [x176]
       k0 x175 v161 x177 v163 v164)
    else
     k0 x172 v161 v162 v163 v164)
theorem spec_l32Rd_good_J2.ex : ∃ f : ((α : Type) → Nat → ((List Int) × Int × Unit) → Bool → List Int → List Int → List Int → (((List Int) × Int × Unit) → Bool → List Int → List Int → List Int → Option α) → Option α), f = fun α => @spec_l32Rd_good_J2.b α := ⟨_, rfl⟩
noncomputable def spec_l32Rd_good_J2 {α : Type} : Nat → ((List Int) × Int × Unit) → Bool → List Int → List Int → List Int → (((List Int) × Int × Unit) → Bool → List Int → List Int → List Int → Option α) → Option α := Classical.choose spec_l32Rd_good_J2.ex α
theorem spec_l32Rd_good_J2.eq : @spec_l32Rd_good_J2 = @spec_l32Rd_good_J2.b := funext fun α => congrFun (Classical.choose_spec spec_l32Rd_good_J2.ex) α
/-- (*spec.l32Rd).good -/
noncomputable def spec_l32Rd_good.b {α : Type} (N : Nat) (a13 : (List Int) × Int × Unit) (k0 : Bool → ((List Int) × Int × Unit) → List Int → List Int → Option α) : Option α :=
 spec_l32Rd_nat N a13
  (fun x158 x159 =>
   spec_l32Rd_good_J2 N x158 false x159 [] []
    (fun x178 _ x180 _ _ =>
     spec_l32Rd_pick N (2 : Int) x178
      (fun x183 x184 =>
       let x185 := (decide (x183 = (0 : Int)))
       spec_l32Rd_nat N x184
        (fun x186 x187 =>
         spec_FracOf N x185 x187 x180
          (fun x565 x566 x567 x568 =>
           let x569 := !x566
           bif x569 then
            spec_l32Rd_pick N (9 : Int) x186
             (fun x570 x571 =>
              let x572 := (IntKind.i64.wrap (x570 - (4 : Int)))
              spec_FracInt N x572
               (fun x595 x596 x597 =>
                k0 x595 x571 x596 x597))
           else
            k0 x565 x186 x567 x568)))))
theorem spec_l32Rd_good.ex : ∃ f : ((α : Type) → Nat → ((List Int) × Int × Unit) → (Bool → ((List Int) × Int × Unit) → List Int → List Int → Option α) → Option α), f = fun α => @spec_l32Rd_good.b α := ⟨_, rfl⟩
noncomputable def spec_l32Rd_good {α : Type} : Nat → ((List Int) × Int × Unit) → (Bool → ((List Int) × Int × Unit) → List Int → List Int → Option α) → Option α := Classical.choose spec_l32Rd_good.ex α
theorem spec_l32Rd_good.eq : @spec_l32Rd_good = @spec_l32Rd_good.b := funext fun α => congrFun (Classical.choose_spec spec_l32Rd_good.ex) α

noncomputable def spec_l32Rd_raw_L1r {α : Type} (N : Nat) (next : ((List Int) × Int × Unit) → List Int → Option α) (k0 : ((List Int) × Int × Unit) → List Int → Option α) (v672 : (List Int) × Int × Unit) (v673 : List Int) : Option α :=
 let x674 := ((v673.length : Nat) : Int)
 let x675 := (decide (x674 ≤ (256 : Int)))
 bif x675 then
  let x676 := [(1 : Int)]
  bif decide (v673.length + x676.length ≤ 8796093022208) then
   let x677 := v673 ++ x676
   next v672 x677
  else
   none
 else
  k0 v672 v673
noncomputable def spec_l32Rd_raw_L1.b {α : Type} (N n : Nat) (v672 : (List Int) × Int × Unit) (v673 : List Int) (k0 : ((List Int) × Int × Unit) → List Int → Option α) : Option α :=
  Nat.rec (motive := fun _ => ((List Int) × Int × Unit) → List Int → Option α) (fun _ _ => none) (fun _ next => spec_l32Rd_raw_L1r N next k0) n v672 v673
theorem spec_l32Rd_raw_L1.ex : ∃ f : ((α : Type) → Nat → Nat → ((List Int) × Int × Unit) → List Int → (((List Int) × Int × Unit) → List Int → Option α) → Option α), f = fun α => @spec_l32Rd_raw_L1.b α := ⟨_, rfl⟩
noncomputable def spec_l32Rd_raw_L1 {α : Type} : Nat → Nat → ((List Int) × Int × Unit) → List Int → (((List Int) × Int × Unit) → List Int → Option α) → Option α := Classical.choose spec_l32Rd_raw_L1.ex α
theorem spec_l32Rd_raw_L1.eq : @spec_l32Rd_raw_L1 = @spec_l32Rd_raw_L1.b := funext fun α => congrFun (Classical.choose_spec spec_l32Rd_raw_L1.ex) α
theorem spec_l32Rd_raw_L1.zero {α : Type} (N : Nat) (v672 : (List Int) × Int × Unit) (v673 : List Int) (k0 : ((List Int) × Int × Unit) → List Int → Option α) : spec_l32Rd_raw_L1 N 0 v672 v673 k0 = none := by rw [spec_l32Rd_raw_L1.eq]; rfl
theorem spec_l32Rd_raw_L1.succ {α : Type} (N n : Nat) (v672 : (List Int) × Int × Unit) (v673 : List Int) (k0 : ((List Int) × Int × Unit) → List Int → Option α) : spec_l32Rd_raw_L1 N (n + 1) v672 v673 k0 = spec_l32Rd_raw_L1r N (fun y0 y1 => spec_l32Rd_raw_L1 N n y0 y1 k0) k0 v672 v673 := by rw [spec_l32Rd_raw_L1.eq]; rfl
noncomputable def spec_l32Rd_raw_J9.b {α : Type} (N : Nat) (v668 : Int) (v669 : (List Int) × Int × Unit) (v670 : List Int) (k0 : ((List Int) × Int × Unit) → List Int → Option α) : Option α :=
 let x671 := (decide (v668 = (3 : Int)))
 bif x671 then
  spec_l32Rd_raw_L1 N N v669 v670
   (fun x678 x679 =>
    k0 x678 x679)
 else
  k0 v669 v670
theorem spec_l32Rd_raw_J9.ex : ∃ f : ((α : Type) → Nat → Int → ((List Int) × Int × Unit) → List Int → (((List Int) × Int × Unit) → List Int → Option α) → Option α), f = fun α => @spec_l32Rd_raw_J9.b α := ⟨_, rfl⟩
noncomputable def spec_l32Rd_raw_J9 {α : Type} : Nat → Int → ((List Int) × Int × Unit) → List Int → (((List Int) × Int × Unit) → List Int → Option α) → Option α := Classical.choose spec_l32Rd_raw_J9.ex α
theorem spec_l32Rd_raw_J9.eq : @spec_l32Rd_raw_J9 = @spec_l32Rd_raw_J9.b := funext fun α => congrFun (Classical.choose_spec spec_l32Rd_raw_J9.ex) α
noncomputable def spec_l32Rd_raw_J7.b {α : Type} (N : Nat) (v662 : Int) (v663 : (List Int) × Int × Unit) (v664 : List Int) (k0 : ((List Int) × Int × Unit) → List Int → Option α) : Option α :=
 let x665 := (decide (v662 = (2 : Int)))
 bif x665 then
  let x666 := [(-1 : Int)]
  bif decide (v664.length + x666.length ≤ 8796093022208) then
   let x667 := v664 ++ x666
   k0 v663 x667
  else
   none
 else
  spec_l32Rd_raw_J9 N v662 v663 v664
   (fun x680 x681 =>
    k0 x680 x681)
theorem spec_l32Rd_raw_J7.ex : ∃ f : ((α : Type) → Nat → Int → ((List Int) × Int × Unit) → List Int → (((List Int) × Int × Unit) → List Int → Option α) → Option α), f = fun α => @spec_l32Rd_raw_J7.b α := ⟨_, rfl⟩
noncomputable def spec_l32Rd_raw_J7 {α : Type} : Nat → Int → ((List Int) × Int × Unit) → List Int → (((List Int) × Int × Unit) → List Int → Option α) → Option α := Classical.choose spec_l32Rd_raw_J7.ex α
theorem spec_l32Rd_raw_J7.eq : @spec_l32Rd_raw_J7 = @spec_l32Rd_raw_J7.b := funext fun α => congrFun (Classical.choose_spec spec_l32Rd_raw_J7.ex) α
noncomputable def spec_l32Rd_raw_J5.b {α : Type} (N : Nat) (v656 : Int) (v657 : (List Int) × Int × Unit) (v658 : List Int) (k0 : ((List Int) × Int × Unit) → List Int → Option α) : Option α :=
 let x659 := (decide (v656 = (1 : Int)))
 bif x659 then
  let x660 := [(65536 : Int)]
  bif decide (v658.length + x660.length ≤ 8796093022208) then
   let x661 := v658 ++ x660
   k0 v657 x661
  else
   none
 else
  spec_l32Rd_raw_J7 N v656 v657 v658
   (fun x682 x683 =>
    k0 x682 x683)
theorem spec_l32Rd_raw_J5.ex : ∃ f : ((α : Type) → Nat → Int → ((List Int) × Int × Unit) → List Int → (((List Int) × Int × Unit) → List Int → Option α) → Option α), f = fun α => @spec_l32Rd_raw_J5.b α := ⟨_, rfl⟩
noncomputable def spec_l32Rd_raw_J5 {α : Type} : Nat → Int → ((List Int) × Int × Unit) → List Int → (((List Int) × Int × Unit) → List Int → Option α) → Option α := Classical.choose spec_l32Rd_raw_J5.ex α
theorem spec_l32Rd_raw_J5.eq : @spec_l32Rd_raw_J5 = @spec_l32Rd_raw_J5.b := funext fun α => congrFun (Classical.choose_spec spec_l32Rd_raw_J5.ex) α
noncomputable def spec_l32Rd_raw_J3.b {α : Type} (N : Nat) (v650 : Int) (v651 : (List Int) × Int × Unit) (v652 : List Int) (k0 : ((List Int) × Int × Unit) → List Int → Option α) : Option α :=
 let x653 := (decide (v650 = (0 : Int)))
 bif x653 then
  let x654 := [(0 : Int)]
  bif decide (v652.length + x654.length ≤ 8796093022208) then
   let x655 := v652 ++ x654
   k0 v651 x655
  else
   none
 else
  spec_l32Rd_raw_J5 N v650 v651 v652
   (fun x684 x685 =>
    k0 x684 x685)
theorem spec_l32Rd_raw_J3.ex : ∃ f : ((α : Type) → Nat → Int → ((List Int) × Int × Unit) → List Int → (((List Int) × Int × Unit) → List Int → Option α) → Option α), f = fun α => @spec_l32Rd_raw_J3.b α := ⟨_, rfl⟩
noncomputable def spec_l32Rd_raw_J3 {α : Type} : Nat → Int → ((List Int) × Int × Unit) → List Int → (((List Int) × Int × Unit) → List Int → Option α) → Option α := Classical.choose spec_l32Rd_raw_J3.ex α
theorem spec_l32Rd_raw_J3.eq : @spec_l32Rd_raw_J3 = @spec_l32Rd_raw_J3.b := funext fun α => congrFun (Classical.choose_spec spec_l32Rd_raw_J3.ex) α
/-- (*spec.l32Rd).raw -/
noncomputable def spec_l32Rd_raw.b {α : Type} (N : Nat) (a645 : (List Int) × Int × Unit) (k0 : ((List Int) × Int × Unit) → List Int → Option α) : Option α :=
 spec_l32Rd_nat N a645
  (fun x646 x647 =>
   spec_l32Rd_pick N (80 : Int) x646
    (fun x648 x649 =>
     spec_l32Rd_raw_J3 N x648 x649 x647
      (fun x686 x687 =>
       k0 x686 x687)))
theorem spec_l32Rd_raw.ex : ∃ f : ((α : Type) → Nat → ((List Int) × Int × Unit) → (((List Int) × Int × Unit) → List Int → Option α) → Option α), f = fun α => @spec_l32Rd_raw.b α := ⟨_, rfl⟩
noncomputable def spec_l32Rd_raw {α : Type} : Nat → ((List Int) × Int × Unit) → (((List Int) × Int × Unit) → List Int → Option α) → Option α := Classical.choose spec_l32Rd_raw.ex α
theorem spec_l32Rd_raw.eq : @spec_l32Rd_raw = @spec_l32Rd_raw.b := funext fun α => congrFun (Classical.choose_spec spec_l32Rd_raw.ex) α

noncomputable def spec_l32Rd_frac_J10.b {α : Type} (N : Nat) (v636 : Int) (v637 : (List Int) × Int × Unit) (v638 : Bool) (v639 : Bool) (v640 : List Int) (v641 : List Int) (v642 : List Int) (v643 : List Int) (k0 : ((List Int) × Int × Unit) → Bool → Bool → List Int → List Int → List Int → List Int → Option α) : Option α :=
 let x644 := (decide (v636 = (3 : Int)))
 bif x644 then
  spec_l32Rd_raw N v637
   (fun x688 x689 =>
    k0 x688 v638 v639 v640 v641 x689 v643)
 else
  k0 v637 v638 v639 v640 v641 v642 v643
theorem spec_l32Rd_frac_J10.ex : ∃ f : ((α : Type) → Nat → Int → ((List Int) × Int × Unit) → Bool → Bool → List Int → List Int → List Int → List Int → (((List Int) × Int × Unit) → Bool → Bool → List Int → List Int → List Int → List Int → Option α) → Option α), f = fun α => @spec_l32Rd_frac_J10.b α := ⟨_, rfl⟩
noncomputable def spec_l32Rd_frac_J10 {α : Type} : Nat → Int → ((List Int) × Int × Unit) → Bool → Bool → List Int → List Int → List Int → List Int → (((List Int) × Int × Unit) → Bool → Bool → List Int → List Int → List Int → List Int → Option α) → Option α := Classical.choose spec_l32Rd_frac_J10.ex α
theorem spec_l32Rd_frac_J10.eq : @spec_l32Rd_frac_J10 = @spec_l32Rd_frac_J10.b := funext fun α => congrFun (Classical.choose_spec spec_l32Rd_frac_J10.ex) α
noncomputable def spec_l32Rd_frac_J7.b {α : Type} (N : Nat) (v623 : Int) (v624 : (List Int) × Int × Unit) (v625 : Bool) (v626 : Bool) (v627 : List Int) (v628 : List Int) (v629 : List Int) (v630 : List Int) (k0 : ((List Int) × Int × Unit) → Bool → Bool → List Int → List Int → List Int → List Int → Option α) : Option α :=
 let x631 := (decide (v623 = (2 : Int)))
 bif x631 then
  let x632 := [(0 : Int)]
  bif decide (x632.length + v629.length ≤ 8796093022208) then
   let x633 := x632 ++ v629
   let x634 := [(0 : Int)]
   bif decide (x634.length + v630.length ≤ 8796093022208) then
    let x635 := x634 ++ v630
    k0 v624 v625 v626 v627 v628 x633 x635
   else
    none
  else
   none
 else
  spec_l32Rd_frac_J10 N v623 v624 v625 v626 v627 v628 v629 v630
   (fun x690 x691 x692 x693 x694 x695 x696 =>
    k0 x690 x691 x692 x693 x694 x695 x696)
theorem spec_l32Rd_frac_J7.ex : ∃ f : ((α : Type) → Nat → Int → ((List Int) × Int × Unit) → Bool → Bool → List Int → List Int → List Int → List Int → (((List Int) × Int × Unit) → Bool → Bool → List Int → List Int → List Int → List Int → Option α) → Option α), f = fun α => @spec_l32Rd_frac_J7.b α := ⟨_, rfl⟩
noncomputable def spec_l32Rd_frac_J7 {α : Type} : Nat → Int → ((List Int) × Int × Unit) → Bool → Bool → List Int → List Int → List Int → List Int → (((List Int) × Int × Unit) → Bool → Bool → List Int → List Int → List Int → List Int → Option α) → Option α := Classical.choose spec_l32Rd_frac_J7.ex α
theorem spec_l32Rd_frac_J7.eq : @spec_l32Rd_frac_J7 = @spec_l32Rd_frac_J7.b := funext fun α => congrFun (Classical.choose_spec spec_l32Rd_frac_J7.ex) α
noncomputable def spec_l32Rd_frac_J5.b {α : Type} (N : Nat) (v614 : Int) (v615 : (List Int) × Int × Unit) (v616 : Bool) (v617 : Bool) (v618 : List Int) (v619 : List Int) (v620 : List Int) (v621 : List Int) (k0 : ((List Int) × Int × Unit) → Bool → Bool → List Int → List Int → List Int → List Int → Option α) : Option α :=
 let x622 := (decide (v614 = (1 : Int)))
 bif x622 then
  k0 v615 v616 v617 v618 v619 v620 []
 else
  spec_l32Rd_frac_J7 N v614 v615 v616 v617 v618 v619 v620 v621
   (fun x697 x698 x699 x700 x701 x702 x703 =>
    k0 x697 x698 x699 x700 x701 x702 x703)
theorem spec_l32Rd_frac_J5.ex : ∃ f : ((α : Type) → Nat → Int → ((List Int) × Int × Unit) → Bool → Bool → List Int → List Int → List Int → List Int → (((List Int) × Int × Unit) → Bool → Bool → List Int → List Int → List Int → List Int → Option α) → Option α), f = fun α => @spec_l32Rd_frac_J5.b α := ⟨_, rfl⟩
noncomputable def spec_l32Rd_frac_J5 {α : Type} : Nat → Int → ((List Int) × Int × Unit) → Bool → Bool → List Int → List Int → List Int → List Int → (((List Int) × Int × Unit) → Bool → Bool → List Int → List Int → List Int → List Int → Option α) → Option α := Classical.choose spec_l32Rd_frac_J5.ex α
theorem spec_l32Rd_frac_J5.eq : @spec_l32Rd_frac_J5 = @spec_l32Rd_frac_J5.b := funext fun α => congrFun (Classical.choose_spec spec_l32Rd_frac_J5.ex) α
noncomputable def spec_l32Rd_frac_J3.b {α : Type} (N : Nat) (v604 : Int) (v605 : (List Int) × Int × Unit) (v606 : Bool) (v607 : Bool) (v608 : List Int) (v609 : List Int) (v610 : List Int) (v611 : List Int) (k0 : ((List Int) × Int × Unit) → Bool → Bool → List Int → List Int → List Int → List Int → Option α) : Option α :=
 let x612 := (decide (v604 = (0 : Int)))
 bif x612 then
  let x613 := !v607
  k0 v605 v606 x613 v608 v609 v610 v611
 else
  spec_l32Rd_frac_J5 N v604 v605 v606 v607 v608 v609 v610 v611
   (fun x704 x705 x706 x707 x708 x709 x710 =>
    k0 x704 x705 x706 x707 x708 x709 x710)
theorem spec_l32Rd_frac_J3.ex : ∃ f : ((α : Type) → Nat → Int → ((List Int) × Int × Unit) → Bool → Bool → List Int → List Int → List Int → List Int → (((List Int) × Int × Unit) → Bool → Bool → List Int → List Int → List Int → List Int → Option α) → Option α), f = fun α => @spec_l32Rd_frac_J3.b α := ⟨_, rfl⟩
noncomputable def spec_l32Rd_frac_J3 {α : Type} : Nat → Int → ((List Int) × Int × Unit) → Bool → Bool → List Int → List Int → List Int → List Int → (((List Int) × Int × Unit) → Bool → Bool → List Int → List Int → List Int → List Int → Option α) → Option α := Classical.choose spec_l32Rd_frac_J3.ex α
theorem spec_l32Rd_frac_J3.eq : @spec_l32Rd_frac_J3 = @spec_l32Rd_frac_J3.b := funext fun α => congrFun (Classical.choose_spec spec_l32Rd_frac_J3.ex) α
/-- (*spec.l32Rd).frac -/
noncomputable def spec_l32Rd_frac.b {α : Type} (N : Nat) (a12 : (List Int) × Int × Unit) (k0 : Bool → ((List Int) × Int × Unit) → List Int → List Int → Option α) : Option α :=
 spec_l32Rd_good N a12
  (fun x598 x599 x600 x601 =>
   spec_l32Rd_pick N (60 : Int) x599
    (fun x602 x603 =>
     spec_l32Rd_frac_J3 N x602 x603 false x598 [] [] x600 x601
      (fun x711 _ x713 _ _ x716 x717 =>
       k0 x713 x711 x716 x717)))
theorem spec_l32Rd_frac.ex : ∃ f : ((α : Type) → Nat → ((List Int) × Int × Unit) → (Bool → ((List Int) × Int × Unit) → List Int → List Int → Option α) → Option α), f = fun α => @spec_l32Rd_frac.b α := ⟨_, rfl⟩
noncomputable def spec_l32Rd_frac {α : Type} : Nat → ((List Int) × Int × Unit) → (Bool → ((List Int) × Int × Unit) → List Int → List Int → Option α) → Option α := Classical.choose spec_l32Rd_frac.ex α
theorem spec_l32Rd_frac.eq : @spec_l32Rd_frac = @spec_l32Rd_frac.b := funext fun α => congrFun (Classical.choose_spec spec_l32Rd_frac.ex) α

/-- spec.DrawFracText -/
noncomputable def spec_DrawFracText.b {α : Type} (N : Nat) (a4 : List Int) (k0 : Bool → List Int → List Int → Option α) : Option α :=
 spec_l32Open N a4
  (fun x11 =>
   spec_l32Rd_frac N x11
    (fun x718 _ x720 x721 =>
     k0 x718 x720 x721))
theorem spec_DrawFracText.ex : ∃ f : ((α : Type) → Nat → List Int → (Bool → List Int → List Int → Option α) → Option α), f = fun α => @spec_DrawFracText.b α := ⟨_, rfl⟩
noncomputable def spec_DrawFracText {α : Type} : Nat → List Int → (Bool → List Int → List Int → Option α) → Option α := Classical.choose spec_DrawFracText.ex α
theorem spec_DrawFracText.eq : @spec_DrawFracText = @spec_DrawFracText.b := funext fun α => congrFun (Classical.choose_spec spec_DrawFracText.ex) α

/-- impl.in -/
noncomputable def impl_in.b {α : Type} (N : Nat) (a752 : Int) (a753 : Int) (a754 : Int) (k0 : Bool → Option α) : Option α :=
 let x755 := decide (a753 ≤ a752)
 bif x755 then
  let x756 := decide (a752 ≤ a754)
  k0 x756
 else
  k0 false
theorem impl_in.ex : ∃ f : ((α : Type) → Nat → Int → Int → Int → (Bool → Option α) → Option α), f = fun α => @impl_in.b α := ⟨_, rfl⟩
noncomputable def impl_in {α : Type} : Nat → Int → Int → Int → (Bool → Option α) → Option α := Classical.choose impl_in.ex α
theorem impl_in.eq : @impl_in = @impl_in.b := funext fun α => congrFun (Classical.choose_spec impl_in.ex) α

/-- impl.NatOk$1 -/
noncomputable def impl_NatOk_1.b {α : Type} (N : Nat) (a751 : Int) (k0 : Bool → Option α) : Option α :=
 impl_in N a751 (0 : Int) (65535 : Int)
  (fun x757 =>
   let x758 := !x757
   k0 x758)
theorem impl_NatOk_1.ex : ∃ f : ((α : Type) → Nat → Int → (Bool → Option α) → Option α), f = fun α => @impl_NatOk_1.b α := ⟨_, rfl⟩
noncomputable def impl_NatOk_1 {α : Type} : Nat → Int → (Bool → Option α) → Option α := Classical.choose impl_NatOk_1.ex α
theorem impl_NatOk_1.eq : @impl_NatOk_1 = @impl_NatOk_1.b := funext fun α => congrFun (Classical.choose_spec impl_NatOk_1.ex) α

noncomputable def slices_IndexFunc_int_int__impl_NatOk_1_L0r {α : Type} (N : Nat) (next : List Int → Int → Int → Option α) (k0 : Int → Option α) (k1 : Option α) (v746 : List Int) (v747 : Int) (v748 : Int) : Option α :=
 let x749 := decide (v748 < v747)
 bif x749 then
  bif (decide (v748 < (0 : Int))) then
   none
  else
   match v746[v748.toNat]? with
   | some x750 =>
    impl_NatOk_1 N x750
     (fun x759 =>
      bif x759 then
       k0 v748
      else
       let x760 := (IntKind.i64.wrap (v748 + (1 : Int)))
       next v746 v747 x760)
   | none => none
 else
  k1
noncomputable def slices_IndexFunc_int_int__impl_NatOk_1_L0.b {α : Type} (N n : Nat) (v746 : List Int) (v747 : Int) (v748 : Int) (k0 : Int → Option α) (k1 : Option α) : Option α :=
  Nat.rec (motive := fun _ => List Int → Int → Int → Option α) (fun _ _ _ => none) (fun _ next => slices_IndexFunc_int_int__impl_NatOk_1_L0r N next k0 k1) n v746 v747 v748
theorem slices_IndexFunc_int_int__impl_NatOk_1_L0.ex : ∃ f : ((α : Type) → Nat → Nat → List Int → Int → Int → (Int → Option α) → (Option α) → Option α), f = fun α => @slices_IndexFunc_int_int__impl_NatOk_1_L0.b α := ⟨_, rfl⟩
noncomputable def slices_IndexFunc_int_int__impl_NatOk_1_L0 {α : Type} : Nat → Nat → List Int → Int → Int → (Int → Option α) → (Option α) → Option α := Classical.choose slices_IndexFunc_int_int__impl_NatOk_1_L0.ex α
theorem slices_IndexFunc_int_int__impl_NatOk_1_L0.eq : @slices_IndexFunc_int_int__impl_NatOk_1_L0 = @slices_IndexFunc_int_int__impl_NatOk_1_L0.b := funext fun α => congrFun (Classical.choose_spec slices_IndexFunc_int_int__impl_NatOk_1_L0.ex) α
theorem slices_IndexFunc_int_int__impl_NatOk_1_L0.zero {α : Type} (N : Nat) (v746 : List Int) (v747 : Int) (v748 : Int) (k0 : Int → Option α) (k1 : Option α) : slices_IndexFunc_int_int__impl_NatOk_1_L0 N 0 v746 v747 v748 k0 k1 = none := by rw [slices_IndexFunc_int_int__impl_NatOk_1_L0.eq]; rfl
theorem slices_IndexFunc_int_int__impl_NatOk_1_L0.succ {α : Type} (N n : Nat) (v746 : List Int) (v747 : Int) (v748 : Int) (k0 : Int → Option α) (k1 : Option α) : slices_IndexFunc_int_int__impl_NatOk_1_L0 N (n + 1) v746 v747 v748 k0 k1 = slices_IndexFunc_int_int__impl_NatOk_1_L0r N (fun y0 y1 y2 => slices_IndexFunc_int_int__impl_NatOk_1_L0 N n y0 y1 y2 k0 k1) k0 k1 v746 v747 v748 := by rw [slices_IndexFunc_int_int__impl_NatOk_1_L0.eq]; rfl
/-- slices.IndexFunc[[]int,int] -/
noncomputable def slices_IndexFunc_int_int__impl_NatOk_1.b {α : Type} (N : Nat) (a744 : List Int) (k0 : Int → Option α) : Option α :=
 let x745 := ((a744.length : Nat) : Int)
 slices_IndexFunc_int_int__impl_NatOk_1_L0 N N a744 x745 (0 : Int)
  (fun x761 =>
   k0 x761)
  (
   k0 (-1 : Int))
theorem slices_IndexFunc_int_int__impl_NatOk_1.ex : ∃ f : ((α : Type) → Nat → List Int → (Int → Option α) → Option α), f = fun α => @slices_IndexFunc_int_int__impl_NatOk_1.b α := ⟨_, rfl⟩
noncomputable def slices_IndexFunc_int_int__impl_NatOk_1 {α : Type} : Nat → List Int → (Int → Option α) → Option α := Classical.choose slices_IndexFunc_int_int__impl_NatOk_1.ex α
theorem slices_IndexFunc_int_int__impl_NatOk_1.eq : @slices_IndexFunc_int_int__impl_NatOk_1 = @slices_IndexFunc_int_int__impl_NatOk_1.b := funext fun α => congrFun (Classical.choose_spec slices_IndexFunc_int_int__impl_NatOk_1.ex) α

/-- slices.ContainsFunc[[]int,int] -/
noncomputable def slices_ContainsFunc_int_int__impl_NatOk_1.b {α : Type} (N : Nat) (a743 : List Int) (k0 : Bool → Option α) : Option α :=
 slices_IndexFunc_int_int__impl_NatOk_1 N a743
  (fun x762 =>
   let x763 := (decide ((0 : Int) ≤ x762))
   k0 x763)
theorem slices_ContainsFunc_int_int__impl_NatOk_1.ex : ∃ f : ((α : Type) → Nat → List Int → (Bool → Option α) → Option α), f = fun α => @slices_ContainsFunc_int_int__impl_NatOk_1.b α := ⟨_, rfl⟩
noncomputable def slices_ContainsFunc_int_int__impl_NatOk_1 {α : Type} : Nat → List Int → (Bool → Option α) → Option α := Classical.choose slices_ContainsFunc_int_int__impl_NatOk_1.ex α
theorem slices_ContainsFunc_int_int__impl_NatOk_1.eq : @slices_ContainsFunc_int_int__impl_NatOk_1 = @slices_ContainsFunc_int_int__impl_NatOk_1.b := funext fun α => congrFun (Classical.choose_spec slices_ContainsFunc_int_int__impl_NatOk_1.ex) α

/-- impl.NatOk -/
noncomputable def impl_NatOk.b {α : Type} (N : Nat) (a738 : List Int) (k0 : Bool → Option α) : Option α :=
 let x739 := ((a738.length : Nat) : Int)
 let x740 := (decide (x739 ≤ (256 : Int)))
 bif x740 then
  let x741 := ((a738.length : Nat) : Int)
  let x742 := (decide (x741 = (0 : Int)))
  bif x742 then
   slices_ContainsFunc_int_int__impl_NatOk_1 N a738
    (fun x764 =>
     let x765 := !x764
     k0 x765)
  else
   let x766 := ((a738.length : Nat) : Int)
   let x767 := (IntKind.i64.wrap (x766 - (1 : Int)))
   bif (decide (x767 < (0 : Int))) then
    none
   else
    match a738[x767.toNat]? with
    | some x768 =>
     let x769 := (!(decide (x768 = (0 : Int))))
     bif x769 then
      slices_ContainsFunc_int_int__impl_NatOk_1 N a738
       (fun x770 =>
        let x771 := !x770
        k0 x771)
     else
      k0 false
    | none => none
 else
  k0 false
theorem impl_NatOk.ex : ∃ f : ((α : Type) → Nat → List Int → (Bool → Option α) → Option α), f = fun α => @impl_NatOk.b α := ⟨_, rfl⟩
noncomputable def impl_NatOk {α : Type} : Nat → List Int → (Bool → Option α) → Option α := Classical.choose impl_NatOk.ex α
theorem impl_NatOk.eq : @impl_NatOk = @impl_NatOk.b := funext fun α => congrFun (Classical.choose_spec impl_NatOk.ex) α

/-- impl.nats$1 -/
noncomputable def impl_nats_1.b {α : Type} (N : Nat) (a737 : List Int) (k0 : Bool → Option α) : Option α :=
 impl_NatOk N a737
  (fun x772 =>
   let x773 := !x772
   k0 x773)
theorem impl_nats_1.ex : ∃ f : ((α : Type) → Nat → List Int → (Bool → Option α) → Option α), f = fun α => @impl_nats_1.b α := ⟨_, rfl⟩
noncomputable def impl_nats_1 {α : Type} : Nat → List Int → (Bool → Option α) → Option α := Classical.choose impl_nats_1.ex α
theorem impl_nats_1.eq : @impl_nats_1 = @impl_nats_1.b := funext fun α => congrFun (Classical.choose_spec impl_nats_1.ex) α

noncomputable def slices_IndexFunc_int_int__impl_nats_1_L0r {α : Type} (N : Nat) (next : List (List Int) → Int → Int → Option α) (k0 : Int → Option α) (k1 : Option α) (v732 : List (List Int)) (v733 : Int) (v734 : Int) : Option α :=
 let x735 := decide (v734 < v733)
 bif x735 then
  bif (decide (v734 < (0 : Int))) then
   none
  else
   match v732[v734.toNat]? with
   | some x736 =>
    impl_nats_1 N x736
     (fun x774 =>
      bif x774 then
       k0 v734
      else
       let x775 := (IntKind.i64.wrap (v734 + (1 : Int)))
       next v732 v733 x775)
   | none => none
 else
  k1
noncomputable def slices_IndexFunc_int_int__impl_nats_1_L0.b {α : Type} (N n : Nat) (v732 : List (List Int)) (v733 : Int) (v734 : Int) (k0 : Int → Option α) (k1 : Option α) : Option α :=
  Nat.rec (motive := fun _ => List (List Int) → Int → Int → Option α) (fun _ _ _ => none) (fun _ next => slices_IndexFunc_int_int__impl_nats_1_L0r N next k0 k1) n v732 v733 v734
theorem slices_IndexFunc_int_int__impl_nats_1_L0.ex : ∃ f : ((α : Type) → Nat → Nat → List (List Int) → Int → Int → (Int → Option α) → (Option α) → Option α), f = fun α => @slices_IndexFunc_int_int__impl_nats_1_L0.b α := ⟨_, rfl⟩
noncomputable def slices_IndexFunc_int_int__impl_nats_1_L0 {α : Type} : Nat → Nat → List (List Int) → Int → Int → (Int → Option α) → (Option α) → Option α := Classical.choose slices_IndexFunc_int_int__impl_nats_1_L0.ex α
theorem slices_IndexFunc_int_int__impl_nats_1_L0.eq : @slices_IndexFunc_int_int__impl_nats_1_L0 = @slices_IndexFunc_int_int__impl_nats_1_L0.b := funext fun α => congrFun (Classical.choose_spec slices_IndexFunc_int_int__impl_nats_1_L0.ex) α
theorem slices_IndexFunc_int_int__impl_nats_1_L0.zero {α : Type} (N : Nat) (v732 : List (List Int)) (v733 : Int) (v734 : Int) (k0 : Int → Option α) (k1 : Option α) : slices_IndexFunc_int_int__impl_nats_1_L0 N 0 v732 v733 v734 k0 k1 = none := by rw [slices_IndexFunc_int_int__impl_nats_1_L0.eq]; rfl
theorem slices_IndexFunc_int_int__impl_nats_1_L0.succ {α : Type} (N n : Nat) (v732 : List (List Int)) (v733 : Int) (v734 : Int) (k0 : Int → Option α) (k1 : Option α) : slices_IndexFunc_int_int__impl_nats_1_L0 N (n + 1) v732 v733 v734 k0 k1 = slices_IndexFunc_int_int__impl_nats_1_L0r N (fun y0 y1 y2 => slices_IndexFunc_int_int__impl_nats_1_L0 N n y0 y1 y2 k0 k1) k0 k1 v732 v733 v734 := by rw [slices_IndexFunc_int_int__impl_nats_1_L0.eq]; rfl
/-- slices.IndexFunc[[][]int,[]int] -/
noncomputable def slices_IndexFunc_int_int__impl_nats_1.b {α : Type} (N : Nat) (a730 : List (List Int)) (k0 : Int → Option α) : Option α :=
 let x731 := ((a730.length : Nat) : Int)
 slices_IndexFunc_int_int__impl_nats_1_L0 N N a730 x731 (0 : Int)
  (fun x776 =>
   k0 x776)
  (
   k0 (-1 : Int))
theorem slices_IndexFunc_int_int__impl_nats_1.ex : ∃ f : ((α : Type) → Nat → List (List Int) → (Int → Option α) → Option α), f = fun α => @slices_IndexFunc_int_int__impl_nats_1.b α := ⟨_, rfl⟩
noncomputable def slices_IndexFunc_int_int__impl_nats_1 {α : Type} : Nat → List (List Int) → (Int → Option α) → Option α := Classical.choose slices_IndexFunc_int_int__impl_nats_1.ex α
theorem slices_IndexFunc_int_int__impl_nats_1.eq : @slices_IndexFunc_int_int__impl_nats_1 = @slices_IndexFunc_int_int__impl_nats_1.b := funext fun α => congrFun (Classical.choose_spec slices_IndexFunc_int_int__impl_nats_1.ex) α

/-- slices.ContainsFunc[[][]int,[]int] -/
noncomputable def slices_ContainsFunc_int_int__impl_nats_1.b {α : Type} (N : Nat) (a729 : List (List Int)) (k0 : Bool → Option α) : Option α :=
 slices_IndexFunc_int_int__impl_nats_1 N a729
  (fun x777 =>
   let x778 := (decide ((0 : Int) ≤ x777))
   k0 x778)
theorem slices_ContainsFunc_int_int__impl_nats_1.ex : ∃ f : ((α : Type) → Nat → List (List Int) → (Bool → Option α) → Option α), f = fun α => @slices_ContainsFunc_int_int__impl_nats_1.b α := ⟨_, rfl⟩
noncomputable def slices_ContainsFunc_int_int__impl_nats_1 {α : Type} : Nat → List (List Int) → (Bool → Option α) → Option α := Classical.choose slices_ContainsFunc_int_int__impl_nats_1.ex α
theorem slices_ContainsFunc_int_int__impl_nats_1.eq : @slices_ContainsFunc_int_int__impl_nats_1 = @slices_ContainsFunc_int_int__impl_nats_1.b := funext fun α => congrFun (Classical.choose_spec slices_ContainsFunc_int_int__impl_nats_1.ex) α

/-- impl.nats -/
noncomputable def impl_nats.b {α : Type} (N : Nat) (a728 : List (List Int)) (k0 : Bool → Option α) : Option α :=
 slices_ContainsFunc_int_int__impl_nats_1 N a728
  (fun x779 =>
   let x780 := !x779
   k0 x780)
theorem impl_nats.ex : ∃ f : ((α : Type) → Nat → List (List Int) → (Bool → Option α) → Option α), f = fun α => @impl_nats.b α := ⟨_, rfl⟩
noncomputable def impl_nats {α : Type} : Nat → List (List Int) → (Bool → Option α) → Option α := Classical.choose impl_nats.ex α
theorem impl_nats.eq : @impl_nats = @impl_nats.b := funext fun α => congrFun (Classical.choose_spec impl_nats.ex) α

noncomputable def impl_natCmp_L0r {α : Type} (N : Nat) (next : List Int → List Int → Int → Option α) (k0 : Int → Option α) (k1 : Option α) (v875 : List Int) (v876 : List Int) (v877 : Int) : Option α :=
 let x878 := (decide ((0 : Int) ≤ v877))
 bif x878 then
  bif (decide (v877 < (0 : Int))) then
   none
  else
   match v875[v877.toNat]? with
   | some x879 =>
    bif (decide (v877 < (0 : Int))) then
     none
    else
     match v876[v877.toNat]? with
     | some x880 =>
      let x881 := !(decide (x879 = x880))
      bif x881 then
       bif (decide (v877 < (0 : Int))) then
        none
       else
        match v875[v877.toNat]? with
        | some x882 =>
         bif (decide (v877 < (0 : Int))) then
          none
         else
          match v876[v877.toNat]? with
          | some x883 =>
           let x884 := IntKind.i64.wrap (x882 - x883)
           let x885 := (minI (1 : Int) x884)
           let x886 := (maxI (-1 : Int) x885)
           k0 x886
          | none => none
        | none => none
      else
       let x887 := (IntKind.i64.wrap (v877 - (1 : Int)))
       next v875 v876 x887
     | none => none
   | none => none
 else
  k1
noncomputable def impl_natCmp_L0.b {α : Type} (N n : Nat) (v875 : List Int) (v876 : List Int) (v877 : Int) (k0 : Int → Option α) (k1 : Option α) : Option α :=
  Nat.rec (motive := fun _ => List Int → List Int → Int → Option α) (fun _ _ _ => none) (fun _ next => impl_natCmp_L0r N next k0 k1) n v875 v876 v877
theorem impl_natCmp_L0.ex : ∃ f : ((α : Type) → Nat → Nat → List Int → List Int → Int → (Int → Option α) → (Option α) → Option α), f = fun α => @impl_natCmp_L0.b α := ⟨_, rfl⟩
noncomputable def impl_natCmp_L0 {α : Type} : Nat → Nat → List Int → List Int → Int → (Int → Option α) → (Option α) → Option α := Classical.choose impl_natCmp_L0.ex α
theorem impl_natCmp_L0.eq : @impl_natCmp_L0 = @impl_natCmp_L0.b := funext fun α => congrFun (Classical.choose_spec impl_natCmp_L0.ex) α
theorem impl_natCmp_L0.zero {α : Type} (N : Nat) (v875 : List Int) (v876 : List Int) (v877 : Int) (k0 : Int → Option α) (k1 : Option α) : impl_natCmp_L0 N 0 v875 v876 v877 k0 k1 = none := by rw [impl_natCmp_L0.eq]; rfl
theorem impl_natCmp_L0.succ {α : Type} (N n : Nat) (v875 : List Int) (v876 : List Int) (v877 : Int) (k0 : Int → Option α) (k1 : Option α) : impl_natCmp_L0 N (n + 1) v875 v876 v877 k0 k1 = impl_natCmp_L0r N (fun y0 y1 y2 => impl_natCmp_L0 N n y0 y1 y2 k0 k1) k0 k1 v875 v876 v877 := by rw [impl_natCmp_L0.eq]; rfl
/-- impl.natCmp -/
noncomputable def impl_natCmp.b {α : Type} (N : Nat) (a863 : List Int) (a864 : List Int) (k0 : Int → Option α) : Option α :=
 let x865 := ((a863.length : Nat) : Int)
 let x866 := ((a864.length : Nat) : Int)
 let x867 := !(decide (x865 = x866))
 bif x867 then
  let x868 := ((a863.length : Nat) : Int)
  let x869 := ((a864.length : Nat) : Int)
  let x870 := IntKind.i64.wrap (x868 - x869)
  let x871 := (minI (1 : Int) x870)
  let x872 := (maxI (-1 : Int) x871)
  k0 x872
 else
  let x873 := ((a863.length : Nat) : Int)
  let x874 := (IntKind.i64.wrap (x873 - (1 : Int)))
  impl_natCmp_L0 N N a863 a864 x874
   (fun x888 =>
    k0 x888)
   (
    k0 (0 : Int))
theorem impl_natCmp.ex : ∃ f : ((α : Type) → Nat → List Int → List Int → (Int → Option α) → Option α), f = fun α => @impl_natCmp.b α := ⟨_, rfl⟩
noncomputable def impl_natCmp {α : Type} : Nat → List Int → List Int → (Int → Option α) → Option α := Classical.choose impl_natCmp.ex α
theorem impl_natCmp.eq : @impl_natCmp = @impl_natCmp.b := funext fun α => congrFun (Classical.choose_spec impl_natCmp.ex) α

noncomputable def impl_trim_L0r {α : Type} (N : Nat) (next : List Int → Option α) (k0 : List Int → Option α) (v916 : List Int) : Option α :=
 let x917 := ((v916.length : Nat) : Int)
 let x918 := (decide ((0 : Int) < x917))
 bif x918 then
  let x919 := ((v916.length : Nat) : Int)
  let x920 := (IntKind.i64.wrap (x919 - (1 : Int)))
  bif (decide (x920 < (0 : Int))) then
   none
  else
   match v916[x920.toNat]? with
   | some x921 =>
    let x922 := (decide (x921 = (0 : Int)))
    bif x922 then
     let x923 := ((v916.length : Nat) : Int)
     let x924 := (IntKind.i64.wrap (x923 - (1 : Int)))
     bif (decide ((0 : Int) ≤ x924)) then
      bif (decide (x924 ≤ ((v916.length : Nat) : Int))) then
       let x925 := v916.take x924.toNat
       next x925
      else
       none
     else
      none
    else
     k0 v916
   | none => none
 else
  k0 v916
noncomputable def impl_trim_L0.b {α : Type} (N n : Nat) (v916 : List Int) (k0 : List Int → Option α) : Option α :=
  Nat.rec (motive := fun _ => List Int → Option α) (fun _ => none) (fun _ next => impl_trim_L0r N next k0) n v916
theorem impl_trim_L0.ex : ∃ f : ((α : Type) → Nat → Nat → List Int → (List Int → Option α) → Option α), f = fun α => @impl_trim_L0.b α := ⟨_, rfl⟩
noncomputable def impl_trim_L0 {α : Type} : Nat → Nat → List Int → (List Int → Option α) → Option α := Classical.choose impl_trim_L0.ex α
theorem impl_trim_L0.eq : @impl_trim_L0 = @impl_trim_L0.b := funext fun α => congrFun (Classical.choose_spec impl_trim_L0.ex) α
theorem impl_trim_L0.zero {α : Type} (N : Nat) (v916 : List Int) (k0 : List Int → Option α) : impl_trim_L0 N 0 v916 k0 = none := by rw [impl_trim_L0.eq]; rfl
theorem impl_trim_L0.succ {α : Type} (N n : Nat) (v916 : List Int) (k0 : List Int → Option α) : impl_trim_L0 N (n + 1) v916 k0 = impl_trim_L0r N (fun y0 => impl_trim_L0 N n y0 k0) k0 v916 := by rw [impl_trim_L0.eq]; rfl
/-- impl.trim -/
noncomputable def impl_trim.b {α : Type} (N : Nat) (a915 : List Int) (k0 : List Int → Option α) : Option α :=
 impl_trim_L0 N N a915
  (fun x926 =>
   k0 x926)
theorem impl_trim.ex : ∃ f : ((α : Type) → Nat → List Int → (List Int → Option α) → Option α), f = fun α => @impl_trim.b α := ⟨_, rfl⟩
noncomputable def impl_trim {α : Type} : Nat → List Int → (List Int → Option α) → Option α := Classical.choose impl_trim.ex α
theorem impl_trim.eq : @impl_trim = @impl_trim.b := funext fun α => congrFun (Classical.choose_spec impl_trim.ex) α

noncomputable def math_bits_Len64_J1.b {α : Type} (N : Nat) (v936 : Int) (v937 : Int) (k0 : Int → Int → Option α) : Option α :=
 let x938 := (decide ((4294967296 : Int) ≤ v936))
 bif x938 then
  let x939 := (shrI .u64 v936 (32 : Int))
  k0 x939 (32 : Int)
 else
  k0 v936 v937
theorem math_bits_Len64_J1.ex : ∃ f : ((α : Type) → Nat → Int → Int → (Int → Int → Option α) → Option α), f = fun α => @math_bits_Len64_J1.b α := ⟨_, rfl⟩
noncomputable def math_bits_Len64_J1 {α : Type} : Nat → Int → Int → (Int → Int → Option α) → Option α := Classical.choose math_bits_Len64_J1.ex α
theorem math_bits_Len64_J1.eq : @math_bits_Len64_J1 = @math_bits_Len64_J1.b := funext fun α => congrFun (Classical.choose_spec math_bits_Len64_J1.ex) α
noncomputable def math_bits_Len64_J4.b {α : Type} (N : Nat) (v942 : Int) (v943 : Int) (k0 : Int → Int → Option α) : Option α :=
 let x944 := (decide ((65536 : Int) ≤ v942))
 bif x944 then
  let x945 := (shrI .u64 v942 (16 : Int))
  let x946 := (IntKind.i64.wrap (v943 + (16 : Int)))
  k0 x945 x946
 else
  k0 v942 v943
theorem math_bits_Len64_J4.ex : ∃ f : ((α : Type) → Nat → Int → Int → (Int → Int → Option α) → Option α), f = fun α => @math_bits_Len64_J4.b α := ⟨_, rfl⟩
noncomputable def math_bits_Len64_J4 {α : Type} : Nat → Int → Int → (Int → Int → Option α) → Option α := Classical.choose math_bits_Len64_J4.ex α
theorem math_bits_Len64_J4.eq : @math_bits_Len64_J4 = @math_bits_Len64_J4.b := funext fun α => congrFun (Classical.choose_spec math_bits_Len64_J4.ex) α
noncomputable def math_bits_Len64_J7.b {α : Type} (N : Nat) (v949 : Int) (v950 : Int) (k0 : Int → Int → Option α) : Option α :=
 let x951 := (decide ((256 : Int) ≤ v949))
 bif x951 then
  let x952 := (shrI .u64 v949 (8 : Int))
  let x953 := (IntKind.i64.wrap (v950 + (8 : Int)))
  k0 x952 x953
 else
  k0 v949 v950
theorem math_bits_Len64_J7.ex : ∃ f : ((α : Type) → Nat → Int → Int → (Int → Int → Option α) → Option α), f = fun α => @math_bits_Len64_J7.b α := ⟨_, rfl⟩
noncomputable def math_bits_Len64_J7 {α : Type} : Nat → Int → Int → (Int → Int → Option α) → Option α := Classical.choose math_bits_Len64_J7.ex α
theorem math_bits_Len64_J7.eq : @math_bits_Len64_J7 = @math_bits_Len64_J7.b := funext fun α => congrFun (Classical.choose_spec math_bits_Len64_J7.ex) α
/-- math/bits.Len64 -/
noncomputable def math_bits_Len64.b {α : Type} (N : Nat) (a935 : Int) (k0 : Int → Option α) : Option α :=
 math_bits_Len64_J1 N a935 (0 : Int)
  (fun x940 x941 =>
   math_bits_Len64_J4 N x940 x941
    (fun x947 x948 =>
     math_bits_Len64_J7 N x947 x948
      (fun x954 x955 =>
       let x956 := IntKind.u8.wrap x954
       bif (decide (x956 < (0 : Int))) then
        none
       else
        match ((⟨#[0, 1, 2, 2, 3, 3, 3, 3, 4, 4, 4, 4, 4, 4, 4, 4, 5, 5, 5, 5, 5, 5, 5, 5, 5, 5, 5, 5, 5, 5, 5, 5, 6, 6, 6, 6, 6, 6, 6, 6, 6, 6, 6, 6, 6, 6, 6, 6, 6, 6, 6, 6, 6, 6, 6, 6, 6, 6, 6, 6, 6, 6, 6, 6, 7, 7, 7, 7, 7, 7, 7, 7, 7, 7, 7, 7, 7, 7, 7, 7, 7, 7, 7, 7, 7, 7, 7, 7, 7, 7, 7, 7, 7, 7, 7, 7, 7, 7, 7, 7, 7, 7, 7, 7, 7, 7, 7, 7, 7, 7, 7, 7, 7, 7, 7, 7, 7, 7, 7, 7, 7, 7, 7, 7, 7, 7, 7, 7, 8, 8, 8, 8, 8, 8, 8, 8, 8, 8, 8, 8, 8, 8, 8, 8, 8, 8, 8, 8, 8, 8, 8, 8, 8, 8, 8, 8, 8, 8, 8, 8, 8, 8, 8, 8, 8, 8, 8, 8, 8, 8, 8, 8, 8, 8, 8, 8, 8, 8, 8, 8, 8, 8, 8, 8, 8, 8, 8, 8, 8, 8, 8, 8, 8, 8, 8, 8, 8, 8, 8, 8, 8, 8, 8, 8, 8, 8, 8, 8, 8, 8, 8, 8, 8, 8, 8, 8, 8, 8, 8, 8, 8, 8, 8, 8, 8, 8, 8, 8, 8, 8, 8, 8, 8, 8, 8, 8, 8, 8, 8, 8, 8, 8, 8, 8, 8, 8, 8, 8, 8, 8, 8, 8, 8, 8, 8, 8]⟩ : ByteArray)[x956.toNat]? : Option UInt8) with
        | some x957 =>
         let x958 := ((x957.toNat : Nat) : Int)
         let x959 := IntKind.i64.wrap x958
         let x960 := IntKind.i64.wrap (x955 + x959)
         k0 x960
        | none => none)))
theorem math_bits_Len64.ex : ∃ f : ((α : Type) → Nat → Int → (Int → Option α) → Option α), f = fun α => @math_bits_Len64.b α := ⟨_, rfl⟩
noncomputable def math_bits_Len64 {α : Type} : Nat → Int → (Int → Option α) → Option α := Classical.choose math_bits_Len64.ex α
theorem math_bits_Len64.eq : @math_bits_Len64 = @math_bits_Len64.b := funext fun α => congrFun (Classical.choose_spec math_bits_Len64.ex) α

/-- math/bits.Len -/
noncomputable def math_bits_Len.b {α : Type} (N : Nat) (a934 : Int) (k0 : Int → Option α) : Option α :=
 math_bits_Len64 N a934
  (fun x961 =>
   k0 x961)
theorem math_bits_Len.ex : ∃ f : ((α : Type) → Nat → Int → (Int → Option α) → Option α), f = fun α => @math_bits_Len.b α := ⟨_, rfl⟩
noncomputable def math_bits_Len {α : Type} : Nat → Int → (Int → Option α) → Option α := Classical.choose math_bits_Len.ex α
theorem math_bits_Len.eq : @math_bits_Len = @math_bits_Len.b := funext fun α => congrFun (Classical.choose_spec math_bits_Len.ex) α

/-- slices.Clone[[]int,int] -/
noncomputable def slices_Clone_int_int {α : Type} (N : Nat) (a1 : List Int) (k0 : List Int → Option α) : Option α :=
  bif decide (([] : List Int).length + a1.length ≤ 8796093022208) then k0 a1 else none

noncomputable def impl_natShift_J10.b {α : Type} (N : Nat) (v1040 : List Int) (v1041 : Int) (v1042 : Int) (v1043 : Int) (v1044 : Int) (v1045 : Int) (v1046 : List Int) (k0 : List Int → Int → Int → Int → Int → List Int → Option α) : Option α :=
 let x1047 := IntKind.i64.wrap (v1041 + v1043)
 let x1048 := (IntKind.i64.wrap (x1047 + (1 : Int)))
 let x1049 := ((v1040.length : Nat) : Int)
 let x1050 := decide (x1048 < x1049)
 bif x1050 then
  bif (decide (v1043 < (0 : Int))) then
   none
  else
   bif decide (v1043.toNat < v1046.length) then
    match v1046[v1043.toNat]? with
    | some x1051 =>
     let x1052 := IntKind.i64.wrap (v1041 + v1043)
     let x1053 := (IntKind.i64.wrap (x1052 + (1 : Int)))
     bif (decide (x1053 < (0 : Int))) then
      none
     else
      match v1040[x1053.toNat]? with
      | some x1054 =>
       let x1055 := (IntKind.i64.wrap ((16 : Int) - v1042))
       bif (decide (x1055 < (0 : Int))) then
        none
       else
        let x1056 := shlI .i64 x1054 x1055
        let x1057 := (bitI .and .i64 x1056 (65535 : Int))
        let x1058 := bitI .or .i64 x1051 x1057
        bif (decide (v1043 < (0 : Int))) then
         none
        else
         bif decide (v1043.toNat < v1046.length) then
          match v1046[v1043.toNat]? with
          | some x1059 =>
           let x1060 := v1046.set v1043.toNat x1058
           k0 v1040 v1041 v1042 v1044 v1045 x1060
          | none => none
         else
          none
      | none => none
    | none => none
   else
    none
 else
  k0 v1040 v1041 v1042 v1044 v1045 v1046
theorem impl_natShift_J10.ex : ∃ f : ((α : Type) → Nat → List Int → Int → Int → Int → Int → Int → List Int → (List Int → Int → Int → Int → Int → List Int → Option α) → Option α), f = fun α => @impl_natShift_J10.b α := ⟨_, rfl⟩
noncomputable def impl_natShift_J10 {α : Type} : Nat → List Int → Int → Int → Int → Int → Int → List Int → (List Int → Int → Int → Int → Int → List Int → Option α) → Option α := Classical.choose impl_natShift_J10.ex α
theorem impl_natShift_J10.eq : @impl_natShift_J10 = @impl_natShift_J10.b := funext fun α => congrFun (Classical.choose_spec impl_natShift_J10.ex) α
noncomputable def impl_natShift_L0r {α : Type} (N : Nat) (next : List Int → Int → Int → Int → Int → List Int → Option α) (k0 : List Int → Option α) (v1029 : List Int) (v1030 : Int) (v1031 : Int) (v1032 : Int) (v1033 : Int) (v1034 : List Int) : Option α :=
 let x1035 := decide (v1033 < v1032)
 bif x1035 then
  bif (decide (v1033 < (0 : Int))) then
   none
  else
   bif decide (v1033.toNat < v1034.length) then
    match v1034[v1033.toNat]? with
    | some x1036 =>
     bif (decide (v1031 < (0 : Int))) then
      none
     else
      let x1037 := shrI .i64 x1036 v1031
      bif (decide (v1033 < (0 : Int))) then
       none
      else
       bif decide (v1033.toNat < v1034.length) then
        match v1034[v1033.toNat]? with
        | some x1038 =>
         let x1039 := v1034.set v1033.toNat x1037
         impl_natShift_J10 N v1029 v1030 v1031 v1033 v1032 v1033 x1039
          (fun x1061 x1062 x1063 x1064 x1065 x1066 =>
           let x1067 := (IntKind.i64.wrap (x1065 + (1 : Int)))
           next x1061 x1062 x1063 x1064 x1067 x1066)
        | none => none
       else
        none
    | none => none
   else
    none
 else
  k0 v1034
noncomputable def impl_natShift_L0.b {α : Type} (N n : Nat) (v1029 : List Int) (v1030 : Int) (v1031 : Int) (v1032 : Int) (v1033 : Int) (v1034 : List Int) (k0 : List Int → Option α) : Option α :=
  Nat.rec (motive := fun _ => List Int → Int → Int → Int → Int → List Int → Option α) (fun _ _ _ _ _ _ => none) (fun _ next => impl_natShift_L0r N next k0) n v1029 v1030 v1031 v1032 v1033 v1034
theorem impl_natShift_L0.ex : ∃ f : ((α : Type) → Nat → Nat → List Int → Int → Int → Int → Int → List Int → (List Int → Option α) → Option α), f = fun α => @impl_natShift_L0.b α := ⟨_, rfl⟩
noncomputable def impl_natShift_L0 {α : Type} : Nat → Nat → List Int → Int → Int → Int → Int → List Int → (List Int → Option α) → Option α := Classical.choose impl_natShift_L0.ex α
theorem impl_natShift_L0.eq : @impl_natShift_L0 = @impl_natShift_L0.b := funext fun α => congrFun (Classical.choose_spec impl_natShift_L0.ex) α
theorem impl_natShift_L0.zero {α : Type} (N : Nat) (v1029 : List Int) (v1030 : Int) (v1031 : Int) (v1032 : Int) (v1033 : Int) (v1034 : List Int) (k0 : List Int → Option α) : impl_natShift_L0 N 0 v1029 v1030 v1031 v1032 v1033 v1034 k0 = none := by rw [impl_natShift_L0.eq]; rfl
theorem impl_natShift_L0.succ {α : Type} (N n : Nat) (v1029 : List Int) (v1030 : Int) (v1031 : Int) (v1032 : Int) (v1033 : Int) (v1034 : List Int) (k0 : List Int → Option α) : impl_natShift_L0 N (n + 1) v1029 v1030 v1031 v1032 v1033 v1034 k0 = impl_natShift_L0r N (fun y0 y1 y2 y3 y4 y5 => impl_natShift_L0 N n y0 y1 y2 y3 y4 y5 k0) k0 v1029 v1030 v1031 v1032 v1033 v1034 := by rw [impl_natShift_L0.eq]; rfl
noncomputable def impl_natShift_L2r {α : Type} (N : Nat) (next : Int → List Int → Int → Int → List Int → Option α) (k0 : List Int → Option α) (v1076 : Int) (v1077 : List Int) (v1078 : Int) (v1079 : Int) (v1080 : List Int) : Option α :=
 let x1081 := decide (v1079 < v1078)
 bif x1081 then
  bif (decide (v1079 < (0 : Int))) then
   none
  else
   match v1077[v1079.toNat]? with
   | some x1082 =>
    let x1083 := (Int.tmod v1076 (16 : Int))
    bif (decide (x1083 < (0 : Int))) then
     none
    else
     let x1084 := shlI .i64 x1082 x1083
     let x1085 := (IntKind.i64.wrap (Int.tdiv v1076 (16 : Int)))
     let x1086 := IntKind.i64.wrap (x1085 + v1079)
     bif (decide (x1086 < (0 : Int))) then
      none
     else
      bif decide (x1086.toNat < v1080.length) then
       match v1080[x1086.toNat]? with
       | some x1087 =>
        let x1088 := (bitI .and .i64 x1084 (65535 : Int))
        let x1089 := bitI .or .i64 x1087 x1088
        bif (decide (x1086 < (0 : Int))) then
         none
        else
         bif decide (x1086.toNat < v1080.length) then
          match v1080[x1086.toNat]? with
          | some x1090 =>
           let x1091 := v1080.set x1086.toNat x1089
           let x1092 := (IntKind.i64.wrap (Int.tdiv v1076 (16 : Int)))
           let x1093 := IntKind.i64.wrap (x1092 + v1079)
           let x1094 := (IntKind.i64.wrap (x1093 + (1 : Int)))
           let x1095 := (shrI .i64 x1084 (16 : Int))
           bif (decide (x1094 < (0 : Int))) then
            none
           else
            bif decide (x1094.toNat < x1091.length) then
             match x1091[x1094.toNat]? with
             | some x1096 =>
              let x1097 := x1091.set x1094.toNat x1095
              let x1098 := (IntKind.i64.wrap (v1079 + (1 : Int)))
              next v1076 v1077 v1078 x1098 x1097
             | none => none
            else
             none
          | none => none
         else
          none
       | none => none
      else
       none
   | none => none
 else
  k0 v1080
noncomputable def impl_natShift_L2.b {α : Type} (N n : Nat) (v1076 : Int) (v1077 : List Int) (v1078 : Int) (v1079 : Int) (v1080 : List Int) (k0 : List Int → Option α) : Option α :=
  Nat.rec (motive := fun _ => Int → List Int → Int → Int → List Int → Option α) (fun _ _ _ _ _ => none) (fun _ next => impl_natShift_L2r N next k0) n v1076 v1077 v1078 v1079 v1080
theorem impl_natShift_L2.ex : ∃ f : ((α : Type) → Nat → Nat → Int → List Int → Int → Int → List Int → (List Int → Option α) → Option α), f = fun α => @impl_natShift_L2.b α := ⟨_, rfl⟩
noncomputable def impl_natShift_L2 {α : Type} : Nat → Nat → Int → List Int → Int → Int → List Int → (List Int → Option α) → Option α := Classical.choose impl_natShift_L2.ex α
theorem impl_natShift_L2.eq : @impl_natShift_L2 = @impl_natShift_L2.b := funext fun α => congrFun (Classical.choose_spec impl_natShift_L2.ex) α
theorem impl_natShift_L2.zero {α : Type} (N : Nat) (v1076 : Int) (v1077 : List Int) (v1078 : Int) (v1079 : Int) (v1080 : List Int) (k0 : List Int → Option α) : impl_natShift_L2 N 0 v1076 v1077 v1078 v1079 v1080 k0 = none := by rw [impl_natShift_L2.eq]; rfl
theorem impl_natShift_L2.succ {α : Type} (N n : Nat) (v1076 : Int) (v1077 : List Int) (v1078 : Int) (v1079 : Int) (v1080 : List Int) (k0 : List Int → Option α) : impl_natShift_L2 N (n + 1) v1076 v1077 v1078 v1079 v1080 k0 = impl_natShift_L2r N (fun y0 y1 y2 y3 y4 => impl_natShift_L2 N n y0 y1 y2 y3 y4 k0) k0 v1076 v1077 v1078 v1079 v1080 := by rw [impl_natShift_L2.eq]; rfl
/-- impl.natShift -/
noncomputable def impl_natShift.b {α : Type} (N : Nat) (a1017 : List Int) (a1018 : Int) (k0 : List Int → Option α) : Option α :=
 let x1019 := (decide (a1018 < (0 : Int)))
 bif x1019 then
  let x1020 := IntKind.i64.wrap (0 - a1018)
  let x1021 := (IntKind.i64.wrap (Int.tdiv x1020 (16 : Int)))
  let x1022 := IntKind.i64.wrap (0 - a1018)
  let x1023 := (Int.tmod x1022 (16 : Int))
  let x1024 := ((a1017.length : Nat) : Int)
  let x1025 := decide (x1024 ≤ x1021)
  bif x1025 then
   k0 []
  else
   bif (decide ((0 : Int) ≤ x1021)) then
    bif (decide (x1021 ≤ ((a1017.length : Nat) : Int))) then
     let x1026 := a1017.drop x1021.toNat
     slices_Clone_int_int N x1026
      (fun x1027 =>
       let x1028 := ((x1027.length : Nat) : Int)
       impl_natShift_L0 N N a1017 x1021 x1023 x1028 (0 : Int) x1027
        (fun x1068 =>
         impl_trim N x1068
          (fun x1069 =>
           k0 x1069)))
    else
     none
   else
    none
 else
  let x1070 := (IntKind.i64.wrap (Int.tdiv a1018 (16 : Int)))
  let x1071 := ((a1017.length : Nat) : Int)
  let x1072 := IntKind.i64.wrap (x1070 + x1071)
  let x1073 := (IntKind.i64.wrap (x1072 + (1 : Int)))
  bif (decide ((0 : Int) ≤ x1073)) then
   bif decide (x1073 ≤ x1073) then
    bif (decide (x1073 ≤ ((8796093022208 : Nat) : Int))) then
     let x1074 := (List.replicate x1073.toNat (0 : Int))
     let x1075 := ((a1017.length : Nat) : Int)
     impl_natShift_L2 N N a1018 a1017 x1075 (0 : Int) x1074
      (fun x1099 =>
       impl_trim N x1099
        (fun x1100 =>
         k0 x1100))
    else
     none
   else
    none
  else
   none
theorem impl_natShift.ex : ∃ f : ((α : Type) → Nat → List Int → Int → (List Int → Option α) → Option α), f = fun α => @impl_natShift.b α := ⟨_, rfl⟩
noncomputable def impl_natShift {α : Type} : Nat → List Int → Int → (List Int → Option α) → Option α := Classical.choose impl_natShift.ex α
theorem impl_natShift.eq : @impl_natShift = @impl_natShift.b := funext fun α => congrFun (Classical.choose_spec impl_natShift.ex) α

noncomputable def impl_natDiv_L0r {α : Type} (N : Nat) (next : List Int → List Int → Int → Int → List Int → Option α) (k0 : Int → List Int → Option α) (v897 : List Int) (v898 : List Int) (v899 : Int) (v900 : Int) (v901 : List Int) : Option α :=
 let x902 := (decide ((0 : Int) ≤ v900))
 bif x902 then
  let x903 := (shlI .i64 v899 (16 : Int))
  bif (decide (v900 < (0 : Int))) then
   none
  else
   match v897[v900.toNat]? with
   | some x904 =>
    let x905 := bitI .or .i64 x903 x904
    match v898[0]? with
    | some x906 =>
     bif (decide (x906 = (0 : Int))) then
      none
     else
      let x907 := IntKind.i64.wrap (Int.tdiv x905 x906)
      match v898[0]? with
      | some x908 =>
       bif (decide (x908 = (0 : Int))) then
        none
       else
        let x909 := Int.tmod x905 x908
        bif (decide (v900 < (0 : Int))) then
         none
        else
         bif decide (v900.toNat < v901.length) then
          match v901[v900.toNat]? with
          | some x910 =>
           let x911 := v901.set v900.toNat x907
           let x912 := (IntKind.i64.wrap (v900 - (1 : Int)))
           next v897 v898 x909 x912 x911
          | none => none
         else
          none
      | none => none
    | none => none
   | none => none
 else
  k0 v899 v901
noncomputable def impl_natDiv_L0.b {α : Type} (N n : Nat) (v897 : List Int) (v898 : List Int) (v899 : Int) (v900 : Int) (v901 : List Int) (k0 : Int → List Int → Option α) : Option α :=
  Nat.rec (motive := fun _ => List Int → List Int → Int → Int → List Int → Option α) (fun _ _ _ _ _ => none) (fun _ next => impl_natDiv_L0r N next k0) n v897 v898 v899 v900 v901
theorem impl_natDiv_L0.ex : ∃ f : ((α : Type) → Nat → Nat → List Int → List Int → Int → Int → List Int → (Int → List Int → Option α) → Option α), f = fun α => @impl_natDiv_L0.b α := ⟨_, rfl⟩
noncomputable def impl_natDiv_L0 {α : Type} : Nat → Nat → List Int → List Int → Int → Int → List Int → (Int → List Int → Option α) → Option α := Classical.choose impl_natDiv_L0.ex α
theorem impl_natDiv_L0.eq : @impl_natDiv_L0 = @impl_natDiv_L0.b := funext fun α => congrFun (Classical.choose_spec impl_natDiv_L0.ex) α
theorem impl_natDiv_L0.zero {α : Type} (N : Nat) (v897 : List Int) (v898 : List Int) (v899 : Int) (v900 : Int) (v901 : List Int) (k0 : Int → List Int → Option α) : impl_natDiv_L0 N 0 v897 v898 v899 v900 v901 k0 = none := by rw [impl_natDiv_L0.eq]; rfl
theorem impl_natDiv_L0.succ {α : Type} (N n : Nat) (v897 : List Int) (v898 : List Int) (v899 : Int) (v900 : Int) (v901 : List Int) (k0 : Int → List Int → Option α) : impl_natDiv_L0 N (n + 1) v897 v898 v899 v900 v901 k0 = impl_natDiv_L0r N (fun y0 y1 y2 y3 y4 => impl_natDiv_L0 N n y0 y1 y2 y3 y4 k0) k0 v897 v898 v899 v900 v901 := by rw [impl_natDiv_L0.eq]; rfl
noncomputable def impl_natDiv_L2r {α : Type} (N : Nat) (next : List Int → Int → List Int → Int → List Int → Option α) (k0 : Int → List Int → Int → List Int → Option α) (v1107 : List Int) (v1108 : Int) (v1109 : List Int) (v1110 : Int) (v1111 : List Int) : Option α :=
 let x1112 := ((v1111.length : Nat) : Int)
 let x1113 := ((v1107.length : Nat) : Int)
 let x1114 := (IntKind.i64.wrap (x1113 + (1 : Int)))
 let x1115 := decide (x1112 < x1114)
 bif x1115 then
  let x1116 := [(0 : Int)]
  bif decide (v1111.length + x1116.length ≤ 8796093022208) then
   let x1117 := v1111 ++ x1116
   next v1107 v1108 v1109 v1110 x1117
  else
   none
 else
  k0 v1108 v1109 v1110 v1111
noncomputable def impl_natDiv_L2.b {α : Type} (N n : Nat) (v1107 : List Int) (v1108 : Int) (v1109 : List Int) (v1110 : Int) (v1111 : List Int) (k0 : Int → List Int → Int → List Int → Option α) : Option α :=
  Nat.rec (motive := fun _ => List Int → Int → List Int → Int → List Int → Option α) (fun _ _ _ _ _ => none) (fun _ next => impl_natDiv_L2r N next k0) n v1107 v1108 v1109 v1110 v1111
theorem impl_natDiv_L2.ex : ∃ f : ((α : Type) → Nat → Nat → List Int → Int → List Int → Int → List Int → (Int → List Int → Int → List Int → Option α) → Option α), f = fun α => @impl_natDiv_L2.b α := ⟨_, rfl⟩
noncomputable def impl_natDiv_L2 {α : Type} : Nat → Nat → List Int → Int → List Int → Int → List Int → (Int → List Int → Int → List Int → Option α) → Option α := Classical.choose impl_natDiv_L2.ex α
theorem impl_natDiv_L2.eq : @impl_natDiv_L2 = @impl_natDiv_L2.b := funext fun α => congrFun (Classical.choose_spec impl_natDiv_L2.ex) α
theorem impl_natDiv_L2.zero {α : Type} (N : Nat) (v1107 : List Int) (v1108 : Int) (v1109 : List Int) (v1110 : Int) (v1111 : List Int) (k0 : Int → List Int → Int → List Int → Option α) : impl_natDiv_L2 N 0 v1107 v1108 v1109 v1110 v1111 k0 = none := by rw [impl_natDiv_L2.eq]; rfl
theorem impl_natDiv_L2.succ {α : Type} (N n : Nat) (v1107 : List Int) (v1108 : Int) (v1109 : List Int) (v1110 : Int) (v1111 : List Int) (k0 : Int → List Int → Int → List Int → Option α) : impl_natDiv_L2 N (n + 1) v1107 v1108 v1109 v1110 v1111 k0 = impl_natDiv_L2r N (fun y0 y1 y2 y3 y4 => impl_natDiv_L2 N n y0 y1 y2 y3 y4 k0) k0 v1107 v1108 v1109 v1110 v1111 := by rw [impl_natDiv_L2.eq]; rfl
noncomputable def impl_natDiv_L6r {α : Type} (N : Nat) (next : Int → List Int → Int → Int → Int → Int → List Int → List Int → Option α) (k0 : Int → List Int → Int → Int → Int → List Int → List Int → Option α) (v1148 : Int) (v1149 : List Int) (v1150 : Int) (v1151 : Int) (v1152 : Int) (v1153 : Int) (v1154 : List Int) (v1155 : List Int) : Option α :=
 let x1156 := (decide ((65536 : Int) ≤ v1152))
 bif x1156 then
  let x1157 := (IntKind.i64.wrap (v1152 - (1 : Int)))
  let x1158 := (IntKind.i64.wrap (v1150 - (1 : Int)))
  bif (decide (x1158 < (0 : Int))) then
   none
  else
   match v1149[x1158.toNat]? with
   | some x1159 =>
    let x1160 := IntKind.i64.wrap (v1153 + x1159)
    let x1161 := (decide ((65536 : Int) ≤ x1160))
    bif x1161 then
     k0 v1148 v1149 v1150 v1151 x1157 v1154 v1155
    else
     next v1148 v1149 v1150 v1151 x1157 x1160 v1154 v1155
   | none => none
 else
  let x1162 := (IntKind.i64.wrap (v1150 - (2 : Int)))
  bif (decide (x1162 < (0 : Int))) then
   none
  else
   match v1149[x1162.toNat]? with
   | some x1163 =>
    let x1164 := IntKind.i64.wrap (v1152 * x1163)
    let x1165 := (shlI .i64 v1153 (16 : Int))
    let x1166 := IntKind.i64.wrap (v1151 + v1150)
    let x1167 := (IntKind.i64.wrap (x1166 - (2 : Int)))
    bif (decide (x1167 < (0 : Int))) then
     none
    else
     bif decide (x1167.toNat < v1154.length) then
      match v1154[x1167.toNat]? with
      | some x1168 =>
       let x1169 := bitI .or .i64 x1165 x1168
       let x1170 := decide (x1169 < x1164)
       bif x1170 then
        let x1171 := (IntKind.i64.wrap (v1152 - (1 : Int)))
        let x1172 := (IntKind.i64.wrap (v1150 - (1 : Int)))
        bif (decide (x1172 < (0 : Int))) then
         none
        else
         match v1149[x1172.toNat]? with
         | some x1173 =>
          let x1174 := IntKind.i64.wrap (v1153 + x1173)
          let x1175 := (decide ((65536 : Int) ≤ x1174))
          bif x1175 then
           k0 v1148 v1149 v1150 v1151 x1171 v1154 v1155
          else
           next v1148 v1149 v1150 v1151 x1171 x1174 v1154 v1155
         | none => none
       else
        k0 v1148 v1149 v1150 v1151 v1152 v1154 v1155
      | none => none
     else
      none
   | none => none
noncomputable def impl_natDiv_L6.b {α : Type} (N n : Nat) (v1148 : Int) (v1149 : List Int) (v1150 : Int) (v1151 : Int) (v1152 : Int) (v1153 : Int) (v1154 : List Int) (v1155 : List Int) (k0 : Int → List Int → Int → Int → Int → List Int → List Int → Option α) : Option α :=
  Nat.rec (motive := fun _ => Int → List Int → Int → Int → Int → Int → List Int → List Int → Option α) (fun _ _ _ _ _ _ _ _ => none) (fun _ next => impl_natDiv_L6r N next k0) n v1148 v1149 v1150 v1151 v1152 v1153 v1154 v1155
theorem impl_natDiv_L6.ex : ∃ f : ((α : Type) → Nat → Nat → Int → List Int → Int → Int → Int → Int → List Int → List Int → (Int → List Int → Int → Int → Int → List Int → List Int → Option α) → Option α), f = fun α => @impl_natDiv_L6.b α := ⟨_, rfl⟩
noncomputable def impl_natDiv_L6 {α : Type} : Nat → Nat → Int → List Int → Int → Int → Int → Int → List Int → List Int → (Int → List Int → Int → Int → Int → List Int → List Int → Option α) → Option α := Classical.choose impl_natDiv_L6.ex α
theorem impl_natDiv_L6.eq : @impl_natDiv_L6 = @impl_natDiv_L6.b := funext fun α => congrFun (Classical.choose_spec impl_natDiv_L6.ex) α
theorem impl_natDiv_L6.zero {α : Type} (N : Nat) (v1148 : Int) (v1149 : List Int) (v1150 : Int) (v1151 : Int) (v1152 : Int) (v1153 : Int) (v1154 : List Int) (v1155 : List Int) (k0 : Int → List Int → Int → Int → Int → List Int → List Int → Option α) : impl_natDiv_L6 N 0 v1148 v1149 v1150 v1151 v1152 v1153 v1154 v1155 k0 = none := by rw [impl_natDiv_L6.eq]; rfl
theorem impl_natDiv_L6.succ {α : Type} (N n : Nat) (v1148 : Int) (v1149 : List Int) (v1150 : Int) (v1151 : Int) (v1152 : Int) (v1153 : Int) (v1154 : List Int) (v1155 : List Int) (k0 : Int → List Int → Int → Int → Int → List Int → List Int → Option α) : impl_natDiv_L6 N (n + 1) v1148 v1149 v1150 v1151 v1152 v1153 v1154 v1155 k0 = impl_natDiv_L6r N (fun y0 y1 y2 y3 y4 y5 y6 y7 => impl_natDiv_L6 N n y0 y1 y2 y3 y4 y5 y6 y7 k0) k0 v1148 v1149 v1150 v1151 v1152 v1153 v1154 v1155 := by rw [impl_natDiv_L6.eq]; rfl
noncomputable def impl_natDiv_J34.b {α : Type} (N : Nat) (v1202 : Int) (v1203 : List Int) (v1204 : Int) (v1205 : Int) (v1206 : Int) (v1207 : Int) (v1208 : Int) (v1209 : Int) (v1210 : List Int) (v1211 : Int) (v1212 : Int) (v1213 : List Int) (v1214 : List Int) (k0 : Int → List Int → Int → Int → Int → Int → Int → Int → List Int → Int → Int → List Int → List Int → Option α) : Option α :=
 let x1215 := (decide (v1209 < (0 : Int)))
 bif x1215 then
  let x1216 := IntKind.i64.wrap (0 - v1209)
  let x1217 := (IntKind.i64.wrap (x1216 + (65536 : Int)))
  let x1218 := (IntKind.i64.wrap (x1217 - (1 : Int)))
  let x1219 := (IntKind.i64.wrap (Int.tdiv x1218 (65536 : Int)))
  let x1220 := (IntKind.i64.wrap (x1219 * (65536 : Int)))
  let x1221 := IntKind.i64.wrap (v1209 + x1220)
  k0 v1202 v1203 v1204 v1205 v1206 x1219 v1208 x1221 v1210 v1211 v1212 v1213 v1214
 else
  k0 v1202 v1203 v1204 v1205 v1206 v1207 v1208 v1209 v1210 v1211 v1212 v1213 v1214
theorem impl_natDiv_J34.ex : ∃ f : ((α : Type) → Nat → Int → List Int → Int → Int → Int → Int → Int → Int → List Int → Int → Int → List Int → List Int → (Int → List Int → Int → Int → Int → Int → Int → Int → List Int → Int → Int → List Int → List Int → Option α) → Option α), f = fun α => @impl_natDiv_J34.b α := ⟨_, rfl⟩
noncomputable def impl_natDiv_J34 {α : Type} : Nat → Int → List Int → Int → Int → Int → Int → Int → Int → List Int → Int → Int → List Int → List Int → (Int → List Int → Int → Int → Int → Int → Int → Int → List Int → Int → Int → List Int → List Int → Option α) → Option α := Classical.choose impl_natDiv_J34.ex α
theorem impl_natDiv_J34.eq : @impl_natDiv_J34 = @impl_natDiv_J34.b := funext fun α => congrFun (Classical.choose_spec impl_natDiv_J34.ex) α
noncomputable def impl_natDiv_L8r {α : Type} (N : Nat) (next : Int → List Int → Int → Int → Int → Int → List Int → Int → Int → List Int → List Int → Option α) (k0 : Int → List Int → Int → Int → Int → Int → List Int → List Int → Option α) (v1184 : Int) (v1185 : List Int) (v1186 : Int) (v1187 : Int) (v1188 : Int) (v1189 : Int) (v1190 : List Int) (v1191 : Int) (v1192 : Int) (v1193 : List Int) (v1194 : List Int) : Option α :=
 let x1195 := decide (v1192 < v1191)
 bif x1195 then
  bif (decide (v1192 < (0 : Int))) then
   none
  else
   match v1190[v1192.toNat]? with
   | some x1196 =>
    let x1197 := IntKind.i64.wrap (v1187 + v1192)
    bif (decide (x1197 < (0 : Int))) then
     none
    else
     bif decide (x1197.toNat < v1193.length) then
      match v1193[x1197.toNat]? with
      | some x1198 =>
       let x1199 := IntKind.i64.wrap (x1198 - v1189)
       let x1200 := IntKind.i64.wrap (v1188 * x1196)
       let x1201 := IntKind.i64.wrap (x1199 - x1200)
       impl_natDiv_J34 N v1184 v1185 v1186 v1187 v1188 (0 : Int) v1192 x1201 v1190 v1191 v1192 v1193 v1194
        (fun x1222 x1223 x1224 x1225 x1226 x1227 x1228 x1229 x1230 x1231 x1232 x1233 x1234 =>
         let x1235 := IntKind.i64.wrap (x1225 + x1228)
         bif (decide (x1235 < (0 : Int))) then
          none
         else
          bif decide (x1235.toNat < x1233.length) then
           match x1233[x1235.toNat]? with
           | some x1236 =>
            let x1237 := x1233.set x1235.toNat x1229
            let x1238 := (IntKind.i64.wrap (x1232 + (1 : Int)))
            next x1222 x1223 x1224 x1225 x1226 x1227 x1230 x1231 x1238 x1237 x1234
           | none => none
          else
           none)
      | none => none
     else
      none
   | none => none
 else
  k0 v1184 v1185 v1186 v1187 v1188 v1189 v1193 v1194
noncomputable def impl_natDiv_L8.b {α : Type} (N n : Nat) (v1184 : Int) (v1185 : List Int) (v1186 : Int) (v1187 : Int) (v1188 : Int) (v1189 : Int) (v1190 : List Int) (v1191 : Int) (v1192 : Int) (v1193 : List Int) (v1194 : List Int) (k0 : Int → List Int → Int → Int → Int → Int → List Int → List Int → Option α) : Option α :=
  Nat.rec (motive := fun _ => Int → List Int → Int → Int → Int → Int → List Int → Int → Int → List Int → List Int → Option α) (fun _ _ _ _ _ _ _ _ _ _ _ => none) (fun _ next => impl_natDiv_L8r N next k0) n v1184 v1185 v1186 v1187 v1188 v1189 v1190 v1191 v1192 v1193 v1194
theorem impl_natDiv_L8.ex : ∃ f : ((α : Type) → Nat → Nat → Int → List Int → Int → Int → Int → Int → List Int → Int → Int → List Int → List Int → (Int → List Int → Int → Int → Int → Int → List Int → List Int → Option α) → Option α), f = fun α => @impl_natDiv_L8.b α := ⟨_, rfl⟩
noncomputable def impl_natDiv_L8 {α : Type} : Nat → Nat → Int → List Int → Int → Int → Int → Int → List Int → Int → Int → List Int → List Int → (Int → List Int → Int → Int → Int → Int → List Int → List Int → Option α) → Option α := Classical.choose impl_natDiv_L8.ex α
theorem impl_natDiv_L8.eq : @impl_natDiv_L8 = @impl_natDiv_L8.b := funext fun α => congrFun (Classical.choose_spec impl_natDiv_L8.ex) α
theorem impl_natDiv_L8.zero {α : Type} (N : Nat) (v1184 : Int) (v1185 : List Int) (v1186 : Int) (v1187 : Int) (v1188 : Int) (v1189 : Int) (v1190 : List Int) (v1191 : Int) (v1192 : Int) (v1193 : List Int) (v1194 : List Int) (k0 : Int → List Int → Int → Int → Int → Int → List Int → List Int → Option α) : impl_natDiv_L8 N 0 v1184 v1185 v1186 v1187 v1188 v1189 v1190 v1191 v1192 v1193 v1194 k0 = none := by rw [impl_natDiv_L8.eq]; rfl
theorem impl_natDiv_L8.succ {α : Type} (N n : Nat) (v1184 : Int) (v1185 : List Int) (v1186 : Int) (v1187 : Int) (v1188 : Int) (v1189 : Int) (v1190 : List Int) (v1191 : Int) (v1192 : Int) (v1193 : List Int) (v1194 : List Int) (k0 : Int → List Int → Int → Int → Int → Int → List Int → List Int → Option α) : impl_natDiv_L8 N (n + 1) v1184 v1185 v1186 v1187 v1188 v1189 v1190 v1191 v1192 v1193 v1194 k0 = impl_natDiv_L8r N (fun y0 y1 y2 y3 y4 y5 y6 y7 y8 y9 y10 => impl_natDiv_L8 N n y0 y1 y2 y3 y4 y5 y6 y7 y8 y9 y10 k0) k0 v1184 v1185 v1186 v1187 v1188 v1189 v1190 v1191 v1192 v1193 v1194 := by rw [impl_natDiv_L8.eq]; rfl
noncomputable def impl_natDiv_L10r {α : Type} (N : Nat) (next : Int → List Int → Int → Int → Int → Int → List Int → Int → Int → List Int → List Int → Option α) (k0 : Int → List Int → Int → Int → Int → Int → List Int → List Int → Option α) (v1264 : Int) (v1265 : List Int) (v1266 : Int) (v1267 : Int) (v1268 : Int) (v1269 : Int) (v1270 : List Int) (v1271 : Int) (v1272 : Int) (v1273 : List Int) (v1274 : List Int) : Option α :=
 let x1275 := decide (v1272 < v1271)
 bif x1275 then
  bif (decide (v1272 < (0 : Int))) then
   none
  else
   match v1270[v1272.toNat]? with
   | some x1276 =>
    let x1277 := IntKind.i64.wrap (v1267 + v1272)
    bif (decide (x1277 < (0 : Int))) then
     none
    else
     bif decide (x1277.toNat < v1273.length) then
      match v1273[x1277.toNat]? with
      | some x1278 =>
       let x1279 := IntKind.i64.wrap (x1278 + x1276)
       let x1280 := IntKind.i64.wrap (x1279 + v1269)
       let x1281 := IntKind.i64.wrap (v1267 + v1272)
       let x1282 := (bitI .and .i64 x1280 (65535 : Int))
       let x1283 := (shrI .i64 x1280 (16 : Int))
       bif (decide (x1281 < (0 : Int))) then
        none
       else
        bif decide (x1281.toNat < v1273.length) then
         match v1273[x1281.toNat]? with
         | some x1284 =>
          let x1285 := v1273.set x1281.toNat x1282
          let x1286 := (IntKind.i64.wrap (v1272 + (1 : Int)))
          next v1264 v1265 v1266 v1267 v1268 x1283 v1270 v1271 x1286 x1285 v1274
         | none => none
        else
         none
      | none => none
     else
      none
   | none => none
 else
  k0 v1264 v1265 v1266 v1267 v1268 v1269 v1273 v1274
noncomputable def impl_natDiv_L10.b {α : Type} (N n : Nat) (v1264 : Int) (v1265 : List Int) (v1266 : Int) (v1267 : Int) (v1268 : Int) (v1269 : Int) (v1270 : List Int) (v1271 : Int) (v1272 : Int) (v1273 : List Int) (v1274 : List Int) (k0 : Int → List Int → Int → Int → Int → Int → List Int → List Int → Option α) : Option α :=
  Nat.rec (motive := fun _ => Int → List Int → Int → Int → Int → Int → List Int → Int → Int → List Int → List Int → Option α) (fun _ _ _ _ _ _ _ _ _ _ _ => none) (fun _ next => impl_natDiv_L10r N next k0) n v1264 v1265 v1266 v1267 v1268 v1269 v1270 v1271 v1272 v1273 v1274
theorem impl_natDiv_L10.ex : ∃ f : ((α : Type) → Nat → Nat → Int → List Int → Int → Int → Int → Int → List Int → Int → Int → List Int → List Int → (Int → List Int → Int → Int → Int → Int → List Int → List Int → Option α) → Option α), f = fun α => @impl_natDiv_L10.b α := ⟨_, rfl⟩
noncomputable def impl_natDiv_L10 {α : Type} : Nat → Nat → Int → List Int → Int → Int → Int → Int → List Int → Int → Int → List Int → List Int → (Int → List Int → Int → Int → Int → Int → List Int → List Int → Option α) → Option α := Classical.choose impl_natDiv_L10.ex α
theorem impl_natDiv_L10.eq : @impl_natDiv_L10 = @impl_natDiv_L10.b := funext fun α => congrFun (Classical.choose_spec impl_natDiv_L10.ex) α
theorem impl_natDiv_L10.zero {α : Type} (N : Nat) (v1264 : Int) (v1265 : List Int) (v1266 : Int) (v1267 : Int) (v1268 : Int) (v1269 : Int) (v1270 : List Int) (v1271 : Int) (v1272 : Int) (v1273 : List Int) (v1274 : List Int) (k0 : Int → List Int → Int → Int → Int → Int → List Int → List Int → Option α) : impl_natDiv_L10 N 0 v1264 v1265 v1266 v1267 v1268 v1269 v1270 v1271 v1272 v1273 v1274 k0 = none := by rw [impl_natDiv_L10.eq]; rfl
theorem impl_natDiv_L10.succ {α : Type} (N n : Nat) (v1264 : Int) (v1265 : List Int) (v1266 : Int) (v1267 : Int) (v1268 : Int) (v1269 : Int) (v1270 : List Int) (v1271 : Int) (v1272 : Int) (v1273 : List Int) (v1274 : List Int) (k0 : Int → List Int → Int → Int → Int → Int → List Int → List Int → Option α) : impl_natDiv_L10 N (n + 1) v1264 v1265 v1266 v1267 v1268 v1269 v1270 v1271 v1272 v1273 v1274 k0 = impl_natDiv_L10r N (fun y0 y1 y2 y3 y4 y5 y6 y7 y8 y9 y10 => impl_natDiv_L10 N n y0 y1 y2 y3 y4 y5 y6 y7 y8 y9 y10 k0) k0 v1264 v1265 v1266 v1267 v1268 v1269 v1270 v1271 v1272 v1273 v1274 := by rw [impl_natDiv_L10.eq]; rfl
noncomputable def impl_natDiv_J40.b {α : Type} (N : Nat) (v1252 : Int) (v1253 : List Int) (v1254 : Int) (v1255 : Int) (v1256 : Int) (v1257 : List Int) (v1258 : List Int) (k0 : Int → List Int → Int → Int → Int → List Int → List Int → Option α) : Option α :=
 let x1259 := IntKind.i64.wrap (v1255 + v1254)
 bif (decide (x1259 < (0 : Int))) then
  none
 else
  bif decide (x1259.toNat < v1257.length) then
   match v1257[x1259.toNat]? with
   | some x1260 =>
    let x1261 := (decide (x1260 < (0 : Int)))
    bif x1261 then
     let x1262 := (IntKind.i64.wrap (v1256 - (1 : Int)))
     let x1263 := ((v1253.length : Nat) : Int)
     impl_natDiv_L10 N N v1252 v1253 v1254 v1255 x1262 (0 : Int) v1253 x1263 (0 : Int) v1257 v1258
      (fun x1287 x1288 x1289 x1290 x1291 x1292 x1293 x1294 =>
       let x1295 := IntKind.i64.wrap (x1290 + x1289)
       bif (decide (x1295 < (0 : Int))) then
        none
       else
        bif decide (x1295.toNat < x1293.length) then
         match x1293[x1295.toNat]? with
         | some x1296 =>
          let x1297 := IntKind.i64.wrap (x1296 + x1292)
          bif (decide (x1295 < (0 : Int))) then
           none
          else
           bif decide (x1295.toNat < x1293.length) then
            match x1293[x1295.toNat]? with
            | some x1298 =>
             let x1299 := x1293.set x1295.toNat x1297
             k0 x1287 x1288 x1289 x1290 x1291 x1299 x1294
            | none => none
           else
            none
         | none => none
        else
         none)
    else
     k0 v1252 v1253 v1254 v1255 v1256 v1257 v1258
   | none => none
  else
   none
theorem impl_natDiv_J40.ex : ∃ f : ((α : Type) → Nat → Int → List Int → Int → Int → Int → List Int → List Int → (Int → List Int → Int → Int → Int → List Int → List Int → Option α) → Option α), f = fun α => @impl_natDiv_J40.b α := ⟨_, rfl⟩
noncomputable def impl_natDiv_J40 {α : Type} : Nat → Int → List Int → Int → Int → Int → List Int → List Int → (Int → List Int → Int → Int → Int → List Int → List Int → Option α) → Option α := Classical.choose impl_natDiv_J40.ex α
theorem impl_natDiv_J40.eq : @impl_natDiv_J40 = @impl_natDiv_J40.b := funext fun α => congrFun (Classical.choose_spec impl_natDiv_J40.ex) α
noncomputable def impl_natDiv_L4r {α : Type} (N : Nat) (next : Int → List Int → Int → Int → List Int → List Int → Option α) (k0 : Int → List Int → List Int → Option α) (v1128 : Int) (v1129 : List Int) (v1130 : Int) (v1131 : Int) (v1132 : List Int) (v1133 : List Int) : Option α :=
 let x1134 := (decide ((0 : Int) ≤ v1131))
 bif x1134 then
  let x1135 := IntKind.i64.wrap (v1131 + v1130)
  bif (decide (x1135 < (0 : Int))) then
   none
  else
   bif decide (x1135.toNat < v1132.length) then
    match v1132[x1135.toNat]? with
    | some x1136 =>
     let x1137 := (shlI .i64 x1136 (16 : Int))
     let x1138 := IntKind.i64.wrap (v1131 + v1130)
     let x1139 := (IntKind.i64.wrap (x1138 - (1 : Int)))
     bif (decide (x1139 < (0 : Int))) then
      none
     else
      bif decide (x1139.toNat < v1132.length) then
       match v1132[x1139.toNat]? with
       | some x1140 =>
        let x1141 := bitI .or .i64 x1137 x1140
        let x1142 := (IntKind.i64.wrap (v1130 - (1 : Int)))
        bif (decide (x1142 < (0 : Int))) then
         none
        else
         match v1129[x1142.toNat]? with
         | some x1143 =>
          bif (decide (x1143 = (0 : Int))) then
           none
          else
           let x1144 := IntKind.i64.wrap (Int.tdiv x1141 x1143)
           let x1145 := (IntKind.i64.wrap (v1130 - (1 : Int)))
           bif (decide (x1145 < (0 : Int))) then
            none
           else
            match v1129[x1145.toNat]? with
            | some x1146 =>
             bif (decide (x1146 = (0 : Int))) then
              none
             else
              let x1147 := Int.tmod x1141 x1146
              impl_natDiv_L6 N N v1128 v1129 v1130 v1131 x1144 x1147 v1132 v1133
               (fun x1176 x1177 x1178 x1179 x1180 x1181 x1182 =>
                let x1183 := ((x1177.length : Nat) : Int)
                impl_natDiv_L8 N N x1176 x1177 x1178 x1179 x1180 (0 : Int) x1177 x1183 (0 : Int) x1181 x1182
                 (fun x1239 x1240 x1241 x1242 x1243 x1244 x1245 x1246 =>
                  let x1247 := IntKind.i64.wrap (x1242 + x1241)
                  bif (decide (x1247 < (0 : Int))) then
                   none
                  else
                   bif decide (x1247.toNat < x1245.length) then
                    match x1245[x1247.toNat]? with
                    | some x1248 =>
                     let x1249 := IntKind.i64.wrap (x1248 - x1244)
                     bif (decide (x1247 < (0 : Int))) then
                      none
                     else
                      bif decide (x1247.toNat < x1245.length) then
                       match x1245[x1247.toNat]? with
                       | some x1250 =>
                        let x1251 := x1245.set x1247.toNat x1249
                        impl_natDiv_J40 N x1239 x1240 x1241 x1242 x1243 x1251 x1246
                         (fun x1300 x1301 x1302 x1303 x1304 x1305 x1306 =>
                          bif (decide (x1303 < (0 : Int))) then
                           none
                          else
                           bif decide (x1303.toNat < x1306.length) then
                            match x1306[x1303.toNat]? with
                            | some x1307 =>
                             let x1308 := x1306.set x1303.toNat x1304
                             let x1309 := (IntKind.i64.wrap (x1303 - (1 : Int)))
                             next x1300 x1301 x1302 x1309 x1305 x1308
                            | none => none
                           else
                            none)
                       | none => none
                      else
                       none
                    | none => none
                   else
                    none))
            | none => none
         | none => none
       | none => none
      else
       none
    | none => none
   else
    none
 else
  k0 v1128 v1132 v1133
noncomputable def impl_natDiv_L4.b {α : Type} (N n : Nat) (v1128 : Int) (v1129 : List Int) (v1130 : Int) (v1131 : Int) (v1132 : List Int) (v1133 : List Int) (k0 : Int → List Int → List Int → Option α) : Option α :=
  Nat.rec (motive := fun _ => Int → List Int → Int → Int → List Int → List Int → Option α) (fun _ _ _ _ _ _ => none) (fun _ next => impl_natDiv_L4r N next k0) n v1128 v1129 v1130 v1131 v1132 v1133
theorem impl_natDiv_L4.ex : ∃ f : ((α : Type) → Nat → Nat → Int → List Int → Int → Int → List Int → List Int → (Int → List Int → List Int → Option α) → Option α), f = fun α => @impl_natDiv_L4.b α := ⟨_, rfl⟩
noncomputable def impl_natDiv_L4 {α : Type} : Nat → Nat → Int → List Int → Int → Int → List Int → List Int → (Int → List Int → List Int → Option α) → Option α := Classical.choose impl_natDiv_L4.ex α
theorem impl_natDiv_L4.eq : @impl_natDiv_L4 = @impl_natDiv_L4.b := funext fun α => congrFun (Classical.choose_spec impl_natDiv_L4.ex) α
theorem impl_natDiv_L4.zero {α : Type} (N : Nat) (v1128 : Int) (v1129 : List Int) (v1130 : Int) (v1131 : Int) (v1132 : List Int) (v1133 : List Int) (k0 : Int → List Int → List Int → Option α) : impl_natDiv_L4 N 0 v1128 v1129 v1130 v1131 v1132 v1133 k0 = none := by rw [impl_natDiv_L4.eq]; rfl
theorem impl_natDiv_L4.succ {α : Type} (N n : Nat) (v1128 : Int) (v1129 : List Int) (v1130 : Int) (v1131 : Int) (v1132 : List Int) (v1133 : List Int) (k0 : Int → List Int → List Int → Option α) : impl_natDiv_L4 N (n + 1) v1128 v1129 v1130 v1131 v1132 v1133 k0 = impl_natDiv_L4r N (fun y0 y1 y2 y3 y4 y5 => impl_natDiv_L4 N n y0 y1 y2 y3 y4 y5 k0) k0 v1128 v1129 v1130 v1131 v1132 v1133 := by rw [impl_natDiv_L4.eq]; rfl
/-- impl.natDiv -/
noncomputable def impl_natDiv.b {α : Type} (N : Nat) (a861 : List Int) (a862 : List Int) (k0 : List Int → List Int → Option α) : Option α :=
 impl_natCmp N a861 a862
  (fun x889 =>
   let x890 := (decide (x889 < (0 : Int)))
   bif x890 then
    k0 [] a861
   else
    let x891 := ((a862.length : Nat) : Int)
    let x892 := (decide (x891 = (1 : Int)))
    bif x892 then
     let x893 := ((a861.length : Nat) : Int)
     bif (decide ((0 : Int) ≤ x893)) then
      bif decide (x893 ≤ x893) then
       bif (decide (x893 ≤ ((8796093022208 : Nat) : Int))) then
        let x894 := (List.replicate x893.toNat (0 : Int))
        let x895 := ((a861.length : Nat) : Int)
        let x896 := (IntKind.i64.wrap (x895 - (1 : Int)))
        impl_natDiv_L0 N N a861 a862 (0 : Int) x896 x894
         (fun x913 x914 =>
          impl_trim N x914
           (fun x927 =>
            let x928 := [x913]
            impl_trim N x928
             (fun x929 =>
              k0 x927 x929)))
       else
        none
      else
       none
     else
      none
    else
     let x930 := ((a862.length : Nat) : Int)
     let x931 := (IntKind.i64.wrap (x930 - (1 : Int)))
     bif (decide (x931 < (0 : Int))) then
      none
     else
      match a862[x931.toNat]? with
      | some x932 =>
       let x933 := IntKind.u64.wrap x932
       math_bits_Len N x933
        (fun x962 =>
         let x963 := (IntKind.i64.wrap ((16 : Int) - x962))
         impl_natShift N a862 x963
          (fun x1101 =>
           impl_natShift N a861 x963
            (fun x1102 =>
             slices_Clone_int_int N x1102
              (fun x1103 =>
               let x1104 := [(0 : Int)]
               bif decide (x1103.length + x1104.length ≤ 8796093022208) then
                let x1105 := x1103 ++ x1104
                let x1106 := ((x1101.length : Nat) : Int)
                impl_natDiv_L2 N N a861 x963 x1101 x1106 x1105
                 (fun x1118 x1119 x1120 x1121 =>
                  let x1122 := ((x1121.length : Nat) : Int)
                  let x1123 := IntKind.i64.wrap (x1122 - x1120)
                  bif (decide ((0 : Int) ≤ x1123)) then
                   bif decide (x1123 ≤ x1123) then
                    bif (decide (x1123 ≤ ((8796093022208 : Nat) : Int))) then
                     let x1124 := (List.replicate x1123.toNat (0 : Int))
                     let x1125 := ((x1121.length : Nat) : Int)
                     let x1126 := IntKind.i64.wrap (x1125 - x1120)
                     let x1127 := (IntKind.i64.wrap (x1126 - (1 : Int)))
                     impl_natDiv_L4 N N x1118 x1119 x1120 x1127 x1121 x1124
                      (fun x1310 x1311 x1312 =>
                       impl_trim N x1312
                        (fun x1313 =>
                         impl_trim N x1311
                          (fun x1314 =>
                           let x1315 := IntKind.i64.wrap (0 - x1310)
                           impl_natShift N x1314 x1315
                            (fun x1316 =>
                             k0 x1313 x1316))))
                    else
                     none
                   else
                    none
                  else
                   none)
               else
                none))))
      | none => none)
theorem impl_natDiv.ex : ∃ f : ((α : Type) → Nat → List Int → List Int → (List Int → List Int → Option α) → Option α), f = fun α => @impl_natDiv.b α := ⟨_, rfl⟩
noncomputable def impl_natDiv {α : Type} : Nat → List Int → List Int → (List Int → List Int → Option α) → Option α := Classical.choose impl_natDiv.ex α
theorem impl_natDiv.eq : @impl_natDiv = @impl_natDiv.b := funext fun α => congrFun (Classical.choose_spec impl_natDiv.ex) α

noncomputable def impl_natGcd_L0r {α : Type} (N : Nat) (next : List Int → List Int → Option α) (k0 : List Int → Option α) (v788 : List Int) (v789 : List Int) : Option α :=
 let x790 := ((v789.length : Nat) : Int)
 let x791 := (decide ((0 : Int) < x790))
 bif x791 then
  impl_natDiv N v788 v789
   (fun _ x1318 =>
    next v789 x1318)
 else
  k0 v788
noncomputable def impl_natGcd_L0.b {α : Type} (N n : Nat) (v788 : List Int) (v789 : List Int) (k0 : List Int → Option α) : Option α :=
  Nat.rec (motive := fun _ => List Int → List Int → Option α) (fun _ _ => none) (fun _ next => impl_natGcd_L0r N next k0) n v788 v789
theorem impl_natGcd_L0.ex : ∃ f : ((α : Type) → Nat → Nat → List Int → List Int → (List Int → Option α) → Option α), f = fun α => @impl_natGcd_L0.b α := ⟨_, rfl⟩
noncomputable def impl_natGcd_L0 {α : Type} : Nat → Nat → List Int → List Int → (List Int → Option α) → Option α := Classical.choose impl_natGcd_L0.ex α
theorem impl_natGcd_L0.eq : @impl_natGcd_L0 = @impl_natGcd_L0.b := funext fun α => congrFun (Classical.choose_spec impl_natGcd_L0.ex) α
theorem impl_natGcd_L0.zero {α : Type} (N : Nat) (v788 : List Int) (v789 : List Int) (k0 : List Int → Option α) : impl_natGcd_L0 N 0 v788 v789 k0 = none := by rw [impl_natGcd_L0.eq]; rfl
theorem impl_natGcd_L0.succ {α : Type} (N n : Nat) (v788 : List Int) (v789 : List Int) (k0 : List Int → Option α) : impl_natGcd_L0 N (n + 1) v788 v789 k0 = impl_natGcd_L0r N (fun y0 y1 => impl_natGcd_L0 N n y0 y1 k0) k0 v788 v789 := by rw [impl_natGcd_L0.eq]; rfl
/-- impl.natGcd -/
noncomputable def impl_natGcd.b {α : Type} (N : Nat) (a786 : List Int) (a787 : List Int) (k0 : List Int → Option α) : Option α :=
 impl_natGcd_L0 N N a786 a787
  (fun x1319 =>
   k0 x1319)
theorem impl_natGcd.ex : ∃ f : ((α : Type) → Nat → List Int → List Int → (List Int → Option α) → Option α), f = fun α => @impl_natGcd.b α := ⟨_, rfl⟩
noncomputable def impl_natGcd {α : Type} : Nat → List Int → List Int → (List Int → Option α) → Option α := Classical.choose impl_natGcd.ex α
theorem impl_natGcd.eq : @impl_natGcd = @impl_natGcd.b := funext fun α => congrFun (Classical.choose_spec impl_natGcd.ex) α

/-- impl.FracOk -/
noncomputable def impl_FracOk.b {α : Type} (N : Nat) (a726 : Bool × (List Int) × (List Int) × Unit) (k0 : Bool → Option α) : Option α :=
 let x727 := [a726.2.1, a726.2.2.1]
 impl_nats N x727
  (fun x781 =>
   bif x781 then
    let x782 := ((a726.2.2.1.length : Nat) : Int)
    let x783 := (decide ((0 : Int) < x782))
    bif x783 then
     let x784 := ((a726.2.1.length : Nat) : Int)
     let x785 := (decide ((0 : Int) < x784))
     bif x785 then
      impl_natGcd N a726.2.1 a726.2.2.1
       (fun x1320 =>
        let x1321 := [(1 : Int)]
        impl_natCmp N x1320 x1321
         (fun x1322 =>
          let x1323 := (decide (x1322 = (0 : Int)))
          k0 x1323))
     else
      let x1324 := !a726.1
      bif x1324 then
       impl_natGcd N a726.2.1 a726.2.2.1
        (fun x1325 =>
         let x1326 := [(1 : Int)]
         impl_natCmp N x1325 x1326
          (fun x1327 =>
           let x1328 := (decide (x1327 = (0 : Int)))
           k0 x1328))
      else
       k0 false
    else
     k0 false
   else
    k0 false)
theorem impl_FracOk.ex : ∃ f : ((α : Type) → Nat → (Bool × (List Int) × (List Int) × Unit) → (Bool → Option α) → Option α), f = fun α => @impl_FracOk.b α := ⟨_, rfl⟩
noncomputable def impl_FracOk {α : Type} : Nat → (Bool × (List Int) × (List Int) × Unit) → (Bool → Option α) → Option α := Classical.choose impl_FracOk.ex α
theorem impl_FracOk.eq : @impl_FracOk = @impl_FracOk.b := funext fun α => congrFun (Classical.choose_spec impl_FracOk.ex) α

-- prim strconv_Itoa
-- prim strings_Repeat
noncomputable def impl_natText_J7.b {α : Type} (N : Nat) (v1341 : ByteArray) (v1342 : List Int) (v1343 : List Int) (v1344 : Int) (k0 : ByteArray → List Int → Int → Option α) : Option α :=
 let x1345 := ((v1343.length : Nat) : Int)
 let x1346 := (decide ((0 : Int) < x1345))
 bif x1346 then
  match v1343[0]? with
  | some x1347 =>
   k0 v1341 v1342 x1347
  | none => none
 else
  k0 v1341 v1342 v1344
theorem impl_natText_J7.ex : ∃ f : ((α : Type) → Nat → ByteArray → List Int → List Int → Int → (ByteArray → List Int → Int → Option α) → Option α), f = fun α => @impl_natText_J7.b α := ⟨_, rfl⟩
noncomputable def impl_natText_J7 {α : Type} : Nat → ByteArray → List Int → List Int → Int → (ByteArray → List Int → Int → Option α) → Option α := Classical.choose impl_natText_J7.ex α
theorem impl_natText_J7.eq : @impl_natText_J7 = @impl_natText_J7.b := funext fun α => congrFun (Classical.choose_spec impl_natText_J7.ex) α
noncomputable def impl_natText_J10.b {α : Type} (N : Nat) (v1352 : ByteArray) (v1353 : List Int) (v1354 : ByteArray) (k0 : ByteArray → List Int → ByteArray → Option α) : Option α :=
 let x1355 := ((v1353.length : Nat) : Int)
 let x1356 := (decide ((0 : Int) < x1355))
 bif x1356 then
  let x1357 := ((v1354.size : Nat) : Int)
  let x1358 := (IntKind.i64.wrap ((4 : Int) - x1357))
  strings_Repeat N (⟨#[48]⟩ : ByteArray) x1358
   (fun x1359 =>
    bif decide (x1359.size + v1354.size ≤ 9223372036854775807) then
     let x1360 := x1359 ++ v1354
     k0 v1352 v1353 x1360
    else
     none)
 else
  k0 v1352 v1353 v1354
theorem impl_natText_J10.ex : ∃ f : ((α : Type) → Nat → ByteArray → List Int → ByteArray → (ByteArray → List Int → ByteArray → Option α) → Option α), f = fun α => @impl_natText_J10.b α := ⟨_, rfl⟩
noncomputable def impl_natText_J10 {α : Type} : Nat → ByteArray → List Int → ByteArray → (ByteArray → List Int → ByteArray → Option α) → Option α := Classical.choose impl_natText_J10.ex α
theorem impl_natText_J10.eq : @impl_natText_J10 = @impl_natText_J10.b := funext fun α => congrFun (Classical.choose_spec impl_natText_J10.ex) α
noncomputable def impl_natText_L0r {α : Type} (N : Nat) (next : List Int → ByteArray → Option α) (k0 : ByteArray → Option α) (v1334 : List Int) (v1335 : ByteArray) : Option α :=
 let x1336 := ((v1334.length : Nat) : Int)
 let x1337 := (decide ((0 : Int) < x1336))
 bif x1337 then
  let x1338 := [(10000 : Int)]
  impl_natDiv N v1334 x1338
   (fun x1339 x1340 =>
    impl_natText_J7 N v1335 x1339 x1340 (0 : Int)
     (fun x1348 x1349 x1350 =>
      strconv_Itoa N x1350
       (fun x1351 =>
        impl_natText_J10 N x1348 x1349 x1351
         (fun x1361 x1362 x1363 =>
          bif decide (x1363.size + x1361.size ≤ 9223372036854775807) then
           let x1364 := x1363 ++ x1361
           next x1362 x1364
          else
           none))))
 else
  k0 v1335
noncomputable def impl_natText_L0.b {α : Type} (N n : Nat) (v1334 : List Int) (v1335 : ByteArray) (k0 : ByteArray → Option α) : Option α :=
  Nat.rec (motive := fun _ => List Int → ByteArray → Option α) (fun _ _ => none) (fun _ next => impl_natText_L0r N next k0) n v1334 v1335
theorem impl_natText_L0.ex : ∃ f : ((α : Type) → Nat → Nat → List Int → ByteArray → (ByteArray → Option α) → Option α), f = fun α => @impl_natText_L0.b α := ⟨_, rfl⟩
noncomputable def impl_natText_L0 {α : Type} : Nat → Nat → List Int → ByteArray → (ByteArray → Option α) → Option α := Classical.choose impl_natText_L0.ex α
theorem impl_natText_L0.eq : @impl_natText_L0 = @impl_natText_L0.b := funext fun α => congrFun (Classical.choose_spec impl_natText_L0.ex) α
theorem impl_natText_L0.zero {α : Type} (N : Nat) (v1334 : List Int) (v1335 : ByteArray) (k0 : ByteArray → Option α) : impl_natText_L0 N 0 v1334 v1335 k0 = none := by rw [impl_natText_L0.eq]; rfl
theorem impl_natText_L0.succ {α : Type} (N n : Nat) (v1334 : List Int) (v1335 : ByteArray) (k0 : ByteArray → Option α) : impl_natText_L0 N (n + 1) v1334 v1335 k0 = impl_natText_L0r N (fun y0 y1 => impl_natText_L0 N n y0 y1 k0) k0 v1334 v1335 := by rw [impl_natText_L0.eq]; rfl
/-- impl.natText -/
noncomputable def impl_natText.b {α : Type} (N : Nat) (a1331 : List Int) (k0 : ByteArray → Option α) : Option α :=
 let x1332 := ((a1331.length : Nat) : Int)
 let x1333 := (decide (x1332 = (0 : Int)))
 bif x1333 then
  k0 (⟨#[48]⟩ : ByteArray)
 else
  impl_natText_L0 N N a1331 ByteArray.empty
   (fun x1365 =>
    k0 x1365)
theorem impl_natText.ex : ∃ f : ((α : Type) → Nat → List Int → (ByteArray → Option α) → Option α), f = fun α => @impl_natText.b α := ⟨_, rfl⟩
noncomputable def impl_natText {α : Type} : Nat → List Int → (ByteArray → Option α) → Option α := Classical.choose impl_natText.ex α
theorem impl_natText.eq : @impl_natText = @impl_natText.b := funext fun α => congrFun (Classical.choose_spec impl_natText.ex) α

noncomputable def impl_FracText_J4.b {α : Type} (N : Nat) (v1367 : ByteArray) (v1368 : Bool × (List Int) × (List Int) × Unit) (k0 : ByteArray → (Bool × (List Int) × (List Int) × Unit) → Option α) : Option α :=
 bif v1368.1 then
  bif (decide ((⟨#[45]⟩ : ByteArray).size + v1367.size ≤ 9223372036854775807)) then
   let x1369 := ((⟨#[45]⟩ : ByteArray) ++ v1367)
   k0 x1369 v1368
  else
   none
 else
  k0 v1367 v1368
theorem impl_FracText_J4.ex : ∃ f : ((α : Type) → Nat → ByteArray → (Bool × (List Int) × (List Int) × Unit) → (ByteArray → (Bool × (List Int) × (List Int) × Unit) → Option α) → Option α), f = fun α => @impl_FracText_J4.b α := ⟨_, rfl⟩
noncomputable def impl_FracText_J4 {α : Type} : Nat → ByteArray → (Bool × (List Int) × (List Int) × Unit) → (ByteArray → (Bool × (List Int) × (List Int) × Unit) → Option α) → Option α := Classical.choose impl_FracText_J4.ex α
theorem impl_FracText_J4.eq : @impl_FracText_J4 = @impl_FracText_J4.b := funext fun α => congrFun (Classical.choose_spec impl_FracText_J4.ex) α
noncomputable def impl_FracText_J6.b {α : Type} (N : Nat) (v1372 : ByteArray) (v1373 : Bool × (List Int) × (List Int) × Unit) (k0 : ByteArray → Option α) : Option α :=
 let x1374 := [(1 : Int)]
 impl_natCmp N v1373.2.2.1 x1374
  (fun x1375 =>
   let x1376 := (!(decide (x1375 = (0 : Int))))
   bif x1376 then
    impl_natText N v1373.2.2.1
     (fun x1377 =>
      bif (decide ((⟨#[47]⟩ : ByteArray).size + x1377.size ≤ 9223372036854775807)) then
       let x1378 := ((⟨#[47]⟩ : ByteArray) ++ x1377)
       bif decide (v1372.size + x1378.size ≤ 9223372036854775807) then
        let x1379 := v1372 ++ x1378
        k0 x1379
       else
        none
      else
       none)
   else
    k0 v1372)
theorem impl_FracText_J6.ex : ∃ f : ((α : Type) → Nat → ByteArray → (Bool × (List Int) × (List Int) × Unit) → (ByteArray → Option α) → Option α), f = fun α => @impl_FracText_J6.b α := ⟨_, rfl⟩
noncomputable def impl_FracText_J6 {α : Type} : Nat → ByteArray → (Bool × (List Int) × (List Int) × Unit) → (ByteArray → Option α) → Option α := Classical.choose impl_FracText_J6.ex α
theorem impl_FracText_J6.eq : @impl_FracText_J6 = @impl_FracText_J6.b := funext fun α => congrFun (Classical.choose_spec impl_FracText_J6.ex) α
/-- impl.FracText -/
noncomputable def impl_FracText.b {α : Type} (N : Nat) (a725 : Bool × (List Int) × (List Int) × Unit) (k0 : ByteArray → Option α) : Option α :=
 impl_FracOk N a725
  (fun x1329 =>
   let x1330 := !x1329
   bif x1330 then
    k0 ByteArray.empty
   else
    impl_natText N a725.2.1
     (fun x1366 =>
      impl_FracText_J4 N x1366 a725
       (fun x1370 x1371 =>
        impl_FracText_J6 N x1370 x1371
         (fun x1380 =>
          k0 x1380))))
theorem impl_FracText.ex : ∃ f : ((α : Type) → Nat → (Bool × (List Int) × (List Int) × Unit) → (ByteArray → Option α) → Option α), f = fun α => @impl_FracText.b α := ⟨_, rfl⟩
noncomputable def impl_FracText {α : Type} : Nat → (Bool × (List Int) × (List Int) × Unit) → (ByteArray → Option α) → Option α := Classical.choose impl_FracText.ex α
theorem impl_FracText.eq : @impl_FracText = @impl_FracText.b := funext fun α => congrFun (Classical.choose_spec impl_FracText.ex) α

/-- spec.l6One -/
noncomputable def spec_l6One.b {α : Type} (N : Nat) (a1393 : List Int) (k0 : Bool → Option α) : Option α :=
 let x1394 := ((a1393.length : Nat) : Int)
 let x1395 := (decide (x1394 = (1 : Int)))
 bif x1395 then
  match a1393[0]? with
  | some x1396 =>
   let x1397 := (decide (x1396 = (1 : Int)))
   k0 x1397
  | none => none
 else
  k0 false
theorem spec_l6One.ex : ∃ f : ((α : Type) → Nat → List Int → (Bool → Option α) → Option α), f = fun α => @spec_l6One.b α := ⟨_, rfl⟩
noncomputable def spec_l6One {α : Type} : Nat → List Int → (Bool → Option α) → Option α := Classical.choose spec_l6One.ex α
theorem spec_l6One.eq : @spec_l6One = @spec_l6One.b := funext fun α => congrFun (Classical.choose_spec spec_l6One.ex) α

/-- spec.FracOk -/
noncomputable def spec_FracOk.b {α : Type} (N : Nat) (a1383 : Bool × (List Int) × (List Int) × Unit) (k0 : Bool → Option α) : Option α :=
 spec_NatOk N a1383.2.1
  (fun x1384 =>
   let x1385 := !x1384
   bif x1385 then
    k0 false
   else
    spec_NatOk N a1383.2.2.1
     (fun x1386 =>
      let x1387 := !x1386
      bif x1387 then
       k0 false
      else
       let x1388 := ((a1383.2.2.1.length : Nat) : Int)
       let x1389 := (decide (x1388 = (0 : Int)))
       bif x1389 then
        k0 false
       else
        let x1390 := ((a1383.2.1.length : Nat) : Int)
        let x1391 := (decide (x1390 = (0 : Int)))
        bif x1391 then
         bif a1383.1 then
          k0 false
         else
          spec_l5Gcd N a1383.2.1 a1383.2.2.1
           (fun x1392 =>
            spec_l6One N x1392
             (fun x1398 =>
              k0 x1398))
        else
         spec_l5Gcd N a1383.2.1 a1383.2.2.1
          (fun x1399 =>
           spec_l6One N x1399
            (fun x1400 =>
             k0 x1400))))
theorem spec_FracOk.ex : ∃ f : ((α : Type) → Nat → (Bool × (List Int) × (List Int) × Unit) → (Bool → Option α) → Option α), f = fun α => @spec_FracOk.b α := ⟨_, rfl⟩
noncomputable def spec_FracOk {α : Type} : Nat → (Bool × (List Int) × (List Int) × Unit) → (Bool → Option α) → Option α := Classical.choose spec_FracOk.ex α
theorem spec_FracOk.eq : @spec_FracOk = @spec_FracOk.b := funext fun α => congrFun (Classical.choose_spec spec_FracOk.ex) α

/-- internal/stringslite.HasPrefix -/
noncomputable def internal_stringslite_HasPrefix.b {α : Type} (N : Nat) (a1414 : ByteArray) (a1415 : ByteArray) (k0 : Bool → Option α) : Option α :=
 let x1416 := ((a1414.size : Nat) : Int)
 let x1417 := ((a1415.size : Nat) : Int)
 let x1418 := decide (x1417 ≤ x1416)
 bif x1418 then
  let x1419 := ((a1415.size : Nat) : Int)
  bif (decide ((0 : Int) ≤ x1419)) then
   bif (decide (x1419 ≤ ((a1414.size : Nat) : Int))) then
    let x1420 := a1414.extract 0 x1419.toNat
    let x1421 := eqS x1420 a1415
    k0 x1421
   else
    none
  else
   none
 else
  k0 false
theorem internal_stringslite_HasPrefix.ex : ∃ f : ((α : Type) → Nat → ByteArray → ByteArray → (Bool → Option α) → Option α), f = fun α => @internal_stringslite_HasPrefix.b α := ⟨_, rfl⟩
noncomputable def internal_stringslite_HasPrefix {α : Type} : Nat → ByteArray → ByteArray → (Bool → Option α) → Option α := Classical.choose internal_stringslite_HasPrefix.ex α
theorem internal_stringslite_HasPrefix.eq : @internal_stringslite_HasPrefix = @internal_stringslite_HasPrefix.b := funext fun α => congrFun (Classical.choose_spec internal_stringslite_HasPrefix.ex) α

/-- internal/stringslite.CutPrefix -/
noncomputable def internal_stringslite_CutPrefix.b {α : Type} (N : Nat) (a1412 : ByteArray) (a1413 : ByteArray) (k0 : ByteArray → Bool → Option α) : Option α :=
 internal_stringslite_HasPrefix N a1412 a1413
  (fun x1422 =>
   let x1423 := !x1422
   bif x1423 then
    k0 a1412 false
   else
    let x1424 := ((a1413.size : Nat) : Int)
    bif (decide ((0 : Int) ≤ x1424)) then
     bif (decide (x1424 ≤ ((a1412.size : Nat) : Int))) then
      let x1425 := a1412.extract x1424.toNat a1412.size
      k0 x1425 true
     else
      none
    else
     none)
theorem internal_stringslite_CutPrefix.ex : ∃ f : ((α : Type) → Nat → ByteArray → ByteArray → (ByteArray → Bool → Option α) → Option α), f = fun α => @internal_stringslite_CutPrefix.b α := ⟨_, rfl⟩
noncomputable def internal_stringslite_CutPrefix {α : Type} : Nat → ByteArray → ByteArray → (ByteArray → Bool → Option α) → Option α := Classical.choose internal_stringslite_CutPrefix.ex α
theorem internal_stringslite_CutPrefix.eq : @internal_stringslite_CutPrefix = @internal_stringslite_CutPrefix.b := funext fun α => congrFun (Classical.choose_spec internal_stringslite_CutPrefix.ex) α

/-- strings.CutPrefix -/
noncomputable def strings_CutPrefix.b {α : Type} (N : Nat) (a1410 : ByteArray) (a1411 : ByteArray) (k0 : ByteArray → Bool → Option α) : Option α :=
 internal_stringslite_CutPrefix N a1410 a1411
  (fun x1426 x1427 =>
   k0 x1426 x1427)
theorem strings_CutPrefix.ex : ∃ f : ((α : Type) → Nat → ByteArray → ByteArray → (ByteArray → Bool → Option α) → Option α), f = fun α => @strings_CutPrefix.b α := ⟨_, rfl⟩
noncomputable def strings_CutPrefix {α : Type} : Nat → ByteArray → ByteArray → (ByteArray → Bool → Option α) → Option α := Classical.choose strings_CutPrefix.ex α
theorem strings_CutPrefix.eq : @strings_CutPrefix = @strings_CutPrefix.b := funext fun α => congrFun (Classical.choose_spec strings_CutPrefix.ex) α

-- prim internal_stringslite_Index
/-- internal/stringslite.Cut -/
noncomputable def internal_stringslite_Cut.b {α : Type} (N : Nat) (a1432 : ByteArray) (a1433 : ByteArray) (k0 : ByteArray → ByteArray → Bool → Option α) : Option α :=
 internal_stringslite_Index N a1432 a1433
  (fun x1434 =>
   let x1435 := (decide ((0 : Int) ≤ x1434))
   bif x1435 then
    bif (decide ((0 : Int) ≤ x1434)) then
     bif (decide (x1434 ≤ ((a1432.size : Nat) : Int))) then
      let x1436 := a1432.extract 0 x1434.toNat
      let x1437 := ((a1433.size : Nat) : Int)
      let x1438 := IntKind.i64.wrap (x1434 + x1437)
      bif (decide ((0 : Int) ≤ x1438)) then
       bif (decide (x1438 ≤ ((a1432.size : Nat) : Int))) then
        let x1439 := a1432.extract x1438.toNat a1432.size
        k0 x1436 x1439 true
       else
        none
      else
       none
     else
      none
    else
     none
   else
    k0 a1432 ByteArray.empty false)
theorem internal_stringslite_Cut.ex : ∃ f : ((α : Type) → Nat → ByteArray → ByteArray → (ByteArray → ByteArray → Bool → Option α) → Option α), f = fun α => @internal_stringslite_Cut.b α := ⟨_, rfl⟩
noncomputable def internal_stringslite_Cut {α : Type} : Nat → ByteArray → ByteArray → (ByteArray → ByteArray → Bool → Option α) → Option α := Classical.choose internal_stringslite_Cut.ex α
theorem internal_stringslite_Cut.eq : @internal_stringslite_Cut = @internal_stringslite_Cut.b := funext fun α => congrFun (Classical.choose_spec internal_stringslite_Cut.ex) α

/-- strings.Cut -/
noncomputable def strings_Cut.b {α : Type} (N : Nat) (a1430 : ByteArray) (a1431 : ByteArray) (k0 : ByteArray → ByteArray → Bool → Option α) : Option α :=
 internal_stringslite_Cut N a1430 a1431
  (fun x1440 x1441 x1442 =>
   k0 x1440 x1441 x1442)
theorem strings_Cut.ex : ∃ f : ((α : Type) → Nat → ByteArray → ByteArray → (ByteArray → ByteArray → Bool → Option α) → Option α), f = fun α => @strings_Cut.b α := ⟨_, rfl⟩
noncomputable def strings_Cut {α : Type} : Nat → ByteArray → ByteArray → (ByteArray → ByteArray → Bool → Option α) → Option α := Classical.choose strings_Cut.ex α
theorem strings_Cut.eq : @strings_Cut = @strings_Cut.b := funext fun α => congrFun (Classical.choose_spec strings_Cut.ex) α

noncomputable def impl_isDigits_L0r {α : Type} (N : Nat) (next : ByteArray → Int → Int → Option α) (k0 : Bool → Option α) (k1 : ByteArray → Option α) (v1451 : ByteArray) (v1452 : Int) (v1453 : Int) : Option α :=
 let x1454 := decide (v1453 < v1452)
 bif x1454 then
  bif (decide (v1453 < (0 : Int))) then
   none
  else
   match (v1451[v1453.toNat]? : Option UInt8) with
   | some x1455 =>
    let x1456 := ((x1455.toNat : Nat) : Int)
    let x1457 := (decide (x1456 < (48 : Int)))
    bif x1457 then
     k0 false
    else
     bif (decide (v1453 < (0 : Int))) then
      none
     else
      match (v1451[v1453.toNat]? : Option UInt8) with
      | some x1458 =>
       let x1459 := ((x1458.toNat : Nat) : Int)
       let x1460 := (decide ((57 : Int) < x1459))
       bif x1460 then
        k0 false
       else
        let x1461 := (IntKind.i64.wrap (v1453 + (1 : Int)))
        next v1451 v1452 x1461
      | none => none
   | none => none
 else
  k1 v1451
noncomputable def impl_isDigits_L0.b {α : Type} (N n : Nat) (v1451 : ByteArray) (v1452 : Int) (v1453 : Int) (k0 : Bool → Option α) (k1 : ByteArray → Option α) : Option α :=
  Nat.rec (motive := fun _ => ByteArray → Int → Int → Option α) (fun _ _ _ => none) (fun _ next => impl_isDigits_L0r N next k0 k1) n v1451 v1452 v1453
theorem impl_isDigits_L0.ex : ∃ f : ((α : Type) → Nat → Nat → ByteArray → Int → Int → (Bool → Option α) → (ByteArray → Option α) → Option α), f = fun α => @impl_isDigits_L0.b α := ⟨_, rfl⟩
noncomputable def impl_isDigits_L0 {α : Type} : Nat → Nat → ByteArray → Int → Int → (Bool → Option α) → (ByteArray → Option α) → Option α := Classical.choose impl_isDigits_L0.ex α
theorem impl_isDigits_L0.eq : @impl_isDigits_L0 = @impl_isDigits_L0.b := funext fun α => congrFun (Classical.choose_spec impl_isDigits_L0.ex) α
theorem impl_isDigits_L0.zero {α : Type} (N : Nat) (v1451 : ByteArray) (v1452 : Int) (v1453 : Int) (k0 : Bool → Option α) (k1 : ByteArray → Option α) : impl_isDigits_L0 N 0 v1451 v1452 v1453 k0 k1 = none := by rw [impl_isDigits_L0.eq]; rfl
theorem impl_isDigits_L0.succ {α : Type} (N n : Nat) (v1451 : ByteArray) (v1452 : Int) (v1453 : Int) (k0 : Bool → Option α) (k1 : ByteArray → Option α) : impl_isDigits_L0 N (n + 1) v1451 v1452 v1453 k0 k1 = impl_isDigits_L0r N (fun y0 y1 y2 => impl_isDigits_L0 N n y0 y1 y2 k0 k1) k0 k1 v1451 v1452 v1453 := by rw [impl_isDigits_L0.eq]; rfl
/-- impl.isDigits -/
noncomputable def impl_isDigits.b {α : Type} (N : Nat) (a1449 : ByteArray) (k0 : Bool → Option α) : Option α :=
 let x1450 := ((a1449.size : Nat) : Int)
 impl_isDigits_L0 N N a1449 x1450 (0 : Int)
  (fun x1462 =>
   k0 x1462)
  (fun x1463 =>
   let x1464 := !eqS x1463 ByteArray.empty
   k0 x1464)
theorem impl_isDigits.ex : ∃ f : ((α : Type) → Nat → ByteArray → (Bool → Option α) → Option α), f = fun α => @impl_isDigits.b α := ⟨_, rfl⟩
noncomputable def impl_isDigits {α : Type} : Nat → ByteArray → (Bool → Option α) → Option α := Classical.choose impl_isDigits.ex α
theorem impl_isDigits.eq : @impl_isDigits = @impl_isDigits.b := funext fun α => congrFun (Classical.choose_spec impl_isDigits.ex) α

noncomputable def impl_natMul_L2r {α : Type} (N : Nat) (next : List Int → Int → Int → Int → List Int → Int → Int → List Int → Int → Int → List Int → Option α) (k0 : List Int → Int → Int → List Int → Int → Int → List Int → Option α) (v1620 : List Int) (v1621 : Int) (v1622 : Int) (v1623 : Int) (v1624 : List Int) (v1625 : Int) (v1626 : Int) (v1627 : List Int) (v1628 : Int) (v1629 : Int) (v1630 : List Int) : Option α :=
 let x1631 := decide (v1629 < v1628)
 bif x1631 then
  bif (decide (v1629 < (0 : Int))) then
   none
  else
   match v1627[v1629.toNat]? with
   | some x1632 =>
    let x1633 := IntKind.i64.wrap (v1621 + v1629)
    bif (decide (x1633 < (0 : Int))) then
     none
    else
     bif decide (x1633.toNat < v1630.length) then
      match v1630[x1633.toNat]? with
      | some x1634 =>
       let x1635 := IntKind.i64.wrap (v1622 * x1632)
       let x1636 := IntKind.i64.wrap (x1634 + x1635)
       let x1637 := IntKind.i64.wrap (x1636 + v1623)
       let x1638 := IntKind.i64.wrap (v1621 + v1629)
       let x1639 := (bitI .and .i64 x1637 (65535 : Int))
       bif (decide (x1638 < (0 : Int))) then
        none
       else
        bif decide (x1638.toNat < v1630.length) then
         match v1630[x1638.toNat]? with
         | some x1640 =>
          let x1641 := v1630.set x1638.toNat x1639
          let x1642 := (shrI .i64 x1637 (16 : Int))
          let x1643 := (IntKind.i64.wrap (v1629 + (1 : Int)))
          next v1620 v1621 v1622 x1642 v1624 v1625 v1626 v1627 v1628 x1643 x1641
         | none => none
        else
         none
      | none => none
     else
      none
   | none => none
 else
  k0 v1620 v1621 v1623 v1624 v1625 v1626 v1630
noncomputable def impl_natMul_L2.b {α : Type} (N n : Nat) (v1620 : List Int) (v1621 : Int) (v1622 : Int) (v1623 : Int) (v1624 : List Int) (v1625 : Int) (v1626 : Int) (v1627 : List Int) (v1628 : Int) (v1629 : Int) (v1630 : List Int) (k0 : List Int → Int → Int → List Int → Int → Int → List Int → Option α) : Option α :=
  Nat.rec (motive := fun _ => List Int → Int → Int → Int → List Int → Int → Int → List Int → Int → Int → List Int → Option α) (fun _ _ _ _ _ _ _ _ _ _ _ => none) (fun _ next => impl_natMul_L2r N next k0) n v1620 v1621 v1622 v1623 v1624 v1625 v1626 v1627 v1628 v1629 v1630
theorem impl_natMul_L2.ex : ∃ f : ((α : Type) → Nat → Nat → List Int → Int → Int → Int → List Int → Int → Int → List Int → Int → Int → List Int → (List Int → Int → Int → List Int → Int → Int → List Int → Option α) → Option α), f = fun α => @impl_natMul_L2.b α := ⟨_, rfl⟩
noncomputable def impl_natMul_L2 {α : Type} : Nat → Nat → List Int → Int → Int → Int → List Int → Int → Int → List Int → Int → Int → List Int → (List Int → Int → Int → List Int → Int → Int → List Int → Option α) → Option α := Classical.choose impl_natMul_L2.ex α
theorem impl_natMul_L2.eq : @impl_natMul_L2 = @impl_natMul_L2.b := funext fun α => congrFun (Classical.choose_spec impl_natMul_L2.ex) α
theorem impl_natMul_L2.zero {α : Type} (N : Nat) (v1620 : List Int) (v1621 : Int) (v1622 : Int) (v1623 : Int) (v1624 : List Int) (v1625 : Int) (v1626 : Int) (v1627 : List Int) (v1628 : Int) (v1629 : Int) (v1630 : List Int) (k0 : List Int → Int → Int → List Int → Int → Int → List Int → Option α) : impl_natMul_L2 N 0 v1620 v1621 v1622 v1623 v1624 v1625 v1626 v1627 v1628 v1629 v1630 k0 = none := by rw [impl_natMul_L2.eq]; rfl
theorem impl_natMul_L2.succ {α : Type} (N n : Nat) (v1620 : List Int) (v1621 : Int) (v1622 : Int) (v1623 : Int) (v1624 : List Int) (v1625 : Int) (v1626 : Int) (v1627 : List Int) (v1628 : Int) (v1629 : Int) (v1630 : List Int) (k0 : List Int → Int → Int → List Int → Int → Int → List Int → Option α) : impl_natMul_L2 N (n + 1) v1620 v1621 v1622 v1623 v1624 v1625 v1626 v1627 v1628 v1629 v1630 k0 = impl_natMul_L2r N (fun y0 y1 y2 y3 y4 y5 y6 y7 y8 y9 y10 => impl_natMul_L2 N n y0 y1 y2 y3 y4 y5 y6 y7 y8 y9 y10 k0) k0 v1620 v1621 v1622 v1623 v1624 v1625 v1626 v1627 v1628 v1629 v1630 := by rw [impl_natMul_L2.eq]; rfl
noncomputable def impl_natMul_L0r {α : Type} (N : Nat) (next : List Int → List Int → Int → Int → List Int → Option α) (k0 : List Int → Option α) (v1612 : List Int) (v1613 : List Int) (v1614 : Int) (v1615 : Int) (v1616 : List Int) : Option α :=
 let x1617 := decide (v1615 < v1614)
 bif x1617 then
  bif (decide (v1615 < (0 : Int))) then
   none
  else
   match v1613[v1615.toNat]? with
   | some x1618 =>
    let x1619 := ((v1612.length : Nat) : Int)
    impl_natMul_L2 N N v1612 v1615 x1618 (0 : Int) v1613 v1614 v1615 v1612 x1619 (0 : Int) v1616
     (fun x1644 x1645 x1646 x1647 x1648 x1649 x1650 =>
      let x1651 := ((x1644.length : Nat) : Int)
      let x1652 := IntKind.i64.wrap (x1645 + x1651)
      bif (decide (x1652 < (0 : Int))) then
       none
      else
       bif decide (x1652.toNat < x1650.length) then
        match x1650[x1652.toNat]? with
        | some x1653 =>
         let x1654 := IntKind.i64.wrap (x1653 + x1646)
         bif (decide (x1652 < (0 : Int))) then
          none
         else
          bif decide (x1652.toNat < x1650.length) then
           match x1650[x1652.toNat]? with
           | some x1655 =>
            let x1656 := x1650.set x1652.toNat x1654
            let x1657 := (IntKind.i64.wrap (x1649 + (1 : Int)))
            next x1644 x1647 x1648 x1657 x1656
           | none => none
          else
           none
        | none => none
       else
        none)
   | none => none
 else
  k0 v1616
noncomputable def impl_natMul_L0.b {α : Type} (N n : Nat) (v1612 : List Int) (v1613 : List Int) (v1614 : Int) (v1615 : Int) (v1616 : List Int) (k0 : List Int → Option α) : Option α :=
  Nat.rec (motive := fun _ => List Int → List Int → Int → Int → List Int → Option α) (fun _ _ _ _ _ => none) (fun _ next => impl_natMul_L0r N next k0) n v1612 v1613 v1614 v1615 v1616
theorem impl_natMul_L0.ex : ∃ f : ((α : Type) → Nat → Nat → List Int → List Int → Int → Int → List Int → (List Int → Option α) → Option α), f = fun α => @impl_natMul_L0.b α := ⟨_, rfl⟩
noncomputable def impl_natMul_L0 {α : Type} : Nat → Nat → List Int → List Int → Int → Int → List Int → (List Int → Option α) → Option α := Classical.choose impl_natMul_L0.ex α
theorem impl_natMul_L0.eq : @impl_natMul_L0 = @impl_natMul_L0.b := funext fun α => congrFun (Classical.choose_spec impl_natMul_L0.ex) α
theorem impl_natMul_L0.zero {α : Type} (N : Nat) (v1612 : List Int) (v1613 : List Int) (v1614 : Int) (v1615 : Int) (v1616 : List Int) (k0 : List Int → Option α) : impl_natMul_L0 N 0 v1612 v1613 v1614 v1615 v1616 k0 = none := by rw [impl_natMul_L0.eq]; rfl
theorem impl_natMul_L0.succ {α : Type} (N n : Nat) (v1612 : List Int) (v1613 : List Int) (v1614 : Int) (v1615 : Int) (v1616 : List Int) (k0 : List Int → Option α) : impl_natMul_L0 N (n + 1) v1612 v1613 v1614 v1615 v1616 k0 = impl_natMul_L0r N (fun y0 y1 y2 y3 y4 => impl_natMul_L0 N n y0 y1 y2 y3 y4 k0) k0 v1612 v1613 v1614 v1615 v1616 := by rw [impl_natMul_L0.eq]; rfl
/-- impl.natMul -/
noncomputable def impl_natMul.b {α : Type} (N : Nat) (a1604 : List Int) (a1605 : List Int) (k0 : List Int → Option α) : Option α :=
 let x1606 := ((a1604.length : Nat) : Int)
 let x1607 := ((a1605.length : Nat) : Int)
 let x1608 := IntKind.i64.wrap (x1606 + x1607)
 let x1609 := (IntKind.i64.wrap (x1608 + (1 : Int)))
 bif (decide ((0 : Int) ≤ x1609)) then
  bif decide (x1609 ≤ x1609) then
   bif (decide (x1609 ≤ ((8796093022208 : Nat) : Int))) then
    let x1610 := (List.replicate x1609.toNat (0 : Int))
    let x1611 := ((a1604.length : Nat) : Int)
    impl_natMul_L0 N N a1605 a1604 x1611 (0 : Int) x1610
     (fun x1658 =>
      impl_trim N x1658
       (fun x1659 =>
        k0 x1659))
   else
    none
  else
   none
 else
  none
theorem impl_natMul.ex : ∃ f : ((α : Type) → Nat → List Int → List Int → (List Int → Option α) → Option α), f = fun α => @impl_natMul.b α := ⟨_, rfl⟩
noncomputable def impl_natMul {α : Type} : Nat → List Int → List Int → (List Int → Option α) → Option α := Classical.choose impl_natMul.ex α
theorem impl_natMul.eq : @impl_natMul = @impl_natMul.b := funext fun α => congrFun (Classical.choose_spec impl_natMul.ex) α

noncomputable def impl_natOf_L0r {α : Type} (N : Nat) (next : Int → List Int → Option α) (k0 : List Int → Option α) (v1666 : Int) (v1667 : List Int) : Option α :=
 let x1668 := (decide ((0 : Int) < v1666))
 bif x1668 then
  let x1669 := (bitI .and .u64 v1666 (65535 : Int))
  let x1670 := IntKind.i64.wrap x1669
  let x1671 := [x1670]
  bif decide (v1667.length + x1671.length ≤ 8796093022208) then
   let x1672 := v1667 ++ x1671
   let x1673 := (shrI .u64 v1666 (16 : Int))
   next x1673 x1672
  else
   none
 else
  k0 v1667
noncomputable def impl_natOf_L0.b {α : Type} (N n : Nat) (v1666 : Int) (v1667 : List Int) (k0 : List Int → Option α) : Option α :=
  Nat.rec (motive := fun _ => Int → List Int → Option α) (fun _ _ => none) (fun _ next => impl_natOf_L0r N next k0) n v1666 v1667
theorem impl_natOf_L0.ex : ∃ f : ((α : Type) → Nat → Nat → Int → List Int → (List Int → Option α) → Option α), f = fun α => @impl_natOf_L0.b α := ⟨_, rfl⟩
noncomputable def impl_natOf_L0 {α : Type} : Nat → Nat → Int → List Int → (List Int → Option α) → Option α := Classical.choose impl_natOf_L0.ex α
theorem impl_natOf_L0.eq : @impl_natOf_L0 = @impl_natOf_L0.b := funext fun α => congrFun (Classical.choose_spec impl_natOf_L0.ex) α
theorem impl_natOf_L0.zero {α : Type} (N : Nat) (v1666 : Int) (v1667 : List Int) (k0 : List Int → Option α) : impl_natOf_L0 N 0 v1666 v1667 k0 = none := by rw [impl_natOf_L0.eq]; rfl
theorem impl_natOf_L0.succ {α : Type} (N n : Nat) (v1666 : Int) (v1667 : List Int) (k0 : List Int → Option α) : impl_natOf_L0 N (n + 1) v1666 v1667 k0 = impl_natOf_L0r N (fun y0 y1 => impl_natOf_L0 N n y0 y1 k0) k0 v1666 v1667 := by rw [impl_natOf_L0.eq]; rfl
/-- impl.natOf -/
noncomputable def impl_natOf.b {α : Type} (N : Nat) (a1665 : Int) (k0 : List Int → Option α) : Option α :=
 impl_natOf_L0 N N a1665 []
  (fun x1674 =>
   k0 x1674)
theorem impl_natOf.ex : ∃ f : ((α : Type) → Nat → Int → (List Int → Option α) → Option α), f = fun α => @impl_natOf.b α := ⟨_, rfl⟩
noncomputable def impl_natOf {α : Type} : Nat → Int → (List Int → Option α) → Option α := Classical.choose impl_natOf.ex α
theorem impl_natOf.eq : @impl_natOf = @impl_natOf.b := funext fun α => congrFun (Classical.choose_spec impl_natOf.ex) α

noncomputable def impl_natAdd_L0r {α : Type} (N : Nat) (next : List Int → Int → Int → List Int → Option α) (k0 : List Int → Option α) (v1686 : List Int) (v1687 : Int) (v1688 : Int) (v1689 : List Int) : Option α :=
 let x1690 := decide (v1688 < v1687)
 bif x1690 then
  bif (decide (v1688 < (0 : Int))) then
   none
  else
   match v1686[v1688.toNat]? with
   | some x1691 =>
    bif (decide (v1688 < (0 : Int))) then
     none
    else
     bif decide (v1688.toNat < v1689.length) then
      match v1689[v1688.toNat]? with
      | some x1692 =>
       let x1693 := IntKind.i64.wrap (x1692 + x1691)
       bif (decide (v1688 < (0 : Int))) then
        none
       else
        bif decide (v1688.toNat < v1689.length) then
         match v1689[v1688.toNat]? with
         | some x1694 =>
          let x1695 := v1689.set v1688.toNat x1693
          let x1696 := (IntKind.i64.wrap (v1688 + (1 : Int)))
          next v1686 v1687 x1696 x1695
         | none => none
        else
         none
      | none => none
     else
      none
   | none => none
 else
  k0 v1689
noncomputable def impl_natAdd_L0.b {α : Type} (N n : Nat) (v1686 : List Int) (v1687 : Int) (v1688 : Int) (v1689 : List Int) (k0 : List Int → Option α) : Option α :=
  Nat.rec (motive := fun _ => List Int → Int → Int → List Int → Option α) (fun _ _ _ _ => none) (fun _ next => impl_natAdd_L0r N next k0) n v1686 v1687 v1688 v1689
theorem impl_natAdd_L0.ex : ∃ f : ((α : Type) → Nat → Nat → List Int → Int → Int → List Int → (List Int → Option α) → Option α), f = fun α => @impl_natAdd_L0.b α := ⟨_, rfl⟩
noncomputable def impl_natAdd_L0 {α : Type} : Nat → Nat → List Int → Int → Int → List Int → (List Int → Option α) → Option α := Classical.choose impl_natAdd_L0.ex α
theorem impl_natAdd_L0.eq : @impl_natAdd_L0 = @impl_natAdd_L0.b := funext fun α => congrFun (Classical.choose_spec impl_natAdd_L0.ex) α
theorem impl_natAdd_L0.zero {α : Type} (N : Nat) (v1686 : List Int) (v1687 : Int) (v1688 : Int) (v1689 : List Int) (k0 : List Int → Option α) : impl_natAdd_L0 N 0 v1686 v1687 v1688 v1689 k0 = none := by rw [impl_natAdd_L0.eq]; rfl
theorem impl_natAdd_L0.succ {α : Type} (N n : Nat) (v1686 : List Int) (v1687 : Int) (v1688 : Int) (v1689 : List Int) (k0 : List Int → Option α) : impl_natAdd_L0 N (n + 1) v1686 v1687 v1688 v1689 k0 = impl_natAdd_L0r N (fun y0 y1 y2 y3 => impl_natAdd_L0 N n y0 y1 y2 y3 k0) k0 v1686 v1687 v1688 v1689 := by rw [impl_natAdd_L0.eq]; rfl
noncomputable def impl_natAdd_L2r {α : Type} (N : Nat) (next : Int → Int → List Int → Option α) (k0 : List Int → Option α) (v1700 : Int) (v1701 : Int) (v1702 : List Int) : Option α :=
 let x1703 := decide (v1701 < v1700)
 bif x1703 then
  let x1704 := (IntKind.i64.wrap (v1701 + (1 : Int)))
  bif (decide (x1704 < (0 : Int))) then
   none
  else
   bif decide (x1704.toNat < v1702.length) then
    match v1702[x1704.toNat]? with
    | some x1705 =>
     bif (decide (v1701 < (0 : Int))) then
      none
     else
      bif decide (v1701.toNat < v1702.length) then
       match v1702[v1701.toNat]? with
       | some x1706 =>
        let x1707 := (shrI .i64 x1706 (16 : Int))
        let x1708 := IntKind.i64.wrap (x1705 + x1707)
        bif (decide (x1704 < (0 : Int))) then
         none
        else
         bif decide (x1704.toNat < v1702.length) then
          match v1702[x1704.toNat]? with
          | some x1709 =>
           let x1710 := v1702.set x1704.toNat x1708
           bif (decide (v1701 < (0 : Int))) then
            none
           else
            bif decide (v1701.toNat < x1710.length) then
             match x1710[v1701.toNat]? with
             | some x1711 =>
              let x1712 := (bitI .and .i64 x1711 (65535 : Int))
              bif (decide (v1701 < (0 : Int))) then
               none
              else
               bif decide (v1701.toNat < x1710.length) then
                match x1710[v1701.toNat]? with
                | some x1713 =>
                 let x1714 := x1710.set v1701.toNat x1712
                 let x1715 := (IntKind.i64.wrap (v1701 + (1 : Int)))
                 next v1700 x1715 x1714
                | none => none
               else
                none
             | none => none
            else
             none
          | none => none
         else
          none
       | none => none
      else
       none
    | none => none
   else
    none
 else
  k0 v1702
noncomputable def impl_natAdd_L2.b {α : Type} (N n : Nat) (v1700 : Int) (v1701 : Int) (v1702 : List Int) (k0 : List Int → Option α) : Option α :=
  Nat.rec (motive := fun _ => Int → Int → List Int → Option α) (fun _ _ _ => none) (fun _ next => impl_natAdd_L2r N next k0) n v1700 v1701 v1702
theorem impl_natAdd_L2.ex : ∃ f : ((α : Type) → Nat → Nat → Int → Int → List Int → (List Int → Option α) → Option α), f = fun α => @impl_natAdd_L2.b α := ⟨_, rfl⟩
noncomputable def impl_natAdd_L2 {α : Type} : Nat → Nat → Int → Int → List Int → (List Int → Option α) → Option α := Classical.choose impl_natAdd_L2.ex α
theorem impl_natAdd_L2.eq : @impl_natAdd_L2 = @impl_natAdd_L2.b := funext fun α => congrFun (Classical.choose_spec impl_natAdd_L2.ex) α
theorem impl_natAdd_L2.zero {α : Type} (N : Nat) (v1700 : Int) (v1701 : Int) (v1702 : List Int) (k0 : List Int → Option α) : impl_natAdd_L2 N 0 v1700 v1701 v1702 k0 = none := by rw [impl_natAdd_L2.eq]; rfl
theorem impl_natAdd_L2.succ {α : Type} (N n : Nat) (v1700 : Int) (v1701 : Int) (v1702 : List Int) (k0 : List Int → Option α) : impl_natAdd_L2 N (n + 1) v1700 v1701 v1702 k0 = impl_natAdd_L2r N (fun y0 y1 y2 => impl_natAdd_L2 N n y0 y1 y2 k0) k0 v1700 v1701 v1702 := by rw [impl_natAdd_L2.eq]; rfl
/-- impl.natAdd -/
noncomputable def impl_natAdd.b {α : Type} (N : Nat) (a1676 : List Int) (a1677 : List Int) (k0 : List Int → Option α) : Option α :=
 let x1678 := ((a1676.length : Nat) : Int)
 let x1679 := ((a1677.length : Nat) : Int)
 let x1680 := maxI x1678 x1679
 let x1681 := (IntKind.i64.wrap (x1680 + (1 : Int)))
 bif (decide ((0 : Int) ≤ x1681)) then
  bif decide (x1681 ≤ x1681) then
   bif (decide (x1681 ≤ ((8796093022208 : Nat) : Int))) then
    let x1682 := (List.replicate x1681.toNat (0 : Int))
    let x1683 := List.take (min a1676.length x1682.length) a1676 ++ List.drop (min a1676.length x1682.length) x1682
    let x1685 := ((a1677.length : Nat) : Int)
    impl_natAdd_L0 N N a1677 x1685 (0 : Int) x1683
     (fun x1697 =>
      let x1698 := ((x1697.length : Nat) : Int)
      let x1699 := (IntKind.i64.wrap (x1698 - (1 : Int)))
      impl_natAdd_L2 N N x1699 (0 : Int) x1697
       (fun x1716 =>
        impl_trim N x1716
         (fun x1717 =>
          k0 x1717)))
   else
    none
  else
   none
 else
  none
theorem impl_natAdd.ex : ∃ f : ((α : Type) → Nat → List Int → List Int → (List Int → Option α) → Option α), f = fun α => @impl_natAdd.b α := ⟨_, rfl⟩
noncomputable def impl_natAdd {α : Type} : Nat → List Int → List Int → (List Int → Option α) → Option α := Classical.choose impl_natAdd.ex α
theorem impl_natAdd.eq : @impl_natAdd = @impl_natAdd.b := funext fun α => congrFun (Classical.choose_spec impl_natAdd.ex) α

noncomputable def impl_natRead_L0r {α : Type} (N : Nat) (next : ByteArray → List Int → Int → Int → Option α) (k0 : List Int → Option α) (v1598 : ByteArray) (v1599 : List Int) (v1600 : Int) (v1601 : Int) : Option α :=
 let x1602 := decide (v1601 < v1600)
 bif x1602 then
  let x1603 := [(10 : Int)]
  impl_natMul N v1599 x1603
   (fun x1660 =>
    bif (decide (v1601 < (0 : Int))) then
     none
    else
     match (v1598[v1601.toNat]? : Option UInt8) with
     | some x1661 =>
      let x1662 := ((x1661.toNat : Nat) : Int)
      let x1663 := (IntKind.u8.wrap (x1662 - (48 : Int)))
      let x1664 := IntKind.u64.wrap x1663
      impl_natOf N x1664
       (fun x1675 =>
        impl_natAdd N x1660 x1675
         (fun x1718 =>
          let x1719 := (IntKind.i64.wrap (v1601 + (1 : Int)))
          next v1598 x1718 v1600 x1719))
     | none => none)
 else
  k0 v1599
noncomputable def impl_natRead_L0.b {α : Type} (N n : Nat) (v1598 : ByteArray) (v1599 : List Int) (v1600 : Int) (v1601 : Int) (k0 : List Int → Option α) : Option α :=
  Nat.rec (motive := fun _ => ByteArray → List Int → Int → Int → Option α) (fun _ _ _ _ => none) (fun _ next => impl_natRead_L0r N next k0) n v1598 v1599 v1600 v1601
theorem impl_natRead_L0.ex : ∃ f : ((α : Type) → Nat → Nat → ByteArray → List Int → Int → Int → (List Int → Option α) → Option α), f = fun α => @impl_natRead_L0.b α := ⟨_, rfl⟩
noncomputable def impl_natRead_L0 {α : Type} : Nat → Nat → ByteArray → List Int → Int → Int → (List Int → Option α) → Option α := Classical.choose impl_natRead_L0.ex α
theorem impl_natRead_L0.eq : @impl_natRead_L0 = @impl_natRead_L0.b := funext fun α => congrFun (Classical.choose_spec impl_natRead_L0.ex) α
theorem impl_natRead_L0.zero {α : Type} (N : Nat) (v1598 : ByteArray) (v1599 : List Int) (v1600 : Int) (v1601 : Int) (k0 : List Int → Option α) : impl_natRead_L0 N 0 v1598 v1599 v1600 v1601 k0 = none := by rw [impl_natRead_L0.eq]; rfl
theorem impl_natRead_L0.succ {α : Type} (N n : Nat) (v1598 : ByteArray) (v1599 : List Int) (v1600 : Int) (v1601 : Int) (k0 : List Int → Option α) : impl_natRead_L0 N (n + 1) v1598 v1599 v1600 v1601 k0 = impl_natRead_L0r N (fun y0 y1 y2 y3 => impl_natRead_L0 N n y0 y1 y2 y3 k0) k0 v1598 v1599 v1600 v1601 := by rw [impl_natRead_L0.eq]; rfl
/-- impl.natRead -/
noncomputable def impl_natRead.b {α : Type} (N : Nat) (a1596 : ByteArray) (k0 : List Int → Option α) : Option α :=
 let x1597 := ((a1596.size : Nat) : Int)
 impl_natRead_L0 N N a1596 [] x1597 (0 : Int)
  (fun x1720 =>
   k0 x1720)
theorem impl_natRead.ex : ∃ f : ((α : Type) → Nat → ByteArray → (List Int → Option α) → Option α), f = fun α => @impl_natRead.b α := ⟨_, rfl⟩
noncomputable def impl_natRead {α : Type} : Nat → ByteArray → (List Int → Option α) → Option α := Classical.choose impl_natRead.ex α
theorem impl_natRead.eq : @impl_natRead = @impl_natRead.b := funext fun α => congrFun (Classical.choose_spec impl_natRead.ex) α

/-- slices.Clip[[]int,int] -/
noncomputable def slices_Clip_int_int.b {α : Type} (N : Nat) (a1730 : List Int) (k0 : List Int → Option α) : Option α :=
 let x1731 := ((a1730.length : Nat) : Int)
 let x1732 := ((a1730.length : Nat) : Int)
 bif (decide ((0 : Int) ≤ x1732)) then
  bif (decide (x1732 ≤ ((a1730.length : Nat) : Int))) then
   bif (decide ((0 : Int) ≤ x1731)) then
    bif (decide (x1731 ≤ ((x1732.toNat : Nat) : Int))) then
     let x1733 := a1730.take x1731.toNat
     k0 x1733
    else
     none
   else
    none
  else
   none
 else
  none
theorem slices_Clip_int_int.ex : ∃ f : ((α : Type) → Nat → List Int → (List Int → Option α) → Option α), f = fun α => @slices_Clip_int_int.b α := ⟨_, rfl⟩
noncomputable def slices_Clip_int_int {α : Type} : Nat → List Int → (List Int → Option α) → Option α := Classical.choose slices_Clip_int_int.ex α
theorem slices_Clip_int_int.eq : @slices_Clip_int_int = @slices_Clip_int_int.b := funext fun α => congrFun (Classical.choose_spec slices_Clip_int_int.ex) α

/-- impl.clone[int] -/
noncomputable def impl_clone_int.b {α : Type} (N : Nat) (a1728 : List Int) (k0 : List Int → Option α) : Option α :=
 slices_Clone_int_int N a1728
  (fun x1729 =>
   slices_Clip_int_int N x1729
    (fun x1734 =>
     k0 x1734))
theorem impl_clone_int.ex : ∃ f : ((α : Type) → Nat → List Int → (List Int → Option α) → Option α), f = fun α => @impl_clone_int.b α := ⟨_, rfl⟩
noncomputable def impl_clone_int {α : Type} : Nat → List Int → (List Int → Option α) → Option α := Classical.choose impl_clone_int.ex α
theorem impl_clone_int.eq : @impl_clone_int = @impl_clone_int.b := funext fun α => congrFun (Classical.choose_spec impl_clone_int.ex) α

/-- impl.told -/
noncomputable def impl_told.b {α : Type} (N : Nat) (a1722 : List Int) (a1723 : Bool) (k0 : Bool → List Int → Option α) : Option α :=
 impl_trim N a1722
  (fun x1724 =>
   let x1725 := !a1723
   bif x1725 then
    k0 false []
   else
    let x1726 := ((x1724.length : Nat) : Int)
    let x1727 := (decide ((256 : Int) < x1726))
    bif x1727 then
     k0 false []
    else
     impl_clone_int N x1724
      (fun x1735 =>
       k0 true x1735))
theorem impl_told.ex : ∃ f : ((α : Type) → Nat → List Int → Bool → (Bool → List Int → Option α) → Option α), f = fun α => @impl_told.b α := ⟨_, rfl⟩
noncomputable def impl_told {α : Type} : Nat → List Int → Bool → (Bool → List Int → Option α) → Option α := Classical.choose impl_told.ex α
theorem impl_told.eq : @impl_told = @impl_told.b := funext fun α => congrFun (Classical.choose_spec impl_told.ex) α

/-- impl.NatRead -/
noncomputable def impl_NatRead.b {α : Type} (N : Nat) (a1446 : ByteArray) (k0 : Bool → List Int → Option α) : Option α :=
 let x1447 := ((a1446.size : Nat) : Int)
 let x1448 := (decide ((1300 : Int) < x1447))
 bif x1448 then
  k0 false []
 else
  impl_isDigits N a1446
   (fun x1465 =>
    let x1466 := !x1465
    bif x1466 then
     k0 false []
    else
     match (a1446[0]? : Option UInt8) with
     | some x1467 =>
      let x1468 := ((x1467.toNat : Nat) : Int)
      let x1469 := (decide (x1468 = (48 : Int)))
      bif x1469 then
       let x1470 := ((a1446.size : Nat) : Int)
       let x1471 := (decide ((1 : Int) < x1470))
       bif x1471 then
        k0 false []
       else
        impl_natRead N a1446
         (fun x1721 =>
          impl_told N x1721 true
           (fun x1736 x1737 =>
            k0 x1736 x1737))
      else
       impl_natRead N a1446
        (fun x1738 =>
         impl_told N x1738 true
          (fun x1739 x1740 =>
           k0 x1739 x1740))
     | none => none)
theorem impl_NatRead.ex : ∃ f : ((α : Type) → Nat → ByteArray → (Bool → List Int → Option α) → Option α), f = fun α => @impl_NatRead.b α := ⟨_, rfl⟩
noncomputable def impl_NatRead {α : Type} : Nat → ByteArray → (Bool → List Int → Option α) → Option α := Classical.choose impl_NatRead.ex α
theorem impl_NatRead.eq : @impl_NatRead = @impl_NatRead.b := funext fun α => congrFun (Classical.choose_spec impl_NatRead.ex) α

noncomputable def impl_FracRead_J5.b {α : Type} (N : Nat) (v1744 : ByteArray) (v1745 : Bool) (v1746 : ByteArray) (v1747 : Bool) (v1748 : Bool) (v1749 : Bool) (v1750 : Bool) (v1751 : List Int) (v1752 : List Int) (v1753 : List Int) (v1754 : List Int) (k0 : ByteArray → Bool → Bool → Bool → Bool → List Int → List Int → List Int → List Int → Option α) : Option α :=
 bif v1747 then
  impl_NatRead N v1746
   (fun x1755 x1756 =>
    k0 v1744 v1745 v1748 x1755 v1750 v1751 x1756 v1753 v1754)
 else
  k0 v1744 v1745 v1748 v1749 v1750 v1751 v1752 v1753 v1754
theorem impl_FracRead_J5.ex : ∃ f : ((α : Type) → Nat → ByteArray → Bool → ByteArray → Bool → Bool → Bool → Bool → List Int → List Int → List Int → List Int → (ByteArray → Bool → Bool → Bool → Bool → List Int → List Int → List Int → List Int → Option α) → Option α), f = fun α => @impl_FracRead_J5.b α := ⟨_, rfl⟩
noncomputable def impl_FracRead_J5 {α : Type} : Nat → ByteArray → Bool → ByteArray → Bool → Bool → Bool → Bool → List Int → List Int → List Int → List Int → (ByteArray → Bool → Bool → Bool → Bool → List Int → List Int → List Int → List Int → Option α) → Option α := Classical.choose impl_FracRead_J5.ex α
theorem impl_FracRead_J5.eq : @impl_FracRead_J5 = @impl_FracRead_J5.b := funext fun α => congrFun (Classical.choose_spec impl_FracRead_J5.ex) α
/-- impl.FracRead -/
noncomputable def impl_FracRead.b {α : Type} (N : Nat) (a1409 : ByteArray) (k0 : Bool → Bool → List Int → List Int → Option α) : Option α :=
 strings_CutPrefix N a1409 (⟨#[45]⟩ : ByteArray)
  (fun x1428 x1429 =>
   strings_Cut N x1428 (⟨#[47]⟩ : ByteArray)
    (fun x1443 x1444 x1445 =>
     impl_NatRead N x1443
      (fun x1741 x1742 =>
       let x1743 := [(1 : Int)]
       impl_FracRead_J5 N a1409 x1429 x1444 x1445 x1741 true false x1742 x1743 [] []
        (fun x1757 x1758 x1759 x1760 _ x1762 x1763 _ _ =>
         let x1766 := !x1759
         bif x1766 then
          k0 false false [] []
         else
          let x1767 := !x1760
          bif x1767 then
           k0 false false [] []
          else
           impl_FracOk N (x1758, (x1762, (x1763, ())))
            (fun x1768 =>
             let x1769 := !x1768
             bif x1769 then
              k0 false false [] []
             else
              impl_FracText N (x1758, (x1762, (x1763, ())))
               (fun x1770 =>
                let x1771 := !eqS x1770 x1757
                bif x1771 then
                 k0 false false [] []
                else
                 k0 x1758 true x1762 x1763))))))
theorem impl_FracRead.ex : ∃ f : ((α : Type) → Nat → ByteArray → (Bool → Bool → List Int → List Int → Option α) → Option α), f = fun α => @impl_FracRead.b α := ⟨_, rfl⟩
noncomputable def impl_FracRead {α : Type} : Nat → ByteArray → (Bool → Bool → List Int → List Int → Option α) → Option α := Classical.choose impl_FracRead.ex α
theorem impl_FracRead.eq : @impl_FracRead = @impl_FracRead.b := funext fun α => congrFun (Classical.choose_spec impl_FracRead.ex) α

noncomputable def laws_pwSame_L0r {α : Type} (N : Nat) (next : List Int → List Int → Int → Option α) (k0 : Bool → Option α) (k1 : Option α) (v1785 : List Int) (v1786 : List Int) (v1787 : Int) : Option α :=
 let x1788 := ((v1785.length : Nat) : Int)
 let x1789 := decide (v1787 < x1788)
 bif x1789 then
  bif (decide (v1787 < (0 : Int))) then
   none
  else
   match v1785[v1787.toNat]? with
   | some x1790 =>
    bif (decide (v1787 < (0 : Int))) then
     none
    else
     match v1786[v1787.toNat]? with
     | some x1791 =>
      let x1792 := !(decide (x1790 = x1791))
      bif x1792 then
       k0 false
      else
       let x1793 := (IntKind.i64.wrap (v1787 + (1 : Int)))
       next v1785 v1786 x1793
     | none => none
   | none => none
 else
  k1
noncomputable def laws_pwSame_L0.b {α : Type} (N n : Nat) (v1785 : List Int) (v1786 : List Int) (v1787 : Int) (k0 : Bool → Option α) (k1 : Option α) : Option α :=
  Nat.rec (motive := fun _ => List Int → List Int → Int → Option α) (fun _ _ _ => none) (fun _ next => laws_pwSame_L0r N next k0 k1) n v1785 v1786 v1787
theorem laws_pwSame_L0.ex : ∃ f : ((α : Type) → Nat → Nat → List Int → List Int → Int → (Bool → Option α) → (Option α) → Option α), f = fun α => @laws_pwSame_L0.b α := ⟨_, rfl⟩
noncomputable def laws_pwSame_L0 {α : Type} : Nat → Nat → List Int → List Int → Int → (Bool → Option α) → (Option α) → Option α := Classical.choose laws_pwSame_L0.ex α
theorem laws_pwSame_L0.eq : @laws_pwSame_L0 = @laws_pwSame_L0.b := funext fun α => congrFun (Classical.choose_spec laws_pwSame_L0.ex) α
theorem laws_pwSame_L0.zero {α : Type} (N : Nat) (v1785 : List Int) (v1786 : List Int) (v1787 : Int) (k0 : Bool → Option α) (k1 : Option α) : laws_pwSame_L0 N 0 v1785 v1786 v1787 k0 k1 = none := by rw [laws_pwSame_L0.eq]; rfl
theorem laws_pwSame_L0.succ {α : Type} (N n : Nat) (v1785 : List Int) (v1786 : List Int) (v1787 : Int) (k0 : Bool → Option α) (k1 : Option α) : laws_pwSame_L0 N (n + 1) v1785 v1786 v1787 k0 k1 = laws_pwSame_L0r N (fun y0 y1 y2 => laws_pwSame_L0 N n y0 y1 y2 k0 k1) k0 k1 v1785 v1786 v1787 := by rw [laws_pwSame_L0.eq]; rfl
/-- laws.pwSame -/
noncomputable def laws_pwSame.b {α : Type} (N : Nat) (a1780 : List Int) (a1781 : List Int) (k0 : Bool → Option α) : Option α :=
 let x1782 := ((a1780.length : Nat) : Int)
 let x1783 := ((a1781.length : Nat) : Int)
 let x1784 := !(decide (x1782 = x1783))
 bif x1784 then
  k0 false
 else
  laws_pwSame_L0 N N a1780 a1781 (0 : Int)
   (fun x1794 =>
    k0 x1794)
   (
    k0 true)
theorem laws_pwSame.ex : ∃ f : ((α : Type) → Nat → List Int → List Int → (Bool → Option α) → Option α), f = fun α => @laws_pwSame.b α := ⟨_, rfl⟩
noncomputable def laws_pwSame {α : Type} : Nat → List Int → List Int → (Bool → Option α) → Option α := Classical.choose laws_pwSame.ex α
theorem laws_pwSame.eq : @laws_pwSame = @laws_pwSame.b := funext fun α => congrFun (Classical.choose_spec laws_pwSame.ex) α

/-- laws.pwFrac -/
noncomputable def laws_pwFrac.b {α : Type} (N : Nat) (a1777 : Bool × (List Int) × (List Int) × Unit) (a1778 : Bool × (List Int) × (List Int) × Unit) (k0 : Bool → Option α) : Option α :=
 let x1779 := a1777.1 == a1778.1
 bif x1779 then
  laws_pwSame N a1777.2.1 a1778.2.1
   (fun x1795 =>
    bif x1795 then
     laws_pwSame N a1777.2.2.1 a1778.2.2.1
      (fun x1796 =>
       k0 x1796)
    else
     k0 false)
 else
  k0 false
theorem laws_pwFrac.ex : ∃ f : ((α : Type) → Nat → (Bool × (List Int) × (List Int) × Unit) → (Bool × (List Int) × (List Int) × Unit) → (Bool → Option α) → Option α), f = fun α => @laws_pwFrac.b α := ⟨_, rfl⟩
noncomputable def laws_pwFrac {α : Type} : Nat → (Bool × (List Int) × (List Int) × Unit) → (Bool × (List Int) × (List Int) × Unit) → (Bool → Option α) → Option α := Classical.choose laws_pwFrac.ex α
theorem laws_pwFrac.eq : @laws_pwFrac = @laws_pwFrac.b := funext fun α => congrFun (Classical.choose_spec laws_pwFrac.ex) α

noncomputable def spec_NatText_L0r {α : Type} (N : Nat) (next : List Int → List Int → Option α) (k0 : List Int → Option α) (v1830 : List Int) (v1831 : List Int) : Option α :=
 let x1832 := ((v1830.length : Nat) : Int)
 let x1833 := (decide ((0 : Int) < x1832))
 bif x1833 then
  spec_l5DivSmall N v1830 (10 : Int)
   (fun x1834 x1835 =>
    let x1836 := (IntKind.i64.wrap ((48 : Int) + x1834))
    let x1837 := IntKind.u8.wrap x1836
    let x1838 := [x1837]
    bif decide (v1831.length + x1838.length ≤ 8796093022208) then
     let x1839 := v1831 ++ x1838
     next x1835 x1839
    else
     none)
 else
  k0 v1831
noncomputable def spec_NatText_L0.b {α : Type} (N n : Nat) (v1830 : List Int) (v1831 : List Int) (k0 : List Int → Option α) : Option α :=
  Nat.rec (motive := fun _ => List Int → List Int → Option α) (fun _ _ => none) (fun _ next => spec_NatText_L0r N next k0) n v1830 v1831
theorem spec_NatText_L0.ex : ∃ f : ((α : Type) → Nat → Nat → List Int → List Int → (List Int → Option α) → Option α), f = fun α => @spec_NatText_L0.b α := ⟨_, rfl⟩
noncomputable def spec_NatText_L0 {α : Type} : Nat → Nat → List Int → List Int → (List Int → Option α) → Option α := Classical.choose spec_NatText_L0.ex α
theorem spec_NatText_L0.eq : @spec_NatText_L0 = @spec_NatText_L0.b := funext fun α => congrFun (Classical.choose_spec spec_NatText_L0.ex) α
theorem spec_NatText_L0.zero {α : Type} (N : Nat) (v1830 : List Int) (v1831 : List Int) (k0 : List Int → Option α) : spec_NatText_L0 N 0 v1830 v1831 k0 = none := by rw [spec_NatText_L0.eq]; rfl
theorem spec_NatText_L0.succ {α : Type} (N n : Nat) (v1830 : List Int) (v1831 : List Int) (k0 : List Int → Option α) : spec_NatText_L0 N (n + 1) v1830 v1831 k0 = spec_NatText_L0r N (fun y0 y1 => spec_NatText_L0 N n y0 y1 k0) k0 v1830 v1831 := by rw [spec_NatText_L0.eq]; rfl
noncomputable def spec_NatText_L2r {α : Type} (N : Nat) (next : Int → List Int → List Int → Option α) (k0 : List Int → Option α) (v1843 : Int) (v1844 : List Int) (v1845 : List Int) : Option α :=
 let x1846 := (decide ((0 : Int) ≤ v1843))
 bif x1846 then
  bif (decide (v1843 < (0 : Int))) then
   none
  else
   bif decide (v1843.toNat < v1844.length) then
    match v1844[v1843.toNat]? with
    | some x1847 =>
     let x1848 := [x1847]
     bif decide (v1845.length + x1848.length ≤ 8796093022208) then
      let x1849 := v1845 ++ x1848
      let x1850 := (IntKind.i64.wrap (v1843 - (1 : Int)))
      next x1850 v1844 x1849
     else
      none
    | none => none
   else
    none
 else
  k0 v1845
noncomputable def spec_NatText_L2.b {α : Type} (N n : Nat) (v1843 : Int) (v1844 : List Int) (v1845 : List Int) (k0 : List Int → Option α) : Option α :=
  Nat.rec (motive := fun _ => Int → List Int → List Int → Option α) (fun _ _ _ => none) (fun _ next => spec_NatText_L2r N next k0) n v1843 v1844 v1845
theorem spec_NatText_L2.ex : ∃ f : ((α : Type) → Nat → Nat → Int → List Int → List Int → (List Int → Option α) → Option α), f = fun α => @spec_NatText_L2.b α := ⟨_, rfl⟩
noncomputable def spec_NatText_L2 {α : Type} : Nat → Nat → Int → List Int → List Int → (List Int → Option α) → Option α := Classical.choose spec_NatText_L2.ex α
theorem spec_NatText_L2.eq : @spec_NatText_L2 = @spec_NatText_L2.b := funext fun α => congrFun (Classical.choose_spec spec_NatText_L2.ex) α
theorem spec_NatText_L2.zero {α : Type} (N : Nat) (v1843 : Int) (v1844 : List Int) (v1845 : List Int) (k0 : List Int → Option α) : spec_NatText_L2 N 0 v1843 v1844 v1845 k0 = none := by rw [spec_NatText_L2.eq]; rfl
theorem spec_NatText_L2.succ {α : Type} (N n : Nat) (v1843 : Int) (v1844 : List Int) (v1845 : List Int) (k0 : List Int → Option α) : spec_NatText_L2 N (n + 1) v1843 v1844 v1845 k0 = spec_NatText_L2r N (fun y0 y1 y2 => spec_NatText_L2 N n y0 y1 y2 k0) k0 v1843 v1844 v1845 := by rw [spec_NatText_L2.eq]; rfl
/-- spec.NatText -/
noncomputable def spec_NatText.b {α : Type} (N : Nat) (a1825 : List Int) (k0 : ByteArray → Option α) : Option α :=
 spec_NatOk N a1825
  (fun x1826 =>
   let x1827 := !x1826
   bif x1827 then
    k0 ByteArray.empty
   else
    let x1828 := ((a1825.length : Nat) : Int)
    let x1829 := (decide (x1828 = (0 : Int)))
    bif x1829 then
     k0 (⟨#[48]⟩ : ByteArray)
    else
     spec_NatText_L0 N N a1825 []
      (fun x1840 =>
       let x1841 := ((x1840.length : Nat) : Int)
       let x1842 := (IntKind.i64.wrap (x1841 - (1 : Int)))
       spec_NatText_L2 N N x1842 x1840 []
        (fun x1851 =>
         let x1852 := bytesOf x1851
         k0 x1852)))
theorem spec_NatText.ex : ∃ f : ((α : Type) → Nat → List Int → (ByteArray → Option α) → Option α), f = fun α => @spec_NatText.b α := ⟨_, rfl⟩
noncomputable def spec_NatText {α : Type} : Nat → List Int → (ByteArray → Option α) → Option α := Classical.choose spec_NatText.ex α
theorem spec_NatText.eq : @spec_NatText = @spec_NatText.b := funext fun α => congrFun (Classical.choose_spec spec_NatText.ex) α

noncomputable def spec_FracText_J4.b {α : Type} (N : Nat) (v1854 : ByteArray) (v1855 : Bool × (List Int) × (List Int) × Unit) (k0 : ByteArray → (Bool × (List Int) × (List Int) × Unit) → Option α) : Option α :=
 bif v1855.1 then
  bif (decide ((⟨#[45]⟩ : ByteArray).size + v1854.size ≤ 9223372036854775807)) then
   let x1856 := ((⟨#[45]⟩ : ByteArray) ++ v1854)
   k0 x1856 v1855
  else
   none
 else
  k0 v1854 v1855
theorem spec_FracText_J4.ex : ∃ f : ((α : Type) → Nat → ByteArray → (Bool × (List Int) × (List Int) × Unit) → (ByteArray → (Bool × (List Int) × (List Int) × Unit) → Option α) → Option α), f = fun α => @spec_FracText_J4.b α := ⟨_, rfl⟩
noncomputable def spec_FracText_J4 {α : Type} : Nat → ByteArray → (Bool × (List Int) × (List Int) × Unit) → (ByteArray → (Bool × (List Int) × (List Int) × Unit) → Option α) → Option α := Classical.choose spec_FracText_J4.ex α
theorem spec_FracText_J4.eq : @spec_FracText_J4 = @spec_FracText_J4.b := funext fun α => congrFun (Classical.choose_spec spec_FracText_J4.ex) α
noncomputable def spec_FracText_J6.b {α : Type} (N : Nat) (v1859 : ByteArray) (v1860 : Bool × (List Int) × (List Int) × Unit) (k0 : ByteArray → Option α) : Option α :=
 spec_l6One N v1860.2.2.1
  (fun x1861 =>
   let x1862 := !x1861
   bif x1862 then
    bif (decide (v1859.size + (⟨#[47]⟩ : ByteArray).size ≤ 9223372036854775807)) then
     let x1863 := (v1859 ++ (⟨#[47]⟩ : ByteArray))
     spec_NatText N v1860.2.2.1
      (fun x1864 =>
       bif decide (x1863.size + x1864.size ≤ 9223372036854775807) then
        let x1865 := x1863 ++ x1864
        k0 x1865
       else
        none)
    else
     none
   else
    k0 v1859)
theorem spec_FracText_J6.ex : ∃ f : ((α : Type) → Nat → ByteArray → (Bool × (List Int) × (List Int) × Unit) → (ByteArray → Option α) → Option α), f = fun α => @spec_FracText_J6.b α := ⟨_, rfl⟩
noncomputable def spec_FracText_J6 {α : Type} : Nat → ByteArray → (Bool × (List Int) × (List Int) × Unit) → (ByteArray → Option α) → Option α := Classical.choose spec_FracText_J6.ex α
theorem spec_FracText_J6.eq : @spec_FracText_J6 = @spec_FracText_J6.b := funext fun α => congrFun (Classical.choose_spec spec_FracText_J6.ex) α
/-- spec.FracText -/
noncomputable def spec_FracText.b {α : Type} (N : Nat) (a1807 : Bool × (List Int) × (List Int) × Unit) (k0 : ByteArray → Option α) : Option α :=
 spec_FracOk N a1807
  (fun x1808 =>
   let x1809 := !x1808
   bif x1809 then
    k0 ByteArray.empty
   else
    spec_NatText N a1807.2.1
     (fun x1853 =>
      spec_FracText_J4 N x1853 a1807
       (fun x1857 x1858 =>
        spec_FracText_J6 N x1857 x1858
         (fun x1866 =>
          k0 x1866))))
theorem spec_FracText.ex : ∃ f : ((α : Type) → Nat → (Bool × (List Int) × (List Int) × Unit) → (ByteArray → Option α) → Option α), f = fun α => @spec_FracText.b α := ⟨_, rfl⟩
noncomputable def spec_FracText {α : Type} : Nat → (Bool × (List Int) × (List Int) × Unit) → (ByteArray → Option α) → Option α := Classical.choose spec_FracText.ex α
theorem spec_FracText.eq : @spec_FracText = @spec_FracText.b := funext fun α => congrFun (Classical.choose_spec spec_FracText.ex) α

noncomputable def spec_DrawFracRead_J12.b {α : Type} (N : Nat) (v1889 : ByteArray) (v1890 : Int) (v1891 : (List Int) × Int × Unit) (k0 : ByteArray → Option α) : Option α :=
 let x1892 := (decide (v1890 = (4 : Int)))
 bif x1892 then
  let x1893 := [ByteArray.empty, (⟨#[45]⟩ : ByteArray), (⟨#[47]⟩ : ByteArray), (⟨#[49, 47]⟩ : ByteArray), (⟨#[47, 51]⟩ : ByteArray), (⟨#[50, 47, 52]⟩ : ByteArray), (⟨#[49, 47, 48]⟩ : ByteArray), (⟨#[48, 47, 53]⟩ : ByteArray), (⟨#[43, 49]⟩ : ByteArray), (⟨#[32, 49]⟩ : ByteArray), (⟨#[49, 47, 45, 50]⟩ : ByteArray), (⟨#[48, 51]⟩ : ByteArray), (⟨#[49, 47, 50, 47, 51]⟩ : ByteArray)]
  spec_l32Rd_pick N (13 : Int) v1891
   (fun x1894 _ =>
    bif (decide (x1894 < (0 : Int))) then
     none
    else
     bif decide (x1894.toNat < x1893.length) then
      match x1893[x1894.toNat]? with
      | some x1896 =>
       k0 x1896
      | none => none
     else
      none)
 else
  k0 v1889
theorem spec_DrawFracRead_J12.ex : ∃ f : ((α : Type) → Nat → ByteArray → Int → ((List Int) × Int × Unit) → (ByteArray → Option α) → Option α), f = fun α => @spec_DrawFracRead_J12.b α := ⟨_, rfl⟩
noncomputable def spec_DrawFracRead_J12 {α : Type} : Nat → ByteArray → Int → ((List Int) × Int × Unit) → (ByteArray → Option α) → Option α := Classical.choose spec_DrawFracRead_J12.ex α
theorem spec_DrawFracRead_J12.eq : @spec_DrawFracRead_J12 = @spec_DrawFracRead_J12.b := funext fun α => congrFun (Classical.choose_spec spec_DrawFracRead_J12.ex) α
noncomputable def spec_DrawFracRead_J10.b {α : Type} (N : Nat) (v1885 : ByteArray) (v1886 : Int) (v1887 : (List Int) × Int × Unit) (k0 : ByteArray → Option α) : Option α :=
 let x1888 := (decide (v1886 = (3 : Int)))
 bif x1888 then
  k0 (⟨#[45, 48]⟩ : ByteArray)
 else
  spec_DrawFracRead_J12 N v1885 v1886 v1887
   (fun x1897 =>
    k0 x1897)
theorem spec_DrawFracRead_J10.ex : ∃ f : ((α : Type) → Nat → ByteArray → Int → ((List Int) × Int × Unit) → (ByteArray → Option α) → Option α), f = fun α => @spec_DrawFracRead_J10.b α := ⟨_, rfl⟩
noncomputable def spec_DrawFracRead_J10 {α : Type} : Nat → ByteArray → Int → ((List Int) × Int × Unit) → (ByteArray → Option α) → Option α := Classical.choose spec_DrawFracRead_J10.ex α
theorem spec_DrawFracRead_J10.eq : @spec_DrawFracRead_J10 = @spec_DrawFracRead_J10.b := funext fun α => congrFun (Classical.choose_spec spec_DrawFracRead_J10.ex) α
noncomputable def spec_DrawFracRead_J8.b {α : Type} (N : Nat) (v1880 : ByteArray) (v1881 : Int) (v1882 : (List Int) × Int × Unit) (k0 : ByteArray → Option α) : Option α :=
 let x1883 := (decide (v1881 = (2 : Int)))
 bif x1883 then
  bif (decide ((⟨#[45]⟩ : ByteArray).size + v1880.size ≤ 9223372036854775807)) then
   let x1884 := ((⟨#[45]⟩ : ByteArray) ++ v1880)
   k0 x1884
  else
   none
 else
  spec_DrawFracRead_J10 N v1880 v1881 v1882
   (fun x1898 =>
    k0 x1898)
theorem spec_DrawFracRead_J8.ex : ∃ f : ((α : Type) → Nat → ByteArray → Int → ((List Int) × Int × Unit) → (ByteArray → Option α) → Option α), f = fun α => @spec_DrawFracRead_J8.b α := ⟨_, rfl⟩
noncomputable def spec_DrawFracRead_J8 {α : Type} : Nat → ByteArray → Int → ((List Int) × Int × Unit) → (ByteArray → Option α) → Option α := Classical.choose spec_DrawFracRead_J8.ex α
theorem spec_DrawFracRead_J8.eq : @spec_DrawFracRead_J8 = @spec_DrawFracRead_J8.b := funext fun α => congrFun (Classical.choose_spec spec_DrawFracRead_J8.ex) α
noncomputable def spec_DrawFracRead_J6.b {α : Type} (N : Nat) (v1875 : ByteArray) (v1876 : Int) (v1877 : (List Int) × Int × Unit) (k0 : ByteArray → Option α) : Option α :=
 let x1878 := (decide (v1876 = (1 : Int)))
 bif x1878 then
  bif (decide (v1875.size + (⟨#[47, 50]⟩ : ByteArray).size ≤ 9223372036854775807)) then
   let x1879 := (v1875 ++ (⟨#[47, 50]⟩ : ByteArray))
   k0 x1879
  else
   none
 else
  spec_DrawFracRead_J8 N v1875 v1876 v1877
   (fun x1899 =>
    k0 x1899)
theorem spec_DrawFracRead_J6.ex : ∃ f : ((α : Type) → Nat → ByteArray → Int → ((List Int) × Int × Unit) → (ByteArray → Option α) → Option α), f = fun α => @spec_DrawFracRead_J6.b α := ⟨_, rfl⟩
noncomputable def spec_DrawFracRead_J6 {α : Type} : Nat → ByteArray → Int → ((List Int) × Int × Unit) → (ByteArray → Option α) → Option α := Classical.choose spec_DrawFracRead_J6.ex α
theorem spec_DrawFracRead_J6.eq : @spec_DrawFracRead_J6 = @spec_DrawFracRead_J6.b := funext fun α => congrFun (Classical.choose_spec spec_DrawFracRead_J6.ex) α
noncomputable def spec_DrawFracRead_J4.b {α : Type} (N : Nat) (v1870 : ByteArray) (v1871 : Int) (v1872 : (List Int) × Int × Unit) (k0 : ByteArray → Option α) : Option α :=
 let x1873 := (decide (v1871 = (0 : Int)))
 bif x1873 then
  bif (decide (v1870.size + (⟨#[47, 49]⟩ : ByteArray).size ≤ 9223372036854775807)) then
   let x1874 := (v1870 ++ (⟨#[47, 49]⟩ : ByteArray))
   k0 x1874
  else
   none
 else
  spec_DrawFracRead_J6 N v1870 v1871 v1872
   (fun x1900 =>
    k0 x1900)
theorem spec_DrawFracRead_J4.ex : ∃ f : ((α : Type) → Nat → ByteArray → Int → ((List Int) × Int × Unit) → (ByteArray → Option α) → Option α), f = fun α => @spec_DrawFracRead_J4.b α := ⟨_, rfl⟩
noncomputable def spec_DrawFracRead_J4 {α : Type} : Nat → ByteArray → Int → ((List Int) × Int × Unit) → (ByteArray → Option α) → Option α := Classical.choose spec_DrawFracRead_J4.ex α
theorem spec_DrawFracRead_J4.eq : @spec_DrawFracRead_J4 = @spec_DrawFracRead_J4.b := funext fun α => congrFun (Classical.choose_spec spec_DrawFracRead_J4.ex) α
/-- spec.DrawFracRead -/
noncomputable def spec_DrawFracRead.b {α : Type} (N : Nat) (a1801 : List Int) (k0 : ByteArray → Option α) : Option α :=
 spec_l32Open N a1801
  (fun x1802 =>
   spec_l32Rd_good N x1802
    (fun x1803 x1804 x1805 x1806 =>
     spec_FracText N (x1803, (x1805, (x1806, ())))
      (fun x1867 =>
       spec_l32Rd_pick N (14 : Int) x1804
        (fun x1868 x1869 =>
         spec_DrawFracRead_J4 N x1867 x1868 x1869
          (fun x1901 =>
           k0 x1901)))))
theorem spec_DrawFracRead.ex : ∃ f : ((α : Type) → Nat → List Int → (ByteArray → Option α) → Option α), f = fun α => @spec_DrawFracRead.b α := ⟨_, rfl⟩
noncomputable def spec_DrawFracRead {α : Type} : Nat → List Int → (ByteArray → Option α) → Option α := Classical.choose spec_DrawFracRead.ex α
theorem spec_DrawFracRead.eq : @spec_DrawFracRead = @spec_DrawFracRead.b := funext fun α => congrFun (Classical.choose_spec spec_DrawFracRead.ex) α

/-- spec.l5Fits -/
noncomputable def spec_l5Fits.b {α : Type} (N : Nat) (a2167 : List Int) (k0 : List Int → Bool → Option α) : Option α :=
 let x2168 := ((a2167.length : Nat) : Int)
 let x2169 := (decide ((256 : Int) < x2168))
 bif x2169 then
  k0 [] false
 else
  k0 a2167 true
theorem spec_l5Fits.ex : ∃ f : ((α : Type) → Nat → List Int → (List Int → Bool → Option α) → Option α), f = fun α => @spec_l5Fits.b α := ⟨_, rfl⟩
noncomputable def spec_l5Fits {α : Type} : Nat → List Int → (List Int → Bool → Option α) → Option α := Classical.choose spec_l5Fits.ex α
theorem spec_l5Fits.eq : @spec_l5Fits = @spec_l5Fits.b := funext fun α => congrFun (Classical.choose_spec spec_l5Fits.ex) α

noncomputable def spec_NatRead_L0r {α : Type} (N : Nat) (next : ByteArray → Int → List Int → Option α) (k0 : List Int → Bool → Option α) (k1 : List Int → Option α) (v2141 : ByteArray) (v2142 : Int) (v2143 : List Int) : Option α :=
 let x2144 := ((v2141.size : Nat) : Int)
 let x2145 := decide (v2142 < x2144)
 bif x2145 then
  bif (decide (v2142 < (0 : Int))) then
   none
  else
   match (v2141[v2142.toNat]? : Option UInt8) with
   | some x2146 =>
    let x2147 := ((x2146.toNat : Nat) : Int)
    let x2148 := (decide (x2147 < (48 : Int)))
    bif x2148 then
     k0 [] false
    else
     bif (decide (v2142 < (0 : Int))) then
      none
     else
      match (v2141[v2142.toNat]? : Option UInt8) with
      | some x2149 =>
       let x2150 := ((x2149.toNat : Nat) : Int)
       let x2151 := (decide ((57 : Int) < x2150))
       bif x2151 then
        k0 [] false
       else
        spec_l5Times N v2143 (10 : Int)
         (fun x2152 =>
          bif (decide (v2142 < (0 : Int))) then
           none
          else
           match (v2141[v2142.toNat]? : Option UInt8) with
           | some x2153 =>
            let x2154 := ((x2153.toNat : Nat) : Int)
            let x2155 := (IntKind.u8.wrap (x2154 - (48 : Int)))
            let x2156 := IntKind.u64.wrap x2155
            spec_NatOf N x2156
             (fun x2157 =>
              spec_l5Add N x2152 x2157
               (fun x2158 =>
                spec_l5Trim N x2158
                 (fun x2159 =>
                  let x2160 := (IntKind.i64.wrap (v2142 + (1 : Int)))
                  next v2141 x2160 x2159)))
           | none => none)
      | none => none
   | none => none
 else
  k1 v2143
noncomputable def spec_NatRead_L0.b {α : Type} (N n : Nat) (v2141 : ByteArray) (v2142 : Int) (v2143 : List Int) (k0 : List Int → Bool → Option α) (k1 : List Int → Option α) : Option α :=
  Nat.rec (motive := fun _ => ByteArray → Int → List Int → Option α) (fun _ _ _ => none) (fun _ next => spec_NatRead_L0r N next k0 k1) n v2141 v2142 v2143
theorem spec_NatRead_L0.ex : ∃ f : ((α : Type) → Nat → Nat → ByteArray → Int → List Int → (List Int → Bool → Option α) → (List Int → Option α) → Option α), f = fun α => @spec_NatRead_L0.b α := ⟨_, rfl⟩
noncomputable def spec_NatRead_L0 {α : Type} : Nat → Nat → ByteArray → Int → List Int → (List Int → Bool → Option α) → (List Int → Option α) → Option α := Classical.choose spec_NatRead_L0.ex α
theorem spec_NatRead_L0.eq : @spec_NatRead_L0 = @spec_NatRead_L0.b := funext fun α => congrFun (Classical.choose_spec spec_NatRead_L0.ex) α
theorem spec_NatRead_L0.zero {α : Type} (N : Nat) (v2141 : ByteArray) (v2142 : Int) (v2143 : List Int) (k0 : List Int → Bool → Option α) (k1 : List Int → Option α) : spec_NatRead_L0 N 0 v2141 v2142 v2143 k0 k1 = none := by rw [spec_NatRead_L0.eq]; rfl
theorem spec_NatRead_L0.succ {α : Type} (N n : Nat) (v2141 : ByteArray) (v2142 : Int) (v2143 : List Int) (k0 : List Int → Bool → Option α) (k1 : List Int → Option α) : spec_NatRead_L0 N (n + 1) v2141 v2142 v2143 k0 k1 = spec_NatRead_L0r N (fun y0 y1 y2 => spec_NatRead_L0 N n y0 y1 y2 k0 k1) k0 k1 v2141 v2142 v2143 := by rw [spec_NatRead_L0.eq]; rfl
/-- spec.NatRead -/
noncomputable def spec_NatRead.b {α : Type} (N : Nat) (a2131 : ByteArray) (k0 : List Int → Bool → Option α) : Option α :=
 let x2132 := ((a2131.size : Nat) : Int)
 let x2133 := (decide (x2132 = (0 : Int)))
 bif x2133 then
  k0 [] false
 else
  let x2134 := ((a2131.size : Nat) : Int)
  let x2135 := (decide ((1300 : Int) < x2134))
  bif x2135 then
   k0 [] false
  else
   let x2136 := ((a2131.size : Nat) : Int)
   let x2137 := (decide ((1 : Int) < x2136))
   bif x2137 then
    match (a2131[0]? : Option UInt8) with
    | some x2138 =>
     let x2139 := ((x2138.toNat : Nat) : Int)
     let x2140 := (decide (x2139 = (48 : Int)))
     bif x2140 then
      k0 [] false
     else
      spec_NatRead_L0 N N a2131 (0 : Int) []
       (fun x2161 x2162 =>
        k0 x2161 x2162)
       (fun x2163 =>
        spec_l5Fits N x2163
         (fun x2170 x2171 =>
          k0 x2170 x2171))
    | none => none
   else
    spec_NatRead_L0 N N a2131 (0 : Int) []
     (fun x2172 x2173 =>
      k0 x2172 x2173)
     (fun x2174 =>
      spec_l5Fits N x2174
       (fun x2175 x2176 =>
        k0 x2175 x2176))
theorem spec_NatRead.ex : ∃ f : ((α : Type) → Nat → ByteArray → (List Int → Bool → Option α) → Option α), f = fun α => @spec_NatRead.b α := ⟨_, rfl⟩
noncomputable def spec_NatRead {α : Type} : Nat → ByteArray → (List Int → Bool → Option α) → Option α := Classical.choose spec_NatRead.ex α
theorem spec_NatRead.eq : @spec_NatRead = @spec_NatRead.b := funext fun α => congrFun (Classical.choose_spec spec_NatRead.ex) α

noncomputable def spec_FracRead_J2.b {α : Type} (N : Nat) (v2053 : ByteArray) (v2054 : Bool) (v2055 : Bool) (v2056 : List Int) (v2057 : List Int) (k0 : ByteArray → Bool → Bool → List Int → List Int → Option α) : Option α :=
 bif v2054 then
  bif (decide ((1 : Int) ≤ ((v2053.size : Nat) : Int))) then
   let x2058 := v2053.extract 1 v2053.size
   k0 x2058 v2054 v2055 v2056 v2057
  else
   none
 else
  k0 v2053 v2054 v2055 v2056 v2057
theorem spec_FracRead_J2.ex : ∃ f : ((α : Type) → Nat → ByteArray → Bool → Bool → List Int → List Int → (ByteArray → Bool → Bool → List Int → List Int → Option α) → Option α), f = fun α => @spec_FracRead_J2.b α := ⟨_, rfl⟩
noncomputable def spec_FracRead_J2 {α : Type} : Nat → ByteArray → Bool → Bool → List Int → List Int → (ByteArray → Bool → Bool → List Int → List Int → Option α) → Option α := Classical.choose spec_FracRead_J2.ex α
theorem spec_FracRead_J2.eq : @spec_FracRead_J2 = @spec_FracRead_J2.b := funext fun α => congrFun (Classical.choose_spec spec_FracRead_J2.ex) α
noncomputable def spec_FracRead_L0r {α : Type} (N : Nat) (next : ByteArray → Bool → ByteArray → ByteArray → Int → Bool → List Int → List Int → Option α) (k0 : (Bool × (List Int) × (List Int) × Unit) → Bool → Option α) (k1 : Bool → ByteArray → ByteArray → Bool → List Int → List Int → Option α) (v2064 : ByteArray) (v2065 : Bool) (v2066 : ByteArray) (v2067 : ByteArray) (v2068 : Int) (v2069 : Bool) (v2070 : List Int) (v2071 : List Int) : Option α :=
 let x2072 := ((v2064.size : Nat) : Int)
 let x2073 := decide (v2068 < x2072)
 bif x2073 then
  bif (decide (v2068 < (0 : Int))) then
   none
  else
   match (v2064[v2068.toNat]? : Option UInt8) with
   | some x2074 =>
    let x2075 := ((x2074.toNat : Nat) : Int)
    let x2076 := (decide (x2075 = (47 : Int)))
    bif x2076 then
     bif (decide ((0 : Int) ≤ v2068)) then
      bif (decide (v2068 ≤ ((v2064.size : Nat) : Int))) then
       let x2077 := v2064.extract 0 v2068.toNat
       let x2078 := (IntKind.i64.wrap (v2068 + (1 : Int)))
       bif (decide ((0 : Int) ≤ x2078)) then
        bif (decide (x2078 ≤ ((v2064.size : Nat) : Int))) then
         let x2079 := v2064.extract x2078.toNat v2064.size
         let x2080 := (eqS x2079 (⟨#[49]⟩ : ByteArray))
         bif x2080 then
          k0 (false, ([], ([], ()))) false
         else
          k1 v2065 x2077 x2079 v2069 v2070 v2071
        else
         none
       else
        none
      else
       none
     else
      none
    else
     let x2081 := (IntKind.i64.wrap (v2068 + (1 : Int)))
     next v2064 v2065 v2066 v2067 x2081 v2069 v2070 v2071
   | none => none
 else
  k1 v2065 v2066 v2067 v2069 v2070 v2071
noncomputable def spec_FracRead_L0.b {α : Type} (N n : Nat) (v2064 : ByteArray) (v2065 : Bool) (v2066 : ByteArray) (v2067 : ByteArray) (v2068 : Int) (v2069 : Bool) (v2070 : List Int) (v2071 : List Int) (k0 : (Bool × (List Int) × (List Int) × Unit) → Bool → Option α) (k1 : Bool → ByteArray → ByteArray → Bool → List Int → List Int → Option α) : Option α :=
  Nat.rec (motive := fun _ => ByteArray → Bool → ByteArray → ByteArray → Int → Bool → List Int → List Int → Option α) (fun _ _ _ _ _ _ _ _ => none) (fun _ next => spec_FracRead_L0r N next k0 k1) n v2064 v2065 v2066 v2067 v2068 v2069 v2070 v2071
theorem spec_FracRead_L0.ex : ∃ f : ((α : Type) → Nat → Nat → ByteArray → Bool → ByteArray → ByteArray → Int → Bool → List Int → List Int → ((Bool × (List Int) × (List Int) × Unit) → Bool → Option α) → (Bool → ByteArray → ByteArray → Bool → List Int → List Int → Option α) → Option α), f = fun α => @spec_FracRead_L0.b α := ⟨_, rfl⟩
noncomputable def spec_FracRead_L0 {α : Type} : Nat → Nat → ByteArray → Bool → ByteArray → ByteArray → Int → Bool → List Int → List Int → ((Bool × (List Int) × (List Int) × Unit) → Bool → Option α) → (Bool → ByteArray → ByteArray → Bool → List Int → List Int → Option α) → Option α := Classical.choose spec_FracRead_L0.ex α
theorem spec_FracRead_L0.eq : @spec_FracRead_L0 = @spec_FracRead_L0.b := funext fun α => congrFun (Classical.choose_spec spec_FracRead_L0.ex) α
theorem spec_FracRead_L0.zero {α : Type} (N : Nat) (v2064 : ByteArray) (v2065 : Bool) (v2066 : ByteArray) (v2067 : ByteArray) (v2068 : Int) (v2069 : Bool) (v2070 : List Int) (v2071 : List Int) (k0 : (Bool × (List Int) × (List Int) × Unit) → Bool → Option α) (k1 : Bool → ByteArray → ByteArray → Bool → List Int → List Int → Option α) : spec_FracRead_L0 N 0 v2064 v2065 v2066 v2067 v2068 v2069 v2070 v2071 k0 k1 = none := by rw [spec_FracRead_L0.eq]; rfl
theorem spec_FracRead_L0.succ {α : Type} (N n : Nat) (v2064 : ByteArray) (v2065 : Bool) (v2066 : ByteArray) (v2067 : ByteArray) (v2068 : Int) (v2069 : Bool) (v2070 : List Int) (v2071 : List Int) (k0 : (Bool × (List Int) × (List Int) × Unit) → Bool → Option α) (k1 : Bool → ByteArray → ByteArray → Bool → List Int → List Int → Option α) : spec_FracRead_L0 N (n + 1) v2064 v2065 v2066 v2067 v2068 v2069 v2070 v2071 k0 k1 = spec_FracRead_L0r N (fun y0 y1 y2 y3 y4 y5 y6 y7 => spec_FracRead_L0 N n y0 y1 y2 y3 y4 y5 y6 y7 k0 k1) k0 k1 v2064 v2065 v2066 v2067 v2068 v2069 v2070 v2071 := by rw [spec_FracRead_L0.eq]; rfl
/-- spec.FracRead -/
noncomputable def spec_FracRead.b {α : Type} (N : Nat) (a2047 : ByteArray) (k0 : (Bool × (List Int) × (List Int) × Unit) → Bool → Option α) : Option α :=
 let x2048 := ((a2047.size : Nat) : Int)
 let x2049 := (decide ((0 : Int) < x2048))
 bif x2049 then
  match (a2047[0]? : Option UInt8) with
  | some x2050 =>
   let x2051 := ((x2050.toNat : Nat) : Int)
   let x2052 := (decide (x2051 = (45 : Int)))
   spec_FracRead_J2 N a2047 x2052 false [] []
    (fun x2059 x2060 x2061 x2062 x2063 =>
     spec_FracRead_L0 N N x2059 x2060 x2059 (⟨#[49]⟩ : ByteArray) (0 : Int) x2061 x2062 x2063
      (fun x2082 x2083 =>
       k0 x2082 x2083)
      (fun x2084 x2085 x2086 _ _ _ =>
       spec_NatRead N x2085
        (fun x2177 x2178 =>
         spec_NatRead N x2086
          (fun x2179 x2180 =>
           let x2181 := !x2178
           bif x2181 then
            k0 (false, ([], ([], ()))) false
           else
            let x2182 := !x2180
            bif x2182 then
             k0 (false, ([], ([], ()))) false
            else
             spec_FracOk N (x2084, (x2177, (x2179, ())))
              (fun x2183 =>
               let x2184 := !x2183
               bif x2184 then
                k0 (false, ([], ([], ()))) false
               else
                k0 (x2084, (x2177, (x2179, ()))) true)))))
  | none => none
 else
  spec_FracRead_J2 N a2047 false false [] []
   (fun x2185 x2186 x2187 x2188 x2189 =>
    spec_FracRead_L0 N N x2185 x2186 x2185 (⟨#[49]⟩ : ByteArray) (0 : Int) x2187 x2188 x2189
     (fun x2190 x2191 =>
      k0 x2190 x2191)
     (fun x2192 x2193 x2194 _ _ _ =>
      spec_NatRead N x2193
       (fun x2198 x2199 =>
        spec_NatRead N x2194
         (fun x2200 x2201 =>
          let x2202 := !x2199
          bif x2202 then
           k0 (false, ([], ([], ()))) false
          else
           let x2203 := !x2201
           bif x2203 then
            k0 (false, ([], ([], ()))) false
           else
            spec_FracOk N (x2192, (x2198, (x2200, ())))
             (fun x2204 =>
              let x2205 := !x2204
              bif x2205 then
               k0 (false, ([], ([], ()))) false
              else
               k0 (x2192, (x2198, (x2200, ()))) true)))))
theorem spec_FracRead.ex : ∃ f : ((α : Type) → Nat → ByteArray → ((Bool × (List Int) × (List Int) × Unit) → Bool → Option α) → Option α), f = fun α => @spec_FracRead.b α := ⟨_, rfl⟩
noncomputable def spec_FracRead {α : Type} : Nat → ByteArray → ((Bool × (List Int) × (List Int) × Unit) → Bool → Option α) → Option α := Classical.choose spec_FracRead.ex α
theorem spec_FracRead.eq : @spec_FracRead = @spec_FracRead.b := funext fun α => congrFun (Classical.choose_spec spec_FracRead.ex) α

noncomputable def laws_FnFracText_J7.b {α : Type} (N : Nat) (v1403 : List Int) (v1404 : ByteArray) (v1405 : Bool) (v1406 : List Int) (v1407 : List Int) (k0 : Bool → Option α) (k1 : List Int → Option α) : Option α :=
 let x1408 := !eqS v1404 ByteArray.empty
 bif x1408 then
  impl_FracRead N v1404
   (fun x1772 x1773 x1774 x1775 =>
    let x1776 := !x1773
    bif x1776 then
     k0 false
    else
     laws_pwFrac N (v1405, (v1406, (v1407, ()))) (x1772, (x1774, (x1775, ())))
      (fun x1797 =>
       let x1798 := !x1797
       bif x1798 then
        k0 false
       else
        k1 v1403))
 else
  k1 v1403
theorem laws_FnFracText_J7.ex : ∃ f : ((α : Type) → Nat → List Int → ByteArray → Bool → List Int → List Int → (Bool → Option α) → (List Int → Option α) → Option α), f = fun α => @laws_FnFracText_J7.b α := ⟨_, rfl⟩
noncomputable def laws_FnFracText_J7 {α : Type} : Nat → List Int → ByteArray → Bool → List Int → List Int → (Bool → Option α) → (List Int → Option α) → Option α := Classical.choose laws_FnFracText_J7.ex α
theorem laws_FnFracText_J7.eq : @laws_FnFracText_J7 = @laws_FnFracText_J7.b := funext fun α => congrFun (Classical.choose_spec laws_FnFracText_J7.ex) α
/-- laws.FnFracText -/
noncomputable def laws_FnFracText.b {α : Type} (N : Nat) (a1 : List Int) (k0 : Bool → Option α) : Option α :=
 let x2 := ((a1.length : Nat) : Int)
 let x3 := (decide ((1048576 : Int) < x2))
 bif x3 then
  k0 true
 else
  spec_DrawFracText N a1
   (fun x722 x723 x724 =>
    impl_FracText N (x722, (x723, (x724, ())))
     (fun x1381 =>
      let x1382 := !eqS x1381 ByteArray.empty
      spec_FracOk N (x722, (x723, (x724, ())))
       (fun x1401 =>
        let x1402 := !(x1382 == x1401)
        bif x1402 then
         k0 false
        else
         laws_FnFracText_J7 N a1 x1381 x722 x723 x724
          (fun x1799 =>
           k0 x1799)
          (fun x1800 =>
           spec_DrawFracRead N x1800
            (fun x1902 =>
             impl_FracRead N x1902
              (fun x1903 x1904 x1905 x1906 =>
               spec_FracRead N x1902
                (fun _ x2207 =>
                 let x2208 := !(x1904 == x2207)
                 bif x2208 then
                  k0 false
                 else
                  let x2209 := !x1904
                  bif x2209 then
                   k0 true
                  else
                   impl_FracText N (x1903, (x1905, (x1906, ())))
                    (fun x2210 =>
                     let x2211 := eqS x2210 x1902
                     k0 x2211))))))))
theorem laws_FnFracText.ex : ∃ f : ((α : Type) → Nat → List Int → (Bool → Option α) → Option α), f = fun α => @laws_FnFracText.b α := ⟨_, rfl⟩
noncomputable def laws_FnFracText {α : Type} : Nat → List Int → (Bool → Option α) → Option α := Classical.choose laws_FnFracText.ex α
theorem laws_FnFracText.eq : @laws_FnFracText = @laws_FnFracText.b := funext fun α => congrFun (Classical.choose_spec laws_FnFracText.ex) α

end
end Go.Proofs.YtnhbcpmmdblkjaaGreatDoorAm
