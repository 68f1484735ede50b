/-
  The functions that the program computes, as the abstract machine tells them. Printed by amp.py.
-/
import Derived.Test.YtgabephijgjogaaDoorAmc
namespace Go.Proofs.YtgabephijgjogaaDoorAm
open Go
noncomputable section
set_option linter.unusedVariables false
set_option linter.unusedSimpArgs false

noncomputable def spec_l32Open_J1.b {α : Type} (N : Nat) (v6 : List Int) (k0 : List Int → Option α) : Option α :=
 let x7 := ((v6.length : Nat) : Int)
 let x8 := (decide ((2000 : Int) < x7))
 bif x8 then
  bif (decide ((2000 : Int) ≤ ((v6.length : Nat) : Int))) then
   let x9 := v6.take 2000
   k0 x9
  else
   none
 else
  k0 v6
theorem spec_l32Open_J1.ex : ∃ f : ((α : Type) → Nat → List Int → (List Int → Option α) → Option α), f = fun α => @spec_l32Open_J1.b α := ⟨_, rfl⟩
noncomputable def spec_l32Open_J1 {α : Type} : Nat → List Int → (List Int → Option α) → Option α := Classical.choose spec_l32Open_J1.ex α
theorem spec_l32Open_J1.eq : @spec_l32Open_J1 = @spec_l32Open_J1.b := funext fun α => congrFun (Classical.choose_spec spec_l32Open_J1.ex) α
/-- spec.l32Open -/
noncomputable def spec_l32Open.b {α : Type} (N : Nat) (a5 : List Int) (k0 : ((List Int) × Int × Unit) → Option α) : Option α :=
 spec_l32Open_J1 N a5
  (fun x10 =>
   k0 (x10, ((0 : Int), ())))
theorem spec_l32Open.ex : ∃ f : ((α : Type) → Nat → List Int → (((List Int) × Int × Unit) → Option α) → Option α), f = fun α => @spec_l32Open.b α := ⟨_, rfl⟩
noncomputable def spec_l32Open {α : Type} : Nat → List Int → (((List Int) × Int × Unit) → Option α) → Option α := Classical.choose spec_l32Open.ex α
theorem spec_l32Open.eq : @spec_l32Open = @spec_l32Open.b := funext fun α => congrFun (Classical.choose_spec spec_l32Open.ex) α

/-- (*spec.l32Rd).pick -/
noncomputable def spec_l32Rd_pick.b {α : Type} (N : Nat) (a14 : Int) (a15 : (List Int) × Int × Unit) (k0 : Int → ((List Int) × Int × Unit) → Option α) : Option α :=
 let x16 := (IntKind.i64.wrap (a15.2.1 + (1 : Int)))
 let x17 := (decide (a14 < (1 : Int)))
 bif x17 then
  k0 (0 : Int) (a15.1, (x16, ()))
 else
  let x18 := ((a15.1.length : Nat) : Int)
  let x19 := (decide (x18 = (0 : Int)))
  bif x19 then
   k0 (0 : Int) (a15.1, (x16, ()))
  else
   let x20 := (IntKind.i64.wrap (x16 - (1 : Int)))
   let x21 := ((a15.1.length : Nat) : Int)
   let x22 := decide (x20 < x21)
   bif x22 then
    bif (decide (x20 < (0 : Int))) then
     none
    else
     match a15.1[x20.toNat]? with
     | some x23 =>
      let x24 := IntKind.i64.wrap x23
      bif (decide (a14 = (0 : Int))) then
       none
      else
       let x25 := Int.tmod x24 a14
       k0 x25 (a15.1, (x16, ()))
     | none => none
   else
    let x26 := ((a15.1.length : Nat) : Int)
    bif (decide (x26 = (0 : Int))) then
     none
    else
     let x27 := Int.tmod x20 x26
     bif (decide (x27 < (0 : Int))) then
      none
     else
      match a15.1[x27.toNat]? with
      | some x28 =>
       let x29 := IntKind.i64.wrap x28
       let x30 := (IntKind.i64.wrap (x29 * (131 : Int)))
       let x31 := (IntKind.i64.wrap (x20 * (7 : Int)))
       let x32 := (IntKind.i64.wrap (x31 + (3 : Int)))
       let x33 := ((a15.1.length : Nat) : Int)
       bif (decide (x33 = (0 : Int))) then
        none
       else
        let x34 := Int.tmod x32 x33
        bif (decide (x34 < (0 : Int))) then
         none
        else
         match a15.1[x34.toNat]? with
         | some x35 =>
          let x36 := IntKind.i64.wrap x35
          let x37 := (IntKind.i64.wrap (x36 * (1117 : Int)))
          let x38 := IntKind.i64.wrap (x30 + x37)
          let x39 := (IntKind.i64.wrap (x20 * (29 : Int)))
          let x40 := IntKind.i64.wrap (x38 + x39)
          let x41 := ((a15.1.length : Nat) : Int)
          bif (decide (x41 = (0 : Int))) then
           none
          else
           let x42 := IntKind.i64.wrap (Int.tdiv x20 x41)
           let x43 := (IntKind.i64.wrap (x42 * (53 : Int)))
           let x44 := IntKind.i64.wrap (x40 + x43)
           let x45 := (IntKind.i64.wrap (Int.tdiv x44 (64 : Int)))
           let x46 := bitI .xor .i64 x44 x45
           bif (decide (a14 = (0 : Int))) then
            none
           else
            let x47 := Int.tmod x46 a14
            k0 x47 (a15.1, (x16, ()))
         | none => none
      | none => none
theorem spec_l32Rd_pick.ex : ∃ f : ((α : Type) → Nat → Int → ((List Int) × Int × Unit) → (Int → ((List Int) × Int × Unit) → Option α) → Option α), f = fun α => @spec_l32Rd_pick.b α := ⟨_, rfl⟩
noncomputable def spec_l32Rd_pick {α : Type} : Nat → Int → ((List Int) × Int × Unit) → (Int → ((List Int) × Int × Unit) → Option α) → Option α := Classical.choose spec_l32Rd_pick.ex α
theorem spec_l32Rd_pick.eq : @spec_l32Rd_pick = @spec_l32Rd_pick.b := funext fun α => congrFun (Classical.choose_spec spec_l32Rd_pick.ex) α

noncomputable def spec_NatOf_L0r {α : Type} (N : Nat) (next : Int → List Int → Option α) (k0 : List Int → Option α) (v77 : Int) (v78 : List Int) : Option α :=
 let x79 := (decide ((0 : Int) < v77))
 bif x79 then
  let x80 := (Int.tmod v77 (65536 : Int))
  let x81 := IntKind.i64.wrap x80
  let x82 := [x81]
  bif decide (v78.length + x82.length ≤ 8796093022208) then
   let x83 := v78 ++ x82
   let x84 := (IntKind.u64.wrap (Int.tdiv v77 (65536 : Int)))
   next x84 x83
  else
   none
 else
  k0 v78
noncomputable def spec_NatOf_L0.b {α : Type} (N n : Nat) (v77 : Int) (v78 : List Int) (k0 : List Int → Option α) : Option α :=
  Nat.rec (motive := fun _ => Int → List Int → Option α) (fun _ _ => none) (fun _ next => spec_NatOf_L0r N next k0) n v77 v78
theorem spec_NatOf_L0.ex : ∃ f : ((α : Type) → Nat → Nat → Int → List Int → (List Int → Option α) → Option α), f = fun α => @spec_NatOf_L0.b α := ⟨_, rfl⟩
noncomputable def spec_NatOf_L0 {α : Type} : Nat → Nat → Int → List Int → (List Int → Option α) → Option α := Classical.choose spec_NatOf_L0.ex α
theorem spec_NatOf_L0.eq : @spec_NatOf_L0 = @spec_NatOf_L0.b := funext fun α => congrFun (Classical.choose_spec spec_NatOf_L0.ex) α
theorem spec_NatOf_L0.zero {α : Type} (N : Nat) (v77 : Int) (v78 : List Int) (k0 : List Int → Option α) : spec_NatOf_L0 N 0 v77 v78 k0 = none := by rw [spec_NatOf_L0.eq]; rfl
theorem spec_NatOf_L0.succ {α : Type} (N n : Nat) (v77 : Int) (v78 : List Int) (k0 : List Int → Option α) : spec_NatOf_L0 N (n + 1) v77 v78 k0 = spec_NatOf_L0r N (fun y0 y1 => spec_NatOf_L0 N n y0 y1 k0) k0 v77 v78 := by rw [spec_NatOf_L0.eq]; rfl
/-- spec.NatOf -/
noncomputable def spec_NatOf.b {α : Type} (N : Nat) (a76 : Int) (k0 : List Int → Option α) : Option α :=
 spec_NatOf_L0 N N a76 []
  (fun x85 =>
   k0 x85)
theorem spec_NatOf.ex : ∃ f : ((α : Type) → Nat → Int → (List Int → Option α) → Option α), f = fun α => @spec_NatOf.b α := ⟨_, rfl⟩
noncomputable def spec_NatOf {α : Type} : Nat → Int → (List Int → Option α) → Option α := Classical.choose spec_NatOf.ex α
theorem spec_NatOf.eq : @spec_NatOf = @spec_NatOf.b := funext fun α => congrFun (Classical.choose_spec spec_NatOf.ex) α

noncomputable def spec_l32Rd_nat_J6.b {α : Type} (N : Nat) (v62 : Int) (v63 : (List Int) × Int × Unit) (k0 : Int → ((List Int) × Int × Unit) → Option α) : Option α :=
 spec_l32Rd_pick N (6 : Int) v63
  (fun x64 x65 =>
   let x66 := (decide (x64 = (0 : Int)))
   bif x66 then
    spec_l32Rd_pick N (3 : Int) x65
     (fun x67 x68 =>
      let x69 := (IntKind.i64.wrap ((256 : Int) - x67))
      k0 x69 x68)
   else
    k0 v62 x65)
theorem spec_l32Rd_nat_J6.ex : ∃ f : ((α : Type) → Nat → Int → ((List Int) × Int × Unit) → (Int → ((List Int) × Int × Unit) → Option α) → Option α), f = fun α => @spec_l32Rd_nat_J6.b α := ⟨_, rfl⟩
noncomputable def spec_l32Rd_nat_J6 {α : Type} : Nat → Int → ((List Int) × Int × Unit) → (Int → ((List Int) × Int × Unit) → Option α) → Option α := Classical.choose spec_l32Rd_nat_J6.ex α
theorem spec_l32Rd_nat_J6.eq : @spec_l32Rd_nat_J6 = @spec_l32Rd_nat_J6.b := funext fun α => congrFun (Classical.choose_spec spec_l32Rd_nat_J6.ex) α
noncomputable def spec_l32Rd_nat_J5.b {α : Type} (N : Nat) (v58 : Int) (v59 : Int) (v60 : (List Int) × Int × Unit) (k0 : Int → ((List Int) × Int × Unit) → Option α) (k1 : ((List Int) × Int × Unit) → List Int → Option α) : Option α :=
 let x61 := (decide (v59 = (1 : Int)))
 bif x61 then
  spec_l32Rd_nat_J6 N v58 v60
   (fun x70 x71 =>
    k0 x70 x71)
 else
  let x72 := (decide (v59 = (2 : Int)))
  bif x72 then
   spec_l32Rd_pick N (12 : Int) v60
    (fun x73 x74 =>
     let x75 := IntKind.u64.wrap x73
     spec_NatOf N x75
      (fun x86 =>
       k1 x74 x86))
  else
   k0 v58 v60
theorem spec_l32Rd_nat_J5.ex : ∃ f : ((α : Type) → Nat → Int → Int → ((List Int) × Int × Unit) → (Int → ((List Int) × Int × Unit) → Option α) → (((List Int) × Int × Unit) → List Int → Option α) → Option α), f = fun α => @spec_l32Rd_nat_J5.b α := ⟨_, rfl⟩
noncomputable def spec_l32Rd_nat_J5 {α : Type} : Nat → Int → Int → ((List Int) × Int × Unit) → (Int → ((List Int) × Int × Unit) → Option α) → (((List Int) × Int × Unit) → List Int → Option α) → Option α := Classical.choose spec_l32Rd_nat_J5.ex α
theorem spec_l32Rd_nat_J5.eq : @spec_l32Rd_nat_J5 = @spec_l32Rd_nat_J5.b := funext fun α => congrFun (Classical.choose_spec spec_l32Rd_nat_J5.ex) α
noncomputable def spec_l32Rd_nat_J3.b {α : Type} (N : Nat) (v52 : Int) (v53 : Int) (v54 : (List Int) × Int × Unit) (k0 : Int → ((List Int) × Int × Unit) → Option α) (k1 : ((List Int) × Int × Unit) → List Int → Option α) : Option α :=
 let x55 := (decide (v53 = (0 : Int)))
 bif x55 then
  spec_l32Rd_pick N (24 : Int) v54
   (fun x56 x57 =>
    k0 x56 x57)
 else
  spec_l32Rd_nat_J5 N v52 v53 v54
   (fun x87 x88 =>
    k0 x87 x88)
   (fun x89 x90 =>
    k1 x89 x90)
theorem spec_l32Rd_nat_J3.ex : ∃ f : ((α : Type) → Nat → Int → Int → ((List Int) × Int × Unit) → (Int → ((List Int) × Int × Unit) → Option α) → (((List Int) × Int × Unit) → List Int → Option α) → Option α), f = fun α => @spec_l32Rd_nat_J3.b α := ⟨_, rfl⟩
noncomputable def spec_l32Rd_nat_J3 {α : Type} : Nat → Int → Int → ((List Int) × Int × Unit) → (Int → ((List Int) × Int × Unit) → Option α) → (((List Int) × Int × Unit) → List Int → Option α) → Option α := Classical.choose spec_l32Rd_nat_J3.ex α
theorem spec_l32Rd_nat_J3.eq : @spec_l32Rd_nat_J3 = @spec_l32Rd_nat_J3.b := funext fun α => congrFun (Classical.choose_spec spec_l32Rd_nat_J3.ex) α
noncomputable def spec_l32Rd_nat_J16.b {α : Type} (N : Nat) (v107 : Int) (v108 : Int) (v109 : Int) (v110 : Int) (v111 : (List Int) × Int × Unit) (v112 : List Int) (k0 : Int → Int → Int → Int → ((List Int) × Int × Unit) → List Int → Option α) : Option α :=
 let x113 := (decide (v108 = (0 : Int)))
 bif x113 then
  k0 v107 v108 v109 (65535 : Int) v111 v112
 else
  k0 v107 v108 v109 v110 v111 v112
theorem spec_l32Rd_nat_J16.ex : ∃ f : ((α : Type) → Nat → Int → Int → Int → Int → ((List Int) × Int × Unit) → List Int → (Int → Int → Int → Int → ((List Int) × Int × Unit) → List Int → Option α) → Option α), f = fun α => @spec_l32Rd_nat_J16.b α := ⟨_, rfl⟩
noncomputable def spec_l32Rd_nat_J16 {α : Type} : Nat → Int → Int → Int → Int → ((List Int) × Int × Unit) → List Int → (Int → Int → Int → Int → ((List Int) × Int × Unit) → List Int → Option α) → Option α := Classical.choose spec_l32Rd_nat_J16.ex α
theorem spec_l32Rd_nat_J16.eq : @spec_l32Rd_nat_J16 = @spec_l32Rd_nat_J16.b := funext fun α => congrFun (Classical.choose_spec spec_l32Rd_nat_J16.ex) α
noncomputable def spec_l32Rd_nat_J18.b {α : Type} (N : Nat) (v120 : Int) (v121 : Int) (v122 : Int) (v123 : Int) (v124 : (List Int) × Int × Unit) (v125 : List Int) (k0 : Int → Int → Int → Int → ((List Int) × Int × Unit) → List Int → Option α) : Option α :=
 let x126 := (decide (v121 = (1 : Int)))
 bif x126 then
  k0 v120 v121 v122 (0 : Int) v124 v125
 else
  k0 v120 v121 v122 v123 v124 v125
theorem spec_l32Rd_nat_J18.ex : ∃ f : ((α : Type) → Nat → Int → Int → Int → Int → ((List Int) × Int × Unit) → List Int → (Int → Int → Int → Int → ((List Int) × Int × Unit) → List Int → Option α) → Option α), f = fun α => @spec_l32Rd_nat_J18.b α := ⟨_, rfl⟩
noncomputable def spec_l32Rd_nat_J18 {α : Type} : Nat → Int → Int → Int → Int → ((List Int) × Int × Unit) → List Int → (Int → Int → Int → Int → ((List Int) × Int × Unit) → List Int → Option α) → Option α := Classical.choose spec_l32Rd_nat_J18.ex α
theorem spec_l32Rd_nat_J18.eq : @spec_l32Rd_nat_J18 = @spec_l32Rd_nat_J18.b := funext fun α => congrFun (Classical.choose_spec spec_l32Rd_nat_J18.ex) α
noncomputable def spec_l32Rd_nat_L1r {α : Type} (N : Nat) (next : Int → Int → Int → ((List Int) × Int × Unit) → List Int → Option α) (k0 : Int → ((List Int) × Int × Unit) → List Int → Option α) (v95 : Int) (v96 : Int) (v97 : Int) (v98 : (List Int) × Int × Unit) (v99 : List Int) : Option α :=
 let x100 := decide (v97 < v95)
 bif x100 then
  spec_l32Rd_pick N (256 : Int) v98
   (fun x101 x102 =>
    let x103 := (IntKind.i64.wrap (x101 * (256 : Int)))
    spec_l32Rd_pick N (256 : Int) x102
     (fun x104 x105 =>
      let x106 := IntKind.i64.wrap (x103 + x104)
      spec_l32Rd_nat_J16 N v95 v96 v97 x106 x105 v99
       (fun x114 x115 x116 x117 x118 x119 =>
        spec_l32Rd_nat_J18 N x114 x115 x116 x117 x118 x119
         (fun x127 x128 x129 x130 x131 x132 =>
          let x133 := [x130]
          bif decide (x132.length + x133.length ≤ 8796093022208) then
           let x134 := x132 ++ x133
           let x135 := (IntKind.i64.wrap (x129 + (1 : Int)))
           next x127 x128 x135 x131 x134
          else
           none))))
 else
  k0 v95 v98 v99
noncomputable def spec_l32Rd_nat_L1.b {α : Type} (N n : Nat) (v95 : Int) (v96 : Int) (v97 : Int) (v98 : (List Int) × Int × Unit) (v99 : List Int) (k0 : Int → ((List Int) × Int × Unit) → List Int → Option α) : Option α :=
  Nat.rec (motive := fun _ => Int → Int → Int → ((List Int) × Int × Unit) → List Int → Option α) (fun _ _ _ _ _ => none) (fun _ next => spec_l32Rd_nat_L1r N next k0) n v95 v96 v97 v98 v99
theorem spec_l32Rd_nat_L1.ex : ∃ f : ((α : Type) → Nat → Nat → Int → Int → Int → ((List Int) × Int × Unit) → List Int → (Int → ((List Int) × Int × Unit) → List Int → Option α) → Option α), f = fun α => @spec_l32Rd_nat_L1.b α := ⟨_, rfl⟩
noncomputable def spec_l32Rd_nat_L1 {α : Type} : Nat → Nat → Int → Int → Int → ((List Int) × Int × Unit) → List Int → (Int → ((List Int) × Int × Unit) → List Int → Option α) → Option α := Classical.choose spec_l32Rd_nat_L1.ex α
theorem spec_l32Rd_nat_L1.eq : @spec_l32Rd_nat_L1 = @spec_l32Rd_nat_L1.b := funext fun α => congrFun (Classical.choose_spec spec_l32Rd_nat_L1.ex) α
theorem spec_l32Rd_nat_L1.zero {α : Type} (N : Nat) (v95 : Int) (v96 : Int) (v97 : Int) (v98 : (List Int) × Int × Unit) (v99 : List Int) (k0 : Int → ((List Int) × Int × Unit) → List Int → Option α) : spec_l32Rd_nat_L1 N 0 v95 v96 v97 v98 v99 k0 = none := by rw [spec_l32Rd_nat_L1.eq]; rfl
theorem spec_l32Rd_nat_L1.succ {α : Type} (N n : Nat) (v95 : Int) (v96 : Int) (v97 : Int) (v98 : (List Int) × Int × Unit) (v99 : List Int) (k0 : Int → ((List Int) × Int × Unit) → List Int → Option α) : spec_l32Rd_nat_L1 N (n + 1) v95 v96 v97 v98 v99 k0 = spec_l32Rd_nat_L1r N (fun y0 y1 y2 y3 y4 => spec_l32Rd_nat_L1 N n y0 y1 y2 y3 y4 k0) k0 v95 v96 v97 v98 v99 := by rw [spec_l32Rd_nat_L1.eq]; rfl
noncomputable def spec_l32Rd_nat_J21.b {α : Type} (N : Nat) (v139 : Int) (v140 : (List Int) × Int × Unit) (v141 : List Int) (k0 : ((List Int) × Int × Unit) → List Int → Option α) : Option α :=
 let x142 := (decide ((0 : Int) < v139))
 bif x142 then
  let x143 := (IntKind.i64.wrap (v139 - (1 : Int)))
  bif (decide (x143 < (0 : Int))) then
   none
  else
   bif decide (x143.toNat < v141.length) then
    match v141[x143.toNat]? with
    | some x144 =>
     let x145 := (decide (x144 = (0 : Int)))
     bif x145 then
      let x146 := (IntKind.i64.wrap (v139 - (1 : Int)))
      spec_l32Rd_pick N (16 : Int) v140
       (fun x147 x148 =>
        let x149 := IntKind.u64.wrap x147
        bif (decide (x149 < (0 : Int))) then
         none
        else
         let x150 := (shlI .i64 (1 : Int) x149)
         bif (decide (x146 < (0 : Int))) then
          none
         else
          bif decide (x146.toNat < v141.length) then
           match v141[x146.toNat]? with
           | some x151 =>
            let x152 := v141.set x146.toNat x150
            k0 x148 x152
           | none => none
          else
           none)
     else
      k0 v140 v141
    | none => none
   else
    none
 else
  k0 v140 v141
theorem spec_l32Rd_nat_J21.ex : ∃ f : ((α : Type) → Nat → Int → ((List Int) × Int × Unit) → List Int → (((List Int) × Int × Unit) → List Int → Option α) → Option α), f = fun α => @spec_l32Rd_nat_J21.b α := ⟨_, rfl⟩
noncomputable def spec_l32Rd_nat_J21 {α : Type} : Nat → Int → ((List Int) × Int × Unit) → List Int → (((List Int) × Int × Unit) → List Int → Option α) → Option α := Classical.choose spec_l32Rd_nat_J21.ex α
theorem spec_l32Rd_nat_J21.eq : @spec_l32Rd_nat_J21 = @spec_l32Rd_nat_J21.b := funext fun α => congrFun (Classical.choose_spec spec_l32Rd_nat_J21.ex) α
/-- (*spec.l32Rd).nat -/
noncomputable def spec_l32Rd_nat.b {α : Type} (N : Nat) (a13 : (List Int) × Int × Unit) (k0 : ((List Int) × Int × Unit) → List Int → Option α) : Option α :=
 spec_l32Rd_pick N (4 : Int) a13
  (fun x48 x49 =>
   spec_l32Rd_pick N (16 : Int) x49
    (fun x50 x51 =>
     spec_l32Rd_nat_J3 N x48 x50 x51
      (fun x91 x92 =>
       spec_l32Rd_pick N (5 : Int) x92
        (fun x93 x94 =>
         spec_l32Rd_nat_L1 N N x91 x93 (0 : Int) x94 []
          (fun x136 x137 x138 =>
           spec_l32Rd_nat_J21 N x136 x137 x138
            (fun x153 x154 =>
             k0 x153 x154))))
      (fun x155 x156 =>
       k0 x155 x156)))
theorem spec_l32Rd_nat.ex : ∃ f : ((α : Type) → Nat → ((List Int) × Int × Unit) → (((List Int) × Int × Unit) → List Int → Option α) → Option α), f = fun α => @spec_l32Rd_nat.b α := ⟨_, rfl⟩
noncomputable def spec_l32Rd_nat {α : Type} : Nat → ((List Int) × Int × Unit) → (((List Int) × Int × Unit) → List Int → Option α) → Option α := Classical.choose spec_l32Rd_nat.ex α
theorem spec_l32Rd_nat.eq : @spec_l32Rd_nat = @spec_l32Rd_nat.b := funext fun α => congrFun (Classical.choose_spec spec_l32Rd_nat.ex) α

noncomputable def spec_l32Rd_raw_L1r {α : Type} (N : Nat) (next : ((List Int) × Int × Unit) → List Int → Option α) (k0 : ((List Int) × Int × Unit) → List Int → Option α) (v183 : (List Int) × Int × Unit) (v184 : List Int) : Option α :=
 let x185 := ((v184.length : Nat) : Int)
 let x186 := (decide (x185 ≤ (256 : Int)))
 bif x186 then
  let x187 := [(1 : Int)]
  bif decide (v184.length + x187.length ≤ 8796093022208) then
   let x188 := v184 ++ x187
   next v183 x188
  else
   none
 else
  k0 v183 v184
noncomputable def spec_l32Rd_raw_L1.b {α : Type} (N n : Nat) (v183 : (List Int) × Int × Unit) (v184 : List Int) (k0 : ((List Int) × Int × Unit) → List Int → Option α) : Option α :=
  Nat.rec (motive := fun _ => ((List Int) × Int × Unit) → List Int → Option α) (fun _ _ => none) (fun _ next => spec_l32Rd_raw_L1r N next k0) n v183 v184
theorem spec_l32Rd_raw_L1.ex : ∃ f : ((α : Type) → Nat → Nat → ((List Int) × Int × Unit) → List Int → (((List Int) × Int × Unit) → List Int → Option α) → Option α), f = fun α => @spec_l32Rd_raw_L1.b α := ⟨_, rfl⟩
noncomputable def spec_l32Rd_raw_L1 {α : Type} : Nat → Nat → ((List Int) × Int × Unit) → List Int → (((List Int) × Int × Unit) → List Int → Option α) → Option α := Classical.choose spec_l32Rd_raw_L1.ex α
theorem spec_l32Rd_raw_L1.eq : @spec_l32Rd_raw_L1 = @spec_l32Rd_raw_L1.b := funext fun α => congrFun (Classical.choose_spec spec_l32Rd_raw_L1.ex) α
theorem spec_l32Rd_raw_L1.zero {α : Type} (N : Nat) (v183 : (List Int) × Int × Unit) (v184 : List Int) (k0 : ((List Int) × Int × Unit) → List Int → Option α) : spec_l32Rd_raw_L1 N 0 v183 v184 k0 = none := by rw [spec_l32Rd_raw_L1.eq]; rfl
theorem spec_l32Rd_raw_L1.succ {α : Type} (N n : Nat) (v183 : (List Int) × Int × Unit) (v184 : List Int) (k0 : ((List Int) × Int × Unit) → List Int → Option α) : spec_l32Rd_raw_L1 N (n + 1) v183 v184 k0 = spec_l32Rd_raw_L1r N (fun y0 y1 => spec_l32Rd_raw_L1 N n y0 y1 k0) k0 v183 v184 := by rw [spec_l32Rd_raw_L1.eq]; rfl
noncomputable def spec_l32Rd_raw_J9.b {α : Type} (N : Nat) (v179 : Int) (v180 : (List Int) × Int × Unit) (v181 : List Int) (k0 : ((List Int) × Int × Unit) → List Int → Option α) : Option α :=
 let x182 := (decide (v179 = (3 : Int)))
 bif x182 then
  spec_l32Rd_raw_L1 N N v180 v181
   (fun x189 x190 =>
    k0 x189 x190)
 else
  k0 v180 v181
theorem spec_l32Rd_raw_J9.ex : ∃ f : ((α : Type) → Nat → Int → ((List Int) × Int × Unit) → List Int → (((List Int) × Int × Unit) → List Int → Option α) → Option α), f = fun α => @spec_l32Rd_raw_J9.b α := ⟨_, rfl⟩
noncomputable def spec_l32Rd_raw_J9 {α : Type} : Nat → Int → ((List Int) × Int × Unit) → List Int → (((List Int) × Int × Unit) → List Int → Option α) → Option α := Classical.choose spec_l32Rd_raw_J9.ex α
theorem spec_l32Rd_raw_J9.eq : @spec_l32Rd_raw_J9 = @spec_l32Rd_raw_J9.b := funext fun α => congrFun (Classical.choose_spec spec_l32Rd_raw_J9.ex) α
noncomputable def spec_l32Rd_raw_J7.b {α : Type} (N : Nat) (v173 : Int) (v174 : (List Int) × Int × Unit) (v175 : List Int) (k0 : ((List Int) × Int × Unit) → List Int → Option α) : Option α :=
 let x176 := (decide (v173 = (2 : Int)))
 bif x176 then
  let x177 := [(-1 : Int)]
  bif decide (v175.length + x177.length ≤ 8796093022208) then
   let x178 := v175 ++ x177
   k0 v174 x178
  else
   none
 else
  spec_l32Rd_raw_J9 N v173 v174 v175
   (fun x191 x192 =>
    k0 x191 x192)
theorem spec_l32Rd_raw_J7.ex : ∃ f : ((α : Type) → Nat → Int → ((List Int) × Int × Unit) → List Int → (((List Int) × Int × Unit) → List Int → Option α) → Option α), f = fun α => @spec_l32Rd_raw_J7.b α := ⟨_, rfl⟩
noncomputable def spec_l32Rd_raw_J7 {α : Type} : Nat → Int → ((List Int) × Int × Unit) → List Int → (((List Int) × Int × Unit) → List Int → Option α) → Option α := Classical.choose spec_l32Rd_raw_J7.ex α
theorem spec_l32Rd_raw_J7.eq : @spec_l32Rd_raw_J7 = @spec_l32Rd_raw_J7.b := funext fun α => congrFun (Classical.choose_spec spec_l32Rd_raw_J7.ex) α
noncomputable def spec_l32Rd_raw_J5.b {α : Type} (N : Nat) (v167 : Int) (v168 : (List Int) × Int × Unit) (v169 : List Int) (k0 : ((List Int) × Int × Unit) → List Int → Option α) : Option α :=
 let x170 := (decide (v167 = (1 : Int)))
 bif x170 then
  let x171 := [(65536 : Int)]
  bif decide (v169.length + x171.length ≤ 8796093022208) then
   let x172 := v169 ++ x171
   k0 v168 x172
  else
   none
 else
  spec_l32Rd_raw_J7 N v167 v168 v169
   (fun x193 x194 =>
    k0 x193 x194)
theorem spec_l32Rd_raw_J5.ex : ∃ f : ((α : Type) → Nat → Int → ((List Int) × Int × Unit) → List Int → (((List Int) × Int × Unit) → List Int → Option α) → Option α), f = fun α => @spec_l32Rd_raw_J5.b α := ⟨_, rfl⟩
noncomputable def spec_l32Rd_raw_J5 {α : Type} : Nat → Int → ((List Int) × Int × Unit) → List Int → (((List Int) × Int × Unit) → List Int → Option α) → Option α := Classical.choose spec_l32Rd_raw_J5.ex α
theorem spec_l32Rd_raw_J5.eq : @spec_l32Rd_raw_J5 = @spec_l32Rd_raw_J5.b := funext fun α => congrFun (Classical.choose_spec spec_l32Rd_raw_J5.ex) α
noncomputable def spec_l32Rd_raw_J3.b {α : Type} (N : Nat) (v161 : Int) (v162 : (List Int) × Int × Unit) (v163 : List Int) (k0 : ((List Int) × Int × Unit) → List Int → Option α) : Option α :=
 let x164 := (decide (v161 = (0 : Int)))
 bif x164 then
  let x165 := [(0 : Int)]
  bif decide (v163.length + x165.length ≤ 8796093022208) then
   let x166 := v163 ++ x165
   k0 v162 x166
  else
   none
 else
  spec_l32Rd_raw_J5 N v161 v162 v163
   (fun x195 x196 =>
    k0 x195 x196)
theorem spec_l32Rd_raw_J3.ex : ∃ f : ((α : Type) → Nat → Int → ((List Int) × Int × Unit) → List Int → (((List Int) × Int × Unit) → List Int → Option α) → Option α), f = fun α => @spec_l32Rd_raw_J3.b α := ⟨_, rfl⟩
noncomputable def spec_l32Rd_raw_J3 {α : Type} : Nat → Int → ((List Int) × Int × Unit) → List Int → (((List Int) × Int × Unit) → List Int → Option α) → Option α := Classical.choose spec_l32Rd_raw_J3.ex α
theorem spec_l32Rd_raw_J3.eq : @spec_l32Rd_raw_J3 = @spec_l32Rd_raw_J3.b := funext fun α => congrFun (Classical.choose_spec spec_l32Rd_raw_J3.ex) α
/-- (*spec.l32Rd).raw -/
noncomputable def spec_l32Rd_raw.b {α : Type} (N : Nat) (a12 : (List Int) × Int × Unit) (k0 : ((List Int) × Int × Unit) → List Int → Option α) : Option α :=
 spec_l32Rd_nat N a12
  (fun x157 x158 =>
   spec_l32Rd_pick N (80 : Int) x157
    (fun x159 x160 =>
     spec_l32Rd_raw_J3 N x159 x160 x158
      (fun x197 x198 =>
       k0 x197 x198)))
theorem spec_l32Rd_raw.ex : ∃ f : ((α : Type) → Nat → ((List Int) × Int × Unit) → (((List Int) × Int × Unit) → List Int → Option α) → Option α), f = fun α => @spec_l32Rd_raw.b α := ⟨_, rfl⟩
noncomputable def spec_l32Rd_raw {α : Type} : Nat → ((List Int) × Int × Unit) → (((List Int) × Int × Unit) → List Int → Option α) → Option α := Classical.choose spec_l32Rd_raw.ex α
theorem spec_l32Rd_raw.eq : @spec_l32Rd_raw = @spec_l32Rd_raw.b := funext fun α => congrFun (Classical.choose_spec spec_l32Rd_raw.ex) α

/-- spec.DrawNatText -/
noncomputable def spec_DrawNatText.b {α : Type} (N : Nat) (a4 : List Int) (k0 : List Int → Option α) : Option α :=
 spec_l32Open N a4
  (fun x11 =>
   spec_l32Rd_raw N x11
    (fun _ x200 =>
     k0 x200))
theorem spec_DrawNatText.ex : ∃ f : ((α : Type) → Nat → List Int → (List Int → Option α) → Option α), f = fun α => @spec_DrawNatText.b α := ⟨_, rfl⟩
noncomputable def spec_DrawNatText {α : Type} : Nat → List Int → (List Int → Option α) → Option α := Classical.choose spec_DrawNatText.ex α
theorem spec_DrawNatText.eq : @spec_DrawNatText = @spec_DrawNatText.b := funext fun α => congrFun (Classical.choose_spec spec_DrawNatText.ex) α

/-- impl.in -/
noncomputable def impl_in.b {α : Type} (N : Nat) (a217 : Int) (a218 : Int) (a219 : Int) (k0 : Bool → Option α) : Option α :=
 let x220 := decide (a218 ≤ a217)
 bif x220 then
  let x221 := decide (a217 ≤ a219)
  k0 x221
 else
  k0 false
theorem impl_in.ex : ∃ f : ((α : Type) → Nat → Int → Int → Int → (Bool → Option α) → Option α), f = fun α => @impl_in.b α := ⟨_, rfl⟩
noncomputable def impl_in {α : Type} : Nat → Int → Int → Int → (Bool → Option α) → Option α := Classical.choose impl_in.ex α
theorem impl_in.eq : @impl_in = @impl_in.b := funext fun α => congrFun (Classical.choose_spec impl_in.ex) α

/-- impl.NatOk$1 -/
noncomputable def impl_NatOk_1.b {α : Type} (N : Nat) (a216 : Int) (k0 : Bool → Option α) : Option α :=
 impl_in N a216 (0 : Int) (65535 : Int)
  (fun x222 =>
   let x223 := !x222
   k0 x223)
theorem impl_NatOk_1.ex : ∃ f : ((α : Type) → Nat → Int → (Bool → Option α) → Option α), f = fun α => @impl_NatOk_1.b α := ⟨_, rfl⟩
noncomputable def impl_NatOk_1 {α : Type} : Nat → Int → (Bool → Option α) → Option α := Classical.choose impl_NatOk_1.ex α
theorem impl_NatOk_1.eq : @impl_NatOk_1 = @impl_NatOk_1.b := funext fun α => congrFun (Classical.choose_spec impl_NatOk_1.ex) α

noncomputable def slices_IndexFunc_int_int__impl_NatOk_1_L0r {α : Type} (N : Nat) (next : List Int → Int → Int → Option α) (k0 : Int → Option α) (k1 : Option α) (v211 : List Int) (v212 : Int) (v213 : Int) : Option α :=
 let x214 := decide (v213 < v212)
 bif x214 then
  bif (decide (v213 < (0 : Int))) then
   none
  else
   match v211[v213.toNat]? with
   | some x215 =>
    impl_NatOk_1 N x215
     (fun x224 =>
      bif x224 then
       k0 v213
      else
       let x225 := (IntKind.i64.wrap (v213 + (1 : Int)))
       next v211 v212 x225)
   | none => none
 else
  k1
noncomputable def slices_IndexFunc_int_int__impl_NatOk_1_L0.b {α : Type} (N n : Nat) (v211 : List Int) (v212 : Int) (v213 : Int) (k0 : Int → Option α) (k1 : Option α) : Option α :=
  Nat.rec (motive := fun _ => List Int → Int → Int → Option α) (fun _ _ _ => none) (fun _ next => slices_IndexFunc_int_int__impl_NatOk_1_L0r N next k0 k1) n v211 v212 v213
theorem slices_IndexFunc_int_int__impl_NatOk_1_L0.ex : ∃ f : ((α : Type) → Nat → Nat → List Int → Int → Int → (Int → Option α) → (Option α) → Option α), f = fun α => @slices_IndexFunc_int_int__impl_NatOk_1_L0.b α := ⟨_, rfl⟩
noncomputable def slices_IndexFunc_int_int__impl_NatOk_1_L0 {α : Type} : Nat → Nat → List Int → Int → Int → (Int → Option α) → (Option α) → Option α := Classical.choose slices_IndexFunc_int_int__impl_NatOk_1_L0.ex α
theorem slices_IndexFunc_int_int__impl_NatOk_1_L0.eq : @slices_IndexFunc_int_int__impl_NatOk_1_L0 = @slices_IndexFunc_int_int__impl_NatOk_1_L0.b := funext fun α => congrFun (Classical.choose_spec slices_IndexFunc_int_int__impl_NatOk_1_L0.ex) α
theorem slices_IndexFunc_int_int__impl_NatOk_1_L0.zero {α : Type} (N : Nat) (v211 : List Int) (v212 : Int) (v213 : Int) (k0 : Int → Option α) (k1 : Option α) : slices_IndexFunc_int_int__impl_NatOk_1_L0 N 0 v211 v212 v213 k0 k1 = none := by rw [slices_IndexFunc_int_int__impl_NatOk_1_L0.eq]; rfl
theorem slices_IndexFunc_int_int__impl_NatOk_1_L0.succ {α : Type} (N n : Nat) (v211 : List Int) (v212 : Int) (v213 : Int) (k0 : Int → Option α) (k1 : Option α) : slices_IndexFunc_int_int__impl_NatOk_1_L0 N (n + 1) v211 v212 v213 k0 k1 = slices_IndexFunc_int_int__impl_NatOk_1_L0r N (fun y0 y1 y2 => slices_IndexFunc_int_int__impl_NatOk_1_L0 N n y0 y1 y2 k0 k1) k0 k1 v211 v212 v213 := by rw [slices_IndexFunc_int_int__impl_NatOk_1_L0.eq]; rfl
/-- slices.IndexFunc[[]int,int] -/
noncomputable def slices_IndexFunc_int_int__impl_NatOk_1.b {α : Type} (N : Nat) (a209 : List Int) (k0 : Int → Option α) : Option α :=
 let x210 := ((a209.length : Nat) : Int)
 slices_IndexFunc_int_int__impl_NatOk_1_L0 N N a209 x210 (0 : Int)
  (fun x226 =>
   k0 x226)
  (
   k0 (-1 : Int))
theorem slices_IndexFunc_int_int__impl_NatOk_1.ex : ∃ f : ((α : Type) → Nat → List Int → (Int → Option α) → Option α), f = fun α => @slices_IndexFunc_int_int__impl_NatOk_1.b α := ⟨_, rfl⟩
noncomputable def slices_IndexFunc_int_int__impl_NatOk_1 {α : Type} : Nat → List Int → (Int → Option α) → Option α := Classical.choose slices_IndexFunc_int_int__impl_NatOk_1.ex α
theorem slices_IndexFunc_int_int__impl_NatOk_1.eq : @slices_IndexFunc_int_int__impl_NatOk_1 = @slices_IndexFunc_int_int__impl_NatOk_1.b := funext fun α => congrFun (Classical.choose_spec slices_IndexFunc_int_int__impl_NatOk_1.ex) α

/-- slices.ContainsFunc[[]int,int] -/
noncomputable def slices_ContainsFunc_int_int__impl_NatOk_1.b {α : Type} (N : Nat) (a208 : List Int) (k0 : Bool → Option α) : Option α :=
 slices_IndexFunc_int_int__impl_NatOk_1 N a208
  (fun x227 =>
   let x228 := (decide ((0 : Int) ≤ x227))
   k0 x228)
theorem slices_ContainsFunc_int_int__impl_NatOk_1.ex : ∃ f : ((α : Type) → Nat → List Int → (Bool → Option α) → Option α), f = fun α => @slices_ContainsFunc_int_int__impl_NatOk_1.b α := ⟨_, rfl⟩
noncomputable def slices_ContainsFunc_int_int__impl_NatOk_1 {α : Type} : Nat → List Int → (Bool → Option α) → Option α := Classical.choose slices_ContainsFunc_int_int__impl_NatOk_1.ex α
theorem slices_ContainsFunc_int_int__impl_NatOk_1.eq : @slices_ContainsFunc_int_int__impl_NatOk_1 = @slices_ContainsFunc_int_int__impl_NatOk_1.b := funext fun α => congrFun (Classical.choose_spec slices_ContainsFunc_int_int__impl_NatOk_1.ex) α

/-- impl.NatOk -/
noncomputable def impl_NatOk.b {α : Type} (N : Nat) (a203 : List Int) (k0 : Bool → Option α) : Option α :=
 let x204 := ((a203.length : Nat) : Int)
 let x205 := (decide (x204 ≤ (256 : Int)))
 bif x205 then
  let x206 := ((a203.length : Nat) : Int)
  let x207 := (decide (x206 = (0 : Int)))
  bif x207 then
   slices_ContainsFunc_int_int__impl_NatOk_1 N a203
    (fun x229 =>
     let x230 := !x229
     k0 x230)
  else
   let x231 := ((a203.length : Nat) : Int)
   let x232 := (IntKind.i64.wrap (x231 - (1 : Int)))
   bif (decide (x232 < (0 : Int))) then
    none
   else
    match a203[x232.toNat]? with
    | some x233 =>
     let x234 := (!(decide (x233 = (0 : Int))))
     bif x234 then
      slices_ContainsFunc_int_int__impl_NatOk_1 N a203
       (fun x235 =>
        let x236 := !x235
        k0 x236)
     else
      k0 false
    | none => none
 else
  k0 false
theorem impl_NatOk.ex : ∃ f : ((α : Type) → Nat → List Int → (Bool → Option α) → Option α), f = fun α => @impl_NatOk.b α := ⟨_, rfl⟩
noncomputable def impl_NatOk {α : Type} : Nat → List Int → (Bool → Option α) → Option α := Classical.choose impl_NatOk.ex α
theorem impl_NatOk.eq : @impl_NatOk = @impl_NatOk.b := funext fun α => congrFun (Classical.choose_spec impl_NatOk.ex) α

noncomputable def impl_natCmp_L0r {α : Type} (N : Nat) (next : List Int → List Int → Int → Option α) (k0 : Int → Option α) (k1 : Option α) (v330 : List Int) (v331 : List Int) (v332 : Int) : Option α :=
 let x333 := (decide ((0 : Int) ≤ v332))
 bif x333 then
  bif (decide (v332 < (0 : Int))) then
   none
  else
   match v330[v332.toNat]? with
   | some x334 =>
    bif (decide (v332 < (0 : Int))) then
     none
    else
     match v331[v332.toNat]? with
     | some x335 =>
      let x336 := !(decide (x334 = x335))
      bif x336 then
       bif (decide (v332 < (0 : Int))) then
        none
       else
        match v330[v332.toNat]? with
        | some x337 =>
         bif (decide (v332 < (0 : Int))) then
          none
         else
          match v331[v332.toNat]? with
          | some x338 =>
           let x339 := IntKind.i64.wrap (x337 - x338)
           let x340 := (minI (1 : Int) x339)
           let x341 := (maxI (-1 : Int) x340)
           k0 x341
          | none => none
        | none => none
      else
       let x342 := (IntKind.i64.wrap (v332 - (1 : Int)))
       next v330 v331 x342
     | none => none
   | none => none
 else
  k1
noncomputable def impl_natCmp_L0.b {α : Type} (N n : Nat) (v330 : List Int) (v331 : List Int) (v332 : Int) (k0 : Int → Option α) (k1 : Option α) : Option α :=
  Nat.rec (motive := fun _ => List Int → List Int → Int → Option α) (fun _ _ _ => none) (fun _ next => impl_natCmp_L0r N next k0 k1) n v330 v331 v332
theorem impl_natCmp_L0.ex : ∃ f : ((α : Type) → Nat → Nat → List Int → List Int → Int → (Int → Option α) → (Option α) → Option α), f = fun α => @impl_natCmp_L0.b α := ⟨_, rfl⟩
noncomputable def impl_natCmp_L0 {α : Type} : Nat → Nat → List Int → List Int → Int → (Int → Option α) → (Option α) → Option α := Classical.choose impl_natCmp_L0.ex α
theorem impl_natCmp_L0.eq : @impl_natCmp_L0 = @impl_natCmp_L0.b := funext fun α => congrFun (Classical.choose_spec impl_natCmp_L0.ex) α
theorem impl_natCmp_L0.zero {α : Type} (N : Nat) (v330 : List Int) (v331 : List Int) (v332 : Int) (k0 : Int → Option α) (k1 : Option α) : impl_natCmp_L0 N 0 v330 v331 v332 k0 k1 = none := by rw [impl_natCmp_L0.eq]; rfl
theorem impl_natCmp_L0.succ {α : Type} (N n : Nat) (v330 : List Int) (v331 : List Int) (v332 : Int) (k0 : Int → Option α) (k1 : Option α) : impl_natCmp_L0 N (n + 1) v330 v331 v332 k0 k1 = impl_natCmp_L0r N (fun y0 y1 y2 => impl_natCmp_L0 N n y0 y1 y2 k0 k1) k0 k1 v330 v331 v332 := by rw [impl_natCmp_L0.eq]; rfl
/-- impl.natCmp -/
noncomputable def impl_natCmp.b {α : Type} (N : Nat) (a318 : List Int) (a319 : List Int) (k0 : Int → Option α) : Option α :=
 let x320 := ((a318.length : Nat) : Int)
 let x321 := ((a319.length : Nat) : Int)
 let x322 := !(decide (x320 = x321))
 bif x322 then
  let x323 := ((a318.length : Nat) : Int)
  let x324 := ((a319.length : Nat) : Int)
  let x325 := IntKind.i64.wrap (x323 - x324)
  let x326 := (minI (1 : Int) x325)
  let x327 := (maxI (-1 : Int) x326)
  k0 x327
 else
  let x328 := ((a318.length : Nat) : Int)
  let x329 := (IntKind.i64.wrap (x328 - (1 : Int)))
  impl_natCmp_L0 N N a318 a319 x329
   (fun x343 =>
    k0 x343)
   (
    k0 (0 : Int))
theorem impl_natCmp.ex : ∃ f : ((α : Type) → Nat → List Int → List Int → (Int → Option α) → Option α), f = fun α => @impl_natCmp.b α := ⟨_, rfl⟩
noncomputable def impl_natCmp {α : Type} : Nat → List Int → List Int → (Int → Option α) → Option α := Classical.choose impl_natCmp.ex α
theorem impl_natCmp.eq : @impl_natCmp = @impl_natCmp.b := funext fun α => congrFun (Classical.choose_spec impl_natCmp.ex) α

noncomputable def impl_trim_L0r {α : Type} (N : Nat) (next : List Int → Option α) (k0 : List Int → Option α) (v371 : List Int) : Option α :=
 let x372 := ((v371.length : Nat) : Int)
 let x373 := (decide ((0 : Int) < x372))
 bif x373 then
  let x374 := ((v371.length : Nat) : Int)
  let x375 := (IntKind.i64.wrap (x374 - (1 : Int)))
  bif (decide (x375 < (0 : Int))) then
   none
  else
   match v371[x375.toNat]? with
   | some x376 =>
    let x377 := (decide (x376 = (0 : Int)))
    bif x377 then
     let x378 := ((v371.length : Nat) : Int)
     let x379 := (IntKind.i64.wrap (x378 - (1 : Int)))
     bif (decide ((0 : Int) ≤ x379)) then
      bif (decide (x379 ≤ ((v371.length : Nat) : Int))) then
       let x380 := v371.take x379.toNat
       next x380
      else
       none
     else
      none
    else
     k0 v371
   | none => none
 else
  k0 v371
noncomputable def impl_trim_L0.b {α : Type} (N n : Nat) (v371 : List Int) (k0 : List Int → Option α) : Option α :=
  Nat.rec (motive := fun _ => List Int → Option α) (fun _ => none) (fun _ next => impl_trim_L0r N next k0) n v371
theorem impl_trim_L0.ex : ∃ f : ((α : Type) → Nat → Nat → List Int → (List Int → Option α) → Option α), f = fun α => @impl_trim_L0.b α := ⟨_, rfl⟩
noncomputable def impl_trim_L0 {α : Type} : Nat → Nat → List Int → (List Int → Option α) → Option α := Classical.choose impl_trim_L0.ex α
theorem impl_trim_L0.eq : @impl_trim_L0 = @impl_trim_L0.b := funext fun α => congrFun (Classical.choose_spec impl_trim_L0.ex) α
theorem impl_trim_L0.zero {α : Type} (N : Nat) (v371 : List Int) (k0 : List Int → Option α) : impl_trim_L0 N 0 v371 k0 = none := by rw [impl_trim_L0.eq]; rfl
theorem impl_trim_L0.succ {α : Type} (N n : Nat) (v371 : List Int) (k0 : List Int → Option α) : impl_trim_L0 N (n + 1) v371 k0 = impl_trim_L0r N (fun y0 => impl_trim_L0 N n y0 k0) k0 v371 := by rw [impl_trim_L0.eq]; rfl
/-- impl.trim -/
noncomputable def impl_trim.b {α : Type} (N : Nat) (a370 : List Int) (k0 : List Int → Option α) : Option α :=
 impl_trim_L0 N N a370
  (fun x381 =>
   k0 x381)
theorem impl_trim.ex : ∃ f : ((α : Type) → Nat → List Int → (List Int → Option α) → Option α), f = fun α => @impl_trim.b α := ⟨_, rfl⟩
noncomputable def impl_trim {α : Type} : Nat → List Int → (List Int → Option α) → Option α := Classical.choose impl_trim.ex α
theorem impl_trim.eq : @impl_trim = @impl_trim.b := funext fun α => congrFun (Classical.choose_spec impl_trim.ex) α

noncomputable def math_bits_Len64_J1.b {α : Type} (N : Nat) (v391 : Int) (v392 : Int) (k0 : Int → Int → Option α) : Option α :=
 let x393 := (decide ((4294967296 : Int) ≤ v391))
 bif x393 then
  let x394 := (shrI .u64 v391 (32 : Int))
  k0 x394 (32 : Int)
 else
  k0 v391 v392
theorem math_bits_Len64_J1.ex : ∃ f : ((α : Type) → Nat → Int → Int → (Int → Int → Option α) → Option α), f = fun α => @math_bits_Len64_J1.b α := ⟨_, rfl⟩
noncomputable def math_bits_Len64_J1 {α : Type} : Nat → Int → Int → (Int → Int → Option α) → Option α := Classical.choose math_bits_Len64_J1.ex α
theorem math_bits_Len64_J1.eq : @math_bits_Len64_J1 = @math_bits_Len64_J1.b := funext fun α => congrFun (Classical.choose_spec math_bits_Len64_J1.ex) α
noncomputable def math_bits_Len64_J4.b {α : Type} (N : Nat) (v397 : Int) (v398 : Int) (k0 : Int → Int → Option α) : Option α :=
 let x399 := (decide ((65536 : Int) ≤ v397))
 bif x399 then
  let x400 := (shrI .u64 v397 (16 : Int))
  let x401 := (IntKind.i64.wrap (v398 + (16 : Int)))
  k0 x400 x401
 else
  k0 v397 v398
theorem math_bits_Len64_J4.ex : ∃ f : ((α : Type) → Nat → Int → Int → (Int → Int → Option α) → Option α), f = fun α => @math_bits_Len64_J4.b α := ⟨_, rfl⟩
noncomputable def math_bits_Len64_J4 {α : Type} : Nat → Int → Int → (Int → Int → Option α) → Option α := Classical.choose math_bits_Len64_J4.ex α
theorem math_bits_Len64_J4.eq : @math_bits_Len64_J4 = @math_bits_Len64_J4.b := funext fun α => congrFun (Classical.choose_spec math_bits_Len64_J4.ex) α
noncomputable def math_bits_Len64_J7.b {α : Type} (N : Nat) (v404 : Int) (v405 : Int) (k0 : Int → Int → Option α) : Option α :=
 let x406 := (decide ((256 : Int) ≤ v404))
 bif x406 then
  let x407 := (shrI .u64 v404 (8 : Int))
  let x408 := (IntKind.i64.wrap (v405 + (8 : Int)))
  k0 x407 x408
 else
  k0 v404 v405
theorem math_bits_Len64_J7.ex : ∃ f : ((α : Type) → Nat → Int → Int → (Int → Int → Option α) → Option α), f = fun α => @math_bits_Len64_J7.b α := ⟨_, rfl⟩
noncomputable def math_bits_Len64_J7 {α : Type} : Nat → Int → Int → (Int → Int → Option α) → Option α := Classical.choose math_bits_Len64_J7.ex α
theorem math_bits_Len64_J7.eq : @math_bits_Len64_J7 = @math_bits_Len64_J7.b := funext fun α => congrFun (Classical.choose_spec math_bits_Len64_J7.ex) α
/-- math/bits.Len64 -/
noncomputable def math_bits_Len64.b {α : Type} (N : Nat) (a390 : Int) (k0 : Int → Option α) : Option α :=
 math_bits_Len64_J1 N a390 (0 : Int)
  (fun x395 x396 =>
   math_bits_Len64_J4 N x395 x396
    (fun x402 x403 =>
     math_bits_Len64_J7 N x402 x403
      (fun x409 x410 =>
       let x411 := IntKind.u8.wrap x409
       bif (decide (x411 < (0 : Int))) then
        none
       else
        match ((⟨#[0, 1, 2, 2, 3, 3, 3, 3, 4, 4, 4, 4, 4, 4, 4, 4, 5, 5, 5, 5, 5, 5, 5, 5, 5, 5, 5, 5, 5, 5, 5, 5, 6, 6, 6, 6, 6, 6, 6, 6, 6, 6, 6, 6, 6, 6, 6, 6, 6, 6, 6, 6, 6, 6, 6, 6, 6, 6, 6, 6, 6, 6, 6, 6, 7, 7, 7, 7, 7, 7, 7, 7, 7, 7, 7, 7, 7, 7, 7, 7, 7, 7, 7, 7, 7, 7, 7, 7, 7, 7, 7, 7, 7, 7, 7, 7, 7, 7, 7, 7, 7, 7, 7, 7, 7, 7, 7, 7, 7, 7, 7, 7, 7, 7, 7, 7, 7, 7, 7, 7, 7, 7, 7, 7, 7, 7, 7, 7, 8, 8, 8, 8, 8, 8, 8, 8, 8, 8, 8, 8, 8, 8, 8, 8, 8, 8, 8, 8, 8, 8, 8, 8, 8, 8, 8, 8, 8, 8, 8, 8, 8, 8, 8, 8, 8, 8, 8, 8, 8, 8, 8, 8, 8, 8, 8, 8, 8, 8, 8, 8, 8, 8, 8, 8, 8, 8, 8, 8, 8, 8, 8, 8, 8, 8, 8, 8, 8, 8, 8, 8, 8, 8, 8, 8, 8, 8, 8, 8, 8, 8, 8, 8, 8, 8, 8, 8, 8, 8, 8, 8, 8, 8, 8, 8, 8, 8, 8, 8, 8, 8, 8, 8, 8, 8, 8, 8, 8, 8, 8, 8, 8, 8, 8, 8, 8, 8, 8, 8, 8, 8, 8, 8, 8, 8, 8, 8]⟩ : ByteArray)[x411.toNat]? : Option UInt8) with
        | some x412 =>
         let x413 := ((x412.toNat : Nat) : Int)
         let x414 := IntKind.i64.wrap x413
         let x415 := IntKind.i64.wrap (x410 + x414)
         k0 x415
        | none => none)))
theorem math_bits_Len64.ex : ∃ f : ((α : Type) → Nat → Int → (Int → Option α) → Option α), f = fun α => @math_bits_Len64.b α := ⟨_, rfl⟩
noncomputable def math_bits_Len64 {α : Type} : Nat → Int → (Int → Option α) → Option α := Classical.choose math_bits_Len64.ex α
theorem math_bits_Len64.eq : @math_bits_Len64 = @math_bits_Len64.b := funext fun α => congrFun (Classical.choose_spec math_bits_Len64.ex) α

/-- math/bits.Len -/
noncomputable def math_bits_Len.b {α : Type} (N : Nat) (a389 : Int) (k0 : Int → Option α) : Option α :=
 math_bits_Len64 N a389
  (fun x416 =>
   k0 x416)
theorem math_bits_Len.ex : ∃ f : ((α : Type) → Nat → Int → (Int → Option α) → Option α), f = fun α => @math_bits_Len.b α := ⟨_, rfl⟩
noncomputable def math_bits_Len {α : Type} : Nat → Int → (Int → Option α) → Option α := Classical.choose math_bits_Len.ex α
theorem math_bits_Len.eq : @math_bits_Len = @math_bits_Len.b := funext fun α => congrFun (Classical.choose_spec math_bits_Len.ex) α

/-- slices.Clone[[]int,int] -/
noncomputable def slices_Clone_int_int {α : Type} (N : Nat) (a1 : List Int) (k0 : List Int → Option α) : Option α :=
  bif decide (([] : List Int).length + a1.length ≤ 8796093022208) then k0 a1 else none

noncomputable def impl_natShift_J10.b {α : Type} (N : Nat) (v495 : List Int) (v496 : Int) (v497 : Int) (v498 : Int) (v499 : Int) (v500 : Int) (v501 : List Int) (k0 : List Int → Int → Int → Int → Int → List Int → Option α) : Option α :=
 let x502 := IntKind.i64.wrap (v496 + v498)
 let x503 := (IntKind.i64.wrap (x502 + (1 : Int)))
 let x504 := ((v495.length : Nat) : Int)
 let x505 := decide (x503 < x504)
 bif x505 then
  bif (decide (v498 < (0 : Int))) then
   none
  else
   bif decide (v498.toNat < v501.length) then
    match v501[v498.toNat]? with
    | some x506 =>
     let x507 := IntKind.i64.wrap (v496 + v498)
     let x508 := (IntKind.i64.wrap (x507 + (1 : Int)))
     bif (decide (x508 < (0 : Int))) then
      none
     else
      match v495[x508.toNat]? with
      | some x509 =>
       let x510 := (IntKind.i64.wrap ((16 : Int) - v497))
       bif (decide (x510 < (0 : Int))) then
        none
       else
        let x511 := shlI .i64 x509 x510
        let x512 := (bitI .and .i64 x511 (65535 : Int))
        let x513 := bitI .or .i64 x506 x512
        bif (decide (v498 < (0 : Int))) then
         none
        else
         bif decide (v498.toNat < v501.length) then
          match v501[v498.toNat]? with
          | some x514 =>
           let x515 := v501.set v498.toNat x513
           k0 v495 v496 v497 v499 v500 x515
          | none => none
         else
          none
      | none => none
    | none => none
   else
    none
 else
  k0 v495 v496 v497 v499 v500 v501
theorem impl_natShift_J10.ex : ∃ f : ((α : Type) → Nat → List Int → Int → Int → Int → Int → Int → List Int → (List Int → Int → Int → Int → Int → List Int → Option α) → Option α), f = fun α => @impl_natShift_J10.b α := ⟨_, rfl⟩
noncomputable def impl_natShift_J10 {α : Type} : Nat → List Int → Int → Int → Int → Int → Int → List Int → (List Int → Int → Int → Int → Int → List Int → Option α) → Option α := Classical.choose impl_natShift_J10.ex α
theorem impl_natShift_J10.eq : @impl_natShift_J10 = @impl_natShift_J10.b := funext fun α => congrFun (Classical.choose_spec impl_natShift_J10.ex) α
noncomputable def impl_natShift_L0r {α : Type} (N : Nat) (next : List Int → Int → Int → Int → Int → List Int → Option α) (k0 : List Int → Option α) (v484 : List Int) (v485 : Int) (v486 : Int) (v487 : Int) (v488 : Int) (v489 : List Int) : Option α :=
 let x490 := decide (v488 < v487)
 bif x490 then
  bif (decide (v488 < (0 : Int))) then
   none
  else
   bif decide (v488.toNat < v489.length) then
    match v489[v488.toNat]? with
    | some x491 =>
     bif (decide (v486 < (0 : Int))) then
      none
     else
      let x492 := shrI .i64 x491 v486
      bif (decide (v488 < (0 : Int))) then
       none
      else
       bif decide (v488.toNat < v489.length) then
        match v489[v488.toNat]? with
        | some x493 =>
         let x494 := v489.set v488.toNat x492
         impl_natShift_J10 N v484 v485 v486 v488 v487 v488 x494
          (fun x516 x517 x518 x519 x520 x521 =>
           let x522 := (IntKind.i64.wrap (x520 + (1 : Int)))
           next x516 x517 x518 x519 x522 x521)
        | none => none
       else
        none
    | none => none
   else
    none
 else
  k0 v489
noncomputable def impl_natShift_L0.b {α : Type} (N n : Nat) (v484 : List Int) (v485 : Int) (v486 : Int) (v487 : Int) (v488 : Int) (v489 : List Int) (k0 : List Int → Option α) : Option α :=
  Nat.rec (motive := fun _ => List Int → Int → Int → Int → Int → List Int → Option α) (fun _ _ _ _ _ _ => none) (fun _ next => impl_natShift_L0r N next k0) n v484 v485 v486 v487 v488 v489
theorem impl_natShift_L0.ex : ∃ f : ((α : Type) → Nat → Nat → List Int → Int → Int → Int → Int → List Int → (List Int → Option α) → Option α), f = fun α => @impl_natShift_L0.b α := ⟨_, rfl⟩
noncomputable def impl_natShift_L0 {α : Type} : Nat → Nat → List Int → Int → Int → Int → Int → List Int → (List Int → Option α) → Option α := Classical.choose impl_natShift_L0.ex α
theorem impl_natShift_L0.eq : @impl_natShift_L0 = @impl_natShift_L0.b := funext fun α => congrFun (Classical.choose_spec impl_natShift_L0.ex) α
theorem impl_natShift_L0.zero {α : Type} (N : Nat) (v484 : List Int) (v485 : Int) (v486 : Int) (v487 : Int) (v488 : Int) (v489 : List Int) (k0 : List Int → Option α) : impl_natShift_L0 N 0 v484 v485 v486 v487 v488 v489 k0 = none := by rw [impl_natShift_L0.eq]; rfl
theorem impl_natShift_L0.succ {α : Type} (N n : Nat) (v484 : List Int) (v485 : Int) (v486 : Int) (v487 : Int) (v488 : Int) (v489 : List Int) (k0 : List Int → Option α) : impl_natShift_L0 N (n + 1) v484 v485 v486 v487 v488 v489 k0 = impl_natShift_L0r N (fun y0 y1 y2 y3 y4 y5 => impl_natShift_L0 N n y0 y1 y2 y3 y4 y5 k0) k0 v484 v485 v486 v487 v488 v489 := by rw [impl_natShift_L0.eq]; rfl
noncomputable def impl_natShift_L2r {α : Type} (N : Nat) (next : Int → List Int → Int → Int → List Int → Option α) (k0 : List Int → Option α) (v531 : Int) (v532 : List Int) (v533 : Int) (v534 : Int) (v535 : List Int) : Option α :=
 let x536 := decide (v534 < v533)
 bif x536 then
  bif (decide (v534 < (0 : Int))) then
   none
  else
   match v532[v534.toNat]? with
   | some x537 =>
    let x538 := (Int.tmod v531 (16 : Int))
    bif (decide (x538 < (0 : Int))) then
     none
    else
     let x539 := shlI .i64 x537 x538
     let x540 := (IntKind.i64.wrap (Int.tdiv v531 (16 : Int)))
     let x541 := IntKind.i64.wrap (x540 + v534)
     bif (decide (x541 < (0 : Int))) then
      none
     else
      bif decide (x541.toNat < v535.length) then
       match v535[x541.toNat]? with
       | some x542 =>
        let x543 := (bitI .and .i64 x539 (65535 : Int))
        let x544 := bitI .or .i64 x542 x543
        bif (decide (x541 < (0 : Int))) then
         none
        else
         bif decide (x541.toNat < v535.length) then
          match v535[x541.toNat]? with
          | some x545 =>
           let x546 := v535.set x541.toNat x544
           let x547 := (IntKind.i64.wrap (Int.tdiv v531 (16 : Int)))
           let x548 := IntKind.i64.wrap (x547 + v534)
           let x549 := (IntKind.i64.wrap (x548 + (1 : Int)))
           let x550 := (shrI .i64 x539 (16 : Int))
           bif (decide (x549 < (0 : Int))) then
            none
           else
            bif decide (x549.toNat < x546.length) then
             match x546[x549.toNat]? with
             | some x551 =>
              let x552 := x546.set x549.toNat x550
              let x553 := (IntKind.i64.wrap (v534 + (1 : Int)))
              next v531 v532 v533 x553 x552
             | none => none
            else
             none
          | none => none
         else
          none
       | none => none
      else
       none
   | none => none
 else
  k0 v535
noncomputable def impl_natShift_L2.b {α : Type} (N n : Nat) (v531 : Int) (v532 : List Int) (v533 : Int) (v534 : Int) (v535 : List Int) (k0 : List Int → Option α) : Option α :=
  Nat.rec (motive := fun _ => Int → List Int → Int → Int → List Int → Option α) (fun _ _ _ _ _ => none) (fun _ next => impl_natShift_L2r N next k0) n v531 v532 v533 v534 v535
theorem impl_natShift_L2.ex : ∃ f : ((α : Type) → Nat → Nat → Int → List Int → Int → Int → List Int → (List Int → Option α) → Option α), f = fun α => @impl_natShift_L2.b α := ⟨_, rfl⟩
noncomputable def impl_natShift_L2 {α : Type} : Nat → Nat → Int → List Int → Int → Int → List Int → (List Int → Option α) → Option α := Classical.choose impl_natShift_L2.ex α
theorem impl_natShift_L2.eq : @impl_natShift_L2 = @impl_natShift_L2.b := funext fun α => congrFun (Classical.choose_spec impl_natShift_L2.ex) α
theorem impl_natShift_L2.zero {α : Type} (N : Nat) (v531 : Int) (v532 : List Int) (v533 : Int) (v534 : Int) (v535 : List Int) (k0 : List Int → Option α) : impl_natShift_L2 N 0 v531 v532 v533 v534 v535 k0 = none := by rw [impl_natShift_L2.eq]; rfl
theorem impl_natShift_L2.succ {α : Type} (N n : Nat) (v531 : Int) (v532 : List Int) (v533 : Int) (v534 : Int) (v535 : List Int) (k0 : List Int → Option α) : impl_natShift_L2 N (n + 1) v531 v532 v533 v534 v535 k0 = impl_natShift_L2r N (fun y0 y1 y2 y3 y4 => impl_natShift_L2 N n y0 y1 y2 y3 y4 k0) k0 v531 v532 v533 v534 v535 := by rw [impl_natShift_L2.eq]; rfl
/-- impl.natShift -/
noncomputable def impl_natShift.b {α : Type} (N : Nat) (a472 : List Int) (a473 : Int) (k0 : List Int → Option α) : Option α :=
 let x474 := (decide (a473 < (0 : Int)))
 bif x474 then
  let x475 := IntKind.i64.wrap (0 - a473)
  let x476 := (IntKind.i64.wrap (Int.tdiv x475 (16 : Int)))
  let x477 := IntKind.i64.wrap (0 - a473)
  let x478 := (Int.tmod x477 (16 : Int))
  let x479 := ((a472.length : Nat) : Int)
  let x480 := decide (x479 ≤ x476)
  bif x480 then
   k0 []
  else
   bif (decide ((0 : Int) ≤ x476)) then
    bif (decide (x476 ≤ ((a472.length : Nat) : Int))) then
     let x481 := a472.drop x476.toNat
     slices_Clone_int_int N x481
      (fun x482 =>
       let x483 := ((x482.length : Nat) : Int)
       impl_natShift_L0 N N a472 x476 x478 x483 (0 : Int) x482
        (fun x523 =>
         impl_trim N x523
          (fun x524 =>
           k0 x524)))
    else
     none
   else
    none
 else
  let x525 := (IntKind.i64.wrap (Int.tdiv a473 (16 : Int)))
  let x526 := ((a472.length : Nat) : Int)
  let x527 := IntKind.i64.wrap (x525 + x526)
  let x528 := (IntKind.i64.wrap (x527 + (1 : Int)))
  bif (decide ((0 : Int) ≤ x528)) then
   bif decide (x528 ≤ x528) then
    bif (decide (x528 ≤ ((8796093022208 : Nat) : Int))) then
     let x529 := (List.replicate x528.toNat (0 : Int))
     let x530 := ((a472.length : Nat) : Int)
     impl_natShift_L2 N N a473 a472 x530 (0 : Int) x529
      (fun x554 =>
       impl_trim N x554
        (fun x555 =>
         k0 x555))
    else
     none
   else
    none
  else
   none
theorem impl_natShift.ex : ∃ f : ((α : Type) → Nat → List Int → Int → (List Int → Option α) → Option α), f = fun α => @impl_natShift.b α := ⟨_, rfl⟩
noncomputable def impl_natShift {α : Type} : Nat → List Int → Int → (List Int → Option α) → Option α := Classical.choose impl_natShift.ex α
theorem impl_natShift.eq : @impl_natShift = @impl_natShift.b := funext fun α => congrFun (Classical.choose_spec impl_natShift.ex) α

noncomputable def impl_natDiv_L0r {α : Type} (N : Nat) (next : List Int → List Int → Int → Int → List Int → Option α) (k0 : Int → List Int → Option α) (v352 : List Int) (v353 : List Int) (v354 : Int) (v355 : Int) (v356 : List Int) : Option α :=
 let x357 := (decide ((0 : Int) ≤ v355))
 bif x357 then
  let x358 := (shlI .i64 v354 (16 : Int))
  bif (decide (v355 < (0 : Int))) then
   none
  else
   match v352[v355.toNat]? with
   | some x359 =>
    let x360 := bitI .or .i64 x358 x359
    match v353[0]? with
    | some x361 =>
     bif (decide (x361 = (0 : Int))) then
      none
     else
      let x362 := IntKind.i64.wrap (Int.tdiv x360 x361)
      match v353[0]? with
      | some x363 =>
       bif (decide (x363 = (0 : Int))) then
        none
       else
        let x364 := Int.tmod x360 x363
        bif (decide (v355 < (0 : Int))) then
         none
        else
         bif decide (v355.toNat < v356.length) then
          match v356[v355.toNat]? with
          | some x365 =>
           let x366 := v356.set v355.toNat x362
           let x367 := (IntKind.i64.wrap (v355 - (1 : Int)))
           next v352 v353 x364 x367 x366
          | none => none
         else
          none
      | none => none
    | none => none
   | none => none
 else
  k0 v354 v356
noncomputable def impl_natDiv_L0.b {α : Type} (N n : Nat) (v352 : List Int) (v353 : List Int) (v354 : Int) (v355 : Int) (v356 : List Int) (k0 : Int → List Int → Option α) : Option α :=
  Nat.rec (motive := fun _ => List Int → List Int → Int → Int → List Int → Option α) (fun _ _ _ _ _ => none) (fun _ next => impl_natDiv_L0r N next k0) n v352 v353 v354 v355 v356
theorem impl_natDiv_L0.ex : ∃ f : ((α : Type) → Nat → Nat → List Int → List Int → Int → Int → List Int → (Int → List Int → Option α) → Option α), f = fun α => @impl_natDiv_L0.b α := ⟨_, rfl⟩
noncomputable def impl_natDiv_L0 {α : Type} : Nat → Nat → List Int → List Int → Int → Int → List Int → (Int → List Int → Option α) → Option α := Classical.choose impl_natDiv_L0.ex α
theorem impl_natDiv_L0.eq : @impl_natDiv_L0 = @impl_natDiv_L0.b := funext fun α => congrFun (Classical.choose_spec impl_natDiv_L0.ex) α
theorem impl_natDiv_L0.zero {α : Type} (N : Nat) (v352 : List Int) (v353 : List Int) (v354 : Int) (v355 : Int) (v356 : List Int) (k0 : Int → List Int → Option α) : impl_natDiv_L0 N 0 v352 v353 v354 v355 v356 k0 = none := by rw [impl_natDiv_L0.eq]; rfl
theorem impl_natDiv_L0.succ {α : Type} (N n : Nat) (v352 : List Int) (v353 : List Int) (v354 : Int) (v355 : Int) (v356 : List Int) (k0 : Int → List Int → Option α) : impl_natDiv_L0 N (n + 1) v352 v353 v354 v355 v356 k0 = impl_natDiv_L0r N (fun y0 y1 y2 y3 y4 => impl_natDiv_L0 N n y0 y1 y2 y3 y4 k0) k0 v352 v353 v354 v355 v356 := by rw [impl_natDiv_L0.eq]; rfl
noncomputable def impl_natDiv_L2r {α : Type} (N : Nat) (next : List Int → Int → List Int → Int → List Int → Option α) (k0 : Int → List Int → Int → List Int → Option α) (v562 : List Int) (v563 : Int) (v564 : List Int) (v565 : Int) (v566 : List Int) : Option α :=
 let x567 := ((v566.length : Nat) : Int)
 let x568 := ((v562.length : Nat) : Int)
 let x569 := (IntKind.i64.wrap (x568 + (1 : Int)))
 let x570 := decide (x567 < x569)
 bif x570 then
  let x571 := [(0 : Int)]
  bif decide (v566.length + x571.length ≤ 8796093022208) then
   let x572 := v566 ++ x571
   next v562 v563 v564 v565 x572
  else
   none
 else
  k0 v563 v564 v565 v566
noncomputable def impl_natDiv_L2.b {α : Type} (N n : Nat) (v562 : List Int) (v563 : Int) (v564 : List Int) (v565 : Int) (v566 : List Int) (k0 : Int → List Int → Int → List Int → Option α) : Option α :=
  Nat.rec (motive := fun _ => List Int → Int → List Int → Int → List Int → Option α) (fun _ _ _ _ _ => none) (fun _ next => impl_natDiv_L2r N next k0) n v562 v563 v564 v565 v566
theorem impl_natDiv_L2.ex : ∃ f : ((α : Type) → Nat → Nat → List Int → Int → List Int → Int → List Int → (Int → List Int → Int → List Int → Option α) → Option α), f = fun α => @impl_natDiv_L2.b α := ⟨_, rfl⟩
noncomputable def impl_natDiv_L2 {α : Type} : Nat → Nat → List Int → Int → List Int → Int → List Int → (Int → List Int → Int → List Int → Option α) → Option α := Classical.choose impl_natDiv_L2.ex α
theorem impl_natDiv_L2.eq : @impl_natDiv_L2 = @impl_natDiv_L2.b := funext fun α => congrFun (Classical.choose_spec impl_natDiv_L2.ex) α
theorem impl_natDiv_L2.zero {α : Type} (N : Nat) (v562 : List Int) (v563 : Int) (v564 : List Int) (v565 : Int) (v566 : List Int) (k0 : Int → List Int → Int → List Int → Option α) : impl_natDiv_L2 N 0 v562 v563 v564 v565 v566 k0 = none := by rw [impl_natDiv_L2.eq]; rfl
theorem impl_natDiv_L2.succ {α : Type} (N n : Nat) (v562 : List Int) (v563 : Int) (v564 : List Int) (v565 : Int) (v566 : List Int) (k0 : Int → List Int → Int → List Int → Option α) : impl_natDiv_L2 N (n + 1) v562 v563 v564 v565 v566 k0 = impl_natDiv_L2r N (fun y0 y1 y2 y3 y4 => impl_natDiv_L2 N n y0 y1 y2 y3 y4 k0) k0 v562 v563 v564 v565 v566 := by rw [impl_natDiv_L2.eq]; rfl
noncomputable def impl_natDiv_L6r {α : Type} (N : Nat) (next : Int → List Int → Int → Int → Int → Int → List Int → List Int → Option α) (k0 : Int → List Int → Int → Int → Int → List Int → List Int → Option α) (v603 : Int) (v604 : List Int) (v605 : Int) (v606 : Int) (v607 : Int) (v608 : Int) (v609 : List Int) (v610 : List Int) : Option α :=
 let x611 := (decide ((65536 : Int) ≤ v607))
 bif x611 then
  let x612 := (IntKind.i64.wrap (v607 - (1 : Int)))
  let x613 := (IntKind.i64.wrap (v605 - (1 : Int)))
  bif (decide (x613 < (0 : Int))) then
   none
  else
   match v604[x613.toNat]? with
   | some x614 =>
    let x615 := IntKind.i64.wrap (v608 + x614)
    let x616 := (decide ((65536 : Int) ≤ x615))
    bif x616 then
     k0 v603 v604 v605 v606 x612 v609 v610
    else
     next v603 v604 v605 v606 x612 x615 v609 v610
   | none => none
 else
  let x617 := (IntKind.i64.wrap (v605 - (2 : Int)))
  bif (decide (x617 < (0 : Int))) then
   none
  else
   match v604[x617.toNat]? with
   | some x618 =>
    let x619 := IntKind.i64.wrap (v607 * x618)
    let x620 := (shlI .i64 v608 (16 : Int))
    let x621 := IntKind.i64.wrap (v606 + v605)
    let x622 := (IntKind.i64.wrap (x621 - (2 : Int)))
    bif (decide (x622 < (0 : Int))) then
     none
    else
     bif decide (x622.toNat < v609.length) then
      match v609[x622.toNat]? with
      | some x623 =>
       let x624 := bitI .or .i64 x620 x623
       let x625 := decide (x624 < x619)
       bif x625 then
        let x626 := (IntKind.i64.wrap (v607 - (1 : Int)))
        let x627 := (IntKind.i64.wrap (v605 - (1 : Int)))
        bif (decide (x627 < (0 : Int))) then
         none
        else
         match v604[x627.toNat]? with
         | some x628 =>
          let x629 := IntKind.i64.wrap (v608 + x628)
          let x630 := (decide ((65536 : Int) ≤ x629))
          bif x630 then
           k0 v603 v604 v605 v606 x626 v609 v610
          else
           next v603 v604 v605 v606 x626 x629 v609 v610
         | none => none
       else
        k0 v603 v604 v605 v606 v607 v609 v610
      | none => none
     else
      none
   | none => none
noncomputable def impl_natDiv_L6.b {α : Type} (N n : Nat) (v603 : Int) (v604 : List Int) (v605 : Int) (v606 : Int) (v607 : Int) (v608 : Int) (v609 : List Int) (v610 : List Int) (k0 : Int → List Int → Int → Int → Int → List Int → List Int → Option α) : Option α :=
  Nat.rec (motive := fun _ => Int → List Int → Int → Int → Int → Int → List Int → List Int → Option α) (fun _ _ _ _ _ _ _ _ => none) (fun _ next => impl_natDiv_L6r N next k0) n v603 v604 v605 v606 v607 v608 v609 v610
theorem impl_natDiv_L6.ex : ∃ f : ((α : Type) → Nat → Nat → Int → List Int → Int → Int → Int → Int → List Int → List Int → (Int → List Int → Int → Int → Int → List Int → List Int → Option α) → Option α), f = fun α => @impl_natDiv_L6.b α := ⟨_, rfl⟩
noncomputable def impl_natDiv_L6 {α : Type} : Nat → Nat → Int → List Int → Int → Int → Int → Int → List Int → List Int → (Int → List Int → Int → Int → Int → List Int → List Int → Option α) → Option α := Classical.choose impl_natDiv_L6.ex α
theorem impl_natDiv_L6.eq : @impl_natDiv_L6 = @impl_natDiv_L6.b := funext fun α => congrFun (Classical.choose_spec impl_natDiv_L6.ex) α
theorem impl_natDiv_L6.zero {α : Type} (N : Nat) (v603 : Int) (v604 : List Int) (v605 : Int) (v606 : Int) (v607 : Int) (v608 : Int) (v609 : List Int) (v610 : List Int) (k0 : Int → List Int → Int → Int → Int → List Int → List Int → Option α) : impl_natDiv_L6 N 0 v603 v604 v605 v606 v607 v608 v609 v610 k0 = none := by rw [impl_natDiv_L6.eq]; rfl
theorem impl_natDiv_L6.succ {α : Type} (N n : Nat) (v603 : Int) (v604 : List Int) (v605 : Int) (v606 : Int) (v607 : Int) (v608 : Int) (v609 : List Int) (v610 : List Int) (k0 : Int → List Int → Int → Int → Int → List Int → List Int → Option α) : impl_natDiv_L6 N (n + 1) v603 v604 v605 v606 v607 v608 v609 v610 k0 = impl_natDiv_L6r N (fun y0 y1 y2 y3 y4 y5 y6 y7 => impl_natDiv_L6 N n y0 y1 y2 y3 y4 y5 y6 y7 k0) k0 v603 v604 v605 v606 v607 v608 v609 v610 := by rw [impl_natDiv_L6.eq]; rfl
noncomputable def impl_natDiv_J34.b {α : Type} (N : Nat) (v657 : Int) (v658 : List Int) (v659 : Int) (v660 : Int) (v661 : Int) (v662 : Int) (v663 : Int) (v664 : Int) (v665 : List Int) (v666 : Int) (v667 : Int) (v668 : List Int) (v669 : List Int) (k0 : Int → List Int → Int → Int → Int → Int → Int → Int → List Int → Int → Int → List Int → List Int → Option α) : Option α :=
 let x670 := (decide (v664 < (0 : Int)))
 bif x670 then
  let x671 := IntKind.i64.wrap (0 - v664)
  let x672 := (IntKind.i64.wrap (x671 + (65536 : Int)))
  let x673 := (IntKind.i64.wrap (x672 - (1 : Int)))
  let x674 := (IntKind.i64.wrap (Int.tdiv x673 (65536 : Int)))
  let x675 := (IntKind.i64.wrap (x674 * (65536 : Int)))
  let x676 := IntKind.i64.wrap (v664 + x675)
  k0 v657 v658 v659 v660 v661 x674 v663 x676 v665 v666 v667 v668 v669
 else
  k0 v657 v658 v659 v660 v661 v662 v663 v664 v665 v666 v667 v668 v669
theorem impl_natDiv_J34.ex : ∃ f : ((α : Type) → Nat → Int → List Int → Int → Int → Int → Int → Int → Int → List Int → Int → Int → List Int → List Int → (Int → List Int → Int → Int → Int → Int → Int → Int → List Int → Int → Int → List Int → List Int → Option α) → Option α), f = fun α => @impl_natDiv_J34.b α := ⟨_, rfl⟩
noncomputable def impl_natDiv_J34 {α : Type} : Nat → Int → List Int → Int → Int → Int → Int → Int → Int → List Int → Int → Int → List Int → List Int → (Int → List Int → Int → Int → Int → Int → Int → Int → List Int → Int → Int → List Int → List Int → Option α) → Option α := Classical.choose impl_natDiv_J34.ex α
theorem impl_natDiv_J34.eq : @impl_natDiv_J34 = @impl_natDiv_J34.b := funext fun α => congrFun (Classical.choose_spec impl_natDiv_J34.ex) α
noncomputable def impl_natDiv_L8r {α : Type} (N : Nat) (next : Int → List Int → Int → Int → Int → Int → List Int → Int → Int → List Int → List Int → Option α) (k0 : Int → List Int → Int → Int → Int → Int → List Int → List Int → Option α) (v639 : Int) (v640 : List Int) (v641 : Int) (v642 : Int) (v643 : Int) (v644 : Int) (v645 : List Int) (v646 : Int) (v647 : Int) (v648 : List Int) (v649 : List Int) : Option α :=
 let x650 := decide (v647 < v646)
 bif x650 then
  bif (decide (v647 < (0 : Int))) then
   none
  else
   match v645[v647.toNat]? with
   | some x651 =>
    let x652 := IntKind.i64.wrap (v642 + v647)
    bif (decide (x652 < (0 : Int))) then
     none
    else
     bif decide (x652.toNat < v648.length) then
      match v648[x652.toNat]? with
      | some x653 =>
       let x654 := IntKind.i64.wrap (x653 - v644)
       let x655 := IntKind.i64.wrap (v643 * x651)
       let x656 := IntKind.i64.wrap (x654 - x655)
       impl_natDiv_J34 N v639 v640 v641 v642 v643 (0 : Int) v647 x656 v645 v646 v647 v648 v649
        (fun x677 x678 x679 x680 x681 x682 x683 x684 x685 x686 x687 x688 x689 =>
         let x690 := IntKind.i64.wrap (x680 + x683)
         bif (decide (x690 < (0 : Int))) then
          none
         else
          bif decide (x690.toNat < x688.length) then
           match x688[x690.toNat]? with
           | some x691 =>
            let x692 := x688.set x690.toNat x684
            let x693 := (IntKind.i64.wrap (x687 + (1 : Int)))
            next x677 x678 x679 x680 x681 x682 x685 x686 x693 x692 x689
           | none => none
          else
           none)
      | none => none
     else
      none
   | none => none
 else
  k0 v639 v640 v641 v642 v643 v644 v648 v649
noncomputable def impl_natDiv_L8.b {α : Type} (N n : Nat) (v639 : Int) (v640 : List Int) (v641 : Int) (v642 : Int) (v643 : Int) (v644 : Int) (v645 : List Int) (v646 : Int) (v647 : Int) (v648 : List Int) (v649 : List Int) (k0 : Int → List Int → Int → Int → Int → Int → List Int → List Int → Option α) : Option α :=
  Nat.rec (motive := fun _ => Int → List Int → Int → Int → Int → Int → List Int → Int → Int → List Int → List Int → Option α) (fun _ _ _ _ _ _ _ _ _ _ _ => none) (fun _ next => impl_natDiv_L8r N next k0) n v639 v640 v641 v642 v643 v644 v645 v646 v647 v648 v649
theorem impl_natDiv_L8.ex : ∃ f : ((α : Type) → Nat → Nat → Int → List Int → Int → Int → Int → Int → List Int → Int → Int → List Int → List Int → (Int → List Int → Int → Int → Int → Int → List Int → List Int → Option α) → Option α), f = fun α => @impl_natDiv_L8.b α := ⟨_, rfl⟩
noncomputable def impl_natDiv_L8 {α : Type} : Nat → Nat → Int → List Int → Int → Int → Int → Int → List Int → Int → Int → List Int → List Int → (Int → List Int → Int → Int → Int → Int → List Int → List Int → Option α) → Option α := Classical.choose impl_natDiv_L8.ex α
theorem impl_natDiv_L8.eq : @impl_natDiv_L8 = @impl_natDiv_L8.b := funext fun α => congrFun (Classical.choose_spec impl_natDiv_L8.ex) α
theorem impl_natDiv_L8.zero {α : Type} (N : Nat) (v639 : Int) (v640 : List Int) (v641 : Int) (v642 : Int) (v643 : Int) (v644 : Int) (v645 : List Int) (v646 : Int) (v647 : Int) (v648 : List Int) (v649 : List Int) (k0 : Int → List Int → Int → Int → Int → Int → List Int → List Int → Option α) : impl_natDiv_L8 N 0 v639 v640 v641 v642 v643 v644 v645 v646 v647 v648 v649 k0 = none := by rw [impl_natDiv_L8.eq]; rfl
theorem impl_natDiv_L8.succ {α : Type} (N n : Nat) (v639 : Int) (v640 : List Int) (v641 : Int) (v642 : Int) (v643 : Int) (v644 : Int) (v645 : List Int) (v646 : Int) (v647 : Int) (v648 : List Int) (v649 : List Int) (k0 : Int → List Int → Int → Int → Int → Int → List Int → List Int → Option α) : impl_natDiv_L8 N (n + 1) v639 v640 v641 v642 v643 v644 v645 v646 v647 v648 v649 k0 = impl_natDiv_L8r N (fun y0 y1 y2 y3 y4 y5 y6 y7 y8 y9 y10 => impl_natDiv_L8 N n y0 y1 y2 y3 y4 y5 y6 y7 y8 y9 y10 k0) k0 v639 v640 v641 v642 v643 v644 v645 v646 v647 v648 v649 := by rw [impl_natDiv_L8.eq]; rfl
noncomputable def impl_natDiv_L10r {α : Type} (N : Nat) (next : Int → List Int → Int → Int → Int → Int → List Int → Int → Int → List Int → List Int → Option α) (k0 : Int → List Int → Int → Int → Int → Int → List Int → List Int → Option α) (v719 : Int) (v720 : List Int) (v721 : Int) (v722 : Int) (v723 : Int) (v724 : Int) (v725 : List Int) (v726 : Int) (v727 : Int) (v728 : List Int) (v729 : List Int) : Option α :=
 let x730 := decide (v727 < v726)
 bif x730 then
  bif (decide (v727 < (0 : Int))) then
   none
  else
   match v725[v727.toNat]? with
   | some x731 =>
    let x732 := IntKind.i64.wrap (v722 + v727)
    bif (decide (x732 < (0 : Int))) then
     none
    else
     bif decide (x732.toNat < v728.length) then
      match v728[x732.toNat]? with
      | some x733 =>
       let x734 := IntKind.i64.wrap (x733 + x731)
       let x735 := IntKind.i64.wrap (x734 + v724)
       let x736 := IntKind.i64.wrap (v722 + v727)
       let x737 := (bitI .and .i64 x735 (65535 : Int))
       let x738 := (shrI .i64 x735 (16 : Int))
       bif (decide (x736 < (0 : Int))) then
        none
       else
        bif decide (x736.toNat < v728.length) then
         match v728[x736.toNat]? with
         | some x739 =>
          let x740 := v728.set x736.toNat x737
          let x741 := (IntKind.i64.wrap (v727 + (1 : Int)))
          next v719 v720 v721 v722 v723 x738 v725 v726 x741 x740 v729
         | none => none
        else
         none
      | none => none
     else
      none
   | none => none
 else
  k0 v719 v720 v721 v722 v723 v724 v728 v729
noncomputable def impl_natDiv_L10.b {α : Type} (N n : Nat) (v719 : Int) (v720 : List Int) (v721 : Int) (v722 : Int) (v723 : Int) (v724 : Int) (v725 : List Int) (v726 : Int) (v727 : Int) (v728 : List Int) (v729 : List Int) (k0 : Int → List Int → Int → Int → Int → Int → List Int → List Int → Option α) : Option α :=
  Nat.rec (motive := fun _ => Int → List Int → Int → Int → Int → Int → List Int → Int → Int → List Int → List Int → Option α) (fun _ _ _ _ _ _ _ _ _ _ _ => none) (fun _ next => impl_natDiv_L10r N next k0) n v719 v720 v721 v722 v723 v724 v725 v726 v727 v728 v729
theorem impl_natDiv_L10.ex : ∃ f : ((α : Type) → Nat → Nat → Int → List Int → Int → Int → Int → Int → List Int → Int → Int → List Int → List Int → (Int → List Int → Int → Int → Int → Int → List Int → List Int → Option α) → Option α), f = fun α => @impl_natDiv_L10.b α := ⟨_, rfl⟩
noncomputable def impl_natDiv_L10 {α : Type} : Nat → Nat → Int → List Int → Int → Int → Int → Int → List Int → Int → Int → List Int → List Int → (Int → List Int → Int → Int → Int → Int → List Int → List Int → Option α) → Option α := Classical.choose impl_natDiv_L10.ex α
theorem impl_natDiv_L10.eq : @impl_natDiv_L10 = @impl_natDiv_L10.b := funext fun α => congrFun (Classical.choose_spec impl_natDiv_L10.ex) α
theorem impl_natDiv_L10.zero {α : Type} (N : Nat) (v719 : Int) (v720 : List Int) (v721 : Int) (v722 : Int) (v723 : Int) (v724 : Int) (v725 : List Int) (v726 : Int) (v727 : Int) (v728 : List Int) (v729 : List Int) (k0 : Int → List Int → Int → Int → Int → Int → List Int → List Int → Option α) : impl_natDiv_L10 N 0 v719 v720 v721 v722 v723 v724 v725 v726 v727 v728 v729 k0 = none := by rw [impl_natDiv_L10.eq]; rfl
theorem impl_natDiv_L10.succ {α : Type} (N n : Nat) (v719 : Int) (v720 : List Int) (v721 : Int) (v722 : Int) (v723 : Int) (v724 : Int) (v725 : List Int) (v726 : Int) (v727 : Int) (v728 : List Int) (v729 : List Int) (k0 : Int → List Int → Int → Int → Int → Int → List Int → List Int → Option α) : impl_natDiv_L10 N (n + 1) v719 v720 v721 v722 v723 v724 v725 v726 v727 v728 v729 k0 = impl_natDiv_L10r N (fun y0 y1 y2 y3 y4 y5 y6 y7 y8 y9 y10 => impl_natDiv_L10 N n y0 y1 y2 y3 y4 y5 y6 y7 y8 y9 y10 k0) k0 v719 v720 v721 v722 v723 v724 v725 v726 v727 v728 v729 := by rw [impl_natDiv_L10.eq]; rfl
noncomputable def impl_natDiv_J40.b {α : Type} (N : Nat) (v707 : Int) (v708 : List Int) (v709 : Int) (v710 : Int) (v711 : Int) (v712 : List Int) (v713 : List Int) (k0 : Int → List Int → Int → Int → Int → List Int → List Int → Option α) : Option α :=
 let x714 := IntKind.i64.wrap (v710 + v709)
 bif (decide (x714 < (0 : Int))) then
  none
 else
  bif decide (x714.toNat < v712.length) then
   match v712[x714.toNat]? with
   | some x715 =>
    let x716 := (decide (x715 < (0 : Int)))
    bif x716 then
     let x717 := (IntKind.i64.wrap (v711 - (1 : Int)))
     let x718 := ((v708.length : Nat) : Int)
     impl_natDiv_L10 N N v707 v708 v709 v710 x717 (0 : Int) v708 x718 (0 : Int) v712 v713
      (fun x742 x743 x744 x745 x746 x747 x748 x749 =>
       let x750 := IntKind.i64.wrap (x745 + x744)
       bif (decide (x750 < (0 : Int))) then
        none
       else
        bif decide (x750.toNat < x748.length) then
         match x748[x750.toNat]? with
         | some x751 =>
          let x752 := IntKind.i64.wrap (x751 + x747)
          bif (decide (x750 < (0 : Int))) then
           none
          else
           bif decide (x750.toNat < x748.length) then
            match x748[x750.toNat]? with
            | some x753 =>
             let x754 := x748.set x750.toNat x752
             k0 x742 x743 x744 x745 x746 x754 x749
            | none => none
           else
            none
         | none => none
        else
         none)
    else
     k0 v707 v708 v709 v710 v711 v712 v713
   | none => none
  else
   none
theorem impl_natDiv_J40.ex : ∃ f : ((α : Type) → Nat → Int → List Int → Int → Int → Int → List Int → List Int → (Int → List Int → Int → Int → Int → List Int → List Int → Option α) → Option α), f = fun α => @impl_natDiv_J40.b α := ⟨_, rfl⟩
noncomputable def impl_natDiv_J40 {α : Type} : Nat → Int → List Int → Int → Int → Int → List Int → List Int → (Int → List Int → Int → Int → Int → List Int → List Int → Option α) → Option α := Classical.choose impl_natDiv_J40.ex α
theorem impl_natDiv_J40.eq : @impl_natDiv_J40 = @impl_natDiv_J40.b := funext fun α => congrFun (Classical.choose_spec impl_natDiv_J40.ex) α
noncomputable def impl_natDiv_L4r {α : Type} (N : Nat) (next : Int → List Int → Int → Int → List Int → List Int → Option α) (k0 : Int → List Int → List Int → Option α) (v583 : Int) (v584 : List Int) (v585 : Int) (v586 : Int) (v587 : List Int) (v588 : List Int) : Option α :=
 let x589 := (decide ((0 : Int) ≤ v586))
 bif x589 then
  let x590 := IntKind.i64.wrap (v586 + v585)
  bif (decide (x590 < (0 : Int))) then
   none
  else
   bif decide (x590.toNat < v587.length) then
    match v587[x590.toNat]? with
    | some x591 =>
     let x592 := (shlI .i64 x591 (16 : Int))
     let x593 := IntKind.i64.wrap (v586 + v585)
     let x594 := (IntKind.i64.wrap (x593 - (1 : Int)))
     bif (decide (x594 < (0 : Int))) then
      none
     else
      bif decide (x594.toNat < v587.length) then
       match v587[x594.toNat]? with
       | some x595 =>
        let x596 := bitI .or .i64 x592 x595
        let x597 := (IntKind.i64.wrap (v585 - (1 : Int)))
        bif (decide (x597 < (0 : Int))) then
         none
        else
         match v584[x597.toNat]? with
         | some x598 =>
          bif (decide (x598 = (0 : Int))) then
           none
          else
           let x599 := IntKind.i64.wrap (Int.tdiv x596 x598)
           let x600 := (IntKind.i64.wrap (v585 - (1 : Int)))
           bif (decide (x600 < (0 : Int))) then
            none
           else
            match v584[x600.toNat]? with
            | some x601 =>
             bif (decide (x601 = (0 : Int))) then
              none
             else
              let x602 := Int.tmod x596 x601
              impl_natDiv_L6 N N v583 v584 v585 v586 x599 x602 v587 v588
               (fun x631 x632 x633 x634 x635 x636 x637 =>
                let x638 := ((x632.length : Nat) : Int)
                impl_natDiv_L8 N N x631 x632 x633 x634 x635 (0 : Int) x632 x638 (0 : Int) x636 x637
                 (fun x694 x695 x696 x697 x698 x699 x700 x701 =>
                  let x702 := IntKind.i64.wrap (x697 + x696)
                  bif (decide (x702 < (0 : Int))) then
                   none
                  else
                   bif decide (x702.toNat < x700.length) then
                    match x700[x702.toNat]? with
                    | some x703 =>
                     let x704 := IntKind.i64.wrap (x703 - x699)
                     bif (decide (x702 < (0 : Int))) then
                      none
                     else
                      bif decide (x702.toNat < x700.length) then
                       match x700[x702.toNat]? with
                       | some x705 =>
                        let x706 := x700.set x702.toNat x704
                        impl_natDiv_J40 N x694 x695 x696 x697 x698 x706 x701
                         (fun x755 x756 x757 x758 x759 x760 x761 =>
                          bif (decide (x758 < (0 : Int))) then
                           none
                          else
                           bif decide (x758.toNat < x761.length) then
                            match x761[x758.toNat]? with
                            | some x762 =>
                             let x763 := x761.set x758.toNat x759
                             let x764 := (IntKind.i64.wrap (x758 - (1 : Int)))
                             next x755 x756 x757 x764 x760 x763
                            | none => none
                           else
                            none)
                       | none => none
                      else
                       none
                    | none => none
                   else
                    none))
            | none => none
         | none => none
       | none => none
      else
       none
    | none => none
   else
    none
 else
  k0 v583 v587 v588
noncomputable def impl_natDiv_L4.b {α : Type} (N n : Nat) (v583 : Int) (v584 : List Int) (v585 : Int) (v586 : Int) (v587 : List Int) (v588 : List Int) (k0 : Int → List Int → List Int → Option α) : Option α :=
  Nat.rec (motive := fun _ => Int → List Int → Int → Int → List Int → List Int → Option α) (fun _ _ _ _ _ _ => none) (fun _ next => impl_natDiv_L4r N next k0) n v583 v584 v585 v586 v587 v588
theorem impl_natDiv_L4.ex : ∃ f : ((α : Type) → Nat → Nat → Int → List Int → Int → Int → List Int → List Int → (Int → List Int → List Int → Option α) → Option α), f = fun α => @impl_natDiv_L4.b α := ⟨_, rfl⟩
noncomputable def impl_natDiv_L4 {α : Type} : Nat → Nat → Int → List Int → Int → Int → List Int → List Int → (Int → List Int → List Int → Option α) → Option α := Classical.choose impl_natDiv_L4.ex α
theorem impl_natDiv_L4.eq : @impl_natDiv_L4 = @impl_natDiv_L4.b := funext fun α => congrFun (Classical.choose_spec impl_natDiv_L4.ex) α
theorem impl_natDiv_L4.zero {α : Type} (N : Nat) (v583 : Int) (v584 : List Int) (v585 : Int) (v586 : Int) (v587 : List Int) (v588 : List Int) (k0 : Int → List Int → List Int → Option α) : impl_natDiv_L4 N 0 v583 v584 v585 v586 v587 v588 k0 = none := by rw [impl_natDiv_L4.eq]; rfl
theorem impl_natDiv_L4.succ {α : Type} (N n : Nat) (v583 : Int) (v584 : List Int) (v585 : Int) (v586 : Int) (v587 : List Int) (v588 : List Int) (k0 : Int → List Int → List Int → Option α) : impl_natDiv_L4 N (n + 1) v583 v584 v585 v586 v587 v588 k0 = impl_natDiv_L4r N (fun y0 y1 y2 y3 y4 y5 => impl_natDiv_L4 N n y0 y1 y2 y3 y4 y5 k0) k0 v583 v584 v585 v586 v587 v588 := by rw [impl_natDiv_L4.eq]; rfl
/-- impl.natDiv -/
noncomputable def impl_natDiv.b {α : Type} (N : Nat) (a316 : List Int) (a317 : List Int) (k0 : List Int → List Int → Option α) : Option α :=
 impl_natCmp N a316 a317
  (fun x344 =>
   let x345 := (decide (x344 < (0 : Int)))
   bif x345 then
    k0 [] a316
   else
    let x346 := ((a317.length : Nat) : Int)
    let x347 := (decide (x346 = (1 : Int)))
    bif x347 then
     let x348 := ((a316.length : Nat) : Int)
     bif (decide ((0 : Int) ≤ x348)) then
      bif decide (x348 ≤ x348) then
       bif (decide (x348 ≤ ((8796093022208 : Nat) : Int))) then
        let x349 := (List.replicate x348.toNat (0 : Int))
        let x350 := ((a316.length : Nat) : Int)
        let x351 := (IntKind.i64.wrap (x350 - (1 : Int)))
        impl_natDiv_L0 N N a316 a317 (0 : Int) x351 x349
         (fun x368 x369 =>
          impl_trim N x369
           (fun x382 =>
            let x383 := [x368]
            impl_trim N x383
             (fun x384 =>
              k0 x382 x384)))
       else
        none
      else
       none
     else
      none
    else
     let x385 := ((a317.length : Nat) : Int)
     let x386 := (IntKind.i64.wrap (x385 - (1 : Int)))
     bif (decide (x386 < (0 : Int))) then
      none
     else
      match a317[x386.toNat]? with
      | some x387 =>
       let x388 := IntKind.u64.wrap x387
       math_bits_Len N x388
        (fun x417 =>
         let x418 := (IntKind.i64.wrap ((16 : Int) - x417))
         impl_natShift N a317 x418
          (fun x556 =>
           impl_natShift N a316 x418
            (fun x557 =>
             slices_Clone_int_int N x557
              (fun x558 =>
               let x559 := [(0 : Int)]
               bif decide (x558.length + x559.length ≤ 8796093022208) then
                let x560 := x558 ++ x559
                let x561 := ((x556.length : Nat) : Int)
                impl_natDiv_L2 N N a316 x418 x556 x561 x560
                 (fun x573 x574 x575 x576 =>
                  let x577 := ((x576.length : Nat) : Int)
                  let x578 := IntKind.i64.wrap (x577 - x575)
                  bif (decide ((0 : Int) ≤ x578)) then
                   bif decide (x578 ≤ x578) then
                    bif (decide (x578 ≤ ((8796093022208 : Nat) : Int))) then
                     let x579 := (List.replicate x578.toNat (0 : Int))
                     let x580 := ((x576.length : Nat) : Int)
                     let x581 := IntKind.i64.wrap (x580 - x575)
                     let x582 := (IntKind.i64.wrap (x581 - (1 : Int)))
                     impl_natDiv_L4 N N x573 x574 x575 x582 x576 x579
                      (fun x765 x766 x767 =>
                       impl_trim N x767
                        (fun x768 =>
                         impl_trim N x766
                          (fun x769 =>
                           let x770 := IntKind.i64.wrap (0 - x765)
                           impl_natShift N x769 x770
                            (fun x771 =>
                             k0 x768 x771))))
                    else
                     none
                   else
                    none
                  else
                   none)
               else
                none))))
      | none => none)
theorem impl_natDiv.ex : ∃ f : ((α : Type) → Nat → List Int → List Int → (List Int → List Int → Option α) → Option α), f = fun α => @impl_natDiv.b α := ⟨_, rfl⟩
noncomputable def impl_natDiv {α : Type} : Nat → List Int → List Int → (List Int → List Int → Option α) → Option α := Classical.choose impl_natDiv.ex α
theorem impl_natDiv.eq : @impl_natDiv = @impl_natDiv.b := funext fun α => congrFun (Classical.choose_spec impl_natDiv.ex) α

-- prim strconv_Itoa
-- prim strings_Repeat
noncomputable def impl_natText_J7.b {α : Type} (N : Nat) (v774 : ByteArray) (v775 : List Int) (v776 : List Int) (v777 : Int) (k0 : ByteArray → List Int → Int → Option α) : Option α :=
 let x778 := ((v776.length : Nat) : Int)
 let x779 := (decide ((0 : Int) < x778))
 bif x779 then
  match v776[0]? with
  | some x780 =>
   k0 v774 v775 x780
  | none => none
 else
  k0 v774 v775 v777
theorem impl_natText_J7.ex : ∃ f : ((α : Type) → Nat → ByteArray → List Int → List Int → Int → (ByteArray → List Int → Int → Option α) → Option α), f = fun α => @impl_natText_J7.b α := ⟨_, rfl⟩
noncomputable def impl_natText_J7 {α : Type} : Nat → ByteArray → List Int → List Int → Int → (ByteArray → List Int → Int → Option α) → Option α := Classical.choose impl_natText_J7.ex α
theorem impl_natText_J7.eq : @impl_natText_J7 = @impl_natText_J7.b := funext fun α => congrFun (Classical.choose_spec impl_natText_J7.ex) α
noncomputable def impl_natText_J10.b {α : Type} (N : Nat) (v785 : ByteArray) (v786 : List Int) (v787 : ByteArray) (k0 : ByteArray → List Int → ByteArray → Option α) : Option α :=
 let x788 := ((v786.length : Nat) : Int)
 let x789 := (decide ((0 : Int) < x788))
 bif x789 then
  let x790 := ((v787.size : Nat) : Int)
  let x791 := (IntKind.i64.wrap ((4 : Int) - x790))
  strings_Repeat N (⟨#[48]⟩ : ByteArray) x791
   (fun x792 =>
    bif decide (x792.size + v787.size ≤ 9223372036854775807) then
     let x793 := x792 ++ v787
     k0 v785 v786 x793
    else
     none)
 else
  k0 v785 v786 v787
theorem impl_natText_J10.ex : ∃ f : ((α : Type) → Nat → ByteArray → List Int → ByteArray → (ByteArray → List Int → ByteArray → Option α) → Option α), f = fun α => @impl_natText_J10.b α := ⟨_, rfl⟩
noncomputable def impl_natText_J10 {α : Type} : Nat → ByteArray → List Int → ByteArray → (ByteArray → List Int → ByteArray → Option α) → Option α := Classical.choose impl_natText_J10.ex α
theorem impl_natText_J10.eq : @impl_natText_J10 = @impl_natText_J10.b := funext fun α => congrFun (Classical.choose_spec impl_natText_J10.ex) α
noncomputable def impl_natText_L0r {α : Type} (N : Nat) (next : List Int → ByteArray → Option α) (k0 : ByteArray → Option α) (v242 : List Int) (v243 : ByteArray) : Option α :=
 let x244 := ((v242.length : Nat) : Int)
 let x245 := (decide ((0 : Int) < x244))
 bif x245 then
  let x246 := [(10000 : Int)]
  impl_natDiv N v242 x246
   (fun x772 x773 =>
    impl_natText_J7 N v243 x772 x773 (0 : Int)
     (fun x781 x782 x783 =>
      strconv_Itoa N x783
       (fun x784 =>
        impl_natText_J10 N x781 x782 x784
         (fun x794 x795 x796 =>
          bif decide (x796.size + x794.size ≤ 9223372036854775807) then
           let x797 := x796 ++ x794
           next x795 x797
          else
           none))))
 else
  k0 v243
noncomputable def impl_natText_L0.b {α : Type} (N n : Nat) (v242 : List Int) (v243 : ByteArray) (k0 : ByteArray → Option α) : Option α :=
  Nat.rec (motive := fun _ => List Int → ByteArray → Option α) (fun _ _ => none) (fun _ next => impl_natText_L0r N next k0) n v242 v243
theorem impl_natText_L0.ex : ∃ f : ((α : Type) → Nat → Nat → List Int → ByteArray → (ByteArray → Option α) → Option α), f = fun α => @impl_natText_L0.b α := ⟨_, rfl⟩
noncomputable def impl_natText_L0 {α : Type} : Nat → Nat → List Int → ByteArray → (ByteArray → Option α) → Option α := Classical.choose impl_natText_L0.ex α
theorem impl_natText_L0.eq : @impl_natText_L0 = @impl_natText_L0.b := funext fun α => congrFun (Classical.choose_spec impl_natText_L0.ex) α
theorem impl_natText_L0.zero {α : Type} (N : Nat) (v242 : List Int) (v243 : ByteArray) (k0 : ByteArray → Option α) : impl_natText_L0 N 0 v242 v243 k0 = none := by rw [impl_natText_L0.eq]; rfl
theorem impl_natText_L0.succ {α : Type} (N n : Nat) (v242 : List Int) (v243 : ByteArray) (k0 : ByteArray → Option α) : impl_natText_L0 N (n + 1) v242 v243 k0 = impl_natText_L0r N (fun y0 y1 => impl_natText_L0 N n y0 y1 k0) k0 v242 v243 := by rw [impl_natText_L0.eq]; rfl
/-- impl.natText -/
noncomputable def impl_natText.b {α : Type} (N : Nat) (a239 : List Int) (k0 : ByteArray → Option α) : Option α :=
 let x240 := ((a239.length : Nat) : Int)
 let x241 := (decide (x240 = (0 : Int)))
 bif x241 then
  k0 (⟨#[48]⟩ : ByteArray)
 else
  impl_natText_L0 N N a239 ByteArray.empty
   (fun x798 =>
    k0 x798)
theorem impl_natText.ex : ∃ f : ((α : Type) → Nat → List Int → (ByteArray → Option α) → Option α), f = fun α => @impl_natText.b α := ⟨_, rfl⟩
noncomputable def impl_natText {α : Type} : Nat → List Int → (ByteArray → Option α) → Option α := Classical.choose impl_natText.ex α
theorem impl_natText.eq : @impl_natText = @impl_natText.b := funext fun α => congrFun (Classical.choose_spec impl_natText.ex) α

/-- impl.NatText -/
noncomputable def impl_NatText.b {α : Type} (N : Nat) (a202 : List Int) (k0 : ByteArray → Option α) : Option α :=
 impl_NatOk N a202
  (fun x237 =>
   let x238 := !x237
   bif x238 then
    k0 ByteArray.empty
   else
    impl_natText N a202
     (fun x799 =>
      k0 x799))
theorem impl_NatText.ex : ∃ f : ((α : Type) → Nat → List Int → (ByteArray → Option α) → Option α), f = fun α => @impl_NatText.b α := ⟨_, rfl⟩
noncomputable def impl_NatText {α : Type} : Nat → List Int → (ByteArray → Option α) → Option α := Classical.choose impl_NatText.ex α
theorem impl_NatText.eq : @impl_NatText = @impl_NatText.b := funext fun α => congrFun (Classical.choose_spec impl_NatText.ex) α

noncomputable def spec_NatOk_L0r {α : Type} (N : Nat) (next : List Int → Int → Option α) (k0 : Bool → Option α) (k1 : List Int → Option α) (v804 : List Int) (v805 : Int) : Option α :=
 let x806 := ((v804.length : Nat) : Int)
 let x807 := decide (v805 < x806)
 bif x807 then
  bif (decide (v805 < (0 : Int))) then
   none
  else
   match v804[v805.toNat]? with
   | some x808 =>
    let x809 := (decide (x808 < (0 : Int)))
    bif x809 then
     k0 false
    else
     bif (decide (v805 < (0 : Int))) then
      none
     else
      match v804[v805.toNat]? with
      | some x810 =>
       let x811 := (decide ((65536 : Int) ≤ x810))
       bif x811 then
        k0 false
       else
        let x812 := (IntKind.i64.wrap (v805 + (1 : Int)))
        next v804 x812
      | none => none
   | none => none
 else
  k1 v804
noncomputable def spec_NatOk_L0.b {α : Type} (N n : Nat) (v804 : List Int) (v805 : Int) (k0 : Bool → Option α) (k1 : List Int → Option α) : Option α :=
  Nat.rec (motive := fun _ => List Int → Int → Option α) (fun _ _ => none) (fun _ next => spec_NatOk_L0r N next k0 k1) n v804 v805
theorem spec_NatOk_L0.ex : ∃ f : ((α : Type) → Nat → Nat → List Int → Int → (Bool → Option α) → (List Int → Option α) → Option α), f = fun α => @spec_NatOk_L0.b α := ⟨_, rfl⟩
noncomputable def spec_NatOk_L0 {α : Type} : Nat → Nat → List Int → Int → (Bool → Option α) → (List Int → Option α) → Option α := Classical.choose spec_NatOk_L0.ex α
theorem spec_NatOk_L0.eq : @spec_NatOk_L0 = @spec_NatOk_L0.b := funext fun α => congrFun (Classical.choose_spec spec_NatOk_L0.ex) α
theorem spec_NatOk_L0.zero {α : Type} (N : Nat) (v804 : List Int) (v805 : Int) (k0 : Bool → Option α) (k1 : List Int → Option α) : spec_NatOk_L0 N 0 v804 v805 k0 k1 = none := by rw [spec_NatOk_L0.eq]; rfl
theorem spec_NatOk_L0.succ {α : Type} (N n : Nat) (v804 : List Int) (v805 : Int) (k0 : Bool → Option α) (k1 : List Int → Option α) : spec_NatOk_L0 N (n + 1) v804 v805 k0 k1 = spec_NatOk_L0r N (fun y0 y1 => spec_NatOk_L0 N n y0 y1 k0 k1) k0 k1 v804 v805 := by rw [spec_NatOk_L0.eq]; rfl
/-- spec.NatOk -/
noncomputable def spec_NatOk.b {α : Type} (N : Nat) (a801 : List Int) (k0 : Bool → Option α) : Option α :=
 let x802 := ((a801.length : Nat) : Int)
 let x803 := (decide ((256 : Int) < x802))
 bif x803 then
  k0 false
 else
  spec_NatOk_L0 N N a801 (0 : Int)
   (fun x813 =>
    k0 x813)
   (fun x814 =>
    let x815 := ((x814.length : Nat) : Int)
    let x816 := (decide (x815 = (0 : Int)))
    bif x816 then
     k0 true
    else
     let x817 := ((x814.length : Nat) : Int)
     let x818 := (IntKind.i64.wrap (x817 - (1 : Int)))
     bif (decide (x818 < (0 : Int))) then
      none
     else
      match x814[x818.toNat]? with
      | some x819 =>
       let x820 := (!(decide (x819 = (0 : Int))))
       k0 x820
      | none => none)
theorem spec_NatOk.ex : ∃ f : ((α : Type) → Nat → List Int → (Bool → Option α) → Option α), f = fun α => @spec_NatOk.b α := ⟨_, rfl⟩
noncomputable def spec_NatOk {α : Type} : Nat → List Int → (Bool → Option α) → Option α := Classical.choose spec_NatOk.ex α
theorem spec_NatOk.eq : @spec_NatOk = @spec_NatOk.b := funext fun α => congrFun (Classical.choose_spec spec_NatOk.ex) α

noncomputable def impl_isDigits_L0r {α : Type} (N : Nat) (next : ByteArray → Int → Int → Option α) (k0 : Bool → Option α) (k1 : ByteArray → Option α) (v833 : ByteArray) (v834 : Int) (v835 : Int) : Option α :=
 let x836 := decide (v835 < v834)
 bif x836 then
  bif (decide (v835 < (0 : Int))) then
   none
  else
   match (v833[v835.toNat]? : Option UInt8) with
   | some x837 =>
    let x838 := ((x837.toNat : Nat) : Int)
    let x839 := (decide (x838 < (48 : Int)))
    bif x839 then
     k0 false
    else
     bif (decide (v835 < (0 : Int))) then
      none
     else
      match (v833[v835.toNat]? : Option UInt8) with
      | some x840 =>
       let x841 := ((x840.toNat : Nat) : Int)
       let x842 := (decide ((57 : Int) < x841))
       bif x842 then
        k0 false
       else
        let x843 := (IntKind.i64.wrap (v835 + (1 : Int)))
        next v833 v834 x843
      | none => none
   | none => none
 else
  k1 v833
noncomputable def impl_isDigits_L0.b {α : Type} (N n : Nat) (v833 : ByteArray) (v834 : Int) (v835 : Int) (k0 : Bool → Option α) (k1 : ByteArray → Option α) : Option α :=
  Nat.rec (motive := fun _ => ByteArray → Int → Int → Option α) (fun _ _ _ => none) (fun _ next => impl_isDigits_L0r N next k0 k1) n v833 v834 v835
theorem impl_isDigits_L0.ex : ∃ f : ((α : Type) → Nat → Nat → ByteArray → Int → Int → (Bool → Option α) → (ByteArray → Option α) → Option α), f = fun α => @impl_isDigits_L0.b α := ⟨_, rfl⟩
noncomputable def impl_isDigits_L0 {α : Type} : Nat → Nat → ByteArray → Int → Int → (Bool → Option α) → (ByteArray → Option α) → Option α := Classical.choose impl_isDigits_L0.ex α
theorem impl_isDigits_L0.eq : @impl_isDigits_L0 = @impl_isDigits_L0.b := funext fun α => congrFun (Classical.choose_spec impl_isDigits_L0.ex) α
theorem impl_isDigits_L0.zero {α : Type} (N : Nat) (v833 : ByteArray) (v834 : Int) (v835 : Int) (k0 : Bool → Option α) (k1 : ByteArray → Option α) : impl_isDigits_L0 N 0 v833 v834 v835 k0 k1 = none := by rw [impl_isDigits_L0.eq]; rfl
theorem impl_isDigits_L0.succ {α : Type} (N n : Nat) (v833 : ByteArray) (v834 : Int) (v835 : Int) (k0 : Bool → Option α) (k1 : ByteArray → Option α) : impl_isDigits_L0 N (n + 1) v833 v834 v835 k0 k1 = impl_isDigits_L0r N (fun y0 y1 y2 => impl_isDigits_L0 N n y0 y1 y2 k0 k1) k0 k1 v833 v834 v835 := by rw [impl_isDigits_L0.eq]; rfl
/-- impl.isDigits -/
noncomputable def impl_isDigits.b {α : Type} (N : Nat) (a831 : ByteArray) (k0 : Bool → Option α) : Option α :=
 let x832 := ((a831.size : Nat) : Int)
 impl_isDigits_L0 N N a831 x832 (0 : Int)
  (fun x844 =>
   k0 x844)
  (fun x845 =>
   let x846 := !eqS x845 ByteArray.empty
   k0 x846)
theorem impl_isDigits.ex : ∃ f : ((α : Type) → Nat → ByteArray → (Bool → Option α) → Option α), f = fun α => @impl_isDigits.b α := ⟨_, rfl⟩
noncomputable def impl_isDigits {α : Type} : Nat → ByteArray → (Bool → Option α) → Option α := Classical.choose impl_isDigits.ex α
theorem impl_isDigits.eq : @impl_isDigits = @impl_isDigits.b := funext fun α => congrFun (Classical.choose_spec impl_isDigits.ex) α

noncomputable def impl_natMul_L2r {α : Type} (N : Nat) (next : List Int → Int → Int → Int → List Int → Int → Int → List Int → Int → Int → List Int → Option α) (k0 : List Int → Int → Int → List Int → Int → Int → List Int → Option α) (v1002 : List Int) (v1003 : Int) (v1004 : Int) (v1005 : Int) (v1006 : List Int) (v1007 : Int) (v1008 : Int) (v1009 : List Int) (v1010 : Int) (v1011 : Int) (v1012 : List Int) : Option α :=
 let x1013 := decide (v1011 < v1010)
 bif x1013 then
  bif (decide (v1011 < (0 : Int))) then
   none
  else
   match v1009[v1011.toNat]? with
   | some x1014 =>
    let x1015 := IntKind.i64.wrap (v1003 + v1011)
    bif (decide (x1015 < (0 : Int))) then
     none
    else
     bif decide (x1015.toNat < v1012.length) then
      match v1012[x1015.toNat]? with
      | some x1016 =>
       let x1017 := IntKind.i64.wrap (v1004 * x1014)
       let x1018 := IntKind.i64.wrap (x1016 + x1017)
       let x1019 := IntKind.i64.wrap (x1018 + v1005)
       let x1020 := IntKind.i64.wrap (v1003 + v1011)
       let x1021 := (bitI .and .i64 x1019 (65535 : Int))
       bif (decide (x1020 < (0 : Int))) then
        none
       else
        bif decide (x1020.toNat < v1012.length) then
         match v1012[x1020.toNat]? with
         | some x1022 =>
          let x1023 := v1012.set x1020.toNat x1021
          let x1024 := (shrI .i64 x1019 (16 : Int))
          let x1025 := (IntKind.i64.wrap (v1011 + (1 : Int)))
          next v1002 v1003 v1004 x1024 v1006 v1007 v1008 v1009 v1010 x1025 x1023
         | none => none
        else
         none
      | none => none
     else
      none
   | none => none
 else
  k0 v1002 v1003 v1005 v1006 v1007 v1008 v1012
noncomputable def impl_natMul_L2.b {α : Type} (N n : Nat) (v1002 : List Int) (v1003 : Int) (v1004 : Int) (v1005 : Int) (v1006 : List Int) (v1007 : Int) (v1008 : Int) (v1009 : List Int) (v1010 : Int) (v1011 : Int) (v1012 : List Int) (k0 : List Int → Int → Int → List Int → Int → Int → List Int → Option α) : Option α :=
  Nat.rec (motive := fun _ => List Int → Int → Int → Int → List Int → Int → Int → List Int → Int → Int → List Int → Option α) (fun _ _ _ _ _ _ _ _ _ _ _ => none) (fun _ next => impl_natMul_L2r N next k0) n v1002 v1003 v1004 v1005 v1006 v1007 v1008 v1009 v1010 v1011 v1012
theorem impl_natMul_L2.ex : ∃ f : ((α : Type) → Nat → Nat → List Int → Int → Int → Int → List Int → Int → Int → List Int → Int → Int → List Int → (List Int → Int → Int → List Int → Int → Int → List Int → Option α) → Option α), f = fun α => @impl_natMul_L2.b α := ⟨_, rfl⟩
noncomputable def impl_natMul_L2 {α : Type} : Nat → Nat → List Int → Int → Int → Int → List Int → Int → Int → List Int → Int → Int → List Int → (List Int → Int → Int → List Int → Int → Int → List Int → Option α) → Option α := Classical.choose impl_natMul_L2.ex α
theorem impl_natMul_L2.eq : @impl_natMul_L2 = @impl_natMul_L2.b := funext fun α => congrFun (Classical.choose_spec impl_natMul_L2.ex) α
theorem impl_natMul_L2.zero {α : Type} (N : Nat) (v1002 : List Int) (v1003 : Int) (v1004 : Int) (v1005 : Int) (v1006 : List Int) (v1007 : Int) (v1008 : Int) (v1009 : List Int) (v1010 : Int) (v1011 : Int) (v1012 : List Int) (k0 : List Int → Int → Int → List Int → Int → Int → List Int → Option α) : impl_natMul_L2 N 0 v1002 v1003 v1004 v1005 v1006 v1007 v1008 v1009 v1010 v1011 v1012 k0 = none := by rw [impl_natMul_L2.eq]; rfl
theorem impl_natMul_L2.succ {α : Type} (N n : Nat) (v1002 : List Int) (v1003 : Int) (v1004 : Int) (v1005 : Int) (v1006 : List Int) (v1007 : Int) (v1008 : Int) (v1009 : List Int) (v1010 : Int) (v1011 : Int) (v1012 : List Int) (k0 : List Int → Int → Int → List Int → Int → Int → List Int → Option α) : impl_natMul_L2 N (n + 1) v1002 v1003 v1004 v1005 v1006 v1007 v1008 v1009 v1010 v1011 v1012 k0 = impl_natMul_L2r N (fun y0 y1 y2 y3 y4 y5 y6 y7 y8 y9 y10 => impl_natMul_L2 N n y0 y1 y2 y3 y4 y5 y6 y7 y8 y9 y10 k0) k0 v1002 v1003 v1004 v1005 v1006 v1007 v1008 v1009 v1010 v1011 v1012 := by rw [impl_natMul_L2.eq]; rfl
noncomputable def impl_natMul_L0r {α : Type} (N : Nat) (next : List Int → List Int → Int → Int → List Int → Option α) (k0 : List Int → Option α) (v994 : List Int) (v995 : List Int) (v996 : Int) (v997 : Int) (v998 : List Int) : Option α :=
 let x999 := decide (v997 < v996)
 bif x999 then
  bif (decide (v997 < (0 : Int))) then
   none
  else
   match v995[v997.toNat]? with
   | some x1000 =>
    let x1001 := ((v994.length : Nat) : Int)
    impl_natMul_L2 N N v994 v997 x1000 (0 : Int) v995 v996 v997 v994 x1001 (0 : Int) v998
     (fun x1026 x1027 x1028 x1029 x1030 x1031 x1032 =>
      let x1033 := ((x1026.length : Nat) : Int)
      let x1034 := IntKind.i64.wrap (x1027 + x1033)
      bif (decide (x1034 < (0 : Int))) then
       none
      else
       bif decide (x1034.toNat < x1032.length) then
        match x1032[x1034.toNat]? with
        | some x1035 =>
         let x1036 := IntKind.i64.wrap (x1035 + x1028)
         bif (decide (x1034 < (0 : Int))) then
          none
         else
          bif decide (x1034.toNat < x1032.length) then
           match x1032[x1034.toNat]? with
           | some x1037 =>
            let x1038 := x1032.set x1034.toNat x1036
            let x1039 := (IntKind.i64.wrap (x1031 + (1 : Int)))
            next x1026 x1029 x1030 x1039 x1038
           | none => none
          else
           none
        | none => none
       else
        none)
   | none => none
 else
  k0 v998
noncomputable def impl_natMul_L0.b {α : Type} (N n : Nat) (v994 : List Int) (v995 : List Int) (v996 : Int) (v997 : Int) (v998 : List Int) (k0 : List Int → Option α) : Option α :=
  Nat.rec (motive := fun _ => List Int → List Int → Int → Int → List Int → Option α) (fun _ _ _ _ _ => none) (fun _ next => impl_natMul_L0r N next k0) n v994 v995 v996 v997 v998
theorem impl_natMul_L0.ex : ∃ f : ((α : Type) → Nat → Nat → List Int → List Int → Int → Int → List Int → (List Int → Option α) → Option α), f = fun α => @impl_natMul_L0.b α := ⟨_, rfl⟩
noncomputable def impl_natMul_L0 {α : Type} : Nat → Nat → List Int → List Int → Int → Int → List Int → (List Int → Option α) → Option α := Classical.choose impl_natMul_L0.ex α
theorem impl_natMul_L0.eq : @impl_natMul_L0 = @impl_natMul_L0.b := funext fun α => congrFun (Classical.choose_spec impl_natMul_L0.ex) α
theorem impl_natMul_L0.zero {α : Type} (N : Nat) (v994 : List Int) (v995 : List Int) (v996 : Int) (v997 : Int) (v998 : List Int) (k0 : List Int → Option α) : impl_natMul_L0 N 0 v994 v995 v996 v997 v998 k0 = none := by rw [impl_natMul_L0.eq]; rfl
theorem impl_natMul_L0.succ {α : Type} (N n : Nat) (v994 : List Int) (v995 : List Int) (v996 : Int) (v997 : Int) (v998 : List Int) (k0 : List Int → Option α) : impl_natMul_L0 N (n + 1) v994 v995 v996 v997 v998 k0 = impl_natMul_L0r N (fun y0 y1 y2 y3 y4 => impl_natMul_L0 N n y0 y1 y2 y3 y4 k0) k0 v994 v995 v996 v997 v998 := by rw [impl_natMul_L0.eq]; rfl
/-- impl.natMul -/
noncomputable def impl_natMul.b {α : Type} (N : Nat) (a986 : List Int) (a987 : List Int) (k0 : List Int → Option α) : Option α :=
 let x988 := ((a986.length : Nat) : Int)
 let x989 := ((a987.length : Nat) : Int)
 let x990 := IntKind.i64.wrap (x988 + x989)
 let x991 := (IntKind.i64.wrap (x990 + (1 : Int)))
 bif (decide ((0 : Int) ≤ x991)) then
  bif decide (x991 ≤ x991) then
   bif (decide (x991 ≤ ((8796093022208 : Nat) : Int))) then
    let x992 := (List.replicate x991.toNat (0 : Int))
    let x993 := ((a986.length : Nat) : Int)
    impl_natMul_L0 N N a987 a986 x993 (0 : Int) x992
     (fun x1040 =>
      impl_trim N x1040
       (fun x1041 =>
        k0 x1041))
   else
    none
  else
   none
 else
  none
theorem impl_natMul.ex : ∃ f : ((α : Type) → Nat → List Int → List Int → (List Int → Option α) → Option α), f = fun α => @impl_natMul.b α := ⟨_, rfl⟩
noncomputable def impl_natMul {α : Type} : Nat → List Int → List Int → (List Int → Option α) → Option α := Classical.choose impl_natMul.ex α
theorem impl_natMul.eq : @impl_natMul = @impl_natMul.b := funext fun α => congrFun (Classical.choose_spec impl_natMul.ex) α

noncomputable def impl_natOf_L0r {α : Type} (N : Nat) (next : Int → List Int → Option α) (k0 : List Int → Option α) (v1048 : Int) (v1049 : List Int) : Option α :=
 let x1050 := (decide ((0 : Int) < v1048))
 bif x1050 then
  let x1051 := (bitI .and .u64 v1048 (65535 : Int))
  let x1052 := IntKind.i64.wrap x1051
  let x1053 := [x1052]
  bif decide (v1049.length + x1053.length ≤ 8796093022208) then
   let x1054 := v1049 ++ x1053
   let x1055 := (shrI .u64 v1048 (16 : Int))
   next x1055 x1054
  else
   none
 else
  k0 v1049
noncomputable def impl_natOf_L0.b {α : Type} (N n : Nat) (v1048 : Int) (v1049 : List Int) (k0 : List Int → Option α) : Option α :=
  Nat.rec (motive := fun _ => Int → List Int → Option α) (fun _ _ => none) (fun _ next => impl_natOf_L0r N next k0) n v1048 v1049
theorem impl_natOf_L0.ex : ∃ f : ((α : Type) → Nat → Nat → Int → List Int → (List Int → Option α) → Option α), f = fun α => @impl_natOf_L0.b α := ⟨_, rfl⟩
noncomputable def impl_natOf_L0 {α : Type} : Nat → Nat → Int → List Int → (List Int → Option α) → Option α := Classical.choose impl_natOf_L0.ex α
theorem impl_natOf_L0.eq : @impl_natOf_L0 = @impl_natOf_L0.b := funext fun α => congrFun (Classical.choose_spec impl_natOf_L0.ex) α
theorem impl_natOf_L0.zero {α : Type} (N : Nat) (v1048 : Int) (v1049 : List Int) (k0 : List Int → Option α) : impl_natOf_L0 N 0 v1048 v1049 k0 = none := by rw [impl_natOf_L0.eq]; rfl
theorem impl_natOf_L0.succ {α : Type} (N n : Nat) (v1048 : Int) (v1049 : List Int) (k0 : List Int → Option α) : impl_natOf_L0 N (n + 1) v1048 v1049 k0 = impl_natOf_L0r N (fun y0 y1 => impl_natOf_L0 N n y0 y1 k0) k0 v1048 v1049 := by rw [impl_natOf_L0.eq]; rfl
/-- impl.natOf -/
noncomputable def impl_natOf.b {α : Type} (N : Nat) (a1047 : Int) (k0 : List Int → Option α) : Option α :=
 impl_natOf_L0 N N a1047 []
  (fun x1056 =>
   k0 x1056)
theorem impl_natOf.ex : ∃ f : ((α : Type) → Nat → Int → (List Int → Option α) → Option α), f = fun α => @impl_natOf.b α := ⟨_, rfl⟩
noncomputable def impl_natOf {α : Type} : Nat → Int → (List Int → Option α) → Option α := Classical.choose impl_natOf.ex α
theorem impl_natOf.eq : @impl_natOf = @impl_natOf.b := funext fun α => congrFun (Classical.choose_spec impl_natOf.ex) α

noncomputable def impl_natAdd_L0r {α : Type} (N : Nat) (next : List Int → Int → Int → List Int → Option α) (k0 : List Int → Option α) (v1068 : List Int) (v1069 : Int) (v1070 : Int) (v1071 : List Int) : Option α :=
 let x1072 := decide (v1070 < v1069)
 bif x1072 then
  bif (decide (v1070 < (0 : Int))) then
   none
  else
   match v1068[v1070.toNat]? with
   | some x1073 =>
    bif (decide (v1070 < (0 : Int))) then
     none
    else
     bif decide (v1070.toNat < v1071.length) then
      match v1071[v1070.toNat]? with
      | some x1074 =>
       let x1075 := IntKind.i64.wrap (x1074 + x1073)
       bif (decide (v1070 < (0 : Int))) then
        none
       else
        bif decide (v1070.toNat < v1071.length) then
         match v1071[v1070.toNat]? with
         | some x1076 =>
          let x1077 := v1071.set v1070.toNat x1075
          let x1078 := (IntKind.i64.wrap (v1070 + (1 : Int)))
          next v1068 v1069 x1078 x1077
         | none => none
        else
         none
      | none => none
     else
      none
   | none => none
 else
  k0 v1071
noncomputable def impl_natAdd_L0.b {α : Type} (N n : Nat) (v1068 : List Int) (v1069 : Int) (v1070 : Int) (v1071 : List Int) (k0 : List Int → Option α) : Option α :=
  Nat.rec (motive := fun _ => List Int → Int → Int → List Int → Option α) (fun _ _ _ _ => none) (fun _ next => impl_natAdd_L0r N next k0) n v1068 v1069 v1070 v1071
theorem impl_natAdd_L0.ex : ∃ f : ((α : Type) → Nat → Nat → List Int → Int → Int → List Int → (List Int → Option α) → Option α), f = fun α => @impl_natAdd_L0.b α := ⟨_, rfl⟩
noncomputable def impl_natAdd_L0 {α : Type} : Nat → Nat → List Int → Int → Int → List Int → (List Int → Option α) → Option α := Classical.choose impl_natAdd_L0.ex α
theorem impl_natAdd_L0.eq : @impl_natAdd_L0 = @impl_natAdd_L0.b := funext fun α => congrFun (Classical.choose_spec impl_natAdd_L0.ex) α
theorem impl_natAdd_L0.zero {α : Type} (N : Nat) (v1068 : List Int) (v1069 : Int) (v1070 : Int) (v1071 : List Int) (k0 : List Int → Option α) : impl_natAdd_L0 N 0 v1068 v1069 v1070 v1071 k0 = none := by rw [impl_natAdd_L0.eq]; rfl
theorem impl_natAdd_L0.succ {α : Type} (N n : Nat) (v1068 : List Int) (v1069 : Int) (v1070 : Int) (v1071 : List Int) (k0 : List Int → Option α) : impl_natAdd_L0 N (n + 1) v1068 v1069 v1070 v1071 k0 = impl_natAdd_L0r N (fun y0 y1 y2 y3 => impl_natAdd_L0 N n y0 y1 y2 y3 k0) k0 v1068 v1069 v1070 v1071 := by rw [impl_natAdd_L0.eq]; rfl
noncomputable def impl_natAdd_L2r {α : Type} (N : Nat) (next : Int → Int → List Int → Option α) (k0 : List Int → Option α) (v1082 : Int) (v1083 : Int) (v1084 : List Int) : Option α :=
 let x1085 := decide (v1083 < v1082)
 bif x1085 then
  let x1086 := (IntKind.i64.wrap (v1083 + (1 : Int)))
  bif (decide (x1086 < (0 : Int))) then
   none
  else
   bif decide (x1086.toNat < v1084.length) then
    match v1084[x1086.toNat]? with
    | some x1087 =>
     bif (decide (v1083 < (0 : Int))) then
      none
     else
      bif decide (v1083.toNat < v1084.length) then
       match v1084[v1083.toNat]? with
       | some x1088 =>
        let x1089 := (shrI .i64 x1088 (16 : Int))
        let x1090 := IntKind.i64.wrap (x1087 + x1089)
        bif (decide (x1086 < (0 : Int))) then
         none
        else
         bif decide (x1086.toNat < v1084.length) then
          match v1084[x1086.toNat]? with
          | some x1091 =>
           let x1092 := v1084.set x1086.toNat x1090
           bif (decide (v1083 < (0 : Int))) then
            none
           else
            bif decide (v1083.toNat < x1092.length) then
             match x1092[v1083.toNat]? with
             | some x1093 =>
              let x1094 := (bitI .and .i64 x1093 (65535 : Int))
              bif (decide (v1083 < (0 : Int))) then
               none
              else
               bif decide (v1083.toNat < x1092.length) then
                match x1092[v1083.toNat]? with
                | some x1095 =>
                 let x1096 := x1092.set v1083.toNat x1094
                 let x1097 := (IntKind.i64.wrap (v1083 + (1 : Int)))
                 next v1082 x1097 x1096
                | none => none
               else
                none
             | none => none
            else
             none
          | none => none
         else
          none
       | none => none
      else
       none
    | none => none
   else
    none
 else
  k0 v1084
noncomputable def impl_natAdd_L2.b {α : Type} (N n : Nat) (v1082 : Int) (v1083 : Int) (v1084 : List Int) (k0 : List Int → Option α) : Option α :=
  Nat.rec (motive := fun _ => Int → Int → List Int → Option α) (fun _ _ _ => none) (fun _ next => impl_natAdd_L2r N next k0) n v1082 v1083 v1084
theorem impl_natAdd_L2.ex : ∃ f : ((α : Type) → Nat → Nat → Int → Int → List Int → (List Int → Option α) → Option α), f = fun α => @impl_natAdd_L2.b α := ⟨_, rfl⟩
noncomputable def impl_natAdd_L2 {α : Type} : Nat → Nat → Int → Int → List Int → (List Int → Option α) → Option α := Classical.choose impl_natAdd_L2.ex α
theorem impl_natAdd_L2.eq : @impl_natAdd_L2 = @impl_natAdd_L2.b := funext fun α => congrFun (Classical.choose_spec impl_natAdd_L2.ex) α
theorem impl_natAdd_L2.zero {α : Type} (N : Nat) (v1082 : Int) (v1083 : Int) (v1084 : List Int) (k0 : List Int → Option α) : impl_natAdd_L2 N 0 v1082 v1083 v1084 k0 = none := by rw [impl_natAdd_L2.eq]; rfl
theorem impl_natAdd_L2.succ {α : Type} (N n : Nat) (v1082 : Int) (v1083 : Int) (v1084 : List Int) (k0 : List Int → Option α) : impl_natAdd_L2 N (n + 1) v1082 v1083 v1084 k0 = impl_natAdd_L2r N (fun y0 y1 y2 => impl_natAdd_L2 N n y0 y1 y2 k0) k0 v1082 v1083 v1084 := by rw [impl_natAdd_L2.eq]; rfl
/-- impl.natAdd -/
noncomputable def impl_natAdd.b {α : Type} (N : Nat) (a1058 : List Int) (a1059 : List Int) (k0 : List Int → Option α) : Option α :=
 let x1060 := ((a1058.length : Nat) : Int)
 let x1061 := ((a1059.length : Nat) : Int)
 let x1062 := maxI x1060 x1061
 let x1063 := (IntKind.i64.wrap (x1062 + (1 : Int)))
 bif (decide ((0 : Int) ≤ x1063)) then
  bif decide (x1063 ≤ x1063) then
   bif (decide (x1063 ≤ ((8796093022208 : Nat) : Int))) then
    let x1064 := (List.replicate x1063.toNat (0 : Int))
    let x1065 := List.take (min a1058.length x1064.length) a1058 ++ List.drop (min a1058.length x1064.length) x1064
    let x1067 := ((a1059.length : Nat) : Int)
    impl_natAdd_L0 N N a1059 x1067 (0 : Int) x1065
     (fun x1079 =>
      let x1080 := ((x1079.length : Nat) : Int)
      let x1081 := (IntKind.i64.wrap (x1080 - (1 : Int)))
      impl_natAdd_L2 N N x1081 (0 : Int) x1079
       (fun x1098 =>
        impl_trim N x1098
         (fun x1099 =>
          k0 x1099)))
   else
    none
  else
   none
 else
  none
theorem impl_natAdd.ex : ∃ f : ((α : Type) → Nat → List Int → List Int → (List Int → Option α) → Option α), f = fun α => @impl_natAdd.b α := ⟨_, rfl⟩
noncomputable def impl_natAdd {α : Type} : Nat → List Int → List Int → (List Int → Option α) → Option α := Classical.choose impl_natAdd.ex α
theorem impl_natAdd.eq : @impl_natAdd = @impl_natAdd.b := funext fun α => congrFun (Classical.choose_spec impl_natAdd.ex) α

noncomputable def impl_natRead_L0r {α : Type} (N : Nat) (next : ByteArray → List Int → Int → Int → Option α) (k0 : List Int → Option α) (v980 : ByteArray) (v981 : List Int) (v982 : Int) (v983 : Int) : Option α :=
 let x984 := decide (v983 < v982)
 bif x984 then
  let x985 := [(10 : Int)]
  impl_natMul N v981 x985
   (fun x1042 =>
    bif (decide (v983 < (0 : Int))) then
     none
    else
     match (v980[v983.toNat]? : Option UInt8) with
     | some x1043 =>
      let x1044 := ((x1043.toNat : Nat) : Int)
      let x1045 := (IntKind.u8.wrap (x1044 - (48 : Int)))
      let x1046 := IntKind.u64.wrap x1045
      impl_natOf N x1046
       (fun x1057 =>
        impl_natAdd N x1042 x1057
         (fun x1100 =>
          let x1101 := (IntKind.i64.wrap (v983 + (1 : Int)))
          next v980 x1100 v982 x1101))
     | none => none)
 else
  k0 v981
noncomputable def impl_natRead_L0.b {α : Type} (N n : Nat) (v980 : ByteArray) (v981 : List Int) (v982 : Int) (v983 : Int) (k0 : List Int → Option α) : Option α :=
  Nat.rec (motive := fun _ => ByteArray → List Int → Int → Int → Option α) (fun _ _ _ _ => none) (fun _ next => impl_natRead_L0r N next k0) n v980 v981 v982 v983
theorem impl_natRead_L0.ex : ∃ f : ((α : Type) → Nat → Nat → ByteArray → List Int → Int → Int → (List Int → Option α) → Option α), f = fun α => @impl_natRead_L0.b α := ⟨_, rfl⟩
noncomputable def impl_natRead_L0 {α : Type} : Nat → Nat → ByteArray → List Int → Int → Int → (List Int → Option α) → Option α := Classical.choose impl_natRead_L0.ex α
theorem impl_natRead_L0.eq : @impl_natRead_L0 = @impl_natRead_L0.b := funext fun α => congrFun (Classical.choose_spec impl_natRead_L0.ex) α
theorem impl_natRead_L0.zero {α : Type} (N : Nat) (v980 : ByteArray) (v981 : List Int) (v982 : Int) (v983 : Int) (k0 : List Int → Option α) : impl_natRead_L0 N 0 v980 v981 v982 v983 k0 = none := by rw [impl_natRead_L0.eq]; rfl
theorem impl_natRead_L0.succ {α : Type} (N n : Nat) (v980 : ByteArray) (v981 : List Int) (v982 : Int) (v983 : Int) (k0 : List Int → Option α) : impl_natRead_L0 N (n + 1) v980 v981 v982 v983 k0 = impl_natRead_L0r N (fun y0 y1 y2 y3 => impl_natRead_L0 N n y0 y1 y2 y3 k0) k0 v980 v981 v982 v983 := by rw [impl_natRead_L0.eq]; rfl
/-- impl.natRead -/
noncomputable def impl_natRead.b {α : Type} (N : Nat) (a978 : ByteArray) (k0 : List Int → Option α) : Option α :=
 let x979 := ((a978.size : Nat) : Int)
 impl_natRead_L0 N N a978 [] x979 (0 : Int)
  (fun x1102 =>
   k0 x1102)
theorem impl_natRead.ex : ∃ f : ((α : Type) → Nat → ByteArray → (List Int → Option α) → Option α), f = fun α => @impl_natRead.b α := ⟨_, rfl⟩
noncomputable def impl_natRead {α : Type} : Nat → ByteArray → (List Int → Option α) → Option α := Classical.choose impl_natRead.ex α
theorem impl_natRead.eq : @impl_natRead = @impl_natRead.b := funext fun α => congrFun (Classical.choose_spec impl_natRead.ex) α

/-- slices.Clip[[]int,int] -/
noncomputable def slices_Clip_int_int.b {α : Type} (N : Nat) (a1112 : List Int) (k0 : List Int → Option α) : Option α :=
 let x1113 := ((a1112.length : Nat) : Int)
 let x1114 := ((a1112.length : Nat) : Int)
 bif (decide ((0 : Int) ≤ x1114)) then
  bif (decide (x1114 ≤ ((a1112.length : Nat) : Int))) then
   bif (decide ((0 : Int) ≤ x1113)) then
    bif (decide (x1113 ≤ ((x1114.toNat : Nat) : Int))) then
     let x1115 := a1112.take x1113.toNat
     k0 x1115
    else
     none
   else
    none
  else
   none
 else
  none
theorem slices_Clip_int_int.ex : ∃ f : ((α : Type) → Nat → List Int → (List Int → Option α) → Option α), f = fun α => @slices_Clip_int_int.b α := ⟨_, rfl⟩
noncomputable def slices_Clip_int_int {α : Type} : Nat → List Int → (List Int → Option α) → Option α := Classical.choose slices_Clip_int_int.ex α
theorem slices_Clip_int_int.eq : @slices_Clip_int_int = @slices_Clip_int_int.b := funext fun α => congrFun (Classical.choose_spec slices_Clip_int_int.ex) α

/-- impl.clone[int] -/
noncomputable def impl_clone_int.b {α : Type} (N : Nat) (a1110 : List Int) (k0 : List Int → Option α) : Option α :=
 slices_Clone_int_int N a1110
  (fun x1111 =>
   slices_Clip_int_int N x1111
    (fun x1116 =>
     k0 x1116))
theorem impl_clone_int.ex : ∃ f : ((α : Type) → Nat → List Int → (List Int → Option α) → Option α), f = fun α => @impl_clone_int.b α := ⟨_, rfl⟩
noncomputable def impl_clone_int {α : Type} : Nat → List Int → (List Int → Option α) → Option α := Classical.choose impl_clone_int.ex α
theorem impl_clone_int.eq : @impl_clone_int = @impl_clone_int.b := funext fun α => congrFun (Classical.choose_spec impl_clone_int.ex) α

/-- impl.told -/
noncomputable def impl_told.b {α : Type} (N : Nat) (a1104 : List Int) (a1105 : Bool) (k0 : Bool → List Int → Option α) : Option α :=
 impl_trim N a1104
  (fun x1106 =>
   let x1107 := !a1105
   bif x1107 then
    k0 false []
   else
    let x1108 := ((x1106.length : Nat) : Int)
    let x1109 := (decide ((256 : Int) < x1108))
    bif x1109 then
     k0 false []
    else
     impl_clone_int N x1106
      (fun x1117 =>
       k0 true x1117))
theorem impl_told.ex : ∃ f : ((α : Type) → Nat → List Int → Bool → (Bool → List Int → Option α) → Option α), f = fun α => @impl_told.b α := ⟨_, rfl⟩
noncomputable def impl_told {α : Type} : Nat → List Int → Bool → (Bool → List Int → Option α) → Option α := Classical.choose impl_told.ex α
theorem impl_told.eq : @impl_told = @impl_told.b := funext fun α => congrFun (Classical.choose_spec impl_told.ex) α

/-- impl.NatRead -/
noncomputable def impl_NatRead.b {α : Type} (N : Nat) (a828 : ByteArray) (k0 : Bool → List Int → Option α) : Option α :=
 let x829 := ((a828.size : Nat) : Int)
 let x830 := (decide ((1300 : Int) < x829))
 bif x830 then
  k0 false []
 else
  impl_isDigits N a828
   (fun x847 =>
    let x848 := !x847
    bif x848 then
     k0 false []
    else
     match (a828[0]? : Option UInt8) with
     | some x849 =>
      let x850 := ((x849.toNat : Nat) : Int)
      let x851 := (decide (x850 = (48 : Int)))
      bif x851 then
       let x852 := ((a828.size : Nat) : Int)
       let x853 := (decide ((1 : Int) < x852))
       bif x853 then
        k0 false []
       else
        impl_natRead N a828
         (fun x1103 =>
          impl_told N x1103 true
           (fun x1118 x1119 =>
            k0 x1118 x1119))
      else
       impl_natRead N a828
        (fun x1120 =>
         impl_told N x1120 true
          (fun x1121 x1122 =>
           k0 x1121 x1122))
     | none => none)
theorem impl_NatRead.ex : ∃ f : ((α : Type) → Nat → ByteArray → (Bool → List Int → Option α) → Option α), f = fun α => @impl_NatRead.b α := ⟨_, rfl⟩
noncomputable def impl_NatRead {α : Type} : Nat → ByteArray → (Bool → List Int → Option α) → Option α := Classical.choose impl_NatRead.ex α
theorem impl_NatRead.eq : @impl_NatRead = @impl_NatRead.b := funext fun α => congrFun (Classical.choose_spec impl_NatRead.ex) α

noncomputable def laws_pwSame_L0r {α : Type} (N : Nat) (next : List Int → List Int → Int → Option α) (k0 : Bool → Option α) (k1 : Option α) (v1131 : List Int) (v1132 : List Int) (v1133 : Int) : Option α :=
 let x1134 := ((v1131.length : Nat) : Int)
 let x1135 := decide (v1133 < x1134)
 bif x1135 then
  bif (decide (v1133 < (0 : Int))) then
   none
  else
   match v1131[v1133.toNat]? with
   | some x1136 =>
    bif (decide (v1133 < (0 : Int))) then
     none
    else
     match v1132[v1133.toNat]? with
     | some x1137 =>
      let x1138 := !(decide (x1136 = x1137))
      bif x1138 then
       k0 false
      else
       let x1139 := (IntKind.i64.wrap (v1133 + (1 : Int)))
       next v1131 v1132 x1139
     | none => none
   | none => none
 else
  k1
noncomputable def laws_pwSame_L0.b {α : Type} (N n : Nat) (v1131 : List Int) (v1132 : List Int) (v1133 : Int) (k0 : Bool → Option α) (k1 : Option α) : Option α :=
  Nat.rec (motive := fun _ => List Int → List Int → Int → Option α) (fun _ _ _ => none) (fun _ next => laws_pwSame_L0r N next k0 k1) n v1131 v1132 v1133
theorem laws_pwSame_L0.ex : ∃ f : ((α : Type) → Nat → Nat → List Int → List Int → Int → (Bool → Option α) → (Option α) → Option α), f = fun α => @laws_pwSame_L0.b α := ⟨_, rfl⟩
noncomputable def laws_pwSame_L0 {α : Type} : Nat → Nat → List Int → List Int → Int → (Bool → Option α) → (Option α) → Option α := Classical.choose laws_pwSame_L0.ex α
theorem laws_pwSame_L0.eq : @laws_pwSame_L0 = @laws_pwSame_L0.b := funext fun α => congrFun (Classical.choose_spec laws_pwSame_L0.ex) α
theorem laws_pwSame_L0.zero {α : Type} (N : Nat) (v1131 : List Int) (v1132 : List Int) (v1133 : Int) (k0 : Bool → Option α) (k1 : Option α) : laws_pwSame_L0 N 0 v1131 v1132 v1133 k0 k1 = none := by rw [laws_pwSame_L0.eq]; rfl
theorem laws_pwSame_L0.succ {α : Type} (N n : Nat) (v1131 : List Int) (v1132 : List Int) (v1133 : Int) (k0 : Bool → Option α) (k1 : Option α) : laws_pwSame_L0 N (n + 1) v1131 v1132 v1133 k0 k1 = laws_pwSame_L0r N (fun y0 y1 y2 => laws_pwSame_L0 N n y0 y1 y2 k0 k1) k0 k1 v1131 v1132 v1133 := by rw [laws_pwSame_L0.eq]; rfl
/-- laws.pwSame -/
noncomputable def laws_pwSame.b {α : Type} (N : Nat) (a1126 : List Int) (a1127 : List Int) (k0 : Bool → Option α) : Option α :=
 let x1128 := ((a1126.length : Nat) : Int)
 let x1129 := ((a1127.length : Nat) : Int)
 let x1130 := !(decide (x1128 = x1129))
 bif x1130 then
  k0 false
 else
  laws_pwSame_L0 N N a1126 a1127 (0 : Int)
   (fun x1140 =>
    k0 x1140)
   (
    k0 true)
theorem laws_pwSame.ex : ∃ f : ((α : Type) → Nat → List Int → List Int → (Bool → Option α) → Option α), f = fun α => @laws_pwSame.b α := ⟨_, rfl⟩
noncomputable def laws_pwSame {α : Type} : Nat → List Int → List Int → (Bool → Option α) → Option α := Classical.choose laws_pwSame.ex α
theorem laws_pwSame.eq : @laws_pwSame = @laws_pwSame.b := funext fun α => congrFun (Classical.choose_spec laws_pwSame.ex) α

noncomputable def spec_l5Trim_L0r {α : Type} (N : Nat) (next : List Int → Int → Option α) (k0 : List Int → Int → Option α) (v1241 : List Int) (v1242 : Int) : Option α :=
 let x1243 := (decide ((0 : Int) < v1242))
 bif x1243 then
  let x1244 := (IntKind.i64.wrap (v1242 - (1 : Int)))
  bif (decide (x1244 < (0 : Int))) then
   none
  else
   match v1241[x1244.toNat]? with
   | some x1245 =>
    let x1246 := (decide (x1245 = (0 : Int)))
    bif x1246 then
     let x1247 := (IntKind.i64.wrap (v1242 - (1 : Int)))
     next v1241 x1247
    else
     k0 v1241 v1242
   | none => none
 else
  k0 v1241 v1242
noncomputable def spec_l5Trim_L0.b {α : Type} (N n : Nat) (v1241 : List Int) (v1242 : Int) (k0 : List Int → Int → Option α) : Option α :=
  Nat.rec (motive := fun _ => List Int → Int → Option α) (fun _ _ => none) (fun _ next => spec_l5Trim_L0r N next k0) n v1241 v1242
theorem spec_l5Trim_L0.ex : ∃ f : ((α : Type) → Nat → Nat → List Int → Int → (List Int → Int → Option α) → Option α), f = fun α => @spec_l5Trim_L0.b α := ⟨_, rfl⟩
noncomputable def spec_l5Trim_L0 {α : Type} : Nat → Nat → List Int → Int → (List Int → Int → Option α) → Option α := Classical.choose spec_l5Trim_L0.ex α
theorem spec_l5Trim_L0.eq : @spec_l5Trim_L0 = @spec_l5Trim_L0.b := funext fun α => congrFun (Classical.choose_spec spec_l5Trim_L0.ex) α
theorem spec_l5Trim_L0.zero {α : Type} (N : Nat) (v1241 : List Int) (v1242 : Int) (k0 : List Int → Int → Option α) : spec_l5Trim_L0 N 0 v1241 v1242 k0 = none := by rw [spec_l5Trim_L0.eq]; rfl
theorem spec_l5Trim_L0.succ {α : Type} (N n : Nat) (v1241 : List Int) (v1242 : Int) (k0 : List Int → Int → Option α) : spec_l5Trim_L0 N (n + 1) v1241 v1242 k0 = spec_l5Trim_L0r N (fun y0 y1 => spec_l5Trim_L0 N n y0 y1 k0) k0 v1241 v1242 := by rw [spec_l5Trim_L0.eq]; rfl
noncomputable def spec_l5Trim_L2r {α : Type} (N : Nat) (next : List Int → Int → Int → List Int → Option α) (k0 : List Int → Option α) (v1250 : List Int) (v1251 : Int) (v1252 : Int) (v1253 : List Int) : Option α :=
 let x1254 := decide (v1252 < v1251)
 bif x1254 then
  bif (decide (v1252 < (0 : Int))) then
   none
  else
   match v1250[v1252.toNat]? with
   | some x1255 =>
    let x1256 := [x1255]
    bif decide (v1253.length + x1256.length ≤ 8796093022208) then
     let x1257 := v1253 ++ x1256
     let x1258 := (IntKind.i64.wrap (v1252 + (1 : Int)))
     next v1250 v1251 x1258 x1257
    else
     none
   | none => none
 else
  k0 v1253
noncomputable def spec_l5Trim_L2.b {α : Type} (N n : Nat) (v1250 : List Int) (v1251 : Int) (v1252 : Int) (v1253 : List Int) (k0 : List Int → Option α) : Option α :=
  Nat.rec (motive := fun _ => List Int → Int → Int → List Int → Option α) (fun _ _ _ _ => none) (fun _ next => spec_l5Trim_L2r N next k0) n v1250 v1251 v1252 v1253
theorem spec_l5Trim_L2.ex : ∃ f : ((α : Type) → Nat → Nat → List Int → Int → Int → List Int → (List Int → Option α) → Option α), f = fun α => @spec_l5Trim_L2.b α := ⟨_, rfl⟩
noncomputable def spec_l5Trim_L2 {α : Type} : Nat → Nat → List Int → Int → Int → List Int → (List Int → Option α) → Option α := Classical.choose spec_l5Trim_L2.ex α
theorem spec_l5Trim_L2.eq : @spec_l5Trim_L2 = @spec_l5Trim_L2.b := funext fun α => congrFun (Classical.choose_spec spec_l5Trim_L2.ex) α
theorem spec_l5Trim_L2.zero {α : Type} (N : Nat) (v1250 : List Int) (v1251 : Int) (v1252 : Int) (v1253 : List Int) (k0 : List Int → Option α) : spec_l5Trim_L2 N 0 v1250 v1251 v1252 v1253 k0 = none := by rw [spec_l5Trim_L2.eq]; rfl
theorem spec_l5Trim_L2.succ {α : Type} (N n : Nat) (v1250 : List Int) (v1251 : Int) (v1252 : Int) (v1253 : List Int) (k0 : List Int → Option α) : spec_l5Trim_L2 N (n + 1) v1250 v1251 v1252 v1253 k0 = spec_l5Trim_L2r N (fun y0 y1 y2 y3 => spec_l5Trim_L2 N n y0 y1 y2 y3 k0) k0 v1250 v1251 v1252 v1253 := by rw [spec_l5Trim_L2.eq]; rfl
/-- spec.l5Trim -/
noncomputable def spec_l5Trim.b {α : Type} (N : Nat) (a1239 : List Int) (k0 : List Int → Option α) : Option α :=
 let x1240 := ((a1239.length : Nat) : Int)
 spec_l5Trim_L0 N N a1239 x1240
  (fun x1248 x1249 =>
   spec_l5Trim_L2 N N x1248 x1249 (0 : Int) []
    (fun x1259 =>
     k0 x1259))
theorem spec_l5Trim.ex : ∃ f : ((α : Type) → Nat → List Int → (List Int → Option α) → Option α), f = fun α => @spec_l5Trim.b α := ⟨_, rfl⟩
noncomputable def spec_l5Trim {α : Type} : Nat → List Int → (List Int → Option α) → Option α := Classical.choose spec_l5Trim.ex α
theorem spec_l5Trim.eq : @spec_l5Trim = @spec_l5Trim.b := funext fun α => congrFun (Classical.choose_spec spec_l5Trim.ex) α

noncomputable def spec_l5DivSmall_L0r {α : Type} (N : Nat) (next : List Int → Int → Int → Int → List Int → Option α) (k0 : Int → List Int → Option α) (v1223 : List Int) (v1224 : Int) (v1225 : Int) (v1226 : Int) (v1227 : List Int) : Option α :=
 let x1228 := (decide ((0 : Int) ≤ v1226))
 bif x1228 then
  let x1229 := (IntKind.i64.wrap (v1225 * (65536 : Int)))
  bif (decide (v1226 < (0 : Int))) then
   none
  else
   match v1223[v1226.toNat]? with
   | some x1230 =>
    let x1231 := IntKind.i64.wrap (x1229 + x1230)
    bif (decide (v1224 = (0 : Int))) then
     none
    else
     let x1232 := IntKind.i64.wrap (Int.tdiv x1231 v1224)
     bif (decide (v1226 < (0 : Int))) then
      none
     else
      bif decide (v1226.toNat < v1227.length) then
       match v1227[v1226.toNat]? with
       | some x1233 =>
        let x1234 := v1227.set v1226.toNat x1232
        bif (decide (v1224 = (0 : Int))) then
         none
        else
         let x1235 := Int.tmod x1231 v1224
         let x1236 := (IntKind.i64.wrap (v1226 - (1 : Int)))
         next v1223 v1224 x1235 x1236 x1234
       | none => none
      else
       none
   | none => none
 else
  k0 v1225 v1227
noncomputable def spec_l5DivSmall_L0.b {α : Type} (N n : Nat) (v1223 : List Int) (v1224 : Int) (v1225 : Int) (v1226 : Int) (v1227 : List Int) (k0 : Int → List Int → Option α) : Option α :=
  Nat.rec (motive := fun _ => List Int → Int → Int → Int → List Int → Option α) (fun _ _ _ _ _ => none) (fun _ next => spec_l5DivSmall_L0r N next k0) n v1223 v1224 v1225 v1226 v1227
theorem spec_l5DivSmall_L0.ex : ∃ f : ((α : Type) → Nat → Nat → List Int → Int → Int → Int → List Int → (Int → List Int → Option α) → Option α), f = fun α => @spec_l5DivSmall_L0.b α := ⟨_, rfl⟩
noncomputable def spec_l5DivSmall_L0 {α : Type} : Nat → Nat → List Int → Int → Int → Int → List Int → (Int → List Int → Option α) → Option α := Classical.choose spec_l5DivSmall_L0.ex α
theorem spec_l5DivSmall_L0.eq : @spec_l5DivSmall_L0 = @spec_l5DivSmall_L0.b := funext fun α => congrFun (Classical.choose_spec spec_l5DivSmall_L0.ex) α
theorem spec_l5DivSmall_L0.zero {α : Type} (N : Nat) (v1223 : List Int) (v1224 : Int) (v1225 : Int) (v1226 : Int) (v1227 : List Int) (k0 : Int → List Int → Option α) : spec_l5DivSmall_L0 N 0 v1223 v1224 v1225 v1226 v1227 k0 = none := by rw [spec_l5DivSmall_L0.eq]; rfl
theorem spec_l5DivSmall_L0.succ {α : Type} (N n : Nat) (v1223 : List Int) (v1224 : Int) (v1225 : Int) (v1226 : Int) (v1227 : List Int) (k0 : Int → List Int → Option α) : spec_l5DivSmall_L0 N (n + 1) v1223 v1224 v1225 v1226 v1227 k0 = spec_l5DivSmall_L0r N (fun y0 y1 y2 y3 y4 => spec_l5DivSmall_L0 N n y0 y1 y2 y3 y4 k0) k0 v1223 v1224 v1225 v1226 v1227 := by rw [spec_l5DivSmall_L0.eq]; rfl
/-- spec.l5DivSmall -/
noncomputable def spec_l5DivSmall.b {α : Type} (N : Nat) (a1217 : List Int) (a1218 : Int) (k0 : Int → List Int → Option α) : Option α :=
 let x1219 := ((a1217.length : Nat) : Int)
 bif (decide ((0 : Int) ≤ x1219)) then
  bif decide (x1219 ≤ x1219) then
   bif (decide (x1219 ≤ ((8796093022208 : Nat) : Int))) then
    let x1220 := (List.replicate x1219.toNat (0 : Int))
    let x1221 := ((a1217.length : Nat) : Int)
    let x1222 := (IntKind.i64.wrap (x1221 - (1 : Int)))
    spec_l5DivSmall_L0 N N a1217 a1218 (0 : Int) x1222 x1220
     (fun x1237 x1238 =>
      spec_l5Trim N x1238
       (fun x1260 =>
        k0 x1237 x1260))
   else
    none
  else
   none
 else
  none
theorem spec_l5DivSmall.ex : ∃ f : ((α : Type) → Nat → List Int → Int → (Int → List Int → Option α) → Option α), f = fun α => @spec_l5DivSmall.b α := ⟨_, rfl⟩
noncomputable def spec_l5DivSmall {α : Type} : Nat → List Int → Int → (Int → List Int → Option α) → Option α := Classical.choose spec_l5DivSmall.ex α
theorem spec_l5DivSmall.eq : @spec_l5DivSmall = @spec_l5DivSmall.b := funext fun α => congrFun (Classical.choose_spec spec_l5DivSmall.ex) α

noncomputable def spec_NatText_L0r {α : Type} (N : Nat) (next : List Int → List Int → Option α) (k0 : List Int → Option α) (v1213 : List Int) (v1214 : List Int) : Option α :=
 let x1215 := ((v1213.length : Nat) : Int)
 let x1216 := (decide ((0 : Int) < x1215))
 bif x1216 then
  spec_l5DivSmall N v1213 (10 : Int)
   (fun x1261 x1262 =>
    let x1263 := (IntKind.i64.wrap ((48 : Int) + x1261))
    let x1264 := IntKind.u8.wrap x1263
    let x1265 := [x1264]
    bif decide (v1214.length + x1265.length ≤ 8796093022208) then
     let x1266 := v1214 ++ x1265
     next x1262 x1266
    else
     none)
 else
  k0 v1214
noncomputable def spec_NatText_L0.b {α : Type} (N n : Nat) (v1213 : List Int) (v1214 : List Int) (k0 : List Int → Option α) : Option α :=
  Nat.rec (motive := fun _ => List Int → List Int → Option α) (fun _ _ => none) (fun _ next => spec_NatText_L0r N next k0) n v1213 v1214
theorem spec_NatText_L0.ex : ∃ f : ((α : Type) → Nat → Nat → List Int → List Int → (List Int → Option α) → Option α), f = fun α => @spec_NatText_L0.b α := ⟨_, rfl⟩
noncomputable def spec_NatText_L0 {α : Type} : Nat → Nat → List Int → List Int → (List Int → Option α) → Option α := Classical.choose spec_NatText_L0.ex α
theorem spec_NatText_L0.eq : @spec_NatText_L0 = @spec_NatText_L0.b := funext fun α => congrFun (Classical.choose_spec spec_NatText_L0.ex) α
theorem spec_NatText_L0.zero {α : Type} (N : Nat) (v1213 : List Int) (v1214 : List Int) (k0 : List Int → Option α) : spec_NatText_L0 N 0 v1213 v1214 k0 = none := by rw [spec_NatText_L0.eq]; rfl
theorem spec_NatText_L0.succ {α : Type} (N n : Nat) (v1213 : List Int) (v1214 : List Int) (k0 : List Int → Option α) : spec_NatText_L0 N (n + 1) v1213 v1214 k0 = spec_NatText_L0r N (fun y0 y1 => spec_NatText_L0 N n y0 y1 k0) k0 v1213 v1214 := by rw [spec_NatText_L0.eq]; rfl
noncomputable def spec_NatText_L2r {α : Type} (N : Nat) (next : Int → List Int → List Int → Option α) (k0 : List Int → Option α) (v1270 : Int) (v1271 : List Int) (v1272 : List Int) : Option α :=
 let x1273 := (decide ((0 : Int) ≤ v1270))
 bif x1273 then
  bif (decide (v1270 < (0 : Int))) then
   none
  else
   bif decide (v1270.toNat < v1271.length) then
    match v1271[v1270.toNat]? with
    | some x1274 =>
     let x1275 := [x1274]
     bif decide (v1272.length + x1275.length ≤ 8796093022208) then
      let x1276 := v1272 ++ x1275
      let x1277 := (IntKind.i64.wrap (v1270 - (1 : Int)))
      next x1277 v1271 x1276
     else
      none
    | none => none
   else
    none
 else
  k0 v1272
noncomputable def spec_NatText_L2.b {α : Type} (N n : Nat) (v1270 : Int) (v1271 : List Int) (v1272 : List Int) (k0 : List Int → Option α) : Option α :=
  Nat.rec (motive := fun _ => Int → List Int → List Int → Option α) (fun _ _ _ => none) (fun _ next => spec_NatText_L2r N next k0) n v1270 v1271 v1272
theorem spec_NatText_L2.ex : ∃ f : ((α : Type) → Nat → Nat → Int → List Int → List Int → (List Int → Option α) → Option α), f = fun α => @spec_NatText_L2.b α := ⟨_, rfl⟩
noncomputable def spec_NatText_L2 {α : Type} : Nat → Nat → Int → List Int → List Int → (List Int → Option α) → Option α := Classical.choose spec_NatText_L2.ex α
theorem spec_NatText_L2.eq : @spec_NatText_L2 = @spec_NatText_L2.b := funext fun α => congrFun (Classical.choose_spec spec_NatText_L2.ex) α
theorem spec_NatText_L2.zero {α : Type} (N : Nat) (v1270 : Int) (v1271 : List Int) (v1272 : List Int) (k0 : List Int → Option α) : spec_NatText_L2 N 0 v1270 v1271 v1272 k0 = none := by rw [spec_NatText_L2.eq]; rfl
theorem spec_NatText_L2.succ {α : Type} (N n : Nat) (v1270 : Int) (v1271 : List Int) (v1272 : List Int) (k0 : List Int → Option α) : spec_NatText_L2 N (n + 1) v1270 v1271 v1272 k0 = spec_NatText_L2r N (fun y0 y1 y2 => spec_NatText_L2 N n y0 y1 y2 k0) k0 v1270 v1271 v1272 := by rw [spec_NatText_L2.eq]; rfl
/-- spec.NatText -/
noncomputable def spec_NatText.b {α : Type} (N : Nat) (a1208 : List Int) (k0 : ByteArray → Option α) : Option α :=
 spec_NatOk N a1208
  (fun x1209 =>
   let x1210 := !x1209
   bif x1210 then
    k0 ByteArray.empty
   else
    let x1211 := ((a1208.length : Nat) : Int)
    let x1212 := (decide (x1211 = (0 : Int)))
    bif x1212 then
     k0 (⟨#[48]⟩ : ByteArray)
    else
     spec_NatText_L0 N N a1208 []
      (fun x1267 =>
       let x1268 := ((x1267.length : Nat) : Int)
       let x1269 := (IntKind.i64.wrap (x1268 - (1 : Int)))
       spec_NatText_L2 N N x1269 x1267 []
        (fun x1278 =>
         let x1279 := bytesOf x1278
         k0 x1279)))
theorem spec_NatText.ex : ∃ f : ((α : Type) → Nat → List Int → (ByteArray → Option α) → Option α), f = fun α => @spec_NatText.b α := ⟨_, rfl⟩
noncomputable def spec_NatText {α : Type} : Nat → List Int → (ByteArray → Option α) → Option α := Classical.choose spec_NatText.ex α
theorem spec_NatText.eq : @spec_NatText = @spec_NatText.b := funext fun α => congrFun (Classical.choose_spec spec_NatText.ex) α

noncomputable def spec_l32Many_J3.b {α : Type} (N : Nat) (v1320 : ByteArray) (v1321 : Int) (v1322 : ByteArray) (k0 : ByteArray → Int → ByteArray → Option α) : Option α :=
 let x1323 := (Int.tmod v1321 (2 : Int))
 let x1324 := (decide (x1323 = (1 : Int)))
 bif x1324 then
  bif decide (v1322.size + v1320.size ≤ 9223372036854775807) then
   let x1325 := v1322 ++ v1320
   k0 v1320 v1321 x1325
  else
   none
 else
  k0 v1320 v1321 v1322
theorem spec_l32Many_J3.ex : ∃ f : ((α : Type) → Nat → ByteArray → Int → ByteArray → (ByteArray → Int → ByteArray → Option α) → Option α), f = fun α => @spec_l32Many_J3.b α := ⟨_, rfl⟩
noncomputable def spec_l32Many_J3 {α : Type} : Nat → ByteArray → Int → ByteArray → (ByteArray → Int → ByteArray → Option α) → Option α := Classical.choose spec_l32Many_J3.ex α
theorem spec_l32Many_J3.eq : @spec_l32Many_J3 = @spec_l32Many_J3.b := funext fun α => congrFun (Classical.choose_spec spec_l32Many_J3.ex) α
noncomputable def spec_l32Many_L0r {α : Type} (N : Nat) (next : ByteArray → Int → ByteArray → Option α) (k0 : ByteArray → Option α) (v1316 : ByteArray) (v1317 : Int) (v1318 : ByteArray) : Option α :=
 let x1319 := (decide ((0 : Int) < v1317))
 bif x1319 then
  spec_l32Many_J3 N v1316 v1317 v1318
   (fun x1326 x1327 x1328 =>
    bif decide (x1326.size + x1326.size ≤ 9223372036854775807) then
     let x1329 := x1326 ++ x1326
     let x1330 := (IntKind.i64.wrap (Int.tdiv x1327 (2 : Int)))
     next x1329 x1330 x1328
    else
     none)
 else
  k0 v1318
noncomputable def spec_l32Many_L0.b {α : Type} (N n : Nat) (v1316 : ByteArray) (v1317 : Int) (v1318 : ByteArray) (k0 : ByteArray → Option α) : Option α :=
  Nat.rec (motive := fun _ => ByteArray → Int → ByteArray → Option α) (fun _ _ _ => none) (fun _ next => spec_l32Many_L0r N next k0) n v1316 v1317 v1318
theorem spec_l32Many_L0.ex : ∃ f : ((α : Type) → Nat → Nat → ByteArray → Int → ByteArray → (ByteArray → Option α) → Option α), f = fun α => @spec_l32Many_L0.b α := ⟨_, rfl⟩
noncomputable def spec_l32Many_L0 {α : Type} : Nat → Nat → ByteArray → Int → ByteArray → (ByteArray → Option α) → Option α := Classical.choose spec_l32Many_L0.ex α
theorem spec_l32Many_L0.eq : @spec_l32Many_L0 = @spec_l32Many_L0.b := funext fun α => congrFun (Classical.choose_spec spec_l32Many_L0.ex) α
theorem spec_l32Many_L0.zero {α : Type} (N : Nat) (v1316 : ByteArray) (v1317 : Int) (v1318 : ByteArray) (k0 : ByteArray → Option α) : spec_l32Many_L0 N 0 v1316 v1317 v1318 k0 = none := by rw [spec_l32Many_L0.eq]; rfl
theorem spec_l32Many_L0.succ {α : Type} (N n : Nat) (v1316 : ByteArray) (v1317 : Int) (v1318 : ByteArray) (k0 : ByteArray → Option α) : spec_l32Many_L0 N (n + 1) v1316 v1317 v1318 k0 = spec_l32Many_L0r N (fun y0 y1 y2 => spec_l32Many_L0 N n y0 y1 y2 k0) k0 v1316 v1317 v1318 := by rw [spec_l32Many_L0.eq]; rfl
/-- spec.l32Many -/
noncomputable def spec_l32Many.b {α : Type} (N : Nat) (a1314 : ByteArray) (a1315 : Int) (k0 : ByteArray → Option α) : Option α :=
 spec_l32Many_L0 N N a1314 a1315 ByteArray.empty
  (fun x1331 =>
   k0 x1331)
theorem spec_l32Many.ex : ∃ f : ((α : Type) → Nat → ByteArray → Int → (ByteArray → Option α) → Option α), f = fun α => @spec_l32Many.b α := ⟨_, rfl⟩
noncomputable def spec_l32Many {α : Type} : Nat → ByteArray → Int → (ByteArray → Option α) → Option α := Classical.choose spec_l32Many.ex α
theorem spec_l32Many.eq : @spec_l32Many = @spec_l32Many.b := funext fun α => congrFun (Classical.choose_spec spec_l32Many.ex) α

noncomputable def spec_DrawNatRead_J13.b {α : Type} (N : Nat) (v1306 : ByteArray) (v1307 : (List Int) × Int × Unit) (k0 : ByteArray → Option α) : Option α :=
 spec_l32Rd_pick N (6 : Int) v1307
  (fun x1308 x1309 =>
   let x1310 := (decide (x1308 = (0 : Int)))
   bif x1310 then
    spec_l32Rd_pick N (75 : Int) x1309
     (fun x1311 _ =>
      let x1313 := (IntKind.i64.wrap ((1228 : Int) + x1311))
      spec_l32Many N (⟨#[48]⟩ : ByteArray) x1313
       (fun x1332 =>
        bif (decide ((⟨#[49]⟩ : ByteArray).size + x1332.size ≤ 9223372036854775807)) then
         let x1333 := ((⟨#[49]⟩ : ByteArray) ++ x1332)
         k0 x1333
        else
         none))
   else
    k0 v1306)
theorem spec_DrawNatRead_J13.ex : ∃ f : ((α : Type) → Nat → ByteArray → ((List Int) × Int × Unit) → (ByteArray → Option α) → Option α), f = fun α => @spec_DrawNatRead_J13.b α := ⟨_, rfl⟩
noncomputable def spec_DrawNatRead_J13 {α : Type} : Nat → ByteArray → ((List Int) × Int × Unit) → (ByteArray → Option α) → Option α := Classical.choose spec_DrawNatRead_J13.ex α
theorem spec_DrawNatRead_J13.eq : @spec_DrawNatRead_J13 = @spec_DrawNatRead_J13.b := funext fun α => congrFun (Classical.choose_spec spec_DrawNatRead_J13.ex) α
noncomputable def spec_DrawNatRead_J12.b {α : Type} (N : Nat) (v1302 : ByteArray) (v1303 : Int) (v1304 : (List Int) × Int × Unit) (k0 : ByteArray → Option α) : Option α :=
 let x1305 := (decide (v1303 = (4 : Int)))
 bif x1305 then
  spec_DrawNatRead_J13 N v1302 v1304
   (fun x1334 =>
    k0 x1334)
 else
  k0 v1302
theorem spec_DrawNatRead_J12.ex : ∃ f : ((α : Type) → Nat → ByteArray → Int → ((List Int) × Int × Unit) → (ByteArray → Option α) → Option α), f = fun α => @spec_DrawNatRead_J12.b α := ⟨_, rfl⟩
noncomputable def spec_DrawNatRead_J12 {α : Type} : Nat → ByteArray → Int → ((List Int) × Int × Unit) → (ByteArray → Option α) → Option α := Classical.choose spec_DrawNatRead_J12.ex α
theorem spec_DrawNatRead_J12.eq : @spec_DrawNatRead_J12 = @spec_DrawNatRead_J12.b := funext fun α => congrFun (Classical.choose_spec spec_DrawNatRead_J12.ex) α
noncomputable def spec_DrawNatRead_J10.b {α : Type} (N : Nat) (v1297 : ByteArray) (v1298 : Int) (v1299 : (List Int) × Int × Unit) (k0 : ByteArray → Option α) : Option α :=
 let x1300 := (decide (v1298 = (3 : Int)))
 bif x1300 then
  bif (decide ((⟨#[45]⟩ : ByteArray).size + v1297.size ≤ 9223372036854775807)) then
   let x1301 := ((⟨#[45]⟩ : ByteArray) ++ v1297)
   k0 x1301
  else
   none
 else
  spec_DrawNatRead_J12 N v1297 v1298 v1299
   (fun x1335 =>
    k0 x1335)
theorem spec_DrawNatRead_J10.ex : ∃ f : ((α : Type) → Nat → ByteArray → Int → ((List Int) × Int × Unit) → (ByteArray → Option α) → Option α), f = fun α => @spec_DrawNatRead_J10.b α := ⟨_, rfl⟩
noncomputable def spec_DrawNatRead_J10 {α : Type} : Nat → ByteArray → Int → ((List Int) × Int × Unit) → (ByteArray → Option α) → Option α := Classical.choose spec_DrawNatRead_J10.ex α
theorem spec_DrawNatRead_J10.eq : @spec_DrawNatRead_J10 = @spec_DrawNatRead_J10.b := funext fun α => congrFun (Classical.choose_spec spec_DrawNatRead_J10.ex) α
noncomputable def spec_DrawNatRead_J8.b {α : Type} (N : Nat) (v1293 : ByteArray) (v1294 : Int) (v1295 : (List Int) × Int × Unit) (k0 : ByteArray → Option α) : Option α :=
 let x1296 := (decide (v1294 = (2 : Int)))
 bif x1296 then
  k0 ByteArray.empty
 else
  spec_DrawNatRead_J10 N v1293 v1294 v1295
   (fun x1336 =>
    k0 x1336)
theorem spec_DrawNatRead_J8.ex : ∃ f : ((α : Type) → Nat → ByteArray → Int → ((List Int) × Int × Unit) → (ByteArray → Option α) → Option α), f = fun α => @spec_DrawNatRead_J8.b α := ⟨_, rfl⟩
noncomputable def spec_DrawNatRead_J8 {α : Type} : Nat → ByteArray → Int → ((List Int) × Int × Unit) → (ByteArray → Option α) → Option α := Classical.choose spec_DrawNatRead_J8.ex α
theorem spec_DrawNatRead_J8.eq : @spec_DrawNatRead_J8 = @spec_DrawNatRead_J8.b := funext fun α => congrFun (Classical.choose_spec spec_DrawNatRead_J8.ex) α
noncomputable def spec_DrawNatRead_J6.b {α : Type} (N : Nat) (v1288 : ByteArray) (v1289 : Int) (v1290 : (List Int) × Int × Unit) (k0 : ByteArray → Option α) : Option α :=
 let x1291 := (decide (v1289 = (1 : Int)))
 bif x1291 then
  bif (decide (v1288.size + (⟨#[97]⟩ : ByteArray).size ≤ 9223372036854775807)) then
   let x1292 := (v1288 ++ (⟨#[97]⟩ : ByteArray))
   k0 x1292
  else
   none
 else
  spec_DrawNatRead_J8 N v1288 v1289 v1290
   (fun x1337 =>
    k0 x1337)
theorem spec_DrawNatRead_J6.ex : ∃ f : ((α : Type) → Nat → ByteArray → Int → ((List Int) × Int × Unit) → (ByteArray → Option α) → Option α), f = fun α => @spec_DrawNatRead_J6.b α := ⟨_, rfl⟩
noncomputable def spec_DrawNatRead_J6 {α : Type} : Nat → ByteArray → Int → ((List Int) × Int × Unit) → (ByteArray → Option α) → Option α := Classical.choose spec_DrawNatRead_J6.ex α
theorem spec_DrawNatRead_J6.eq : @spec_DrawNatRead_J6 = @spec_DrawNatRead_J6.b := funext fun α => congrFun (Classical.choose_spec spec_DrawNatRead_J6.ex) α
noncomputable def spec_DrawNatRead_J4.b {α : Type} (N : Nat) (v1283 : ByteArray) (v1284 : Int) (v1285 : (List Int) × Int × Unit) (k0 : ByteArray → Option α) : Option α :=
 let x1286 := (decide (v1284 = (0 : Int)))
 bif x1286 then
  bif (decide ((⟨#[48]⟩ : ByteArray).size + v1283.size ≤ 9223372036854775807)) then
   let x1287 := ((⟨#[48]⟩ : ByteArray) ++ v1283)
   k0 x1287
  else
   none
 else
  spec_DrawNatRead_J6 N v1283 v1284 v1285
   (fun x1338 =>
    k0 x1338)
theorem spec_DrawNatRead_J4.ex : ∃ f : ((α : Type) → Nat → ByteArray → Int → ((List Int) × Int × Unit) → (ByteArray → Option α) → Option α), f = fun α => @spec_DrawNatRead_J4.b α := ⟨_, rfl⟩
noncomputable def spec_DrawNatRead_J4 {α : Type} : Nat → ByteArray → Int → ((List Int) × Int × Unit) → (ByteArray → Option α) → Option α := Classical.choose spec_DrawNatRead_J4.ex α
theorem spec_DrawNatRead_J4.eq : @spec_DrawNatRead_J4 = @spec_DrawNatRead_J4.b := funext fun α => congrFun (Classical.choose_spec spec_DrawNatRead_J4.ex) α
/-- spec.DrawNatRead -/
noncomputable def spec_DrawNatRead.b {α : Type} (N : Nat) (a1145 : List Int) (k0 : ByteArray → Option α) : Option α :=
 spec_l32Open N a1145
  (fun x1146 =>
   spec_l32Rd_nat N x1146
    (fun x1147 x1148 =>
     spec_NatText N x1148
      (fun x1280 =>
       spec_l32Rd_pick N (12 : Int) x1147
        (fun x1281 x1282 =>
         spec_DrawNatRead_J4 N x1280 x1281 x1282
          (fun x1339 =>
           k0 x1339)))))
theorem spec_DrawNatRead.ex : ∃ f : ((α : Type) → Nat → List Int → (ByteArray → Option α) → Option α), f = fun α => @spec_DrawNatRead.b α := ⟨_, rfl⟩
noncomputable def spec_DrawNatRead {α : Type} : Nat → List Int → (ByteArray → Option α) → Option α := Classical.choose spec_DrawNatRead.ex α
theorem spec_DrawNatRead.eq : @spec_DrawNatRead = @spec_DrawNatRead.b := funext fun α => congrFun (Classical.choose_spec spec_DrawNatRead.ex) α

noncomputable def spec_l5Mul_L2r {α : Type} (N : Nat) (next : List Int → List Int → Int → Int → Int → List Int → Option α) (k0 : List Int → List Int → Int → Int → List Int → Option α) (v1512 : List Int) (v1513 : List Int) (v1514 : Int) (v1515 : Int) (v1516 : Int) (v1517 : List Int) : Option α :=
 let x1518 := ((v1513.length : Nat) : Int)
 let x1519 := decide (v1516 < x1518)
 bif x1519 then
  let x1520 := IntKind.i64.wrap (v1514 + v1516)
  bif (decide (x1520 < (0 : Int))) then
   none
  else
   bif decide (x1520.toNat < v1517.length) then
    match v1517[x1520.toNat]? with
    | some x1521 =>
     bif (decide (v1514 < (0 : Int))) then
      none
     else
      match v1512[v1514.toNat]? with
      | some x1522 =>
       bif (decide (v1516 < (0 : Int))) then
        none
       else
        match v1513[v1516.toNat]? with
        | some x1523 =>
         let x1524 := IntKind.i64.wrap (x1522 * x1523)
         let x1525 := IntKind.i64.wrap (x1521 + x1524)
         let x1526 := IntKind.i64.wrap (x1525 + v1515)
         let x1527 := IntKind.i64.wrap (v1514 + v1516)
         let x1528 := (Int.tmod x1526 (65536 : Int))
         bif (decide (x1527 < (0 : Int))) then
          none
         else
          bif decide (x1527.toNat < v1517.length) then
           match v1517[x1527.toNat]? with
           | some x1529 =>
            let x1530 := v1517.set x1527.toNat x1528
            let x1531 := (IntKind.i64.wrap (Int.tdiv x1526 (65536 : Int)))
            let x1532 := (IntKind.i64.wrap (v1516 + (1 : Int)))
            next v1512 v1513 v1514 x1531 x1532 x1530
           | none => none
          else
           none
        | none => none
      | none => none
    | none => none
   else
    none
 else
  k0 v1512 v1513 v1514 v1515 v1517
noncomputable def spec_l5Mul_L2.b {α : Type} (N n : Nat) (v1512 : List Int) (v1513 : List Int) (v1514 : Int) (v1515 : Int) (v1516 : Int) (v1517 : List Int) (k0 : List Int → List Int → Int → Int → List Int → Option α) : Option α :=
  Nat.rec (motive := fun _ => List Int → List Int → Int → Int → Int → List Int → Option α) (fun _ _ _ _ _ _ => none) (fun _ next => spec_l5Mul_L2r N next k0) n v1512 v1513 v1514 v1515 v1516 v1517
theorem spec_l5Mul_L2.ex : ∃ f : ((α : Type) → Nat → Nat → List Int → List Int → Int → Int → Int → List Int → (List Int → List Int → Int → Int → List Int → Option α) → Option α), f = fun α => @spec_l5Mul_L2.b α := ⟨_, rfl⟩
noncomputable def spec_l5Mul_L2 {α : Type} : Nat → Nat → List Int → List Int → Int → Int → Int → List Int → (List Int → List Int → Int → Int → List Int → Option α) → Option α := Classical.choose spec_l5Mul_L2.ex α
theorem spec_l5Mul_L2.eq : @spec_l5Mul_L2 = @spec_l5Mul_L2.b := funext fun α => congrFun (Classical.choose_spec spec_l5Mul_L2.ex) α
theorem spec_l5Mul_L2.zero {α : Type} (N : Nat) (v1512 : List Int) (v1513 : List Int) (v1514 : Int) (v1515 : Int) (v1516 : Int) (v1517 : List Int) (k0 : List Int → List Int → Int → Int → List Int → Option α) : spec_l5Mul_L2 N 0 v1512 v1513 v1514 v1515 v1516 v1517 k0 = none := by rw [spec_l5Mul_L2.eq]; rfl
theorem spec_l5Mul_L2.succ {α : Type} (N n : Nat) (v1512 : List Int) (v1513 : List Int) (v1514 : Int) (v1515 : Int) (v1516 : Int) (v1517 : List Int) (k0 : List Int → List Int → Int → Int → List Int → Option α) : spec_l5Mul_L2 N (n + 1) v1512 v1513 v1514 v1515 v1516 v1517 k0 = spec_l5Mul_L2r N (fun y0 y1 y2 y3 y4 y5 => spec_l5Mul_L2 N n y0 y1 y2 y3 y4 y5 k0) k0 v1512 v1513 v1514 v1515 v1516 v1517 := by rw [spec_l5Mul_L2.eq]; rfl
noncomputable def spec_l5Mul_L0r {α : Type} (N : Nat) (next : List Int → List Int → Int → List Int → Option α) (k0 : List Int → Option α) (v1506 : List Int) (v1507 : List Int) (v1508 : Int) (v1509 : List Int) : Option α :=
 let x1510 := ((v1506.length : Nat) : Int)
 let x1511 := decide (v1508 < x1510)
 bif x1511 then
  spec_l5Mul_L2 N N v1506 v1507 v1508 (0 : Int) (0 : Int) v1509
   (fun x1533 x1534 x1535 x1536 x1537 =>
    let x1538 := ((x1534.length : Nat) : Int)
    let x1539 := IntKind.i64.wrap (x1535 + x1538)
    bif (decide (x1539 < (0 : Int))) then
     none
    else
     bif decide (x1539.toNat < x1537.length) then
      match x1537[x1539.toNat]? with
      | some x1540 =>
       let x1541 := x1537.set x1539.toNat x1536
       let x1542 := (IntKind.i64.wrap (x1535 + (1 : Int)))
       next x1533 x1534 x1542 x1541
      | none => none
     else
      none)
 else
  k0 v1509
noncomputable def spec_l5Mul_L0.b {α : Type} (N n : Nat) (v1506 : List Int) (v1507 : List Int) (v1508 : Int) (v1509 : List Int) (k0 : List Int → Option α) : Option α :=
  Nat.rec (motive := fun _ => List Int → List Int → Int → List Int → Option α) (fun _ _ _ _ => none) (fun _ next => spec_l5Mul_L0r N next k0) n v1506 v1507 v1508 v1509
theorem spec_l5Mul_L0.ex : ∃ f : ((α : Type) → Nat → Nat → List Int → List Int → Int → List Int → (List Int → Option α) → Option α), f = fun α => @spec_l5Mul_L0.b α := ⟨_, rfl⟩
noncomputable def spec_l5Mul_L0 {α : Type} : Nat → Nat → List Int → List Int → Int → List Int → (List Int → Option α) → Option α := Classical.choose spec_l5Mul_L0.ex α
theorem spec_l5Mul_L0.eq : @spec_l5Mul_L0 = @spec_l5Mul_L0.b := funext fun α => congrFun (Classical.choose_spec spec_l5Mul_L0.ex) α
theorem spec_l5Mul_L0.zero {α : Type} (N : Nat) (v1506 : List Int) (v1507 : List Int) (v1508 : Int) (v1509 : List Int) (k0 : List Int → Option α) : spec_l5Mul_L0 N 0 v1506 v1507 v1508 v1509 k0 = none := by rw [spec_l5Mul_L0.eq]; rfl
theorem spec_l5Mul_L0.succ {α : Type} (N n : Nat) (v1506 : List Int) (v1507 : List Int) (v1508 : Int) (v1509 : List Int) (k0 : List Int → Option α) : spec_l5Mul_L0 N (n + 1) v1506 v1507 v1508 v1509 k0 = spec_l5Mul_L0r N (fun y0 y1 y2 y3 => spec_l5Mul_L0 N n y0 y1 y2 y3 k0) k0 v1506 v1507 v1508 v1509 := by rw [spec_l5Mul_L0.eq]; rfl
/-- spec.l5Mul -/
noncomputable def spec_l5Mul.b {α : Type} (N : Nat) (a1500 : List Int) (a1501 : List Int) (k0 : List Int → Option α) : Option α :=
 let x1502 := ((a1500.length : Nat) : Int)
 let x1503 := ((a1501.length : Nat) : Int)
 let x1504 := IntKind.i64.wrap (x1502 + x1503)
 bif (decide ((0 : Int) ≤ x1504)) then
  bif decide (x1504 ≤ x1504) then
   bif (decide (x1504 ≤ ((8796093022208 : Nat) : Int))) then
    let x1505 := (List.replicate x1504.toNat (0 : Int))
    spec_l5Mul_L0 N N a1500 a1501 (0 : Int) x1505
     (fun x1543 =>
      spec_l5Trim N x1543
       (fun x1544 =>
        k0 x1544))
   else
    none
  else
   none
 else
  none
theorem spec_l5Mul.ex : ∃ f : ((α : Type) → Nat → List Int → List Int → (List Int → Option α) → Option α), f = fun α => @spec_l5Mul.b α := ⟨_, rfl⟩
noncomputable def spec_l5Mul {α : Type} : Nat → List Int → List Int → (List Int → Option α) → Option α := Classical.choose spec_l5Mul.ex α
theorem spec_l5Mul.eq : @spec_l5Mul = @spec_l5Mul.b := funext fun α => congrFun (Classical.choose_spec spec_l5Mul.ex) α

/-- spec.l5Times -/
noncomputable def spec_l5Times.b {α : Type} (N : Nat) (a1496 : List Int) (a1497 : Int) (k0 : List Int → Option α) : Option α :=
 let x1498 := (decide (a1497 = (0 : Int)))
 bif x1498 then
  k0 []
 else
  let x1499 := [a1497]
  spec_l5Mul N a1496 x1499
   (fun x1545 =>
    k0 x1545)
theorem spec_l5Times.ex : ∃ f : ((α : Type) → Nat → List Int → Int → (List Int → Option α) → Option α), f = fun α => @spec_l5Times.b α := ⟨_, rfl⟩
noncomputable def spec_l5Times {α : Type} : Nat → List Int → Int → (List Int → Option α) → Option α := Classical.choose spec_l5Times.ex α
theorem spec_l5Times.eq : @spec_l5Times = @spec_l5Times.b := funext fun α => congrFun (Classical.choose_spec spec_l5Times.ex) α

/-- spec.l5At -/
noncomputable def spec_l5At.b {α : Type} (N : Nat) (a1571 : List Int) (a1572 : Int) (k0 : Int → Option α) : Option α :=
 let x1573 := ((a1571.length : Nat) : Int)
 let x1574 := decide (a1572 < x1573)
 bif x1574 then
  bif (decide (a1572 < (0 : Int))) then
   none
  else
   match a1571[a1572.toNat]? with
   | some x1575 =>
    k0 x1575
   | none => none
 else
  k0 (0 : Int)
theorem spec_l5At.ex : ∃ f : ((α : Type) → Nat → List Int → Int → (Int → Option α) → Option α), f = fun α => @spec_l5At.b α := ⟨_, rfl⟩
noncomputable def spec_l5At {α : Type} : Nat → List Int → Int → (Int → Option α) → Option α := Classical.choose spec_l5At.ex α
theorem spec_l5At.eq : @spec_l5At = @spec_l5At.b := funext fun α => congrFun (Classical.choose_spec spec_l5At.ex) α

noncomputable def spec_l5Add_J2.b {α : Type} (N : Nat) (v1555 : List Int) (v1556 : List Int) (v1557 : Int) (k0 : List Int → List Int → Int → Option α) : Option α :=
 let x1558 := ((v1556.length : Nat) : Int)
 let x1559 := decide (v1557 < x1558)
 bif x1559 then
  let x1560 := ((v1556.length : Nat) : Int)
  k0 v1555 v1556 x1560
 else
  k0 v1555 v1556 v1557
theorem spec_l5Add_J2.ex : ∃ f : ((α : Type) → Nat → List Int → List Int → Int → (List Int → List Int → Int → Option α) → Option α), f = fun α => @spec_l5Add_J2.b α := ⟨_, rfl⟩
noncomputable def spec_l5Add_J2 {α : Type} : Nat → List Int → List Int → Int → (List Int → List Int → Int → Option α) → Option α := Classical.choose spec_l5Add_J2.ex α
theorem spec_l5Add_J2.eq : @spec_l5Add_J2 = @spec_l5Add_J2.b := funext fun α => congrFun (Classical.choose_spec spec_l5Add_J2.ex) α
noncomputable def spec_l5Add_L0r {α : Type} (N : Nat) (next : List Int → List Int → Int → Int → Int → List Int → Option α) (k0 : Int → List Int → Option α) (v1564 : List Int) (v1565 : List Int) (v1566 : Int) (v1567 : Int) (v1568 : Int) (v1569 : List Int) : Option α :=
 let x1570 := decide (v1568 < v1566)
 bif x1570 then
  spec_l5At N v1564 v1568
   (fun x1576 =>
    spec_l5At N v1565 v1568
     (fun x1577 =>
      let x1578 := IntKind.i64.wrap (x1576 + x1577)
      let x1579 := IntKind.i64.wrap (x1578 + v1567)
      let x1580 := (Int.tmod x1579 (65536 : Int))
      let x1581 := [x1580]
      bif decide (v1569.length + x1581.length ≤ 8796093022208) then
       let x1582 := v1569 ++ x1581
       let x1583 := (IntKind.i64.wrap (Int.tdiv x1579 (65536 : Int)))
       let x1584 := (IntKind.i64.wrap (v1568 + (1 : Int)))
       next v1564 v1565 v1566 x1583 x1584 x1582
      else
       none))
 else
  k0 v1567 v1569
noncomputable def spec_l5Add_L0.b {α : Type} (N n : Nat) (v1564 : List Int) (v1565 : List Int) (v1566 : Int) (v1567 : Int) (v1568 : Int) (v1569 : List Int) (k0 : Int → List Int → Option α) : Option α :=
  Nat.rec (motive := fun _ => List Int → List Int → Int → Int → Int → List Int → Option α) (fun _ _ _ _ _ _ => none) (fun _ next => spec_l5Add_L0r N next k0) n v1564 v1565 v1566 v1567 v1568 v1569
theorem spec_l5Add_L0.ex : ∃ f : ((α : Type) → Nat → Nat → List Int → List Int → Int → Int → Int → List Int → (Int → List Int → Option α) → Option α), f = fun α => @spec_l5Add_L0.b α := ⟨_, rfl⟩
noncomputable def spec_l5Add_L0 {α : Type} : Nat → Nat → List Int → List Int → Int → Int → Int → List Int → (Int → List Int → Option α) → Option α := Classical.choose spec_l5Add_L0.ex α
theorem spec_l5Add_L0.eq : @spec_l5Add_L0 = @spec_l5Add_L0.b := funext fun α => congrFun (Classical.choose_spec spec_l5Add_L0.ex) α
theorem spec_l5Add_L0.zero {α : Type} (N : Nat) (v1564 : List Int) (v1565 : List Int) (v1566 : Int) (v1567 : Int) (v1568 : Int) (v1569 : List Int) (k0 : Int → List Int → Option α) : spec_l5Add_L0 N 0 v1564 v1565 v1566 v1567 v1568 v1569 k0 = none := by rw [spec_l5Add_L0.eq]; rfl
theorem spec_l5Add_L0.succ {α : Type} (N n : Nat) (v1564 : List Int) (v1565 : List Int) (v1566 : Int) (v1567 : Int) (v1568 : Int) (v1569 : List Int) (k0 : Int → List Int → Option α) : spec_l5Add_L0 N (n + 1) v1564 v1565 v1566 v1567 v1568 v1569 k0 = spec_l5Add_L0r N (fun y0 y1 y2 y3 y4 y5 => spec_l5Add_L0 N n y0 y1 y2 y3 y4 y5 k0) k0 v1564 v1565 v1566 v1567 v1568 v1569 := by rw [spec_l5Add_L0.eq]; rfl
noncomputable def spec_l5Add_J12.b {α : Type} (N : Nat) (v1587 : Int) (v1588 : List Int) (k0 : List Int → Option α) : Option α :=
 let x1589 := (decide ((0 : Int) < v1587))
 bif x1589 then
  let x1590 := [v1587]
  bif decide (v1588.length + x1590.length ≤ 8796093022208) then
   let x1591 := v1588 ++ x1590
   k0 x1591
  else
   none
 else
  k0 v1588
theorem spec_l5Add_J12.ex : ∃ f : ((α : Type) → Nat → Int → List Int → (List Int → Option α) → Option α), f = fun α => @spec_l5Add_J12.b α := ⟨_, rfl⟩
noncomputable def spec_l5Add_J12 {α : Type} : Nat → Int → List Int → (List Int → Option α) → Option α := Classical.choose spec_l5Add_J12.ex α
theorem spec_l5Add_J12.eq : @spec_l5Add_J12 = @spec_l5Add_J12.b := funext fun α => congrFun (Classical.choose_spec spec_l5Add_J12.ex) α
/-- spec.l5Add -/
noncomputable def spec_l5Add.b {α : Type} (N : Nat) (a1552 : List Int) (a1553 : List Int) (k0 : List Int → Option α) : Option α :=
 let x1554 := ((a1552.length : Nat) : Int)
 spec_l5Add_J2 N a1552 a1553 x1554
  (fun x1561 x1562 x1563 =>
   spec_l5Add_L0 N N x1561 x1562 x1563 (0 : Int) (0 : Int) []
    (fun x1585 x1586 =>
     spec_l5Add_J12 N x1585 x1586
      (fun x1592 =>
       k0 x1592)))
theorem spec_l5Add.ex : ∃ f : ((α : Type) → Nat → List Int → List Int → (List Int → Option α) → Option α), f = fun α => @spec_l5Add.b α := ⟨_, rfl⟩
noncomputable def spec_l5Add {α : Type} : Nat → List Int → List Int → (List Int → Option α) → Option α := Classical.choose spec_l5Add.ex α
theorem spec_l5Add.eq : @spec_l5Add = @spec_l5Add.b := funext fun α => congrFun (Classical.choose_spec spec_l5Add.ex) α

/-- spec.l5Fits -/
noncomputable def spec_l5Fits.b {α : Type} (N : Nat) (a1602 : List Int) (k0 : List Int → Bool → Option α) : Option α :=
 let x1603 := ((a1602.length : Nat) : Int)
 let x1604 := (decide ((256 : Int) < x1603))
 bif x1604 then
  k0 [] false
 else
  k0 a1602 true
theorem spec_l5Fits.ex : ∃ f : ((α : Type) → Nat → List Int → (List Int → Bool → Option α) → Option α), f = fun α => @spec_l5Fits.b α := ⟨_, rfl⟩
noncomputable def spec_l5Fits {α : Type} : Nat → List Int → (List Int → Bool → Option α) → Option α := Classical.choose spec_l5Fits.ex α
theorem spec_l5Fits.eq : @spec_l5Fits = @spec_l5Fits.b := funext fun α => congrFun (Classical.choose_spec spec_l5Fits.ex) α

noncomputable def spec_NatRead_L0r {α : Type} (N : Nat) (next : ByteArray → Int → List Int → Option α) (k0 : List Int → Bool → Option α) (k1 : List Int → Option α) (v1485 : ByteArray) (v1486 : Int) (v1487 : List Int) : Option α :=
 let x1488 := ((v1485.size : Nat) : Int)
 let x1489 := decide (v1486 < x1488)
 bif x1489 then
  bif (decide (v1486 < (0 : Int))) then
   none
  else
   match (v1485[v1486.toNat]? : Option UInt8) with
   | some x1490 =>
    let x1491 := ((x1490.toNat : Nat) : Int)
    let x1492 := (decide (x1491 < (48 : Int)))
    bif x1492 then
     k0 [] false
    else
     bif (decide (v1486 < (0 : Int))) then
      none
     else
      match (v1485[v1486.toNat]? : Option UInt8) with
      | some x1493 =>
       let x1494 := ((x1493.toNat : Nat) : Int)
       let x1495 := (decide ((57 : Int) < x1494))
       bif x1495 then
        k0 [] false
       else
        spec_l5Times N v1487 (10 : Int)
         (fun x1546 =>
          bif (decide (v1486 < (0 : Int))) then
           none
          else
           match (v1485[v1486.toNat]? : Option UInt8) with
           | some x1547 =>
            let x1548 := ((x1547.toNat : Nat) : Int)
            let x1549 := (IntKind.u8.wrap (x1548 - (48 : Int)))
            let x1550 := IntKind.u64.wrap x1549
            spec_NatOf N x1550
             (fun x1551 =>
              spec_l5Add N x1546 x1551
               (fun x1593 =>
                spec_l5Trim N x1593
                 (fun x1594 =>
                  let x1595 := (IntKind.i64.wrap (v1486 + (1 : Int)))
                  next v1485 x1595 x1594)))
           | none => none)
      | none => none
   | none => none
 else
  k1 v1487
noncomputable def spec_NatRead_L0.b {α : Type} (N n : Nat) (v1485 : ByteArray) (v1486 : Int) (v1487 : List Int) (k0 : List Int → Bool → Option α) (k1 : List Int → Option α) : Option α :=
  Nat.rec (motive := fun _ => ByteArray → Int → List Int → Option α) (fun _ _ _ => none) (fun _ next => spec_NatRead_L0r N next k0 k1) n v1485 v1486 v1487
theorem spec_NatRead_L0.ex : ∃ f : ((α : Type) → Nat → Nat → ByteArray → Int → List Int → (List Int → Bool → Option α) → (List Int → Option α) → Option α), f = fun α => @spec_NatRead_L0.b α := ⟨_, rfl⟩
noncomputable def spec_NatRead_L0 {α : Type} : Nat → Nat → ByteArray → Int → List Int → (List Int → Bool → Option α) → (List Int → Option α) → Option α := Classical.choose spec_NatRead_L0.ex α
theorem spec_NatRead_L0.eq : @spec_NatRead_L0 = @spec_NatRead_L0.b := funext fun α => congrFun (Classical.choose_spec spec_NatRead_L0.ex) α
theorem spec_NatRead_L0.zero {α : Type} (N : Nat) (v1485 : ByteArray) (v1486 : Int) (v1487 : List Int) (k0 : List Int → Bool → Option α) (k1 : List Int → Option α) : spec_NatRead_L0 N 0 v1485 v1486 v1487 k0 k1 = none := by rw [spec_NatRead_L0.eq]; rfl
theorem spec_NatRead_L0.succ {α : Type} (N n : Nat) (v1485 : ByteArray) (v1486 : Int) (v1487 : List Int) (k0 : List Int → Bool → Option α) (k1 : List Int → Option α) : spec_NatRead_L0 N (n + 1) v1485 v1486 v1487 k0 k1 = spec_NatRead_L0r N (fun y0 y1 y2 => spec_NatRead_L0 N n y0 y1 y2 k0 k1) k0 k1 v1485 v1486 v1487 := by rw [spec_NatRead_L0.eq]; rfl
/-- spec.NatRead -/
noncomputable def spec_NatRead.b {α : Type} (N : Nat) (a1475 : ByteArray) (k0 : List Int → Bool → Option α) : Option α :=
 let x1476 := ((a1475.size : Nat) : Int)
 let x1477 := (decide (x1476 = (0 : Int)))
 bif x1477 then
  k0 [] false
 else
  let x1478 := ((a1475.size : Nat) : Int)
  let x1479 := (decide ((1300 : Int) < x1478))
  bif x1479 then
   k0 [] false
  else
   let x1480 := ((a1475.size : Nat) : Int)
   let x1481 := (decide ((1 : Int) < x1480))
   bif x1481 then
    match (a1475[0]? : Option UInt8) with
    | some x1482 =>
     let x1483 := ((x1482.toNat : Nat) : Int)
     let x1484 := (decide (x1483 = (48 : Int)))
     bif x1484 then
      k0 [] false
     else
      spec_NatRead_L0 N N a1475 (0 : Int) []
       (fun x1596 x1597 =>
        k0 x1596 x1597)
       (fun x1598 =>
        spec_l5Fits N x1598
         (fun x1605 x1606 =>
          k0 x1605 x1606))
    | none => none
   else
    spec_NatRead_L0 N N a1475 (0 : Int) []
     (fun x1607 x1608 =>
      k0 x1607 x1608)
     (fun x1609 =>
      spec_l5Fits N x1609
       (fun x1610 x1611 =>
        k0 x1610 x1611))
theorem spec_NatRead.ex : ∃ f : ((α : Type) → Nat → ByteArray → (List Int → Bool → Option α) → Option α), f = fun α => @spec_NatRead.b α := ⟨_, rfl⟩
noncomputable def spec_NatRead {α : Type} : Nat → ByteArray → (List Int → Bool → Option α) → Option α := Classical.choose spec_NatRead.ex α
theorem spec_NatRead.eq : @spec_NatRead = @spec_NatRead.b := funext fun α => congrFun (Classical.choose_spec spec_NatRead.ex) α

noncomputable def laws_FnNatText_J7.b {α : Type} (N : Nat) (v824 : List Int) (v825 : ByteArray) (v826 : List Int) (k0 : Bool → Option α) (k1 : List Int → Option α) : Option α :=
 let x827 := !eqS v825 ByteArray.empty
 bif x827 then
  impl_NatRead N v825
   (fun x1123 x1124 =>
    let x1125 := !x1123
    bif x1125 then
     k0 false
    else
     laws_pwSame N v826 x1124
      (fun x1141 =>
       let x1142 := !x1141
       bif x1142 then
        k0 false
       else
        k1 v824))
 else
  k1 v824
theorem laws_FnNatText_J7.ex : ∃ f : ((α : Type) → Nat → List Int → ByteArray → List Int → (Bool → Option α) → (List Int → Option α) → Option α), f = fun α => @laws_FnNatText_J7.b α := ⟨_, rfl⟩
noncomputable def laws_FnNatText_J7 {α : Type} : Nat → List Int → ByteArray → List Int → (Bool → Option α) → (List Int → Option α) → Option α := Classical.choose laws_FnNatText_J7.ex α
theorem laws_FnNatText_J7.eq : @laws_FnNatText_J7 = @laws_FnNatText_J7.b := funext fun α => congrFun (Classical.choose_spec laws_FnNatText_J7.ex) α
/-- laws.FnNatText -/
noncomputable def laws_FnNatText.b {α : Type} (N : Nat) (a1 : List Int) (k0 : Bool → Option α) : Option α :=
 let x2 := ((a1.length : Nat) : Int)
 let x3 := (decide ((1048576 : Int) < x2))
 bif x3 then
  k0 true
 else
  spec_DrawNatText N a1
   (fun x201 =>
    impl_NatText N x201
     (fun x800 =>
      spec_NatOk N x201
       (fun x821 =>
        let x822 := !eqS x800 ByteArray.empty
        let x823 := !(x821 == x822)
        bif x823 then
         k0 false
        else
         laws_FnNatText_J7 N a1 x800 x201
          (fun x1143 =>
           k0 x1143)
          (fun x1144 =>
           spec_DrawNatRead N x1144
            (fun x1340 =>
             impl_NatRead N x1340
              (fun x1341 x1342 =>
               spec_NatRead N x1340
                (fun _ x1613 =>
                 let x1614 := !(x1341 == x1613)
                 bif x1614 then
                  k0 false
                 else
                  let x1615 := !x1341
                  bif x1615 then
                   k0 true
                  else
                   impl_NatText N x1342
                    (fun x1616 =>
                     let x1617 := eqS x1616 x1340
                     k0 x1617))))))))
theorem laws_FnNatText.ex : ∃ f : ((α : Type) → Nat → List Int → (Bool → Option α) → Option α), f = fun α => @laws_FnNatText.b α := ⟨_, rfl⟩
noncomputable def laws_FnNatText {α : Type} : Nat → List Int → (Bool → Option α) → Option α := Classical.choose laws_FnNatText.ex α
theorem laws_FnNatText.eq : @laws_FnNatText = @laws_FnNatText.b := funext fun α => congrFun (Classical.choose_spec laws_FnNatText.ex) α

end
end Go.Proofs.YtgabephijgjogaaDoorAm
