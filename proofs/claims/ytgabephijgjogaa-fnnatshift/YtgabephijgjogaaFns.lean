/-
  The functions that the program computes, as the abstract machine tells them. Printed by amp.py.
-/
import Derived.Test.YtgabephijgjogaaAmb
namespace Go.Proofs.YtgabephijgjogaaAm
open Go
noncomputable section
set_option linter.unusedVariables false
set_option linter.unusedSimpArgs false

noncomputable def spec_l32Open_J1.b {α : Type} (N : Nat) (v6 : List Int) (k0 : List Int → Option α) : Option α :=
 let x7 := ((v6.length : Nat) : Int)
 let x8 := (decide ((2000 : Int) < x7))
 bif x8 then
  bif (decide ((2000 : Int) ≤ ((v6.length : Nat) : Int))) then
   let x9 := v6.take 2000
   k0 x9
  else
   none
 else
  k0 v6
theorem spec_l32Open_J1.ex : ∃ f : ((α : Type) → Nat → List Int → (List Int → Option α) → Option α), f = fun α => @spec_l32Open_J1.b α := ⟨_, rfl⟩
noncomputable def spec_l32Open_J1 {α : Type} : Nat → List Int → (List Int → Option α) → Option α := Classical.choose spec_l32Open_J1.ex α
theorem spec_l32Open_J1.eq : @spec_l32Open_J1 = @spec_l32Open_J1.b := funext fun α => congrFun (Classical.choose_spec spec_l32Open_J1.ex) α
/-- spec.l32Open -/
noncomputable def spec_l32Open.b {α : Type} (N : Nat) (a5 : List Int) (k0 : ((List Int) × Int × Unit) → Option α) : Option α :=
 spec_l32Open_J1 N a5
  (fun x10 =>
   k0 (x10, ((0 : Int), ())))
theorem spec_l32Open.ex : ∃ f : ((α : Type) → Nat → List Int → (((List Int) × Int × Unit) → Option α) → Option α), f = fun α => @spec_l32Open.b α := ⟨_, rfl⟩
noncomputable def spec_l32Open {α : Type} : Nat → List Int → (((List Int) × Int × Unit) → Option α) → Option α := Classical.choose spec_l32Open.ex α
theorem spec_l32Open.eq : @spec_l32Open = @spec_l32Open.b := funext fun α => congrFun (Classical.choose_spec spec_l32Open.ex) α

/-- (*spec.l32Rd).pick -/
noncomputable def spec_l32Rd_pick.b {α : Type} (N : Nat) (a14 : Int) (a15 : (List Int) × Int × Unit) (k0 : Int → ((List Int) × Int × Unit) → Option α) : Option α :=
 let x16 := (IntKind.i64.wrap (a15.2.1 + (1 : Int)))
 let x17 := (decide (a14 < (1 : Int)))
 bif x17 then
  k0 (0 : Int) (a15.1, (x16, ()))
 else
  let x18 := ((a15.1.length : Nat) : Int)
  let x19 := (decide (x18 = (0 : Int)))
  bif x19 then
   k0 (0 : Int) (a15.1, (x16, ()))
  else
   let x20 := (IntKind.i64.wrap (x16 - (1 : Int)))
   let x21 := ((a15.1.length : Nat) : Int)
   let x22 := decide (x20 < x21)
   bif x22 then
    bif (decide (x20 < (0 : Int))) then
     none
    else
     match a15.1[x20.toNat]? with
     | some x23 =>
      let x24 := IntKind.i64.wrap x23
      bif (decide (a14 = (0 : Int))) then
       none
      else
       let x25 := Int.tmod x24 a14
       k0 x25 (a15.1, (x16, ()))
     | none => none
   else
    let x26 := ((a15.1.length : Nat) : Int)
    bif (decide (x26 = (0 : Int))) then
     none
    else
     let x27 := Int.tmod x20 x26
     bif (decide (x27 < (0 : Int))) then
      none
     else
      match a15.1[x27.toNat]? with
      | some x28 =>
       let x29 := IntKind.i64.wrap x28
       let x30 := (IntKind.i64.wrap (x29 * (131 : Int)))
       let x31 := (IntKind.i64.wrap (x20 * (7 : Int)))
       let x32 := (IntKind.i64.wrap (x31 + (3 : Int)))
       let x33 := ((a15.1.length : Nat) : Int)
       bif (decide (x33 = (0 : Int))) then
        none
       else
        let x34 := Int.tmod x32 x33
        bif (decide (x34 < (0 : Int))) then
         none
        else
         match a15.1[x34.toNat]? with
         | some x35 =>
          let x36 := IntKind.i64.wrap x35
          let x37 := (IntKind.i64.wrap (x36 * (1117 : Int)))
          let x38 := IntKind.i64.wrap (x30 + x37)
          let x39 := (IntKind.i64.wrap (x20 * (29 : Int)))
          let x40 := IntKind.i64.wrap (x38 + x39)
          let x41 := ((a15.1.length : Nat) : Int)
          bif (decide (x41 = (0 : Int))) then
           none
          else
           let x42 := IntKind.i64.wrap (Int.tdiv x20 x41)
           let x43 := (IntKind.i64.wrap (x42 * (53 : Int)))
           let x44 := IntKind.i64.wrap (x40 + x43)
           let x45 := (IntKind.i64.wrap (Int.tdiv x44 (64 : Int)))
           let x46 := bitI .xor .i64 x44 x45
           bif (decide (a14 = (0 : Int))) then
            none
           else
            let x47 := Int.tmod x46 a14
            k0 x47 (a15.1, (x16, ()))
         | none => none
      | none => none
theorem spec_l32Rd_pick.ex : ∃ f : ((α : Type) → Nat → Int → ((List Int) × Int × Unit) → (Int → ((List Int) × Int × Unit) → Option α) → Option α), f = fun α => @spec_l32Rd_pick.b α := ⟨_, rfl⟩
noncomputable def spec_l32Rd_pick {α : Type} : Nat → Int → ((List Int) × Int × Unit) → (Int → ((List Int) × Int × Unit) → Option α) → Option α := Classical.choose spec_l32Rd_pick.ex α
theorem spec_l32Rd_pick.eq : @spec_l32Rd_pick = @spec_l32Rd_pick.b := funext fun α => congrFun (Classical.choose_spec spec_l32Rd_pick.ex) α

noncomputable def spec_NatOf_L0r {α : Type} (N : Nat) (next : Int → List Int → Option α) (k0 : List Int → Option α) (v77 : Int) (v78 : List Int) : Option α :=
 let x79 := (decide ((0 : Int) < v77))
 bif x79 then
  let x80 := (Int.tmod v77 (65536 : Int))
  let x81 := IntKind.i64.wrap x80
  let x82 := [x81]
  bif decide (v78.length + x82.length ≤ 8796093022208) then
   let x83 := v78 ++ x82
   let x84 := (IntKind.u64.wrap (Int.tdiv v77 (65536 : Int)))
   next x84 x83
  else
   none
 else
  k0 v78
noncomputable def spec_NatOf_L0.b {α : Type} (N n : Nat) (v77 : Int) (v78 : List Int) (k0 : List Int → Option α) : Option α :=
  Nat.rec (motive := fun _ => Int → List Int → Option α) (fun _ _ => none) (fun _ next => spec_NatOf_L0r N next k0) n v77 v78
theorem spec_NatOf_L0.ex : ∃ f : ((α : Type) → Nat → Nat → Int → List Int → (List Int → Option α) → Option α), f = fun α => @spec_NatOf_L0.b α := ⟨_, rfl⟩
noncomputable def spec_NatOf_L0 {α : Type} : Nat → Nat → Int → List Int → (List Int → Option α) → Option α := Classical.choose spec_NatOf_L0.ex α
theorem spec_NatOf_L0.eq : @spec_NatOf_L0 = @spec_NatOf_L0.b := funext fun α => congrFun (Classical.choose_spec spec_NatOf_L0.ex) α
theorem spec_NatOf_L0.zero {α : Type} (N : Nat) (v77 : Int) (v78 : List Int) (k0 : List Int → Option α) : spec_NatOf_L0 N 0 v77 v78 k0 = none := by rw [spec_NatOf_L0.eq]; rfl
theorem spec_NatOf_L0.succ {α : Type} (N n : Nat) (v77 : Int) (v78 : List Int) (k0 : List Int → Option α) : spec_NatOf_L0 N (n + 1) v77 v78 k0 = spec_NatOf_L0r N (fun y0 y1 => spec_NatOf_L0 N n y0 y1 k0) k0 v77 v78 := by rw [spec_NatOf_L0.eq]; rfl
/-- spec.NatOf -/
noncomputable def spec_NatOf.b {α : Type} (N : Nat) (a76 : Int) (k0 : List Int → Option α) : Option α :=
 spec_NatOf_L0 N N a76 []
  (fun x85 =>
   k0 x85)
theorem spec_NatOf.ex : ∃ f : ((α : Type) → Nat → Int → (List Int → Option α) → Option α), f = fun α => @spec_NatOf.b α := ⟨_, rfl⟩
noncomputable def spec_NatOf {α : Type} : Nat → Int → (List Int → Option α) → Option α := Classical.choose spec_NatOf.ex α
theorem spec_NatOf.eq : @spec_NatOf = @spec_NatOf.b := funext fun α => congrFun (Classical.choose_spec spec_NatOf.ex) α

noncomputable def spec_l32Rd_nat_J6.b {α : Type} (N : Nat) (v62 : Int) (v63 : (List Int) × Int × Unit) (k0 : Int → ((List Int) × Int × Unit) → Option α) : Option α :=
 spec_l32Rd_pick N (6 : Int) v63
  (fun x64 x65 =>
   let x66 := (decide (x64 = (0 : Int)))
   bif x66 then
    spec_l32Rd_pick N (3 : Int) x65
     (fun x67 x68 =>
      let x69 := (IntKind.i64.wrap ((256 : Int) - x67))
      k0 x69 x68)
   else
    k0 v62 x65)
theorem spec_l32Rd_nat_J6.ex : ∃ f : ((α : Type) → Nat → Int → ((List Int) × Int × Unit) → (Int → ((List Int) × Int × Unit) → Option α) → Option α), f = fun α => @spec_l32Rd_nat_J6.b α := ⟨_, rfl⟩
noncomputable def spec_l32Rd_nat_J6 {α : Type} : Nat → Int → ((List Int) × Int × Unit) → (Int → ((List Int) × Int × Unit) → Option α) → Option α := Classical.choose spec_l32Rd_nat_J6.ex α
theorem spec_l32Rd_nat_J6.eq : @spec_l32Rd_nat_J6 = @spec_l32Rd_nat_J6.b := funext fun α => congrFun (Classical.choose_spec spec_l32Rd_nat_J6.ex) α
noncomputable def spec_l32Rd_nat_J5.b {α : Type} (N : Nat) (v58 : Int) (v59 : Int) (v60 : (List Int) × Int × Unit) (k0 : Int → ((List Int) × Int × Unit) → Option α) (k1 : ((List Int) × Int × Unit) → List Int → Option α) : Option α :=
 let x61 := (decide (v59 = (1 : Int)))
 bif x61 then
  spec_l32Rd_nat_J6 N v58 v60
   (fun x70 x71 =>
    k0 x70 x71)
 else
  let x72 := (decide (v59 = (2 : Int)))
  bif x72 then
   spec_l32Rd_pick N (12 : Int) v60
    (fun x73 x74 =>
     let x75 := IntKind.u64.wrap x73
     spec_NatOf N x75
      (fun x86 =>
       k1 x74 x86))
  else
   k0 v58 v60
theorem spec_l32Rd_nat_J5.ex : ∃ f : ((α : Type) → Nat → Int → Int → ((List Int) × Int × Unit) → (Int → ((List Int) × Int × Unit) → Option α) → (((List Int) × Int × Unit) → List Int → Option α) → Option α), f = fun α => @spec_l32Rd_nat_J5.b α := ⟨_, rfl⟩
noncomputable def spec_l32Rd_nat_J5 {α : Type} : Nat → Int → Int → ((List Int) × Int × Unit) → (Int → ((List Int) × Int × Unit) → Option α) → (((List Int) × Int × Unit) → List Int → Option α) → Option α := Classical.choose spec_l32Rd_nat_J5.ex α
theorem spec_l32Rd_nat_J5.eq : @spec_l32Rd_nat_J5 = @spec_l32Rd_nat_J5.b := funext fun α => congrFun (Classical.choose_spec spec_l32Rd_nat_J5.ex) α
noncomputable def spec_l32Rd_nat_J3.b {α : Type} (N : Nat) (v52 : Int) (v53 : Int) (v54 : (List Int) × Int × Unit) (k0 : Int → ((List Int) × Int × Unit) → Option α) (k1 : ((List Int) × Int × Unit) → List Int → Option α) : Option α :=
 let x55 := (decide (v53 = (0 : Int)))
 bif x55 then
  spec_l32Rd_pick N (24 : Int) v54
   (fun x56 x57 =>
    k0 x56 x57)
 else
  spec_l32Rd_nat_J5 N v52 v53 v54
   (fun x87 x88 =>
    k0 x87 x88)
   (fun x89 x90 =>
    k1 x89 x90)
theorem spec_l32Rd_nat_J3.ex : ∃ f : ((α : Type) → Nat → Int → Int → ((List Int) × Int × Unit) → (Int → ((List Int) × Int × Unit) → Option α) → (((List Int) × Int × Unit) → List Int → Option α) → Option α), f = fun α => @spec_l32Rd_nat_J3.b α := ⟨_, rfl⟩
noncomputable def spec_l32Rd_nat_J3 {α : Type} : Nat → Int → Int → ((List Int) × Int × Unit) → (Int → ((List Int) × Int × Unit) → Option α) → (((List Int) × Int × Unit) → List Int → Option α) → Option α := Classical.choose spec_l32Rd_nat_J3.ex α
theorem spec_l32Rd_nat_J3.eq : @spec_l32Rd_nat_J3 = @spec_l32Rd_nat_J3.b := funext fun α => congrFun (Classical.choose_spec spec_l32Rd_nat_J3.ex) α
noncomputable def spec_l32Rd_nat_J16.b {α : Type} (N : Nat) (v107 : Int) (v108 : Int) (v109 : Int) (v110 : Int) (v111 : (List Int) × Int × Unit) (v112 : List Int) (k0 : Int → Int → Int → Int → ((List Int) × Int × Unit) → List Int → Option α) : Option α :=
 let x113 := (decide (v108 = (0 : Int)))
 bif x113 then
  k0 v107 v108 v109 (65535 : Int) v111 v112
 else
  k0 v107 v108 v109 v110 v111 v112
theorem spec_l32Rd_nat_J16.ex : ∃ f : ((α : Type) → Nat → Int → Int → Int → Int → ((List Int) × Int × Unit) → List Int → (Int → Int → Int → Int → ((List Int) × Int × Unit) → List Int → Option α) → Option α), f = fun α => @spec_l32Rd_nat_J16.b α := ⟨_, rfl⟩
noncomputable def spec_l32Rd_nat_J16 {α : Type} : Nat → Int → Int → Int → Int → ((List Int) × Int × Unit) → List Int → (Int → Int → Int → Int → ((List Int) × Int × Unit) → List Int → Option α) → Option α := Classical.choose spec_l32Rd_nat_J16.ex α
theorem spec_l32Rd_nat_J16.eq : @spec_l32Rd_nat_J16 = @spec_l32Rd_nat_J16.b := funext fun α => congrFun (Classical.choose_spec spec_l32Rd_nat_J16.ex) α
noncomputable def spec_l32Rd_nat_J18.b {α : Type} (N : Nat) (v120 : Int) (v121 : Int) (v122 : Int) (v123 : Int) (v124 : (List Int) × Int × Unit) (v125 : List Int) (k0 : Int → Int → Int → Int → ((List Int) × Int × Unit) → List Int → Option α) : Option α :=
 let x126 := (decide (v121 = (1 : Int)))
 bif x126 then
  k0 v120 v121 v122 (0 : Int) v124 v125
 else
  k0 v120 v121 v122 v123 v124 v125
theorem spec_l32Rd_nat_J18.ex : ∃ f : ((α : Type) → Nat → Int → Int → Int → Int → ((List Int) × Int × Unit) → List Int → (Int → Int → Int → Int → ((List Int) × Int × Unit) → List Int → Option α) → Option α), f = fun α => @spec_l32Rd_nat_J18.b α := ⟨_, rfl⟩
noncomputable def spec_l32Rd_nat_J18 {α : Type} : Nat → Int → Int → Int → Int → ((List Int) × Int × Unit) → List Int → (Int → Int → Int → Int → ((List Int) × Int × Unit) → List Int → Option α) → Option α := Classical.choose spec_l32Rd_nat_J18.ex α
theorem spec_l32Rd_nat_J18.eq : @spec_l32Rd_nat_J18 = @spec_l32Rd_nat_J18.b := funext fun α => congrFun (Classical.choose_spec spec_l32Rd_nat_J18.ex) α
noncomputable def spec_l32Rd_nat_L1r {α : Type} (N : Nat) (next : Int → Int → Int → ((List Int) × Int × Unit) → List Int → Option α) (k0 : Int → ((List Int) × Int × Unit) → List Int → Option α) (v95 : Int) (v96 : Int) (v97 : Int) (v98 : (List Int) × Int × Unit) (v99 : List Int) : Option α :=
 let x100 := decide (v97 < v95)
 bif x100 then
  spec_l32Rd_pick N (256 : Int) v98
   (fun x101 x102 =>
    let x103 := (IntKind.i64.wrap (x101 * (256 : Int)))
    spec_l32Rd_pick N (256 : Int) x102
     (fun x104 x105 =>
      let x106 := IntKind.i64.wrap (x103 + x104)
      spec_l32Rd_nat_J16 N v95 v96 v97 x106 x105 v99
       (fun x114 x115 x116 x117 x118 x119 =>
        spec_l32Rd_nat_J18 N x114 x115 x116 x117 x118 x119
         (fun x127 x128 x129 x130 x131 x132 =>
          let x133 := [x130]
          bif decide (x132.length + x133.length ≤ 8796093022208) then
           let x134 := x132 ++ x133
           let x135 := (IntKind.i64.wrap (x129 + (1 : Int)))
           next x127 x128 x135 x131 x134
          else
           none))))
 else
  k0 v95 v98 v99
noncomputable def spec_l32Rd_nat_L1.b {α : Type} (N n : Nat) (v95 : Int) (v96 : Int) (v97 : Int) (v98 : (List Int) × Int × Unit) (v99 : List Int) (k0 : Int → ((List Int) × Int × Unit) → List Int → Option α) : Option α :=
  Nat.rec (motive := fun _ => Int → Int → Int → ((List Int) × Int × Unit) → List Int → Option α) (fun _ _ _ _ _ => none) (fun _ next => spec_l32Rd_nat_L1r N next k0) n v95 v96 v97 v98 v99
theorem spec_l32Rd_nat_L1.ex : ∃ f : ((α : Type) → Nat → Nat → Int → Int → Int → ((List Int) × Int × Unit) → List Int → (Int → ((List Int) × Int × Unit) → List Int → Option α) → Option α), f = fun α => @spec_l32Rd_nat_L1.b α := ⟨_, rfl⟩
noncomputable def spec_l32Rd_nat_L1 {α : Type} : Nat → Nat → Int → Int → Int → ((List Int) × Int × Unit) → List Int → (Int → ((List Int) × Int × Unit) → List Int → Option α) → Option α := Classical.choose spec_l32Rd_nat_L1.ex α
theorem spec_l32Rd_nat_L1.eq : @spec_l32Rd_nat_L1 = @spec_l32Rd_nat_L1.b := funext fun α => congrFun (Classical.choose_spec spec_l32Rd_nat_L1.ex) α
theorem spec_l32Rd_nat_L1.zero {α : Type} (N : Nat) (v95 : Int) (v96 : Int) (v97 : Int) (v98 : (List Int) × Int × Unit) (v99 : List Int) (k0 : Int → ((List Int) × Int × Unit) → List Int → Option α) : spec_l32Rd_nat_L1 N 0 v95 v96 v97 v98 v99 k0 = none := by rw [spec_l32Rd_nat_L1.eq]; rfl
theorem spec_l32Rd_nat_L1.succ {α : Type} (N n : Nat) (v95 : Int) (v96 : Int) (v97 : Int) (v98 : (List Int) × Int × Unit) (v99 : List Int) (k0 : Int → ((List Int) × Int × Unit) → List Int → Option α) : spec_l32Rd_nat_L1 N (n + 1) v95 v96 v97 v98 v99 k0 = spec_l32Rd_nat_L1r N (fun y0 y1 y2 y3 y4 => spec_l32Rd_nat_L1 N n y0 y1 y2 y3 y4 k0) k0 v95 v96 v97 v98 v99 := by rw [spec_l32Rd_nat_L1.eq]; rfl
noncomputable def spec_l32Rd_nat_J21.b {α : Type} (N : Nat) (v139 : Int) (v140 : (List Int) × Int × Unit) (v141 : List Int) (k0 : ((List Int) × Int × Unit) → List Int → Option α) : Option α :=
 let x142 := (decide ((0 : Int) < v139))
 bif x142 then
  let x143 := (IntKind.i64.wrap (v139 - (1 : Int)))
  bif (decide (x143 < (0 : Int))) then
   none
  else
   bif decide (x143.toNat < v141.length) then
    match v141[x143.toNat]? with
    | some x144 =>
     let x145 := (decide (x144 = (0 : Int)))
     bif x145 then
      let x146 := (IntKind.i64.wrap (v139 - (1 : Int)))
      spec_l32Rd_pick N (16 : Int) v140
       (fun x147 x148 =>
        let x149 := IntKind.u64.wrap x147
        bif (decide (x149 < (0 : Int))) then
         none
        else
         let x150 := (shlI .i64 (1 : Int) x149)
         bif (decide (x146 < (0 : Int))) then
          none
         else
          bif decide (x146.toNat < v141.length) then
           match v141[x146.toNat]? with
           | some x151 =>
            let x152 := v141.set x146.toNat x150
            k0 x148 x152
           | none => none
          else
           none)
     else
      k0 v140 v141
    | none => none
   else
    none
 else
  k0 v140 v141
theorem spec_l32Rd_nat_J21.ex : ∃ f : ((α : Type) → Nat → Int → ((List Int) × Int × Unit) → List Int → (((List Int) × Int × Unit) → List Int → Option α) → Option α), f = fun α => @spec_l32Rd_nat_J21.b α := ⟨_, rfl⟩
noncomputable def spec_l32Rd_nat_J21 {α : Type} : Nat → Int → ((List Int) × Int × Unit) → List Int → (((List Int) × Int × Unit) → List Int → Option α) → Option α := Classical.choose spec_l32Rd_nat_J21.ex α
theorem spec_l32Rd_nat_J21.eq : @spec_l32Rd_nat_J21 = @spec_l32Rd_nat_J21.b := funext fun α => congrFun (Classical.choose_spec spec_l32Rd_nat_J21.ex) α
/-- (*spec.l32Rd).nat -/
noncomputable def spec_l32Rd_nat.b {α : Type} (N : Nat) (a13 : (List Int) × Int × Unit) (k0 : ((List Int) × Int × Unit) → List Int → Option α) : Option α :=
 spec_l32Rd_pick N (4 : Int) a13
  (fun x48 x49 =>
   spec_l32Rd_pick N (16 : Int) x49
    (fun x50 x51 =>
     spec_l32Rd_nat_J3 N x48 x50 x51
      (fun x91 x92 =>
       spec_l32Rd_pick N (5 : Int) x92
        (fun x93 x94 =>
         spec_l32Rd_nat_L1 N N x91 x93 (0 : Int) x94 []
          (fun x136 x137 x138 =>
           spec_l32Rd_nat_J21 N x136 x137 x138
            (fun x153 x154 =>
             k0 x153 x154))))
      (fun x155 x156 =>
       k0 x155 x156)))
theorem spec_l32Rd_nat.ex : ∃ f : ((α : Type) → Nat → ((List Int) × Int × Unit) → (((List Int) × Int × Unit) → List Int → Option α) → Option α), f = fun α => @spec_l32Rd_nat.b α := ⟨_, rfl⟩
noncomputable def spec_l32Rd_nat {α : Type} : Nat → ((List Int) × Int × Unit) → (((List Int) × Int × Unit) → List Int → Option α) → Option α := Classical.choose spec_l32Rd_nat.ex α
theorem spec_l32Rd_nat.eq : @spec_l32Rd_nat = @spec_l32Rd_nat.b := funext fun α => congrFun (Classical.choose_spec spec_l32Rd_nat.ex) α

noncomputable def spec_l32Rd_raw_L1r {α : Type} (N : Nat) (next : ((List Int) × Int × Unit) → List Int → Option α) (k0 : ((List Int) × Int × Unit) → List Int → Option α) (v183 : (List Int) × Int × Unit) (v184 : List Int) : Option α :=
 let x185 := ((v184.length : Nat) : Int)
 let x186 := (decide (x185 ≤ (256 : Int)))
 bif x186 then
  let x187 := [(1 : Int)]
  bif decide (v184.length + x187.length ≤ 8796093022208) then
   let x188 := v184 ++ x187
   next v183 x188
  else
   none
 else
  k0 v183 v184
noncomputable def spec_l32Rd_raw_L1.b {α : Type} (N n : Nat) (v183 : (List Int) × Int × Unit) (v184 : List Int) (k0 : ((List Int) × Int × Unit) → List Int → Option α) : Option α :=
  Nat.rec (motive := fun _ => ((List Int) × Int × Unit) → List Int → Option α) (fun _ _ => none) (fun _ next => spec_l32Rd_raw_L1r N next k0) n v183 v184
theorem spec_l32Rd_raw_L1.ex : ∃ f : ((α : Type) → Nat → Nat → ((List Int) × Int × Unit) → List Int → (((List Int) × Int × Unit) → List Int → Option α) → Option α), f = fun α => @spec_l32Rd_raw_L1.b α := ⟨_, rfl⟩
noncomputable def spec_l32Rd_raw_L1 {α : Type} : Nat → Nat → ((List Int) × Int × Unit) → List Int → (((List Int) × Int × Unit) → List Int → Option α) → Option α := Classical.choose spec_l32Rd_raw_L1.ex α
theorem spec_l32Rd_raw_L1.eq : @spec_l32Rd_raw_L1 = @spec_l32Rd_raw_L1.b := funext fun α => congrFun (Classical.choose_spec spec_l32Rd_raw_L1.ex) α
theorem spec_l32Rd_raw_L1.zero {α : Type} (N : Nat) (v183 : (List Int) × Int × Unit) (v184 : List Int) (k0 : ((List Int) × Int × Unit) → List Int → Option α) : spec_l32Rd_raw_L1 N 0 v183 v184 k0 = none := by rw [spec_l32Rd_raw_L1.eq]; rfl
theorem spec_l32Rd_raw_L1.succ {α : Type} (N n : Nat) (v183 : (List Int) × Int × Unit) (v184 : List Int) (k0 : ((List Int) × Int × Unit) → List Int → Option α) : spec_l32Rd_raw_L1 N (n + 1) v183 v184 k0 = spec_l32Rd_raw_L1r N (fun y0 y1 => spec_l32Rd_raw_L1 N n y0 y1 k0) k0 v183 v184 := by rw [spec_l32Rd_raw_L1.eq]; rfl
noncomputable def spec_l32Rd_raw_J9.b {α : Type} (N : Nat) (v179 : Int) (v180 : (List Int) × Int × Unit) (v181 : List Int) (k0 : ((List Int) × Int × Unit) → List Int → Option α) : Option α :=
 let x182 := (decide (v179 = (3 : Int)))
 bif x182 then
  spec_l32Rd_raw_L1 N N v180 v181
   (fun x189 x190 =>
    k0 x189 x190)
 else
  k0 v180 v181
theorem spec_l32Rd_raw_J9.ex : ∃ f : ((α : Type) → Nat → Int → ((List Int) × Int × Unit) → List Int → (((List Int) × Int × Unit) → List Int → Option α) → Option α), f = fun α => @spec_l32Rd_raw_J9.b α := ⟨_, rfl⟩
noncomputable def spec_l32Rd_raw_J9 {α : Type} : Nat → Int → ((List Int) × Int × Unit) → List Int → (((List Int) × Int × Unit) → List Int → Option α) → Option α := Classical.choose spec_l32Rd_raw_J9.ex α
theorem spec_l32Rd_raw_J9.eq : @spec_l32Rd_raw_J9 = @spec_l32Rd_raw_J9.b := funext fun α => congrFun (Classical.choose_spec spec_l32Rd_raw_J9.ex) α
noncomputable def spec_l32Rd_raw_J7.b {α : Type} (N : Nat) (v173 : Int) (v174 : (List Int) × Int × Unit) (v175 : List Int) (k0 : ((List Int) × Int × Unit) → List Int → Option α) : Option α :=
 let x176 := (decide (v173 = (2 : Int)))
 bif x176 then
  let x177 := [(-1 : Int)]
  bif decide (v175.length + x177.length ≤ 8796093022208) then
   let x178 := v175 ++ x177
   k0 v174 x178
  else
   none
 else
  spec_l32Rd_raw_J9 N v173 v174 v175
   (fun x191 x192 =>
    k0 x191 x192)
theorem spec_l32Rd_raw_J7.ex : ∃ f : ((α : Type) → Nat → Int → ((List Int) × Int × Unit) → List Int → (((List Int) × Int × Unit) → List Int → Option α) → Option α), f = fun α => @spec_l32Rd_raw_J7.b α := ⟨_, rfl⟩
noncomputable def spec_l32Rd_raw_J7 {α : Type} : Nat → Int → ((List Int) × Int × Unit) → List Int → (((List Int) × Int × Unit) → List Int → Option α) → Option α := Classical.choose spec_l32Rd_raw_J7.ex α
theorem spec_l32Rd_raw_J7.eq : @spec_l32Rd_raw_J7 = @spec_l32Rd_raw_J7.b := funext fun α => congrFun (Classical.choose_spec spec_l32Rd_raw_J7.ex) α
noncomputable def spec_l32Rd_raw_J5.b {α : Type} (N : Nat) (v167 : Int) (v168 : (List Int) × Int × Unit) (v169 : List Int) (k0 : ((List Int) × Int × Unit) → List Int → Option α) : Option α :=
 let x170 := (decide (v167 = (1 : Int)))
 bif x170 then
  let x171 := [(65536 : Int)]
  bif decide (v169.length + x171.length ≤ 8796093022208) then
   let x172 := v169 ++ x171
   k0 v168 x172
  else
   none
 else
  spec_l32Rd_raw_J7 N v167 v168 v169
   (fun x193 x194 =>
    k0 x193 x194)
theorem spec_l32Rd_raw_J5.ex : ∃ f : ((α : Type) → Nat → Int → ((List Int) × Int × Unit) → List Int → (((List Int) × Int × Unit) → List Int → Option α) → Option α), f = fun α => @spec_l32Rd_raw_J5.b α := ⟨_, rfl⟩
noncomputable def spec_l32Rd_raw_J5 {α : Type} : Nat → Int → ((List Int) × Int × Unit) → List Int → (((List Int) × Int × Unit) → List Int → Option α) → Option α := Classical.choose spec_l32Rd_raw_J5.ex α
theorem spec_l32Rd_raw_J5.eq : @spec_l32Rd_raw_J5 = @spec_l32Rd_raw_J5.b := funext fun α => congrFun (Classical.choose_spec spec_l32Rd_raw_J5.ex) α
noncomputable def spec_l32Rd_raw_J3.b {α : Type} (N : Nat) (v161 : Int) (v162 : (List Int) × Int × Unit) (v163 : List Int) (k0 : ((List Int) × Int × Unit) → List Int → Option α) : Option α :=
 let x164 := (decide (v161 = (0 : Int)))
 bif x164 then
  let x165 := [(0 : Int)]
  bif decide (v163.length + x165.length ≤ 8796093022208) then
   let x166 := v163 ++ x165
   k0 v162 x166
  else
   none
 else
  spec_l32Rd_raw_J5 N v161 v162 v163
   (fun x195 x196 =>
    k0 x195 x196)
theorem spec_l32Rd_raw_J3.ex : ∃ f : ((α : Type) → Nat → Int → ((List Int) × Int × Unit) → List Int → (((List Int) × Int × Unit) → List Int → Option α) → Option α), f = fun α => @spec_l32Rd_raw_J3.b α := ⟨_, rfl⟩
noncomputable def spec_l32Rd_raw_J3 {α : Type} : Nat → Int → ((List Int) × Int × Unit) → List Int → (((List Int) × Int × Unit) → List Int → Option α) → Option α := Classical.choose spec_l32Rd_raw_J3.ex α
theorem spec_l32Rd_raw_J3.eq : @spec_l32Rd_raw_J3 = @spec_l32Rd_raw_J3.b := funext fun α => congrFun (Classical.choose_spec spec_l32Rd_raw_J3.ex) α
/-- (*spec.l32Rd).raw -/
noncomputable def spec_l32Rd_raw.b {α : Type} (N : Nat) (a12 : (List Int) × Int × Unit) (k0 : ((List Int) × Int × Unit) → List Int → Option α) : Option α :=
 spec_l32Rd_nat N a12
  (fun x157 x158 =>
   spec_l32Rd_pick N (80 : Int) x157
    (fun x159 x160 =>
     spec_l32Rd_raw_J3 N x159 x160 x158
      (fun x197 x198 =>
       k0 x197 x198)))
theorem spec_l32Rd_raw.ex : ∃ f : ((α : Type) → Nat → ((List Int) × Int × Unit) → (((List Int) × Int × Unit) → List Int → Option α) → Option α), f = fun α => @spec_l32Rd_raw.b α := ⟨_, rfl⟩
noncomputable def spec_l32Rd_raw {α : Type} : Nat → ((List Int) × Int × Unit) → (((List Int) × Int × Unit) → List Int → Option α) → Option α := Classical.choose spec_l32Rd_raw.ex α
theorem spec_l32Rd_raw.eq : @spec_l32Rd_raw = @spec_l32Rd_raw.b := funext fun α => congrFun (Classical.choose_spec spec_l32Rd_raw.ex) α

/-- spec.DrawNatShift -/
noncomputable def spec_DrawNatShift.b {α : Type} (N : Nat) (a4 : List Int) (k0 : Int → List Int → Option α) : Option α :=
 spec_l32Open N a4
  (fun x11 =>
   spec_l32Rd_raw N x11
    (fun x199 x200 =>
     spec_l32Rd_pick N (200 : Int) x199
      (fun x201 x202 =>
       let x203 := (IntKind.i64.wrap (x201 - (100 : Int)))
       spec_l32Rd_pick N (4000 : Int) x202
        (fun x204 x205 =>
         let x206 := [(0 : Int), (1 : Int), (-1 : Int), (16 : Int), (-16 : Int), (17 : Int), x203, (4096 : Int), (-4096 : Int), (4097 : Int), x204, (4611686018427387904 : Int)]
         spec_l32Rd_pick N (12 : Int) x205
          (fun x207 _ =>
           bif (decide (x207 < (0 : Int))) then
            none
           else
            bif decide (x207.toNat < x206.length) then
             match x206[x207.toNat]? with
             | some x209 =>
              k0 x209 x200
             | none => none
            else
             none)))))
theorem spec_DrawNatShift.ex : ∃ f : ((α : Type) → Nat → List Int → (Int → List Int → Option α) → Option α), f = fun α => @spec_DrawNatShift.b α := ⟨_, rfl⟩
noncomputable def spec_DrawNatShift {α : Type} : Nat → List Int → (Int → List Int → Option α) → Option α := Classical.choose spec_DrawNatShift.ex α
theorem spec_DrawNatShift.eq : @spec_DrawNatShift = @spec_DrawNatShift.b := funext fun α => congrFun (Classical.choose_spec spec_DrawNatShift.ex) α

/-- impl.in -/
noncomputable def impl_in.b {α : Type} (N : Nat) (a228 : Int) (a229 : Int) (a230 : Int) (k0 : Bool → Option α) : Option α :=
 let x231 := decide (a229 ≤ a228)
 bif x231 then
  let x232 := decide (a228 ≤ a230)
  k0 x232
 else
  k0 false
theorem impl_in.ex : ∃ f : ((α : Type) → Nat → Int → Int → Int → (Bool → Option α) → Option α), f = fun α => @impl_in.b α := ⟨_, rfl⟩
noncomputable def impl_in {α : Type} : Nat → Int → Int → Int → (Bool → Option α) → Option α := Classical.choose impl_in.ex α
theorem impl_in.eq : @impl_in = @impl_in.b := funext fun α => congrFun (Classical.choose_spec impl_in.ex) α

/-- impl.NatOk$1 -/
noncomputable def impl_NatOk_1.b {α : Type} (N : Nat) (a227 : Int) (k0 : Bool → Option α) : Option α :=
 impl_in N a227 (0 : Int) (65535 : Int)
  (fun x233 =>
   let x234 := !x233
   k0 x234)
theorem impl_NatOk_1.ex : ∃ f : ((α : Type) → Nat → Int → (Bool → Option α) → Option α), f = fun α => @impl_NatOk_1.b α := ⟨_, rfl⟩
noncomputable def impl_NatOk_1 {α : Type} : Nat → Int → (Bool → Option α) → Option α := Classical.choose impl_NatOk_1.ex α
theorem impl_NatOk_1.eq : @impl_NatOk_1 = @impl_NatOk_1.b := funext fun α => congrFun (Classical.choose_spec impl_NatOk_1.ex) α

noncomputable def slices_IndexFunc_int_int__impl_NatOk_1_L0r {α : Type} (N : Nat) (next : List Int → Int → Int → Option α) (k0 : Int → Option α) (k1 : Option α) (v222 : List Int) (v223 : Int) (v224 : Int) : Option α :=
 let x225 := decide (v224 < v223)
 bif x225 then
  bif (decide (v224 < (0 : Int))) then
   none
  else
   match v222[v224.toNat]? with
   | some x226 =>
    impl_NatOk_1 N x226
     (fun x235 =>
      bif x235 then
       k0 v224
      else
       let x236 := (IntKind.i64.wrap (v224 + (1 : Int)))
       next v222 v223 x236)
   | none => none
 else
  k1
noncomputable def slices_IndexFunc_int_int__impl_NatOk_1_L0.b {α : Type} (N n : Nat) (v222 : List Int) (v223 : Int) (v224 : Int) (k0 : Int → Option α) (k1 : Option α) : Option α :=
  Nat.rec (motive := fun _ => List Int → Int → Int → Option α) (fun _ _ _ => none) (fun _ next => slices_IndexFunc_int_int__impl_NatOk_1_L0r N next k0 k1) n v222 v223 v224
theorem slices_IndexFunc_int_int__impl_NatOk_1_L0.ex : ∃ f : ((α : Type) → Nat → Nat → List Int → Int → Int → (Int → Option α) → (Option α) → Option α), f = fun α => @slices_IndexFunc_int_int__impl_NatOk_1_L0.b α := ⟨_, rfl⟩
noncomputable def slices_IndexFunc_int_int__impl_NatOk_1_L0 {α : Type} : Nat → Nat → List Int → Int → Int → (Int → Option α) → (Option α) → Option α := Classical.choose slices_IndexFunc_int_int__impl_NatOk_1_L0.ex α
theorem slices_IndexFunc_int_int__impl_NatOk_1_L0.eq : @slices_IndexFunc_int_int__impl_NatOk_1_L0 = @slices_IndexFunc_int_int__impl_NatOk_1_L0.b := funext fun α => congrFun (Classical.choose_spec slices_IndexFunc_int_int__impl_NatOk_1_L0.ex) α
theorem slices_IndexFunc_int_int__impl_NatOk_1_L0.zero {α : Type} (N : Nat) (v222 : List Int) (v223 : Int) (v224 : Int) (k0 : Int → Option α) (k1 : Option α) : slices_IndexFunc_int_int__impl_NatOk_1_L0 N 0 v222 v223 v224 k0 k1 = none := by rw [slices_IndexFunc_int_int__impl_NatOk_1_L0.eq]; rfl
theorem slices_IndexFunc_int_int__impl_NatOk_1_L0.succ {α : Type} (N n : Nat) (v222 : List Int) (v223 : Int) (v224 : Int) (k0 : Int → Option α) (k1 : Option α) : slices_IndexFunc_int_int__impl_NatOk_1_L0 N (n + 1) v222 v223 v224 k0 k1 = slices_IndexFunc_int_int__impl_NatOk_1_L0r N (fun y0 y1 y2 => slices_IndexFunc_int_int__impl_NatOk_1_L0 N n y0 y1 y2 k0 k1) k0 k1 v222 v223 v224 := by rw [slices_IndexFunc_int_int__impl_NatOk_1_L0.eq]; rfl
/-- slices.IndexFunc[[]int,int] -/
noncomputable def slices_IndexFunc_int_int__impl_NatOk_1.b {α : Type} (N : Nat) (a220 : List Int) (k0 : Int → Option α) : Option α :=
 let x221 := ((a220.length : Nat) : Int)
 slices_IndexFunc_int_int__impl_NatOk_1_L0 N N a220 x221 (0 : Int)
  (fun x237 =>
   k0 x237)
  (
   k0 (-1 : Int))
theorem slices_IndexFunc_int_int__impl_NatOk_1.ex : ∃ f : ((α : Type) → Nat → List Int → (Int → Option α) → Option α), f = fun α => @slices_IndexFunc_int_int__impl_NatOk_1.b α := ⟨_, rfl⟩
noncomputable def slices_IndexFunc_int_int__impl_NatOk_1 {α : Type} : Nat → List Int → (Int → Option α) → Option α := Classical.choose slices_IndexFunc_int_int__impl_NatOk_1.ex α
theorem slices_IndexFunc_int_int__impl_NatOk_1.eq : @slices_IndexFunc_int_int__impl_NatOk_1 = @slices_IndexFunc_int_int__impl_NatOk_1.b := funext fun α => congrFun (Classical.choose_spec slices_IndexFunc_int_int__impl_NatOk_1.ex) α

/-- slices.ContainsFunc[[]int,int] -/
noncomputable def slices_ContainsFunc_int_int__impl_NatOk_1.b {α : Type} (N : Nat) (a219 : List Int) (k0 : Bool → Option α) : Option α :=
 slices_IndexFunc_int_int__impl_NatOk_1 N a219
  (fun x238 =>
   let x239 := (decide ((0 : Int) ≤ x238))
   k0 x239)
theorem slices_ContainsFunc_int_int__impl_NatOk_1.ex : ∃ f : ((α : Type) → Nat → List Int → (Bool → Option α) → Option α), f = fun α => @slices_ContainsFunc_int_int__impl_NatOk_1.b α := ⟨_, rfl⟩
noncomputable def slices_ContainsFunc_int_int__impl_NatOk_1 {α : Type} : Nat → List Int → (Bool → Option α) → Option α := Classical.choose slices_ContainsFunc_int_int__impl_NatOk_1.ex α
theorem slices_ContainsFunc_int_int__impl_NatOk_1.eq : @slices_ContainsFunc_int_int__impl_NatOk_1 = @slices_ContainsFunc_int_int__impl_NatOk_1.b := funext fun α => congrFun (Classical.choose_spec slices_ContainsFunc_int_int__impl_NatOk_1.ex) α

/-- impl.NatOk -/
noncomputable def impl_NatOk.b {α : Type} (N : Nat) (a214 : List Int) (k0 : Bool → Option α) : Option α :=
 let x215 := ((a214.length : Nat) : Int)
 let x216 := (decide (x215 ≤ (256 : Int)))
 bif x216 then
  let x217 := ((a214.length : Nat) : Int)
  let x218 := (decide (x217 = (0 : Int)))
  bif x218 then
   slices_ContainsFunc_int_int__impl_NatOk_1 N a214
    (fun x240 =>
     let x241 := !x240
     k0 x241)
  else
   let x242 := ((a214.length : Nat) : Int)
   let x243 := (IntKind.i64.wrap (x242 - (1 : Int)))
   bif (decide (x243 < (0 : Int))) then
    none
   else
    match a214[x243.toNat]? with
    | some x244 =>
     let x245 := (!(decide (x244 = (0 : Int))))
     bif x245 then
      slices_ContainsFunc_int_int__impl_NatOk_1 N a214
       (fun x246 =>
        let x247 := !x246
        k0 x247)
     else
      k0 false
    | none => none
 else
  k0 false
theorem impl_NatOk.ex : ∃ f : ((α : Type) → Nat → List Int → (Bool → Option α) → Option α), f = fun α => @impl_NatOk.b α := ⟨_, rfl⟩
noncomputable def impl_NatOk {α : Type} : Nat → List Int → (Bool → Option α) → Option α := Classical.choose impl_NatOk.ex α
theorem impl_NatOk.eq : @impl_NatOk = @impl_NatOk.b := funext fun α => congrFun (Classical.choose_spec impl_NatOk.ex) α

/-- slices.Clone[[]int,int] -/
noncomputable def slices_Clone_int_int {α : Type} (N : Nat) (a1 : List Int) (k0 : List Int → Option α) : Option α :=
  bif decide (([] : List Int).length + a1.length ≤ 8796093022208) then k0 a1 else none

noncomputable def impl_trim_L0r {α : Type} (N : Nat) (next : List Int → Option α) (k0 : List Int → Option α) (v370 : List Int) : Option α :=
 let x371 := ((v370.length : Nat) : Int)
 let x372 := (decide ((0 : Int) < x371))
 bif x372 then
  let x373 := ((v370.length : Nat) : Int)
  let x374 := (IntKind.i64.wrap (x373 - (1 : Int)))
  bif (decide (x374 < (0 : Int))) then
   none
  else
   match v370[x374.toNat]? with
   | some x375 =>
    let x376 := (decide (x375 = (0 : Int)))
    bif x376 then
     let x377 := ((v370.length : Nat) : Int)
     let x378 := (IntKind.i64.wrap (x377 - (1 : Int)))
     bif (decide ((0 : Int) ≤ x378)) then
      bif (decide (x378 ≤ ((v370.length : Nat) : Int))) then
       let x379 := v370.take x378.toNat
       next x379
      else
       none
     else
      none
    else
     k0 v370
   | none => none
 else
  k0 v370
noncomputable def impl_trim_L0.b {α : Type} (N n : Nat) (v370 : List Int) (k0 : List Int → Option α) : Option α :=
  Nat.rec (motive := fun _ => List Int → Option α) (fun _ => none) (fun _ next => impl_trim_L0r N next k0) n v370
theorem impl_trim_L0.ex : ∃ f : ((α : Type) → Nat → Nat → List Int → (List Int → Option α) → Option α), f = fun α => @impl_trim_L0.b α := ⟨_, rfl⟩
noncomputable def impl_trim_L0 {α : Type} : Nat → Nat → List Int → (List Int → Option α) → Option α := Classical.choose impl_trim_L0.ex α
theorem impl_trim_L0.eq : @impl_trim_L0 = @impl_trim_L0.b := funext fun α => congrFun (Classical.choose_spec impl_trim_L0.ex) α
theorem impl_trim_L0.zero {α : Type} (N : Nat) (v370 : List Int) (k0 : List Int → Option α) : impl_trim_L0 N 0 v370 k0 = none := by rw [impl_trim_L0.eq]; rfl
theorem impl_trim_L0.succ {α : Type} (N n : Nat) (v370 : List Int) (k0 : List Int → Option α) : impl_trim_L0 N (n + 1) v370 k0 = impl_trim_L0r N (fun y0 => impl_trim_L0 N n y0 k0) k0 v370 := by rw [impl_trim_L0.eq]; rfl
/-- impl.trim -/
noncomputable def impl_trim.b {α : Type} (N : Nat) (a369 : List Int) (k0 : List Int → Option α) : Option α :=
 impl_trim_L0 N N a369
  (fun x380 =>
   k0 x380)
theorem impl_trim.ex : ∃ f : ((α : Type) → Nat → List Int → (List Int → Option α) → Option α), f = fun α => @impl_trim.b α := ⟨_, rfl⟩
noncomputable def impl_trim {α : Type} : Nat → List Int → (List Int → Option α) → Option α := Classical.choose impl_trim.ex α
theorem impl_trim.eq : @impl_trim = @impl_trim.b := funext fun α => congrFun (Classical.choose_spec impl_trim.ex) α

noncomputable def impl_natShift_J10.b {α : Type} (N : Nat) (v340 : List Int) (v341 : Int) (v342 : Int) (v343 : Int) (v344 : Int) (v345 : Int) (v346 : List Int) (k0 : List Int → Int → Int → Int → Int → List Int → Option α) : Option α :=
 let x347 := IntKind.i64.wrap (v341 + v343)
 let x348 := (IntKind.i64.wrap (x347 + (1 : Int)))
 let x349 := ((v340.length : Nat) : Int)
 let x350 := decide (x348 < x349)
 bif x350 then
  bif (decide (v343 < (0 : Int))) then
   none
  else
   bif decide (v343.toNat < v346.length) then
    match v346[v343.toNat]? with
    | some x351 =>
     let x352 := IntKind.i64.wrap (v341 + v343)
     let x353 := (IntKind.i64.wrap (x352 + (1 : Int)))
     bif (decide (x353 < (0 : Int))) then
      none
     else
      match v340[x353.toNat]? with
      | some x354 =>
       let x355 := (IntKind.i64.wrap ((16 : Int) - v342))
       bif (decide (x355 < (0 : Int))) then
        none
       else
        let x356 := shlI .i64 x354 x355
        let x357 := (bitI .and .i64 x356 (65535 : Int))
        let x358 := bitI .or .i64 x351 x357
        bif (decide (v343 < (0 : Int))) then
         none
        else
         bif decide (v343.toNat < v346.length) then
          match v346[v343.toNat]? with
          | some x359 =>
           let x360 := v346.set v343.toNat x358
           k0 v340 v341 v342 v344 v345 x360
          | none => none
         else
          none
      | none => none
    | none => none
   else
    none
 else
  k0 v340 v341 v342 v344 v345 v346
theorem impl_natShift_J10.ex : ∃ f : ((α : Type) → Nat → List Int → Int → Int → Int → Int → Int → List Int → (List Int → Int → Int → Int → Int → List Int → Option α) → Option α), f = fun α => @impl_natShift_J10.b α := ⟨_, rfl⟩
noncomputable def impl_natShift_J10 {α : Type} : Nat → List Int → Int → Int → Int → Int → Int → List Int → (List Int → Int → Int → Int → Int → List Int → Option α) → Option α := Classical.choose impl_natShift_J10.ex α
theorem impl_natShift_J10.eq : @impl_natShift_J10 = @impl_natShift_J10.b := funext fun α => congrFun (Classical.choose_spec impl_natShift_J10.ex) α
noncomputable def impl_natShift_L0r {α : Type} (N : Nat) (next : List Int → Int → Int → Int → Int → List Int → Option α) (k0 : List Int → Option α) (v329 : List Int) (v330 : Int) (v331 : Int) (v332 : Int) (v333 : Int) (v334 : List Int) : Option α :=
 let x335 := decide (v333 < v332)
 bif x335 then
  bif (decide (v333 < (0 : Int))) then
   none
  else
   bif decide (v333.toNat < v334.length) then
    match v334[v333.toNat]? with
    | some x336 =>
     bif (decide (v331 < (0 : Int))) then
      none
     else
      let x337 := shrI .i64 x336 v331
      bif (decide (v333 < (0 : Int))) then
       none
      else
       bif decide (v333.toNat < v334.length) then
        match v334[v333.toNat]? with
        | some x338 =>
         let x339 := v334.set v333.toNat x337
         impl_natShift_J10 N v329 v330 v331 v333 v332 v333 x339
          (fun x361 x362 x363 x364 x365 x366 =>
           let x367 := (IntKind.i64.wrap (x365 + (1 : Int)))
           next x361 x362 x363 x364 x367 x366)
        | none => none
       else
        none
    | none => none
   else
    none
 else
  k0 v334
noncomputable def impl_natShift_L0.b {α : Type} (N n : Nat) (v329 : List Int) (v330 : Int) (v331 : Int) (v332 : Int) (v333 : Int) (v334 : List Int) (k0 : List Int → Option α) : Option α :=
  Nat.rec (motive := fun _ => List Int → Int → Int → Int → Int → List Int → Option α) (fun _ _ _ _ _ _ => none) (fun _ next => impl_natShift_L0r N next k0) n v329 v330 v331 v332 v333 v334
theorem impl_natShift_L0.ex : ∃ f : ((α : Type) → Nat → Nat → List Int → Int → Int → Int → Int → List Int → (List Int → Option α) → Option α), f = fun α => @impl_natShift_L0.b α := ⟨_, rfl⟩
noncomputable def impl_natShift_L0 {α : Type} : Nat → Nat → List Int → Int → Int → Int → Int → List Int → (List Int → Option α) → Option α := Classical.choose impl_natShift_L0.ex α
theorem impl_natShift_L0.eq : @impl_natShift_L0 = @impl_natShift_L0.b := funext fun α => congrFun (Classical.choose_spec impl_natShift_L0.ex) α
theorem impl_natShift_L0.zero {α : Type} (N : Nat) (v329 : List Int) (v330 : Int) (v331 : Int) (v332 : Int) (v333 : Int) (v334 : List Int) (k0 : List Int → Option α) : impl_natShift_L0 N 0 v329 v330 v331 v332 v333 v334 k0 = none := by rw [impl_natShift_L0.eq]; rfl
theorem impl_natShift_L0.succ {α : Type} (N n : Nat) (v329 : List Int) (v330 : Int) (v331 : Int) (v332 : Int) (v333 : Int) (v334 : List Int) (k0 : List Int → Option α) : impl_natShift_L0 N (n + 1) v329 v330 v331 v332 v333 v334 k0 = impl_natShift_L0r N (fun y0 y1 y2 y3 y4 y5 => impl_natShift_L0 N n y0 y1 y2 y3 y4 y5 k0) k0 v329 v330 v331 v332 v333 v334 := by rw [impl_natShift_L0.eq]; rfl
noncomputable def impl_natShift_L2r {α : Type} (N : Nat) (next : Int → List Int → Int → Int → List Int → Option α) (k0 : List Int → Option α) (v388 : Int) (v389 : List Int) (v390 : Int) (v391 : Int) (v392 : List Int) : Option α :=
 let x393 := decide (v391 < v390)
 bif x393 then
  bif (decide (v391 < (0 : Int))) then
   none
  else
   match v389[v391.toNat]? with
   | some x394 =>
    let x395 := (Int.tmod v388 (16 : Int))
    bif (decide (x395 < (0 : Int))) then
     none
    else
     let x396 := shlI .i64 x394 x395
     let x397 := (IntKind.i64.wrap (Int.tdiv v388 (16 : Int)))
     let x398 := IntKind.i64.wrap (x397 + v391)
     bif (decide (x398 < (0 : Int))) then
      none
     else
      bif decide (x398.toNat < v392.length) then
       match v392[x398.toNat]? with
       | some x399 =>
        let x400 := (bitI .and .i64 x396 (65535 : Int))
        let x401 := bitI .or .i64 x399 x400
        bif (decide (x398 < (0 : Int))) then
         none
        else
         bif decide (x398.toNat < v392.length) then
          match v392[x398.toNat]? with
          | some x402 =>
           let x403 := v392.set x398.toNat x401
           let x404 := (IntKind.i64.wrap (Int.tdiv v388 (16 : Int)))
           let x405 := IntKind.i64.wrap (x404 + v391)
           let x406 := (IntKind.i64.wrap (x405 + (1 : Int)))
           let x407 := (shrI .i64 x396 (16 : Int))
           bif (decide (x406 < (0 : Int))) then
            none
           else
            bif decide (x406.toNat < x403.length) then
             match x403[x406.toNat]? with
             | some x408 =>
              let x409 := x403.set x406.toNat x407
              let x410 := (IntKind.i64.wrap (v391 + (1 : Int)))
              next v388 v389 v390 x410 x409
             | none => none
            else
             none
          | none => none
         else
          none
       | none => none
      else
       none
   | none => none
 else
  k0 v392
noncomputable def impl_natShift_L2.b {α : Type} (N n : Nat) (v388 : Int) (v389 : List Int) (v390 : Int) (v391 : Int) (v392 : List Int) (k0 : List Int → Option α) : Option α :=
  Nat.rec (motive := fun _ => Int → List Int → Int → Int → List Int → Option α) (fun _ _ _ _ _ => none) (fun _ next => impl_natShift_L2r N next k0) n v388 v389 v390 v391 v392
theorem impl_natShift_L2.ex : ∃ f : ((α : Type) → Nat → Nat → Int → List Int → Int → Int → List Int → (List Int → Option α) → Option α), f = fun α => @impl_natShift_L2.b α := ⟨_, rfl⟩
noncomputable def impl_natShift_L2 {α : Type} : Nat → Nat → Int → List Int → Int → Int → List Int → (List Int → Option α) → Option α := Classical.choose impl_natShift_L2.ex α
theorem impl_natShift_L2.eq : @impl_natShift_L2 = @impl_natShift_L2.b := funext fun α => congrFun (Classical.choose_spec impl_natShift_L2.ex) α
theorem impl_natShift_L2.zero {α : Type} (N : Nat) (v388 : Int) (v389 : List Int) (v390 : Int) (v391 : Int) (v392 : List Int) (k0 : List Int → Option α) : impl_natShift_L2 N 0 v388 v389 v390 v391 v392 k0 = none := by rw [impl_natShift_L2.eq]; rfl
theorem impl_natShift_L2.succ {α : Type} (N n : Nat) (v388 : Int) (v389 : List Int) (v390 : Int) (v391 : Int) (v392 : List Int) (k0 : List Int → Option α) : impl_natShift_L2 N (n + 1) v388 v389 v390 v391 v392 k0 = impl_natShift_L2r N (fun y0 y1 y2 y3 y4 => impl_natShift_L2 N n y0 y1 y2 y3 y4 k0) k0 v388 v389 v390 v391 v392 := by rw [impl_natShift_L2.eq]; rfl
/-- impl.natShift -/
noncomputable def impl_natShift.b {α : Type} (N : Nat) (a317 : List Int) (a318 : Int) (k0 : List Int → Option α) : Option α :=
 let x319 := (decide (a318 < (0 : Int)))
 bif x319 then
  let x320 := IntKind.i64.wrap (0 - a318)
  let x321 := (IntKind.i64.wrap (Int.tdiv x320 (16 : Int)))
  let x322 := IntKind.i64.wrap (0 - a318)
  let x323 := (Int.tmod x322 (16 : Int))
  let x324 := ((a317.length : Nat) : Int)
  let x325 := decide (x324 ≤ x321)
  bif x325 then
   k0 []
  else
   bif (decide ((0 : Int) ≤ x321)) then
    bif (decide (x321 ≤ ((a317.length : Nat) : Int))) then
     let x326 := a317.drop x321.toNat
     slices_Clone_int_int N x326
      (fun x327 =>
       let x328 := ((x327.length : Nat) : Int)
       impl_natShift_L0 N N a317 x321 x323 x328 (0 : Int) x327
        (fun x368 =>
         impl_trim N x368
          (fun x381 =>
           k0 x381)))
    else
     none
   else
    none
 else
  let x382 := (IntKind.i64.wrap (Int.tdiv a318 (16 : Int)))
  let x383 := ((a317.length : Nat) : Int)
  let x384 := IntKind.i64.wrap (x382 + x383)
  let x385 := (IntKind.i64.wrap (x384 + (1 : Int)))
  bif (decide ((0 : Int) ≤ x385)) then
   bif decide (x385 ≤ x385) then
    bif (decide (x385 ≤ ((8796093022208 : Nat) : Int))) then
     let x386 := (List.replicate x385.toNat (0 : Int))
     let x387 := ((a317.length : Nat) : Int)
     impl_natShift_L2 N N a318 a317 x387 (0 : Int) x386
      (fun x411 =>
       impl_trim N x411
        (fun x412 =>
         k0 x412))
    else
     none
   else
    none
  else
   none
theorem impl_natShift.ex : ∃ f : ((α : Type) → Nat → List Int → Int → (List Int → Option α) → Option α), f = fun α => @impl_natShift.b α := ⟨_, rfl⟩
noncomputable def impl_natShift {α : Type} : Nat → List Int → Int → (List Int → Option α) → Option α := Classical.choose impl_natShift.ex α
theorem impl_natShift.eq : @impl_natShift = @impl_natShift.b := funext fun α => congrFun (Classical.choose_spec impl_natShift.ex) α

/-- slices.Clip[[]int,int] -/
noncomputable def slices_Clip_int_int.b {α : Type} (N : Nat) (a422 : List Int) (k0 : List Int → Option α) : Option α :=
 let x423 := ((a422.length : Nat) : Int)
 let x424 := ((a422.length : Nat) : Int)
 bif (decide ((0 : Int) ≤ x424)) then
  bif (decide (x424 ≤ ((a422.length : Nat) : Int))) then
   bif (decide ((0 : Int) ≤ x423)) then
    bif (decide (x423 ≤ ((x424.toNat : Nat) : Int))) then
     let x425 := a422.take x423.toNat
     k0 x425
    else
     none
   else
    none
  else
   none
 else
  none
theorem slices_Clip_int_int.ex : ∃ f : ((α : Type) → Nat → List Int → (List Int → Option α) → Option α), f = fun α => @slices_Clip_int_int.b α := ⟨_, rfl⟩
noncomputable def slices_Clip_int_int {α : Type} : Nat → List Int → (List Int → Option α) → Option α := Classical.choose slices_Clip_int_int.ex α
theorem slices_Clip_int_int.eq : @slices_Clip_int_int = @slices_Clip_int_int.b := funext fun α => congrFun (Classical.choose_spec slices_Clip_int_int.ex) α

/-- impl.clone[int] -/
noncomputable def impl_clone_int.b {α : Type} (N : Nat) (a420 : List Int) (k0 : List Int → Option α) : Option α :=
 slices_Clone_int_int N a420
  (fun x421 =>
   slices_Clip_int_int N x421
    (fun x426 =>
     k0 x426))
theorem impl_clone_int.ex : ∃ f : ((α : Type) → Nat → List Int → (List Int → Option α) → Option α), f = fun α => @impl_clone_int.b α := ⟨_, rfl⟩
noncomputable def impl_clone_int {α : Type} : Nat → List Int → (List Int → Option α) → Option α := Classical.choose impl_clone_int.ex α
theorem impl_clone_int.eq : @impl_clone_int = @impl_clone_int.b := funext fun α => congrFun (Classical.choose_spec impl_clone_int.ex) α

/-- impl.told -/
noncomputable def impl_told.b {α : Type} (N : Nat) (a414 : List Int) (a415 : Bool) (k0 : Bool → List Int → Option α) : Option α :=
 impl_trim N a414
  (fun x416 =>
   let x417 := !a415
   bif x417 then
    k0 false []
   else
    let x418 := ((x416.length : Nat) : Int)
    let x419 := (decide ((256 : Int) < x418))
    bif x419 then
     k0 false []
    else
     impl_clone_int N x416
      (fun x427 =>
       k0 true x427))
theorem impl_told.ex : ∃ f : ((α : Type) → Nat → List Int → Bool → (Bool → List Int → Option α) → Option α), f = fun α => @impl_told.b α := ⟨_, rfl⟩
noncomputable def impl_told {α : Type} : Nat → List Int → Bool → (Bool → List Int → Option α) → Option α := Classical.choose impl_told.ex α
theorem impl_told.eq : @impl_told = @impl_told.b := funext fun α => congrFun (Classical.choose_spec impl_told.ex) α

/-- impl.NatShift -/
noncomputable def impl_NatShift.b {α : Type} (N : Nat) (a212 : List Int) (a213 : Int) (k0 : Bool → List Int → Option α) : Option α :=
 impl_NatOk N a212
  (fun x248 =>
   let x249 := !x248
   bif x249 then
    k0 false []
   else
    impl_in N a213 (-4096 : Int) (4096 : Int)
     (fun x250 =>
      let x251 := !x250
      bif x251 then
       k0 false []
      else
       impl_natShift N a212 a213
        (fun x413 =>
         impl_told N x413 true
          (fun x428 x429 =>
           k0 x428 x429))))
theorem impl_NatShift.ex : ∃ f : ((α : Type) → Nat → List Int → Int → (Bool → List Int → Option α) → Option α), f = fun α => @impl_NatShift.b α := ⟨_, rfl⟩
noncomputable def impl_NatShift {α : Type} : Nat → List Int → Int → (Bool → List Int → Option α) → Option α := Classical.choose impl_NatShift.ex α
theorem impl_NatShift.eq : @impl_NatShift = @impl_NatShift.b := funext fun α => congrFun (Classical.choose_spec impl_NatShift.ex) α

noncomputable def spec_NatOk_L0r {α : Type} (N : Nat) (next : List Int → Int → Option α) (k0 : Bool → Option α) (k1 : List Int → Option α) (v807 : List Int) (v808 : Int) : Option α :=
 let x809 := ((v807.length : Nat) : Int)
 let x810 := decide (v808 < x809)
 bif x810 then
  bif (decide (v808 < (0 : Int))) then
   none
  else
   match v807[v808.toNat]? with
   | some x811 =>
    let x812 := (decide (x811 < (0 : Int)))
    bif x812 then
     k0 false
    else
     bif (decide (v808 < (0 : Int))) then
      none
     else
      match v807[v808.toNat]? with
      | some x813 =>
       let x814 := (decide ((65536 : Int) ≤ x813))
       bif x814 then
        k0 false
       else
        let x815 := (IntKind.i64.wrap (v808 + (1 : Int)))
        next v807 x815
      | none => none
   | none => none
 else
  k1 v807
noncomputable def spec_NatOk_L0.b {α : Type} (N n : Nat) (v807 : List Int) (v808 : Int) (k0 : Bool → Option α) (k1 : List Int → Option α) : Option α :=
  Nat.rec (motive := fun _ => List Int → Int → Option α) (fun _ _ => none) (fun _ next => spec_NatOk_L0r N next k0 k1) n v807 v808
theorem spec_NatOk_L0.ex : ∃ f : ((α : Type) → Nat → Nat → List Int → Int → (Bool → Option α) → (List Int → Option α) → Option α), f = fun α => @spec_NatOk_L0.b α := ⟨_, rfl⟩
noncomputable def spec_NatOk_L0 {α : Type} : Nat → Nat → List Int → Int → (Bool → Option α) → (List Int → Option α) → Option α := Classical.choose spec_NatOk_L0.ex α
theorem spec_NatOk_L0.eq : @spec_NatOk_L0 = @spec_NatOk_L0.b := funext fun α => congrFun (Classical.choose_spec spec_NatOk_L0.ex) α
theorem spec_NatOk_L0.zero {α : Type} (N : Nat) (v807 : List Int) (v808 : Int) (k0 : Bool → Option α) (k1 : List Int → Option α) : spec_NatOk_L0 N 0 v807 v808 k0 k1 = none := by rw [spec_NatOk_L0.eq]; rfl
theorem spec_NatOk_L0.succ {α : Type} (N n : Nat) (v807 : List Int) (v808 : Int) (k0 : Bool → Option α) (k1 : List Int → Option α) : spec_NatOk_L0 N (n + 1) v807 v808 k0 k1 = spec_NatOk_L0r N (fun y0 y1 => spec_NatOk_L0 N n y0 y1 k0 k1) k0 k1 v807 v808 := by rw [spec_NatOk_L0.eq]; rfl
/-- spec.NatOk -/
noncomputable def spec_NatOk.b {α : Type} (N : Nat) (a804 : List Int) (k0 : Bool → Option α) : Option α :=
 let x805 := ((a804.length : Nat) : Int)
 let x806 := (decide ((256 : Int) < x805))
 bif x806 then
  k0 false
 else
  spec_NatOk_L0 N N a804 (0 : Int)
   (fun x816 =>
    k0 x816)
   (fun x817 =>
    let x818 := ((x817.length : Nat) : Int)
    let x819 := (decide (x818 = (0 : Int)))
    bif x819 then
     k0 true
    else
     let x820 := ((x817.length : Nat) : Int)
     let x821 := (IntKind.i64.wrap (x820 - (1 : Int)))
     bif (decide (x821 < (0 : Int))) then
      none
     else
      match x817[x821.toNat]? with
      | some x822 =>
       let x823 := (!(decide (x822 = (0 : Int))))
       k0 x823
      | none => none)
theorem spec_NatOk.ex : ∃ f : ((α : Type) → Nat → List Int → (Bool → Option α) → Option α), f = fun α => @spec_NatOk.b α := ⟨_, rfl⟩
noncomputable def spec_NatOk {α : Type} : Nat → List Int → (Bool → Option α) → Option α := Classical.choose spec_NatOk.ex α
theorem spec_NatOk.eq : @spec_NatOk = @spec_NatOk.b := funext fun α => congrFun (Classical.choose_spec spec_NatOk.ex) α

noncomputable def spec_l5Shl_L0r {α : Type} (N : Nat) (next : List Int → Int → List Int → Option α) (k0 : List Int → Option α) (v843 : List Int) (v844 : Int) (v845 : List Int) : Option α :=
 let x846 := ((v843.length : Nat) : Int)
 let x847 := decide (v844 < x846)
 bif x847 then
  bif (decide (v844 < (0 : Int))) then
   none
  else
   match v843[v844.toNat]? with
   | some x848 =>
    let x849 := [x848]
    bif decide (v845.length + x849.length ≤ 8796093022208) then
     let x850 := v845 ++ x849
     let x851 := (IntKind.i64.wrap (v844 + (1 : Int)))
     next v843 x851 x850
    else
     none
   | none => none
 else
  k0 v845
noncomputable def spec_l5Shl_L0.b {α : Type} (N n : Nat) (v843 : List Int) (v844 : Int) (v845 : List Int) (k0 : List Int → Option α) : Option α :=
  Nat.rec (motive := fun _ => List Int → Int → List Int → Option α) (fun _ _ _ => none) (fun _ next => spec_l5Shl_L0r N next k0) n v843 v844 v845
theorem spec_l5Shl_L0.ex : ∃ f : ((α : Type) → Nat → Nat → List Int → Int → List Int → (List Int → Option α) → Option α), f = fun α => @spec_l5Shl_L0.b α := ⟨_, rfl⟩
noncomputable def spec_l5Shl_L0 {α : Type} : Nat → Nat → List Int → Int → List Int → (List Int → Option α) → Option α := Classical.choose spec_l5Shl_L0.ex α
theorem spec_l5Shl_L0.eq : @spec_l5Shl_L0 = @spec_l5Shl_L0.b := funext fun α => congrFun (Classical.choose_spec spec_l5Shl_L0.ex) α
theorem spec_l5Shl_L0.zero {α : Type} (N : Nat) (v843 : List Int) (v844 : Int) (v845 : List Int) (k0 : List Int → Option α) : spec_l5Shl_L0 N 0 v843 v844 v845 k0 = none := by rw [spec_l5Shl_L0.eq]; rfl
theorem spec_l5Shl_L0.succ {α : Type} (N n : Nat) (v843 : List Int) (v844 : Int) (v845 : List Int) (k0 : List Int → Option α) : spec_l5Shl_L0 N (n + 1) v843 v844 v845 k0 = spec_l5Shl_L0r N (fun y0 y1 y2 => spec_l5Shl_L0 N n y0 y1 y2 k0) k0 v843 v844 v845 := by rw [spec_l5Shl_L0.eq]; rfl
/-- spec.l5Shl -/
noncomputable def spec_l5Shl.b {α : Type} (N : Nat) (a838 : List Int) (a839 : Int) (k0 : List Int → Option α) : Option α :=
 let x840 := ((a838.length : Nat) : Int)
 let x841 := (decide (x840 = (0 : Int)))
 bif x841 then
  k0 []
 else
  bif (decide ((0 : Int) ≤ a839)) then
   bif decide (a839 ≤ a839) then
    bif (decide (a839 ≤ ((8796093022208 : Nat) : Int))) then
     let x842 := (List.replicate a839.toNat (0 : Int))
     spec_l5Shl_L0 N N a838 (0 : Int) x842
      (fun x852 =>
       k0 x852)
    else
     none
   else
    none
  else
   none
theorem spec_l5Shl.ex : ∃ f : ((α : Type) → Nat → List Int → Int → (List Int → Option α) → Option α), f = fun α => @spec_l5Shl.b α := ⟨_, rfl⟩
noncomputable def spec_l5Shl {α : Type} : Nat → List Int → Int → (List Int → Option α) → Option α := Classical.choose spec_l5Shl.ex α
theorem spec_l5Shl.eq : @spec_l5Shl = @spec_l5Shl.b := funext fun α => congrFun (Classical.choose_spec spec_l5Shl.ex) α

/-- spec.l5Pow2 -/
noncomputable def spec_l5Pow2.b {α : Type} (N : Nat) (a832 : Int) (k0 : List Int → Option α) : Option α :=
 let x833 := (Int.tmod a832 (16 : Int))
 let x834 := IntKind.u64.wrap x833
 bif (decide (x834 < (0 : Int))) then
  none
 else
  let x835 := (shlI .i64 (1 : Int) x834)
  let x836 := [x835]
  let x837 := (IntKind.i64.wrap (Int.tdiv a832 (16 : Int)))
  spec_l5Shl N x836 x837
   (fun x853 =>
    k0 x853)
theorem spec_l5Pow2.ex : ∃ f : ((α : Type) → Nat → Int → (List Int → Option α) → Option α), f = fun α => @spec_l5Pow2.b α := ⟨_, rfl⟩
noncomputable def spec_l5Pow2 {α : Type} : Nat → Int → (List Int → Option α) → Option α := Classical.choose spec_l5Pow2.ex α
theorem spec_l5Pow2.eq : @spec_l5Pow2 = @spec_l5Pow2.b := funext fun α => congrFun (Classical.choose_spec spec_l5Pow2.ex) α

noncomputable def spec_l5Trim_L0r {α : Type} (N : Nat) (next : List Int → Int → Option α) (k0 : List Int → Int → Option α) (v901 : List Int) (v902 : Int) : Option α :=
 let x903 := (decide ((0 : Int) < v902))
 bif x903 then
  let x904 := (IntKind.i64.wrap (v902 - (1 : Int)))
  bif (decide (x904 < (0 : Int))) then
   none
  else
   match v901[x904.toNat]? with
   | some x905 =>
    let x906 := (decide (x905 = (0 : Int)))
    bif x906 then
     let x907 := (IntKind.i64.wrap (v902 - (1 : Int)))
     next v901 x907
    else
     k0 v901 v902
   | none => none
 else
  k0 v901 v902
noncomputable def spec_l5Trim_L0.b {α : Type} (N n : Nat) (v901 : List Int) (v902 : Int) (k0 : List Int → Int → Option α) : Option α :=
  Nat.rec (motive := fun _ => List Int → Int → Option α) (fun _ _ => none) (fun _ next => spec_l5Trim_L0r N next k0) n v901 v902
theorem spec_l5Trim_L0.ex : ∃ f : ((α : Type) → Nat → Nat → List Int → Int → (List Int → Int → Option α) → Option α), f = fun α => @spec_l5Trim_L0.b α := ⟨_, rfl⟩
noncomputable def spec_l5Trim_L0 {α : Type} : Nat → Nat → List Int → Int → (List Int → Int → Option α) → Option α := Classical.choose spec_l5Trim_L0.ex α
theorem spec_l5Trim_L0.eq : @spec_l5Trim_L0 = @spec_l5Trim_L0.b := funext fun α => congrFun (Classical.choose_spec spec_l5Trim_L0.ex) α
theorem spec_l5Trim_L0.zero {α : Type} (N : Nat) (v901 : List Int) (v902 : Int) (k0 : List Int → Int → Option α) : spec_l5Trim_L0 N 0 v901 v902 k0 = none := by rw [spec_l5Trim_L0.eq]; rfl
theorem spec_l5Trim_L0.succ {α : Type} (N n : Nat) (v901 : List Int) (v902 : Int) (k0 : List Int → Int → Option α) : spec_l5Trim_L0 N (n + 1) v901 v902 k0 = spec_l5Trim_L0r N (fun y0 y1 => spec_l5Trim_L0 N n y0 y1 k0) k0 v901 v902 := by rw [spec_l5Trim_L0.eq]; rfl
noncomputable def spec_l5Trim_L2r {α : Type} (N : Nat) (next : List Int → Int → Int → List Int → Option α) (k0 : List Int → Option α) (v910 : List Int) (v911 : Int) (v912 : Int) (v913 : List Int) : Option α :=
 let x914 := decide (v912 < v911)
 bif x914 then
  bif (decide (v912 < (0 : Int))) then
   none
  else
   match v910[v912.toNat]? with
   | some x915 =>
    let x916 := [x915]
    bif decide (v913.length + x916.length ≤ 8796093022208) then
     let x917 := v913 ++ x916
     let x918 := (IntKind.i64.wrap (v912 + (1 : Int)))
     next v910 v911 x918 x917
    else
     none
   | none => none
 else
  k0 v913
noncomputable def spec_l5Trim_L2.b {α : Type} (N n : Nat) (v910 : List Int) (v911 : Int) (v912 : Int) (v913 : List Int) (k0 : List Int → Option α) : Option α :=
  Nat.rec (motive := fun _ => List Int → Int → Int → List Int → Option α) (fun _ _ _ _ => none) (fun _ next => spec_l5Trim_L2r N next k0) n v910 v911 v912 v913
theorem spec_l5Trim_L2.ex : ∃ f : ((α : Type) → Nat → Nat → List Int → Int → Int → List Int → (List Int → Option α) → Option α), f = fun α => @spec_l5Trim_L2.b α := ⟨_, rfl⟩
noncomputable def spec_l5Trim_L2 {α : Type} : Nat → Nat → List Int → Int → Int → List Int → (List Int → Option α) → Option α := Classical.choose spec_l5Trim_L2.ex α
theorem spec_l5Trim_L2.eq : @spec_l5Trim_L2 = @spec_l5Trim_L2.b := funext fun α => congrFun (Classical.choose_spec spec_l5Trim_L2.ex) α
theorem spec_l5Trim_L2.zero {α : Type} (N : Nat) (v910 : List Int) (v911 : Int) (v912 : Int) (v913 : List Int) (k0 : List Int → Option α) : spec_l5Trim_L2 N 0 v910 v911 v912 v913 k0 = none := by rw [spec_l5Trim_L2.eq]; rfl
theorem spec_l5Trim_L2.succ {α : Type} (N n : Nat) (v910 : List Int) (v911 : Int) (v912 : Int) (v913 : List Int) (k0 : List Int → Option α) : spec_l5Trim_L2 N (n + 1) v910 v911 v912 v913 k0 = spec_l5Trim_L2r N (fun y0 y1 y2 y3 => spec_l5Trim_L2 N n y0 y1 y2 y3 k0) k0 v910 v911 v912 v913 := by rw [spec_l5Trim_L2.eq]; rfl
/-- spec.l5Trim -/
noncomputable def spec_l5Trim.b {α : Type} (N : Nat) (a899 : List Int) (k0 : List Int → Option α) : Option α :=
 let x900 := ((a899.length : Nat) : Int)
 spec_l5Trim_L0 N N a899 x900
  (fun x908 x909 =>
   spec_l5Trim_L2 N N x908 x909 (0 : Int) []
    (fun x919 =>
     k0 x919))
theorem spec_l5Trim.ex : ∃ f : ((α : Type) → Nat → List Int → (List Int → Option α) → Option α), f = fun α => @spec_l5Trim.b α := ⟨_, rfl⟩
noncomputable def spec_l5Trim {α : Type} : Nat → List Int → (List Int → Option α) → Option α := Classical.choose spec_l5Trim.ex α
theorem spec_l5Trim.eq : @spec_l5Trim = @spec_l5Trim.b := funext fun α => congrFun (Classical.choose_spec spec_l5Trim.ex) α

noncomputable def spec_l5Mul_L2r {α : Type} (N : Nat) (next : List Int → List Int → Int → Int → Int → List Int → Option α) (k0 : List Int → List Int → Int → Int → List Int → Option α) (v867 : List Int) (v868 : List Int) (v869 : Int) (v870 : Int) (v871 : Int) (v872 : List Int) : Option α :=
 let x873 := ((v868.length : Nat) : Int)
 let x874 := decide (v871 < x873)
 bif x874 then
  let x875 := IntKind.i64.wrap (v869 + v871)
  bif (decide (x875 < (0 : Int))) then
   none
  else
   bif decide (x875.toNat < v872.length) then
    match v872[x875.toNat]? with
    | some x876 =>
     bif (decide (v869 < (0 : Int))) then
      none
     else
      match v867[v869.toNat]? with
      | some x877 =>
       bif (decide (v871 < (0 : Int))) then
        none
       else
        match v868[v871.toNat]? with
        | some x878 =>
         let x879 := IntKind.i64.wrap (x877 * x878)
         let x880 := IntKind.i64.wrap (x876 + x879)
         let x881 := IntKind.i64.wrap (x880 + v870)
         let x882 := IntKind.i64.wrap (v869 + v871)
         let x883 := (Int.tmod x881 (65536 : Int))
         bif (decide (x882 < (0 : Int))) then
          none
         else
          bif decide (x882.toNat < v872.length) then
           match v872[x882.toNat]? with
           | some x884 =>
            let x885 := v872.set x882.toNat x883
            let x886 := (IntKind.i64.wrap (Int.tdiv x881 (65536 : Int)))
            let x887 := (IntKind.i64.wrap (v871 + (1 : Int)))
            next v867 v868 v869 x886 x887 x885
           | none => none
          else
           none
        | none => none
      | none => none
    | none => none
   else
    none
 else
  k0 v867 v868 v869 v870 v872
noncomputable def spec_l5Mul_L2.b {α : Type} (N n : Nat) (v867 : List Int) (v868 : List Int) (v869 : Int) (v870 : Int) (v871 : Int) (v872 : List Int) (k0 : List Int → List Int → Int → Int → List Int → Option α) : Option α :=
  Nat.rec (motive := fun _ => List Int → List Int → Int → Int → Int → List Int → Option α) (fun _ _ _ _ _ _ => none) (fun _ next => spec_l5Mul_L2r N next k0) n v867 v868 v869 v870 v871 v872
theorem spec_l5Mul_L2.ex : ∃ f : ((α : Type) → Nat → Nat → List Int → List Int → Int → Int → Int → List Int → (List Int → List Int → Int → Int → List Int → Option α) → Option α), f = fun α => @spec_l5Mul_L2.b α := ⟨_, rfl⟩
noncomputable def spec_l5Mul_L2 {α : Type} : Nat → Nat → List Int → List Int → Int → Int → Int → List Int → (List Int → List Int → Int → Int → List Int → Option α) → Option α := Classical.choose spec_l5Mul_L2.ex α
theorem spec_l5Mul_L2.eq : @spec_l5Mul_L2 = @spec_l5Mul_L2.b := funext fun α => congrFun (Classical.choose_spec spec_l5Mul_L2.ex) α
theorem spec_l5Mul_L2.zero {α : Type} (N : Nat) (v867 : List Int) (v868 : List Int) (v869 : Int) (v870 : Int) (v871 : Int) (v872 : List Int) (k0 : List Int → List Int → Int → Int → List Int → Option α) : spec_l5Mul_L2 N 0 v867 v868 v869 v870 v871 v872 k0 = none := by rw [spec_l5Mul_L2.eq]; rfl
theorem spec_l5Mul_L2.succ {α : Type} (N n : Nat) (v867 : List Int) (v868 : List Int) (v869 : Int) (v870 : Int) (v871 : Int) (v872 : List Int) (k0 : List Int → List Int → Int → Int → List Int → Option α) : spec_l5Mul_L2 N (n + 1) v867 v868 v869 v870 v871 v872 k0 = spec_l5Mul_L2r N (fun y0 y1 y2 y3 y4 y5 => spec_l5Mul_L2 N n y0 y1 y2 y3 y4 y5 k0) k0 v867 v868 v869 v870 v871 v872 := by rw [spec_l5Mul_L2.eq]; rfl
noncomputable def spec_l5Mul_L0r {α : Type} (N : Nat) (next : List Int → List Int → Int → List Int → Option α) (k0 : List Int → Option α) (v861 : List Int) (v862 : List Int) (v863 : Int) (v864 : List Int) : Option α :=
 let x865 := ((v861.length : Nat) : Int)
 let x866 := decide (v863 < x865)
 bif x866 then
  spec_l5Mul_L2 N N v861 v862 v863 (0 : Int) (0 : Int) v864
   (fun x888 x889 x890 x891 x892 =>
    let x893 := ((x889.length : Nat) : Int)
    let x894 := IntKind.i64.wrap (x890 + x893)
    bif (decide (x894 < (0 : Int))) then
     none
    else
     bif decide (x894.toNat < x892.length) then
      match x892[x894.toNat]? with
      | some x895 =>
       let x896 := x892.set x894.toNat x891
       let x897 := (IntKind.i64.wrap (x890 + (1 : Int)))
       next x888 x889 x897 x896
      | none => none
     else
      none)
 else
  k0 v864
noncomputable def spec_l5Mul_L0.b {α : Type} (N n : Nat) (v861 : List Int) (v862 : List Int) (v863 : Int) (v864 : List Int) (k0 : List Int → Option α) : Option α :=
  Nat.rec (motive := fun _ => List Int → List Int → Int → List Int → Option α) (fun _ _ _ _ => none) (fun _ next => spec_l5Mul_L0r N next k0) n v861 v862 v863 v864
theorem spec_l5Mul_L0.ex : ∃ f : ((α : Type) → Nat → Nat → List Int → List Int → Int → List Int → (List Int → Option α) → Option α), f = fun α => @spec_l5Mul_L0.b α := ⟨_, rfl⟩
noncomputable def spec_l5Mul_L0 {α : Type} : Nat → Nat → List Int → List Int → Int → List Int → (List Int → Option α) → Option α := Classical.choose spec_l5Mul_L0.ex α
theorem spec_l5Mul_L0.eq : @spec_l5Mul_L0 = @spec_l5Mul_L0.b := funext fun α => congrFun (Classical.choose_spec spec_l5Mul_L0.ex) α
theorem spec_l5Mul_L0.zero {α : Type} (N : Nat) (v861 : List Int) (v862 : List Int) (v863 : Int) (v864 : List Int) (k0 : List Int → Option α) : spec_l5Mul_L0 N 0 v861 v862 v863 v864 k0 = none := by rw [spec_l5Mul_L0.eq]; rfl
theorem spec_l5Mul_L0.succ {α : Type} (N n : Nat) (v861 : List Int) (v862 : List Int) (v863 : Int) (v864 : List Int) (k0 : List Int → Option α) : spec_l5Mul_L0 N (n + 1) v861 v862 v863 v864 k0 = spec_l5Mul_L0r N (fun y0 y1 y2 y3 => spec_l5Mul_L0 N n y0 y1 y2 y3 k0) k0 v861 v862 v863 v864 := by rw [spec_l5Mul_L0.eq]; rfl
/-- spec.l5Mul -/
noncomputable def spec_l5Mul.b {α : Type} (N : Nat) (a855 : List Int) (a856 : List Int) (k0 : List Int → Option α) : Option α :=
 let x857 := ((a855.length : Nat) : Int)
 let x858 := ((a856.length : Nat) : Int)
 let x859 := IntKind.i64.wrap (x857 + x858)
 bif (decide ((0 : Int) ≤ x859)) then
  bif decide (x859 ≤ x859) then
   bif (decide (x859 ≤ ((8796093022208 : Nat) : Int))) then
    let x860 := (List.replicate x859.toNat (0 : Int))
    spec_l5Mul_L0 N N a855 a856 (0 : Int) x860
     (fun x898 =>
      spec_l5Trim N x898
       (fun x920 =>
        k0 x920))
   else
    none
  else
   none
 else
  none
theorem spec_l5Mul.ex : ∃ f : ((α : Type) → Nat → List Int → List Int → (List Int → Option α) → Option α), f = fun α => @spec_l5Mul.b α := ⟨_, rfl⟩
noncomputable def spec_l5Mul {α : Type} : Nat → List Int → List Int → (List Int → Option α) → Option α := Classical.choose spec_l5Mul.ex α
theorem spec_l5Mul.eq : @spec_l5Mul = @spec_l5Mul.b := funext fun α => congrFun (Classical.choose_spec spec_l5Mul.ex) α

noncomputable def spec_l5Cmp_L0r {α : Type} (N : Nat) (next : List Int → List Int → Int → Option α) (k0 : Int → Option α) (k1 : Option α) (v936 : List Int) (v937 : List Int) (v938 : Int) : Option α :=
 let x939 := (decide ((0 : Int) ≤ v938))
 bif x939 then
  bif (decide (v938 < (0 : Int))) then
   none
  else
   match v936[v938.toNat]? with
   | some x940 =>
    bif (decide (v938 < (0 : Int))) then
     none
    else
     match v937[v938.toNat]? with
     | some x941 =>
      let x942 := decide (x940 < x941)
      bif x942 then
       k0 (-1 : Int)
      else
       bif (decide (v938 < (0 : Int))) then
        none
       else
        match v936[v938.toNat]? with
        | some x943 =>
         bif (decide (v938 < (0 : Int))) then
          none
         else
          match v937[v938.toNat]? with
          | some x944 =>
           let x945 := decide (x944 < x943)
           bif x945 then
            k0 (1 : Int)
           else
            let x946 := (IntKind.i64.wrap (v938 - (1 : Int)))
            next v936 v937 x946
          | none => none
        | none => none
     | none => none
   | none => none
 else
  k1
noncomputable def spec_l5Cmp_L0.b {α : Type} (N n : Nat) (v936 : List Int) (v937 : List Int) (v938 : Int) (k0 : Int → Option α) (k1 : Option α) : Option α :=
  Nat.rec (motive := fun _ => List Int → List Int → Int → Option α) (fun _ _ _ => none) (fun _ next => spec_l5Cmp_L0r N next k0 k1) n v936 v937 v938
theorem spec_l5Cmp_L0.ex : ∃ f : ((α : Type) → Nat → Nat → List Int → List Int → Int → (Int → Option α) → (Option α) → Option α), f = fun α => @spec_l5Cmp_L0.b α := ⟨_, rfl⟩
noncomputable def spec_l5Cmp_L0 {α : Type} : Nat → Nat → List Int → List Int → Int → (Int → Option α) → (Option α) → Option α := Classical.choose spec_l5Cmp_L0.ex α
theorem spec_l5Cmp_L0.eq : @spec_l5Cmp_L0 = @spec_l5Cmp_L0.b := funext fun α => congrFun (Classical.choose_spec spec_l5Cmp_L0.ex) α
theorem spec_l5Cmp_L0.zero {α : Type} (N : Nat) (v936 : List Int) (v937 : List Int) (v938 : Int) (k0 : Int → Option α) (k1 : Option α) : spec_l5Cmp_L0 N 0 v936 v937 v938 k0 k1 = none := by rw [spec_l5Cmp_L0.eq]; rfl
theorem spec_l5Cmp_L0.succ {α : Type} (N n : Nat) (v936 : List Int) (v937 : List Int) (v938 : Int) (k0 : Int → Option α) (k1 : Option α) : spec_l5Cmp_L0 N (n + 1) v936 v937 v938 k0 k1 = spec_l5Cmp_L0r N (fun y0 y1 y2 => spec_l5Cmp_L0 N n y0 y1 y2 k0 k1) k0 k1 v936 v937 v938 := by rw [spec_l5Cmp_L0.eq]; rfl
/-- spec.l5Cmp -/
noncomputable def spec_l5Cmp.b {α : Type} (N : Nat) (a926 : List Int) (a927 : List Int) (k0 : Int → Option α) : Option α :=
 let x928 := ((a926.length : Nat) : Int)
 let x929 := ((a927.length : Nat) : Int)
 let x930 := decide (x928 < x929)
 bif x930 then
  k0 (-1 : Int)
 else
  let x931 := ((a926.length : Nat) : Int)
  let x932 := ((a927.length : Nat) : Int)
  let x933 := decide (x932 < x931)
  bif x933 then
   k0 (1 : Int)
  else
   let x934 := ((a926.length : Nat) : Int)
   let x935 := (IntKind.i64.wrap (x934 - (1 : Int)))
   spec_l5Cmp_L0 N N a926 a927 x935
    (fun x947 =>
     k0 x947)
    (
     k0 (0 : Int))
theorem spec_l5Cmp.ex : ∃ f : ((α : Type) → Nat → List Int → List Int → (Int → Option α) → Option α), f = fun α => @spec_l5Cmp.b α := ⟨_, rfl⟩
noncomputable def spec_l5Cmp {α : Type} : Nat → List Int → List Int → (Int → Option α) → Option α := Classical.choose spec_l5Cmp.ex α
theorem spec_l5Cmp.eq : @spec_l5Cmp = @spec_l5Cmp.b := funext fun α => congrFun (Classical.choose_spec spec_l5Cmp.ex) α

noncomputable def spec_l5DivSmall_L0r {α : Type} (N : Nat) (next : List Int → Int → Int → Int → List Int → Option α) (k0 : Int → List Int → Option α) (v960 : List Int) (v961 : Int) (v962 : Int) (v963 : Int) (v964 : List Int) : Option α :=
 let x965 := (decide ((0 : Int) ≤ v963))
 bif x965 then
  let x966 := (IntKind.i64.wrap (v962 * (65536 : Int)))
  bif (decide (v963 < (0 : Int))) then
   none
  else
   match v960[v963.toNat]? with
   | some x967 =>
    let x968 := IntKind.i64.wrap (x966 + x967)
    bif (decide (v961 = (0 : Int))) then
     none
    else
     let x969 := IntKind.i64.wrap (Int.tdiv x968 v961)
     bif (decide (v963 < (0 : Int))) then
      none
     else
      bif decide (v963.toNat < v964.length) then
       match v964[v963.toNat]? with
       | some x970 =>
        let x971 := v964.set v963.toNat x969
        bif (decide (v961 = (0 : Int))) then
         none
        else
         let x972 := Int.tmod x968 v961
         let x973 := (IntKind.i64.wrap (v963 - (1 : Int)))
         next v960 v961 x972 x973 x971
       | none => none
      else
       none
   | none => none
 else
  k0 v962 v964
noncomputable def spec_l5DivSmall_L0.b {α : Type} (N n : Nat) (v960 : List Int) (v961 : Int) (v962 : Int) (v963 : Int) (v964 : List Int) (k0 : Int → List Int → Option α) : Option α :=
  Nat.rec (motive := fun _ => List Int → Int → Int → Int → List Int → Option α) (fun _ _ _ _ _ => none) (fun _ next => spec_l5DivSmall_L0r N next k0) n v960 v961 v962 v963 v964
theorem spec_l5DivSmall_L0.ex : ∃ f : ((α : Type) → Nat → Nat → List Int → Int → Int → Int → List Int → (Int → List Int → Option α) → Option α), f = fun α => @spec_l5DivSmall_L0.b α := ⟨_, rfl⟩
noncomputable def spec_l5DivSmall_L0 {α : Type} : Nat → Nat → List Int → Int → Int → Int → List Int → (Int → List Int → Option α) → Option α := Classical.choose spec_l5DivSmall_L0.ex α
theorem spec_l5DivSmall_L0.eq : @spec_l5DivSmall_L0 = @spec_l5DivSmall_L0.b := funext fun α => congrFun (Classical.choose_spec spec_l5DivSmall_L0.ex) α
theorem spec_l5DivSmall_L0.zero {α : Type} (N : Nat) (v960 : List Int) (v961 : Int) (v962 : Int) (v963 : Int) (v964 : List Int) (k0 : Int → List Int → Option α) : spec_l5DivSmall_L0 N 0 v960 v961 v962 v963 v964 k0 = none := by rw [spec_l5DivSmall_L0.eq]; rfl
theorem spec_l5DivSmall_L0.succ {α : Type} (N n : Nat) (v960 : List Int) (v961 : Int) (v962 : Int) (v963 : Int) (v964 : List Int) (k0 : Int → List Int → Option α) : spec_l5DivSmall_L0 N (n + 1) v960 v961 v962 v963 v964 k0 = spec_l5DivSmall_L0r N (fun y0 y1 y2 y3 y4 => spec_l5DivSmall_L0 N n y0 y1 y2 y3 y4 k0) k0 v960 v961 v962 v963 v964 := by rw [spec_l5DivSmall_L0.eq]; rfl
/-- spec.l5DivSmall -/
noncomputable def spec_l5DivSmall.b {α : Type} (N : Nat) (a954 : List Int) (a955 : Int) (k0 : Int → List Int → Option α) : Option α :=
 let x956 := ((a954.length : Nat) : Int)
 bif (decide ((0 : Int) ≤ x956)) then
  bif decide (x956 ≤ x956) then
   bif (decide (x956 ≤ ((8796093022208 : Nat) : Int))) then
    let x957 := (List.replicate x956.toNat (0 : Int))
    let x958 := ((a954.length : Nat) : Int)
    let x959 := (IntKind.i64.wrap (x958 - (1 : Int)))
    spec_l5DivSmall_L0 N N a954 a955 (0 : Int) x959 x957
     (fun x974 x975 =>
      spec_l5Trim N x975
       (fun x976 =>
        k0 x974 x976))
   else
    none
  else
   none
 else
  none
theorem spec_l5DivSmall.ex : ∃ f : ((α : Type) → Nat → List Int → Int → (Int → List Int → Option α) → Option α), f = fun α => @spec_l5DivSmall.b α := ⟨_, rfl⟩
noncomputable def spec_l5DivSmall {α : Type} : Nat → List Int → Int → (Int → List Int → Option α) → Option α := Classical.choose spec_l5DivSmall.ex α
theorem spec_l5DivSmall.eq : @spec_l5DivSmall = @spec_l5DivSmall.b := funext fun α => congrFun (Classical.choose_spec spec_l5DivSmall.ex) α

/-- spec.l5Times -/
noncomputable def spec_l5Times.b {α : Type} (N : Nat) (a986 : List Int) (a987 : Int) (k0 : List Int → Option α) : Option α :=
 let x988 := (decide (a987 = (0 : Int)))
 bif x988 then
  k0 []
 else
  let x989 := [a987]
  spec_l5Mul N a986 x989
   (fun x990 =>
    k0 x990)
theorem spec_l5Times.ex : ∃ f : ((α : Type) → Nat → List Int → Int → (List Int → Option α) → Option α), f = fun α => @spec_l5Times.b α := ⟨_, rfl⟩
noncomputable def spec_l5Times {α : Type} : Nat → List Int → Int → (List Int → Option α) → Option α := Classical.choose spec_l5Times.ex α
theorem spec_l5Times.eq : @spec_l5Times = @spec_l5Times.b := funext fun α => congrFun (Classical.choose_spec spec_l5Times.ex) α

noncomputable def spec_l5Top_L0r {α : Type} (N : Nat) (next : List Int → Int → List Int → Option α) (k0 : List Int → Option α) (v1003 : List Int) (v1004 : Int) (v1005 : List Int) : Option α :=
 let x1006 := ((v1003.length : Nat) : Int)
 let x1007 := decide (v1004 < x1006)
 bif x1007 then
  bif (decide (v1004 < (0 : Int))) then
   none
  else
   match v1003[v1004.toNat]? with
   | some x1008 =>
    let x1009 := [x1008]
    bif decide (v1005.length + x1009.length ≤ 8796093022208) then
     let x1010 := v1005 ++ x1009
     let x1011 := (IntKind.i64.wrap (v1004 + (1 : Int)))
     next v1003 x1011 x1010
    else
     none
   | none => none
 else
  k0 v1005
noncomputable def spec_l5Top_L0.b {α : Type} (N n : Nat) (v1003 : List Int) (v1004 : Int) (v1005 : List Int) (k0 : List Int → Option α) : Option α :=
  Nat.rec (motive := fun _ => List Int → Int → List Int → Option α) (fun _ _ _ => none) (fun _ next => spec_l5Top_L0r N next k0) n v1003 v1004 v1005
theorem spec_l5Top_L0.ex : ∃ f : ((α : Type) → Nat → Nat → List Int → Int → List Int → (List Int → Option α) → Option α), f = fun α => @spec_l5Top_L0.b α := ⟨_, rfl⟩
noncomputable def spec_l5Top_L0 {α : Type} : Nat → Nat → List Int → Int → List Int → (List Int → Option α) → Option α := Classical.choose spec_l5Top_L0.ex α
theorem spec_l5Top_L0.eq : @spec_l5Top_L0 = @spec_l5Top_L0.b := funext fun α => congrFun (Classical.choose_spec spec_l5Top_L0.ex) α
theorem spec_l5Top_L0.zero {α : Type} (N : Nat) (v1003 : List Int) (v1004 : Int) (v1005 : List Int) (k0 : List Int → Option α) : spec_l5Top_L0 N 0 v1003 v1004 v1005 k0 = none := by rw [spec_l5Top_L0.eq]; rfl
theorem spec_l5Top_L0.succ {α : Type} (N n : Nat) (v1003 : List Int) (v1004 : Int) (v1005 : List Int) (k0 : List Int → Option α) : spec_l5Top_L0 N (n + 1) v1003 v1004 v1005 k0 = spec_l5Top_L0r N (fun y0 y1 y2 => spec_l5Top_L0 N n y0 y1 y2 k0) k0 v1003 v1004 v1005 := by rw [spec_l5Top_L0.eq]; rfl
/-- spec.l5Top -/
noncomputable def spec_l5Top.b {α : Type} (N : Nat) (a1001 : List Int) (a1002 : Int) (k0 : List Int → Option α) : Option α :=
 spec_l5Top_L0 N N a1001 a1002 []
  (fun x1012 =>
   k0 x1012)
theorem spec_l5Top.ex : ∃ f : ((α : Type) → Nat → List Int → Int → (List Int → Option α) → Option α), f = fun α => @spec_l5Top.b α := ⟨_, rfl⟩
noncomputable def spec_l5Top {α : Type} : Nat → List Int → Int → (List Int → Option α) → Option α := Classical.choose spec_l5Top.ex α
theorem spec_l5Top.eq : @spec_l5Top = @spec_l5Top.b := funext fun α => congrFun (Classical.choose_spec spec_l5Top.ex) α

/-- spec.l5At -/
noncomputable def spec_l5At.b {α : Type} (N : Nat) (a1047 : List Int) (a1048 : Int) (k0 : Int → Option α) : Option α :=
 let x1049 := ((a1047.length : Nat) : Int)
 let x1050 := decide (a1048 < x1049)
 bif x1050 then
  bif (decide (a1048 < (0 : Int))) then
   none
  else
   match a1047[a1048.toNat]? with
   | some x1051 =>
    k0 x1051
   | none => none
 else
  k0 (0 : Int)
theorem spec_l5At.ex : ∃ f : ((α : Type) → Nat → List Int → Int → (Int → Option α) → Option α), f = fun α => @spec_l5At.b α := ⟨_, rfl⟩
noncomputable def spec_l5At {α : Type} : Nat → List Int → Int → (Int → Option α) → Option α := Classical.choose spec_l5At.ex α
theorem spec_l5At.eq : @spec_l5At = @spec_l5At.b := funext fun α => congrFun (Classical.choose_spec spec_l5At.ex) α

noncomputable def spec_l5Add_J2.b {α : Type} (N : Nat) (v1031 : List Int) (v1032 : List Int) (v1033 : Int) (k0 : List Int → List Int → Int → Option α) : Option α :=
 let x1034 := ((v1032.length : Nat) : Int)
 let x1035 := decide (v1033 < x1034)
 bif x1035 then
  let x1036 := ((v1032.length : Nat) : Int)
  k0 v1031 v1032 x1036
 else
  k0 v1031 v1032 v1033
theorem spec_l5Add_J2.ex : ∃ f : ((α : Type) → Nat → List Int → List Int → Int → (List Int → List Int → Int → Option α) → Option α), f = fun α => @spec_l5Add_J2.b α := ⟨_, rfl⟩
noncomputable def spec_l5Add_J2 {α : Type} : Nat → List Int → List Int → Int → (List Int → List Int → Int → Option α) → Option α := Classical.choose spec_l5Add_J2.ex α
theorem spec_l5Add_J2.eq : @spec_l5Add_J2 = @spec_l5Add_J2.b := funext fun α => congrFun (Classical.choose_spec spec_l5Add_J2.ex) α
noncomputable def spec_l5Add_L0r {α : Type} (N : Nat) (next : List Int → List Int → Int → Int → Int → List Int → Option α) (k0 : Int → List Int → Option α) (v1040 : List Int) (v1041 : List Int) (v1042 : Int) (v1043 : Int) (v1044 : Int) (v1045 : List Int) : Option α :=
 let x1046 := decide (v1044 < v1042)
 bif x1046 then
  spec_l5At N v1040 v1044
   (fun x1052 =>
    spec_l5At N v1041 v1044
     (fun x1053 =>
      let x1054 := IntKind.i64.wrap (x1052 + x1053)
      let x1055 := IntKind.i64.wrap (x1054 + v1043)
      let x1056 := (Int.tmod x1055 (65536 : Int))
      let x1057 := [x1056]
      bif decide (v1045.length + x1057.length ≤ 8796093022208) then
       let x1058 := v1045 ++ x1057
       let x1059 := (IntKind.i64.wrap (Int.tdiv x1055 (65536 : Int)))
       let x1060 := (IntKind.i64.wrap (v1044 + (1 : Int)))
       next v1040 v1041 v1042 x1059 x1060 x1058
      else
       none))
 else
  k0 v1043 v1045
noncomputable def spec_l5Add_L0.b {α : Type} (N n : Nat) (v1040 : List Int) (v1041 : List Int) (v1042 : Int) (v1043 : Int) (v1044 : Int) (v1045 : List Int) (k0 : Int → List Int → Option α) : Option α :=
  Nat.rec (motive := fun _ => List Int → List Int → Int → Int → Int → List Int → Option α) (fun _ _ _ _ _ _ => none) (fun _ next => spec_l5Add_L0r N next k0) n v1040 v1041 v1042 v1043 v1044 v1045
theorem spec_l5Add_L0.ex : ∃ f : ((α : Type) → Nat → Nat → List Int → List Int → Int → Int → Int → List Int → (Int → List Int → Option α) → Option α), f = fun α => @spec_l5Add_L0.b α := ⟨_, rfl⟩
noncomputable def spec_l5Add_L0 {α : Type} : Nat → Nat → List Int → List Int → Int → Int → Int → List Int → (Int → List Int → Option α) → Option α := Classical.choose spec_l5Add_L0.ex α
theorem spec_l5Add_L0.eq : @spec_l5Add_L0 = @spec_l5Add_L0.b := funext fun α => congrFun (Classical.choose_spec spec_l5Add_L0.ex) α
theorem spec_l5Add_L0.zero {α : Type} (N : Nat) (v1040 : List Int) (v1041 : List Int) (v1042 : Int) (v1043 : Int) (v1044 : Int) (v1045 : List Int) (k0 : Int → List Int → Option α) : spec_l5Add_L0 N 0 v1040 v1041 v1042 v1043 v1044 v1045 k0 = none := by rw [spec_l5Add_L0.eq]; rfl
theorem spec_l5Add_L0.succ {α : Type} (N n : Nat) (v1040 : List Int) (v1041 : List Int) (v1042 : Int) (v1043 : Int) (v1044 : Int) (v1045 : List Int) (k0 : Int → List Int → Option α) : spec_l5Add_L0 N (n + 1) v1040 v1041 v1042 v1043 v1044 v1045 k0 = spec_l5Add_L0r N (fun y0 y1 y2 y3 y4 y5 => spec_l5Add_L0 N n y0 y1 y2 y3 y4 y5 k0) k0 v1040 v1041 v1042 v1043 v1044 v1045 := by rw [spec_l5Add_L0.eq]; rfl
noncomputable def spec_l5Add_J12.b {α : Type} (N : Nat) (v1063 : Int) (v1064 : List Int) (k0 : List Int → Option α) : Option α :=
 let x1065 := (decide ((0 : Int) < v1063))
 bif x1065 then
  let x1066 := [v1063]
  bif decide (v1064.length + x1066.length ≤ 8796093022208) then
   let x1067 := v1064 ++ x1066
   k0 x1067
  else
   none
 else
  k0 v1064
theorem spec_l5Add_J12.ex : ∃ f : ((α : Type) → Nat → Int → List Int → (List Int → Option α) → Option α), f = fun α => @spec_l5Add_J12.b α := ⟨_, rfl⟩
noncomputable def spec_l5Add_J12 {α : Type} : Nat → Int → List Int → (List Int → Option α) → Option α := Classical.choose spec_l5Add_J12.ex α
theorem spec_l5Add_J12.eq : @spec_l5Add_J12 = @spec_l5Add_J12.b := funext fun α => congrFun (Classical.choose_spec spec_l5Add_J12.ex) α
/-- spec.l5Add -/
noncomputable def spec_l5Add.b {α : Type} (N : Nat) (a1028 : List Int) (a1029 : List Int) (k0 : List Int → Option α) : Option α :=
 let x1030 := ((a1028.length : Nat) : Int)
 spec_l5Add_J2 N a1028 a1029 x1030
  (fun x1037 x1038 x1039 =>
   spec_l5Add_L0 N N x1037 x1038 x1039 (0 : Int) (0 : Int) []
    (fun x1061 x1062 =>
     spec_l5Add_J12 N x1061 x1062
      (fun x1068 =>
       k0 x1068)))
theorem spec_l5Add.ex : ∃ f : ((α : Type) → Nat → List Int → List Int → (List Int → Option α) → Option α), f = fun α => @spec_l5Add.b α := ⟨_, rfl⟩
noncomputable def spec_l5Add {α : Type} : Nat → List Int → List Int → (List Int → Option α) → Option α := Classical.choose spec_l5Add.ex α
theorem spec_l5Add.eq : @spec_l5Add = @spec_l5Add.b := funext fun α => congrFun (Classical.choose_spec spec_l5Add.ex) α

noncomputable def spec_l5Sub_J8.b {α : Type} (N : Nat) (v1121 : List Int) (v1122 : List Int) (v1123 : Int) (v1124 : Int) (v1125 : Int) (v1126 : List Int) (k0 : List Int → List Int → Int → Int → Int → List Int → Option α) : Option α :=
 let x1127 := (decide (v1125 < (0 : Int)))
 bif x1127 then
  let x1128 := (IntKind.i64.wrap (v1125 + (65536 : Int)))
  k0 v1121 v1122 (1 : Int) v1124 x1128 v1126
 else
  k0 v1121 v1122 v1123 v1124 v1125 v1126
theorem spec_l5Sub_J8.ex : ∃ f : ((α : Type) → Nat → List Int → List Int → Int → Int → Int → List Int → (List Int → List Int → Int → Int → Int → List Int → Option α) → Option α), f = fun α => @spec_l5Sub_J8.b α := ⟨_, rfl⟩
noncomputable def spec_l5Sub_J8 {α : Type} : Nat → List Int → List Int → Int → Int → Int → List Int → (List Int → List Int → Int → Int → Int → List Int → Option α) → Option α := Classical.choose spec_l5Sub_J8.ex α
theorem spec_l5Sub_J8.eq : @spec_l5Sub_J8 = @spec_l5Sub_J8.b := funext fun α => congrFun (Classical.choose_spec spec_l5Sub_J8.ex) α
noncomputable def spec_l5Sub_L0r {α : Type} (N : Nat) (next : List Int → List Int → Int → Int → List Int → Option α) (k0 : List Int → Option α) (v1110 : List Int) (v1111 : List Int) (v1112 : Int) (v1113 : Int) (v1114 : List Int) : Option α :=
 let x1115 := ((v1110.length : Nat) : Int)
 let x1116 := decide (v1113 < x1115)
 bif x1116 then
  bif (decide (v1113 < (0 : Int))) then
   none
  else
   match v1110[v1113.toNat]? with
   | some x1117 =>
    spec_l5At N v1111 v1113
     (fun x1118 =>
      let x1119 := IntKind.i64.wrap (x1117 - x1118)
      let x1120 := IntKind.i64.wrap (x1119 - v1112)
      spec_l5Sub_J8 N v1110 v1111 (0 : Int) v1113 x1120 v1114
       (fun x1129 x1130 x1131 x1132 x1133 x1134 =>
        let x1135 := [x1133]
        bif decide (x1134.length + x1135.length ≤ 8796093022208) then
         let x1136 := x1134 ++ x1135
         let x1137 := (IntKind.i64.wrap (x1132 + (1 : Int)))
         next x1129 x1130 x1131 x1137 x1136
        else
         none))
   | none => none
 else
  k0 v1114
noncomputable def spec_l5Sub_L0.b {α : Type} (N n : Nat) (v1110 : List Int) (v1111 : List Int) (v1112 : Int) (v1113 : Int) (v1114 : List Int) (k0 : List Int → Option α) : Option α :=
  Nat.rec (motive := fun _ => List Int → List Int → Int → Int → List Int → Option α) (fun _ _ _ _ _ => none) (fun _ next => spec_l5Sub_L0r N next k0) n v1110 v1111 v1112 v1113 v1114
theorem spec_l5Sub_L0.ex : ∃ f : ((α : Type) → Nat → Nat → List Int → List Int → Int → Int → List Int → (List Int → Option α) → Option α), f = fun α => @spec_l5Sub_L0.b α := ⟨_, rfl⟩
noncomputable def spec_l5Sub_L0 {α : Type} : Nat → Nat → List Int → List Int → Int → Int → List Int → (List Int → Option α) → Option α := Classical.choose spec_l5Sub_L0.ex α
theorem spec_l5Sub_L0.eq : @spec_l5Sub_L0 = @spec_l5Sub_L0.b := funext fun α => congrFun (Classical.choose_spec spec_l5Sub_L0.ex) α
theorem spec_l5Sub_L0.zero {α : Type} (N : Nat) (v1110 : List Int) (v1111 : List Int) (v1112 : Int) (v1113 : Int) (v1114 : List Int) (k0 : List Int → Option α) : spec_l5Sub_L0 N 0 v1110 v1111 v1112 v1113 v1114 k0 = none := by rw [spec_l5Sub_L0.eq]; rfl
theorem spec_l5Sub_L0.succ {α : Type} (N n : Nat) (v1110 : List Int) (v1111 : List Int) (v1112 : Int) (v1113 : Int) (v1114 : List Int) (k0 : List Int → Option α) : spec_l5Sub_L0 N (n + 1) v1110 v1111 v1112 v1113 v1114 k0 = spec_l5Sub_L0r N (fun y0 y1 y2 y3 y4 => spec_l5Sub_L0 N n y0 y1 y2 y3 y4 k0) k0 v1110 v1111 v1112 v1113 v1114 := by rw [spec_l5Sub_L0.eq]; rfl
/-- spec.l5Sub -/
noncomputable def spec_l5Sub.b {α : Type} (N : Nat) (a1108 : List Int) (a1109 : List Int) (k0 : List Int → Option α) : Option α :=
 spec_l5Sub_L0 N N a1108 a1109 (0 : Int) (0 : Int) []
  (fun x1138 =>
   spec_l5Trim N x1138
    (fun x1139 =>
     k0 x1139))
theorem spec_l5Sub.ex : ∃ f : ((α : Type) → Nat → List Int → List Int → (List Int → Option α) → Option α), f = fun α => @spec_l5Sub.b α := ⟨_, rfl⟩
noncomputable def spec_l5Sub {α : Type} : Nat → List Int → List Int → (List Int → Option α) → Option α := Classical.choose spec_l5Sub.ex α
theorem spec_l5Sub.eq : @spec_l5Sub = @spec_l5Sub.b := funext fun α => congrFun (Classical.choose_spec spec_l5Sub.ex) α

noncomputable def spec_l5Div_J17.b {α : Type} (N : Nat) (v1079 : Int) (v1080 : Int) (v1081 : Int) (v1082 : Int) (v1083 : List Int) (v1084 : List Int) (v1085 : List Int) (v1086 : List Int) (k0 : Int → Int → Int → Int → List Int → List Int → List Int → List Int → Option α) : Option α :=
 let x1087 := (decide ((65536 : Int) ≤ v1082))
 bif x1087 then
  k0 v1079 v1080 v1081 (65535 : Int) v1083 v1084 v1085 v1086
 else
  k0 v1079 v1080 v1081 v1082 v1083 v1084 v1085 v1086
theorem spec_l5Div_J17.ex : ∃ f : ((α : Type) → Nat → Int → Int → Int → Int → List Int → List Int → List Int → List Int → (Int → Int → Int → Int → List Int → List Int → List Int → List Int → Option α) → Option α), f = fun α => @spec_l5Div_J17.b α := ⟨_, rfl⟩
noncomputable def spec_l5Div_J17 {α : Type} : Nat → Int → Int → Int → Int → List Int → List Int → List Int → List Int → (Int → Int → Int → Int → List Int → List Int → List Int → List Int → Option α) → Option α := Classical.choose spec_l5Div_J17.ex α
theorem spec_l5Div_J17.eq : @spec_l5Div_J17 = @spec_l5Div_J17.b := funext fun α => congrFun (Classical.choose_spec spec_l5Div_J17.ex) α
noncomputable def spec_l5Div_L2r {α : Type} (N : Nat) (next : Int → Int → Int → Int → List Int → List Int → List Int → List Int → List Int → Option α) (k0 : Int → Int → Int → Int → List Int → List Int → List Int → List Int → List Int → Option α) (v1097 : Int) (v1098 : Int) (v1099 : Int) (v1100 : Int) (v1101 : List Int) (v1102 : List Int) (v1103 : List Int) (v1104 : List Int) (v1105 : List Int) : Option α :=
 spec_l5Cmp N v1105 v1104
  (fun x1106 =>
   let x1107 := (decide ((0 : Int) < x1106))
   bif x1107 then
    spec_l5Sub N v1105 v1102
     (fun x1140 =>
      let x1141 := (IntKind.i64.wrap (v1100 - (1 : Int)))
      next v1097 v1098 v1099 x1141 v1101 v1102 v1103 v1104 x1140)
   else
    k0 v1097 v1098 v1099 v1100 v1101 v1102 v1103 v1104 v1105)
noncomputable def spec_l5Div_L2.b {α : Type} (N n : Nat) (v1097 : Int) (v1098 : Int) (v1099 : Int) (v1100 : Int) (v1101 : List Int) (v1102 : List Int) (v1103 : List Int) (v1104 : List Int) (v1105 : List Int) (k0 : Int → Int → Int → Int → List Int → List Int → List Int → List Int → List Int → Option α) : Option α :=
  Nat.rec (motive := fun _ => Int → Int → Int → Int → List Int → List Int → List Int → List Int → List Int → Option α) (fun _ _ _ _ _ _ _ _ _ => none) (fun _ next => spec_l5Div_L2r N next k0) n v1097 v1098 v1099 v1100 v1101 v1102 v1103 v1104 v1105
theorem spec_l5Div_L2.ex : ∃ f : ((α : Type) → Nat → Nat → Int → Int → Int → Int → List Int → List Int → List Int → List Int → List Int → (Int → Int → Int → Int → List Int → List Int → List Int → List Int → List Int → Option α) → Option α), f = fun α => @spec_l5Div_L2.b α := ⟨_, rfl⟩
noncomputable def spec_l5Div_L2 {α : Type} : Nat → Nat → Int → Int → Int → Int → List Int → List Int → List Int → List Int → List Int → (Int → Int → Int → Int → List Int → List Int → List Int → List Int → List Int → Option α) → Option α := Classical.choose spec_l5Div_L2.ex α
theorem spec_l5Div_L2.eq : @spec_l5Div_L2 = @spec_l5Div_L2.b := funext fun α => congrFun (Classical.choose_spec spec_l5Div_L2.ex) α
theorem spec_l5Div_L2.zero {α : Type} (N : Nat) (v1097 : Int) (v1098 : Int) (v1099 : Int) (v1100 : Int) (v1101 : List Int) (v1102 : List Int) (v1103 : List Int) (v1104 : List Int) (v1105 : List Int) (k0 : Int → Int → Int → Int → List Int → List Int → List Int → List Int → List Int → Option α) : spec_l5Div_L2 N 0 v1097 v1098 v1099 v1100 v1101 v1102 v1103 v1104 v1105 k0 = none := by rw [spec_l5Div_L2.eq]; rfl
theorem spec_l5Div_L2.succ {α : Type} (N n : Nat) (v1097 : Int) (v1098 : Int) (v1099 : Int) (v1100 : Int) (v1101 : List Int) (v1102 : List Int) (v1103 : List Int) (v1104 : List Int) (v1105 : List Int) (k0 : Int → Int → Int → Int → List Int → List Int → List Int → List Int → List Int → Option α) : spec_l5Div_L2 N (n + 1) v1097 v1098 v1099 v1100 v1101 v1102 v1103 v1104 v1105 k0 = spec_l5Div_L2r N (fun y0 y1 y2 y3 y4 y5 y6 y7 y8 => spec_l5Div_L2 N n y0 y1 y2 y3 y4 y5 y6 y7 y8 k0) k0 v1097 v1098 v1099 v1100 v1101 v1102 v1103 v1104 v1105 := by rw [spec_l5Div_L2.eq]; rfl
noncomputable def spec_l5Div_L0r {α : Type} (N : Nat) (next : Int → Int → Int → List Int → List Int → List Int → List Int → Option α) (k0 : Int → List Int → List Int → Option α) (v1016 : Int) (v1017 : Int) (v1018 : Int) (v1019 : List Int) (v1020 : List Int) (v1021 : List Int) (v1022 : List Int) : Option α :=
 let x1023 := (decide ((0 : Int) ≤ v1018))
 bif x1023 then
  spec_l5Shl N v1022 (1 : Int)
   (fun x1024 =>
    bif (decide (v1018 < (0 : Int))) then
     none
    else
     bif decide (v1018.toNat < v1019.length) then
      match v1019[v1018.toNat]? with
      | some x1025 =>
       let x1026 := IntKind.u64.wrap x1025
       spec_NatOf N x1026
        (fun x1027 =>
         spec_l5Add N x1024 x1027
          (fun x1069 =>
           spec_l5Trim N x1069
            (fun x1070 =>
             spec_l5At N x1070 v1017
              (fun x1071 =>
               let x1072 := (IntKind.i64.wrap (x1071 * (65536 : Int)))
               let x1073 := (IntKind.i64.wrap (v1017 - (1 : Int)))
               spec_l5At N x1070 x1073
                (fun x1074 =>
                 let x1075 := IntKind.i64.wrap (x1072 + x1074)
                 let x1076 := (IntKind.i64.wrap (v1017 - (1 : Int)))
                 bif (decide (x1076 < (0 : Int))) then
                  none
                 else
                  bif decide (x1076.toNat < v1020.length) then
                   match v1020[x1076.toNat]? with
                   | some x1077 =>
                    bif (decide (x1077 = (0 : Int))) then
                     none
                    else
                     let x1078 := IntKind.i64.wrap (Int.tdiv x1075 x1077)
                     spec_l5Div_J17 N v1016 v1017 v1018 x1078 v1019 v1020 v1021 x1070
                      (fun x1088 x1089 x1090 x1091 x1092 x1093 x1094 x1095 =>
                       spec_l5Times N x1093 x1091
                        (fun x1096 =>
                         spec_l5Div_L2 N N x1088 x1089 x1090 x1091 x1092 x1093 x1094 x1095 x1096
                          (fun x1142 x1143 x1144 x1145 x1146 x1147 x1148 x1149 x1150 =>
                           bif (decide (x1144 < (0 : Int))) then
                            none
                           else
                            bif decide (x1144.toNat < x1148.length) then
                             match x1148[x1144.toNat]? with
                             | some x1151 =>
                              let x1152 := x1148.set x1144.toNat x1145
                              spec_l5Sub N x1149 x1150
                               (fun x1153 =>
                                let x1154 := (IntKind.i64.wrap (x1144 - (1 : Int)))
                                next x1142 x1143 x1154 x1146 x1147 x1152 x1153)
                             | none => none
                            else
                             none)))
                   | none => none
                  else
                   none)))))
      | none => none
     else
      none)
 else
  k0 v1016 v1021 v1022
noncomputable def spec_l5Div_L0.b {α : Type} (N n : Nat) (v1016 : Int) (v1017 : Int) (v1018 : Int) (v1019 : List Int) (v1020 : List Int) (v1021 : List Int) (v1022 : List Int) (k0 : Int → List Int → List Int → Option α) : Option α :=
  Nat.rec (motive := fun _ => Int → Int → Int → List Int → List Int → List Int → List Int → Option α) (fun _ _ _ _ _ _ _ => none) (fun _ next => spec_l5Div_L0r N next k0) n v1016 v1017 v1018 v1019 v1020 v1021 v1022
theorem spec_l5Div_L0.ex : ∃ f : ((α : Type) → Nat → Nat → Int → Int → Int → List Int → List Int → List Int → List Int → (Int → List Int → List Int → Option α) → Option α), f = fun α => @spec_l5Div_L0.b α := ⟨_, rfl⟩
noncomputable def spec_l5Div_L0 {α : Type} : Nat → Nat → Int → Int → Int → List Int → List Int → List Int → List Int → (Int → List Int → List Int → Option α) → Option α := Classical.choose spec_l5Div_L0.ex α
theorem spec_l5Div_L0.eq : @spec_l5Div_L0 = @spec_l5Div_L0.b := funext fun α => congrFun (Classical.choose_spec spec_l5Div_L0.ex) α
theorem spec_l5Div_L0.zero {α : Type} (N : Nat) (v1016 : Int) (v1017 : Int) (v1018 : Int) (v1019 : List Int) (v1020 : List Int) (v1021 : List Int) (v1022 : List Int) (k0 : Int → List Int → List Int → Option α) : spec_l5Div_L0 N 0 v1016 v1017 v1018 v1019 v1020 v1021 v1022 k0 = none := by rw [spec_l5Div_L0.eq]; rfl
theorem spec_l5Div_L0.succ {α : Type} (N n : Nat) (v1016 : Int) (v1017 : Int) (v1018 : Int) (v1019 : List Int) (v1020 : List Int) (v1021 : List Int) (v1022 : List Int) (k0 : Int → List Int → List Int → Option α) : spec_l5Div_L0 N (n + 1) v1016 v1017 v1018 v1019 v1020 v1021 v1022 k0 = spec_l5Div_L0r N (fun y0 y1 y2 y3 y4 y5 y6 => spec_l5Div_L0 N n y0 y1 y2 y3 y4 y5 y6 k0) k0 v1016 v1017 v1018 v1019 v1020 v1021 v1022 := by rw [spec_l5Div_L0.eq]; rfl
/-- spec.l5Div -/
noncomputable def spec_l5Div.b {α : Type} (N : Nat) (a924 : List Int) (a925 : List Int) (k0 : List Int → List Int → Option α) : Option α :=
 spec_l5Cmp N a924 a925
  (fun x948 =>
   let x949 := (decide (x948 < (0 : Int)))
   bif x949 then
    spec_l5Trim N a924
     (fun x950 =>
      k0 [] x950)
   else
    let x951 := ((a925.length : Nat) : Int)
    let x952 := (decide (x951 = (1 : Int)))
    bif x952 then
     match a925[0]? with
     | some x953 =>
      spec_l5DivSmall N a924 x953
       (fun x977 x978 =>
        let x979 := IntKind.u64.wrap x977
        spec_NatOf N x979
         (fun x980 =>
          k0 x978 x980))
     | none => none
    else
     let x981 := ((a925.length : Nat) : Int)
     let x982 := (IntKind.i64.wrap (x981 - (1 : Int)))
     bif (decide (x982 < (0 : Int))) then
      none
     else
      match a925[x982.toNat]? with
      | some x983 =>
       let x984 := (IntKind.i64.wrap (x983 + (1 : Int)))
       bif (decide (x984 = (0 : Int))) then
        none
       else
        let x985 := (IntKind.i64.wrap (Int.tdiv (65536 : Int) x984))
        spec_l5Times N a924 x985
         (fun x991 =>
          spec_l5Times N a925 x985
           (fun x992 =>
            let x993 := ((x992.length : Nat) : Int)
            let x994 := ((x991.length : Nat) : Int)
            let x995 := IntKind.i64.wrap (x994 - x993)
            let x996 := (IntKind.i64.wrap (x995 + (1 : Int)))
            bif (decide ((0 : Int) ≤ x996)) then
             bif decide (x996 ≤ x996) then
              bif (decide (x996 ≤ ((8796093022208 : Nat) : Int))) then
               let x997 := (List.replicate x996.toNat (0 : Int))
               let x998 := ((x991.length : Nat) : Int)
               let x999 := IntKind.i64.wrap (x998 - x993)
               let x1000 := (IntKind.i64.wrap (x999 + (1 : Int)))
               spec_l5Top N x991 x1000
                (fun x1013 =>
                 let x1014 := ((x991.length : Nat) : Int)
                 let x1015 := IntKind.i64.wrap (x1014 - x993)
                 spec_l5Div_L0 N N x985 x993 x1015 x991 x992 x997 x1013
                  (fun x1155 x1156 x1157 =>
                   spec_l5DivSmall N x1157 x1155
                    (fun _ x1159 =>
                     spec_l5Trim N x1156
                      (fun x1160 =>
                       k0 x1160 x1159))))
              else
               none
             else
              none
            else
             none))
      | none => none)
theorem spec_l5Div.ex : ∃ f : ((α : Type) → Nat → List Int → List Int → (List Int → List Int → Option α) → Option α), f = fun α => @spec_l5Div.b α := ⟨_, rfl⟩
noncomputable def spec_l5Div {α : Type} : Nat → List Int → List Int → (List Int → List Int → Option α) → Option α := Classical.choose spec_l5Div.ex α
theorem spec_l5Div.eq : @spec_l5Div = @spec_l5Div.b := funext fun α => congrFun (Classical.choose_spec spec_l5Div.ex) α

/-- spec.l5Shift -/
noncomputable def spec_l5Shift.b {α : Type} (N : Nat) (a829 : List Int) (a830 : Int) (k0 : List Int → Option α) : Option α :=
 let x831 := (decide ((0 : Int) ≤ a830))
 bif x831 then
  spec_l5Pow2 N a830
   (fun x854 =>
    spec_l5Mul N a829 x854
     (fun x921 =>
      k0 x921))
 else
  let x922 := IntKind.i64.wrap (0 - a830)
  spec_l5Pow2 N x922
   (fun x923 =>
    spec_l5Div N a829 x923
     (fun x1161 _ =>
      k0 x1161))
theorem spec_l5Shift.ex : ∃ f : ((α : Type) → Nat → List Int → Int → (List Int → Option α) → Option α), f = fun α => @spec_l5Shift.b α := ⟨_, rfl⟩
noncomputable def spec_l5Shift {α : Type} : Nat → List Int → Int → (List Int → Option α) → Option α := Classical.choose spec_l5Shift.ex α
theorem spec_l5Shift.eq : @spec_l5Shift = @spec_l5Shift.b := funext fun α => congrFun (Classical.choose_spec spec_l5Shift.ex) α

/-- spec.l5Fits -/
noncomputable def spec_l5Fits.b {α : Type} (N : Nat) (a1167 : List Int) (k0 : List Int → Bool → Option α) : Option α :=
 let x1168 := ((a1167.length : Nat) : Int)
 let x1169 := (decide ((256 : Int) < x1168))
 bif x1169 then
  k0 [] false
 else
  k0 a1167 true
theorem spec_l5Fits.ex : ∃ f : ((α : Type) → Nat → List Int → (List Int → Bool → Option α) → Option α), f = fun α => @spec_l5Fits.b α := ⟨_, rfl⟩
noncomputable def spec_l5Fits {α : Type} : Nat → List Int → (List Int → Bool → Option α) → Option α := Classical.choose spec_l5Fits.ex α
theorem spec_l5Fits.eq : @spec_l5Fits = @spec_l5Fits.b := funext fun α => congrFun (Classical.choose_spec spec_l5Fits.ex) α

/-- spec.NatShift -/
noncomputable def spec_NatShift.b {α : Type} (N : Nat) (a802 : List Int) (a803 : Int) (k0 : List Int → Bool → Option α) : Option α :=
 spec_NatOk N a802
  (fun x824 =>
   let x825 := !x824
   bif x825 then
    k0 [] false
   else
    let x826 := (IntKind.i64.wrap (0 - (4096 : Int)))
    let x827 := decide (a803 < x826)
    bif x827 then
     k0 [] false
    else
     let x828 := (decide ((4096 : Int) < a803))
     bif x828 then
      k0 [] false
     else
      spec_l5Shift N a802 a803
       (fun x1163 =>
        spec_l5Fits N x1163
         (fun x1170 x1171 =>
          k0 x1170 x1171)))
theorem spec_NatShift.ex : ∃ f : ((α : Type) → Nat → List Int → Int → (List Int → Bool → Option α) → Option α), f = fun α => @spec_NatShift.b α := ⟨_, rfl⟩
noncomputable def spec_NatShift {α : Type} : Nat → List Int → Int → (List Int → Bool → Option α) → Option α := Classical.choose spec_NatShift.ex α
theorem spec_NatShift.eq : @spec_NatShift = @spec_NatShift.b := funext fun α => congrFun (Classical.choose_spec spec_NatShift.ex) α

noncomputable def math_bits_Len64_J1.b {α : Type} (N : Nat) (v1196 : Int) (v1197 : Int) (k0 : Int → Int → Option α) : Option α :=
 let x1198 := (decide ((4294967296 : Int) ≤ v1196))
 bif x1198 then
  let x1199 := (shrI .u64 v1196 (32 : Int))
  k0 x1199 (32 : Int)
 else
  k0 v1196 v1197
theorem math_bits_Len64_J1.ex : ∃ f : ((α : Type) → Nat → Int → Int → (Int → Int → Option α) → Option α), f = fun α => @math_bits_Len64_J1.b α := ⟨_, rfl⟩
noncomputable def math_bits_Len64_J1 {α : Type} : Nat → Int → Int → (Int → Int → Option α) → Option α := Classical.choose math_bits_Len64_J1.ex α
theorem math_bits_Len64_J1.eq : @math_bits_Len64_J1 = @math_bits_Len64_J1.b := funext fun α => congrFun (Classical.choose_spec math_bits_Len64_J1.ex) α
noncomputable def math_bits_Len64_J4.b {α : Type} (N : Nat) (v1202 : Int) (v1203 : Int) (k0 : Int → Int → Option α) : Option α :=
 let x1204 := (decide ((65536 : Int) ≤ v1202))
 bif x1204 then
  let x1205 := (shrI .u64 v1202 (16 : Int))
  let x1206 := (IntKind.i64.wrap (v1203 + (16 : Int)))
  k0 x1205 x1206
 else
  k0 v1202 v1203
theorem math_bits_Len64_J4.ex : ∃ f : ((α : Type) → Nat → Int → Int → (Int → Int → Option α) → Option α), f = fun α => @math_bits_Len64_J4.b α := ⟨_, rfl⟩
noncomputable def math_bits_Len64_J4 {α : Type} : Nat → Int → Int → (Int → Int → Option α) → Option α := Classical.choose math_bits_Len64_J4.ex α
theorem math_bits_Len64_J4.eq : @math_bits_Len64_J4 = @math_bits_Len64_J4.b := funext fun α => congrFun (Classical.choose_spec math_bits_Len64_J4.ex) α
noncomputable def math_bits_Len64_J7.b {α : Type} (N : Nat) (v1209 : Int) (v1210 : Int) (k0 : Int → Int → Option α) : Option α :=
 let x1211 := (decide ((256 : Int) ≤ v1209))
 bif x1211 then
  let x1212 := (shrI .u64 v1209 (8 : Int))
  let x1213 := (IntKind.i64.wrap (v1210 + (8 : Int)))
  k0 x1212 x1213
 else
  k0 v1209 v1210
theorem math_bits_Len64_J7.ex : ∃ f : ((α : Type) → Nat → Int → Int → (Int → Int → Option α) → Option α), f = fun α => @math_bits_Len64_J7.b α := ⟨_, rfl⟩
noncomputable def math_bits_Len64_J7 {α : Type} : Nat → Int → Int → (Int → Int → Option α) → Option α := Classical.choose math_bits_Len64_J7.ex α
theorem math_bits_Len64_J7.eq : @math_bits_Len64_J7 = @math_bits_Len64_J7.b := funext fun α => congrFun (Classical.choose_spec math_bits_Len64_J7.ex) α
/-- math/bits.Len64 -/
noncomputable def math_bits_Len64.b {α : Type} (N : Nat) (a1195 : Int) (k0 : Int → Option α) : Option α :=
 math_bits_Len64_J1 N a1195 (0 : Int)
  (fun x1200 x1201 =>
   math_bits_Len64_J4 N x1200 x1201
    (fun x1207 x1208 =>
     math_bits_Len64_J7 N x1207 x1208
      (fun x1214 x1215 =>
       let x1216 := IntKind.u8.wrap x1214
       bif (decide (x1216 < (0 : Int))) then
        none
       else
        match ((⟨#[0, 1, 2, 2, 3, 3, 3, 3, 4, 4, 4, 4, 4, 4, 4, 4, 5, 5, 5, 5, 5, 5, 5, 5, 5, 5, 5, 5, 5, 5, 5, 5, 6, 6, 6, 6, 6, 6, 6, 6, 6, 6, 6, 6, 6, 6, 6, 6, 6, 6, 6, 6, 6, 6, 6, 6, 6, 6, 6, 6, 6, 6, 6, 6, 7, 7, 7, 7, 7, 7, 7, 7, 7, 7, 7, 7, 7, 7, 7, 7, 7, 7, 7, 7, 7, 7, 7, 7, 7, 7, 7, 7, 7, 7, 7, 7, 7, 7, 7, 7, 7, 7, 7, 7, 7, 7, 7, 7, 7, 7, 7, 7, 7, 7, 7, 7, 7, 7, 7, 7, 7, 7, 7, 7, 7, 7, 7, 7, 8, 8, 8, 8, 8, 8, 8, 8, 8, 8, 8, 8, 8, 8, 8, 8, 8, 8, 8, 8, 8, 8, 8, 8, 8, 8, 8, 8, 8, 8, 8, 8, 8, 8, 8, 8, 8, 8, 8, 8, 8, 8, 8, 8, 8, 8, 8, 8, 8, 8, 8, 8, 8, 8, 8, 8, 8, 8, 8, 8, 8, 8, 8, 8, 8, 8, 8, 8, 8, 8, 8, 8, 8, 8, 8, 8, 8, 8, 8, 8, 8, 8, 8, 8, 8, 8, 8, 8, 8, 8, 8, 8, 8, 8, 8, 8, 8, 8, 8, 8, 8, 8, 8, 8, 8, 8, 8, 8, 8, 8, 8, 8, 8, 8, 8, 8, 8, 8, 8, 8, 8, 8, 8, 8, 8, 8, 8, 8]⟩ : ByteArray)[x1216.toNat]? : Option UInt8) with
        | some x1217 =>
         let x1218 := ((x1217.toNat : Nat) : Int)
         let x1219 := IntKind.i64.wrap x1218
         let x1220 := IntKind.i64.wrap (x1215 + x1219)
         k0 x1220
        | none => none)))
theorem math_bits_Len64.ex : ∃ f : ((α : Type) → Nat → Int → (Int → Option α) → Option α), f = fun α => @math_bits_Len64.b α := ⟨_, rfl⟩
noncomputable def math_bits_Len64 {α : Type} : Nat → Int → (Int → Option α) → Option α := Classical.choose math_bits_Len64.ex α
theorem math_bits_Len64.eq : @math_bits_Len64 = @math_bits_Len64.b := funext fun α => congrFun (Classical.choose_spec math_bits_Len64.ex) α

/-- math/bits.Len -/
noncomputable def math_bits_Len.b {α : Type} (N : Nat) (a1194 : Int) (k0 : Int → Option α) : Option α :=
 math_bits_Len64 N a1194
  (fun x1221 =>
   k0 x1221)
theorem math_bits_Len.ex : ∃ f : ((α : Type) → Nat → Int → (Int → Option α) → Option α), f = fun α => @math_bits_Len.b α := ⟨_, rfl⟩
noncomputable def math_bits_Len {α : Type} : Nat → Int → (Int → Option α) → Option α := Classical.choose math_bits_Len.ex α
theorem math_bits_Len.eq : @math_bits_Len = @math_bits_Len.b := funext fun α => congrFun (Classical.choose_spec math_bits_Len.ex) α

/-- impl.natBits -/
noncomputable def impl_natBits.b {α : Type} (N : Nat) (a1184 : List Int) (k0 : Int → Option α) : Option α :=
 let x1185 := ((a1184.length : Nat) : Int)
 let x1186 := (decide (x1185 = (0 : Int)))
 bif x1186 then
  k0 (0 : Int)
 else
  let x1187 := ((a1184.length : Nat) : Int)
  let x1188 := (IntKind.i64.wrap (x1187 - (1 : Int)))
  let x1189 := (IntKind.i64.wrap ((16 : Int) * x1188))
  let x1190 := ((a1184.length : Nat) : Int)
  let x1191 := (IntKind.i64.wrap (x1190 - (1 : Int)))
  bif (decide (x1191 < (0 : Int))) then
   none
  else
   match a1184[x1191.toNat]? with
   | some x1192 =>
    let x1193 := IntKind.u64.wrap x1192
    math_bits_Len N x1193
     (fun x1222 =>
      let x1223 := IntKind.i64.wrap (x1189 + x1222)
      k0 x1223)
   | none => none
theorem impl_natBits.ex : ∃ f : ((α : Type) → Nat → List Int → (Int → Option α) → Option α), f = fun α => @impl_natBits.b α := ⟨_, rfl⟩
noncomputable def impl_natBits {α : Type} : Nat → List Int → (Int → Option α) → Option α := Classical.choose impl_natBits.ex α
theorem impl_natBits.eq : @impl_natBits = @impl_natBits.b := funext fun α => congrFun (Classical.choose_spec impl_natBits.ex) α

/-- impl.NatBits -/
noncomputable def impl_NatBits.b {α : Type} (N : Nat) (a1181 : List Int) (k0 : Int → Option α) : Option α :=
 impl_NatOk N a1181
  (fun x1182 =>
   let x1183 := !x1182
   bif x1183 then
    k0 (-1 : Int)
   else
    impl_natBits N a1181
     (fun x1224 =>
      k0 x1224))
theorem impl_NatBits.ex : ∃ f : ((α : Type) → Nat → List Int → (Int → Option α) → Option α), f = fun α => @impl_NatBits.b α := ⟨_, rfl⟩
noncomputable def impl_NatBits {α : Type} : Nat → List Int → (Int → Option α) → Option α := Classical.choose impl_NatBits.ex α
theorem impl_NatBits.eq : @impl_NatBits = @impl_NatBits.b := funext fun α => congrFun (Classical.choose_spec impl_NatBits.ex) α

noncomputable def laws_pwSame_L0r {α : Type} (N : Nat) (next : List Int → List Int → Int → Option α) (k0 : Bool → Option α) (k1 : Option α) (v1260 : List Int) (v1261 : List Int) (v1262 : Int) : Option α :=
 let x1263 := ((v1260.length : Nat) : Int)
 let x1264 := decide (v1262 < x1263)
 bif x1264 then
  bif (decide (v1262 < (0 : Int))) then
   none
  else
   match v1260[v1262.toNat]? with
   | some x1265 =>
    bif (decide (v1262 < (0 : Int))) then
     none
    else
     match v1261[v1262.toNat]? with
     | some x1266 =>
      let x1267 := !(decide (x1265 = x1266))
      bif x1267 then
       k0 false
      else
       let x1268 := (IntKind.i64.wrap (v1262 + (1 : Int)))
       next v1260 v1261 x1268
     | none => none
   | none => none
 else
  k1
noncomputable def laws_pwSame_L0.b {α : Type} (N n : Nat) (v1260 : List Int) (v1261 : List Int) (v1262 : Int) (k0 : Bool → Option α) (k1 : Option α) : Option α :=
  Nat.rec (motive := fun _ => List Int → List Int → Int → Option α) (fun _ _ _ => none) (fun _ next => laws_pwSame_L0r N next k0 k1) n v1260 v1261 v1262
theorem laws_pwSame_L0.ex : ∃ f : ((α : Type) → Nat → Nat → List Int → List Int → Int → (Bool → Option α) → (Option α) → Option α), f = fun α => @laws_pwSame_L0.b α := ⟨_, rfl⟩
noncomputable def laws_pwSame_L0 {α : Type} : Nat → Nat → List Int → List Int → Int → (Bool → Option α) → (Option α) → Option α := Classical.choose laws_pwSame_L0.ex α
theorem laws_pwSame_L0.eq : @laws_pwSame_L0 = @laws_pwSame_L0.b := funext fun α => congrFun (Classical.choose_spec laws_pwSame_L0.ex) α
theorem laws_pwSame_L0.zero {α : Type} (N : Nat) (v1260 : List Int) (v1261 : List Int) (v1262 : Int) (k0 : Bool → Option α) (k1 : Option α) : laws_pwSame_L0 N 0 v1260 v1261 v1262 k0 k1 = none := by rw [laws_pwSame_L0.eq]; rfl
theorem laws_pwSame_L0.succ {α : Type} (N n : Nat) (v1260 : List Int) (v1261 : List Int) (v1262 : Int) (k0 : Bool → Option α) (k1 : Option α) : laws_pwSame_L0 N (n + 1) v1260 v1261 v1262 k0 k1 = laws_pwSame_L0r N (fun y0 y1 y2 => laws_pwSame_L0 N n y0 y1 y2 k0 k1) k0 k1 v1260 v1261 v1262 := by rw [laws_pwSame_L0.eq]; rfl
/-- laws.pwSame -/
noncomputable def laws_pwSame.b {α : Type} (N : Nat) (a1255 : List Int) (a1256 : List Int) (k0 : Bool → Option α) : Option α :=
 let x1257 := ((a1255.length : Nat) : Int)
 let x1258 := ((a1256.length : Nat) : Int)
 let x1259 := !(decide (x1257 = x1258))
 bif x1259 then
  k0 false
 else
  laws_pwSame_L0 N N a1255 a1256 (0 : Int)
   (fun x1269 =>
    k0 x1269)
   (
    k0 true)
theorem laws_pwSame.ex : ∃ f : ((α : Type) → Nat → List Int → List Int → (Bool → Option α) → Option α), f = fun α => @laws_pwSame.b α := ⟨_, rfl⟩
noncomputable def laws_pwSame {α : Type} : Nat → List Int → List Int → (Bool → Option α) → Option α := Classical.choose laws_pwSame.ex α
theorem laws_pwSame.eq : @laws_pwSame = @laws_pwSame.b := funext fun α => congrFun (Classical.choose_spec laws_pwSame.ex) α

noncomputable def impl_natMul_L2r {α : Type} (N : Nat) (next : List Int → Int → Int → Int → List Int → Int → Int → List Int → Int → Int → List Int → Option α) (k0 : List Int → Int → Int → List Int → Int → Int → List Int → Option α) (v1378 : List Int) (v1379 : Int) (v1380 : Int) (v1381 : Int) (v1382 : List Int) (v1383 : Int) (v1384 : Int) (v1385 : List Int) (v1386 : Int) (v1387 : Int) (v1388 : List Int) : Option α :=
 let x1389 := decide (v1387 < v1386)
 bif x1389 then
  bif (decide (v1387 < (0 : Int))) then
   none
  else
   match v1385[v1387.toNat]? with
   | some x1390 =>
    let x1391 := IntKind.i64.wrap (v1379 + v1387)
    bif (decide (x1391 < (0 : Int))) then
     none
    else
     bif decide (x1391.toNat < v1388.length) then
      match v1388[x1391.toNat]? with
      | some x1392 =>
       let x1393 := IntKind.i64.wrap (v1380 * x1390)
       let x1394 := IntKind.i64.wrap (x1392 + x1393)
       let x1395 := IntKind.i64.wrap (x1394 + v1381)
       let x1396 := IntKind.i64.wrap (v1379 + v1387)
       let x1397 := (bitI .and .i64 x1395 (65535 : Int))
       bif (decide (x1396 < (0 : Int))) then
        none
       else
        bif decide (x1396.toNat < v1388.length) then
         match v1388[x1396.toNat]? with
         | some x1398 =>
          let x1399 := v1388.set x1396.toNat x1397
          let x1400 := (shrI .i64 x1395 (16 : Int))
          let x1401 := (IntKind.i64.wrap (v1387 + (1 : Int)))
          next v1378 v1379 v1380 x1400 v1382 v1383 v1384 v1385 v1386 x1401 x1399
         | none => none
        else
         none
      | none => none
     else
      none
   | none => none
 else
  k0 v1378 v1379 v1381 v1382 v1383 v1384 v1388
noncomputable def impl_natMul_L2.b {α : Type} (N n : Nat) (v1378 : List Int) (v1379 : Int) (v1380 : Int) (v1381 : Int) (v1382 : List Int) (v1383 : Int) (v1384 : Int) (v1385 : List Int) (v1386 : Int) (v1387 : Int) (v1388 : List Int) (k0 : List Int → Int → Int → List Int → Int → Int → List Int → Option α) : Option α :=
  Nat.rec (motive := fun _ => List Int → Int → Int → Int → List Int → Int → Int → List Int → Int → Int → List Int → Option α) (fun _ _ _ _ _ _ _ _ _ _ _ => none) (fun _ next => impl_natMul_L2r N next k0) n v1378 v1379 v1380 v1381 v1382 v1383 v1384 v1385 v1386 v1387 v1388
theorem impl_natMul_L2.ex : ∃ f : ((α : Type) → Nat → Nat → List Int → Int → Int → Int → List Int → Int → Int → List Int → Int → Int → List Int → (List Int → Int → Int → List Int → Int → Int → List Int → Option α) → Option α), f = fun α => @impl_natMul_L2.b α := ⟨_, rfl⟩
noncomputable def impl_natMul_L2 {α : Type} : Nat → Nat → List Int → Int → Int → Int → List Int → Int → Int → List Int → Int → Int → List Int → (List Int → Int → Int → List Int → Int → Int → List Int → Option α) → Option α := Classical.choose impl_natMul_L2.ex α
theorem impl_natMul_L2.eq : @impl_natMul_L2 = @impl_natMul_L2.b := funext fun α => congrFun (Classical.choose_spec impl_natMul_L2.ex) α
theorem impl_natMul_L2.zero {α : Type} (N : Nat) (v1378 : List Int) (v1379 : Int) (v1380 : Int) (v1381 : Int) (v1382 : List Int) (v1383 : Int) (v1384 : Int) (v1385 : List Int) (v1386 : Int) (v1387 : Int) (v1388 : List Int) (k0 : List Int → Int → Int → List Int → Int → Int → List Int → Option α) : impl_natMul_L2 N 0 v1378 v1379 v1380 v1381 v1382 v1383 v1384 v1385 v1386 v1387 v1388 k0 = none := by rw [impl_natMul_L2.eq]; rfl
theorem impl_natMul_L2.succ {α : Type} (N n : Nat) (v1378 : List Int) (v1379 : Int) (v1380 : Int) (v1381 : Int) (v1382 : List Int) (v1383 : Int) (v1384 : Int) (v1385 : List Int) (v1386 : Int) (v1387 : Int) (v1388 : List Int) (k0 : List Int → Int → Int → List Int → Int → Int → List Int → Option α) : impl_natMul_L2 N (n + 1) v1378 v1379 v1380 v1381 v1382 v1383 v1384 v1385 v1386 v1387 v1388 k0 = impl_natMul_L2r N (fun y0 y1 y2 y3 y4 y5 y6 y7 y8 y9 y10 => impl_natMul_L2 N n y0 y1 y2 y3 y4 y5 y6 y7 y8 y9 y10 k0) k0 v1378 v1379 v1380 v1381 v1382 v1383 v1384 v1385 v1386 v1387 v1388 := by rw [impl_natMul_L2.eq]; rfl
noncomputable def impl_natMul_L0r {α : Type} (N : Nat) (next : List Int → List Int → Int → Int → List Int → Option α) (k0 : List Int → Option α) (v1370 : List Int) (v1371 : List Int) (v1372 : Int) (v1373 : Int) (v1374 : List Int) : Option α :=
 let x1375 := decide (v1373 < v1372)
 bif x1375 then
  bif (decide (v1373 < (0 : Int))) then
   none
  else
   match v1371[v1373.toNat]? with
   | some x1376 =>
    let x1377 := ((v1370.length : Nat) : Int)
    impl_natMul_L2 N N v1370 v1373 x1376 (0 : Int) v1371 v1372 v1373 v1370 x1377 (0 : Int) v1374
     (fun x1402 x1403 x1404 x1405 x1406 x1407 x1408 =>
      let x1409 := ((x1402.length : Nat) : Int)
      let x1410 := IntKind.i64.wrap (x1403 + x1409)
      bif (decide (x1410 < (0 : Int))) then
       none
      else
       bif decide (x1410.toNat < x1408.length) then
        match x1408[x1410.toNat]? with
        | some x1411 =>
         let x1412 := IntKind.i64.wrap (x1411 + x1404)
         bif (decide (x1410 < (0 : Int))) then
          none
         else
          bif decide (x1410.toNat < x1408.length) then
           match x1408[x1410.toNat]? with
           | some x1413 =>
            let x1414 := x1408.set x1410.toNat x1412
            let x1415 := (IntKind.i64.wrap (x1407 + (1 : Int)))
            next x1402 x1405 x1406 x1415 x1414
           | none => none
          else
           none
        | none => none
       else
        none)
   | none => none
 else
  k0 v1374
noncomputable def impl_natMul_L0.b {α : Type} (N n : Nat) (v1370 : List Int) (v1371 : List Int) (v1372 : Int) (v1373 : Int) (v1374 : List Int) (k0 : List Int → Option α) : Option α :=
  Nat.rec (motive := fun _ => List Int → List Int → Int → Int → List Int → Option α) (fun _ _ _ _ _ => none) (fun _ next => impl_natMul_L0r N next k0) n v1370 v1371 v1372 v1373 v1374
theorem impl_natMul_L0.ex : ∃ f : ((α : Type) → Nat → Nat → List Int → List Int → Int → Int → List Int → (List Int → Option α) → Option α), f = fun α => @impl_natMul_L0.b α := ⟨_, rfl⟩
noncomputable def impl_natMul_L0 {α : Type} : Nat → Nat → List Int → List Int → Int → Int → List Int → (List Int → Option α) → Option α := Classical.choose impl_natMul_L0.ex α
theorem impl_natMul_L0.eq : @impl_natMul_L0 = @impl_natMul_L0.b := funext fun α => congrFun (Classical.choose_spec impl_natMul_L0.ex) α
theorem impl_natMul_L0.zero {α : Type} (N : Nat) (v1370 : List Int) (v1371 : List Int) (v1372 : Int) (v1373 : Int) (v1374 : List Int) (k0 : List Int → Option α) : impl_natMul_L0 N 0 v1370 v1371 v1372 v1373 v1374 k0 = none := by rw [impl_natMul_L0.eq]; rfl
theorem impl_natMul_L0.succ {α : Type} (N n : Nat) (v1370 : List Int) (v1371 : List Int) (v1372 : Int) (v1373 : Int) (v1374 : List Int) (k0 : List Int → Option α) : impl_natMul_L0 N (n + 1) v1370 v1371 v1372 v1373 v1374 k0 = impl_natMul_L0r N (fun y0 y1 y2 y3 y4 => impl_natMul_L0 N n y0 y1 y2 y3 y4 k0) k0 v1370 v1371 v1372 v1373 v1374 := by rw [impl_natMul_L0.eq]; rfl
/-- impl.natMul -/
noncomputable def impl_natMul.b {α : Type} (N : Nat) (a1362 : List Int) (a1363 : List Int) (k0 : List Int → Option α) : Option α :=
 let x1364 := ((a1362.length : Nat) : Int)
 let x1365 := ((a1363.length : Nat) : Int)
 let x1366 := IntKind.i64.wrap (x1364 + x1365)
 let x1367 := (IntKind.i64.wrap (x1366 + (1 : Int)))
 bif (decide ((0 : Int) ≤ x1367)) then
  bif decide (x1367 ≤ x1367) then
   bif (decide (x1367 ≤ ((8796093022208 : Nat) : Int))) then
    let x1368 := (List.replicate x1367.toNat (0 : Int))
    let x1369 := ((a1362.length : Nat) : Int)
    impl_natMul_L0 N N a1363 a1362 x1369 (0 : Int) x1368
     (fun x1416 =>
      impl_trim N x1416
       (fun x1417 =>
        k0 x1417))
   else
    none
  else
   none
 else
  none
theorem impl_natMul.ex : ∃ f : ((α : Type) → Nat → List Int → List Int → (List Int → Option α) → Option α), f = fun α => @impl_natMul.b α := ⟨_, rfl⟩
noncomputable def impl_natMul {α : Type} : Nat → List Int → List Int → (List Int → Option α) → Option α := Classical.choose impl_natMul.ex α
theorem impl_natMul.eq : @impl_natMul = @impl_natMul.b := funext fun α => congrFun (Classical.choose_spec impl_natMul.ex) α

noncomputable def impl_natPow_L0r {α : Type} (N : Nat) (next : List Int → List Int → Int → Int → Option α) (k0 : List Int → Option α) (v1357 : List Int) (v1358 : List Int) (v1359 : Int) (v1360 : Int) : Option α :=
 let x1361 := decide (v1360 < v1359)
 bif x1361 then
  impl_natMul N v1358 v1357
   (fun x1418 =>
    let x1419 := ((x1418.length : Nat) : Int)
    let x1420 := (decide ((1024 : Int) < x1419))
    bif x1420 then
     k0 x1418
    else
     let x1421 := (IntKind.i64.wrap (v1360 + (1 : Int)))
     next v1357 x1418 v1359 x1421)
 else
  k0 v1358
noncomputable def impl_natPow_L0.b {α : Type} (N n : Nat) (v1357 : List Int) (v1358 : List Int) (v1359 : Int) (v1360 : Int) (k0 : List Int → Option α) : Option α :=
  Nat.rec (motive := fun _ => List Int → List Int → Int → Int → Option α) (fun _ _ _ _ => none) (fun _ next => impl_natPow_L0r N next k0) n v1357 v1358 v1359 v1360
theorem impl_natPow_L0.ex : ∃ f : ((α : Type) → Nat → Nat → List Int → List Int → Int → Int → (List Int → Option α) → Option α), f = fun α => @impl_natPow_L0.b α := ⟨_, rfl⟩
noncomputable def impl_natPow_L0 {α : Type} : Nat → Nat → List Int → List Int → Int → Int → (List Int → Option α) → Option α := Classical.choose impl_natPow_L0.ex α
theorem impl_natPow_L0.eq : @impl_natPow_L0 = @impl_natPow_L0.b := funext fun α => congrFun (Classical.choose_spec impl_natPow_L0.ex) α
theorem impl_natPow_L0.zero {α : Type} (N : Nat) (v1357 : List Int) (v1358 : List Int) (v1359 : Int) (v1360 : Int) (k0 : List Int → Option α) : impl_natPow_L0 N 0 v1357 v1358 v1359 v1360 k0 = none := by rw [impl_natPow_L0.eq]; rfl
theorem impl_natPow_L0.succ {α : Type} (N n : Nat) (v1357 : List Int) (v1358 : List Int) (v1359 : Int) (v1360 : Int) (k0 : List Int → Option α) : impl_natPow_L0 N (n + 1) v1357 v1358 v1359 v1360 k0 = impl_natPow_L0r N (fun y0 y1 y2 y3 => impl_natPow_L0 N n y0 y1 y2 y3 k0) k0 v1357 v1358 v1359 v1360 := by rw [impl_natPow_L0.eq]; rfl
/-- impl.natPow -/
noncomputable def impl_natPow.b {α : Type} (N : Nat) (a1354 : List Int) (a1355 : Int) (k0 : List Int → Option α) : Option α :=
 let x1356 := [(1 : Int)]
 impl_natPow_L0 N N a1354 x1356 a1355 (0 : Int)
  (fun x1422 =>
   k0 x1422)
theorem impl_natPow.ex : ∃ f : ((α : Type) → Nat → List Int → Int → (List Int → Option α) → Option α), f = fun α => @impl_natPow.b α := ⟨_, rfl⟩
noncomputable def impl_natPow {α : Type} : Nat → List Int → Int → (List Int → Option α) → Option α := Classical.choose impl_natPow.ex α
theorem impl_natPow.eq : @impl_natPow = @impl_natPow.b := funext fun α => congrFun (Classical.choose_spec impl_natPow.ex) α

/-- impl.NatPow -/
noncomputable def impl_NatPow.b {α : Type} (N : Nat) (a1280 : List Int) (a1281 : Int) (k0 : Bool → List Int → Option α) : Option α :=
 impl_NatOk N a1280
  (fun x1282 =>
   let x1283 := !x1282
   bif x1283 then
    k0 false []
   else
    impl_in N a1281 (0 : Int) (64 : Int)
     (fun x1284 =>
      let x1285 := !x1284
      bif x1285 then
       k0 false []
      else
       impl_natPow N a1280 a1281
        (fun x1423 =>
         impl_told N x1423 true
          (fun x1424 x1425 =>
           k0 x1424 x1425))))
theorem impl_NatPow.ex : ∃ f : ((α : Type) → Nat → List Int → Int → (Bool → List Int → Option α) → Option α), f = fun α => @impl_NatPow.b α := ⟨_, rfl⟩
noncomputable def impl_NatPow {α : Type} : Nat → List Int → Int → (Bool → List Int → Option α) → Option α := Classical.choose impl_NatPow.ex α
theorem impl_NatPow.eq : @impl_NatPow = @impl_NatPow.b := funext fun α => congrFun (Classical.choose_spec impl_NatPow.ex) α

/-- impl.nats$1 -/
noncomputable def impl_nats_1.b {α : Type} (N : Nat) (a1440 : List Int) (k0 : Bool → Option α) : Option α :=
 impl_NatOk N a1440
  (fun x1441 =>
   let x1442 := !x1441
   k0 x1442)
theorem impl_nats_1.ex : ∃ f : ((α : Type) → Nat → List Int → (Bool → Option α) → Option α), f = fun α => @impl_nats_1.b α := ⟨_, rfl⟩
noncomputable def impl_nats_1 {α : Type} : Nat → List Int → (Bool → Option α) → Option α := Classical.choose impl_nats_1.ex α
theorem impl_nats_1.eq : @impl_nats_1 = @impl_nats_1.b := funext fun α => congrFun (Classical.choose_spec impl_nats_1.ex) α

noncomputable def slices_IndexFunc_int_int__impl_nats_1_L0r {α : Type} (N : Nat) (next : List (List Int) → Int → Int → Option α) (k0 : Int → Option α) (k1 : Option α) (v1435 : List (List Int)) (v1436 : Int) (v1437 : Int) : Option α :=
 let x1438 := decide (v1437 < v1436)
 bif x1438 then
  bif (decide (v1437 < (0 : Int))) then
   none
  else
   match v1435[v1437.toNat]? with
   | some x1439 =>
    impl_nats_1 N x1439
     (fun x1443 =>
      bif x1443 then
       k0 v1437
      else
       let x1444 := (IntKind.i64.wrap (v1437 + (1 : Int)))
       next v1435 v1436 x1444)
   | none => none
 else
  k1
noncomputable def slices_IndexFunc_int_int__impl_nats_1_L0.b {α : Type} (N n : Nat) (v1435 : List (List Int)) (v1436 : Int) (v1437 : Int) (k0 : Int → Option α) (k1 : Option α) : Option α :=
  Nat.rec (motive := fun _ => List (List Int) → Int → Int → Option α) (fun _ _ _ => none) (fun _ next => slices_IndexFunc_int_int__impl_nats_1_L0r N next k0 k1) n v1435 v1436 v1437
theorem slices_IndexFunc_int_int__impl_nats_1_L0.ex : ∃ f : ((α : Type) → Nat → Nat → List (List Int) → Int → Int → (Int → Option α) → (Option α) → Option α), f = fun α => @slices_IndexFunc_int_int__impl_nats_1_L0.b α := ⟨_, rfl⟩
noncomputable def slices_IndexFunc_int_int__impl_nats_1_L0 {α : Type} : Nat → Nat → List (List Int) → Int → Int → (Int → Option α) → (Option α) → Option α := Classical.choose slices_IndexFunc_int_int__impl_nats_1_L0.ex α
theorem slices_IndexFunc_int_int__impl_nats_1_L0.eq : @slices_IndexFunc_int_int__impl_nats_1_L0 = @slices_IndexFunc_int_int__impl_nats_1_L0.b := funext fun α => congrFun (Classical.choose_spec slices_IndexFunc_int_int__impl_nats_1_L0.ex) α
theorem slices_IndexFunc_int_int__impl_nats_1_L0.zero {α : Type} (N : Nat) (v1435 : List (List Int)) (v1436 : Int) (v1437 : Int) (k0 : Int → Option α) (k1 : Option α) : slices_IndexFunc_int_int__impl_nats_1_L0 N 0 v1435 v1436 v1437 k0 k1 = none := by rw [slices_IndexFunc_int_int__impl_nats_1_L0.eq]; rfl
theorem slices_IndexFunc_int_int__impl_nats_1_L0.succ {α : Type} (N n : Nat) (v1435 : List (List Int)) (v1436 : Int) (v1437 : Int) (k0 : Int → Option α) (k1 : Option α) : slices_IndexFunc_int_int__impl_nats_1_L0 N (n + 1) v1435 v1436 v1437 k0 k1 = slices_IndexFunc_int_int__impl_nats_1_L0r N (fun y0 y1 y2 => slices_IndexFunc_int_int__impl_nats_1_L0 N n y0 y1 y2 k0 k1) k0 k1 v1435 v1436 v1437 := by rw [slices_IndexFunc_int_int__impl_nats_1_L0.eq]; rfl
/-- slices.IndexFunc[[][]int,[]int] -/
noncomputable def slices_IndexFunc_int_int__impl_nats_1.b {α : Type} (N : Nat) (a1433 : List (List Int)) (k0 : Int → Option α) : Option α :=
 let x1434 := ((a1433.length : Nat) : Int)
 slices_IndexFunc_int_int__impl_nats_1_L0 N N a1433 x1434 (0 : Int)
  (fun x1445 =>
   k0 x1445)
  (
   k0 (-1 : Int))
theorem slices_IndexFunc_int_int__impl_nats_1.ex : ∃ f : ((α : Type) → Nat → List (List Int) → (Int → Option α) → Option α), f = fun α => @slices_IndexFunc_int_int__impl_nats_1.b α := ⟨_, rfl⟩
noncomputable def slices_IndexFunc_int_int__impl_nats_1 {α : Type} : Nat → List (List Int) → (Int → Option α) → Option α := Classical.choose slices_IndexFunc_int_int__impl_nats_1.ex α
theorem slices_IndexFunc_int_int__impl_nats_1.eq : @slices_IndexFunc_int_int__impl_nats_1 = @slices_IndexFunc_int_int__impl_nats_1.b := funext fun α => congrFun (Classical.choose_spec slices_IndexFunc_int_int__impl_nats_1.ex) α

/-- slices.ContainsFunc[[][]int,[]int] -/
noncomputable def slices_ContainsFunc_int_int__impl_nats_1.b {α : Type} (N : Nat) (a1432 : List (List Int)) (k0 : Bool → Option α) : Option α :=
 slices_IndexFunc_int_int__impl_nats_1 N a1432
  (fun x1446 =>
   let x1447 := (decide ((0 : Int) ≤ x1446))
   k0 x1447)
theorem slices_ContainsFunc_int_int__impl_nats_1.ex : ∃ f : ((α : Type) → Nat → List (List Int) → (Bool → Option α) → Option α), f = fun α => @slices_ContainsFunc_int_int__impl_nats_1.b α := ⟨_, rfl⟩
noncomputable def slices_ContainsFunc_int_int__impl_nats_1 {α : Type} : Nat → List (List Int) → (Bool → Option α) → Option α := Classical.choose slices_ContainsFunc_int_int__impl_nats_1.ex α
theorem slices_ContainsFunc_int_int__impl_nats_1.eq : @slices_ContainsFunc_int_int__impl_nats_1 = @slices_ContainsFunc_int_int__impl_nats_1.b := funext fun α => congrFun (Classical.choose_spec slices_ContainsFunc_int_int__impl_nats_1.ex) α

/-- impl.nats -/
noncomputable def impl_nats.b {α : Type} (N : Nat) (a1431 : List (List Int)) (k0 : Bool → Option α) : Option α :=
 slices_ContainsFunc_int_int__impl_nats_1 N a1431
  (fun x1448 =>
   let x1449 := !x1448
   k0 x1449)
theorem impl_nats.ex : ∃ f : ((α : Type) → Nat → List (List Int) → (Bool → Option α) → Option α), f = fun α => @impl_nats.b α := ⟨_, rfl⟩
noncomputable def impl_nats {α : Type} : Nat → List (List Int) → (Bool → Option α) → Option α := Classical.choose impl_nats.ex α
theorem impl_nats.eq : @impl_nats = @impl_nats.b := funext fun α => congrFun (Classical.choose_spec impl_nats.ex) α

/-- impl.NatMul -/
noncomputable def impl_NatMul.b {α : Type} (N : Nat) (a1428 : List Int) (a1429 : List Int) (k0 : Bool → List Int → Option α) : Option α :=
 let x1430 := [a1428, a1429]
 impl_nats N x1430
  (fun x1450 =>
   let x1451 := !x1450
   bif x1451 then
    k0 false []
   else
    impl_natMul N a1428 a1429
     (fun x1452 =>
      impl_told N x1452 true
       (fun x1453 x1454 =>
        k0 x1453 x1454)))
theorem impl_NatMul.ex : ∃ f : ((α : Type) → Nat → List Int → List Int → (Bool → List Int → Option α) → Option α), f = fun α => @impl_NatMul.b α := ⟨_, rfl⟩
noncomputable def impl_NatMul {α : Type} : Nat → List Int → List Int → (Bool → List Int → Option α) → Option α := Classical.choose impl_NatMul.ex α
theorem impl_NatMul.eq : @impl_NatMul = @impl_NatMul.b := funext fun α => congrFun (Classical.choose_spec impl_NatMul.ex) α

/-- laws.FnNatShift -/
noncomputable def laws_FnNatShift.b {α : Type} (N : Nat) (a1 : List Int) (k0 : Bool → Option α) : Option α :=
 let x2 := ((a1.length : Nat) : Int)
 let x3 := (decide ((1048576 : Int) < x2))
 bif x3 then
  k0 true
 else
  spec_DrawNatShift N a1
   (fun x210 x211 =>
    impl_NatShift N x211 x210
     (fun x430 x431 =>
      spec_NatShift N x211 x210
       (fun _ x1173 =>
        let x1174 := !(x430 == x1173)
        bif x1174 then
         k0 false
        else
         let x1175 := !x430
         bif x1175 then
          k0 true
         else
          let x1176 := (decide (x210 < (0 : Int)))
          bif x1176 then
           let x1177 := ((x211.length : Nat) : Int)
           let x1178 := (decide (x1177 = (0 : Int)))
           bif x1178 then
            let x1179 := ((x431.length : Nat) : Int)
            let x1180 := (decide (x1179 = (0 : Int)))
            bif x1180 then
             k0 true
            else
             impl_NatBits N x431
              (fun x1225 =>
               let x1226 := (decide (x1225 = (0 : Int)))
               bif x1226 then
                impl_NatBits N x211
                 (fun x1227 =>
                  let x1228 := IntKind.i64.wrap (0 - x210)
                  let x1229 := decide (x1227 ≤ x1228)
                  bif x1229 then
                   k0 true
                  else
                   impl_NatBits N x431
                    (fun x1230 =>
                     impl_NatBits N x211
                      (fun x1231 =>
                       let x1232 := IntKind.i64.wrap (x1231 + x210)
                       let x1233 := decide (x1230 = x1232)
                       k0 x1233)))
               else
                impl_NatBits N x431
                 (fun x1234 =>
                  impl_NatBits N x211
                   (fun x1235 =>
                    let x1236 := IntKind.i64.wrap (x1235 + x210)
                    let x1237 := decide (x1234 = x1236)
                    k0 x1237)))
           else
            impl_NatBits N x431
             (fun x1238 =>
              let x1239 := (decide (x1238 = (0 : Int)))
              bif x1239 then
               impl_NatBits N x211
                (fun x1240 =>
                 let x1241 := IntKind.i64.wrap (0 - x210)
                 let x1242 := decide (x1240 ≤ x1241)
                 bif x1242 then
                  k0 true
                 else
                  impl_NatBits N x431
                   (fun x1243 =>
                    impl_NatBits N x211
                     (fun x1244 =>
                      let x1245 := IntKind.i64.wrap (x1244 + x210)
                      let x1246 := decide (x1243 = x1245)
                      k0 x1246)))
              else
               impl_NatBits N x431
                (fun x1247 =>
                 impl_NatBits N x211
                  (fun x1248 =>
                   let x1249 := IntKind.i64.wrap (x1248 + x210)
                   let x1250 := decide (x1247 = x1249)
                   k0 x1250)))
          else
           let x1251 := IntKind.i64.wrap (0 - x210)
           impl_NatShift N x431 x1251
            (fun x1252 x1253 =>
             let x1254 := !x1252
             bif x1254 then
              k0 false
             else
              laws_pwSame N x1253 x211
               (fun x1270 =>
                let x1271 := !x1270
                bif x1271 then
                 k0 false
                else
                 let x1272 := ((x211.length : Nat) : Int)
                 let x1273 := (decide ((0 : Int) < x1272))
                 bif x1273 then
                  impl_NatBits N x431
                   (fun x1274 =>
                    impl_NatBits N x211
                     (fun x1275 =>
                      let x1276 := IntKind.i64.wrap (x1275 + x210)
                      let x1277 := !(decide (x1274 = x1276))
                      bif x1277 then
                       k0 false
                      else
                       let x1278 := (decide ((64 : Int) < x210))
                       bif x1278 then
                        k0 true
                       else
                        let x1279 := [(2 : Int)]
                        impl_NatPow N x1279 x210
                         (fun x1426 x1427 =>
                          impl_NatMul N x211 x1427
                           (fun x1455 x1456 =>
                            bif x1426 then
                             bif x1455 then
                              laws_pwSame N x1456 x431
                               (fun x1457 =>
                                k0 x1457)
                             else
                              k0 false
                            else
                             k0 false))))
                 else
                  let x1458 := (decide ((64 : Int) < x210))
                  bif x1458 then
                   k0 true
                  else
                   let x1459 := [(2 : Int)]
                   impl_NatPow N x1459 x210
                    (fun x1460 x1461 =>
                     impl_NatMul N x211 x1461
                      (fun x1462 x1463 =>
                       bif x1460 then
                        bif x1462 then
                         laws_pwSame N x1463 x431
                          (fun x1464 =>
                           k0 x1464)
                        else
                         k0 false
                       else
                        k0 false)))))))
theorem laws_FnNatShift.ex : ∃ f : ((α : Type) → Nat → List Int → (Bool → Option α) → Option α), f = fun α => @laws_FnNatShift.b α := ⟨_, rfl⟩
noncomputable def laws_FnNatShift {α : Type} : Nat → List Int → (Bool → Option α) → Option α := Classical.choose laws_FnNatShift.ex α
theorem laws_FnNatShift.eq : @laws_FnNatShift = @laws_FnNatShift.b := funext fun α => congrFun (Classical.choose_spec laws_FnNatShift.ex) α

end
end Go.Proofs.YtgabephijgjogaaAm
