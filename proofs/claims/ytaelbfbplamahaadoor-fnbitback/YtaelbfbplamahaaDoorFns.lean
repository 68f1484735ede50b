/-
  The functions that the program computes, as the abstract machine tells them. Printed by amp.py.
-/
import Derived.Test.YtaelbfbplamahaaDoorAmc
namespace Go.Proofs.YtaelbfbplamahaaDoorAm
open Go
noncomputable section
set_option linter.unusedVariables false
set_option linter.unusedSimpArgs false

noncomputable def spec_l31Open_J1.b {α : Type} (N : Nat) (v9 : List Int) (k0 : List Int → Option α) : Option α :=
 let x10 := ((v9.length : Nat) : Int)
 let x11 := (decide ((2000 : Int) < x10))
 bif x11 then
  bif (decide ((2000 : Int) ≤ ((v9.length : Nat) : Int))) then
   let x12 := v9.take 2000
   k0 x12
  else
   none
 else
  k0 v9
theorem spec_l31Open_J1.ex : ∃ f : ((α : Type) → Nat → List Int → (List Int → Option α) → Option α), f = fun α => @spec_l31Open_J1.b α := ⟨_, rfl⟩
noncomputable def spec_l31Open_J1 {α : Type} : Nat → List Int → (List Int → Option α) → Option α := Classical.choose spec_l31Open_J1.ex α
theorem spec_l31Open_J1.eq : @spec_l31Open_J1 = @spec_l31Open_J1.b := funext fun α => congrFun (Classical.choose_spec spec_l31Open_J1.ex) α
/-- spec.l31Open -/
noncomputable def spec_l31Open.b {α : Type} (N : Nat) (a8 : List Int) (k0 : ((List Int) × Int × Unit) → Option α) : Option α :=
 spec_l31Open_J1 N a8
  (fun x13 =>
   k0 (x13, ((0 : Int), ())))
theorem spec_l31Open.ex : ∃ f : ((α : Type) → Nat → List Int → (((List Int) × Int × Unit) → Option α) → Option α), f = fun α => @spec_l31Open.b α := ⟨_, rfl⟩
noncomputable def spec_l31Open {α : Type} : Nat → List Int → (((List Int) × Int × Unit) → Option α) → Option α := Classical.choose spec_l31Open.ex α
theorem spec_l31Open.eq : @spec_l31Open = @spec_l31Open.b := funext fun α => congrFun (Classical.choose_spec spec_l31Open.ex) α

/-- (*spec.l31Rd).pick -/
noncomputable def spec_l31Rd_pick.b {α : Type} (N : Nat) (a16 : Int) (a17 : (List Int) × Int × Unit) (k0 : Int → ((List Int) × Int × Unit) → Option α) : Option α :=
 let x18 := (IntKind.i64.wrap (a17.2.1 + (1 : Int)))
 let x19 := (decide (a16 < (1 : Int)))
 bif x19 then
  k0 (0 : Int) (a17.1, (x18, ()))
 else
  let x20 := ((a17.1.length : Nat) : Int)
  let x21 := (decide (x20 = (0 : Int)))
  bif x21 then
   k0 (0 : Int) (a17.1, (x18, ()))
  else
   let x22 := (IntKind.i64.wrap (x18 - (1 : Int)))
   let x23 := ((a17.1.length : Nat) : Int)
   let x24 := decide (x22 < x23)
   bif x24 then
    bif (decide (x22 < (0 : Int))) then
     none
    else
     match a17.1[x22.toNat]? with
     | some x25 =>
      let x26 := IntKind.i64.wrap x25
      bif (decide (a16 = (0 : Int))) then
       none
      else
       let x27 := Int.tmod x26 a16
       k0 x27 (a17.1, (x18, ()))
     | none => none
   else
    let x28 := ((a17.1.length : Nat) : Int)
    bif (decide (x28 = (0 : Int))) then
     none
    else
     let x29 := Int.tmod x22 x28
     bif (decide (x29 < (0 : Int))) then
      none
     else
      match a17.1[x29.toNat]? with
      | some x30 =>
       let x31 := IntKind.i64.wrap x30
       let x32 := (IntKind.i64.wrap (x31 * (131 : Int)))
       let x33 := (IntKind.i64.wrap (x22 * (7 : Int)))
       let x34 := (IntKind.i64.wrap (x33 + (3 : Int)))
       let x35 := ((a17.1.length : Nat) : Int)
       bif (decide (x35 = (0 : Int))) then
        none
       else
        let x36 := Int.tmod x34 x35
        bif (decide (x36 < (0 : Int))) then
         none
        else
         match a17.1[x36.toNat]? with
         | some x37 =>
          let x38 := IntKind.i64.wrap x37
          let x39 := (IntKind.i64.wrap (x38 * (1117 : Int)))
          let x40 := IntKind.i64.wrap (x32 + x39)
          let x41 := (IntKind.i64.wrap (x22 * (29 : Int)))
          let x42 := IntKind.i64.wrap (x40 + x41)
          let x43 := ((a17.1.length : Nat) : Int)
          bif (decide (x43 = (0 : Int))) then
           none
          else
           let x44 := IntKind.i64.wrap (Int.tdiv x22 x43)
           let x45 := (IntKind.i64.wrap (x44 * (53 : Int)))
           let x46 := IntKind.i64.wrap (x42 + x45)
           let x47 := (IntKind.i64.wrap (Int.tdiv x46 (64 : Int)))
           let x48 := bitI .xor .i64 x46 x47
           bif (decide (a16 = (0 : Int))) then
            none
           else
            let x49 := Int.tmod x48 a16
            k0 x49 (a17.1, (x18, ()))
         | none => none
      | none => none
theorem spec_l31Rd_pick.ex : ∃ f : ((α : Type) → Nat → Int → ((List Int) × Int × Unit) → (Int → ((List Int) × Int × Unit) → Option α) → Option α), f = fun α => @spec_l31Rd_pick.b α := ⟨_, rfl⟩
noncomputable def spec_l31Rd_pick {α : Type} : Nat → Int → ((List Int) × Int × Unit) → (Int → ((List Int) × Int × Unit) → Option α) → Option α := Classical.choose spec_l31Rd_pick.ex α
theorem spec_l31Rd_pick.eq : @spec_l31Rd_pick = @spec_l31Rd_pick.b := funext fun α => congrFun (Classical.choose_spec spec_l31Rd_pick.ex) α

/-- (*spec.l31Rd).width -/
noncomputable def spec_l31Rd_width.b {α : Type} (N : Nat) (a15 : (List Int) × Int × Unit) (k0 : Int → ((List Int) × Int × Unit) → Option α) : Option α :=
 spec_l31Rd_pick N (32 : Int) a15
  (fun x50 x51 =>
   let x52 := (decide (x50 < (15 : Int)))
   bif x52 then
    k0 (32 : Int) x51
   else
    let x53 := (decide (x50 < (30 : Int)))
    bif x53 then
     k0 (64 : Int) x51
    else
     let x54 := [(0 : Int), (63 : Int), (16 : Int), (-64 : Int)]
     spec_l31Rd_pick N (4 : Int) x51
      (fun x55 x56 =>
       bif (decide (x55 < (0 : Int))) then
        none
       else
        bif decide (x55.toNat < x54.length) then
         match x54[x55.toNat]? with
         | some x57 =>
          k0 x57 x56
         | none => none
        else
         none))
theorem spec_l31Rd_width.ex : ∃ f : ((α : Type) → Nat → ((List Int) × Int × Unit) → (Int → ((List Int) × Int × Unit) → Option α) → Option α), f = fun α => @spec_l31Rd_width.b α := ⟨_, rfl⟩
noncomputable def spec_l31Rd_width {α : Type} : Nat → ((List Int) × Int × Unit) → (Int → ((List Int) × Int × Unit) → Option α) → Option α := Classical.choose spec_l31Rd_width.ex α
theorem spec_l31Rd_width.eq : @spec_l31Rd_width = @spec_l31Rd_width.b := funext fun α => congrFun (Classical.choose_spec spec_l31Rd_width.ex) α

/-- spec.BitTop -/
noncomputable def spec_BitTop.b {α : Type} (N : Nat) (a62 : Int) (k0 : Int → Option α) : Option α :=
 let x63 := (decide (a62 = (32 : Int)))
 bif x63 then
  k0 (2139095040 : Int)
 else
  let x64 := (decide (a62 = (64 : Int)))
  bif x64 then
   k0 (9218868437227405312 : Int)
  else
   k0 (0 : Int)
theorem spec_BitTop.ex : ∃ f : ((α : Type) → Nat → Int → (Int → Option α) → Option α), f = fun α => @spec_BitTop.b α := ⟨_, rfl⟩
noncomputable def spec_BitTop {α : Type} : Nat → Int → (Int → Option α) → Option α := Classical.choose spec_BitTop.ex α
theorem spec_BitTop.eq : @spec_BitTop = @spec_BitTop.b := funext fun α => congrFun (Classical.choose_spec spec_BitTop.ex) α

noncomputable def spec_l31Rd_big_L0r {α : Type} (N : Nat) (next : Int → Int → ((List Int) × Int × Unit) → Option α) (k0 : Int → ((List Int) × Int × Unit) → Option α) (v123 : Int) (v124 : Int) (v125 : (List Int) × Int × Unit) : Option α :=
 let x126 := (decide (v124 < (8 : Int)))
 bif x126 then
  let x127 := (IntKind.u64.wrap (v123 * (256 : Int)))
  spec_l31Rd_pick N (256 : Int) v125
   (fun x128 x129 =>
    let x130 := IntKind.u64.wrap x128
    let x131 := IntKind.u64.wrap (x127 + x130)
    let x132 := (IntKind.i64.wrap (v124 + (1 : Int)))
    next x131 x132 x129)
 else
  k0 v123 v125
noncomputable def spec_l31Rd_big_L0.b {α : Type} (N n : Nat) (v123 : Int) (v124 : Int) (v125 : (List Int) × Int × Unit) (k0 : Int → ((List Int) × Int × Unit) → Option α) : Option α :=
  Nat.rec (motive := fun _ => Int → Int → ((List Int) × Int × Unit) → Option α) (fun _ _ _ => none) (fun _ next => spec_l31Rd_big_L0r N next k0) n v123 v124 v125
theorem spec_l31Rd_big_L0.ex : ∃ f : ((α : Type) → Nat → Nat → Int → Int → ((List Int) × Int × Unit) → (Int → ((List Int) × Int × Unit) → Option α) → Option α), f = fun α => @spec_l31Rd_big_L0.b α := ⟨_, rfl⟩
noncomputable def spec_l31Rd_big_L0 {α : Type} : Nat → Nat → Int → Int → ((List Int) × Int × Unit) → (Int → ((List Int) × Int × Unit) → Option α) → Option α := Classical.choose spec_l31Rd_big_L0.ex α
theorem spec_l31Rd_big_L0.eq : @spec_l31Rd_big_L0 = @spec_l31Rd_big_L0.b := funext fun α => congrFun (Classical.choose_spec spec_l31Rd_big_L0.ex) α
theorem spec_l31Rd_big_L0.zero {α : Type} (N : Nat) (v123 : Int) (v124 : Int) (v125 : (List Int) × Int × Unit) (k0 : Int → ((List Int) × Int × Unit) → Option α) : spec_l31Rd_big_L0 N 0 v123 v124 v125 k0 = none := by rw [spec_l31Rd_big_L0.eq]; rfl
theorem spec_l31Rd_big_L0.succ {α : Type} (N n : Nat) (v123 : Int) (v124 : Int) (v125 : (List Int) × Int × Unit) (k0 : Int → ((List Int) × Int × Unit) → Option α) : spec_l31Rd_big_L0 N (n + 1) v123 v124 v125 k0 = spec_l31Rd_big_L0r N (fun y0 y1 y2 => spec_l31Rd_big_L0 N n y0 y1 y2 k0) k0 v123 v124 v125 := by rw [spec_l31Rd_big_L0.eq]; rfl
/-- (*spec.l31Rd).big -/
noncomputable def spec_l31Rd_big.b {α : Type} (N : Nat) (a122 : (List Int) × Int × Unit) (k0 : Int → ((List Int) × Int × Unit) → Option α) : Option α :=
 spec_l31Rd_big_L0 N N (0 : Int) (0 : Int) a122
  (fun x133 x134 =>
   k0 x133 x134)
theorem spec_l31Rd_big.ex : ∃ f : ((α : Type) → Nat → ((List Int) × Int × Unit) → (Int → ((List Int) × Int × Unit) → Option α) → Option α), f = fun α => @spec_l31Rd_big.b α := ⟨_, rfl⟩
noncomputable def spec_l31Rd_big {α : Type} : Nat → ((List Int) × Int × Unit) → (Int → ((List Int) × Int × Unit) → Option α) → Option α := Classical.choose spec_l31Rd_big.ex α
theorem spec_l31Rd_big.eq : @spec_l31Rd_big = @spec_l31Rd_big.b := funext fun α => congrFun (Classical.choose_spec spec_l31Rd_big.ex) α

noncomputable def spec_l31Rd_ord_J11.b {α : Type} (N : Nat) (v83 : Int) (v84 : Int) (v85 : Int) (v86 : (List Int) × Int × Unit) (k0 : Int → Int → Int → Bool → ((List Int) × Int × Unit) → Option α) : Option α :=
 let x87 := (decide (v85 = (2 : Int)))
 bif x87 then
  k0 v83 v84 v85 x87 v86
 else
  let x88 := (decide (v85 = (3 : Int)))
  k0 v83 v84 v85 x88 v86
theorem spec_l31Rd_ord_J11.ex : ∃ f : ((α : Type) → Nat → Int → Int → Int → ((List Int) × Int × Unit) → (Int → Int → Int → Bool → ((List Int) × Int × Unit) → Option α) → Option α), f = fun α => @spec_l31Rd_ord_J11.b α := ⟨_, rfl⟩
noncomputable def spec_l31Rd_ord_J11 {α : Type} : Nat → Int → Int → Int → ((List Int) × Int × Unit) → (Int → Int → Int → Bool → ((List Int) × Int × Unit) → Option α) → Option α := Classical.choose spec_l31Rd_ord_J11.ex α
theorem spec_l31Rd_ord_J11.eq : @spec_l31Rd_ord_J11 = @spec_l31Rd_ord_J11.b := funext fun α => congrFun (Classical.choose_spec spec_l31Rd_ord_J11.ex) α
noncomputable def spec_l31Rd_ord_J14.b {α : Type} (N : Nat) (v101 : Int) (v102 : Int) (v103 : Int) (v104 : (List Int) × Int × Unit) (k0 : Int → Int → ((List Int) × Int × Unit) → Option α) : Option α :=
 let x105 := (decide (v101 = (32 : Int)))
 bif x105 then
  spec_l31Rd_pick N (256 : Int) v104
   (fun x106 x107 =>
    let x108 := (shlI .i64 x106 (23 : Int))
    spec_l31Rd_pick N (4 : Int) x107
     (fun x109 x110 =>
      let x111 := IntKind.i64.wrap (x108 + x109)
      let x112 := (IntKind.i64.wrap (x111 - (1 : Int)))
      k0 v102 x112 x110))
 else
  k0 v102 v103 v104
theorem spec_l31Rd_ord_J14.ex : ∃ f : ((α : Type) → Nat → Int → Int → Int → ((List Int) × Int × Unit) → (Int → Int → ((List Int) × Int × Unit) → Option α) → Option α), f = fun α => @spec_l31Rd_ord_J14.b α := ⟨_, rfl⟩
noncomputable def spec_l31Rd_ord_J14 {α : Type} : Nat → Int → Int → Int → ((List Int) × Int × Unit) → (Int → Int → ((List Int) × Int × Unit) → Option α) → Option α := Classical.choose spec_l31Rd_ord_J14.ex α
theorem spec_l31Rd_ord_J14.eq : @spec_l31Rd_ord_J14 = @spec_l31Rd_ord_J14.b := funext fun α => congrFun (Classical.choose_spec spec_l31Rd_ord_J14.ex) α
noncomputable def spec_l31Rd_ord_J5.b {α : Type} (N : Nat) (v139 : Int) (v140 : Int) (v141 : (List Int) × Int × Unit) (k0 : Int → Int → ((List Int) × Int × Unit) → Option α) : Option α :=
 let x142 := (decide ((0 : Int) < v139))
 bif x142 then
  let x143 := (IntKind.i64.wrap (v139 + (1 : Int)))
  bif (decide (x143 = (0 : Int))) then
   none
  else
   let x144 := Int.tmod v140 x143
   k0 v139 x144 v141
 else
  k0 v139 v140 v141
theorem spec_l31Rd_ord_J5.ex : ∃ f : ((α : Type) → Nat → Int → Int → ((List Int) × Int × Unit) → (Int → Int → ((List Int) × Int × Unit) → Option α) → Option α), f = fun α => @spec_l31Rd_ord_J5.b α := ⟨_, rfl⟩
noncomputable def spec_l31Rd_ord_J5 {α : Type} : Nat → Int → Int → ((List Int) × Int × Unit) → (Int → Int → ((List Int) × Int × Unit) → Option α) → Option α := Classical.choose spec_l31Rd_ord_J5.ex α
theorem spec_l31Rd_ord_J5.eq : @spec_l31Rd_ord_J5 = @spec_l31Rd_ord_J5.b := funext fun α => congrFun (Classical.choose_spec spec_l31Rd_ord_J5.ex) α
noncomputable def spec_l31Rd_ord_J16.b {α : Type} (N : Nat) (v116 : Int) (v117 : Int) (v118 : (List Int) × Int × Unit) (k0 : Int → Int → ((List Int) × Int × Unit) → Option α) : Option α :=
 let x119 := (decide (v117 = (4 : Int)))
 bif x119 then
  spec_l31Rd_pick N (1048576 : Int) v118
   (fun x120 x121 =>
    k0 v116 x120 x121)
 else
  spec_l31Rd_big N v118
   (fun x135 x136 =>
    let x137 := (shrI .u64 x135 (1 : Int))
    let x138 := IntKind.i64.wrap x137
    spec_l31Rd_ord_J5 N v116 x138 x136
     (fun x145 x146 x147 =>
      k0 x145 x146 x147))
theorem spec_l31Rd_ord_J16.ex : ∃ f : ((α : Type) → Nat → Int → Int → ((List Int) × Int × Unit) → (Int → Int → ((List Int) × Int × Unit) → Option α) → Option α), f = fun α => @spec_l31Rd_ord_J16.b α := ⟨_, rfl⟩
noncomputable def spec_l31Rd_ord_J16 {α : Type} : Nat → Int → Int → ((List Int) × Int × Unit) → (Int → Int → ((List Int) × Int × Unit) → Option α) → Option α := Classical.choose spec_l31Rd_ord_J16.ex α
theorem spec_l31Rd_ord_J16.eq : @spec_l31Rd_ord_J16 = @spec_l31Rd_ord_J16.b := funext fun α => congrFun (Classical.choose_spec spec_l31Rd_ord_J16.ex) α
noncomputable def spec_l31Rd_ord_J9.b {α : Type} (N : Nat) (v75 : Int) (v76 : Int) (v77 : Int) (v78 : (List Int) × Int × Unit) (k0 : Int → Int → ((List Int) × Int × Unit) → Option α) : Option α :=
 let x79 := (decide (v77 = (1 : Int)))
 bif x79 then
  spec_l31Rd_pick N (6 : Int) v78
   (fun x80 x81 =>
    let x82 := IntKind.i64.wrap (v76 - x80)
    k0 v76 x82 x81)
 else
  spec_l31Rd_ord_J11 N v75 v76 v77 v78
   (fun x89 x90 x91 x92 x93 =>
    bif x92 then
     spec_l31Rd_pick N (2048 : Int) x93
      (fun x94 x95 =>
       let x96 := (shlI .i64 x94 (52 : Int))
       spec_l31Rd_pick N (4 : Int) x95
        (fun x97 x98 =>
         let x99 := IntKind.i64.wrap (x96 + x97)
         let x100 := (IntKind.i64.wrap (x99 - (1 : Int)))
         spec_l31Rd_ord_J14 N x89 x90 x100 x98
          (fun x113 x114 x115 =>
           k0 x113 x114 x115)))
    else
     spec_l31Rd_ord_J16 N x90 x91 x93
      (fun x148 x149 x150 =>
       k0 x148 x149 x150))
theorem spec_l31Rd_ord_J9.ex : ∃ f : ((α : Type) → Nat → Int → Int → Int → ((List Int) × Int × Unit) → (Int → Int → ((List Int) × Int × Unit) → Option α) → Option α), f = fun α => @spec_l31Rd_ord_J9.b α := ⟨_, rfl⟩
noncomputable def spec_l31Rd_ord_J9 {α : Type} : Nat → Int → Int → Int → ((List Int) × Int × Unit) → (Int → Int → ((List Int) × Int × Unit) → Option α) → Option α := Classical.choose spec_l31Rd_ord_J9.ex α
theorem spec_l31Rd_ord_J9.eq : @spec_l31Rd_ord_J9 = @spec_l31Rd_ord_J9.b := funext fun α => congrFun (Classical.choose_spec spec_l31Rd_ord_J9.ex) α
noncomputable def spec_l31Rd_ord_J7.b {α : Type} (N : Nat) (v68 : Int) (v69 : Int) (v70 : Int) (v71 : (List Int) × Int × Unit) (k0 : Int → Int → ((List Int) × Int × Unit) → Option α) : Option α :=
 let x72 := (decide (v70 = (0 : Int)))
 bif x72 then
  spec_l31Rd_pick N (6 : Int) v71
   (fun x73 x74 =>
    k0 v69 x73 x74)
 else
  spec_l31Rd_ord_J9 N v68 v69 v70 v71
   (fun x151 x152 x153 =>
    k0 x151 x152 x153)
theorem spec_l31Rd_ord_J7.ex : ∃ f : ((α : Type) → Nat → Int → Int → Int → ((List Int) × Int × Unit) → (Int → Int → ((List Int) × Int × Unit) → Option α) → Option α), f = fun α => @spec_l31Rd_ord_J7.b α := ⟨_, rfl⟩
noncomputable def spec_l31Rd_ord_J7 {α : Type} : Nat → Int → Int → Int → ((List Int) × Int × Unit) → (Int → Int → ((List Int) × Int × Unit) → Option α) → Option α := Classical.choose spec_l31Rd_ord_J7.ex α
theorem spec_l31Rd_ord_J7.eq : @spec_l31Rd_ord_J7 = @spec_l31Rd_ord_J7.b := funext fun α => congrFun (Classical.choose_spec spec_l31Rd_ord_J7.ex) α
noncomputable def spec_l31Rd_ord_J20.b {α : Type} (N : Nat) (v167 : Int) (v168 : Int) (v169 : (List Int) × Int × Unit) (k0 : Int → ((List Int) × Int × Unit) → Option α) : Option α :=
 let x170 := decide (v167 < v168)
 bif x170 then
  k0 v167 v169
 else
  k0 v168 v169
theorem spec_l31Rd_ord_J20.ex : ∃ f : ((α : Type) → Nat → Int → Int → ((List Int) × Int × Unit) → (Int → ((List Int) × Int × Unit) → Option α) → Option α), f = fun α => @spec_l31Rd_ord_J20.b α := ⟨_, rfl⟩
noncomputable def spec_l31Rd_ord_J20 {α : Type} : Nat → Int → Int → ((List Int) × Int × Unit) → (Int → ((List Int) × Int × Unit) → Option α) → Option α := Classical.choose spec_l31Rd_ord_J20.ex α
theorem spec_l31Rd_ord_J20.eq : @spec_l31Rd_ord_J20 = @spec_l31Rd_ord_J20.b := funext fun α => congrFun (Classical.choose_spec spec_l31Rd_ord_J20.ex) α
noncomputable def spec_l31Rd_ord_J18.b {α : Type} (N : Nat) (v157 : Int) (v158 : Int) (v159 : (List Int) × Int × Unit) (k0 : Int → ((List Int) × Int × Unit) → Option α) : Option α :=
 spec_l31Rd_pick N (40 : Int) v159
  (fun x160 x161 =>
   let x162 := (decide (x160 = (0 : Int)))
   bif x162 then
    let x163 := (IntKind.i64.wrap (v157 + (1 : Int)))
    spec_l31Rd_pick N (3 : Int) x161
     (fun x164 x165 =>
      let x166 := IntKind.i64.wrap (x163 + x164)
      k0 x166 x165)
   else
    spec_l31Rd_ord_J20 N v157 v158 x161
     (fun x171 x172 =>
      k0 x171 x172))
theorem spec_l31Rd_ord_J18.ex : ∃ f : ((α : Type) → Nat → Int → Int → ((List Int) × Int × Unit) → (Int → ((List Int) × Int × Unit) → Option α) → Option α), f = fun α => @spec_l31Rd_ord_J18.b α := ⟨_, rfl⟩
noncomputable def spec_l31Rd_ord_J18 {α : Type} : Nat → Int → Int → ((List Int) × Int × Unit) → (Int → ((List Int) × Int × Unit) → Option α) → Option α := Classical.choose spec_l31Rd_ord_J18.ex α
theorem spec_l31Rd_ord_J18.eq : @spec_l31Rd_ord_J18 = @spec_l31Rd_ord_J18.b := funext fun α => congrFun (Classical.choose_spec spec_l31Rd_ord_J18.ex) α
/-- (*spec.l31Rd).ord -/
noncomputable def spec_l31Rd_ord.b {α : Type} (N : Nat) (a60 : Int) (a61 : (List Int) × Int × Unit) (k0 : Int → ((List Int) × Int × Unit) → Option α) : Option α :=
 spec_BitTop N a60
  (fun x65 =>
   spec_l31Rd_pick N (10 : Int) a61
    (fun x66 x67 =>
     spec_l31Rd_ord_J7 N a60 x65 x66 x67
      (fun x154 x155 x156 =>
       spec_l31Rd_ord_J18 N x154 x155 x156
        (fun x173 x174 =>
         spec_l31Rd_pick N (2 : Int) x174
          (fun x175 x176 =>
           let x177 := (decide (x175 = (0 : Int)))
           bif x177 then
            let x178 := IntKind.i64.wrap (0 - x173)
            k0 x178 x176
           else
            k0 x173 x176)))))
theorem spec_l31Rd_ord.ex : ∃ f : ((α : Type) → Nat → Int → ((List Int) × Int × Unit) → (Int → ((List Int) × Int × Unit) → Option α) → Option α), f = fun α => @spec_l31Rd_ord.b α := ⟨_, rfl⟩
noncomputable def spec_l31Rd_ord {α : Type} : Nat → Int → ((List Int) × Int × Unit) → (Int → ((List Int) × Int × Unit) → Option α) → Option α := Classical.choose spec_l31Rd_ord.ex α
theorem spec_l31Rd_ord.eq : @spec_l31Rd_ord = @spec_l31Rd_ord.b := funext fun α => congrFun (Classical.choose_spec spec_l31Rd_ord.ex) α

/-- spec.l1Width -/
noncomputable def spec_l1Width.b {α : Type} (N : Nat) (a185 : Int) (k0 : Bool → Option α) : Option α :=
 let x186 := (decide (a185 = (32 : Int)))
 bif x186 then
  k0 true
 else
  let x187 := (decide (a185 = (64 : Int)))
  k0 x187
theorem spec_l1Width.ex : ∃ f : ((α : Type) → Nat → Int → (Bool → Option α) → Option α), f = fun α => @spec_l1Width.b α := ⟨_, rfl⟩
noncomputable def spec_l1Width {α : Type} : Nat → Int → (Bool → Option α) → Option α := Classical.choose spec_l1Width.ex α
theorem spec_l1Width.eq : @spec_l1Width = @spec_l1Width.b := funext fun α => congrFun (Classical.choose_spec spec_l1Width.ex) α

/-- spec.BitOk -/
noncomputable def spec_BitOk.b {α : Type} (N : Nat) (a183 : Int) (a184 : Int) (k0 : Bool → Option α) : Option α :=
 spec_l1Width N a183
  (fun x188 =>
   bif x188 then
    spec_BitTop N a183
     (fun x189 =>
      let x190 := IntKind.i64.wrap (0 - x189)
      let x191 := decide (x190 ≤ a184)
      bif x191 then
       spec_BitTop N a183
        (fun x192 =>
         let x193 := decide (a184 ≤ x192)
         k0 x193)
      else
       k0 false)
   else
    k0 false)
theorem spec_BitOk.ex : ∃ f : ((α : Type) → Nat → Int → Int → (Bool → Option α) → Option α), f = fun α => @spec_BitOk.b α := ⟨_, rfl⟩
noncomputable def spec_BitOk {α : Type} : Nat → Int → Int → (Bool → Option α) → Option α := Classical.choose spec_BitOk.ex α
theorem spec_BitOk.eq : @spec_BitOk = @spec_BitOk.b := funext fun α => congrFun (Classical.choose_spec spec_BitOk.ex) α

/-- spec.BitBits -/
noncomputable def spec_BitBits.b {α : Type} (N : Nat) (a181 : Int) (a182 : Int) (k0 : Int → Option α) : Option α :=
 spec_BitOk N a181 a182
  (fun x194 =>
   let x195 := !x194
   bif x195 then
    k0 (0 : Int)
   else
    let x196 := (decide (a182 < (0 : Int)))
    bif x196 then
     let x197 := (IntKind.i64.wrap (a181 - (1 : Int)))
     let x198 := IntKind.u64.wrap x197
     bif (decide (x198 < (0 : Int))) then
      none
     else
      let x199 := (shlI .u64 (1 : Int) x198)
      let x200 := IntKind.i64.wrap (0 - a182)
      let x201 := IntKind.u64.wrap x200
      let x202 := IntKind.u64.wrap (x199 + x201)
      k0 x202
    else
     let x203 := IntKind.u64.wrap a182
     k0 x203)
theorem spec_BitBits.ex : ∃ f : ((α : Type) → Nat → Int → Int → (Int → Option α) → Option α), f = fun α => @spec_BitBits.b α := ⟨_, rfl⟩
noncomputable def spec_BitBits {α : Type} : Nat → Int → Int → (Int → Option α) → Option α := Classical.choose spec_BitBits.ex α
theorem spec_BitBits.eq : @spec_BitBits = @spec_BitBits.b := funext fun α => congrFun (Classical.choose_spec spec_BitBits.ex) α

noncomputable def spec_DrawBitOrd_J12.b {α : Type} (N : Nat) (v236 : Int) (v237 : Int) (v238 : (List Int) × Int × Unit) (k0 : Int → Int → Option α) : Option α :=
 spec_l31Rd_pick N (4 : Int) v238
  (fun x239 x240 =>
   let x241 := (decide (x239 = (0 : Int)))
   bif x241 then
    spec_l31Rd_pick N (64 : Int) x240
     (fun x242 _ =>
      let x244 := IntKind.u64.wrap x242
      bif (decide (x244 < (0 : Int))) then
       none
      else
       let x245 := (shlI .u64 (1 : Int) x244)
       k0 v236 x245)
   else
    k0 v236 v237)
theorem spec_DrawBitOrd_J12.ex : ∃ f : ((α : Type) → Nat → Int → Int → ((List Int) × Int × Unit) → (Int → Int → Option α) → Option α), f = fun α => @spec_DrawBitOrd_J12.b α := ⟨_, rfl⟩
noncomputable def spec_DrawBitOrd_J12 {α : Type} : Nat → Int → Int → ((List Int) × Int × Unit) → (Int → Int → Option α) → Option α := Classical.choose spec_DrawBitOrd_J12.ex α
theorem spec_DrawBitOrd_J12.eq : @spec_DrawBitOrd_J12 = @spec_DrawBitOrd_J12.b := funext fun α => congrFun (Classical.choose_spec spec_DrawBitOrd_J12.ex) α
noncomputable def spec_DrawBitOrd_J11.b {α : Type} (N : Nat) (v231 : Int) (v232 : Int) (v233 : Int) (v234 : (List Int) × Int × Unit) (k0 : Int → Int → Option α) : Option α :=
 let x235 := (decide (v233 = (3 : Int)))
 bif x235 then
  spec_DrawBitOrd_J12 N v231 v232 v234
   (fun x246 x247 =>
    k0 x246 x247)
 else
  k0 v231 v232
theorem spec_DrawBitOrd_J11.ex : ∃ f : ((α : Type) → Nat → Int → Int → Int → ((List Int) × Int × Unit) → (Int → Int → Option α) → Option α), f = fun α => @spec_DrawBitOrd_J11.b α := ⟨_, rfl⟩
noncomputable def spec_DrawBitOrd_J11 {α : Type} : Nat → Int → Int → Int → ((List Int) × Int × Unit) → (Int → Int → Option α) → Option α := Classical.choose spec_DrawBitOrd_J11.ex α
theorem spec_DrawBitOrd_J11.eq : @spec_DrawBitOrd_J11 = @spec_DrawBitOrd_J11.b := funext fun α => congrFun (Classical.choose_spec spec_DrawBitOrd_J11.ex) α
noncomputable def spec_DrawBitOrd_J9.b {α : Type} (N : Nat) (v222 : Int) (v223 : Int) (v224 : Int) (v225 : (List Int) × Int × Unit) (k0 : Int → Int → Option α) : Option α :=
 let x226 := (decide (v224 = (2 : Int)))
 bif x226 then
  spec_l31Rd_pick N (5 : Int) v225
   (fun x227 _ =>
    let x229 := IntKind.u64.wrap x227
    let x230 := IntKind.u64.wrap (v223 + x229)
    k0 v222 x230)
 else
  spec_DrawBitOrd_J11 N v222 v223 v224 v225
   (fun x248 x249 =>
    k0 x248 x249)
theorem spec_DrawBitOrd_J9.ex : ∃ f : ((α : Type) → Nat → Int → Int → Int → ((List Int) × Int × Unit) → (Int → Int → Option α) → Option α), f = fun α => @spec_DrawBitOrd_J9.b α := ⟨_, rfl⟩
noncomputable def spec_DrawBitOrd_J9 {α : Type} : Nat → Int → Int → Int → ((List Int) × Int × Unit) → (Int → Int → Option α) → Option α := Classical.choose spec_DrawBitOrd_J9.ex α
theorem spec_DrawBitOrd_J9.eq : @spec_DrawBitOrd_J9 = @spec_DrawBitOrd_J9.b := funext fun α => congrFun (Classical.choose_spec spec_DrawBitOrd_J9.ex) α
noncomputable def spec_DrawBitOrd_J7.b {α : Type} (N : Nat) (v214 : Int) (v215 : Int) (v216 : Int) (v217 : (List Int) × Int × Unit) (k0 : Int → Int → Option α) : Option α :=
 let x218 := (decide (v216 = (1 : Int)))
 bif x218 then
  spec_l31Rd_big N v217
   (fun x219 _ =>
    let x221 := (shrI .u64 x219 (32 : Int))
    k0 v214 x221)
 else
  spec_DrawBitOrd_J9 N v214 v215 v216 v217
   (fun x250 x251 =>
    k0 x250 x251)
theorem spec_DrawBitOrd_J7.ex : ∃ f : ((α : Type) → Nat → Int → Int → Int → ((List Int) × Int × Unit) → (Int → Int → Option α) → Option α), f = fun α => @spec_DrawBitOrd_J7.b α := ⟨_, rfl⟩
noncomputable def spec_DrawBitOrd_J7 {α : Type} : Nat → Int → Int → Int → ((List Int) × Int × Unit) → (Int → Int → Option α) → Option α := Classical.choose spec_DrawBitOrd_J7.ex α
theorem spec_DrawBitOrd_J7.eq : @spec_DrawBitOrd_J7 = @spec_DrawBitOrd_J7.b := funext fun α => congrFun (Classical.choose_spec spec_DrawBitOrd_J7.ex) α
noncomputable def spec_DrawBitOrd_J5.b {α : Type} (N : Nat) (v207 : Int) (v208 : Int) (v209 : Int) (v210 : (List Int) × Int × Unit) (k0 : Int → Int → Option α) : Option α :=
 let x211 := (decide (v209 = (0 : Int)))
 bif x211 then
  spec_l31Rd_big N v210
   (fun x212 _ =>
    k0 v207 x212)
 else
  spec_DrawBitOrd_J7 N v207 v208 v209 v210
   (fun x252 x253 =>
    k0 x252 x253)
theorem spec_DrawBitOrd_J5.ex : ∃ f : ((α : Type) → Nat → Int → Int → Int → ((List Int) × Int × Unit) → (Int → Int → Option α) → Option α), f = fun α => @spec_DrawBitOrd_J5.b α := ⟨_, rfl⟩
noncomputable def spec_DrawBitOrd_J5 {α : Type} : Nat → Int → Int → Int → ((List Int) × Int × Unit) → (Int → Int → Option α) → Option α := Classical.choose spec_DrawBitOrd_J5.ex α
theorem spec_DrawBitOrd_J5.eq : @spec_DrawBitOrd_J5 = @spec_DrawBitOrd_J5.b := funext fun α => congrFun (Classical.choose_spec spec_DrawBitOrd_J5.ex) α
/-- spec.DrawBitOrd -/
noncomputable def spec_DrawBitOrd.b {α : Type} (N : Nat) (a7 : List Int) (k0 : Int → Int → Option α) : Option α :=
 spec_l31Open N a7
  (fun x14 =>
   spec_l31Rd_width N x14
    (fun x58 x59 =>
     spec_l31Rd_ord N x58 x59
      (fun x179 x180 =>
       spec_BitBits N x58 x179
        (fun x204 =>
         spec_l31Rd_pick N (6 : Int) x180
          (fun x205 x206 =>
           spec_DrawBitOrd_J5 N x58 x204 x205 x206
            (fun x254 x255 =>
             k0 x254 x255))))))
theorem spec_DrawBitOrd.ex : ∃ f : ((α : Type) → Nat → List Int → (Int → Int → Option α) → Option α), f = fun α => @spec_DrawBitOrd.b α := ⟨_, rfl⟩
noncomputable def spec_DrawBitOrd {α : Type} : Nat → List Int → (Int → Int → Option α) → Option α := Classical.choose spec_DrawBitOrd.ex α
theorem spec_DrawBitOrd.eq : @spec_DrawBitOrd = @spec_DrawBitOrd.b := funext fun α => congrFun (Classical.choose_spec spec_DrawBitOrd.ex) α

/-- impl.formatOf -/
noncomputable def impl_formatOf.b {α : Type} (N : Nat) (a260 : Int) (k0 : (Int × Int × Int × Int × Unit) → Bool → Option α) : Option α :=
 let x261 := (decide (a260 = (32 : Int)))
 bif x261 then
  k0 ((23 : Int), ((-149 : Int), ((127 : Int), ((2139095040 : Int), ())))) true
 else
  let x262 := (decide (a260 = (64 : Int)))
  bif x262 then
   k0 ((52 : Int), ((-1074 : Int), ((1023 : Int), ((9218868437227405312 : Int), ())))) true
  else
   k0 ((0 : Int), ((0 : Int), ((0 : Int), ((0 : Int), ())))) false
theorem impl_formatOf.ex : ∃ f : ((α : Type) → Nat → Int → ((Int × Int × Int × Int × Unit) → Bool → Option α) → Option α), f = fun α => @impl_formatOf.b α := ⟨_, rfl⟩
noncomputable def impl_formatOf {α : Type} : Nat → Int → ((Int × Int × Int × Int × Unit) → Bool → Option α) → Option α := Classical.choose impl_formatOf.ex α
theorem impl_formatOf.eq : @impl_formatOf = @impl_formatOf.b := funext fun α => congrFun (Classical.choose_spec impl_formatOf.ex) α

/-- impl.BitOrd -/
noncomputable def impl_BitOrd.b {α : Type} (N : Nat) (a258 : Int) (a259 : Int) (k0 : Int → Bool → Option α) : Option α :=
 impl_formatOf N a258
  (fun x263 x264 =>
   let x265 := !x264
   bif x265 then
    k0 (0 : Int) false
   else
    let x266 := (decide (a258 = (32 : Int)))
    bif x266 then
     let x267 := (decide ((4294967296 : Int) ≤ a259))
     bif x267 then
      k0 (0 : Int) false
     else
      let x268 := (IntKind.i64.wrap (a258 - (1 : Int)))
      bif (decide (x268 < (0 : Int))) then
       none
      else
       let x269 := (shlI .u64 (1 : Int) x268)
       let x270 := bitI .andNot .u64 a259 x269
       let x271 := IntKind.u64.wrap x263.2.2.2.1
       let x272 := decide (x271 < x270)
       bif x272 then
        k0 (0 : Int) false
       else
        let x273 := bitI .and .u64 a259 x269
        let x274 := (!(decide (x273 = (0 : Int))))
        bif x274 then
         let x275 := IntKind.i64.wrap x270
         let x276 := IntKind.i64.wrap (0 - x275)
         k0 x276 true
        else
         let x277 := IntKind.i64.wrap x270
         k0 x277 true
    else
     let x278 := (IntKind.i64.wrap (a258 - (1 : Int)))
     bif (decide (x278 < (0 : Int))) then
      none
     else
      let x279 := (shlI .u64 (1 : Int) x278)
      let x280 := bitI .andNot .u64 a259 x279
      let x281 := IntKind.u64.wrap x263.2.2.2.1
      let x282 := decide (x281 < x280)
      bif x282 then
       k0 (0 : Int) false
      else
       let x283 := bitI .and .u64 a259 x279
       let x284 := (!(decide (x283 = (0 : Int))))
       bif x284 then
        let x285 := IntKind.i64.wrap x280
        let x286 := IntKind.i64.wrap (0 - x285)
        k0 x286 true
       else
        let x287 := IntKind.i64.wrap x280
        k0 x287 true)
theorem impl_BitOrd.ex : ∃ f : ((α : Type) → Nat → Int → Int → (Int → Bool → Option α) → Option α), f = fun α => @impl_BitOrd.b α := ⟨_, rfl⟩
noncomputable def impl_BitOrd {α : Type} : Nat → Int → Int → (Int → Bool → Option α) → Option α := Classical.choose impl_BitOrd.ex α
theorem impl_BitOrd.eq : @impl_BitOrd = @impl_BitOrd.b := funext fun α => congrFun (Classical.choose_spec impl_BitOrd.ex) α

/-- spec.BitOrd -/
noncomputable def spec_BitOrd.b {α : Type} (N : Nat) (a290 : Int) (a291 : Int) (k0 : Int → Bool → Option α) : Option α :=
 spec_l1Width N a290
  (fun x292 =>
   let x293 := !x292
   bif x293 then
    k0 (0 : Int) false
   else
    let x294 := (decide (a290 = (32 : Int)))
    bif x294 then
     let x295 := (shrI .u64 a291 (32 : Int))
     let x296 := (decide ((0 : Int) < x295))
     bif x296 then
      k0 (0 : Int) false
     else
      let x297 := (IntKind.i64.wrap (a290 - (1 : Int)))
      let x298 := IntKind.u64.wrap x297
      bif (decide (x298 < (0 : Int))) then
       none
      else
       let x299 := (shlI .u64 (1 : Int) x298)
       bif (decide (x299 = (0 : Int))) then
        none
       else
        let x300 := Int.tmod a291 x299
        spec_BitTop N a290
         (fun x301 =>
          let x302 := IntKind.u64.wrap x301
          let x303 := decide (x302 < x300)
          bif x303 then
           k0 (0 : Int) false
          else
           let x304 := decide (x299 ≤ a291)
           bif x304 then
            let x305 := IntKind.i64.wrap x300
            let x306 := IntKind.i64.wrap (0 - x305)
            k0 x306 true
           else
            let x307 := IntKind.i64.wrap x300
            k0 x307 true)
    else
     let x308 := (IntKind.i64.wrap (a290 - (1 : Int)))
     let x309 := IntKind.u64.wrap x308
     bif (decide (x309 < (0 : Int))) then
      none
     else
      let x310 := (shlI .u64 (1 : Int) x309)
      bif (decide (x310 = (0 : Int))) then
       none
      else
       let x311 := Int.tmod a291 x310
       spec_BitTop N a290
        (fun x312 =>
         let x313 := IntKind.u64.wrap x312
         let x314 := decide (x313 < x311)
         bif x314 then
          k0 (0 : Int) false
         else
          let x315 := decide (x310 ≤ a291)
          bif x315 then
           let x316 := IntKind.i64.wrap x311
           let x317 := IntKind.i64.wrap (0 - x316)
           k0 x317 true
          else
           let x318 := IntKind.i64.wrap x311
           k0 x318 true))
theorem spec_BitOrd.ex : ∃ f : ((α : Type) → Nat → Int → Int → (Int → Bool → Option α) → Option α), f = fun α => @spec_BitOrd.b α := ⟨_, rfl⟩
noncomputable def spec_BitOrd {α : Type} : Nat → Int → Int → (Int → Bool → Option α) → Option α := Classical.choose spec_BitOrd.ex α
theorem spec_BitOrd.eq : @spec_BitOrd = @spec_BitOrd.b := funext fun α => congrFun (Classical.choose_spec spec_BitOrd.ex) α

/-- impl.in -/
noncomputable def impl_in.b {α : Type} (N : Nat) (a329 : Int) (a330 : Int) (a331 : Int) (k0 : Bool → Option α) : Option α :=
 let x332 := decide (a330 ≤ a329)
 bif x332 then
  let x333 := decide (a329 ≤ a331)
  k0 x333
 else
  k0 false
theorem impl_in.ex : ∃ f : ((α : Type) → Nat → Int → Int → Int → (Bool → Option α) → Option α), f = fun α => @impl_in.b α := ⟨_, rfl⟩
noncomputable def impl_in {α : Type} : Nat → Int → Int → Int → (Bool → Option α) → Option α := Classical.choose impl_in.ex α
theorem impl_in.eq : @impl_in = @impl_in.b := funext fun α => congrFun (Classical.choose_spec impl_in.ex) α

/-- impl.BitOk -/
noncomputable def impl_BitOk.b {α : Type} (N : Nat) (a324 : Int) (a325 : Int) (k0 : Bool → Option α) : Option α :=
 impl_formatOf N a324
  (fun x326 x327 =>
   bif x327 then
    let x328 := IntKind.i64.wrap (0 - x326.2.2.2.1)
    impl_in N a325 x328 x326.2.2.2.1
     (fun x334 =>
      k0 x334)
   else
    k0 false)
theorem impl_BitOk.ex : ∃ f : ((α : Type) → Nat → Int → Int → (Bool → Option α) → Option α), f = fun α => @impl_BitOk.b α := ⟨_, rfl⟩
noncomputable def impl_BitOk {α : Type} : Nat → Int → Int → (Bool → Option α) → Option α := Classical.choose impl_BitOk.ex α
theorem impl_BitOk.eq : @impl_BitOk = @impl_BitOk.b := funext fun α => congrFun (Classical.choose_spec impl_BitOk.ex) α

/-- impl.BitBits -/
noncomputable def impl_BitBits.b {α : Type} (N : Nat) (a322 : Int) (a323 : Int) (k0 : Int → Option α) : Option α :=
 impl_BitOk N a322 a323
  (fun x335 =>
   let x336 := !x335
   bif x336 then
    k0 (0 : Int)
   else
    let x337 := (decide (a323 < (0 : Int)))
    bif x337 then
     let x338 := IntKind.i64.wrap (0 - a323)
     let x339 := IntKind.u64.wrap x338
     let x340 := (IntKind.i64.wrap (a322 - (1 : Int)))
     bif (decide (x340 < (0 : Int))) then
      none
     else
      let x341 := (shlI .u64 (1 : Int) x340)
      let x342 := bitI .or .u64 x339 x341
      k0 x342
    else
     let x343 := IntKind.u64.wrap a323
     k0 x343)
theorem impl_BitBits.ex : ∃ f : ((α : Type) → Nat → Int → Int → (Int → Option α) → Option α), f = fun α => @impl_BitBits.b α := ⟨_, rfl⟩
noncomputable def impl_BitBits {α : Type} : Nat → Int → Int → (Int → Option α) → Option α := Classical.choose impl_BitBits.ex α
theorem impl_BitBits.eq : @impl_BitBits = @impl_BitBits.b := funext fun α => congrFun (Classical.choose_spec impl_BitBits.ex) α

/-- spec.l31WidthOrd -/
noncomputable def spec_l31WidthOrd.b {α : Type} (N : Nat) (a352 : List Int) (k0 : Int → Int → Option α) : Option α :=
 spec_l31Open N a352
  (fun x353 =>
   spec_l31Rd_width N x353
    (fun x354 x355 =>
     spec_l31Rd_ord N x354 x355
      (fun x356 _ =>
       k0 x354 x356)))
theorem spec_l31WidthOrd.ex : ∃ f : ((α : Type) → Nat → List Int → (Int → Int → Option α) → Option α), f = fun α => @spec_l31WidthOrd.b α := ⟨_, rfl⟩
noncomputable def spec_l31WidthOrd {α : Type} : Nat → List Int → (Int → Int → Option α) → Option α := Classical.choose spec_l31WidthOrd.ex α
theorem spec_l31WidthOrd.eq : @spec_l31WidthOrd = @spec_l31WidthOrd.b := funext fun α => congrFun (Classical.choose_spec spec_l31WidthOrd.ex) α

/-- spec.DrawBitOk -/
noncomputable def spec_DrawBitOk.b {α : Type} (N : Nat) (a351 : List Int) (k0 : Int → Int → Option α) : Option α :=
 spec_l31WidthOrd N a351
  (fun x358 x359 =>
   k0 x358 x359)
theorem spec_DrawBitOk.ex : ∃ f : ((α : Type) → Nat → List Int → (Int → Int → Option α) → Option α), f = fun α => @spec_DrawBitOk.b α := ⟨_, rfl⟩
noncomputable def spec_DrawBitOk {α : Type} : Nat → List Int → (Int → Int → Option α) → Option α := Classical.choose spec_DrawBitOk.ex α
theorem spec_DrawBitOk.eq : @spec_DrawBitOk = @spec_DrawBitOk.b := funext fun α => congrFun (Classical.choose_spec spec_DrawBitOk.ex) α

/-- impl.size -/
noncomputable def impl_size.b {α : Type} (N : Nat) (a374 : Int) (k0 : Int → Option α) : Option α :=
 let x375 := IntKind.i64.wrap (0 - a374)
 let x376 := maxI a374 x375
 k0 x376
theorem impl_size.ex : ∃ f : ((α : Type) → Nat → Int → (Int → Option α) → Option α), f = fun α => @impl_size.b α := ⟨_, rfl⟩
noncomputable def impl_size {α : Type} : Nat → Int → (Int → Option α) → Option α := Classical.choose impl_size.ex α
theorem impl_size.eq : @impl_size = @impl_size.b := funext fun α => congrFun (Classical.choose_spec impl_size.ex) α

/-- impl.BitPartOf -/
noncomputable def impl_BitPartOf.b {α : Type} (N : Nat) (a368 : Int) (a369 : Int) (k0 : (Bool × Int × Int × Unit) → Bool → Option α) : Option α :=
 impl_formatOf N a368
  (fun x370 _ =>
   impl_BitOk N a368 a369
    (fun x372 =>
     let x373 := !x372
     bif x373 then
      k0 (false, ((0 : Int), ((0 : Int), ()))) false
     else
      impl_size N a369
       (fun x377 =>
        let x378 := decide (x377 = x370.2.2.2.1)
        bif x378 then
         k0 (false, ((0 : Int), ((0 : Int), ()))) false
        else
         impl_size N a369
          (fun x379 =>
           bif (decide (x370.1 < (0 : Int))) then
            none
           else
            let x380 := (shlI .i64 (1 : Int) x370.1)
            let x381 := (IntKind.i64.wrap (x380 - (1 : Int)))
            let x382 := bitI .and .i64 x379 x381
            impl_size N a369
             (fun x383 =>
              bif (decide (x370.1 < (0 : Int))) then
               none
              else
               let x384 := shrI .i64 x383 x370.1
               let x385 := (decide (x384 = (0 : Int)))
               bif x385 then
                let x386 := (decide (a369 < (0 : Int)))
                let x387 := IntKind.u64.wrap x382
                k0 (x386, (x387, (x370.2.1, ()))) true
               else
                let x388 := (decide (a369 < (0 : Int)))
                bif (decide (x370.1 < (0 : Int))) then
                 none
                else
                 let x389 := (shlI .i64 (1 : Int) x370.1)
                 let x390 := bitI .or .i64 x382 x389
                 let x391 := IntKind.u64.wrap x390
                 let x392 := IntKind.i64.wrap (x370.2.1 + x384)
                 let x393 := (IntKind.i64.wrap (x392 - (1 : Int)))
                 k0 (x388, (x391, (x393, ()))) true)))))
theorem impl_BitPartOf.ex : ∃ f : ((α : Type) → Nat → Int → Int → ((Bool × Int × Int × Unit) → Bool → Option α) → Option α), f = fun α => @impl_BitPartOf.b α := ⟨_, rfl⟩
noncomputable def impl_BitPartOf {α : Type} : Nat → Int → Int → ((Bool × Int × Int × Unit) → Bool → Option α) → Option α := Classical.choose impl_BitPartOf.ex α
theorem impl_BitPartOf.eq : @impl_BitPartOf = @impl_BitPartOf.b := funext fun α => congrFun (Classical.choose_spec impl_BitPartOf.ex) α

-- prim math_bits_TrailingZeros64
noncomputable def math_bits_Len64_J1.b {α : Type} (N : Nat) (v409 : Int) (v410 : Int) (k0 : Int → Int → Option α) : Option α :=
 let x411 := (decide ((4294967296 : Int) ≤ v409))
 bif x411 then
  let x412 := (shrI .u64 v409 (32 : Int))
  k0 x412 (32 : Int)
 else
  k0 v409 v410
theorem math_bits_Len64_J1.ex : ∃ f : ((α : Type) → Nat → Int → Int → (Int → Int → Option α) → Option α), f = fun α => @math_bits_Len64_J1.b α := ⟨_, rfl⟩
noncomputable def math_bits_Len64_J1 {α : Type} : Nat → Int → Int → (Int → Int → Option α) → Option α := Classical.choose math_bits_Len64_J1.ex α
theorem math_bits_Len64_J1.eq : @math_bits_Len64_J1 = @math_bits_Len64_J1.b := funext fun α => congrFun (Classical.choose_spec math_bits_Len64_J1.ex) α
noncomputable def math_bits_Len64_J4.b {α : Type} (N : Nat) (v415 : Int) (v416 : Int) (k0 : Int → Int → Option α) : Option α :=
 let x417 := (decide ((65536 : Int) ≤ v415))
 bif x417 then
  let x418 := (shrI .u64 v415 (16 : Int))
  let x419 := (IntKind.i64.wrap (v416 + (16 : Int)))
  k0 x418 x419
 else
  k0 v415 v416
theorem math_bits_Len64_J4.ex : ∃ f : ((α : Type) → Nat → Int → Int → (Int → Int → Option α) → Option α), f = fun α => @math_bits_Len64_J4.b α := ⟨_, rfl⟩
noncomputable def math_bits_Len64_J4 {α : Type} : Nat → Int → Int → (Int → Int → Option α) → Option α := Classical.choose math_bits_Len64_J4.ex α
theorem math_bits_Len64_J4.eq : @math_bits_Len64_J4 = @math_bits_Len64_J4.b := funext fun α => congrFun (Classical.choose_spec math_bits_Len64_J4.ex) α
noncomputable def math_bits_Len64_J7.b {α : Type} (N : Nat) (v422 : Int) (v423 : Int) (k0 : Int → Int → Option α) : Option α :=
 let x424 := (decide ((256 : Int) ≤ v422))
 bif x424 then
  let x425 := (shrI .u64 v422 (8 : Int))
  let x426 := (IntKind.i64.wrap (v423 + (8 : Int)))
  k0 x425 x426
 else
  k0 v422 v423
theorem math_bits_Len64_J7.ex : ∃ f : ((α : Type) → Nat → Int → Int → (Int → Int → Option α) → Option α), f = fun α => @math_bits_Len64_J7.b α := ⟨_, rfl⟩
noncomputable def math_bits_Len64_J7 {α : Type} : Nat → Int → Int → (Int → Int → Option α) → Option α := Classical.choose math_bits_Len64_J7.ex α
theorem math_bits_Len64_J7.eq : @math_bits_Len64_J7 = @math_bits_Len64_J7.b := funext fun α => congrFun (Classical.choose_spec math_bits_Len64_J7.ex) α
/-- math/bits.Len64 -/
noncomputable def math_bits_Len64.b {α : Type} (N : Nat) (a408 : Int) (k0 : Int → Option α) : Option α :=
 math_bits_Len64_J1 N a408 (0 : Int)
  (fun x413 x414 =>
   math_bits_Len64_J4 N x413 x414
    (fun x420 x421 =>
     math_bits_Len64_J7 N x420 x421
      (fun x427 x428 =>
       let x429 := IntKind.u8.wrap x427
       bif (decide (x429 < (0 : Int))) then
        none
       else
        match ((⟨#[0, 1, 2, 2, 3, 3, 3, 3, 4, 4, 4, 4, 4, 4, 4, 4, 5, 5, 5, 5, 5, 5, 5, 5, 5, 5, 5, 5, 5, 5, 5, 5, 6, 6, 6, 6, 6, 6, 6, 6, 6, 6, 6, 6, 6, 6, 6, 6, 6, 6, 6, 6, 6, 6, 6, 6, 6, 6, 6, 6, 6, 6, 6, 6, 7, 7, 7, 7, 7, 7, 7, 7, 7, 7, 7, 7, 7, 7, 7, 7, 7, 7, 7, 7, 7, 7, 7, 7, 7, 7, 7, 7, 7, 7, 7, 7, 7, 7, 7, 7, 7, 7, 7, 7, 7, 7, 7, 7, 7, 7, 7, 7, 7, 7, 7, 7, 7, 7, 7, 7, 7, 7, 7, 7, 7, 7, 7, 7, 8, 8, 8, 8, 8, 8, 8, 8, 8, 8, 8, 8, 8, 8, 8, 8, 8, 8, 8, 8, 8, 8, 8, 8, 8, 8, 8, 8, 8, 8, 8, 8, 8, 8, 8, 8, 8, 8, 8, 8, 8, 8, 8, 8, 8, 8, 8, 8, 8, 8, 8, 8, 8, 8, 8, 8, 8, 8, 8, 8, 8, 8, 8, 8, 8, 8, 8, 8, 8, 8, 8, 8, 8, 8, 8, 8, 8, 8, 8, 8, 8, 8, 8, 8, 8, 8, 8, 8, 8, 8, 8, 8, 8, 8, 8, 8, 8, 8, 8, 8, 8, 8, 8, 8, 8, 8, 8, 8, 8, 8, 8, 8, 8, 8, 8, 8, 8, 8, 8, 8, 8, 8, 8, 8, 8, 8, 8, 8]⟩ : ByteArray)[x429.toNat]? : Option UInt8) with
        | some x430 =>
         let x431 := ((x430.toNat : Nat) : Int)
         let x432 := IntKind.i64.wrap x431
         let x433 := IntKind.i64.wrap (x428 + x432)
         k0 x433
        | none => none)))
theorem math_bits_Len64.ex : ∃ f : ((α : Type) → Nat → Int → (Int → Option α) → Option α), f = fun α => @math_bits_Len64.b α := ⟨_, rfl⟩
noncomputable def math_bits_Len64 {α : Type} : Nat → Int → (Int → Option α) → Option α := Classical.choose math_bits_Len64.ex α
theorem math_bits_Len64.eq : @math_bits_Len64 = @math_bits_Len64.b := funext fun α => congrFun (Classical.choose_spec math_bits_Len64.ex) α

noncomputable def impl_BitMake_J14.b {α : Type} (N : Nat) (v442 : Int) (v443 : Int) (v444 : Int) (v445 : Int) (v446 : Bool × Int × Int × Unit) (v447 : Int × Int × Int × Int × Unit) (k0 : Int → (Bool × Int × Int × Unit) → Option α) : Option α :=
 let x448 := (decide ((1 : Int) ≤ v445))
 bif x448 then
  bif (decide (v447.1 < (0 : Int))) then
   none
  else
   let x449 := shlI .i64 v445 v447.1
   let x450 := (IntKind.i64.wrap (v447.1 + (1 : Int)))
   let x451 := IntKind.i64.wrap (x450 - v444)
   bif (decide (x451 < (0 : Int))) then
    none
   else
    let x452 := shlI .u64 v442 x451
    let x453 := IntKind.i64.wrap x452
    bif (decide (v447.1 < (0 : Int))) then
     none
    else
     let x454 := (shlI .i64 (1 : Int) v447.1)
     let x455 := (IntKind.i64.wrap (x454 - (1 : Int)))
     let x456 := bitI .and .i64 x453 x455
     let x457 := bitI .or .i64 x449 x456
     k0 x457 v446
 else
  let x458 := IntKind.i64.wrap (v443 - v447.2.1)
  bif (decide (x458 < (0 : Int))) then
   none
  else
   let x459 := shlI .u64 v442 x458
   let x460 := IntKind.i64.wrap x459
   k0 x460 v446
theorem impl_BitMake_J14.ex : ∃ f : ((α : Type) → Nat → Int → Int → Int → Int → (Bool × Int × Int × Unit) → (Int × Int × Int × Int × Unit) → (Int → (Bool × Int × Int × Unit) → Option α) → Option α), f = fun α => @impl_BitMake_J14.b α := ⟨_, rfl⟩
noncomputable def impl_BitMake_J14 {α : Type} : Nat → Int → Int → Int → Int → (Bool × Int × Int × Unit) → (Int × Int × Int × Int × Unit) → (Int → (Bool × Int × Int × Unit) → Option α) → Option α := Classical.choose impl_BitMake_J14.ex α
theorem impl_BitMake_J14.eq : @impl_BitMake_J14 = @impl_BitMake_J14.b := funext fun α => congrFun (Classical.choose_spec impl_BitMake_J14.ex) α
noncomputable def impl_BitMake_J17.b {α : Type} (N : Nat) (v463 : Int) (v464 : Bool × Int × Int × Unit) (k0 : Int → Option α) : Option α :=
 bif v464.1 then
  let x465 := IntKind.i64.wrap (0 - v463)
  k0 x465
 else
  k0 v463
theorem impl_BitMake_J17.ex : ∃ f : ((α : Type) → Nat → Int → (Bool × Int × Int × Unit) → (Int → Option α) → Option α), f = fun α => @impl_BitMake_J17.b α := ⟨_, rfl⟩
noncomputable def impl_BitMake_J17 {α : Type} : Nat → Int → (Bool × Int × Int × Unit) → (Int → Option α) → Option α := Classical.choose impl_BitMake_J17.ex α
theorem impl_BitMake_J17.eq : @impl_BitMake_J17 = @impl_BitMake_J17.b := funext fun α => congrFun (Classical.choose_spec impl_BitMake_J17.ex) α
/-- impl.BitMake -/
noncomputable def impl_BitMake.b {α : Type} (N : Nat) (a397 : Int) (a398 : Bool × Int × Int × Unit) (k0 : Int → Bool → Option α) : Option α :=
 impl_formatOf N a397
  (fun x399 x400 =>
   let x401 := !x400
   bif x401 then
    k0 (0 : Int) false
   else
    impl_in N a398.2.2.1 (-2000 : Int) (2000 : Int)
     (fun x402 =>
      let x403 := !x402
      bif x403 then
       k0 (0 : Int) false
      else
       let x404 := (decide (a398.2.1 = (0 : Int)))
       bif x404 then
        k0 (0 : Int) true
       else
        math_bits_TrailingZeros64 N a398.2.1
         (fun x405 =>
          bif (decide (x405 < (0 : Int))) then
           none
          else
           let x406 := shrI .u64 a398.2.1 x405
           let x407 := IntKind.i64.wrap (a398.2.2.1 + x405)
           math_bits_Len64 N x406
            (fun x434 =>
             let x435 := IntKind.i64.wrap (x407 + x434)
             let x436 := (IntKind.i64.wrap (x435 - (1 : Int)))
             let x437 := (IntKind.i64.wrap (x399.1 + (1 : Int)))
             let x438 := decide (x437 < x434)
             bif x438 then
              k0 (0 : Int) false
             else
              let x439 := decide (x407 < x399.2.1)
              bif x439 then
               k0 (0 : Int) false
              else
               let x440 := decide (x399.2.2.1 < x436)
               bif x440 then
                k0 (0 : Int) false
               else
                let x441 := IntKind.i64.wrap (x436 + x399.2.2.1)
                impl_BitMake_J14 N x406 x407 x434 x441 a398 x399
                 (fun x461 x462 =>
                  impl_BitMake_J17 N x461 x462
                   (fun x466 =>
                    k0 x466 true))))))
theorem impl_BitMake.ex : ∃ f : ((α : Type) → Nat → Int → (Bool × Int × Int × Unit) → (Int → Bool → Option α) → Option α), f = fun α => @impl_BitMake.b α := ⟨_, rfl⟩
noncomputable def impl_BitMake {α : Type} : Nat → Int → (Bool × Int × Int × Unit) → (Int → Bool → Option α) → Option α := Classical.choose impl_BitMake.ex α
theorem impl_BitMake.eq : @impl_BitMake = @impl_BitMake.b := funext fun α => congrFun (Classical.choose_spec impl_BitMake.ex) α

/-- laws.FnBitBack -/
noncomputable def laws_FnBitBack.b {α : Type} (N : Nat) (a1 : List Int) (a2 : List Int) (k0 : Bool → Option α) : Option α :=
 let x3 := ((a1.length : Nat) : Int)
 let x4 := (decide ((1048576 : Int) < x3))
 bif x4 then
  k0 true
 else
  let x5 := ((a2.length : Nat) : Int)
  let x6 := (decide ((1048576 : Int) < x5))
  bif x6 then
   k0 true
  else
   spec_DrawBitOrd N a1
    (fun x256 x257 =>
     impl_BitOrd N x256 x257
      (fun x288 x289 =>
       spec_BitOrd N x256 x257
        (fun _ x320 =>
         let x321 := !(x289 == x320)
         bif x321 then
          k0 false
         else
          bif x289 then
           impl_BitBits N x256 x288
            (fun x344 =>
             let x345 := !(decide (x344 = x257))
             bif x345 then
              let x346 := (!(decide (x288 = (0 : Int))))
              bif x346 then
               k0 false
              else
               let x347 := (IntKind.i64.wrap (x256 - (1 : Int)))
               let x348 := IntKind.u64.wrap x347
               bif (decide (x348 < (0 : Int))) then
                none
               else
                let x349 := shrI .u64 x257 x348
                let x350 := (!(decide (x349 = (1 : Int))))
                bif x350 then
                 k0 false
                else
                 spec_DrawBitOk N a2
                  (fun x360 x361 =>
                   impl_BitBits N x360 x361
                    (fun x362 =>
                     impl_BitOrd N x360 x362
                      (fun x363 x364 =>
                       spec_BitOk N x360 x361
                        (fun x365 =>
                         bif x365 then
                          let x366 := !x364
                          bif x366 then
                           k0 false
                          else
                           let x367 := !(decide (x363 = x361))
                           bif x367 then
                            k0 false
                           else
                            impl_BitPartOf N x360 x361
                             (fun x394 x395 =>
                              let x396 := !x395
                              bif x396 then
                               k0 true
                              else
                               impl_BitMake N x360 x394
                                (fun x467 x468 =>
                                 let x469 := !x468
                                 bif x469 then
                                  k0 false
                                 else
                                  let x470 := !(decide (x467 = x361))
                                  bif x470 then
                                   k0 false
                                  else
                                   let x471 := (IntKind.u64.wrap (x394.2.1 * (2 : Int)))
                                   let x472 := (IntKind.i64.wrap (x394.2.2.1 - (1 : Int)))
                                   impl_BitMake N x360 (x394.1, (x471, (x472, ())))
                                    (fun x473 x474 =>
                                     bif x474 then
                                      let x475 := decide (x473 = x361)
                                      k0 x475
                                     else
                                      k0 false)))
                         else
                          impl_BitPartOf N x360 x361
                           (fun x476 x477 =>
                            let x478 := !x477
                            bif x478 then
                             k0 true
                            else
                             impl_BitMake N x360 x476
                              (fun x479 x480 =>
                               let x481 := !x480
                               bif x481 then
                                k0 false
                               else
                                let x482 := !(decide (x479 = x361))
                                bif x482 then
                                 k0 false
                                else
                                 let x483 := (IntKind.u64.wrap (x476.2.1 * (2 : Int)))
                                 let x484 := (IntKind.i64.wrap (x476.2.2.1 - (1 : Int)))
                                 impl_BitMake N x360 (x476.1, (x483, (x484, ())))
                                  (fun x485 x486 =>
                                   bif x486 then
                                    let x487 := decide (x485 = x361)
                                    k0 x487
                                   else
                                    k0 false)))))))
             else
              spec_DrawBitOk N a2
               (fun x488 x489 =>
                impl_BitBits N x488 x489
                 (fun x490 =>
                  impl_BitOrd N x488 x490
                   (fun x491 x492 =>
                    spec_BitOk N x488 x489
                     (fun x493 =>
                      bif x493 then
                       let x494 := !x492
                       bif x494 then
                        k0 false
                       else
                        let x495 := !(decide (x491 = x489))
                        bif x495 then
                         k0 false
                        else
                         impl_BitPartOf N x488 x489
                          (fun x496 x497 =>
                           let x498 := !x497
                           bif x498 then
                            k0 true
                           else
                            impl_BitMake N x488 x496
                             (fun x499 x500 =>
                              let x501 := !x500
                              bif x501 then
                               k0 false
                              else
                               let x502 := !(decide (x499 = x489))
                               bif x502 then
                                k0 false
                               else
                                let x503 := (IntKind.u64.wrap (x496.2.1 * (2 : Int)))
                                let x504 := (IntKind.i64.wrap (x496.2.2.1 - (1 : Int)))
                                impl_BitMake N x488 (x496.1, (x503, (x504, ())))
                                 (fun x505 x506 =>
                                  bif x506 then
                                   let x507 := decide (x505 = x489)
                                   k0 x507
                                  else
                                   k0 false)))
                      else
                       impl_BitPartOf N x488 x489
                        (fun x508 x509 =>
                         let x510 := !x509
                         bif x510 then
                          k0 true
                         else
                          impl_BitMake N x488 x508
                           (fun x511 x512 =>
                            let x513 := !x512
                            bif x513 then
                             k0 false
                            else
                             let x514 := !(decide (x511 = x489))
                             bif x514 then
                              k0 false
                             else
                              let x515 := (IntKind.u64.wrap (x508.2.1 * (2 : Int)))
                              let x516 := (IntKind.i64.wrap (x508.2.2.1 - (1 : Int)))
                              impl_BitMake N x488 (x508.1, (x515, (x516, ())))
                               (fun x517 x518 =>
                                bif x518 then
                                 let x519 := decide (x517 = x489)
                                 k0 x519
                                else
                                 k0 false))))))))
          else
           spec_DrawBitOk N a2
            (fun x520 x521 =>
             impl_BitBits N x520 x521
              (fun x522 =>
               impl_BitOrd N x520 x522
                (fun x523 x524 =>
                 spec_BitOk N x520 x521
                  (fun x525 =>
                   bif x525 then
                    let x526 := !x524
                    bif x526 then
                     k0 false
                    else
                     let x527 := !(decide (x523 = x521))
                     bif x527 then
                      k0 false
                     else
                      impl_BitPartOf N x520 x521
                       (fun x528 x529 =>
                        let x530 := !x529
                        bif x530 then
                         k0 true
                        else
                         impl_BitMake N x520 x528
                          (fun x531 x532 =>
                           let x533 := !x532
                           bif x533 then
                            k0 false
                           else
                            let x534 := !(decide (x531 = x521))
                            bif x534 then
                             k0 false
                            else
                             let x535 := (IntKind.u64.wrap (x528.2.1 * (2 : Int)))
                             let x536 := (IntKind.i64.wrap (x528.2.2.1 - (1 : Int)))
                             impl_BitMake N x520 (x528.1, (x535, (x536, ())))
                              (fun x537 x538 =>
                               bif x538 then
                                let x539 := decide (x537 = x521)
                                k0 x539
                               else
                                k0 false)))
                   else
                    impl_BitPartOf N x520 x521
                     (fun x540 x541 =>
                      let x542 := !x541
                      bif x542 then
                       k0 true
                      else
                       impl_BitMake N x520 x540
                        (fun x543 x544 =>
                         let x545 := !x544
                         bif x545 then
                          k0 false
                         else
                          let x546 := !(decide (x543 = x521))
                          bif x546 then
                           k0 false
                          else
                           let x547 := (IntKind.u64.wrap (x540.2.1 * (2 : Int)))
                           let x548 := (IntKind.i64.wrap (x540.2.2.1 - (1 : Int)))
                           impl_BitMake N x520 (x540.1, (x547, (x548, ())))
                            (fun x549 x550 =>
                             bif x550 then
                              let x551 := decide (x549 = x521)
                              k0 x551
                             else
                              k0 false))))))))))
theorem laws_FnBitBack.ex : ∃ f : ((α : Type) → Nat → List Int → List Int → (Bool → Option α) → Option α), f = fun α => @laws_FnBitBack.b α := ⟨_, rfl⟩
noncomputable def laws_FnBitBack {α : Type} : Nat → List Int → List Int → (Bool → Option α) → Option α := Classical.choose laws_FnBitBack.ex α
theorem laws_FnBitBack.eq : @laws_FnBitBack = @laws_FnBitBack.b := funext fun α => congrFun (Classical.choose_spec laws_FnBitBack.ex) α

end
end Go.Proofs.YtaelbfbplamahaaDoorAm
