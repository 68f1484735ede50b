/-
  The functions that the program computes, as the abstract machine tells them. Printed by amp.py.
-/
import Derived.Test.YtbaeipjjijdgiaaAmb
namespace Go.Proofs.YtbaeipjjijdgiaaAm
open Go
noncomputable section
set_option linter.unusedVariables false
set_option linter.unusedSimpArgs false

noncomputable def spec_l31Open_J1.b {α : Type} (N : Nat) (v9 : List Int) (k0 : List Int → Option α) : Option α :=
 let x10 := ((v9.length : Nat) : Int)
 let x11 := (decide ((2000 : Int) < x10))
 bif x11 then
  bif (decide ((2000 : Int) ≤ ((v9.length : Nat) : Int))) then
   let x12 := v9.take 2000
   k0 x12
  else
   none
 else
  k0 v9
noncomputable def spec_l31Open_J1 {α : Type} := lockF (@spec_l31Open_J1.b α)
theorem spec_l31Open_J1.eq : @spec_l31Open_J1 = @spec_l31Open_J1.b := funext fun α => lockF_eq _
/-- spec.l31Open -/
noncomputable def spec_l31Open.b {α : Type} (N : Nat) (a8 : List Int) (k0 : ((List Int) × Int × Unit) → Option α) : Option α :=
 spec_l31Open_J1 N a8
  (fun x13 =>
   k0 (x13, ((0 : Int), ())))
noncomputable def spec_l31Open {α : Type} := lockF (@spec_l31Open.b α)
theorem spec_l31Open.eq : @spec_l31Open = @spec_l31Open.b := funext fun α => lockF_eq _

/-- (*spec.l31Rd).pick -/
noncomputable def spec_l31Rd_pick.b {α : Type} (N : Nat) (a16 : Int) (a17 : (List Int) × Int × Unit) (k0 : Int → ((List Int) × Int × Unit) → Option α) : Option α :=
 let x18 := (IntKind.i64.wrap (a17.2.1 + (1 : Int)))
 let x19 := (decide (a16 < (1 : Int)))
 bif x19 then
  k0 (0 : Int) (a17.1, (x18, ()))
 else
  let x20 := ((a17.1.length : Nat) : Int)
  let x21 := (decide (x20 = (0 : Int)))
  bif x21 then
   k0 (0 : Int) (a17.1, (x18, ()))
  else
   let x22 := (IntKind.i64.wrap (x18 - (1 : Int)))
   let x23 := ((a17.1.length : Nat) : Int)
   let x24 := decide (x22 < x23)
   bif x24 then
    bif (decide (x22 < (0 : Int))) then
     none
    else
     match a17.1[x22.toNat]? with
     | some x25 =>
      let x26 := IntKind.i64.wrap x25
      bif (decide (a16 = (0 : Int))) then
       none
      else
       let x27 := Int.tmod x26 a16
       k0 x27 (a17.1, (x18, ()))
     | none => none
   else
    let x28 := ((a17.1.length : Nat) : Int)
    bif (decide (x28 = (0 : Int))) then
     none
    else
     let x29 := Int.tmod x22 x28
     bif (decide (x29 < (0 : Int))) then
      none
     else
      match a17.1[x29.toNat]? with
      | some x30 =>
       let x31 := IntKind.i64.wrap x30
       let x32 := (IntKind.i64.wrap (x31 * (131 : Int)))
       let x33 := (IntKind.i64.wrap (x22 * (7 : Int)))
       let x34 := (IntKind.i64.wrap (x33 + (3 : Int)))
       let x35 := ((a17.1.length : Nat) : Int)
       bif (decide (x35 = (0 : Int))) then
        none
       else
        let x36 := Int.tmod x34 x35
        bif (decide (x36 < (0 : Int))) then
         none
        else
         match a17.1[x36.toNat]? with
         | some x37 =>
          let x38 := IntKind.i64.wrap x37
          let x39 := (IntKind.i64.wrap (x38 * (1117 : Int)))
          let x40 := IntKind.i64.wrap (x32 + x39)
          let x41 := (IntKind.i64.wrap (x22 * (29 : Int)))
          let x42 := IntKind.i64.wrap (x40 + x41)
          let x43 := ((a17.1.length : Nat) : Int)
          bif (decide (x43 = (0 : Int))) then
           none
          else
           let x44 := IntKind.i64.wrap (Int.tdiv x22 x43)
           let x45 := (IntKind.i64.wrap (x44 * (53 : Int)))
           let x46 := IntKind.i64.wrap (x42 + x45)
           let x47 := (IntKind.i64.wrap (Int.tdiv x46 (64 : Int)))
           let x48 := bitI .xor .i64 x46 x47
           bif (decide (a16 = (0 : Int))) then
            none
           else
            let x49 := Int.tmod x48 a16
            k0 x49 (a17.1, (x18, ()))
         | none => none
      | none => none
noncomputable def spec_l31Rd_pick {α : Type} := lockF (@spec_l31Rd_pick.b α)
theorem spec_l31Rd_pick.eq : @spec_l31Rd_pick = @spec_l31Rd_pick.b := funext fun α => lockF_eq _

/-- spec.BitTop -/
noncomputable def spec_BitTop.b {α : Type} (N : Nat) (a67 : Int) (k0 : Int → Option α) : Option α :=
 let x68 := (decide (a67 = (32 : Int)))
 bif x68 then
  k0 (2139095040 : Int)
 else
  let x69 := (decide (a67 = (64 : Int)))
  bif x69 then
   k0 (9218868437227405312 : Int)
  else
   k0 (0 : Int)
noncomputable def spec_BitTop {α : Type} := lockF (@spec_BitTop.b α)
theorem spec_BitTop.eq : @spec_BitTop = @spec_BitTop.b := funext fun α => lockF_eq _

noncomputable def spec_l31Rd_big_L0r {α : Type} (N : Nat) (next : Int → Int → ((List Int) × Int × Unit) → Option α) (k0 : Int → ((List Int) × Int × Unit) → Option α) (v128 : Int) (v129 : Int) (v130 : (List Int) × Int × Unit) : Option α :=
 let x131 := (decide (v129 < (8 : Int)))
 bif x131 then
  let x132 := (IntKind.u64.wrap (v128 * (256 : Int)))
  spec_l31Rd_pick N (256 : Int) v130
   (fun x133 x134 =>
    let x135 := IntKind.u64.wrap x133
    let x136 := IntKind.u64.wrap (x132 + x135)
    let x137 := (IntKind.i64.wrap (v129 + (1 : Int)))
    next x136 x137 x134)
 else
  k0 v128 v130
noncomputable def spec_l31Rd_big_L0.b {α : Type} := fun N n v128 v129 v130 k0 => loopN (fun next => @spec_l31Rd_big_L0r α N next k0) (fun _ _ _ => none) n v128 v129 v130
noncomputable def spec_l31Rd_big_L0 {α : Type} := lockF (@spec_l31Rd_big_L0.b α)
theorem spec_l31Rd_big_L0.eq : @spec_l31Rd_big_L0 = @spec_l31Rd_big_L0.b := funext fun α => lockF_eq _
theorem spec_l31Rd_big_L0.zero {α : Type} (N v128 v129 v130 k0) : @spec_l31Rd_big_L0 α N 0 v128 v129 v130 k0 = none := by rw [spec_l31Rd_big_L0.eq]; rfl
theorem spec_l31Rd_big_L0.succ {α : Type} (N n v128 v129 v130 k0) : @spec_l31Rd_big_L0 α N (n + 1) v128 v129 v130 k0 = spec_l31Rd_big_L0r N (fun y0 y1 y2 => spec_l31Rd_big_L0 N n y0 y1 y2 k0) k0 v128 v129 v130 := by rw [spec_l31Rd_big_L0.eq]; rfl
/-- (*spec.l31Rd).big -/
noncomputable def spec_l31Rd_big.b {α : Type} (N : Nat) (a127 : (List Int) × Int × Unit) (k0 : Int → ((List Int) × Int × Unit) → Option α) : Option α :=
 spec_l31Rd_big_L0 N N (0 : Int) (0 : Int) a127
  (fun x138 x139 =>
   k0 x138 x139)
noncomputable def spec_l31Rd_big {α : Type} := lockF (@spec_l31Rd_big.b α)
theorem spec_l31Rd_big.eq : @spec_l31Rd_big = @spec_l31Rd_big.b := funext fun α => lockF_eq _

noncomputable def spec_l31Rd_ord_J11.b {α : Type} (N : Nat) (v88 : Int) (v89 : Int) (v90 : Int) (v91 : (List Int) × Int × Unit) (k0 : Int → Int → Int → Bool → ((List Int) × Int × Unit) → Option α) : Option α :=
 let x92 := (decide (v90 = (2 : Int)))
 bif x92 then
  k0 v88 v89 v90 x92 v91
 else
  let x93 := (decide (v90 = (3 : Int)))
  k0 v88 v89 v90 x93 v91
noncomputable def spec_l31Rd_ord_J11 {α : Type} := lockF (@spec_l31Rd_ord_J11.b α)
theorem spec_l31Rd_ord_J11.eq : @spec_l31Rd_ord_J11 = @spec_l31Rd_ord_J11.b := funext fun α => lockF_eq _
noncomputable def spec_l31Rd_ord_J14.b {α : Type} (N : Nat) (v106 : Int) (v107 : Int) (v108 : Int) (v109 : (List Int) × Int × Unit) (k0 : Int → Int → ((List Int) × Int × Unit) → Option α) : Option α :=
 let x110 := (decide (v106 = (32 : Int)))
 bif x110 then
  spec_l31Rd_pick N (256 : Int) v109
   (fun x111 x112 =>
    let x113 := (shlI .i64 x111 (23 : Int))
    spec_l31Rd_pick N (4 : Int) x112
     (fun x114 x115 =>
      let x116 := IntKind.i64.wrap (x113 + x114)
      let x117 := (IntKind.i64.wrap (x116 - (1 : Int)))
      k0 v107 x117 x115))
 else
  k0 v107 v108 v109
noncomputable def spec_l31Rd_ord_J14 {α : Type} := lockF (@spec_l31Rd_ord_J14.b α)
theorem spec_l31Rd_ord_J14.eq : @spec_l31Rd_ord_J14 = @spec_l31Rd_ord_J14.b := funext fun α => lockF_eq _
noncomputable def spec_l31Rd_ord_J5.b {α : Type} (N : Nat) (v144 : Int) (v145 : Int) (v146 : (List Int) × Int × Unit) (k0 : Int → Int → ((List Int) × Int × Unit) → Option α) : Option α :=
 let x147 := (decide ((0 : Int) < v144))
 bif x147 then
  let x148 := (IntKind.i64.wrap (v144 + (1 : Int)))
  bif (decide (x148 = (0 : Int))) then
   none
  else
   let x149 := Int.tmod v145 x148
   k0 v144 x149 v146
 else
  k0 v144 v145 v146
noncomputable def spec_l31Rd_ord_J5 {α : Type} := lockF (@spec_l31Rd_ord_J5.b α)
theorem spec_l31Rd_ord_J5.eq : @spec_l31Rd_ord_J5 = @spec_l31Rd_ord_J5.b := funext fun α => lockF_eq _
noncomputable def spec_l31Rd_ord_J16.b {α : Type} (N : Nat) (v121 : Int) (v122 : Int) (v123 : (List Int) × Int × Unit) (k0 : Int → Int → ((List Int) × Int × Unit) → Option α) : Option α :=
 let x124 := (decide (v122 = (4 : Int)))
 bif x124 then
  spec_l31Rd_pick N (1048576 : Int) v123
   (fun x125 x126 =>
    k0 v121 x125 x126)
 else
  spec_l31Rd_big N v123
   (fun x140 x141 =>
    let x142 := (shrI .u64 x140 (1 : Int))
    let x143 := IntKind.i64.wrap x142
    spec_l31Rd_ord_J5 N v121 x143 x141
     (fun x150 x151 x152 =>
      k0 x150 x151 x152))
noncomputable def spec_l31Rd_ord_J16 {α : Type} := lockF (@spec_l31Rd_ord_J16.b α)
theorem spec_l31Rd_ord_J16.eq : @spec_l31Rd_ord_J16 = @spec_l31Rd_ord_J16.b := funext fun α => lockF_eq _
noncomputable def spec_l31Rd_ord_J9.b {α : Type} (N : Nat) (v80 : Int) (v81 : Int) (v82 : Int) (v83 : (List Int) × Int × Unit) (k0 : Int → Int → ((List Int) × Int × Unit) → Option α) : Option α :=
 let x84 := (decide (v82 = (1 : Int)))
 bif x84 then
  spec_l31Rd_pick N (6 : Int) v83
   (fun x85 x86 =>
    let x87 := IntKind.i64.wrap (v81 - x85)
    k0 v81 x87 x86)
 else
  spec_l31Rd_ord_J11 N v80 v81 v82 v83
   (fun x94 x95 x96 x97 x98 =>
    bif x97 then
     spec_l31Rd_pick N (2048 : Int) x98
      (fun x99 x100 =>
       let x101 := (shlI .i64 x99 (52 : Int))
       spec_l31Rd_pick N (4 : Int) x100
        (fun x102 x103 =>
         let x104 := IntKind.i64.wrap (x101 + x102)
         let x105 := (IntKind.i64.wrap (x104 - (1 : Int)))
         spec_l31Rd_ord_J14 N x94 x95 x105 x103
          (fun x118 x119 x120 =>
           k0 x118 x119 x120)))
    else
     spec_l31Rd_ord_J16 N x95 x96 x98
      (fun x153 x154 x155 =>
       k0 x153 x154 x155))
noncomputable def spec_l31Rd_ord_J9 {α : Type} := lockF (@spec_l31Rd_ord_J9.b α)
theorem spec_l31Rd_ord_J9.eq : @spec_l31Rd_ord_J9 = @spec_l31Rd_ord_J9.b := funext fun α => lockF_eq _
noncomputable def spec_l31Rd_ord_J7.b {α : Type} (N : Nat) (v73 : Int) (v74 : Int) (v75 : Int) (v76 : (List Int) × Int × Unit) (k0 : Int → Int → ((List Int) × Int × Unit) → Option α) : Option α :=
 let x77 := (decide (v75 = (0 : Int)))
 bif x77 then
  spec_l31Rd_pick N (6 : Int) v76
   (fun x78 x79 =>
    k0 v74 x78 x79)
 else
  spec_l31Rd_ord_J9 N v73 v74 v75 v76
   (fun x156 x157 x158 =>
    k0 x156 x157 x158)
noncomputable def spec_l31Rd_ord_J7 {α : Type} := lockF (@spec_l31Rd_ord_J7.b α)
theorem spec_l31Rd_ord_J7.eq : @spec_l31Rd_ord_J7 = @spec_l31Rd_ord_J7.b := funext fun α => lockF_eq _
noncomputable def spec_l31Rd_ord_J20.b {α : Type} (N : Nat) (v172 : Int) (v173 : Int) (v174 : (List Int) × Int × Unit) (k0 : Int → ((List Int) × Int × Unit) → Option α) : Option α :=
 let x175 := decide (v172 < v173)
 bif x175 then
  k0 v172 v174
 else
  k0 v173 v174
noncomputable def spec_l31Rd_ord_J20 {α : Type} := lockF (@spec_l31Rd_ord_J20.b α)
theorem spec_l31Rd_ord_J20.eq : @spec_l31Rd_ord_J20 = @spec_l31Rd_ord_J20.b := funext fun α => lockF_eq _
noncomputable def spec_l31Rd_ord_J18.b {α : Type} (N : Nat) (v162 : Int) (v163 : Int) (v164 : (List Int) × Int × Unit) (k0 : Int → ((List Int) × Int × Unit) → Option α) : Option α :=
 spec_l31Rd_pick N (40 : Int) v164
  (fun x165 x166 =>
   let x167 := (decide (x165 = (0 : Int)))
   bif x167 then
    let x168 := (IntKind.i64.wrap (v162 + (1 : Int)))
    spec_l31Rd_pick N (3 : Int) x166
     (fun x169 x170 =>
      let x171 := IntKind.i64.wrap (x168 + x169)
      k0 x171 x170)
   else
    spec_l31Rd_ord_J20 N v162 v163 x166
     (fun x176 x177 =>
      k0 x176 x177))
noncomputable def spec_l31Rd_ord_J18 {α : Type} := lockF (@spec_l31Rd_ord_J18.b α)
theorem spec_l31Rd_ord_J18.eq : @spec_l31Rd_ord_J18 = @spec_l31Rd_ord_J18.b := funext fun α => lockF_eq _
/-- (*spec.l31Rd).ord -/
noncomputable def spec_l31Rd_ord.b {α : Type} (N : Nat) (a65 : Int) (a66 : (List Int) × Int × Unit) (k0 : Int → ((List Int) × Int × Unit) → Option α) : Option α :=
 spec_BitTop N a65
  (fun x70 =>
   spec_l31Rd_pick N (10 : Int) a66
    (fun x71 x72 =>
     spec_l31Rd_ord_J7 N a65 x70 x71 x72
      (fun x159 x160 x161 =>
       spec_l31Rd_ord_J18 N x159 x160 x161
        (fun x178 x179 =>
         spec_l31Rd_pick N (2 : Int) x179
          (fun x180 x181 =>
           let x182 := (decide (x180 = (0 : Int)))
           bif x182 then
            let x183 := IntKind.i64.wrap (0 - x178)
            k0 x183 x181
           else
            k0 x178 x181)))))
noncomputable def spec_l31Rd_ord {α : Type} := lockF (@spec_l31Rd_ord.b α)
theorem spec_l31Rd_ord.eq : @spec_l31Rd_ord = @spec_l31Rd_ord.b := funext fun α => lockF_eq _

/-- spec.l1Width -/
noncomputable def spec_l1Width.b {α : Type} (N : Nat) (a240 : Int) (k0 : Bool → Option α) : Option α :=
 let x241 := (decide (a240 = (32 : Int)))
 bif x241 then
  k0 true
 else
  let x242 := (decide (a240 = (64 : Int)))
  k0 x242
noncomputable def spec_l1Width {α : Type} := lockF (@spec_l1Width.b α)
theorem spec_l1Width.eq : @spec_l1Width = @spec_l1Width.b := funext fun α => lockF_eq _

/-- spec.BitOk -/
noncomputable def spec_BitOk.b {α : Type} (N : Nat) (a238 : Int) (a239 : Int) (k0 : Bool → Option α) : Option α :=
 spec_l1Width N a238
  (fun x243 =>
   bif x243 then
    spec_BitTop N a238
     (fun x244 =>
      let x245 := IntKind.i64.wrap (0 - x244)
      let x246 := decide (x245 ≤ a239)
      bif x246 then
       spec_BitTop N a238
        (fun x247 =>
         let x248 := decide (a239 ≤ x247)
         k0 x248)
      else
       k0 false)
   else
    k0 false)
noncomputable def spec_BitOk {α : Type} := lockF (@spec_BitOk.b α)
theorem spec_BitOk.eq : @spec_BitOk = @spec_BitOk.b := funext fun α => lockF_eq _

/-- spec.PairOk -/
noncomputable def spec_PairOk.b {α : Type} (N : Nat) (a235 : Int) (a236 : Int × Int × Unit) (k0 : Bool → Option α) : Option α :=
 spec_BitTop N a235
  (fun x237 =>
   spec_BitOk N a235 a236.1
    (fun x249 =>
     bif x249 then
      spec_BitOk N a235 a236.2.1
       (fun x250 =>
        bif x250 then
         let x251 := decide (a236.1 ≤ a236.2.1)
         bif x251 then
          let x252 := decide (a236.1 < x237)
          bif x252 then
           let x253 := IntKind.i64.wrap (0 - x237)
           let x254 := decide (x253 < a236.2.1)
           k0 x254
          else
           k0 false
         else
          k0 false
        else
         k0 false)
     else
      k0 false))
noncomputable def spec_PairOk {α : Type} := lockF (@spec_PairOk.b α)
theorem spec_PairOk.eq : @spec_PairOk = @spec_PairOk.b := funext fun α => lockF_eq _

noncomputable def spec_l31Rd_few_J7.b {α : Type} (N : Nat) (v186 : Int) (v187 : Int) (v188 : Int) (v189 : Int) (v190 : (List Int) × Int × Unit) (v191 : List (Int × Int × Unit)) (v192 : List (Int × Int × Unit)) (k0 : Int → Int → Int → Int → ((List Int) × Int × Unit) → List (Int × Int × Unit) → List (Int × Int × Unit) → Option α) : Option α :=
 spec_BitTop N v186
  (fun x193 =>
   let x194 := (IntKind.i64.wrap (x193 - (20 : Int)))
   let x195 := decide (x194 ≤ v189)
   bif x195 then
    spec_BitTop N v186
     (fun x196 =>
      let x197 := (IntKind.i64.wrap (x196 - (20 : Int)))
      k0 v186 v187 v188 x197 v190 v191 v192)
   else
    k0 v186 v187 v188 v189 v190 v191 v192)
noncomputable def spec_l31Rd_few_J7 {α : Type} := lockF (@spec_l31Rd_few_J7.b α)
theorem spec_l31Rd_few_J7.eq : @spec_l31Rd_few_J7 = @spec_l31Rd_few_J7.b := funext fun α => lockF_eq _
noncomputable def spec_l31Rd_few_J9.b {α : Type} (N : Nat) (v205 : Int) (v206 : Int) (v207 : Int) (v208 : Int) (v209 : (List Int) × Int × Unit) (v210 : List (Int × Int × Unit)) (v211 : List (Int × Int × Unit)) (k0 : Int → Int → Int → Int → ((List Int) × Int × Unit) → List (Int × Int × Unit) → List (Int × Int × Unit) → Option α) : Option α :=
 spec_BitTop N v205
  (fun x212 =>
   let x213 := IntKind.i64.wrap (0 - x212)
   let x214 := decide (v208 < x213)
   bif x214 then
    spec_BitTop N v205
     (fun x215 =>
      let x216 := IntKind.i64.wrap (0 - x215)
      k0 v205 v206 v207 x216 v209 v210 v211)
   else
    k0 v205 v206 v207 v208 v209 v210 v211)
noncomputable def spec_l31Rd_few_J9 {α : Type} := lockF (@spec_l31Rd_few_J9.b α)
theorem spec_l31Rd_few_J9.eq : @spec_l31Rd_few_J9 = @spec_l31Rd_few_J9.b := funext fun α => lockF_eq _
noncomputable def spec_l31Rd_few_J12.b {α : Type} (N : Nat) (v227 : Int) (v228 : Int) (v229 : Int) (v230 : Int) (v231 : (List Int) × Int × Unit) (v232 : Int × Int × Unit) (v233 : List (Int × Int × Unit)) (v234 : List (Int × Int × Unit)) (k0 : Int → Int → Int → ((List Int) × Int × Unit) → (Int × Int × Unit) → List (Int × Int × Unit) → List (Int × Int × Unit) → Option α) : Option α :=
 spec_PairOk N v227 v232
  (fun x255 =>
   let x256 := !x255
   bif x256 then
    let x257 := (IntKind.i64.wrap (v230 + (1 : Int)))
    k0 v227 v228 v229 v231 (v232.1, (x257, ())) v233 v234
   else
    k0 v227 v228 v229 v231 v232 v233 v234)
noncomputable def spec_l31Rd_few_J12 {α : Type} := lockF (@spec_l31Rd_few_J12.b α)
theorem spec_l31Rd_few_J12.eq : @spec_l31Rd_few_J12 = @spec_l31Rd_few_J12.b := funext fun α => lockF_eq _
noncomputable def spec_l31Rd_few_L0r {α : Type} (N : Nat) (next : Int → Int → Int → ((List Int) × Int × Unit) → List (Int × Int × Unit) → List (Int × Int × Unit) → Option α) (k0 : ((List Int) × Int × Unit) → List (Int × Int × Unit) → List (Int × Int × Unit) → Option α) (v58 : Int) (v59 : Int) (v60 : Int) (v61 : (List Int) × Int × Unit) (v62 : List (Int × Int × Unit)) (v63 : List (Int × Int × Unit)) : Option α :=
 let x64 := decide (v60 < v59)
 bif x64 then
  spec_l31Rd_ord N v58 v61
   (fun x184 x185 =>
    spec_l31Rd_few_J7 N v58 v59 v60 x184 x185 v62 v63
     (fun x198 x199 x200 x201 x202 x203 x204 =>
      spec_l31Rd_few_J9 N x198 x199 x200 x201 x202 x203 x204
       (fun x217 x218 x219 x220 x221 x222 x223 =>
        spec_l31Rd_pick N (9 : Int) x221
         (fun x224 x225 =>
          let x226 := IntKind.i64.wrap (x220 + x224)
          spec_l31Rd_few_J12 N x217 x218 x219 x220 x225 (x220, (x226, ())) x222 x223
           (fun x258 x259 x260 x261 x262 x263 x264 =>
            let x265 := [x262]
            bif decide (x264.length + x265.length ≤ 8796093022208) then
             let x266 := x264 ++ x265
             let x267 := (IntKind.i64.wrap (x260 + (1 : Int)))
             next x258 x259 x267 x261 x263 x266
            else
             none)))))
 else
  k0 v61 v62 v63
noncomputable def spec_l31Rd_few_L0.b {α : Type} := fun N n v58 v59 v60 v61 v62 v63 k0 => loopN (fun next => @spec_l31Rd_few_L0r α N next k0) (fun _ _ _ _ _ _ => none) n v58 v59 v60 v61 v62 v63
noncomputable def spec_l31Rd_few_L0 {α : Type} := lockF (@spec_l31Rd_few_L0.b α)
theorem spec_l31Rd_few_L0.eq : @spec_l31Rd_few_L0 = @spec_l31Rd_few_L0.b := funext fun α => lockF_eq _
theorem spec_l31Rd_few_L0.zero {α : Type} (N v58 v59 v60 v61 v62 v63 k0) : @spec_l31Rd_few_L0 α N 0 v58 v59 v60 v61 v62 v63 k0 = none := by rw [spec_l31Rd_few_L0.eq]; rfl
theorem spec_l31Rd_few_L0.succ {α : Type} (N n v58 v59 v60 v61 v62 v63 k0) : @spec_l31Rd_few_L0 α N (n + 1) v58 v59 v60 v61 v62 v63 k0 = spec_l31Rd_few_L0r N (fun y0 y1 y2 y3 y4 y5 => spec_l31Rd_few_L0 N n y0 y1 y2 y3 y4 y5 k0) k0 v58 v59 v60 v61 v62 v63 := by rw [spec_l31Rd_few_L0.eq]; rfl
/-- (*spec.l31Rd).few -/
noncomputable def spec_l31Rd_few.b {α : Type} (N : Nat) (a53 : Int) (a54 : (List Int) × Int × Unit) (k0 : ((List Int) × Int × Unit) → List (Int × Int × Unit) → Option α) : Option α :=
 spec_l31Rd_pick N (3 : Int) a54
  (fun x55 x56 =>
   let x57 := (IntKind.i64.wrap ((1 : Int) + x55))
   spec_l31Rd_few_L0 N N a53 x57 (0 : Int) x56 [] []
    (fun x268 _ x270 =>
     k0 x268 x270))
noncomputable def spec_l31Rd_few {α : Type} := lockF (@spec_l31Rd_few.b α)
theorem spec_l31Rd_few.eq : @spec_l31Rd_few = @spec_l31Rd_few.b := funext fun α => lockF_eq _

/-- spec.FewBox -/
noncomputable def spec_FewBox.b {α : Type} (N : Nat) (a7 : List Int) (k0 : Int → List (Int × Int × Unit) → Option α) : Option α :=
 spec_l31Open N a7
  (fun x14 =>
   let x15 := [(32 : Int), (64 : Int)]
   spec_l31Rd_pick N (2 : Int) x14
    (fun x50 x51 =>
     bif (decide (x50 < (0 : Int))) then
      none
     else
      bif decide (x50.toNat < x15.length) then
       match x15[x50.toNat]? with
       | some x52 =>
        spec_l31Rd_few N x52 x51
         (fun _ x272 =>
          k0 x52 x272)
       | none => none
      else
       none))
noncomputable def spec_FewBox {α : Type} := lockF (@spec_FewBox.b α)
theorem spec_FewBox.eq : @spec_FewBox = @spec_FewBox.b := funext fun α => lockF_eq _

/-- impl.in -/
noncomputable def impl_in.b {α : Type} (N : Nat) (a280 : Int) (a281 : Int) (a282 : Int) (k0 : Bool → Option α) : Option α :=
 let x283 := decide (a281 ≤ a280)
 bif x283 then
  let x284 := decide (a280 ≤ a282)
  k0 x284
 else
  k0 false
noncomputable def impl_in {α : Type} := lockF (@impl_in.b α)
theorem impl_in.eq : @impl_in = @impl_in.b := funext fun α => lockF_eq _

/-- impl.formatOf -/
noncomputable def impl_formatOf.b {α : Type} (N : Nat) (a302 : Int) (k0 : (Int × Int × Int × Int × Unit) → Bool → Option α) : Option α :=
 let x303 := (decide (a302 = (32 : Int)))
 bif x303 then
  k0 ((23 : Int), ((-149 : Int), ((127 : Int), ((2139095040 : Int), ())))) true
 else
  let x304 := (decide (a302 = (64 : Int)))
  bif x304 then
   k0 ((52 : Int), ((-1074 : Int), ((1023 : Int), ((9218868437227405312 : Int), ())))) true
  else
   k0 ((0 : Int), ((0 : Int), ((0 : Int), ((0 : Int), ())))) false
noncomputable def impl_formatOf {α : Type} := lockF (@impl_formatOf.b α)
theorem impl_formatOf.eq : @impl_formatOf = @impl_formatOf.b := funext fun α => lockF_eq _

/-- impl.BitTop -/
noncomputable def impl_BitTop.b {α : Type} (N : Nat) (a301 : Int) (k0 : Int → Option α) : Option α :=
 impl_formatOf N a301
  (fun x305 _ =>
   k0 x305.2.2.2.1)
noncomputable def impl_BitTop {α : Type} := lockF (@impl_BitTop.b α)
theorem impl_BitTop.eq : @impl_BitTop = @impl_BitTop.b := funext fun α => lockF_eq _

/-- impl.BitOk -/
noncomputable def impl_BitOk.b {α : Type} (N : Nat) (a308 : Int) (a309 : Int) (k0 : Bool → Option α) : Option α :=
 impl_formatOf N a308
  (fun x310 x311 =>
   bif x311 then
    let x312 := IntKind.i64.wrap (0 - x310.2.2.2.1)
    impl_in N a309 x312 x310.2.2.2.1
     (fun x313 =>
      k0 x313)
   else
    k0 false)
noncomputable def impl_BitOk {α : Type} := lockF (@impl_BitOk.b α)
theorem impl_BitOk.eq : @impl_BitOk = @impl_BitOk.b := funext fun α => lockF_eq _

/-- impl.PairOk -/
noncomputable def impl_PairOk.b {α : Type} (N : Nat) (a299 : Int) (a300 : Int × Int × Unit) (k0 : Bool → Option α) : Option α :=
 impl_BitTop N a299
  (fun x307 =>
   impl_BitOk N a299 a300.1
    (fun x314 =>
     bif x314 then
      impl_BitOk N a299 a300.2.1
       (fun x315 =>
        bif x315 then
         let x316 := decide (a300.1 ≤ a300.2.1)
         bif x316 then
          let x317 := !(decide (a300.1 = x307))
          bif x317 then
           let x318 := IntKind.i64.wrap (0 - x307)
           let x319 := !(decide (a300.2.1 = x318))
           k0 x319
          else
           k0 false
         else
          k0 false
        else
         k0 false)
     else
      k0 false))
noncomputable def impl_PairOk {α : Type} := lockF (@impl_PairOk.b α)
theorem impl_PairOk.eq : @impl_PairOk = @impl_PairOk.b := funext fun α => lockF_eq _

/-- impl.BoxOk$1 -/
noncomputable def impl_BoxOk_1.b {α : Type} (N : Nat) (a297 : Int × Int × Unit) (a298 : Int) (k0 : Bool → Option α) : Option α :=
 impl_PairOk N a298 a297
  (fun x320 =>
   let x321 := !x320
   k0 x321)
noncomputable def impl_BoxOk_1 {α : Type} := lockF (@impl_BoxOk_1.b α)
theorem impl_BoxOk_1.eq : @impl_BoxOk_1 = @impl_BoxOk_1.b := funext fun α => lockF_eq _

noncomputable def slices_IndexFunc_impl_Pair_impl_Pair__impl_BoxOk_1_L0r {α : Type} (N : Nat) (next : List (Int × Int × Unit) → Int → Int → Int → Option α) (k0 : Int → Option α) (k1 : Option α) (v291 : List (Int × Int × Unit)) (v292 : Int) (v293 : Int) (v294 : Int) : Option α :=
 let x295 := decide (v294 < v293)
 bif x295 then
  bif (decide (v294 < (0 : Int))) then
   none
  else
   match v291[v294.toNat]? with
   | some x296 =>
    impl_BoxOk_1 N x296 v292
     (fun x322 =>
      bif x322 then
       k0 v294
      else
       let x323 := (IntKind.i64.wrap (v294 + (1 : Int)))
       next v291 v292 v293 x323)
   | none => none
 else
  k1
noncomputable def slices_IndexFunc_impl_Pair_impl_Pair__impl_BoxOk_1_L0.b {α : Type} := fun N n v291 v292 v293 v294 k0 k1 => loopN (fun next => @slices_IndexFunc_impl_Pair_impl_Pair__impl_BoxOk_1_L0r α N next k0 k1) (fun _ _ _ _ => none) n v291 v292 v293 v294
noncomputable def slices_IndexFunc_impl_Pair_impl_Pair__impl_BoxOk_1_L0 {α : Type} := lockF (@slices_IndexFunc_impl_Pair_impl_Pair__impl_BoxOk_1_L0.b α)
theorem slices_IndexFunc_impl_Pair_impl_Pair__impl_BoxOk_1_L0.eq : @slices_IndexFunc_impl_Pair_impl_Pair__impl_BoxOk_1_L0 = @slices_IndexFunc_impl_Pair_impl_Pair__impl_BoxOk_1_L0.b := funext fun α => lockF_eq _
theorem slices_IndexFunc_impl_Pair_impl_Pair__impl_BoxOk_1_L0.zero {α : Type} (N v291 v292 v293 v294 k0 k1) : @slices_IndexFunc_impl_Pair_impl_Pair__impl_BoxOk_1_L0 α N 0 v291 v292 v293 v294 k0 k1 = none := by rw [slices_IndexFunc_impl_Pair_impl_Pair__impl_BoxOk_1_L0.eq]; rfl
theorem slices_IndexFunc_impl_Pair_impl_Pair__impl_BoxOk_1_L0.succ {α : Type} (N n v291 v292 v293 v294 k0 k1) : @slices_IndexFunc_impl_Pair_impl_Pair__impl_BoxOk_1_L0 α N (n + 1) v291 v292 v293 v294 k0 k1 = slices_IndexFunc_impl_Pair_impl_Pair__impl_BoxOk_1_L0r N (fun y0 y1 y2 y3 => slices_IndexFunc_impl_Pair_impl_Pair__impl_BoxOk_1_L0 N n y0 y1 y2 y3 k0 k1) k0 k1 v291 v292 v293 v294 := by rw [slices_IndexFunc_impl_Pair_impl_Pair__impl_BoxOk_1_L0.eq]; rfl
/-- slices.IndexFunc[[]impl.Pair,impl.Pair] -/
noncomputable def slices_IndexFunc_impl_Pair_impl_Pair__impl_BoxOk_1.b {α : Type} (N : Nat) (a288 : List (Int × Int × Unit)) (a289 : Int) (k0 : Int → Option α) : Option α :=
 let x290 := ((a288.length : Nat) : Int)
 slices_IndexFunc_impl_Pair_impl_Pair__impl_BoxOk_1_L0 N N a288 a289 x290 (0 : Int)
  (fun x324 =>
   k0 x324)
  (
   k0 (-1 : Int))
noncomputable def slices_IndexFunc_impl_Pair_impl_Pair__impl_BoxOk_1 {α : Type} := lockF (@slices_IndexFunc_impl_Pair_impl_Pair__impl_BoxOk_1.b α)
theorem slices_IndexFunc_impl_Pair_impl_Pair__impl_BoxOk_1.eq : @slices_IndexFunc_impl_Pair_impl_Pair__impl_BoxOk_1 = @slices_IndexFunc_impl_Pair_impl_Pair__impl_BoxOk_1.b := funext fun α => lockF_eq _

/-- slices.ContainsFunc[[]impl.Pair,impl.Pair] -/
noncomputable def slices_ContainsFunc_impl_Pair_impl_Pair__impl_BoxOk_1.b {α : Type} (N : Nat) (a286 : List (Int × Int × Unit)) (a287 : Int) (k0 : Bool → Option α) : Option α :=
 slices_IndexFunc_impl_Pair_impl_Pair__impl_BoxOk_1 N a286 a287
  (fun x325 =>
   let x326 := (decide ((0 : Int) ≤ x325))
   k0 x326)
noncomputable def slices_ContainsFunc_impl_Pair_impl_Pair__impl_BoxOk_1 {α : Type} := lockF (@slices_ContainsFunc_impl_Pair_impl_Pair__impl_BoxOk_1.b α)
theorem slices_ContainsFunc_impl_Pair_impl_Pair__impl_BoxOk_1.eq : @slices_ContainsFunc_impl_Pair_impl_Pair__impl_BoxOk_1 = @slices_ContainsFunc_impl_Pair_impl_Pair__impl_BoxOk_1.b := funext fun α => lockF_eq _

/-- impl.BoxOk -/
noncomputable def impl_BoxOk.b {α : Type} (N : Nat) (a277 : Int) (a278 : (List (Int × Int × Unit)) × Unit) (k0 : Bool → Option α) : Option α :=
 let x279 := ((a278.1.length : Nat) : Int)
 impl_in N x279 (1 : Int) (6 : Int)
  (fun x285 =>
   bif x285 then
    slices_ContainsFunc_impl_Pair_impl_Pair__impl_BoxOk_1 N a278.1 a277
     (fun x327 =>
      let x328 := !x327
      k0 x328)
   else
    k0 false)
noncomputable def impl_BoxOk {α : Type} := lockF (@impl_BoxOk.b α)
theorem impl_BoxOk.eq : @impl_BoxOk = @impl_BoxOk.b := funext fun α => lockF_eq _

/-- impl.BitGap -/
noncomputable def impl_BitGap.b {α : Type} (N : Nat) (a339 : Int) (a340 : Int) (k0 : Int → Option α) : Option α :=
 let x341 := decide (a340 < a339)
 bif x341 then
  k0 (0 : Int)
 else
  let x342 := IntKind.u64.wrap a340
  let x343 := IntKind.u64.wrap a339
  let x344 := IntKind.u64.wrap (x342 - x343)
  k0 x344
noncomputable def impl_BitGap {α : Type} := lockF (@impl_BitGap.b α)
theorem impl_BitGap.eq : @impl_BitGap = @impl_BitGap.b := funext fun α => lockF_eq _

/-- (impl.Pair).steps -/
noncomputable def impl_Pair_steps.b {α : Type} (N : Nat) (a338 : Int × Int × Unit) (k0 : Int → Option α) : Option α :=
 impl_BitGap N a338.1 a338.2.1
  (fun x345 =>
   k0 x345)
noncomputable def impl_Pair_steps {α : Type} := lockF (@impl_Pair_steps.b α)
theorem impl_Pair_steps.eq : @impl_Pair_steps = @impl_Pair_steps.b := funext fun α => lockF_eq _

noncomputable def impl_BoxUnits_J8.b {α : Type} (N : Nat) (v347 : Int) (v348 : Int) (v349 : List (Int × Int × Unit)) (v350 : Int) (v351 : Int) (k0 : Int → List (Int × Int × Unit) → Int → Int → Option α) : Option α :=
 let x352 := (decide ((0 : Int) < v348))
 bif x352 then
  let x353 := (minI v348 (1000000000 : Int))
  let x354 := IntKind.i64.wrap x353
  let x355 := (IntKind.i64.wrap ((4 : Int) * x354))
  let x356 := (IntKind.i64.wrap (x355 - (1 : Int)))
  let x357 := IntKind.i64.wrap (v347 * x356)
  let x358 := (minI (1000000000 : Int) x357)
  k0 x358 v349 v350 v351
 else
  k0 v347 v349 v350 v351
noncomputable def impl_BoxUnits_J8 {α : Type} := lockF (@impl_BoxUnits_J8.b α)
theorem impl_BoxUnits_J8.eq : @impl_BoxUnits_J8 = @impl_BoxUnits_J8.b := funext fun α => lockF_eq _
noncomputable def impl_BoxUnits_L0r {α : Type} (N : Nat) (next : Int → List (Int × Int × Unit) → Int → Int → Option α) (k0 : Int → Option α) (v332 : Int) (v333 : List (Int × Int × Unit)) (v334 : Int) (v335 : Int) : Option α :=
 let x336 := decide (v335 < v334)
 bif x336 then
  bif (decide (v335 < (0 : Int))) then
   none
  else
   match v333[v335.toNat]? with
   | some x337 =>
    impl_Pair_steps N x337
     (fun x346 =>
      impl_BoxUnits_J8 N v332 x346 v333 v334 v335
       (fun x359 x360 x361 x362 =>
        let x363 := (IntKind.i64.wrap (x362 + (1 : Int)))
        next x359 x360 x361 x363))
   | none => none
 else
  k0 v332
noncomputable def impl_BoxUnits_L0.b {α : Type} := fun N n v332 v333 v334 v335 k0 => loopN (fun next => @impl_BoxUnits_L0r α N next k0) (fun _ _ _ _ => none) n v332 v333 v334 v335
noncomputable def impl_BoxUnits_L0 {α : Type} := lockF (@impl_BoxUnits_L0.b α)
theorem impl_BoxUnits_L0.eq : @impl_BoxUnits_L0 = @impl_BoxUnits_L0.b := funext fun α => lockF_eq _
theorem impl_BoxUnits_L0.zero {α : Type} (N v332 v333 v334 v335 k0) : @impl_BoxUnits_L0 α N 0 v332 v333 v334 v335 k0 = none := by rw [impl_BoxUnits_L0.eq]; rfl
theorem impl_BoxUnits_L0.succ {α : Type} (N n v332 v333 v334 v335 k0) : @impl_BoxUnits_L0 α N (n + 1) v332 v333 v334 v335 k0 = impl_BoxUnits_L0r N (fun y0 y1 y2 y3 => impl_BoxUnits_L0 N n y0 y1 y2 y3 k0) k0 v332 v333 v334 v335 := by rw [impl_BoxUnits_L0.eq]; rfl
/-- impl.BoxUnits -/
noncomputable def impl_BoxUnits.b {α : Type} (N : Nat) (a275 : Int) (a276 : (List (Int × Int × Unit)) × Unit) (k0 : Int → Option α) : Option α :=
 impl_BoxOk N a275 a276
  (fun x329 =>
   let x330 := !x329
   bif x330 then
    k0 (0 : Int)
   else
    let x331 := ((a276.1.length : Nat) : Int)
    impl_BoxUnits_L0 N N (1 : Int) a276.1 x331 (0 : Int)
     (fun x364 =>
      k0 x364))
noncomputable def impl_BoxUnits {α : Type} := lockF (@impl_BoxUnits.b α)
theorem impl_BoxUnits.eq : @impl_BoxUnits = @impl_BoxUnits.b := funext fun α => lockF_eq _

noncomputable def math_bits_Len64_J1.b {α : Type} (N : Nat) (v379 : Int) (v380 : Int) (k0 : Int → Int → Option α) : Option α :=
 let x381 := (decide ((4294967296 : Int) ≤ v379))
 bif x381 then
  let x382 := (shrI .u64 v379 (32 : Int))
  k0 x382 (32 : Int)
 else
  k0 v379 v380
noncomputable def math_bits_Len64_J1 {α : Type} := lockF (@math_bits_Len64_J1.b α)
theorem math_bits_Len64_J1.eq : @math_bits_Len64_J1 = @math_bits_Len64_J1.b := funext fun α => lockF_eq _
noncomputable def math_bits_Len64_J4.b {α : Type} (N : Nat) (v385 : Int) (v386 : Int) (k0 : Int → Int → Option α) : Option α :=
 let x387 := (decide ((65536 : Int) ≤ v385))
 bif x387 then
  let x388 := (shrI .u64 v385 (16 : Int))
  let x389 := (IntKind.i64.wrap (v386 + (16 : Int)))
  k0 x388 x389
 else
  k0 v385 v386
noncomputable def math_bits_Len64_J4 {α : Type} := lockF (@math_bits_Len64_J4.b α)
theorem math_bits_Len64_J4.eq : @math_bits_Len64_J4 = @math_bits_Len64_J4.b := funext fun α => lockF_eq _
noncomputable def math_bits_Len64_J7.b {α : Type} (N : Nat) (v392 : Int) (v393 : Int) (k0 : Int → Int → Option α) : Option α :=
 let x394 := (decide ((256 : Int) ≤ v392))
 bif x394 then
  let x395 := (shrI .u64 v392 (8 : Int))
  let x396 := (IntKind.i64.wrap (v393 + (8 : Int)))
  k0 x395 x396
 else
  k0 v392 v393
noncomputable def math_bits_Len64_J7 {α : Type} := lockF (@math_bits_Len64_J7.b α)
theorem math_bits_Len64_J7.eq : @math_bits_Len64_J7 = @math_bits_Len64_J7.b := funext fun α => lockF_eq _
/-- math/bits.Len64 -/
noncomputable def math_bits_Len64.b {α : Type} (N : Nat) (a378 : Int) (k0 : Int → Option α) : Option α :=
 math_bits_Len64_J1 N a378 (0 : Int)
  (fun x383 x384 =>
   math_bits_Len64_J4 N x383 x384
    (fun x390 x391 =>
     math_bits_Len64_J7 N x390 x391
      (fun x397 x398 =>
       let x399 := IntKind.u8.wrap x397
       bif (decide (x399 < (0 : Int))) then
        none
       else
        match ((⟨#[0, 1, 2, 2, 3, 3, 3, 3, 4, 4, 4, 4, 4, 4, 4, 4, 5, 5, 5, 5, 5, 5, 5, 5, 5, 5, 5, 5, 5, 5, 5, 5, 6, 6, 6, 6, 6, 6, 6, 6, 6, 6, 6, 6, 6, 6, 6, 6, 6, 6, 6, 6, 6, 6, 6, 6, 6, 6, 6, 6, 6, 6, 6, 6, 7, 7, 7, 7, 7, 7, 7, 7, 7, 7, 7, 7, 7, 7, 7, 7, 7, 7, 7, 7, 7, 7, 7, 7, 7, 7, 7, 7, 7, 7, 7, 7, 7, 7, 7, 7, 7, 7, 7, 7, 7, 7, 7, 7, 7, 7, 7, 7, 7, 7, 7, 7, 7, 7, 7, 7, 7, 7, 7, 7, 7, 7, 7, 7, 8, 8, 8, 8, 8, 8, 8, 8, 8, 8, 8, 8, 8, 8, 8, 8, 8, 8, 8, 8, 8, 8, 8, 8, 8, 8, 8, 8, 8, 8, 8, 8, 8, 8, 8, 8, 8, 8, 8, 8, 8, 8, 8, 8, 8, 8, 8, 8, 8, 8, 8, 8, 8, 8, 8, 8, 8, 8, 8, 8, 8, 8, 8, 8, 8, 8, 8, 8, 8, 8, 8, 8, 8, 8, 8, 8, 8, 8, 8, 8, 8, 8, 8, 8, 8, 8, 8, 8, 8, 8, 8, 8, 8, 8, 8, 8, 8, 8, 8, 8, 8, 8, 8, 8, 8, 8, 8, 8, 8, 8, 8, 8, 8, 8, 8, 8, 8, 8, 8, 8, 8, 8, 8, 8, 8, 8, 8, 8]⟩ : ByteArray)[x399.toNat]? : Option UInt8) with
        | some x400 =>
         let x401 := ((x400.toNat : Nat) : Int)
         let x402 := IntKind.i64.wrap x401
         let x403 := IntKind.i64.wrap (x398 + x402)
         k0 x403
        | none => none)))
noncomputable def math_bits_Len64 {α : Type} := lockF (@math_bits_Len64.b α)
theorem math_bits_Len64.eq : @math_bits_Len64 = @math_bits_Len64.b := funext fun α => lockF_eq _

noncomputable def impl_BoxPath_L0r {α : Type} (N : Nat) (next : Int → List (Int × Int × Unit) → Int → Int → Option α) (k0 : Int → Option α) (v371 : Int) (v372 : List (Int × Int × Unit)) (v373 : Int) (v374 : Int) : Option α :=
 let x375 := decide (v374 < v373)
 bif x375 then
  bif (decide (v374 < (0 : Int))) then
   none
  else
   match v372[v374.toNat]? with
   | some x376 =>
    impl_Pair_steps N x376
     (fun x377 =>
      math_bits_Len64 N x377
       (fun x404 =>
        let x405 := IntKind.i64.wrap (v371 + x404)
        let x406 := (IntKind.i64.wrap (v374 + (1 : Int)))
        next x405 v372 v373 x406))
   | none => none
 else
  k0 v371
noncomputable def impl_BoxPath_L0.b {α : Type} := fun N n v371 v372 v373 v374 k0 => loopN (fun next => @impl_BoxPath_L0r α N next k0) (fun _ _ _ _ => none) n v371 v372 v373 v374
noncomputable def impl_BoxPath_L0 {α : Type} := lockF (@impl_BoxPath_L0.b α)
theorem impl_BoxPath_L0.eq : @impl_BoxPath_L0 = @impl_BoxPath_L0.b := funext fun α => lockF_eq _
theorem impl_BoxPath_L0.zero {α : Type} (N v371 v372 v373 v374 k0) : @impl_BoxPath_L0 α N 0 v371 v372 v373 v374 k0 = none := by rw [impl_BoxPath_L0.eq]; rfl
theorem impl_BoxPath_L0.succ {α : Type} (N n v371 v372 v373 v374 k0) : @impl_BoxPath_L0 α N (n + 1) v371 v372 v373 v374 k0 = impl_BoxPath_L0r N (fun y0 y1 y2 y3 => impl_BoxPath_L0 N n y0 y1 y2 y3 k0) k0 v371 v372 v373 v374 := by rw [impl_BoxPath_L0.eq]; rfl
/-- impl.BoxPath -/
noncomputable def impl_BoxPath.b {α : Type} (N : Nat) (a366 : Int) (a367 : (List (Int × Int × Unit)) × Unit) (k0 : Int → Option α) : Option α :=
 impl_BoxOk N a366 a367
  (fun x368 =>
   let x369 := !x368
   bif x369 then
    k0 (0 : Int)
   else
    let x370 := ((a367.1.length : Nat) : Int)
    impl_BoxPath_L0 N N (1 : Int) a367.1 x370 (0 : Int)
     (fun x407 =>
      k0 x407))
noncomputable def impl_BoxPath {α : Type} := lockF (@impl_BoxPath.b α)
theorem impl_BoxPath.eq : @impl_BoxPath = @impl_BoxPath.b := funext fun α => lockF_eq _

noncomputable def spec_BoxOk_L0r {α : Type} (N : Nat) (next : Int → Int → ((List (Int × Int × Unit)) × Unit) → Option α) (k0 : Bool → Option α) (k1 : Option α) (v417 : Int) (v418 : Int) (v419 : (List (Int × Int × Unit)) × Unit) : Option α :=
 let x420 := ((v419.1.length : Nat) : Int)
 let x421 := decide (v418 < x420)
 bif x421 then
  bif (decide (v418 < (0 : Int))) then
   none
  else
   match v419.1[v418.toNat]? with
   | some x422 =>
    spec_PairOk N v417 x422
     (fun x423 =>
      let x424 := !x423
      bif x424 then
       k0 false
      else
       let x425 := (IntKind.i64.wrap (v418 + (1 : Int)))
       next v417 x425 v419)
   | none => none
 else
  k1
noncomputable def spec_BoxOk_L0.b {α : Type} := fun N n v417 v418 v419 k0 k1 => loopN (fun next => @spec_BoxOk_L0r α N next k0 k1) (fun _ _ _ => none) n v417 v418 v419
noncomputable def spec_BoxOk_L0 {α : Type} := lockF (@spec_BoxOk_L0.b α)
theorem spec_BoxOk_L0.eq : @spec_BoxOk_L0 = @spec_BoxOk_L0.b := funext fun α => lockF_eq _
theorem spec_BoxOk_L0.zero {α : Type} (N v417 v418 v419 k0 k1) : @spec_BoxOk_L0 α N 0 v417 v418 v419 k0 k1 = none := by rw [spec_BoxOk_L0.eq]; rfl
theorem spec_BoxOk_L0.succ {α : Type} (N n v417 v418 v419 k0 k1) : @spec_BoxOk_L0 α N (n + 1) v417 v418 v419 k0 k1 = spec_BoxOk_L0r N (fun y0 y1 y2 => spec_BoxOk_L0 N n y0 y1 y2 k0 k1) k0 k1 v417 v418 v419 := by rw [spec_BoxOk_L0.eq]; rfl
/-- spec.BoxOk -/
noncomputable def spec_BoxOk.b {α : Type} (N : Nat) (a411 : Int) (a412 : (List (Int × Int × Unit)) × Unit) (k0 : Bool → Option α) : Option α :=
 let x413 := ((a412.1.length : Nat) : Int)
 let x414 := (decide (x413 < (1 : Int)))
 bif x414 then
  k0 false
 else
  let x415 := ((a412.1.length : Nat) : Int)
  let x416 := (decide ((6 : Int) < x415))
  bif x416 then
   k0 false
  else
   spec_BoxOk_L0 N N a411 (0 : Int) a412
    (fun x426 =>
     k0 x426)
    (
     k0 true)
noncomputable def spec_BoxOk {α : Type} := lockF (@spec_BoxOk.b α)
theorem spec_BoxOk.eq : @spec_BoxOk = @spec_BoxOk.b := funext fun α => lockF_eq _

/-- spec.BitGap -/
noncomputable def spec_BitGap.b {α : Type} (N : Nat) (a436 : Int) (a437 : Int) (k0 : Int → Option α) : Option α :=
 let x438 := decide (a437 < a436)
 bif x438 then
  k0 (0 : Int)
 else
  let x439 := IntKind.u64.wrap a437
  let x440 := IntKind.u64.wrap a436
  let x441 := IntKind.u64.wrap (x439 - x440)
  k0 x441
noncomputable def spec_BitGap {α : Type} := lockF (@spec_BitGap.b α)
theorem spec_BitGap.eq : @spec_BitGap = @spec_BitGap.b := funext fun α => lockF_eq _

/-- spec.l3Gap -/
noncomputable def spec_l3Gap.b {α : Type} (N : Nat) (a435 : Int × Int × Unit) (k0 : Int → Option α) : Option α :=
 spec_BitGap N a435.1 a435.2.1
  (fun x442 =>
   k0 x442)
noncomputable def spec_l3Gap {α : Type} := lockF (@spec_l3Gap.b α)
theorem spec_l3Gap.eq : @spec_l3Gap = @spec_l3Gap.b := funext fun α => lockF_eq _

noncomputable def spec_BoxUnits_L0r {α : Type} (N : Nat) (next : Int → Int → ((List (Int × Int × Unit)) × Unit) → Option α) (k0 : Int → Option α) (k1 : Int → Option α) (v429 : Int) (v430 : Int) (v431 : (List (Int × Int × Unit)) × Unit) : Option α :=
 let x432 := ((v431.1.length : Nat) : Int)
 let x433 := decide (v430 < x432)
 bif x433 then
  bif (decide (v430 < (0 : Int))) then
   none
  else
   match v431.1[v430.toNat]? with
   | some x434 =>
    spec_l3Gap N x434
     (fun x443 =>
      let x444 := (decide (x443 = (0 : Int)))
      bif x444 then
       let x445 := (IntKind.i64.wrap (v430 + (1 : Int)))
       next v429 x445 v431
      else
       let x446 := (decide ((1000000000 : Int) < x443))
       bif x446 then
        k0 (1000000000 : Int)
       else
        let x447 := IntKind.i64.wrap x443
        let x448 := (IntKind.i64.wrap ((4 : Int) * x447))
        let x449 := (IntKind.i64.wrap (x448 - (1 : Int)))
        let x450 := IntKind.i64.wrap (v429 * x449)
        let x451 := (decide ((1000000000 : Int) ≤ x450))
        bif x451 then
         k0 (1000000000 : Int)
        else
         let x452 := (IntKind.i64.wrap (v430 + (1 : Int)))
         next x450 x452 v431)
   | none => none
 else
  k1 v429
noncomputable def spec_BoxUnits_L0.b {α : Type} := fun N n v429 v430 v431 k0 k1 => loopN (fun next => @spec_BoxUnits_L0r α N next k0 k1) (fun _ _ _ => none) n v429 v430 v431
noncomputable def spec_BoxUnits_L0 {α : Type} := lockF (@spec_BoxUnits_L0.b α)
theorem spec_BoxUnits_L0.eq : @spec_BoxUnits_L0 = @spec_BoxUnits_L0.b := funext fun α => lockF_eq _
theorem spec_BoxUnits_L0.zero {α : Type} (N v429 v430 v431 k0 k1) : @spec_BoxUnits_L0 α N 0 v429 v430 v431 k0 k1 = none := by rw [spec_BoxUnits_L0.eq]; rfl
theorem spec_BoxUnits_L0.succ {α : Type} (N n v429 v430 v431 k0 k1) : @spec_BoxUnits_L0 α N (n + 1) v429 v430 v431 k0 k1 = spec_BoxUnits_L0r N (fun y0 y1 y2 => spec_BoxUnits_L0 N n y0 y1 y2 k0 k1) k0 k1 v429 v430 v431 := by rw [spec_BoxUnits_L0.eq]; rfl
/-- spec.BoxUnits -/
noncomputable def spec_BoxUnits.b {α : Type} (N : Nat) (a409 : Int) (a410 : (List (Int × Int × Unit)) × Unit) (k0 : Int → Option α) : Option α :=
 spec_BoxOk N a409 a410
  (fun x427 =>
   let x428 := !x427
   bif x428 then
    k0 (0 : Int)
   else
    spec_BoxUnits_L0 N N (1 : Int) (0 : Int) a410
     (fun x453 =>
      k0 x453)
     (fun x454 =>
      k0 x454))
noncomputable def spec_BoxUnits {α : Type} := lockF (@spec_BoxUnits.b α)
theorem spec_BoxUnits.eq : @spec_BoxUnits = @spec_BoxUnits.b := funext fun α => lockF_eq _

noncomputable def spec_l4Halvings_L0r {α : Type} (N : Nat) (next : Int → Int → Option α) (k0 : Int → Option α) (v469 : Int) (v470 : Int) : Option α :=
 let x471 := (decide ((0 : Int) < v469))
 bif x471 then
  let x472 := (IntKind.u64.wrap (Int.tdiv v469 (2 : Int)))
  let x473 := (IntKind.i64.wrap (v470 + (1 : Int)))
  next x472 x473
 else
  k0 v470
noncomputable def spec_l4Halvings_L0.b {α : Type} := fun N n v469 v470 k0 => loopN (fun next => @spec_l4Halvings_L0r α N next k0) (fun _ _ => none) n v469 v470
noncomputable def spec_l4Halvings_L0 {α : Type} := lockF (@spec_l4Halvings_L0.b α)
theorem spec_l4Halvings_L0.eq : @spec_l4Halvings_L0 = @spec_l4Halvings_L0.b := funext fun α => lockF_eq _
theorem spec_l4Halvings_L0.zero {α : Type} (N v469 v470 k0) : @spec_l4Halvings_L0 α N 0 v469 v470 k0 = none := by rw [spec_l4Halvings_L0.eq]; rfl
theorem spec_l4Halvings_L0.succ {α : Type} (N n v469 v470 k0) : @spec_l4Halvings_L0 α N (n + 1) v469 v470 k0 = spec_l4Halvings_L0r N (fun y0 y1 => spec_l4Halvings_L0 N n y0 y1 k0) k0 v469 v470 := by rw [spec_l4Halvings_L0.eq]; rfl
/-- spec.l4Halvings -/
noncomputable def spec_l4Halvings.b {α : Type} (N : Nat) (a468 : Int) (k0 : Int → Option α) : Option α :=
 spec_l4Halvings_L0 N N a468 (0 : Int)
  (fun x474 =>
   k0 x474)
noncomputable def spec_l4Halvings {α : Type} := lockF (@spec_l4Halvings.b α)
theorem spec_l4Halvings.eq : @spec_l4Halvings = @spec_l4Halvings.b := funext fun α => lockF_eq _

noncomputable def spec_BoxPath_L0r {α : Type} (N : Nat) (next : Int → Int → ((List (Int × Int × Unit)) × Unit) → Option α) (k0 : Int → Option α) (v461 : Int) (v462 : Int) (v463 : (List (Int × Int × Unit)) × Unit) : Option α :=
 let x464 := ((v463.1.length : Nat) : Int)
 let x465 := decide (v462 < x464)
 bif x465 then
  bif (decide (v462 < (0 : Int))) then
   none
  else
   match v463.1[v462.toNat]? with
   | some x466 =>
    spec_l3Gap N x466
     (fun x467 =>
      spec_l4Halvings N x467
       (fun x475 =>
        let x476 := IntKind.i64.wrap (v461 + x475)
        let x477 := (IntKind.i64.wrap (v462 + (1 : Int)))
        next x476 x477 v463))
   | none => none
 else
  k0 v461
noncomputable def spec_BoxPath_L0.b {α : Type} := fun N n v461 v462 v463 k0 => loopN (fun next => @spec_BoxPath_L0r α N next k0) (fun _ _ _ => none) n v461 v462 v463
noncomputable def spec_BoxPath_L0 {α : Type} := lockF (@spec_BoxPath_L0.b α)
theorem spec_BoxPath_L0.eq : @spec_BoxPath_L0 = @spec_BoxPath_L0.b := funext fun α => lockF_eq _
theorem spec_BoxPath_L0.zero {α : Type} (N v461 v462 v463 k0) : @spec_BoxPath_L0 α N 0 v461 v462 v463 k0 = none := by rw [spec_BoxPath_L0.eq]; rfl
theorem spec_BoxPath_L0.succ {α : Type} (N n v461 v462 v463 k0) : @spec_BoxPath_L0 α N (n + 1) v461 v462 v463 k0 = spec_BoxPath_L0r N (fun y0 y1 y2 => spec_BoxPath_L0 N n y0 y1 y2 k0) k0 v461 v462 v463 := by rw [spec_BoxPath_L0.eq]; rfl
/-- spec.BoxPath -/
noncomputable def spec_BoxPath.b {α : Type} (N : Nat) (a457 : Int) (a458 : (List (Int × Int × Unit)) × Unit) (k0 : Int → Option α) : Option α :=
 spec_BoxOk N a457 a458
  (fun x459 =>
   let x460 := !x459
   bif x460 then
    k0 (0 : Int)
   else
    spec_BoxPath_L0 N N (1 : Int) (0 : Int) a458
     (fun x478 =>
      k0 x478))
noncomputable def spec_BoxPath {α : Type} := lockF (@spec_BoxPath.b α)
theorem spec_BoxPath.eq : @spec_BoxPath = @spec_BoxPath.b := funext fun α => lockF_eq _

noncomputable def impl_BoxWidest_J7.b {α : Type} (N : Nat) (v517 : Int) (v518 : Int) (v519 : List (Int × Int × Unit)) (v520 : Int) (v521 : Int) (v522 : (List (Int × Int × Unit)) × Unit) (v523 : Int × Int × Unit) (k0 : Int → List (Int × Int × Unit) → Int → Int → ((List (Int × Int × Unit)) × Unit) → Option α) : Option α :=
 impl_Pair_steps N v523
  (fun x524 =>
   bif (decide (v517 < (0 : Int))) then
    none
   else
    match v522.1[v517.toNat]? with
    | some x525 =>
     impl_Pair_steps N x525
      (fun x526 =>
       let x527 := decide (x526 < x524)
       bif x527 then
        k0 v518 v519 v520 v521 v522
       else
        k0 v517 v519 v520 v521 v522)
    | none => none)
noncomputable def impl_BoxWidest_J7 {α : Type} := lockF (@impl_BoxWidest_J7.b α)
theorem impl_BoxWidest_J7.eq : @impl_BoxWidest_J7 = @impl_BoxWidest_J7.b := funext fun α => lockF_eq _
noncomputable def impl_BoxWidest_L0r {α : Type} (N : Nat) (next : Int → List (Int × Int × Unit) → Int → Int → ((List (Int × Int × Unit)) × Unit) → Option α) (k0 : Int → Option α) (v510 : Int) (v511 : List (Int × Int × Unit)) (v512 : Int) (v513 : Int) (v514 : (List (Int × Int × Unit)) × Unit) : Option α :=
 let x515 := decide (v513 < v512)
 bif x515 then
  bif (decide (v513 < (0 : Int))) then
   none
  else
   match v511[v513.toNat]? with
   | some x516 =>
    impl_BoxWidest_J7 N v510 v513 v511 v512 v513 v514 x516
     (fun x528 x529 x530 x531 x532 =>
      let x533 := (IntKind.i64.wrap (x531 + (1 : Int)))
      next x528 x529 x530 x533 x532)
   | none => none
 else
  k0 v510
noncomputable def impl_BoxWidest_L0.b {α : Type} := fun N n v510 v511 v512 v513 v514 k0 => loopN (fun next => @impl_BoxWidest_L0r α N next k0) (fun _ _ _ _ _ => none) n v510 v511 v512 v513 v514
noncomputable def impl_BoxWidest_L0 {α : Type} := lockF (@impl_BoxWidest_L0.b α)
theorem impl_BoxWidest_L0.eq : @impl_BoxWidest_L0 = @impl_BoxWidest_L0.b := funext fun α => lockF_eq _
theorem impl_BoxWidest_L0.zero {α : Type} (N v510 v511 v512 v513 v514 k0) : @impl_BoxWidest_L0 α N 0 v510 v511 v512 v513 v514 k0 = none := by rw [impl_BoxWidest_L0.eq]; rfl
theorem impl_BoxWidest_L0.succ {α : Type} (N n v510 v511 v512 v513 v514 k0) : @impl_BoxWidest_L0 α N (n + 1) v510 v511 v512 v513 v514 k0 = impl_BoxWidest_L0r N (fun y0 y1 y2 y3 y4 => impl_BoxWidest_L0 N n y0 y1 y2 y3 y4 k0) k0 v510 v511 v512 v513 v514 := by rw [impl_BoxWidest_L0.eq]; rfl
/-- impl.BoxWidest -/
noncomputable def impl_BoxWidest.b {α : Type} (N : Nat) (a505 : Int) (a506 : (List (Int × Int × Unit)) × Unit) (k0 : Int → Option α) : Option α :=
 impl_BoxOk N a505 a506
  (fun x507 =>
   let x508 := !x507
   bif x508 then
    k0 (-1 : Int)
   else
    let x509 := ((a506.1.length : Nat) : Int)
    impl_BoxWidest_L0 N N (0 : Int) a506.1 x509 (0 : Int) a506
     (fun x534 =>
      k0 x534))
noncomputable def impl_BoxWidest {α : Type} := lockF (@impl_BoxWidest.b α)
theorem impl_BoxWidest.eq : @impl_BoxWidest = @impl_BoxWidest.b := funext fun α => lockF_eq _

/-- laws.pbByte -/
noncomputable def laws_pbByte.b {α : Type} (N : Nat) (a542 : List Int) (a543 : Int) (k0 : Int → Option α) : Option α :=
 let x544 := ((a542.length : Nat) : Int)
 let x545 := decide (a543 < x544)
 bif x545 then
  bif (decide (a543 < (0 : Int))) then
   none
  else
   match a542[a543.toNat]? with
   | some x546 =>
    let x547 := IntKind.i64.wrap x546
    k0 x547
   | none => none
 else
  let x548 := (IntKind.i64.wrap (a543 * (37 : Int)))
  let x549 := (Int.tmod x548 (251 : Int))
  k0 x549
noncomputable def laws_pbByte {α : Type} := lockF (@laws_pbByte.b α)
theorem laws_pbByte.eq : @laws_pbByte = @laws_pbByte.b := funext fun α => lockF_eq _

/-- impl.BitMiddle -/
noncomputable def impl_BitMiddle.b {α : Type} (N : Nat) (a725 : Int) (a726 : Int) (k0 : Int → Option α) : Option α :=
 impl_BitGap N a725 a726
  (fun x727 =>
   let x728 := (IntKind.u64.wrap (Int.tdiv x727 (2 : Int)))
   let x729 := IntKind.i64.wrap x728
   let x730 := IntKind.i64.wrap (a725 + x729)
   k0 x730)
noncomputable def impl_BitMiddle {α : Type} := lockF (@impl_BitMiddle.b α)
theorem impl_BitMiddle.eq : @impl_BitMiddle = @impl_BitMiddle.b := funext fun α => lockF_eq _

/-- impl.PairSplit -/
noncomputable def impl_PairSplit.b {α : Type} (N : Nat) (a719 : Int) (a720 : Int × Int × Unit) (k0 : (Int × Int × Unit) → (Int × Int × Unit) → Bool → Option α) : Option α :=
 impl_PairOk N a719 a720
  (fun x721 =>
   let x722 := !x721
   bif x722 then
    k0 ((0 : Int), ((0 : Int), ())) ((0 : Int), ((0 : Int), ())) false
   else
    impl_Pair_steps N a720
     (fun x723 =>
      let x724 := (decide (x723 < (2 : Int)))
      bif x724 then
       k0 ((0 : Int), ((0 : Int), ())) ((0 : Int), ((0 : Int), ())) false
      else
       impl_BitMiddle N a720.1 a720.2.1
        (fun x731 =>
         k0 (a720.1, (x731, ())) (x731, (a720.2.1, ())) true)))
noncomputable def impl_PairSplit {α : Type} := lockF (@impl_PairSplit.b α)
theorem impl_PairSplit.eq : @impl_PairSplit = @impl_PairSplit.b := funext fun α => lockF_eq _

/-- impl.BoxSplit$1 -/
noncomputable def impl_BoxSplit_1.b {α : Type} (N : Nat) (a717 : Int × Int × Unit) (a718 : Int) (k0 : (Int × Int × Unit) → (Int × Int × Unit) → Bool → Option α) : Option α :=
 impl_PairSplit N a718 a717
  (fun x732 x733 x734 =>
   k0 x732 x733 x734)
noncomputable def impl_BoxSplit_1 {α : Type} := lockF (@impl_BoxSplit_1.b α)
theorem impl_BoxSplit_1.eq : @impl_BoxSplit_1 = @impl_BoxSplit_1.b := funext fun α => lockF_eq _

/-- slices.Clone[[]loop.example/pinfold/impl.Pair,loop.example/pinfold/impl.Pair] -/
noncomputable def slices_Clone_impl_Pair_impl_Pair {α : Type} (N : Nat) (a1 : List (Int × Int × Unit)) (k0 : List (Int × Int × Unit) → Option α) : Option α :=
  bif decide (([] : List (Int × Int × Unit)).length + a1.length ≤ 8796093022208) then k0 a1 else none

/-- slices.Clip[[]impl.Pair,impl.Pair] -/
noncomputable def slices_Clip_impl_Pair_impl_Pair.b {α : Type} (N : Nat) (a744 : List (Int × Int × Unit)) (k0 : List (Int × Int × Unit) → Option α) : Option α :=
 let x745 := ((a744.length : Nat) : Int)
 let x746 := ((a744.length : Nat) : Int)
 bif (decide ((0 : Int) ≤ x746)) then
  bif (decide (x746 ≤ ((a744.length : Nat) : Int))) then
   bif (decide ((0 : Int) ≤ x745)) then
    bif (decide (x745 ≤ ((x746.toNat : Nat) : Int))) then
     let x747 := a744.take x745.toNat
     k0 x747
    else
     none
   else
    none
  else
   none
 else
  none
noncomputable def slices_Clip_impl_Pair_impl_Pair {α : Type} := lockF (@slices_Clip_impl_Pair_impl_Pair.b α)
theorem slices_Clip_impl_Pair_impl_Pair.eq : @slices_Clip_impl_Pair_impl_Pair = @slices_Clip_impl_Pair_impl_Pair.b := funext fun α => lockF_eq _

/-- impl.clone[impl.Pair] -/
noncomputable def impl_clone_impl_Pair.b {α : Type} (N : Nat) (a742 : List (Int × Int × Unit)) (k0 : List (Int × Int × Unit) → Option α) : Option α :=
 slices_Clone_impl_Pair_impl_Pair N a742
  (fun x743 =>
   slices_Clip_impl_Pair_impl_Pair N x743
    (fun x748 =>
     k0 x748))
noncomputable def impl_clone_impl_Pair {α : Type} := lockF (@impl_clone_impl_Pair.b α)
theorem impl_clone_impl_Pair.eq : @impl_clone_impl_Pair = @impl_clone_impl_Pair.b := funext fun α => lockF_eq _

/-- (impl.Box).with -/
noncomputable def impl_Box_with.b {α : Type} (N : Nat) (a739 : (List (Int × Int × Unit)) × Unit) (a740 : Int) (a741 : Int × Int × Unit) (k0 : List (Int × Int × Unit) → Option α) : Option α :=
 impl_clone_impl_Pair N a739.1
  (fun x749 =>
   bif (decide (a740 < (0 : Int))) then
    none
   else
    bif decide (a740.toNat < x749.length) then
     match x749[a740.toNat]? with
     | some x750 =>
      let x751 := x749.set a740.toNat a741
      k0 x751
     | none => none
    else
     none)
noncomputable def impl_Box_with {α : Type} := lockF (@impl_Box_with.b α)
theorem impl_Box_with.eq : @impl_Box_with = @impl_Box_with.b := funext fun α => lockF_eq _

/-- (impl.Box).parts -/
noncomputable def impl_Box_parts__impl_BoxSplit_1.b {α : Type} (N : Nat) (a706 : (List (Int × Int × Unit)) × Unit) (a707 : Int) (a708 : Int) (a709 : Int) (k0 : Bool → List (Int × Int × Unit) → List (Int × Int × Unit) → Option α) : Option α :=
 impl_BoxOk N a707 a706
  (fun x710 =>
   let x711 := !x710
   bif x711 then
    k0 false [] []
   else
    let x712 := ((a706.1.length : Nat) : Int)
    let x713 := (IntKind.i64.wrap (x712 - (1 : Int)))
    impl_in N a708 (0 : Int) x713
     (fun x714 =>
      let x715 := !x714
      bif x715 then
       k0 false [] []
      else
       bif (decide (a708 < (0 : Int))) then
        none
       else
        match a706.1[a708.toNat]? with
        | some x716 =>
         impl_BoxSplit_1 N x716 a709
          (fun x735 x736 x737 =>
           let x738 := !x737
           bif x738 then
            k0 false [] []
           else
            impl_Box_with N a706 a708 x735
             (fun x752 =>
              impl_Box_with N a706 a708 x736
               (fun x753 =>
                k0 true x752 x753)))
        | none => none))
noncomputable def impl_Box_parts__impl_BoxSplit_1 {α : Type} := lockF (@impl_Box_parts__impl_BoxSplit_1.b α)
theorem impl_Box_parts__impl_BoxSplit_1.eq : @impl_Box_parts__impl_BoxSplit_1 = @impl_Box_parts__impl_BoxSplit_1.b := funext fun α => lockF_eq _

/-- impl.BoxSplit -/
noncomputable def impl_BoxSplit.b {α : Type} (N : Nat) (a703 : Int) (a704 : (List (Int × Int × Unit)) × Unit) (a705 : Int) (k0 : Bool → List (Int × Int × Unit) → List (Int × Int × Unit) → Option α) : Option α :=
 impl_Box_parts__impl_BoxSplit_1 N a704 a703 a705 a703
  (fun x754 x755 x756 =>
   k0 x754 x755 x756)
noncomputable def impl_BoxSplit {α : Type} := lockF (@impl_BoxSplit.b α)
theorem impl_BoxSplit.eq : @impl_BoxSplit = @impl_BoxSplit.b := funext fun α => lockF_eq _

/-- impl.PairIs -/
noncomputable def impl_PairIs.b {α : Type} (N : Nat) (a776 : Int × Int × Unit) (a777 : Int × Int × Unit) (k0 : Bool → Option α) : Option α :=
 let x778 := decide (a777.1 ≤ a776.1)
 bif x778 then
  let x779 := decide (a776.2.1 ≤ a777.2.1)
  k0 x779
 else
  k0 false
noncomputable def impl_PairIs {α : Type} := lockF (@impl_PairIs.b α)
theorem impl_PairIs.eq : @impl_PairIs = @impl_PairIs.b := funext fun α => lockF_eq _

noncomputable def slices_EqualFunc_impl_Pair_impl_Pair_impl_Pair_impl_Pair__impl_PairIs_L0r {α : Type} (N : Nat) (next : List (Int × Int × Unit) → List (Int × Int × Unit) → Int → Int → Option α) (k0 : Bool → Option α) (k1 : Option α) (v769 : List (Int × Int × Unit)) (v770 : List (Int × Int × Unit)) (v771 : Int) (v772 : Int) : Option α :=
 let x773 := decide (v772 < v771)
 bif x773 then
  bif (decide (v772 < (0 : Int))) then
   none
  else
   match v770[v772.toNat]? with
   | some x774 =>
    bif (decide (v772 < (0 : Int))) then
     none
    else
     match v769[v772.toNat]? with
     | some x775 =>
      impl_PairIs N x774 x775
       (fun x780 =>
        let x781 := !x780
        bif x781 then
         k0 false
        else
         let x782 := (IntKind.i64.wrap (v772 + (1 : Int)))
         next v769 v770 v771 x782)
     | none => none
   | none => none
 else
  k1
noncomputable def slices_EqualFunc_impl_Pair_impl_Pair_impl_Pair_impl_Pair__impl_PairIs_L0.b {α : Type} := fun N n v769 v770 v771 v772 k0 k1 => loopN (fun next => @slices_EqualFunc_impl_Pair_impl_Pair_impl_Pair_impl_Pair__impl_PairIs_L0r α N next k0 k1) (fun _ _ _ _ => none) n v769 v770 v771 v772
noncomputable def slices_EqualFunc_impl_Pair_impl_Pair_impl_Pair_impl_Pair__impl_PairIs_L0 {α : Type} := lockF (@slices_EqualFunc_impl_Pair_impl_Pair_impl_Pair_impl_Pair__impl_PairIs_L0.b α)
theorem slices_EqualFunc_impl_Pair_impl_Pair_impl_Pair_impl_Pair__impl_PairIs_L0.eq : @slices_EqualFunc_impl_Pair_impl_Pair_impl_Pair_impl_Pair__impl_PairIs_L0 = @slices_EqualFunc_impl_Pair_impl_Pair_impl_Pair_impl_Pair__impl_PairIs_L0.b := funext fun α => lockF_eq _
theorem slices_EqualFunc_impl_Pair_impl_Pair_impl_Pair_impl_Pair__impl_PairIs_L0.zero {α : Type} (N v769 v770 v771 v772 k0 k1) : @slices_EqualFunc_impl_Pair_impl_Pair_impl_Pair_impl_Pair__impl_PairIs_L0 α N 0 v769 v770 v771 v772 k0 k1 = none := by rw [slices_EqualFunc_impl_Pair_impl_Pair_impl_Pair_impl_Pair__impl_PairIs_L0.eq]; rfl
theorem slices_EqualFunc_impl_Pair_impl_Pair_impl_Pair_impl_Pair__impl_PairIs_L0.succ {α : Type} (N n v769 v770 v771 v772 k0 k1) : @slices_EqualFunc_impl_Pair_impl_Pair_impl_Pair_impl_Pair__impl_PairIs_L0 α N (n + 1) v769 v770 v771 v772 k0 k1 = slices_EqualFunc_impl_Pair_impl_Pair_impl_Pair_impl_Pair__impl_PairIs_L0r N (fun y0 y1 y2 y3 => slices_EqualFunc_impl_Pair_impl_Pair_impl_Pair_impl_Pair__impl_PairIs_L0 N n y0 y1 y2 y3 k0 k1) k0 k1 v769 v770 v771 v772 := by rw [slices_EqualFunc_impl_Pair_impl_Pair_impl_Pair_impl_Pair__impl_PairIs_L0.eq]; rfl
/-- slices.EqualFunc[[]impl.Pair,[]impl.Pair,impl.Pair,impl.Pair] -/
noncomputable def slices_EqualFunc_impl_Pair_impl_Pair_impl_Pair_impl_Pair__impl_PairIs.b {α : Type} (N : Nat) (a763 : List (Int × Int × Unit)) (a764 : List (Int × Int × Unit)) (k0 : Bool → Option α) : Option α :=
 let x765 := ((a763.length : Nat) : Int)
 let x766 := ((a764.length : Nat) : Int)
 let x767 := !(decide (x765 = x766))
 bif x767 then
  k0 false
 else
  let x768 := ((a763.length : Nat) : Int)
  slices_EqualFunc_impl_Pair_impl_Pair_impl_Pair_impl_Pair__impl_PairIs_L0 N N a764 a763 x768 (0 : Int)
   (fun x783 =>
    k0 x783)
   (
    k0 true)
noncomputable def slices_EqualFunc_impl_Pair_impl_Pair_impl_Pair_impl_Pair__impl_PairIs {α : Type} := lockF (@slices_EqualFunc_impl_Pair_impl_Pair_impl_Pair_impl_Pair__impl_PairIs.b α)
theorem slices_EqualFunc_impl_Pair_impl_Pair_impl_Pair_impl_Pair__impl_PairIs.eq : @slices_EqualFunc_impl_Pair_impl_Pair_impl_Pair_impl_Pair__impl_PairIs = @slices_EqualFunc_impl_Pair_impl_Pair_impl_Pair_impl_Pair__impl_PairIs.b := funext fun α => lockF_eq _

/-- impl.BoxIs -/
noncomputable def impl_BoxIs.b {α : Type} (N : Nat) (a761 : (List (Int × Int × Unit)) × Unit) (a762 : (List (Int × Int × Unit)) × Unit) (k0 : Bool → Option α) : Option α :=
 slices_EqualFunc_impl_Pair_impl_Pair_impl_Pair_impl_Pair__impl_PairIs N a761.1 a762.1
  (fun x784 =>
   k0 x784)
noncomputable def impl_BoxIs {α : Type} := lockF (@impl_BoxIs.b α)
theorem impl_BoxIs.eq : @impl_BoxIs = @impl_BoxIs.b := funext fun α => lockF_eq _

noncomputable def laws_FnBitTop_L2r {α : Type} (N : Nat) (next : List Int → Int → Int → Int → Int → Int → Int → Int → List ((List (Int × Int × Unit)) × Unit) → List ((List (Int × Int × Unit)) × Unit) → List ((List (Int × Int × Unit)) × Unit) → ((List (Int × Int × Unit)) × Unit) → List (Int × Int × Unit) → List (Int × Int × Unit) → Option α) (k0 : List Int → Int → Int → Int → Int → Int → Int → List ((List (Int × Int × Unit)) × Unit) → List ((List (Int × Int × Unit)) × Unit) → List ((List (Int × Int × Unit)) × Unit) → ((List (Int × Int × Unit)) × Unit) → List (Int × Int × Unit) → List (Int × Int × Unit) → Option α) (v557 : List Int) (v558 : Int) (v559 : Int) (v560 : Int) (v561 : Int) (v562 : Int) (v563 : Int) (v564 : Int) (v565 : List ((List (Int × Int × Unit)) × Unit)) (v566 : List ((List (Int × Int × Unit)) × Unit)) (v567 : List ((List (Int × Int × Unit)) × Unit)) (v568 : (List (Int × Int × Unit)) × Unit) (v569 : List (Int × Int × Unit)) (v570 : List (Int × Int × Unit)) : Option α :=
 let x571 := ((v568.1.length : Nat) : Int)
 let x572 := decide (v564 < x571)
 bif x572 then
  bif (decide (v564 < (0 : Int))) then
   none
  else
   match v568.1[v564.toNat]? with
   | some x573 =>
    let x574 := [x573]
    bif decide (v570.length + x574.length ≤ 8796093022208) then
     let x575 := v570 ++ x574
     let x576 := (IntKind.i64.wrap (v564 + (1 : Int)))
     next v557 v558 v559 v560 v561 v562 v563 x576 v565 v566 v567 v568 v569 x575
    else
     none
   | none => none
 else
  k0 v557 v558 v559 v560 v561 v562 v563 v565 v566 v567 v568 v569 v570
noncomputable def laws_FnBitTop_L2.b {α : Type} := fun N n v557 v558 v559 v560 v561 v562 v563 v564 v565 v566 v567 v568 v569 v570 k0 => loopN (fun next => @laws_FnBitTop_L2r α N next k0) (fun _ _ _ _ _ _ _ _ _ _ _ _ _ _ => none) n v557 v558 v559 v560 v561 v562 v563 v564 v565 v566 v567 v568 v569 v570
noncomputable def laws_FnBitTop_L2 {α : Type} := lockF (@laws_FnBitTop_L2.b α)
theorem laws_FnBitTop_L2.eq : @laws_FnBitTop_L2 = @laws_FnBitTop_L2.b := funext fun α => lockF_eq _
theorem laws_FnBitTop_L2.zero {α : Type} (N v557 v558 v559 v560 v561 v562 v563 v564 v565 v566 v567 v568 v569 v570 k0) : @laws_FnBitTop_L2 α N 0 v557 v558 v559 v560 v561 v562 v563 v564 v565 v566 v567 v568 v569 v570 k0 = none := by rw [laws_FnBitTop_L2.eq]; rfl
theorem laws_FnBitTop_L2.succ {α : Type} (N n v557 v558 v559 v560 v561 v562 v563 v564 v565 v566 v567 v568 v569 v570 k0) : @laws_FnBitTop_L2 α N (n + 1) v557 v558 v559 v560 v561 v562 v563 v564 v565 v566 v567 v568 v569 v570 k0 = laws_FnBitTop_L2r N (fun y0 y1 y2 y3 y4 y5 y6 y7 y8 y9 y10 y11 y12 y13 => laws_FnBitTop_L2 N n y0 y1 y2 y3 y4 y5 y6 y7 y8 y9 y10 y11 y12 y13 k0) k0 v557 v558 v559 v560 v561 v562 v563 v564 v565 v566 v567 v568 v569 v570 := by rw [laws_FnBitTop_L2.eq]; rfl
noncomputable def laws_FnBitTop_J35.b {α : Type} (N : Nat) (v591 : List Int) (v592 : Int) (v593 : Int) (v594 : Int) (v595 : Int) (v596 : Int) (v597 : Int) (v598 : List ((List (Int × Int × Unit)) × Unit)) (v599 : List ((List (Int × Int × Unit)) × Unit)) (v600 : List ((List (Int × Int × Unit)) × Unit)) (v601 : (List (Int × Int × Unit)) × Unit) (v602 : Int × Int × Unit) (v603 : List (Int × Int × Unit)) (v604 : List (Int × Int × Unit)) (k0 : List Int → Int → Int → Int → Int → Int → List ((List (Int × Int × Unit)) × Unit) → List ((List (Int × Int × Unit)) × Unit) → List ((List (Int × Int × Unit)) × Unit) → ((List (Int × Int × Unit)) × Unit) → (Int × Int × Unit) → List (Int × Int × Unit) → List (Int × Int × Unit) → Option α) : Option α :=
 let x605 := (Int.tmod v597 (8 : Int))
 let x606 := (decide (x605 = (0 : Int)))
 bif x606 then
  let x607 := (IntKind.i64.wrap (v602.1 + (1 : Int)))
  bif (decide (v596 < (0 : Int))) then
   none
  else
   bif decide (v596.toNat < v604.length) then
    match v604[v596.toNat]? with
    | some x608 =>
     let x609 := v604.set v596.toNat (x607, (v602.2.1, ()))
     let x610 := (IntKind.i64.wrap (v602.1 + (1 : Int)))
     k0 v591 v592 v593 v594 v595 v596 v598 v599 v600 v601 (v602.1, (x610, ())) v603 x609
    | none => none
   else
    none
 else
  let x611 := (IntKind.i64.wrap (v602.2.1 - (1 : Int)))
  bif (decide (v596 < (0 : Int))) then
   none
  else
   bif decide (v596.toNat < v604.length) then
    match v604[v596.toNat]? with
    | some x612 =>
     let x613 := v604.set v596.toNat (v602.1, (x611, ()))
     let x614 := (IntKind.i64.wrap (v602.2.1 - (1 : Int)))
     k0 v591 v592 v593 v594 v595 v596 v598 v599 v600 v601 (x614, (v602.2.1, ())) v603 x613
    | none => none
   else
    none
noncomputable def laws_FnBitTop_J35 {α : Type} := lockF (@laws_FnBitTop_J35.b α)
theorem laws_FnBitTop_J35.eq : @laws_FnBitTop_J35 = @laws_FnBitTop_J35.b := funext fun α => lockF_eq _
noncomputable def laws_FnBitTop_J44.b {α : Type} (N : Nat) (v645 : List Int) (v646 : Int) (v647 : Int) (v648 : Int) (v649 : Int) (v650 : Int) (v651 : Int) (v652 : List ((List (Int × Int × Unit)) × Unit)) (v653 : List ((List (Int × Int × Unit)) × Unit)) (v654 : List ((List (Int × Int × Unit)) × Unit)) (v655 : (List (Int × Int × Unit)) × Unit) (v656 : Int × Int × Unit) (v657 : List (Int × Int × Unit)) (v658 : List (Int × Int × Unit)) (v659 : List (Int × Int × Unit)) (k0 : List Int → Int → Int → Int → Int → Int → Int → List ((List (Int × Int × Unit)) × Unit) → List ((List (Int × Int × Unit)) × Unit) → List ((List (Int × Int × Unit)) × Unit) → ((List (Int × Int × Unit)) × Unit) → (Int × Int × Unit) → List (Int × Int × Unit) → List (Int × Int × Unit) → List (Int × Int × Unit) → Option α) : Option α :=
 let x660 := decide (v651 = v650)
 bif x660 then
  let x661 := [v656]
  bif decide (v659.length + x661.length ≤ 8796093022208) then
   let x662 := v659 ++ x661
   k0 v645 v646 v647 v648 v649 v650 v651 v652 v653 v654 v655 v656 v657 v658 x662
  else
   none
 else
  bif (decide (v651 < (0 : Int))) then
   none
  else
   match v655.1[v651.toNat]? with
   | some x663 =>
    let x664 := [x663]
    bif decide (v659.length + x664.length ≤ 8796093022208) then
     let x665 := v659 ++ x664
     k0 v645 v646 v647 v648 v649 v650 v651 v652 v653 v654 v655 v656 v657 v658 x665
    else
     none
   | none => none
noncomputable def laws_FnBitTop_J44 {α : Type} := lockF (@laws_FnBitTop_J44.b α)
theorem laws_FnBitTop_J44.eq : @laws_FnBitTop_J44 = @laws_FnBitTop_J44.b := funext fun α => lockF_eq _
noncomputable def laws_FnBitTop_L4r {α : Type} (N : Nat) (next : List Int → Int → Int → Int → Int → Int → Int → List ((List (Int × Int × Unit)) × Unit) → List ((List (Int × Int × Unit)) × Unit) → List ((List (Int × Int × Unit)) × Unit) → ((List (Int × Int × Unit)) × Unit) → (Int × Int × Unit) → List (Int × Int × Unit) → List (Int × Int × Unit) → List (Int × Int × Unit) → Option α) (k0 : List Int → Int → Int → Int → Int → List ((List (Int × Int × Unit)) × Unit) → List ((List (Int × Int × Unit)) × Unit) → List ((List (Int × Int × Unit)) × Unit) → List (Int × Int × Unit) → List (Int × Int × Unit) → List (Int × Int × Unit) → Option α) (v628 : List Int) (v629 : Int) (v630 : Int) (v631 : Int) (v632 : Int) (v633 : Int) (v634 : Int) (v635 : List ((List (Int × Int × Unit)) × Unit)) (v636 : List ((List (Int × Int × Unit)) × Unit)) (v637 : List ((List (Int × Int × Unit)) × Unit)) (v638 : (List (Int × Int × Unit)) × Unit) (v639 : Int × Int × Unit) (v640 : List (Int × Int × Unit)) (v641 : List (Int × Int × Unit)) (v642 : List (Int × Int × Unit)) : Option α :=
 let x643 := ((v638.1.length : Nat) : Int)
 let x644 := decide (v634 < x643)
 bif x644 then
  laws_FnBitTop_J44 N v628 v629 v630 v631 v632 v633 v634 v635 v636 v637 v638 v639 v640 v641 v642
   (fun x666 x667 x668 x669 x670 x671 x672 x673 x674 x675 x676 x677 x678 x679 x680 =>
    let x681 := (IntKind.i64.wrap (x672 + (1 : Int)))
    next x666 x667 x668 x669 x670 x671 x681 x673 x674 x675 x676 x677 x678 x679 x680)
 else
  k0 v628 v629 v630 v631 v632 v635 v636 v637 v640 v641 v642
noncomputable def laws_FnBitTop_L4.b {α : Type} := fun N n v628 v629 v630 v631 v632 v633 v634 v635 v636 v637 v638 v639 v640 v641 v642 k0 => loopN (fun next => @laws_FnBitTop_L4r α N next k0) (fun _ _ _ _ _ _ _ _ _ _ _ _ _ _ _ => none) n v628 v629 v630 v631 v632 v633 v634 v635 v636 v637 v638 v639 v640 v641 v642
noncomputable def laws_FnBitTop_L4 {α : Type} := lockF (@laws_FnBitTop_L4.b α)
theorem laws_FnBitTop_L4.eq : @laws_FnBitTop_L4 = @laws_FnBitTop_L4.b := funext fun α => lockF_eq _
theorem laws_FnBitTop_L4.zero {α : Type} (N v628 v629 v630 v631 v632 v633 v634 v635 v636 v637 v638 v639 v640 v641 v642 k0) : @laws_FnBitTop_L4 α N 0 v628 v629 v630 v631 v632 v633 v634 v635 v636 v637 v638 v639 v640 v641 v642 k0 = none := by rw [laws_FnBitTop_L4.eq]; rfl
theorem laws_FnBitTop_L4.succ {α : Type} (N n v628 v629 v630 v631 v632 v633 v634 v635 v636 v637 v638 v639 v640 v641 v642 k0) : @laws_FnBitTop_L4 α N (n + 1) v628 v629 v630 v631 v632 v633 v634 v635 v636 v637 v638 v639 v640 v641 v642 k0 = laws_FnBitTop_L4r N (fun y0 y1 y2 y3 y4 y5 y6 y7 y8 y9 y10 y11 y12 y13 y14 => laws_FnBitTop_L4 N n y0 y1 y2 y3 y4 y5 y6 y7 y8 y9 y10 y11 y12 y13 y14 k0) k0 v628 v629 v630 v631 v632 v633 v634 v635 v636 v637 v638 v639 v640 v641 v642 := by rw [laws_FnBitTop_L4.eq]; rfl
noncomputable def laws_FnBitTop_L0r {α : Type} (N : Nat) (next : List Int → Int → Int → Int → Int → List ((List (Int × Int × Unit)) × Unit) → List ((List (Int × Int × Unit)) × Unit) → List ((List (Int × Int × Unit)) × Unit) → List (Int × Int × Unit) → Option α) (k0 : Bool → Option α) (k1 : List Int → List ((List (Int × Int × Unit)) × Unit) → List ((List (Int × Int × Unit)) × Unit) → List (Int × Int × Unit) → Option α) (v485 : List Int) (v486 : Int) (v487 : Int) (v488 : Int) (v489 : Int) (v490 : List ((List (Int × Int × Unit)) × Unit)) (v491 : List ((List (Int × Int × Unit)) × Unit)) (v492 : List ((List (Int × Int × Unit)) × Unit)) (v493 : List (Int × Int × Unit)) : Option α :=
 let x494 := ((v490.length : Nat) : Int)
 let x495 := (decide ((0 : Int) < x494))
 bif x495 then
  let x496 := decide (v487 ≤ v489)
  bif x496 then
   k0 false
  else
   let x497 := ((v490.length : Nat) : Int)
   let x498 := decide (v488 < x497)
   bif x498 then
    k0 false
   else
    let x499 := ((v490.length : Nat) : Int)
    let x500 := (IntKind.i64.wrap (x499 - (1 : Int)))
    bif (decide (x500 < (0 : Int))) then
     none
    else
     bif decide (x500.toNat < v490.length) then
      match v490[x500.toNat]? with
      | some x501 =>
       let x502 := ((v490.length : Nat) : Int)
       let x503 := (IntKind.i64.wrap (x502 - (1 : Int)))
       bif (decide ((0 : Int) ≤ x503)) then
        bif (decide (x503 ≤ ((v490.length : Nat) : Int))) then
         let x504 := v490.take x503.toNat
         impl_BoxWidest N v486 x501
          (fun x535 =>
           let x536 := (decide (x535 < (0 : Int)))
           bif x536 then
            k0 false
           else
            let x537 := ((x501.1.length : Nat) : Int)
            let x538 := decide (x537 ≤ x535)
            bif x538 then
             k0 false
            else
             bif (decide (x535 < (0 : Int))) then
              none
             else
              match x501.1[x535.toNat]? with
              | some x539 =>
               bif (decide (x535 < (0 : Int))) then
                none
               else
                match x501.1[x535.toNat]? with
                | some x540 =>
                 impl_BitGap N x539.1 x540.2.1
                  (fun x541 =>
                   laws_pbByte N v485 v489
                    (fun x550 =>
                     let x551 := (decide (x541 < (2 : Int)))
                     bif x551 then
                      let x552 := [x501]
                      bif decide (v491.length + x552.length ≤ 5864062014805) then
                       let x553 := v491 ++ x552
                       let x554 := (IntKind.i64.wrap (v489 + (1 : Int)))
                       next v485 v486 v487 v488 x554 x504 x553 v492 v493
                      else
                       none
                     else
                      let x555 := (Int.tmod x550 (4 : Int))
                      let x556 := (decide (x555 = (0 : Int)))
                      bif x556 then
                       laws_FnBitTop_L2 N N v485 v486 v487 v488 v489 x535 x550 (0 : Int) x504 v491 v492 x501 v493 []
                        (fun x577 x578 x579 x580 x581 x582 x583 x584 x585 x586 x587 x588 x589 =>
                         bif (decide (x582 < (0 : Int))) then
                          none
                         else
                          bif decide (x582.toNat < x589.length) then
                           match x589[x582.toNat]? with
                           | some x590 =>
                            laws_FnBitTop_J35 N x577 x578 x579 x580 x581 x582 x583 x584 x585 x586 x587 x590 x588 x589
                             (fun x615 x616 x617 x618 x619 x620 x621 x622 x623 x624 x625 x626 x627 =>
                              laws_FnBitTop_L4 N N x615 x616 x617 x618 x619 x620 (0 : Int) x621 x622 x623 x624 x625 x626 x627 []
                               (fun x682 x683 x684 x685 x686 x687 x688 x689 x690 x691 x692 =>
                                let x693 := [(x692, ())]
                                bif decide (x689.length + x693.length ≤ 5864062014805) then
                                 let x694 := x689 ++ x693
                                 let x695 := [(x691, ())]
                                 bif decide (x687.length + x695.length ≤ 5864062014805) then
                                  let x696 := x687 ++ x695
                                  let x697 := (IntKind.i64.wrap (x686 + (1 : Int)))
                                  next x682 x683 x684 x685 x697 x696 x688 x694 x690
                                 else
                                  none
                                else
                                 none))
                           | none => none
                          else
                           none)
                      else
                       let x698 := (Int.tmod x550 (4 : Int))
                       let x699 := (decide (x698 = (1 : Int)))
                       bif x699 then
                        let x700 := [x501]
                        bif decide (v492.length + x700.length ≤ 5864062014805) then
                         let x701 := v492 ++ x700
                         let x702 := (IntKind.i64.wrap (v489 + (1 : Int)))
                         next v485 v486 v487 v488 x702 x504 v491 x701 v493
                        else
                         none
                       else
                        impl_BoxSplit N v486 x501 x535
                         (fun x757 x758 x759 =>
                          let x760 := !x757
                          bif x760 then
                           k0 false
                          else
                           impl_BoxIs N (x758, ()) x501
                            (fun x785 =>
                             let x786 := !x785
                             bif x786 then
                              k0 false
                             else
                              impl_BoxIs N (x759, ()) x501
                               (fun x787 =>
                                let x788 := !x787
                                bif x788 then
                                 k0 false
                                else
                                 let x789 := [(x759, ())]
                                 bif decide (x504.length + x789.length ≤ 5864062014805) then
                                  let x790 := x504 ++ x789
                                  let x791 := [(x758, ())]
                                  bif decide (x790.length + x791.length ≤ 5864062014805) then
                                   let x792 := x790 ++ x791
                                   let x793 := (IntKind.i64.wrap (v489 + (1 : Int)))
                                   next v485 v486 v487 v488 x793 x792 v491 v492 v493
                                  else
                                   none
                                 else
                                  none)))))
                | none => none
              | none => none)
        else
         none
       else
        none
      | none => none
     else
      none
 else
  k1 v485 v491 v492 v493
noncomputable def laws_FnBitTop_L0.b {α : Type} := fun N n v485 v486 v487 v488 v489 v490 v491 v492 v493 k0 k1 => loopN (fun next => @laws_FnBitTop_L0r α N next k0 k1) (fun _ _ _ _ _ _ _ _ _ => none) n v485 v486 v487 v488 v489 v490 v491 v492 v493
noncomputable def laws_FnBitTop_L0 {α : Type} := lockF (@laws_FnBitTop_L0.b α)
theorem laws_FnBitTop_L0.eq : @laws_FnBitTop_L0 = @laws_FnBitTop_L0.b := funext fun α => lockF_eq _
theorem laws_FnBitTop_L0.zero {α : Type} (N v485 v486 v487 v488 v489 v490 v491 v492 v493 k0 k1) : @laws_FnBitTop_L0 α N 0 v485 v486 v487 v488 v489 v490 v491 v492 v493 k0 k1 = none := by rw [laws_FnBitTop_L0.eq]; rfl
theorem laws_FnBitTop_L0.succ {α : Type} (N n v485 v486 v487 v488 v489 v490 v491 v492 v493 k0 k1) : @laws_FnBitTop_L0 α N (n + 1) v485 v486 v487 v488 v489 v490 v491 v492 v493 k0 k1 = laws_FnBitTop_L0r N (fun y0 y1 y2 y3 y4 y5 y6 y7 y8 => laws_FnBitTop_L0 N n y0 y1 y2 y3 y4 y5 y6 y7 y8 k0 k1) k0 k1 v485 v486 v487 v488 v489 v490 v491 v492 v493 := by rw [laws_FnBitTop_L0.eq]; rfl
noncomputable def laws_FnBitTop_L8r {α : Type} (N : Nat) (next : List Int → Int → Int → List ((List (Int × Int × Unit)) × Unit) → List ((List (Int × Int × Unit)) × Unit) → List (Int × Int × Unit) → List (Int × Int × Unit) → Option α) (k0 : List Int → Int → List ((List (Int × Int × Unit)) × Unit) → List ((List (Int × Int × Unit)) × Unit) → List (Int × Int × Unit) → List (Int × Int × Unit) → Option α) (v805 : List Int) (v806 : Int) (v807 : Int) (v808 : List ((List (Int × Int × Unit)) × Unit)) (v809 : List ((List (Int × Int × Unit)) × Unit)) (v810 : List (Int × Int × Unit)) (v811 : List (Int × Int × Unit)) : Option α :=
 let x812 := ((v810.length : Nat) : Int)
 let x813 := decide (v807 < x812)
 bif x813 then
  bif (decide (v807 < (0 : Int))) then
   none
  else
   bif decide (v807.toNat < v810.length) then
    match v810[v807.toNat]? with
    | some x814 =>
     let x815 := (IntKind.i64.wrap ((3 : Int) * v806))
     let x816 := IntKind.i64.wrap (x815 + v807)
     laws_pbByte N v805 x816
      (fun x817 =>
       bif (decide (v807 < (0 : Int))) then
        none
       else
        bif decide (v807.toNat < v810.length) then
         match v810[v807.toNat]? with
         | some x818 =>
          bif (decide (v807 < (0 : Int))) then
           none
          else
           bif decide (v807.toNat < v810.length) then
            match v810[v807.toNat]? with
            | some x819 =>
             let x820 := IntKind.i64.wrap (x818.2.1 - x819.1)
             let x821 := (IntKind.i64.wrap (x820 + (1 : Int)))
             bif (decide (x821 = (0 : Int))) then
              none
             else
              let x822 := Int.tmod x817 x821
              let x823 := IntKind.i64.wrap (x814.1 + x822)
              let x824 := [(x823, (x823, ()))]
              bif decide (v811.length + x824.length ≤ 8796093022208) then
               let x825 := v811 ++ x824
               let x826 := (IntKind.i64.wrap (v807 + (1 : Int)))
               next v805 v806 x826 v808 v809 v810 x825
              else
               none
            | none => none
           else
            none
         | none => none
        else
         none)
    | none => none
   else
    none
 else
  k0 v805 v806 v808 v809 v810 v811
noncomputable def laws_FnBitTop_L8.b {α : Type} := fun N n v805 v806 v807 v808 v809 v810 v811 k0 => loopN (fun next => @laws_FnBitTop_L8r α N next k0) (fun _ _ _ _ _ _ _ => none) n v805 v806 v807 v808 v809 v810 v811
noncomputable def laws_FnBitTop_L8 {α : Type} := lockF (@laws_FnBitTop_L8.b α)
theorem laws_FnBitTop_L8.eq : @laws_FnBitTop_L8 = @laws_FnBitTop_L8.b := funext fun α => lockF_eq _
theorem laws_FnBitTop_L8.zero {α : Type} (N v805 v806 v807 v808 v809 v810 v811 k0) : @laws_FnBitTop_L8 α N 0 v805 v806 v807 v808 v809 v810 v811 k0 = none := by rw [laws_FnBitTop_L8.eq]; rfl
theorem laws_FnBitTop_L8.succ {α : Type} (N n v805 v806 v807 v808 v809 v810 v811 k0) : @laws_FnBitTop_L8 α N (n + 1) v805 v806 v807 v808 v809 v810 v811 k0 = laws_FnBitTop_L8r N (fun y0 y1 y2 y3 y4 y5 y6 => laws_FnBitTop_L8 N n y0 y1 y2 y3 y4 y5 y6 k0) k0 v805 v806 v807 v808 v809 v810 v811 := by rw [laws_FnBitTop_L8.eq]; rfl
noncomputable def laws_FnBitTop_L10r {α : Type} (N : Nat) (next : List Int → Int → Bool → Int → List ((List (Int × Int × Unit)) × Unit) → List ((List (Int × Int × Unit)) × Unit) → List (Int × Int × Unit) → List (Int × Int × Unit) → Option α) (k0 : List Int → Int → Bool → List ((List (Int × Int × Unit)) × Unit) → List ((List (Int × Int × Unit)) × Unit) → List (Int × Int × Unit) → List (Int × Int × Unit) → Option α) (v833 : List Int) (v834 : Int) (v835 : Bool) (v836 : Int) (v837 : List ((List (Int × Int × Unit)) × Unit)) (v838 : List ((List (Int × Int × Unit)) × Unit)) (v839 : List (Int × Int × Unit)) (v840 : List (Int × Int × Unit)) : Option α :=
 let x841 := ((v837.length : Nat) : Int)
 let x842 := decide (v836 < x841)
 bif x842 then
  bif v835 then
   let x843 := (IntKind.i64.wrap (v836 + (1 : Int)))
   next v833 v834 true x843 v837 v838 v839 v840
  else
   bif (decide (v836 < (0 : Int))) then
    none
   else
    bif decide (v836.toNat < v837.length) then
     match v837[v836.toNat]? with
     | some x844 =>
      impl_BoxIs N (v840, ()) x844
       (fun x845 =>
        let x846 := (IntKind.i64.wrap (v836 + (1 : Int)))
        next v833 v834 x845 x846 v837 v838 v839 v840)
     | none => none
    else
     none
 else
  k0 v833 v834 v835 v837 v838 v839 v840
noncomputable def laws_FnBitTop_L10.b {α : Type} := fun N n v833 v834 v835 v836 v837 v838 v839 v840 k0 => loopN (fun next => @laws_FnBitTop_L10r α N next k0) (fun _ _ _ _ _ _ _ _ => none) n v833 v834 v835 v836 v837 v838 v839 v840
noncomputable def laws_FnBitTop_L10 {α : Type} := lockF (@laws_FnBitTop_L10.b α)
theorem laws_FnBitTop_L10.eq : @laws_FnBitTop_L10 = @laws_FnBitTop_L10.b := funext fun α => lockF_eq _
theorem laws_FnBitTop_L10.zero {α : Type} (N v833 v834 v835 v836 v837 v838 v839 v840 k0) : @laws_FnBitTop_L10 α N 0 v833 v834 v835 v836 v837 v838 v839 v840 k0 = none := by rw [laws_FnBitTop_L10.eq]; rfl
theorem laws_FnBitTop_L10.succ {α : Type} (N n v833 v834 v835 v836 v837 v838 v839 v840 k0) : @laws_FnBitTop_L10 α N (n + 1) v833 v834 v835 v836 v837 v838 v839 v840 k0 = laws_FnBitTop_L10r N (fun y0 y1 y2 y3 y4 y5 y6 y7 => laws_FnBitTop_L10 N n y0 y1 y2 y3 y4 y5 y6 y7 k0) k0 v833 v834 v835 v836 v837 v838 v839 v840 := by rw [laws_FnBitTop_L10.eq]; rfl
noncomputable def laws_FnBitTop_L12r {α : Type} (N : Nat) (next : List Int → Int → Bool → Int → List ((List (Int × Int × Unit)) × Unit) → List ((List (Int × Int × Unit)) × Unit) → List (Int × Int × Unit) → List (Int × Int × Unit) → Option α) (k0 : List Int → Int → Bool → List ((List (Int × Int × Unit)) × Unit) → List ((List (Int × Int × Unit)) × Unit) → List (Int × Int × Unit) → Option α) (v854 : List Int) (v855 : Int) (v856 : Bool) (v857 : Int) (v858 : List ((List (Int × Int × Unit)) × Unit)) (v859 : List ((List (Int × Int × Unit)) × Unit)) (v860 : List (Int × Int × Unit)) (v861 : List (Int × Int × Unit)) : Option α :=
 let x862 := ((v859.length : Nat) : Int)
 let x863 := decide (v857 < x862)
 bif x863 then
  bif v856 then
   let x864 := (IntKind.i64.wrap (v857 + (1 : Int)))
   next v854 v855 true x864 v858 v859 v860 v861
  else
   bif (decide (v857 < (0 : Int))) then
    none
   else
    bif decide (v857.toNat < v859.length) then
     match v859[v857.toNat]? with
     | some x865 =>
      impl_BoxIs N (v861, ()) x865
       (fun x866 =>
        let x867 := (IntKind.i64.wrap (v857 + (1 : Int)))
        next v854 v855 x866 x867 v858 v859 v860 v861)
     | none => none
    else
     none
 else
  k0 v854 v855 v856 v858 v859 v860
noncomputable def laws_FnBitTop_L12.b {α : Type} := fun N n v854 v855 v856 v857 v858 v859 v860 v861 k0 => loopN (fun next => @laws_FnBitTop_L12r α N next k0) (fun _ _ _ _ _ _ _ _ => none) n v854 v855 v856 v857 v858 v859 v860 v861
noncomputable def laws_FnBitTop_L12 {α : Type} := lockF (@laws_FnBitTop_L12.b α)
theorem laws_FnBitTop_L12.eq : @laws_FnBitTop_L12 = @laws_FnBitTop_L12.b := funext fun α => lockF_eq _
theorem laws_FnBitTop_L12.zero {α : Type} (N v854 v855 v856 v857 v858 v859 v860 v861 k0) : @laws_FnBitTop_L12 α N 0 v854 v855 v856 v857 v858 v859 v860 v861 k0 = none := by rw [laws_FnBitTop_L12.eq]; rfl
theorem laws_FnBitTop_L12.succ {α : Type} (N n v854 v855 v856 v857 v858 v859 v860 v861 k0) : @laws_FnBitTop_L12 α N (n + 1) v854 v855 v856 v857 v858 v859 v860 v861 k0 = laws_FnBitTop_L12r N (fun y0 y1 y2 y3 y4 y5 y6 y7 => laws_FnBitTop_L12 N n y0 y1 y2 y3 y4 y5 y6 y7 k0) k0 v854 v855 v856 v857 v858 v859 v860 v861 := by rw [laws_FnBitTop_L12.eq]; rfl
noncomputable def laws_FnBitTop_L6r {α : Type} (N : Nat) (next : List Int → Int → List ((List (Int × Int × Unit)) × Unit) → List ((List (Int × Int × Unit)) × Unit) → List (Int × Int × Unit) → Option α) (k0 : Bool → Option α) (k1 : Option α) (v799 : List Int) (v800 : Int) (v801 : List ((List (Int × Int × Unit)) × Unit)) (v802 : List ((List (Int × Int × Unit)) × Unit)) (v803 : List (Int × Int × Unit)) : Option α :=
 let x804 := (decide (v800 < (5 : Int)))
 bif x804 then
  laws_FnBitTop_L8 N N v799 v800 (0 : Int) v801 v802 v803 []
   (fun x827 x828 x829 x830 x831 x832 =>
    laws_FnBitTop_L10 N N x827 x828 false (0 : Int) x829 x830 x831 x832
     (fun x847 x848 x849 x850 x851 x852 x853 =>
      laws_FnBitTop_L12 N N x847 x848 x849 (0 : Int) x850 x851 x852 x853
       (fun x868 x869 x870 x871 x872 x873 =>
        let x874 := !x870
        bif x874 then
         k0 false
        else
         let x875 := (IntKind.i64.wrap (x869 + (1 : Int)))
         next x868 x875 x871 x872 x873)))
 else
  k1
noncomputable def laws_FnBitTop_L6.b {α : Type} := fun N n v799 v800 v801 v802 v803 k0 k1 => loopN (fun next => @laws_FnBitTop_L6r α N next k0 k1) (fun _ _ _ _ _ => none) n v799 v800 v801 v802 v803
noncomputable def laws_FnBitTop_L6 {α : Type} := lockF (@laws_FnBitTop_L6.b α)
theorem laws_FnBitTop_L6.eq : @laws_FnBitTop_L6 = @laws_FnBitTop_L6.b := funext fun α => lockF_eq _
theorem laws_FnBitTop_L6.zero {α : Type} (N v799 v800 v801 v802 v803 k0 k1) : @laws_FnBitTop_L6 α N 0 v799 v800 v801 v802 v803 k0 k1 = none := by rw [laws_FnBitTop_L6.eq]; rfl
theorem laws_FnBitTop_L6.succ {α : Type} (N n v799 v800 v801 v802 v803 k0 k1) : @laws_FnBitTop_L6 α N (n + 1) v799 v800 v801 v802 v803 k0 k1 = laws_FnBitTop_L6r N (fun y0 y1 y2 y3 y4 => laws_FnBitTop_L6 N n y0 y1 y2 y3 y4 k0 k1) k0 k1 v799 v800 v801 v802 v803 := by rw [laws_FnBitTop_L6.eq]; rfl
/-- laws.FnBitTop -/
noncomputable def laws_FnBitTop.b {α : Type} (N : Nat) (a1 : List Int) (a2 : List Int) (k0 : Bool → Option α) : Option α :=
 let x3 := ((a1.length : Nat) : Int)
 let x4 := (decide ((1048576 : Int) < x3))
 bif x4 then
  k0 true
 else
  let x5 := ((a2.length : Nat) : Int)
  let x6 := (decide ((1048576 : Int) < x5))
  bif x6 then
   k0 true
  else
   spec_FewBox N a1
    (fun x273 x274 =>
     impl_BoxUnits N x273 (x274, ())
      (fun x365 =>
       impl_BoxPath N x273 (x274, ())
        (fun x408 =>
         spec_BoxUnits N x273 (x274, ())
          (fun x455 =>
           let x456 := !(decide (x365 = x455))
           bif x456 then
            k0 false
           else
            spec_BoxPath N x273 (x274, ())
             (fun x479 =>
              let x480 := !(decide (x408 = x479))
              bif x480 then
               k0 false
              else
               let x481 := (decide (x365 < (1 : Int)))
               bif x481 then
                k0 false
               else
                let x482 := (decide ((3000 : Int) < x365))
                bif x482 then
                 k0 true
                else
                 let x483 := [(x274, ())]
                 bif (decide (([] : List ((List (Int × Int × Unit)) × Unit)).length + x483.length ≤ 5864062014805)) then
                  let x484 := (([] : List ((List (Int × Int × Unit)) × Unit)) ++ x483)
                  laws_FnBitTop_L0 N N a2 x273 x365 x408 (0 : Int) x484 [] [] x274
                   (fun x794 =>
                    k0 x794)
                   (fun x795 x796 x797 x798 =>
                    laws_FnBitTop_L6 N N x795 (0 : Int) x796 x797 x798
                     (fun x876 =>
                      k0 x876)
                     (
                      k0 true))
                 else
                  none)))))
noncomputable def laws_FnBitTop {α : Type} := lockF (@laws_FnBitTop.b α)
theorem laws_FnBitTop.eq : @laws_FnBitTop = @laws_FnBitTop.b := funext fun α => lockF_eq _

end
end Go.Proofs.YtbaeipjjijdgiaaAm
