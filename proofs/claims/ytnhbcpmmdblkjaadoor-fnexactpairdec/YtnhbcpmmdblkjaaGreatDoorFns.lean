/-
  The functions that the program computes, as the abstract machine tells them. Printed by amp.py.
-/
import Derived.Test.YtnhbcpmmdblkjaaGreatDoorAmc
namespace Go.Proofs.YtnhbcpmmdblkjaaGreatDoorAm
open Go
noncomputable section
set_option linter.unusedVariables false
set_option linter.unusedSimpArgs false

noncomputable def spec_l7Digits_L0r {α : Type} (N : Nat) (next : ByteArray → Int → Int → Option α) (k0 : Int → Option α) (v13 : ByteArray) (v14 : Int) (v15 : Int) : Option α :=
 let x16 := IntKind.i64.wrap (v14 + v15)
 let x17 := ((v13.size : Nat) : Int)
 let x18 := decide (x16 < x17)
 bif x18 then
  let x19 := IntKind.i64.wrap (v14 + v15)
  bif (decide (x19 < (0 : Int))) then
   none
  else
   match (v13[x19.toNat]? : Option UInt8) with
   | some x20 =>
    let x21 := ((x20.toNat : Nat) : Int)
    let x22 := (decide ((48 : Int) ≤ x21))
    bif x22 then
     let x23 := IntKind.i64.wrap (v14 + v15)
     bif (decide (x23 < (0 : Int))) then
      none
     else
      match (v13[x23.toNat]? : Option UInt8) with
      | some x24 =>
       let x25 := ((x24.toNat : Nat) : Int)
       let x26 := (decide (x25 ≤ (57 : Int)))
       bif x26 then
        let x27 := (IntKind.i64.wrap (v15 + (1 : Int)))
        next v13 v14 x27
       else
        k0 v15
      | none => none
    else
     k0 v15
   | none => none
 else
  k0 v15
noncomputable def spec_l7Digits_L0.b {α : Type} := fun N n v13 v14 v15 k0 => loopN (fun next => @spec_l7Digits_L0r α N next k0) (fun _ _ _ => none) n v13 v14 v15
noncomputable def spec_l7Digits_L0 {α : Type} := lockF (@spec_l7Digits_L0.b α)
theorem spec_l7Digits_L0.eq : @spec_l7Digits_L0 = @spec_l7Digits_L0.b := funext fun α => lockF_eq _
theorem spec_l7Digits_L0.zero {α : Type} (N v13 v14 v15 k0) : @spec_l7Digits_L0 α N 0 v13 v14 v15 k0 = none := by rw [spec_l7Digits_L0.eq]; rfl
theorem spec_l7Digits_L0.succ {α : Type} (N n v13 v14 v15 k0) : @spec_l7Digits_L0 α N (n + 1) v13 v14 v15 k0 = spec_l7Digits_L0r N (fun y0 y1 y2 => spec_l7Digits_L0 N n y0 y1 y2 k0) k0 v13 v14 v15 := by rw [spec_l7Digits_L0.eq]; rfl
/-- spec.l7Digits -/
noncomputable def spec_l7Digits.b {α : Type} (N : Nat) (a11 : ByteArray) (a12 : Int) (k0 : Int → Option α) : Option α :=
 spec_l7Digits_L0 N N a11 a12 (0 : Int)
  (fun x28 =>
   k0 x28)
noncomputable def spec_l7Digits {α : Type} := lockF (@spec_l7Digits.b α)
theorem spec_l7Digits.eq : @spec_l7Digits = @spec_l7Digits.b := funext fun α => lockF_eq _

noncomputable def spec_l7Parts_J9.b {α : Type} (N : Nat) (v36 : ByteArray) (v37 : ByteArray) (v38 : Int) (v39 : Int) (k0 : ByteArray → Int → Int → Bool → Option α) (k1 : ByteArray → ByteArray → Int → Int → Option α) : Option α :=
 let x40 := ((v36.size : Nat) : Int)
 let x41 := decide (v39 < x40)
 bif x41 then
  bif (decide (v39 < (0 : Int))) then
   none
  else
   match (v36[v39.toNat]? : Option UInt8) with
   | some x42 =>
    let x43 := ((x42.toNat : Nat) : Int)
    let x44 := (decide (x43 = (46 : Int)))
    bif x44 then
     let x45 := (IntKind.i64.wrap (v39 + (1 : Int)))
     spec_l7Digits N v36 x45
      (fun x46 =>
       let x47 := (decide (x46 = (0 : Int)))
       bif x47 then
        k0 ByteArray.empty (0 : Int) (0 : Int) false
       else
        let x48 := (IntKind.i64.wrap (v39 + (1 : Int)))
        let x49 := (IntKind.i64.wrap (v39 + (1 : Int)))
        let x50 := IntKind.i64.wrap (x49 + x46)
        bif (decide ((0 : Int) ≤ x50)) then
         bif (decide (x50 ≤ ((v36.size : Nat) : Int))) then
          bif (decide ((0 : Int) ≤ x48)) then
           bif (decide (x48 ≤ ((x50.toNat : Nat) : Int))) then
            let x51 := v36.extract x48.toNat x50.toNat
            bif decide (v37.size + x51.size ≤ 9223372036854775807) then
             let x52 := v37 ++ x51
             let x53 := (IntKind.i64.wrap (v39 + (1 : Int)))
             let x54 := IntKind.i64.wrap (x53 + x46)
             k1 v36 x52 x46 x54
            else
             none
           else
            none
          else
           none
         else
          none
        else
         none)
    else
     k1 v36 v37 v38 v39
   | none => none
 else
  k1 v36 v37 v38 v39
noncomputable def spec_l7Parts_J9 {α : Type} := lockF (@spec_l7Parts_J9.b α)
theorem spec_l7Parts_J9.eq : @spec_l7Parts_J9 = @spec_l7Parts_J9.b := funext fun α => lockF_eq _
noncomputable def spec_l7Parts_J19.b {α : Type} (N : Nat) (v79 : ByteArray) (v80 : ByteArray) (v81 : Int) (v82 : Int) (v83 : Int) (v84 : Bool) (k0 : ByteArray → ByteArray → Int → Int → Int → Bool → Option α) : Option α :=
 bif v84 then
  let x85 := (IntKind.i64.wrap (v82 + (1 : Int)))
  k0 v79 v80 v81 x85 v83 v84
 else
  k0 v79 v80 v81 v82 v83 v84
noncomputable def spec_l7Parts_J19 {α : Type} := lockF (@spec_l7Parts_J19.b α)
theorem spec_l7Parts_J19.eq : @spec_l7Parts_J19 = @spec_l7Parts_J19.b := funext fun α => lockF_eq _
noncomputable def spec_l7Parts_L0r {α : Type} (N : Nat) (next : ByteArray → ByteArray → Int → Int → Int → Bool → Int → Int → Option α) (k0 : ByteArray → ByteArray → Int → Int → Int → Bool → Int → Option α) (v102 : ByteArray) (v103 : ByteArray) (v104 : Int) (v105 : Int) (v106 : Int) (v107 : Bool) (v108 : Int) (v109 : Int) : Option α :=
 let x110 := IntKind.i64.wrap (v105 + v108)
 let x111 := decide (v109 < x110)
 bif x111 then
  let x112 := (IntKind.i64.wrap (v106 * (10 : Int)))
  bif (decide (v109 < (0 : Int))) then
   none
  else
   match (v102[v109.toNat]? : Option UInt8) with
   | some x113 =>
    let x114 := ((x113.toNat : Nat) : Int)
    let x115 := (IntKind.u8.wrap (x114 - (48 : Int)))
    let x116 := IntKind.i64.wrap x115
    let x117 := IntKind.i64.wrap (x112 + x116)
    let x118 := (IntKind.i64.wrap (v109 + (1 : Int)))
    next v102 v103 v104 v105 x117 v107 v108 x118
   | none => none
 else
  k0 v102 v103 v104 v105 v106 v107 v108
noncomputable def spec_l7Parts_L0.b {α : Type} := fun N n v102 v103 v104 v105 v106 v107 v108 v109 k0 => loopN (fun next => @spec_l7Parts_L0r α N next k0) (fun _ _ _ _ _ _ _ _ => none) n v102 v103 v104 v105 v106 v107 v108 v109
noncomputable def spec_l7Parts_L0 {α : Type} := lockF (@spec_l7Parts_L0.b α)
theorem spec_l7Parts_L0.eq : @spec_l7Parts_L0 = @spec_l7Parts_L0.b := funext fun α => lockF_eq _
theorem spec_l7Parts_L0.zero {α : Type} (N v102 v103 v104 v105 v106 v107 v108 v109 k0) : @spec_l7Parts_L0 α N 0 v102 v103 v104 v105 v106 v107 v108 v109 k0 = none := by rw [spec_l7Parts_L0.eq]; rfl
theorem spec_l7Parts_L0.succ {α : Type} (N n v102 v103 v104 v105 v106 v107 v108 v109 k0) : @spec_l7Parts_L0 α N (n + 1) v102 v103 v104 v105 v106 v107 v108 v109 k0 = spec_l7Parts_L0r N (fun y0 y1 y2 y3 y4 y5 y6 y7 => spec_l7Parts_L0 N n y0 y1 y2 y3 y4 y5 y6 y7 k0) k0 v102 v103 v104 v105 v106 v107 v108 v109 := by rw [spec_l7Parts_L0.eq]; rfl
noncomputable def spec_l7Parts_J30.b {α : Type} (N : Nat) (v127 : ByteArray) (v128 : ByteArray) (v129 : Int) (v130 : Int) (v131 : Int) (v132 : Bool) (v133 : Int) (k0 : ByteArray → ByteArray → Int → Int → Int → Int → Option α) : Option α :=
 bif v132 then
  let x134 := IntKind.i64.wrap (0 - v131)
  k0 v127 v128 v129 v130 x134 v133
 else
  k0 v127 v128 v129 v130 v131 v133
noncomputable def spec_l7Parts_J30 {α : Type} := lockF (@spec_l7Parts_J30.b α)
theorem spec_l7Parts_J30.eq : @spec_l7Parts_J30 = @spec_l7Parts_J30.b := funext fun α => lockF_eq _
noncomputable def spec_l7Parts_J16.b {α : Type} (N : Nat) (v63 : ByteArray) (v64 : ByteArray) (v65 : Int) (v66 : Int) (v67 : Int) (k0 : ByteArray → Int → Int → Bool → Option α) (k1 : ByteArray → ByteArray → Int → Int → Int → Option α) : Option α :=
 let x68 := ((v63.size : Nat) : Int)
 let x69 := decide (v66 < x68)
 bif x69 then
  bif (decide (v66 < (0 : Int))) then
   none
  else
   match (v63[v66.toNat]? : Option UInt8) with
   | some x70 =>
    let x71 := ((x70.toNat : Nat) : Int)
    let x72 := (decide (x71 = (101 : Int)))
    bif x72 then
     let x73 := (IntKind.i64.wrap (v66 + (1 : Int)))
     let x74 := ((v63.size : Nat) : Int)
     let x75 := decide (x73 < x74)
     bif x75 then
      bif (decide (x73 < (0 : Int))) then
       none
      else
       match (v63[x73.toNat]? : Option UInt8) with
       | some x76 =>
        let x77 := ((x76.toNat : Nat) : Int)
        let x78 := (decide (x77 = (45 : Int)))
        spec_l7Parts_J19 N v63 v64 v65 x73 v67 x78
         (fun x86 x87 x88 x89 x90 x91 =>
          spec_l7Digits N x86 x89
           (fun x92 =>
            let x93 := (decide (x92 = (0 : Int)))
            bif x93 then
             k0 ByteArray.empty (0 : Int) (0 : Int) false
            else
             let x94 := (decide ((3 : Int) < x92))
             bif x94 then
              k0 ByteArray.empty (0 : Int) (0 : Int) false
             else
              let x95 := (decide ((1 : Int) < x92))
              bif x95 then
               bif (decide (x89 < (0 : Int))) then
                none
               else
                match (x86[x89.toNat]? : Option UInt8) with
                | some x96 =>
                 let x97 := ((x96.toNat : Nat) : Int)
                 let x98 := (decide (x97 = (48 : Int)))
                 bif x98 then
                  k0 ByteArray.empty (0 : Int) (0 : Int) false
                 else
                  bif x91 then
                   bif (decide (x89 < (0 : Int))) then
                    none
                   else
                    match (x86[x89.toNat]? : Option UInt8) with
                    | some x99 =>
                     let x100 := ((x99.toNat : Nat) : Int)
                     let x101 := (decide (x100 = (48 : Int)))
                     bif x101 then
                      k0 ByteArray.empty (0 : Int) (0 : Int) false
                     else
                      spec_l7Parts_L0 N N x86 x87 x88 x89 x90 x91 x92 x89
                       (fun x119 x120 x121 x122 x123 x124 x125 =>
                        let x126 := (decide ((400 : Int) < x123))
                        bif x126 then
                         k0 ByteArray.empty (0 : Int) (0 : Int) false
                        else
                         spec_l7Parts_J30 N x119 x120 x121 x122 x123 x124 x125
                          (fun x135 x136 x137 x138 x139 x140 =>
                           let x141 := IntKind.i64.wrap (x138 + x140)
                           k1 x135 x136 x137 x141 x139))
                    | none => none
                  else
                   spec_l7Parts_L0 N N x86 x87 x88 x89 x90 x91 x92 x89
                    (fun x142 x143 x144 x145 x146 x147 x148 =>
                     let x149 := (decide ((400 : Int) < x146))
                     bif x149 then
                      k0 ByteArray.empty (0 : Int) (0 : Int) false
                     else
                      spec_l7Parts_J30 N x142 x143 x144 x145 x146 x147 x148
                       (fun x150 x151 x152 x153 x154 x155 =>
                        let x156 := IntKind.i64.wrap (x153 + x155)
                        k1 x150 x151 x152 x156 x154))
                | none => none
              else
               bif x91 then
                bif (decide (x89 < (0 : Int))) then
                 none
                else
                 match (x86[x89.toNat]? : Option UInt8) with
                 | some x157 =>
                  let x158 := ((x157.toNat : Nat) : Int)
                  let x159 := (decide (x158 = (48 : Int)))
                  bif x159 then
                   k0 ByteArray.empty (0 : Int) (0 : Int) false
                  else
                   spec_l7Parts_L0 N N x86 x87 x88 x89 x90 x91 x92 x89
                    (fun x160 x161 x162 x163 x164 x165 x166 =>
                     let x167 := (decide ((400 : Int) < x164))
                     bif x167 then
                      k0 ByteArray.empty (0 : Int) (0 : Int) false
                     else
                      spec_l7Parts_J30 N x160 x161 x162 x163 x164 x165 x166
                       (fun x168 x169 x170 x171 x172 x173 =>
                        let x174 := IntKind.i64.wrap (x171 + x173)
                        k1 x168 x169 x170 x174 x172))
                 | none => none
               else
                spec_l7Parts_L0 N N x86 x87 x88 x89 x90 x91 x92 x89
                 (fun x175 x176 x177 x178 x179 x180 x181 =>
                  let x182 := (decide ((400 : Int) < x179))
                  bif x182 then
                   k0 ByteArray.empty (0 : Int) (0 : Int) false
                  else
                   spec_l7Parts_J30 N x175 x176 x177 x178 x179 x180 x181
                    (fun x183 x184 x185 x186 x187 x188 =>
                     let x189 := IntKind.i64.wrap (x186 + x188)
                     k1 x183 x184 x185 x189 x187))))
       | none => none
     else
      spec_l7Parts_J19 N v63 v64 v65 x73 v67 false
       (fun x190 x191 x192 x193 x194 x195 =>
        spec_l7Digits N x190 x193
         (fun x196 =>
          let x197 := (decide (x196 = (0 : Int)))
          bif x197 then
           k0 ByteArray.empty (0 : Int) (0 : Int) false
          else
           let x198 := (decide ((3 : Int) < x196))
           bif x198 then
            k0 ByteArray.empty (0 : Int) (0 : Int) false
           else
            let x199 := (decide ((1 : Int) < x196))
            bif x199 then
             bif (decide (x193 < (0 : Int))) then
              none
             else
              match (x190[x193.toNat]? : Option UInt8) with
              | some x200 =>
               let x201 := ((x200.toNat : Nat) : Int)
               let x202 := (decide (x201 = (48 : Int)))
               bif x202 then
                k0 ByteArray.empty (0 : Int) (0 : Int) false
               else
                bif x195 then
                 bif (decide (x193 < (0 : Int))) then
                  none
                 else
                  match (x190[x193.toNat]? : Option UInt8) with
                  | some x203 =>
                   let x204 := ((x203.toNat : Nat) : Int)
                   let x205 := (decide (x204 = (48 : Int)))
                   bif x205 then
                    k0 ByteArray.empty (0 : Int) (0 : Int) false
                   else
                    spec_l7Parts_L0 N N x190 x191 x192 x193 x194 x195 x196 x193
                     (fun x206 x207 x208 x209 x210 x211 x212 =>
                      let x213 := (decide ((400 : Int) < x210))
                      bif x213 then
                       k0 ByteArray.empty (0 : Int) (0 : Int) false
                      else
                       spec_l7Parts_J30 N x206 x207 x208 x209 x210 x211 x212
                        (fun x214 x215 x216 x217 x218 x219 =>
                         let x220 := IntKind.i64.wrap (x217 + x219)
                         k1 x214 x215 x216 x220 x218))
                  | none => none
                else
                 spec_l7Parts_L0 N N x190 x191 x192 x193 x194 x195 x196 x193
                  (fun x221 x222 x223 x224 x225 x226 x227 =>
                   let x228 := (decide ((400 : Int) < x225))
                   bif x228 then
                    k0 ByteArray.empty (0 : Int) (0 : Int) false
                   else
                    spec_l7Parts_J30 N x221 x222 x223 x224 x225 x226 x227
                     (fun x229 x230 x231 x232 x233 x234 =>
                      let x235 := IntKind.i64.wrap (x232 + x234)
                      k1 x229 x230 x231 x235 x233))
              | none => none
            else
             bif x195 then
              bif (decide (x193 < (0 : Int))) then
               none
              else
               match (x190[x193.toNat]? : Option UInt8) with
               | some x236 =>
                let x237 := ((x236.toNat : Nat) : Int)
                let x238 := (decide (x237 = (48 : Int)))
                bif x238 then
                 k0 ByteArray.empty (0 : Int) (0 : Int) false
                else
                 spec_l7Parts_L0 N N x190 x191 x192 x193 x194 x195 x196 x193
                  (fun x239 x240 x241 x242 x243 x244 x245 =>
                   let x246 := (decide ((400 : Int) < x243))
                   bif x246 then
                    k0 ByteArray.empty (0 : Int) (0 : Int) false
                   else
                    spec_l7Parts_J30 N x239 x240 x241 x242 x243 x244 x245
                     (fun x247 x248 x249 x250 x251 x252 =>
                      let x253 := IntKind.i64.wrap (x250 + x252)
                      k1 x247 x248 x249 x253 x251))
               | none => none
             else
              spec_l7Parts_L0 N N x190 x191 x192 x193 x194 x195 x196 x193
               (fun x254 x255 x256 x257 x258 x259 x260 =>
                let x261 := (decide ((400 : Int) < x258))
                bif x261 then
                 k0 ByteArray.empty (0 : Int) (0 : Int) false
                else
                 spec_l7Parts_J30 N x254 x255 x256 x257 x258 x259 x260
                  (fun x262 x263 x264 x265 x266 x267 =>
                   let x268 := IntKind.i64.wrap (x265 + x267)
                   k1 x262 x263 x264 x268 x266))))
    else
     k1 v63 v64 v65 v66 v67
   | none => none
 else
  k1 v63 v64 v65 v66 v67
noncomputable def spec_l7Parts_J16 {α : Type} := lockF (@spec_l7Parts_J16.b α)
theorem spec_l7Parts_J16.eq : @spec_l7Parts_J16 = @spec_l7Parts_J16.b := funext fun α => lockF_eq _
/-- spec.l7Parts -/
noncomputable def spec_l7Parts.b {α : Type} (N : Nat) (a8 : ByteArray) (k0 : ByteArray → Int → Int → Bool → Option α) : Option α :=
 let x9 := ((a8.size : Nat) : Int)
 let x10 := (decide ((60 : Int) < x9))
 bif x10 then
  k0 ByteArray.empty (0 : Int) (0 : Int) false
 else
  spec_l7Digits N a8 (0 : Int)
   (fun x29 =>
    let x30 := (decide (x29 = (0 : Int)))
    bif x30 then
     k0 ByteArray.empty (0 : Int) (0 : Int) false
    else
     let x31 := (decide ((1 : Int) < x29))
     bif x31 then
      match (a8[0]? : Option UInt8) with
      | some x32 =>
       let x33 := ((x32.toNat : Nat) : Int)
       let x34 := (decide (x33 = (48 : Int)))
       bif x34 then
        k0 ByteArray.empty (0 : Int) (0 : Int) false
       else
        bif (decide ((0 : Int) ≤ x29)) then
         bif (decide (x29 ≤ ((a8.size : Nat) : Int))) then
          let x35 := a8.extract 0 x29.toNat
          spec_l7Parts_J9 N a8 x35 (0 : Int) x29
           (fun x55 x56 x57 x58 =>
            k0 x55 x56 x57 x58)
           (fun x59 x60 x61 x62 =>
            spec_l7Parts_J16 N x59 x60 x61 x62 (0 : Int)
             (fun x269 x270 x271 x272 =>
              k0 x269 x270 x271 x272)
             (fun x273 x274 x275 x276 x277 =>
              let x278 := ((x273.size : Nat) : Int)
              let x279 := decide (x276 = x278)
              k0 x274 x275 x277 x279))
         else
          none
        else
         none
      | none => none
     else
      bif (decide ((0 : Int) ≤ x29)) then
       bif (decide (x29 ≤ ((a8.size : Nat) : Int))) then
        let x280 := a8.extract 0 x29.toNat
        spec_l7Parts_J9 N a8 x280 (0 : Int) x29
         (fun x281 x282 x283 x284 =>
          k0 x281 x282 x283 x284)
         (fun x285 x286 x287 x288 =>
          spec_l7Parts_J16 N x285 x286 x287 x288 (0 : Int)
           (fun x289 x290 x291 x292 =>
            k0 x289 x290 x291 x292)
           (fun x293 x294 x295 x296 x297 =>
            let x298 := ((x293.size : Nat) : Int)
            let x299 := decide (x296 = x298)
            k0 x294 x295 x297 x299))
       else
        none
      else
       none)
noncomputable def spec_l7Parts {α : Type} := lockF (@spec_l7Parts.b α)
theorem spec_l7Parts.eq : @spec_l7Parts = @spec_l7Parts.b := funext fun α => lockF_eq _

noncomputable def spec_l5Trim_L0r {α : Type} (N : Nat) (next : List Int → Int → Option α) (k0 : List Int → Int → Option α) (v365 : List Int) (v366 : Int) : Option α :=
 let x367 := (decide ((0 : Int) < v366))
 bif x367 then
  let x368 := (IntKind.i64.wrap (v366 - (1 : Int)))
  bif (decide (x368 < (0 : Int))) then
   none
  else
   match v365[x368.toNat]? with
   | some x369 =>
    let x370 := (decide (x369 = (0 : Int)))
    bif x370 then
     let x371 := (IntKind.i64.wrap (v366 - (1 : Int)))
     next v365 x371
    else
     k0 v365 v366
   | none => none
 else
  k0 v365 v366
noncomputable def spec_l5Trim_L0.b {α : Type} := fun N n v365 v366 k0 => loopN (fun next => @spec_l5Trim_L0r α N next k0) (fun _ _ => none) n v365 v366
noncomputable def spec_l5Trim_L0 {α : Type} := lockF (@spec_l5Trim_L0.b α)
theorem spec_l5Trim_L0.eq : @spec_l5Trim_L0 = @spec_l5Trim_L0.b := funext fun α => lockF_eq _
theorem spec_l5Trim_L0.zero {α : Type} (N v365 v366 k0) : @spec_l5Trim_L0 α N 0 v365 v366 k0 = none := by rw [spec_l5Trim_L0.eq]; rfl
theorem spec_l5Trim_L0.succ {α : Type} (N n v365 v366 k0) : @spec_l5Trim_L0 α N (n + 1) v365 v366 k0 = spec_l5Trim_L0r N (fun y0 y1 => spec_l5Trim_L0 N n y0 y1 k0) k0 v365 v366 := by rw [spec_l5Trim_L0.eq]; rfl
noncomputable def spec_l5Trim_L2r {α : Type} (N : Nat) (next : List Int → Int → Int → List Int → Option α) (k0 : List Int → Option α) (v374 : List Int) (v375 : Int) (v376 : Int) (v377 : List Int) : Option α :=
 let x378 := decide (v376 < v375)
 bif x378 then
  bif (decide (v376 < (0 : Int))) then
   none
  else
   match v374[v376.toNat]? with
   | some x379 =>
    let x380 := [x379]
    bif decide (v377.length + x380.length ≤ 8796093022208) then
     let x381 := v377 ++ x380
     let x382 := (IntKind.i64.wrap (v376 + (1 : Int)))
     next v374 v375 x382 x381
    else
     none
   | none => none
 else
  k0 v377
noncomputable def spec_l5Trim_L2.b {α : Type} := fun N n v374 v375 v376 v377 k0 => loopN (fun next => @spec_l5Trim_L2r α N next k0) (fun _ _ _ _ => none) n v374 v375 v376 v377
noncomputable def spec_l5Trim_L2 {α : Type} := lockF (@spec_l5Trim_L2.b α)
theorem spec_l5Trim_L2.eq : @spec_l5Trim_L2 = @spec_l5Trim_L2.b := funext fun α => lockF_eq _
theorem spec_l5Trim_L2.zero {α : Type} (N v374 v375 v376 v377 k0) : @spec_l5Trim_L2 α N 0 v374 v375 v376 v377 k0 = none := by rw [spec_l5Trim_L2.eq]; rfl
theorem spec_l5Trim_L2.succ {α : Type} (N n v374 v375 v376 v377 k0) : @spec_l5Trim_L2 α N (n + 1) v374 v375 v376 v377 k0 = spec_l5Trim_L2r N (fun y0 y1 y2 y3 => spec_l5Trim_L2 N n y0 y1 y2 y3 k0) k0 v374 v375 v376 v377 := by rw [spec_l5Trim_L2.eq]; rfl
/-- spec.l5Trim -/
noncomputable def spec_l5Trim.b {α : Type} (N : Nat) (a363 : List Int) (k0 : List Int → Option α) : Option α :=
 let x364 := ((a363.length : Nat) : Int)
 spec_l5Trim_L0 N N a363 x364
  (fun x372 x373 =>
   spec_l5Trim_L2 N N x372 x373 (0 : Int) []
    (fun x383 =>
     k0 x383))
noncomputable def spec_l5Trim {α : Type} := lockF (@spec_l5Trim.b α)
theorem spec_l5Trim.eq : @spec_l5Trim = @spec_l5Trim.b := funext fun α => lockF_eq _

noncomputable def spec_l5Mul_L2r {α : Type} (N : Nat) (next : List Int → List Int → Int → Int → Int → List Int → Option α) (k0 : List Int → List Int → Int → Int → List Int → Option α) (v331 : List Int) (v332 : List Int) (v333 : Int) (v334 : Int) (v335 : Int) (v336 : List Int) : Option α :=
 let x337 := ((v332.length : Nat) : Int)
 let x338 := decide (v335 < x337)
 bif x338 then
  let x339 := IntKind.i64.wrap (v333 + v335)
  bif (decide (x339 < (0 : Int))) then
   none
  else
   bif decide (x339.toNat < v336.length) then
    match v336[x339.toNat]? with
    | some x340 =>
     bif (decide (v333 < (0 : Int))) then
      none
     else
      match v331[v333.toNat]? with
      | some x341 =>
       bif (decide (v335 < (0 : Int))) then
        none
       else
        match v332[v335.toNat]? with
        | some x342 =>
         let x343 := IntKind.i64.wrap (x341 * x342)
         let x344 := IntKind.i64.wrap (x340 + x343)
         let x345 := IntKind.i64.wrap (x344 + v334)
         let x346 := IntKind.i64.wrap (v333 + v335)
         let x347 := (Int.tmod x345 (65536 : Int))
         bif (decide (x346 < (0 : Int))) then
          none
         else
          bif decide (x346.toNat < v336.length) then
           match v336[x346.toNat]? with
           | some x348 =>
            let x349 := v336.set x346.toNat x347
            let x350 := (IntKind.i64.wrap (Int.tdiv x345 (65536 : Int)))
            let x351 := (IntKind.i64.wrap (v335 + (1 : Int)))
            next v331 v332 v333 x350 x351 x349
           | none => none
          else
           none
        | none => none
      | none => none
    | none => none
   else
    none
 else
  k0 v331 v332 v333 v334 v336
noncomputable def spec_l5Mul_L2.b {α : Type} := fun N n v331 v332 v333 v334 v335 v336 k0 => loopN (fun next => @spec_l5Mul_L2r α N next k0) (fun _ _ _ _ _ _ => none) n v331 v332 v333 v334 v335 v336
noncomputable def spec_l5Mul_L2 {α : Type} := lockF (@spec_l5Mul_L2.b α)
theorem spec_l5Mul_L2.eq : @spec_l5Mul_L2 = @spec_l5Mul_L2.b := funext fun α => lockF_eq _
theorem spec_l5Mul_L2.zero {α : Type} (N v331 v332 v333 v334 v335 v336 k0) : @spec_l5Mul_L2 α N 0 v331 v332 v333 v334 v335 v336 k0 = none := by rw [spec_l5Mul_L2.eq]; rfl
theorem spec_l5Mul_L2.succ {α : Type} (N n v331 v332 v333 v334 v335 v336 k0) : @spec_l5Mul_L2 α N (n + 1) v331 v332 v333 v334 v335 v336 k0 = spec_l5Mul_L2r N (fun y0 y1 y2 y3 y4 y5 => spec_l5Mul_L2 N n y0 y1 y2 y3 y4 y5 k0) k0 v331 v332 v333 v334 v335 v336 := by rw [spec_l5Mul_L2.eq]; rfl
noncomputable def spec_l5Mul_L0r {α : Type} (N : Nat) (next : List Int → List Int → Int → List Int → Option α) (k0 : List Int → Option α) (v325 : List Int) (v326 : List Int) (v327 : Int) (v328 : List Int) : Option α :=
 let x329 := ((v325.length : Nat) : Int)
 let x330 := decide (v327 < x329)
 bif x330 then
  spec_l5Mul_L2 N N v325 v326 v327 (0 : Int) (0 : Int) v328
   (fun x352 x353 x354 x355 x356 =>
    let x357 := ((x353.length : Nat) : Int)
    let x358 := IntKind.i64.wrap (x354 + x357)
    bif (decide (x358 < (0 : Int))) then
     none
    else
     bif decide (x358.toNat < x356.length) then
      match x356[x358.toNat]? with
      | some x359 =>
       let x360 := x356.set x358.toNat x355
       let x361 := (IntKind.i64.wrap (x354 + (1 : Int)))
       next x352 x353 x361 x360
      | none => none
     else
      none)
 else
  k0 v328
noncomputable def spec_l5Mul_L0.b {α : Type} := fun N n v325 v326 v327 v328 k0 => loopN (fun next => @spec_l5Mul_L0r α N next k0) (fun _ _ _ _ => none) n v325 v326 v327 v328
noncomputable def spec_l5Mul_L0 {α : Type} := lockF (@spec_l5Mul_L0.b α)
theorem spec_l5Mul_L0.eq : @spec_l5Mul_L0 = @spec_l5Mul_L0.b := funext fun α => lockF_eq _
theorem spec_l5Mul_L0.zero {α : Type} (N v325 v326 v327 v328 k0) : @spec_l5Mul_L0 α N 0 v325 v326 v327 v328 k0 = none := by rw [spec_l5Mul_L0.eq]; rfl
theorem spec_l5Mul_L0.succ {α : Type} (N n v325 v326 v327 v328 k0) : @spec_l5Mul_L0 α N (n + 1) v325 v326 v327 v328 k0 = spec_l5Mul_L0r N (fun y0 y1 y2 y3 => spec_l5Mul_L0 N n y0 y1 y2 y3 k0) k0 v325 v326 v327 v328 := by rw [spec_l5Mul_L0.eq]; rfl
/-- spec.l5Mul -/
noncomputable def spec_l5Mul.b {α : Type} (N : Nat) (a319 : List Int) (a320 : List Int) (k0 : List Int → Option α) : Option α :=
 let x321 := ((a319.length : Nat) : Int)
 let x322 := ((a320.length : Nat) : Int)
 let x323 := IntKind.i64.wrap (x321 + x322)
 bif (decide ((0 : Int) ≤ x323)) then
  bif decide (x323 ≤ x323) then
   bif (decide (x323 ≤ ((8796093022208 : Nat) : Int))) then
    let x324 := (List.replicate x323.toNat (0 : Int))
    spec_l5Mul_L0 N N a319 a320 (0 : Int) x324
     (fun x362 =>
      spec_l5Trim N x362
       (fun x384 =>
        k0 x384))
   else
    none
  else
   none
 else
  none
noncomputable def spec_l5Mul {α : Type} := lockF (@spec_l5Mul.b α)
theorem spec_l5Mul.eq : @spec_l5Mul = @spec_l5Mul.b := funext fun α => lockF_eq _

/-- spec.l5Times -/
noncomputable def spec_l5Times.b {α : Type} (N : Nat) (a315 : List Int) (a316 : Int) (k0 : List Int → Option α) : Option α :=
 let x317 := (decide (a316 = (0 : Int)))
 bif x317 then
  k0 []
 else
  let x318 := [a316]
  spec_l5Mul N a315 x318
   (fun x385 =>
    k0 x385)
noncomputable def spec_l5Times {α : Type} := lockF (@spec_l5Times.b α)
theorem spec_l5Times.eq : @spec_l5Times = @spec_l5Times.b := funext fun α => lockF_eq _

noncomputable def spec_NatOf_L0r {α : Type} (N : Nat) (next : Int → List Int → Option α) (k0 : List Int → Option α) (v392 : Int) (v393 : List Int) : Option α :=
 let x394 := (decide ((0 : Int) < v392))
 bif x394 then
  let x395 := (Int.tmod v392 (65536 : Int))
  let x396 := IntKind.i64.wrap x395
  let x397 := [x396]
  bif decide (v393.length + x397.length ≤ 8796093022208) then
   let x398 := v393 ++ x397
   let x399 := (IntKind.u64.wrap (Int.tdiv v392 (65536 : Int)))
   next x399 x398
  else
   none
 else
  k0 v393
noncomputable def spec_NatOf_L0.b {α : Type} := fun N n v392 v393 k0 => loopN (fun next => @spec_NatOf_L0r α N next k0) (fun _ _ => none) n v392 v393
noncomputable def spec_NatOf_L0 {α : Type} := lockF (@spec_NatOf_L0.b α)
theorem spec_NatOf_L0.eq : @spec_NatOf_L0 = @spec_NatOf_L0.b := funext fun α => lockF_eq _
theorem spec_NatOf_L0.zero {α : Type} (N v392 v393 k0) : @spec_NatOf_L0 α N 0 v392 v393 k0 = none := by rw [spec_NatOf_L0.eq]; rfl
theorem spec_NatOf_L0.succ {α : Type} (N n v392 v393 k0) : @spec_NatOf_L0 α N (n + 1) v392 v393 k0 = spec_NatOf_L0r N (fun y0 y1 => spec_NatOf_L0 N n y0 y1 k0) k0 v392 v393 := by rw [spec_NatOf_L0.eq]; rfl
/-- spec.NatOf -/
noncomputable def spec_NatOf.b {α : Type} (N : Nat) (a391 : Int) (k0 : List Int → Option α) : Option α :=
 spec_NatOf_L0 N N a391 []
  (fun x400 =>
   k0 x400)
noncomputable def spec_NatOf {α : Type} := lockF (@spec_NatOf.b α)
theorem spec_NatOf.eq : @spec_NatOf = @spec_NatOf.b := funext fun α => lockF_eq _

/-- spec.l5At -/
noncomputable def spec_l5At.b {α : Type} (N : Nat) (a421 : List Int) (a422 : Int) (k0 : Int → Option α) : Option α :=
 let x423 := ((a421.length : Nat) : Int)
 let x424 := decide (a422 < x423)
 bif x424 then
  bif (decide (a422 < (0 : Int))) then
   none
  else
   match a421[a422.toNat]? with
   | some x425 =>
    k0 x425
   | none => none
 else
  k0 (0 : Int)
noncomputable def spec_l5At {α : Type} := lockF (@spec_l5At.b α)
theorem spec_l5At.eq : @spec_l5At = @spec_l5At.b := funext fun α => lockF_eq _

noncomputable def spec_l5Add_J2.b {α : Type} (N : Nat) (v405 : List Int) (v406 : List Int) (v407 : Int) (k0 : List Int → List Int → Int → Option α) : Option α :=
 let x408 := ((v406.length : Nat) : Int)
 let x409 := decide (v407 < x408)
 bif x409 then
  let x410 := ((v406.length : Nat) : Int)
  k0 v405 v406 x410
 else
  k0 v405 v406 v407
noncomputable def spec_l5Add_J2 {α : Type} := lockF (@spec_l5Add_J2.b α)
theorem spec_l5Add_J2.eq : @spec_l5Add_J2 = @spec_l5Add_J2.b := funext fun α => lockF_eq _
noncomputable def spec_l5Add_L0r {α : Type} (N : Nat) (next : List Int → List Int → Int → Int → Int → List Int → Option α) (k0 : Int → List Int → Option α) (v414 : List Int) (v415 : List Int) (v416 : Int) (v417 : Int) (v418 : Int) (v419 : List Int) : Option α :=
 let x420 := decide (v418 < v416)
 bif x420 then
  spec_l5At N v414 v418
   (fun x426 =>
    spec_l5At N v415 v418
     (fun x427 =>
      let x428 := IntKind.i64.wrap (x426 + x427)
      let x429 := IntKind.i64.wrap (x428 + v417)
      let x430 := (Int.tmod x429 (65536 : Int))
      let x431 := [x430]
      bif decide (v419.length + x431.length ≤ 8796093022208) then
       let x432 := v419 ++ x431
       let x433 := (IntKind.i64.wrap (Int.tdiv x429 (65536 : Int)))
       let x434 := (IntKind.i64.wrap (v418 + (1 : Int)))
       next v414 v415 v416 x433 x434 x432
      else
       none))
 else
  k0 v417 v419
noncomputable def spec_l5Add_L0.b {α : Type} := fun N n v414 v415 v416 v417 v418 v419 k0 => loopN (fun next => @spec_l5Add_L0r α N next k0) (fun _ _ _ _ _ _ => none) n v414 v415 v416 v417 v418 v419
noncomputable def spec_l5Add_L0 {α : Type} := lockF (@spec_l5Add_L0.b α)
theorem spec_l5Add_L0.eq : @spec_l5Add_L0 = @spec_l5Add_L0.b := funext fun α => lockF_eq _
theorem spec_l5Add_L0.zero {α : Type} (N v414 v415 v416 v417 v418 v419 k0) : @spec_l5Add_L0 α N 0 v414 v415 v416 v417 v418 v419 k0 = none := by rw [spec_l5Add_L0.eq]; rfl
theorem spec_l5Add_L0.succ {α : Type} (N n v414 v415 v416 v417 v418 v419 k0) : @spec_l5Add_L0 α N (n + 1) v414 v415 v416 v417 v418 v419 k0 = spec_l5Add_L0r N (fun y0 y1 y2 y3 y4 y5 => spec_l5Add_L0 N n y0 y1 y2 y3 y4 y5 k0) k0 v414 v415 v416 v417 v418 v419 := by rw [spec_l5Add_L0.eq]; rfl
noncomputable def spec_l5Add_J12.b {α : Type} (N : Nat) (v437 : Int) (v438 : List Int) (k0 : List Int → Option α) : Option α :=
 let x439 := (decide ((0 : Int) < v437))
 bif x439 then
  let x440 := [v437]
  bif decide (v438.length + x440.length ≤ 8796093022208) then
   let x441 := v438 ++ x440
   k0 x441
  else
   none
 else
  k0 v438
noncomputable def spec_l5Add_J12 {α : Type} := lockF (@spec_l5Add_J12.b α)
theorem spec_l5Add_J12.eq : @spec_l5Add_J12 = @spec_l5Add_J12.b := funext fun α => lockF_eq _
/-- spec.l5Add -/
noncomputable def spec_l5Add.b {α : Type} (N : Nat) (a402 : List Int) (a403 : List Int) (k0 : List Int → Option α) : Option α :=
 let x404 := ((a402.length : Nat) : Int)
 spec_l5Add_J2 N a402 a403 x404
  (fun x411 x412 x413 =>
   spec_l5Add_L0 N N x411 x412 x413 (0 : Int) (0 : Int) []
    (fun x435 x436 =>
     spec_l5Add_J12 N x435 x436
      (fun x442 =>
       k0 x442)))
noncomputable def spec_l5Add {α : Type} := lockF (@spec_l5Add.b α)
theorem spec_l5Add.eq : @spec_l5Add = @spec_l5Add.b := funext fun α => lockF_eq _

noncomputable def spec_l7Tens_L0r {α : Type} (N : Nat) (next : Int → Int → List Int → Option α) (k0 : List Int → Option α) (v456 : Int) (v457 : Int) (v458 : List Int) : Option α :=
 let x459 := decide (v457 < v456)
 bif x459 then
  spec_l5Times N v458 (10 : Int)
   (fun x460 =>
    let x461 := (IntKind.i64.wrap (v457 + (1 : Int)))
    next v456 x461 x460)
 else
  k0 v458
noncomputable def spec_l7Tens_L0.b {α : Type} := fun N n v456 v457 v458 k0 => loopN (fun next => @spec_l7Tens_L0r α N next k0) (fun _ _ _ => none) n v456 v457 v458
noncomputable def spec_l7Tens_L0 {α : Type} := lockF (@spec_l7Tens_L0.b α)
theorem spec_l7Tens_L0.eq : @spec_l7Tens_L0 = @spec_l7Tens_L0.b := funext fun α => lockF_eq _
theorem spec_l7Tens_L0.zero {α : Type} (N v456 v457 v458 k0) : @spec_l7Tens_L0 α N 0 v456 v457 v458 k0 = none := by rw [spec_l7Tens_L0.eq]; rfl
theorem spec_l7Tens_L0.succ {α : Type} (N n v456 v457 v458 k0) : @spec_l7Tens_L0 α N (n + 1) v456 v457 v458 k0 = spec_l7Tens_L0r N (fun y0 y1 y2 => spec_l7Tens_L0 N n y0 y1 y2 k0) k0 v456 v457 v458 := by rw [spec_l7Tens_L0.eq]; rfl
/-- spec.l7Tens -/
noncomputable def spec_l7Tens.b {α : Type} (N : Nat) (a454 : Int) (k0 : List Int → Option α) : Option α :=
 let x455 := [(1 : Int)]
 spec_l7Tens_L0 N N a454 (0 : Int) x455
  (fun x462 =>
   k0 x462)
noncomputable def spec_l7Tens {α : Type} := lockF (@spec_l7Tens.b α)
theorem spec_l7Tens.eq : @spec_l7Tens = @spec_l7Tens.b := funext fun α => lockF_eq _

noncomputable def spec_l5Cmp_L0r {α : Type} (N : Nat) (next : List Int → List Int → Int → Option α) (k0 : Int → Option α) (k1 : Option α) (v492 : List Int) (v493 : List Int) (v494 : Int) : Option α :=
 let x495 := (decide ((0 : Int) ≤ v494))
 bif x495 then
  bif (decide (v494 < (0 : Int))) then
   none
  else
   match v492[v494.toNat]? with
   | some x496 =>
    bif (decide (v494 < (0 : Int))) then
     none
    else
     match v493[v494.toNat]? with
     | some x497 =>
      let x498 := decide (x496 < x497)
      bif x498 then
       k0 (-1 : Int)
      else
       bif (decide (v494 < (0 : Int))) then
        none
       else
        match v492[v494.toNat]? with
        | some x499 =>
         bif (decide (v494 < (0 : Int))) then
          none
         else
          match v493[v494.toNat]? with
          | some x500 =>
           let x501 := decide (x500 < x499)
           bif x501 then
            k0 (1 : Int)
           else
            let x502 := (IntKind.i64.wrap (v494 - (1 : Int)))
            next v492 v493 x502
          | none => none
        | none => none
     | none => none
   | none => none
 else
  k1
noncomputable def spec_l5Cmp_L0.b {α : Type} := fun N n v492 v493 v494 k0 k1 => loopN (fun next => @spec_l5Cmp_L0r α N next k0 k1) (fun _ _ _ => none) n v492 v493 v494
noncomputable def spec_l5Cmp_L0 {α : Type} := lockF (@spec_l5Cmp_L0.b α)
theorem spec_l5Cmp_L0.eq : @spec_l5Cmp_L0 = @spec_l5Cmp_L0.b := funext fun α => lockF_eq _
theorem spec_l5Cmp_L0.zero {α : Type} (N v492 v493 v494 k0 k1) : @spec_l5Cmp_L0 α N 0 v492 v493 v494 k0 k1 = none := by rw [spec_l5Cmp_L0.eq]; rfl
theorem spec_l5Cmp_L0.succ {α : Type} (N n v492 v493 v494 k0 k1) : @spec_l5Cmp_L0 α N (n + 1) v492 v493 v494 k0 k1 = spec_l5Cmp_L0r N (fun y0 y1 y2 => spec_l5Cmp_L0 N n y0 y1 y2 k0 k1) k0 k1 v492 v493 v494 := by rw [spec_l5Cmp_L0.eq]; rfl
/-- spec.l5Cmp -/
noncomputable def spec_l5Cmp.b {α : Type} (N : Nat) (a482 : List Int) (a483 : List Int) (k0 : Int → Option α) : Option α :=
 let x484 := ((a482.length : Nat) : Int)
 let x485 := ((a483.length : Nat) : Int)
 let x486 := decide (x484 < x485)
 bif x486 then
  k0 (-1 : Int)
 else
  let x487 := ((a482.length : Nat) : Int)
  let x488 := ((a483.length : Nat) : Int)
  let x489 := decide (x488 < x487)
  bif x489 then
   k0 (1 : Int)
  else
   let x490 := ((a482.length : Nat) : Int)
   let x491 := (IntKind.i64.wrap (x490 - (1 : Int)))
   spec_l5Cmp_L0 N N a482 a483 x491
    (fun x503 =>
     k0 x503)
    (
     k0 (0 : Int))
noncomputable def spec_l5Cmp {α : Type} := lockF (@spec_l5Cmp.b α)
theorem spec_l5Cmp.eq : @spec_l5Cmp = @spec_l5Cmp.b := funext fun α => lockF_eq _

noncomputable def spec_l5DivSmall_L0r {α : Type} (N : Nat) (next : List Int → Int → Int → Int → List Int → Option α) (k0 : Int → List Int → Option α) (v516 : List Int) (v517 : Int) (v518 : Int) (v519 : Int) (v520 : List Int) : Option α :=
 let x521 := (decide ((0 : Int) ≤ v519))
 bif x521 then
  let x522 := (IntKind.i64.wrap (v518 * (65536 : Int)))
  bif (decide (v519 < (0 : Int))) then
   none
  else
   match v516[v519.toNat]? with
   | some x523 =>
    let x524 := IntKind.i64.wrap (x522 + x523)
    bif (decide (v517 = (0 : Int))) then
     none
    else
     let x525 := IntKind.i64.wrap (Int.tdiv x524 v517)
     bif (decide (v519 < (0 : Int))) then
      none
     else
      bif decide (v519.toNat < v520.length) then
       match v520[v519.toNat]? with
       | some x526 =>
        let x527 := v520.set v519.toNat x525
        bif (decide (v517 = (0 : Int))) then
         none
        else
         let x528 := Int.tmod x524 v517
         let x529 := (IntKind.i64.wrap (v519 - (1 : Int)))
         next v516 v517 x528 x529 x527
       | none => none
      else
       none
   | none => none
 else
  k0 v518 v520
noncomputable def spec_l5DivSmall_L0.b {α : Type} := fun N n v516 v517 v518 v519 v520 k0 => loopN (fun next => @spec_l5DivSmall_L0r α N next k0) (fun _ _ _ _ _ => none) n v516 v517 v518 v519 v520
noncomputable def spec_l5DivSmall_L0 {α : Type} := lockF (@spec_l5DivSmall_L0.b α)
theorem spec_l5DivSmall_L0.eq : @spec_l5DivSmall_L0 = @spec_l5DivSmall_L0.b := funext fun α => lockF_eq _
theorem spec_l5DivSmall_L0.zero {α : Type} (N v516 v517 v518 v519 v520 k0) : @spec_l5DivSmall_L0 α N 0 v516 v517 v518 v519 v520 k0 = none := by rw [spec_l5DivSmall_L0.eq]; rfl
theorem spec_l5DivSmall_L0.succ {α : Type} (N n v516 v517 v518 v519 v520 k0) : @spec_l5DivSmall_L0 α N (n + 1) v516 v517 v518 v519 v520 k0 = spec_l5DivSmall_L0r N (fun y0 y1 y2 y3 y4 => spec_l5DivSmall_L0 N n y0 y1 y2 y3 y4 k0) k0 v516 v517 v518 v519 v520 := by rw [spec_l5DivSmall_L0.eq]; rfl
/-- spec.l5DivSmall -/
noncomputable def spec_l5DivSmall.b {α : Type} (N : Nat) (a510 : List Int) (a511 : Int) (k0 : Int → List Int → Option α) : Option α :=
 let x512 := ((a510.length : Nat) : Int)
 bif (decide ((0 : Int) ≤ x512)) then
  bif decide (x512 ≤ x512) then
   bif (decide (x512 ≤ ((8796093022208 : Nat) : Int))) then
    let x513 := (List.replicate x512.toNat (0 : Int))
    let x514 := ((a510.length : Nat) : Int)
    let x515 := (IntKind.i64.wrap (x514 - (1 : Int)))
    spec_l5DivSmall_L0 N N a510 a511 (0 : Int) x515 x513
     (fun x530 x531 =>
      spec_l5Trim N x531
       (fun x532 =>
        k0 x530 x532))
   else
    none
  else
   none
 else
  none
noncomputable def spec_l5DivSmall {α : Type} := lockF (@spec_l5DivSmall.b α)
theorem spec_l5DivSmall.eq : @spec_l5DivSmall = @spec_l5DivSmall.b := funext fun α => lockF_eq _

noncomputable def spec_l5Top_L0r {α : Type} (N : Nat) (next : List Int → Int → List Int → Option α) (k0 : List Int → Option α) (v554 : List Int) (v555 : Int) (v556 : List Int) : Option α :=
 let x557 := ((v554.length : Nat) : Int)
 let x558 := decide (v555 < x557)
 bif x558 then
  bif (decide (v555 < (0 : Int))) then
   none
  else
   match v554[v555.toNat]? with
   | some x559 =>
    let x560 := [x559]
    bif decide (v556.length + x560.length ≤ 8796093022208) then
     let x561 := v556 ++ x560
     let x562 := (IntKind.i64.wrap (v555 + (1 : Int)))
     next v554 x562 x561
    else
     none
   | none => none
 else
  k0 v556
noncomputable def spec_l5Top_L0.b {α : Type} := fun N n v554 v555 v556 k0 => loopN (fun next => @spec_l5Top_L0r α N next k0) (fun _ _ _ => none) n v554 v555 v556
noncomputable def spec_l5Top_L0 {α : Type} := lockF (@spec_l5Top_L0.b α)
theorem spec_l5Top_L0.eq : @spec_l5Top_L0 = @spec_l5Top_L0.b := funext fun α => lockF_eq _
theorem spec_l5Top_L0.zero {α : Type} (N v554 v555 v556 k0) : @spec_l5Top_L0 α N 0 v554 v555 v556 k0 = none := by rw [spec_l5Top_L0.eq]; rfl
theorem spec_l5Top_L0.succ {α : Type} (N n v554 v555 v556 k0) : @spec_l5Top_L0 α N (n + 1) v554 v555 v556 k0 = spec_l5Top_L0r N (fun y0 y1 y2 => spec_l5Top_L0 N n y0 y1 y2 k0) k0 v554 v555 v556 := by rw [spec_l5Top_L0.eq]; rfl
/-- spec.l5Top -/
noncomputable def spec_l5Top.b {α : Type} (N : Nat) (a552 : List Int) (a553 : Int) (k0 : List Int → Option α) : Option α :=
 spec_l5Top_L0 N N a552 a553 []
  (fun x563 =>
   k0 x563)
noncomputable def spec_l5Top {α : Type} := lockF (@spec_l5Top.b α)
theorem spec_l5Top.eq : @spec_l5Top = @spec_l5Top.b := funext fun α => lockF_eq _

noncomputable def spec_l5Shl_L0r {α : Type} (N : Nat) (next : List Int → Int → List Int → Option α) (k0 : List Int → Option α) (v580 : List Int) (v581 : Int) (v582 : List Int) : Option α :=
 let x583 := ((v580.length : Nat) : Int)
 let x584 := decide (v581 < x583)
 bif x584 then
  bif (decide (v581 < (0 : Int))) then
   none
  else
   match v580[v581.toNat]? with
   | some x585 =>
    let x586 := [x585]
    bif decide (v582.length + x586.length ≤ 8796093022208) then
     let x587 := v582 ++ x586
     let x588 := (IntKind.i64.wrap (v581 + (1 : Int)))
     next v580 x588 x587
    else
     none
   | none => none
 else
  k0 v582
noncomputable def spec_l5Shl_L0.b {α : Type} := fun N n v580 v581 v582 k0 => loopN (fun next => @spec_l5Shl_L0r α N next k0) (fun _ _ _ => none) n v580 v581 v582
noncomputable def spec_l5Shl_L0 {α : Type} := lockF (@spec_l5Shl_L0.b α)
theorem spec_l5Shl_L0.eq : @spec_l5Shl_L0 = @spec_l5Shl_L0.b := funext fun α => lockF_eq _
theorem spec_l5Shl_L0.zero {α : Type} (N v580 v581 v582 k0) : @spec_l5Shl_L0 α N 0 v580 v581 v582 k0 = none := by rw [spec_l5Shl_L0.eq]; rfl
theorem spec_l5Shl_L0.succ {α : Type} (N n v580 v581 v582 k0) : @spec_l5Shl_L0 α N (n + 1) v580 v581 v582 k0 = spec_l5Shl_L0r N (fun y0 y1 y2 => spec_l5Shl_L0 N n y0 y1 y2 k0) k0 v580 v581 v582 := by rw [spec_l5Shl_L0.eq]; rfl
/-- spec.l5Shl -/
noncomputable def spec_l5Shl.b {α : Type} (N : Nat) (a575 : List Int) (a576 : Int) (k0 : List Int → Option α) : Option α :=
 let x577 := ((a575.length : Nat) : Int)
 let x578 := (decide (x577 = (0 : Int)))
 bif x578 then
  k0 []
 else
  bif (decide ((0 : Int) ≤ a576)) then
   bif decide (a576 ≤ a576) then
    bif (decide (a576 ≤ ((8796093022208 : Nat) : Int))) then
     let x579 := (List.replicate a576.toNat (0 : Int))
     spec_l5Shl_L0 N N a575 (0 : Int) x579
      (fun x589 =>
       k0 x589)
    else
     none
   else
    none
  else
   none
noncomputable def spec_l5Shl {α : Type} := lockF (@spec_l5Shl.b α)
theorem spec_l5Shl.eq : @spec_l5Shl = @spec_l5Shl.b := funext fun α => lockF_eq _

noncomputable def spec_l5Sub_J8.b {α : Type} (N : Nat) (v646 : List Int) (v647 : List Int) (v648 : Int) (v649 : Int) (v650 : Int) (v651 : List Int) (k0 : List Int → List Int → Int → Int → Int → List Int → Option α) : Option α :=
 let x652 := (decide (v650 < (0 : Int)))
 bif x652 then
  let x653 := (IntKind.i64.wrap (v650 + (65536 : Int)))
  k0 v646 v647 (1 : Int) v649 x653 v651
 else
  k0 v646 v647 v648 v649 v650 v651
noncomputable def spec_l5Sub_J8 {α : Type} := lockF (@spec_l5Sub_J8.b α)
theorem spec_l5Sub_J8.eq : @spec_l5Sub_J8 = @spec_l5Sub_J8.b := funext fun α => lockF_eq _
noncomputable def spec_l5Sub_L0r {α : Type} (N : Nat) (next : List Int → List Int → Int → Int → List Int → Option α) (k0 : List Int → Option α) (v635 : List Int) (v636 : List Int) (v637 : Int) (v638 : Int) (v639 : List Int) : Option α :=
 let x640 := ((v635.length : Nat) : Int)
 let x641 := decide (v638 < x640)
 bif x641 then
  bif (decide (v638 < (0 : Int))) then
   none
  else
   match v635[v638.toNat]? with
   | some x642 =>
    spec_l5At N v636 v638
     (fun x643 =>
      let x644 := IntKind.i64.wrap (x642 - x643)
      let x645 := IntKind.i64.wrap (x644 - v637)
      spec_l5Sub_J8 N v635 v636 (0 : Int) v638 x645 v639
       (fun x654 x655 x656 x657 x658 x659 =>
        let x660 := [x658]
        bif decide (x659.length + x660.length ≤ 8796093022208) then
         let x661 := x659 ++ x660
         let x662 := (IntKind.i64.wrap (x657 + (1 : Int)))
         next x654 x655 x656 x662 x661
        else
         none))
   | none => none
 else
  k0 v639
noncomputable def spec_l5Sub_L0.b {α : Type} := fun N n v635 v636 v637 v638 v639 k0 => loopN (fun next => @spec_l5Sub_L0r α N next k0) (fun _ _ _ _ _ => none) n v635 v636 v637 v638 v639
noncomputable def spec_l5Sub_L0 {α : Type} := lockF (@spec_l5Sub_L0.b α)
theorem spec_l5Sub_L0.eq : @spec_l5Sub_L0 = @spec_l5Sub_L0.b := funext fun α => lockF_eq _
theorem spec_l5Sub_L0.zero {α : Type} (N v635 v636 v637 v638 v639 k0) : @spec_l5Sub_L0 α N 0 v635 v636 v637 v638 v639 k0 = none := by rw [spec_l5Sub_L0.eq]; rfl
theorem spec_l5Sub_L0.succ {α : Type} (N n v635 v636 v637 v638 v639 k0) : @spec_l5Sub_L0 α N (n + 1) v635 v636 v637 v638 v639 k0 = spec_l5Sub_L0r N (fun y0 y1 y2 y3 y4 => spec_l5Sub_L0 N n y0 y1 y2 y3 y4 k0) k0 v635 v636 v637 v638 v639 := by rw [spec_l5Sub_L0.eq]; rfl
/-- spec.l5Sub -/
noncomputable def spec_l5Sub.b {α : Type} (N : Nat) (a633 : List Int) (a634 : List Int) (k0 : List Int → Option α) : Option α :=
 spec_l5Sub_L0 N N a633 a634 (0 : Int) (0 : Int) []
  (fun x663 =>
   spec_l5Trim N x663
    (fun x664 =>
     k0 x664))
noncomputable def spec_l5Sub {α : Type} := lockF (@spec_l5Sub.b α)
theorem spec_l5Sub.eq : @spec_l5Sub = @spec_l5Sub.b := funext fun α => lockF_eq _

noncomputable def spec_l5Div_J17.b {α : Type} (N : Nat) (v604 : Int) (v605 : Int) (v606 : Int) (v607 : Int) (v608 : List Int) (v609 : List Int) (v610 : List Int) (v611 : List Int) (k0 : Int → Int → Int → Int → List Int → List Int → List Int → List Int → Option α) : Option α :=
 let x612 := (decide ((65536 : Int) ≤ v607))
 bif x612 then
  k0 v604 v605 v606 (65535 : Int) v608 v609 v610 v611
 else
  k0 v604 v605 v606 v607 v608 v609 v610 v611
noncomputable def spec_l5Div_J17 {α : Type} := lockF (@spec_l5Div_J17.b α)
theorem spec_l5Div_J17.eq : @spec_l5Div_J17 = @spec_l5Div_J17.b := funext fun α => lockF_eq _
noncomputable def spec_l5Div_L2r {α : Type} (N : Nat) (next : Int → Int → Int → Int → List Int → List Int → List Int → List Int → List Int → Option α) (k0 : Int → Int → Int → Int → List Int → List Int → List Int → List Int → List Int → Option α) (v622 : Int) (v623 : Int) (v624 : Int) (v625 : Int) (v626 : List Int) (v627 : List Int) (v628 : List Int) (v629 : List Int) (v630 : List Int) : Option α :=
 spec_l5Cmp N v630 v629
  (fun x631 =>
   let x632 := (decide ((0 : Int) < x631))
   bif x632 then
    spec_l5Sub N v630 v627
     (fun x665 =>
      let x666 := (IntKind.i64.wrap (v625 - (1 : Int)))
      next v622 v623 v624 x666 v626 v627 v628 v629 x665)
   else
    k0 v622 v623 v624 v625 v626 v627 v628 v629 v630)
noncomputable def spec_l5Div_L2.b {α : Type} := fun N n v622 v623 v624 v625 v626 v627 v628 v629 v630 k0 => loopN (fun next => @spec_l5Div_L2r α N next k0) (fun _ _ _ _ _ _ _ _ _ => none) n v622 v623 v624 v625 v626 v627 v628 v629 v630
noncomputable def spec_l5Div_L2 {α : Type} := lockF (@spec_l5Div_L2.b α)
theorem spec_l5Div_L2.eq : @spec_l5Div_L2 = @spec_l5Div_L2.b := funext fun α => lockF_eq _
theorem spec_l5Div_L2.zero {α : Type} (N v622 v623 v624 v625 v626 v627 v628 v629 v630 k0) : @spec_l5Div_L2 α N 0 v622 v623 v624 v625 v626 v627 v628 v629 v630 k0 = none := by rw [spec_l5Div_L2.eq]; rfl
theorem spec_l5Div_L2.succ {α : Type} (N n v622 v623 v624 v625 v626 v627 v628 v629 v630 k0) : @spec_l5Div_L2 α N (n + 1) v622 v623 v624 v625 v626 v627 v628 v629 v630 k0 = spec_l5Div_L2r N (fun y0 y1 y2 y3 y4 y5 y6 y7 y8 => spec_l5Div_L2 N n y0 y1 y2 y3 y4 y5 y6 y7 y8 k0) k0 v622 v623 v624 v625 v626 v627 v628 v629 v630 := by rw [spec_l5Div_L2.eq]; rfl
noncomputable def spec_l5Div_L0r {α : Type} (N : Nat) (next : Int → Int → Int → List Int → List Int → List Int → List Int → Option α) (k0 : Int → List Int → List Int → Option α) (v567 : Int) (v568 : Int) (v569 : Int) (v570 : List Int) (v571 : List Int) (v572 : List Int) (v573 : List Int) : Option α :=
 let x574 := (decide ((0 : Int) ≤ v569))
 bif x574 then
  spec_l5Shl N v573 (1 : Int)
   (fun x590 =>
    bif (decide (v569 < (0 : Int))) then
     none
    else
     bif decide (v569.toNat < v570.length) then
      match v570[v569.toNat]? with
      | some x591 =>
       let x592 := IntKind.u64.wrap x591
       spec_NatOf N x592
        (fun x593 =>
         spec_l5Add N x590 x593
          (fun x594 =>
           spec_l5Trim N x594
            (fun x595 =>
             spec_l5At N x595 v568
              (fun x596 =>
               let x597 := (IntKind.i64.wrap (x596 * (65536 : Int)))
               let x598 := (IntKind.i64.wrap (v568 - (1 : Int)))
               spec_l5At N x595 x598
                (fun x599 =>
                 let x600 := IntKind.i64.wrap (x597 + x599)
                 let x601 := (IntKind.i64.wrap (v568 - (1 : Int)))
                 bif (decide (x601 < (0 : Int))) then
                  none
                 else
                  bif decide (x601.toNat < v571.length) then
                   match v571[x601.toNat]? with
                   | some x602 =>
                    bif (decide (x602 = (0 : Int))) then
                     none
                    else
                     let x603 := IntKind.i64.wrap (Int.tdiv x600 x602)
                     spec_l5Div_J17 N v567 v568 v569 x603 v570 v571 v572 x595
                      (fun x613 x614 x615 x616 x617 x618 x619 x620 =>
                       spec_l5Times N x618 x616
                        (fun x621 =>
                         spec_l5Div_L2 N N x613 x614 x615 x616 x617 x618 x619 x620 x621
                          (fun x667 x668 x669 x670 x671 x672 x673 x674 x675 =>
                           bif (decide (x669 < (0 : Int))) then
                            none
                           else
                            bif decide (x669.toNat < x673.length) then
                             match x673[x669.toNat]? with
                             | some x676 =>
                              let x677 := x673.set x669.toNat x670
                              spec_l5Sub N x674 x675
                               (fun x678 =>
                                let x679 := (IntKind.i64.wrap (x669 - (1 : Int)))
                                next x667 x668 x679 x671 x672 x677 x678)
                             | none => none
                            else
                             none)))
                   | none => none
                  else
                   none)))))
      | none => none
     else
      none)
 else
  k0 v567 v572 v573
noncomputable def spec_l5Div_L0.b {α : Type} := fun N n v567 v568 v569 v570 v571 v572 v573 k0 => loopN (fun next => @spec_l5Div_L0r α N next k0) (fun _ _ _ _ _ _ _ => none) n v567 v568 v569 v570 v571 v572 v573
noncomputable def spec_l5Div_L0 {α : Type} := lockF (@spec_l5Div_L0.b α)
theorem spec_l5Div_L0.eq : @spec_l5Div_L0 = @spec_l5Div_L0.b := funext fun α => lockF_eq _
theorem spec_l5Div_L0.zero {α : Type} (N v567 v568 v569 v570 v571 v572 v573 k0) : @spec_l5Div_L0 α N 0 v567 v568 v569 v570 v571 v572 v573 k0 = none := by rw [spec_l5Div_L0.eq]; rfl
theorem spec_l5Div_L0.succ {α : Type} (N n v567 v568 v569 v570 v571 v572 v573 k0) : @spec_l5Div_L0 α N (n + 1) v567 v568 v569 v570 v571 v572 v573 k0 = spec_l5Div_L0r N (fun y0 y1 y2 y3 y4 y5 y6 => spec_l5Div_L0 N n y0 y1 y2 y3 y4 y5 y6 k0) k0 v567 v568 v569 v570 v571 v572 v573 := by rw [spec_l5Div_L0.eq]; rfl
/-- spec.l5Div -/
noncomputable def spec_l5Div.b {α : Type} (N : Nat) (a480 : List Int) (a481 : List Int) (k0 : List Int → List Int → Option α) : Option α :=
 spec_l5Cmp N a480 a481
  (fun x504 =>
   let x505 := (decide (x504 < (0 : Int)))
   bif x505 then
    spec_l5Trim N a480
     (fun x506 =>
      k0 [] x506)
   else
    let x507 := ((a481.length : Nat) : Int)
    let x508 := (decide (x507 = (1 : Int)))
    bif x508 then
     match a481[0]? with
     | some x509 =>
      spec_l5DivSmall N a480 x509
       (fun x533 x534 =>
        let x535 := IntKind.u64.wrap x533
        spec_NatOf N x535
         (fun x536 =>
          k0 x534 x536))
     | none => none
    else
     let x537 := ((a481.length : Nat) : Int)
     let x538 := (IntKind.i64.wrap (x537 - (1 : Int)))
     bif (decide (x538 < (0 : Int))) then
      none
     else
      match a481[x538.toNat]? with
      | some x539 =>
       let x540 := (IntKind.i64.wrap (x539 + (1 : Int)))
       bif (decide (x540 = (0 : Int))) then
        none
       else
        let x541 := (IntKind.i64.wrap (Int.tdiv (65536 : Int) x540))
        spec_l5Times N a480 x541
         (fun x542 =>
          spec_l5Times N a481 x541
           (fun x543 =>
            let x544 := ((x543.length : Nat) : Int)
            let x545 := ((x542.length : Nat) : Int)
            let x546 := IntKind.i64.wrap (x545 - x544)
            let x547 := (IntKind.i64.wrap (x546 + (1 : Int)))
            bif (decide ((0 : Int) ≤ x547)) then
             bif decide (x547 ≤ x547) then
              bif (decide (x547 ≤ ((8796093022208 : Nat) : Int))) then
               let x548 := (List.replicate x547.toNat (0 : Int))
               let x549 := ((x542.length : Nat) : Int)
               let x550 := IntKind.i64.wrap (x549 - x544)
               let x551 := (IntKind.i64.wrap (x550 + (1 : Int)))
               spec_l5Top N x542 x551
                (fun x564 =>
                 let x565 := ((x542.length : Nat) : Int)
                 let x566 := IntKind.i64.wrap (x565 - x544)
                 spec_l5Div_L0 N N x541 x544 x566 x542 x543 x548 x564
                  (fun x680 x681 x682 =>
                   spec_l5DivSmall N x682 x680
                    (fun _ x684 =>
                     spec_l5Trim N x681
                      (fun x685 =>
                       k0 x685 x684))))
              else
               none
             else
              none
            else
             none))
      | none => none)
noncomputable def spec_l5Div {α : Type} := lockF (@spec_l5Div.b α)
theorem spec_l5Div.eq : @spec_l5Div = @spec_l5Div.b := funext fun α => lockF_eq _

noncomputable def spec_l5Gcd_L0r {α : Type} (N : Nat) (next : List Int → List Int → Option α) (k0 : List Int → Option α) (v476 : List Int) (v477 : List Int) : Option α :=
 let x478 := ((v477.length : Nat) : Int)
 let x479 := (decide ((0 : Int) < x478))
 bif x479 then
  spec_l5Div N v476 v477
   (fun _ x687 =>
    next v477 x687)
 else
  k0 v476
noncomputable def spec_l5Gcd_L0.b {α : Type} := fun N n v476 v477 k0 => loopN (fun next => @spec_l5Gcd_L0r α N next k0) (fun _ _ => none) n v476 v477
noncomputable def spec_l5Gcd_L0 {α : Type} := lockF (@spec_l5Gcd_L0.b α)
theorem spec_l5Gcd_L0.eq : @spec_l5Gcd_L0 = @spec_l5Gcd_L0.b := funext fun α => lockF_eq _
theorem spec_l5Gcd_L0.zero {α : Type} (N v476 v477 k0) : @spec_l5Gcd_L0 α N 0 v476 v477 k0 = none := by rw [spec_l5Gcd_L0.eq]; rfl
theorem spec_l5Gcd_L0.succ {α : Type} (N n v476 v477 k0) : @spec_l5Gcd_L0 α N (n + 1) v476 v477 k0 = spec_l5Gcd_L0r N (fun y0 y1 => spec_l5Gcd_L0 N n y0 y1 k0) k0 v476 v477 := by rw [spec_l5Gcd_L0.eq]; rfl
/-- spec.l5Gcd -/
noncomputable def spec_l5Gcd.b {α : Type} (N : Nat) (a472 : List Int) (a473 : List Int) (k0 : List Int → Option α) : Option α :=
 spec_l5Trim N a472
  (fun x474 =>
   spec_l5Trim N a473
    (fun x475 =>
     spec_l5Gcd_L0 N N x474 x475
      (fun x688 =>
       k0 x688)))
noncomputable def spec_l5Gcd {α : Type} := lockF (@spec_l5Gcd.b α)
theorem spec_l5Gcd.eq : @spec_l5Gcd = @spec_l5Gcd.b := funext fun α => lockF_eq _

/-- spec.l6Make -/
noncomputable def spec_l6Make.b {α : Type} (N : Nat) (a466 : Bool) (a467 : List Int) (a468 : List Int) (k0 : Bool → Bool → List Int → List Int → Option α) : Option α :=
 let x469 := ((a467.length : Nat) : Int)
 let x470 := (decide (x469 = (0 : Int)))
 bif x470 then
  let x471 := [(1 : Int)]
  k0 false true [] x471
 else
  spec_l5Gcd N a467 a468
   (fun x689 =>
    spec_l5Div N a467 x689
     (fun x690 _ =>
      spec_l5Div N a468 x689
       (fun x692 _ =>
        let x694 := ((x690.length : Nat) : Int)
        let x695 := (decide ((256 : Int) < x694))
        bif x695 then
         k0 false false [] []
        else
         let x696 := ((x692.length : Nat) : Int)
         let x697 := (decide ((256 : Int) < x696))
         bif x697 then
          k0 false false [] []
         else
          k0 a466 true x690 x692)))
noncomputable def spec_l6Make {α : Type} := lockF (@spec_l6Make.b α)
theorem spec_l6Make.eq : @spec_l6Make = @spec_l6Make.b := funext fun α => lockF_eq _

noncomputable def spec_DecFrac_L0r {α : Type} (N : Nat) (next : ByteArray → Int → Int → Int → Bool → List Int → List Int → List Int → Option α) (k0 : Int → Int → Bool → List Int → List Int → List Int → Option α) (v305 : ByteArray) (v306 : Int) (v307 : Int) (v308 : Int) (v309 : Bool) (v310 : List Int) (v311 : List Int) (v312 : List Int) : Option α :=
 let x313 := ((v305.size : Nat) : Int)
 let x314 := decide (v308 < x313)
 bif x314 then
  spec_l5Times N v310 (10 : Int)
   (fun x386 =>
    bif (decide (v308 < (0 : Int))) then
     none
    else
     match (v305[v308.toNat]? : Option UInt8) with
     | some x387 =>
      let x388 := ((x387.toNat : Nat) : Int)
      let x389 := (IntKind.u8.wrap (x388 - (48 : Int)))
      let x390 := IntKind.u64.wrap x389
      spec_NatOf N x390
       (fun x401 =>
        spec_l5Add N x386 x401
         (fun x443 =>
          spec_l5Trim N x443
           (fun x444 =>
            let x445 := (IntKind.i64.wrap (v308 + (1 : Int)))
            next v305 v306 v307 x445 v309 x444 v311 v312)))
     | none => none)
 else
  k0 v306 v307 v309 v310 v311 v312
noncomputable def spec_DecFrac_L0.b {α : Type} := fun N n v305 v306 v307 v308 v309 v310 v311 v312 k0 => loopN (fun next => @spec_DecFrac_L0r α N next k0) (fun _ _ _ _ _ _ _ _ => none) n v305 v306 v307 v308 v309 v310 v311 v312
noncomputable def spec_DecFrac_L0 {α : Type} := lockF (@spec_DecFrac_L0.b α)
theorem spec_DecFrac_L0.eq : @spec_DecFrac_L0 = @spec_DecFrac_L0.b := funext fun α => lockF_eq _
theorem spec_DecFrac_L0.zero {α : Type} (N v305 v306 v307 v308 v309 v310 v311 v312 k0) : @spec_DecFrac_L0 α N 0 v305 v306 v307 v308 v309 v310 v311 v312 k0 = none := by rw [spec_DecFrac_L0.eq]; rfl
theorem spec_DecFrac_L0.succ {α : Type} (N n v305 v306 v307 v308 v309 v310 v311 v312 k0) : @spec_DecFrac_L0 α N (n + 1) v305 v306 v307 v308 v309 v310 v311 v312 k0 = spec_DecFrac_L0r N (fun y0 y1 y2 y3 y4 y5 y6 y7 => spec_DecFrac_L0 N n y0 y1 y2 y3 y4 y5 y6 y7 k0) k0 v305 v306 v307 v308 v309 v310 v311 v312 := by rw [spec_DecFrac_L0.eq]; rfl
/-- spec.DecFrac -/
noncomputable def spec_DecFrac.b {α : Type} (N : Nat) (a7 : ByteArray) (k0 : Bool → Bool → List Int → List Int → Option α) : Option α :=
 spec_l7Parts N a7
  (fun x300 x301 x302 x303 =>
   let x304 := !x303
   bif x304 then
    k0 false false [] []
   else
    spec_DecFrac_L0 N N x300 x301 x302 (0 : Int) false [] [] []
     (fun x446 x447 _ x449 _ _ =>
      let x452 := IntKind.i64.wrap (x447 - x446)
      let x453 := (decide ((0 : Int) ≤ x452))
      bif x453 then
       spec_l7Tens N x452
        (fun x463 =>
         spec_l5Mul N x449 x463
          (fun x464 =>
           let x465 := [(1 : Int)]
           spec_l6Make N false x464 x465
            (fun x698 x699 x700 x701 =>
             k0 x698 x699 x700 x701)))
      else
       let x702 := IntKind.i64.wrap (0 - x452)
       spec_l7Tens N x702
        (fun x703 =>
         spec_l6Make N false x449 x703
          (fun x704 x705 x706 x707 =>
           k0 x704 x705 x706 x707))))
noncomputable def spec_DecFrac {α : Type} := lockF (@spec_DecFrac.b α)
theorem spec_DecFrac.eq : @spec_DecFrac = @spec_DecFrac.b := funext fun α => lockF_eq _

/-- spec.l1Width -/
noncomputable def spec_l1Width.b {α : Type} (N : Nat) (a717 : Int) (k0 : Bool → Option α) : Option α :=
 let x718 := (decide (a717 = (32 : Int)))
 bif x718 then
  k0 true
 else
  let x719 := (decide (a717 = (64 : Int)))
  k0 x719
noncomputable def spec_l1Width {α : Type} := lockF (@spec_l1Width.b α)
theorem spec_l1Width.eq : @spec_l1Width = @spec_l1Width.b := funext fun α => lockF_eq _

noncomputable def spec_NatOk_L0r {α : Type} (N : Nat) (next : List Int → Int → Option α) (k0 : Bool → Option α) (k1 : List Int → Option α) (v726 : List Int) (v727 : Int) : Option α :=
 let x728 := ((v726.length : Nat) : Int)
 let x729 := decide (v727 < x728)
 bif x729 then
  bif (decide (v727 < (0 : Int))) then
   none
  else
   match v726[v727.toNat]? with
   | some x730 =>
    let x731 := (decide (x730 < (0 : Int)))
    bif x731 then
     k0 false
    else
     bif (decide (v727 < (0 : Int))) then
      none
     else
      match v726[v727.toNat]? with
      | some x732 =>
       let x733 := (decide ((65536 : Int) ≤ x732))
       bif x733 then
        k0 false
       else
        let x734 := (IntKind.i64.wrap (v727 + (1 : Int)))
        next v726 x734
      | none => none
   | none => none
 else
  k1 v726
noncomputable def spec_NatOk_L0.b {α : Type} := fun N n v726 v727 k0 k1 => loopN (fun next => @spec_NatOk_L0r α N next k0 k1) (fun _ _ => none) n v726 v727
noncomputable def spec_NatOk_L0 {α : Type} := lockF (@spec_NatOk_L0.b α)
theorem spec_NatOk_L0.eq : @spec_NatOk_L0 = @spec_NatOk_L0.b := funext fun α => lockF_eq _
theorem spec_NatOk_L0.zero {α : Type} (N v726 v727 k0 k1) : @spec_NatOk_L0 α N 0 v726 v727 k0 k1 = none := by rw [spec_NatOk_L0.eq]; rfl
theorem spec_NatOk_L0.succ {α : Type} (N n v726 v727 k0 k1) : @spec_NatOk_L0 α N (n + 1) v726 v727 k0 k1 = spec_NatOk_L0r N (fun y0 y1 => spec_NatOk_L0 N n y0 y1 k0 k1) k0 k1 v726 v727 := by rw [spec_NatOk_L0.eq]; rfl
/-- spec.NatOk -/
noncomputable def spec_NatOk.b {α : Type} (N : Nat) (a723 : List Int) (k0 : Bool → Option α) : Option α :=
 let x724 := ((a723.length : Nat) : Int)
 let x725 := (decide ((256 : Int) < x724))
 bif x725 then
  k0 false
 else
  spec_NatOk_L0 N N a723 (0 : Int)
   (fun x735 =>
    k0 x735)
   (fun x736 =>
    let x737 := ((x736.length : Nat) : Int)
    let x738 := (decide (x737 = (0 : Int)))
    bif x738 then
     k0 true
    else
     let x739 := ((x736.length : Nat) : Int)
     let x740 := (IntKind.i64.wrap (x739 - (1 : Int)))
     bif (decide (x740 < (0 : Int))) then
      none
     else
      match x736[x740.toNat]? with
      | some x741 =>
       let x742 := (!(decide (x741 = (0 : Int))))
       k0 x742
      | none => none)
noncomputable def spec_NatOk {α : Type} := lockF (@spec_NatOk.b α)
theorem spec_NatOk.eq : @spec_NatOk = @spec_NatOk.b := funext fun α => lockF_eq _

/-- spec.l6One -/
noncomputable def spec_l6One.b {α : Type} (N : Nat) (a752 : List Int) (k0 : Bool → Option α) : Option α :=
 let x753 := ((a752.length : Nat) : Int)
 let x754 := (decide (x753 = (1 : Int)))
 bif x754 then
  match a752[0]? with
  | some x755 =>
   let x756 := (decide (x755 = (1 : Int)))
   k0 x756
  | none => none
 else
  k0 false
noncomputable def spec_l6One {α : Type} := lockF (@spec_l6One.b α)
theorem spec_l6One.eq : @spec_l6One = @spec_l6One.b := funext fun α => lockF_eq _

/-- spec.FracOk -/
noncomputable def spec_FracOk.b {α : Type} (N : Nat) (a722 : Bool × (List Int) × (List Int) × Unit) (k0 : Bool → Option α) : Option α :=
 spec_NatOk N a722.2.1
  (fun x743 =>
   let x744 := !x743
   bif x744 then
    k0 false
   else
    spec_NatOk N a722.2.2.1
     (fun x745 =>
      let x746 := !x745
      bif x746 then
       k0 false
      else
       let x747 := ((a722.2.2.1.length : Nat) : Int)
       let x748 := (decide (x747 = (0 : Int)))
       bif x748 then
        k0 false
       else
        let x749 := ((a722.2.1.length : Nat) : Int)
        let x750 := (decide (x749 = (0 : Int)))
        bif x750 then
         bif a722.1 then
          k0 false
         else
          spec_l5Gcd N a722.2.1 a722.2.2.1
           (fun x751 =>
            spec_l6One N x751
             (fun x757 =>
              k0 x757))
        else
         spec_l5Gcd N a722.2.1 a722.2.2.1
          (fun x758 =>
           spec_l6One N x758
            (fun x759 =>
             k0 x759))))
noncomputable def spec_FracOk {α : Type} := lockF (@spec_FracOk.b α)
theorem spec_FracOk.eq : @spec_FracOk = @spec_FracOk.b := funext fun α => lockF_eq _

/-- spec.l8Frac -/
noncomputable def spec_l8Frac.b {α : Type} (N : Nat) (a762 : Bool × (List Int) × (List Int) × Unit) (k0 : (Bool × (List Int) × (List Int) × Unit) → Option α) : Option α :=
 k0 (a762.1, (a762.2.1, (a762.2.2.1, ())))
noncomputable def spec_l8Frac {α : Type} := lockF (@spec_l8Frac.b α)
theorem spec_l8Frac.eq : @spec_l8Frac = @spec_l8Frac.b := funext fun α => lockF_eq _

/-- spec.l1Frac -/
noncomputable def spec_l1Frac.b {α : Type} (N : Nat) (a771 : Int) (k0 : Int → Option α) : Option α :=
 let x772 := (decide (a771 = (32 : Int)))
 bif x772 then
  k0 (23 : Int)
 else
  k0 (52 : Int)
noncomputable def spec_l1Frac {α : Type} := lockF (@spec_l1Frac.b α)
theorem spec_l1Frac.eq : @spec_l1Frac = @spec_l1Frac.b := funext fun α => lockF_eq _

noncomputable def spec_l5Bits_L0r {α : Type} (N : Nat) (next : Int → Int → Option α) (k0 : Int → Option α) (v784 : Int) (v785 : Int) : Option α :=
 let x786 := (decide ((0 : Int) < v785))
 bif x786 then
  let x787 := (IntKind.i64.wrap (v784 + (1 : Int)))
  let x788 := (IntKind.i64.wrap (Int.tdiv v785 (2 : Int)))
  next x787 x788
 else
  k0 v784
noncomputable def spec_l5Bits_L0.b {α : Type} := fun N n v784 v785 k0 => loopN (fun next => @spec_l5Bits_L0r α N next k0) (fun _ _ => none) n v784 v785
noncomputable def spec_l5Bits_L0 {α : Type} := lockF (@spec_l5Bits_L0.b α)
theorem spec_l5Bits_L0.eq : @spec_l5Bits_L0 = @spec_l5Bits_L0.b := funext fun α => lockF_eq _
theorem spec_l5Bits_L0.zero {α : Type} (N v784 v785 k0) : @spec_l5Bits_L0 α N 0 v784 v785 k0 = none := by rw [spec_l5Bits_L0.eq]; rfl
theorem spec_l5Bits_L0.succ {α : Type} (N n v784 v785 k0) : @spec_l5Bits_L0 α N (n + 1) v784 v785 k0 = spec_l5Bits_L0r N (fun y0 y1 => spec_l5Bits_L0 N n y0 y1 k0) k0 v784 v785 := by rw [spec_l5Bits_L0.eq]; rfl
/-- spec.l5Bits -/
noncomputable def spec_l5Bits.b {α : Type} (N : Nat) (a775 : List Int) (k0 : Int → Option α) : Option α :=
 let x776 := ((a775.length : Nat) : Int)
 let x777 := (decide (x776 = (0 : Int)))
 bif x777 then
  k0 (0 : Int)
 else
  let x778 := ((a775.length : Nat) : Int)
  let x779 := (IntKind.i64.wrap (x778 - (1 : Int)))
  let x780 := (IntKind.i64.wrap ((16 : Int) * x779))
  let x781 := ((a775.length : Nat) : Int)
  let x782 := (IntKind.i64.wrap (x781 - (1 : Int)))
  bif (decide (x782 < (0 : Int))) then
   none
  else
   match a775[x782.toNat]? with
   | some x783 =>
    spec_l5Bits_L0 N N x780 x783
     (fun x789 =>
      k0 x789)
   | none => none
noncomputable def spec_l5Bits {α : Type} := lockF (@spec_l5Bits.b α)
theorem spec_l5Bits.eq : @spec_l5Bits = @spec_l5Bits.b := funext fun α => lockF_eq _

/-- spec.l1Least -/
noncomputable def spec_l1Least.b {α : Type} (N : Nat) (a798 : Int) (k0 : Int → Option α) : Option α :=
 let x799 := (decide (a798 = (32 : Int)))
 bif x799 then
  k0 (-149 : Int)
 else
  k0 (-1074 : Int)
noncomputable def spec_l1Least {α : Type} := lockF (@spec_l1Least.b α)
theorem spec_l1Least.eq : @spec_l1Least = @spec_l1Least.b := funext fun α => lockF_eq _

/-- spec.l5Pow2 -/
noncomputable def spec_l5Pow2.b {α : Type} (N : Nat) (a833 : Int) (k0 : List Int → Option α) : Option α :=
 let x834 := (Int.tmod a833 (16 : Int))
 let x835 := IntKind.u64.wrap x834
 bif (decide (x835 < (0 : Int))) then
  none
 else
  let x836 := (shlI .i64 (1 : Int) x835)
  let x837 := [x836]
  let x838 := (IntKind.i64.wrap (Int.tdiv a833 (16 : Int)))
  spec_l5Shl N x837 x838
   (fun x839 =>
    k0 x839)
noncomputable def spec_l5Pow2 {α : Type} := lockF (@spec_l5Pow2.b α)
theorem spec_l5Pow2.eq : @spec_l5Pow2 = @spec_l5Pow2.b := funext fun α => lockF_eq _

noncomputable def spec_l8Scaled_J3.b {α : Type} (N : Nat) (v829 : Int) (v830 : List Int) (v831 : List Int) (k0 : List Int → List Int → Option α) : Option α :=
 let x832 := (decide ((0 : Int) ≤ v829))
 bif x832 then
  spec_l5Pow2 N v829
   (fun x840 =>
    spec_l5Mul N v830 x840
     (fun x841 =>
      k0 x841 v831))
 else
  let x842 := IntKind.i64.wrap (0 - v829)
  spec_l5Pow2 N x842
   (fun x843 =>
    spec_l5Mul N v831 x843
     (fun x844 =>
      k0 v830 x844))
noncomputable def spec_l8Scaled_J3 {α : Type} := lockF (@spec_l8Scaled_J3.b α)
theorem spec_l8Scaled_J3.eq : @spec_l8Scaled_J3 = @spec_l8Scaled_J3.b := funext fun α => lockF_eq _
/-- spec.l8Scaled -/
noncomputable def spec_l8Scaled.b {α : Type} (N : Nat) (a827 : Bool × (List Int) × (List Int) × Unit) (a828 : Int) (k0 : Bool → List Int → Option α) : Option α :=
 spec_l8Scaled_J3 N a828 a827.2.1 a827.2.2.1
  (fun x845 x846 =>
   spec_l5Div N x845 x846
    (fun x847 x848 =>
     let x849 := ((x848.length : Nat) : Int)
     let x850 := (decide ((0 : Int) < x849))
     k0 x850 x847))
noncomputable def spec_l8Scaled {α : Type} := lockF (@spec_l8Scaled.b α)
theorem spec_l8Scaled.eq : @spec_l8Scaled = @spec_l8Scaled.b := funext fun α => lockF_eq _

noncomputable def spec_NatSmall_L0r {α : Type} (N : Nat) (next : List Int → Int → Int → Option α) (k0 : Int → Option α) (v877 : List Int) (v878 : Int) (v879 : Int) : Option α :=
 let x880 := (decide ((0 : Int) ≤ v879))
 bif x880 then
  let x881 := (IntKind.u64.wrap (v878 * (65536 : Int)))
  bif (decide (v879 < (0 : Int))) then
   none
  else
   match v877[v879.toNat]? with
   | some x882 =>
    let x883 := IntKind.u64.wrap x882
    let x884 := IntKind.u64.wrap (x881 + x883)
    let x885 := (IntKind.i64.wrap (v879 - (1 : Int)))
    next v877 x884 x885
   | none => none
 else
  k0 v878
noncomputable def spec_NatSmall_L0.b {α : Type} := fun N n v877 v878 v879 k0 => loopN (fun next => @spec_NatSmall_L0r α N next k0) (fun _ _ _ => none) n v877 v878 v879
noncomputable def spec_NatSmall_L0 {α : Type} := lockF (@spec_NatSmall_L0.b α)
theorem spec_NatSmall_L0.eq : @spec_NatSmall_L0 = @spec_NatSmall_L0.b := funext fun α => lockF_eq _
theorem spec_NatSmall_L0.zero {α : Type} (N v877 v878 v879 k0) : @spec_NatSmall_L0 α N 0 v877 v878 v879 k0 = none := by rw [spec_NatSmall_L0.eq]; rfl
theorem spec_NatSmall_L0.succ {α : Type} (N n v877 v878 v879 k0) : @spec_NatSmall_L0 α N (n + 1) v877 v878 v879 k0 = spec_NatSmall_L0r N (fun y0 y1 y2 => spec_NatSmall_L0 N n y0 y1 y2 k0) k0 v877 v878 v879 := by rw [spec_NatSmall_L0.eq]; rfl
/-- spec.NatSmall -/
noncomputable def spec_NatSmall.b {α : Type} (N : Nat) (a870 : List Int) (k0 : Int → Bool → Option α) : Option α :=
 spec_NatOk N a870
  (fun x871 =>
   let x872 := !x871
   bif x872 then
    k0 (0 : Int) false
   else
    let x873 := ((a870.length : Nat) : Int)
    let x874 := (decide ((4 : Int) < x873))
    bif x874 then
     k0 (0 : Int) false
    else
     let x875 := ((a870.length : Nat) : Int)
     let x876 := (IntKind.i64.wrap (x875 - (1 : Int)))
     spec_NatSmall_L0 N N a870 (0 : Int) x876
      (fun x886 =>
       k0 x886 true))
noncomputable def spec_NatSmall {α : Type} := lockF (@spec_NatSmall.b α)
theorem spec_NatSmall.eq : @spec_NatSmall = @spec_NatSmall.b := funext fun α => lockF_eq _

/-- spec.BitTop -/
noncomputable def spec_BitTop.b {α : Type} (N : Nat) (a896 : Int) (k0 : Int → Option α) : Option α :=
 let x897 := (decide (a896 = (32 : Int)))
 bif x897 then
  k0 (2139095040 : Int)
 else
  let x898 := (decide (a896 = (64 : Int)))
  bif x898 then
   k0 (9218868437227405312 : Int)
  else
   k0 (0 : Int)
noncomputable def spec_BitTop {α : Type} := lockF (@spec_BitTop.b α)
theorem spec_BitTop.eq : @spec_BitTop = @spec_BitTop.b := funext fun α => lockF_eq _

noncomputable def spec_l8Size_J5.b {α : Type} (N : Nat) (v794 : Int) (v795 : Int) (v796 : Int) (v797 : Bool × (List Int) × (List Int) × Unit) (k0 : Int → Int → Int → (Bool × (List Int) × (List Int) × Unit) → Option α) : Option α :=
 spec_l1Least N v794
  (fun x800 =>
   let x801 := IntKind.i64.wrap (0 - x800)
   let x802 := decide (x801 < v796)
   bif x802 then
    spec_l1Least N v794
     (fun x803 =>
      let x804 := IntKind.i64.wrap (0 - x803)
      k0 v794 v795 x804 v797)
   else
    k0 v794 v795 v796 v797)
noncomputable def spec_l8Size_J5 {α : Type} := lockF (@spec_l8Size_J5.b α)
theorem spec_l8Size_J5.eq : @spec_l8Size_J5 = @spec_l8Size_J5.b := funext fun α => lockF_eq _
noncomputable def spec_l8Size_L0r {α : Type} (N : Nat) (next : Int → Int → Int → Bool → (Bool × (List Int) × (List Int) × Unit) → List Int → Option α) (k0 : Int → Int → Int → Bool → List Int → Option α) (v853 : Int) (v854 : Int) (v855 : Int) (v856 : Bool) (v857 : Bool × (List Int) × (List Int) × Unit) (v858 : List Int) : Option α :=
 spec_l5Bits N v858
  (fun x859 =>
   let x860 := (IntKind.i64.wrap (v854 + (1 : Int)))
   let x861 := decide (x860 < x859)
   bif x861 then
    let x862 := (IntKind.i64.wrap (v855 - (1 : Int)))
    spec_l8Scaled N v857 x862
     (fun x863 x864 =>
      next v853 v854 x862 x863 v857 x864)
   else
    k0 v853 v854 v855 v856 v858)
noncomputable def spec_l8Size_L0.b {α : Type} := fun N n v853 v854 v855 v856 v857 v858 k0 => loopN (fun next => @spec_l8Size_L0r α N next k0) (fun _ _ _ _ _ _ => none) n v853 v854 v855 v856 v857 v858
noncomputable def spec_l8Size_L0 {α : Type} := lockF (@spec_l8Size_L0.b α)
theorem spec_l8Size_L0.eq : @spec_l8Size_L0 = @spec_l8Size_L0.b := funext fun α => lockF_eq _
theorem spec_l8Size_L0.zero {α : Type} (N v853 v854 v855 v856 v857 v858 k0) : @spec_l8Size_L0 α N 0 v853 v854 v855 v856 v857 v858 k0 = none := by rw [spec_l8Size_L0.eq]; rfl
theorem spec_l8Size_L0.succ {α : Type} (N n v853 v854 v855 v856 v857 v858 k0) : @spec_l8Size_L0 α N (n + 1) v853 v854 v855 v856 v857 v858 k0 = spec_l8Size_L0r N (fun y0 y1 y2 y3 y4 y5 => spec_l8Size_L0 N n y0 y1 y2 y3 y4 y5 k0) k0 v853 v854 v855 v856 v857 v858 := by rw [spec_l8Size_L0.eq]; rfl
/-- spec.l8Size -/
noncomputable def spec_l8Size.b {α : Type} (N : Nat) (a767 : Int) (a768 : Bool × (List Int) × (List Int) × Unit) (k0 : Int → Bool → Option α) : Option α :=
 let x769 := ((a768.2.1.length : Nat) : Int)
 let x770 := (decide (x769 = (0 : Int)))
 bif x770 then
  k0 (0 : Int) false
 else
  spec_l1Frac N a767
   (fun x773 =>
    let x774 := (IntKind.i64.wrap (x773 + (1 : Int)))
    spec_l5Bits N a768.2.1
     (fun x790 =>
      let x791 := IntKind.i64.wrap (x774 - x790)
      spec_l5Bits N a768.2.2.1
       (fun x792 =>
        let x793 := IntKind.i64.wrap (x791 + x792)
        spec_l8Size_J5 N a767 x773 x793 a768
         (fun x805 x806 x807 x808 =>
          spec_l8Scaled N x808 x807
           (fun x851 x852 =>
            spec_l8Size_L0 N N x805 x806 x807 x851 x808 x852
             (fun x865 x866 x867 x868 x869 =>
              spec_NatSmall N x869
               (fun x887 _ =>
                spec_l5Bits N x869
                 (fun x889 =>
                  let x890 := decide (x889 ≤ x866)
                  bif x890 then
                   let x891 := IntKind.i64.wrap x887
                   k0 x891 x868
                  else
                   let x892 := IntKind.i64.wrap (0 - x867)
                   spec_l1Least N x865
                    (fun x893 =>
                     let x894 := IntKind.i64.wrap (x892 - x893)
                     let x895 := (IntKind.i64.wrap (x894 + (1 : Int)))
                     spec_BitTop N x865
                      (fun x899 =>
                       let x900 := IntKind.u64.wrap x866
                       bif (decide (x900 < (0 : Int))) then
                        none
                       else
                        let x901 := shrI .i64 x899 x900
                        let x902 := (IntKind.i64.wrap (x901 - (1 : Int)))
                        let x903 := decide (x902 < x895)
                        bif x903 then
                         spec_BitTop N x865
                          (fun x904 =>
                           let x905 := (IntKind.i64.wrap (x904 - (1 : Int)))
                           k0 x905 true)
                        else
                         let x906 := IntKind.u64.wrap x866
                         bif (decide (x906 < (0 : Int))) then
                          none
                         else
                          let x907 := shlI .i64 x895 x906
                          let x908 := IntKind.i64.wrap x887
                          let x909 := IntKind.i64.wrap (x907 + x908)
                          let x910 := IntKind.u64.wrap x866
                          bif (decide (x910 < (0 : Int))) then
                           none
                          else
                           let x911 := (shlI .i64 (1 : Int) x910)
                           let x912 := IntKind.i64.wrap (x909 - x911)
                           k0 x912 x868))))))))))
noncomputable def spec_l8Size {α : Type} := lockF (@spec_l8Size.b α)
theorem spec_l8Size.eq : @spec_l8Size = @spec_l8Size.b := funext fun α => lockF_eq _

noncomputable def spec_l8Round_J3.b {α : Type} (N : Nat) (v915 : Bool) (v916 : Int) (v917 : Bool) (k0 : Int → Option α) : Option α :=
 bif v917 then
  let x918 := !v915
  bif x918 then
   let x919 := (IntKind.i64.wrap (v916 + (1 : Int)))
   k0 x919
  else
   k0 v916
 else
  k0 v916
noncomputable def spec_l8Round_J3 {α : Type} := lockF (@spec_l8Round_J3.b α)
theorem spec_l8Round_J3.eq : @spec_l8Round_J3 = @spec_l8Round_J3.b := funext fun α => lockF_eq _
noncomputable def spec_l8Round_J6.b {α : Type} (N : Nat) (v922 : Bool) (v923 : Int) (v924 : Bool) (k0 : Int → Option α) : Option α :=
 bif v924 then
  bif v922 then
   let x925 := (IntKind.i64.wrap (v923 + (1 : Int)))
   k0 x925
  else
   k0 v923
 else
  k0 v923
noncomputable def spec_l8Round_J6 {α : Type} := lockF (@spec_l8Round_J6.b α)
theorem spec_l8Round_J6.eq : @spec_l8Round_J6 = @spec_l8Round_J6.b := funext fun α => lockF_eq _
/-- spec.l8Round -/
noncomputable def spec_l8Round.b {α : Type} (N : Nat) (a764 : Int) (a765 : Bool × (List Int) × (List Int) × Unit) (a766 : Bool) (k0 : Int → Option α) : Option α :=
 spec_l8Size N a764 a765
  (fun x913 x914 =>
   bif a765.1 then
    spec_l8Round_J3 N a766 x913 x914
     (fun x920 =>
      let x921 := IntKind.i64.wrap (0 - x920)
      k0 x921)
   else
    spec_l8Round_J6 N a766 x913 x914
     (fun x926 =>
      k0 x926))
noncomputable def spec_l8Round {α : Type} := lockF (@spec_l8Round.b α)
theorem spec_l8Round.eq : @spec_l8Round = @spec_l8Round.b := funext fun α => lockF_eq _

/-- spec.FloatDown -/
noncomputable def spec_FloatDown.b {α : Type} (N : Nat) (a715 : Int) (a716 : Bool × (List Int) × (List Int) × Unit) (k0 : Int → Bool → Option α) : Option α :=
 spec_l1Width N a715
  (fun x720 =>
   let x721 := !x720
   bif x721 then
    k0 (0 : Int) false
   else
    spec_FracOk N a716
     (fun x760 =>
      let x761 := !x760
      bif x761 then
       k0 (0 : Int) false
      else
       spec_l8Frac N a716
        (fun x763 =>
         spec_l8Round N a715 x763 false
          (fun x927 =>
           k0 x927 true))))
noncomputable def spec_FloatDown {α : Type} := lockF (@spec_FloatDown.b α)
theorem spec_FloatDown.eq : @spec_FloatDown = @spec_FloatDown.b := funext fun α => lockF_eq _

/-- spec.FloatUp -/
noncomputable def spec_FloatUp.b {α : Type} (N : Nat) (a930 : Int) (a931 : Bool × (List Int) × (List Int) × Unit) (k0 : Int → Bool → Option α) : Option α :=
 spec_l1Width N a930
  (fun x932 =>
   let x933 := !x932
   bif x933 then
    k0 (0 : Int) false
   else
    spec_FracOk N a931
     (fun x934 =>
      let x935 := !x934
      bif x935 then
       k0 (0 : Int) false
      else
       spec_l8Frac N a931
        (fun x936 =>
         spec_l8Round N a930 x936 true
          (fun x937 =>
           k0 x937 true))))
noncomputable def spec_FloatUp {α : Type} := lockF (@spec_FloatUp.b α)
theorem spec_FloatUp.eq : @spec_FloatUp = @spec_FloatUp.b := funext fun α => lockF_eq _

/-- spec.PairFrac -/
noncomputable def spec_PairFrac.b {α : Type} (N : Nat) (a713 : Int) (a714 : Bool × (List Int) × (List Int) × Unit) (k0 : (Int × Int × Unit) → Bool → Option α) : Option α :=
 spec_FloatDown N a713 a714
  (fun x928 x929 =>
   spec_FloatUp N a713 a714
    (fun x938 _ =>
     k0 (x928, (x938, ())) x929))
noncomputable def spec_PairFrac {α : Type} := lockF (@spec_PairFrac.b α)
theorem spec_PairFrac.eq : @spec_PairFrac = @spec_PairFrac.b := funext fun α => lockF_eq _

/-- spec.PairDec -/
noncomputable def spec_PairDec.b {α : Type} (N : Nat) (a5 : Int) (a6 : ByteArray) (k0 : (Int × Int × Unit) → Bool → Option α) : Option α :=
 spec_DecFrac N a6
  (fun x708 x709 x710 x711 =>
   let x712 := !x709
   bif x712 then
    k0 ((0 : Int), ((0 : Int), ())) false
   else
    spec_PairFrac N a5 (x708, (x710, (x711, ())))
     (fun x940 x941 =>
      k0 x940 x941))
noncomputable def spec_PairDec {α : Type} := lockF (@spec_PairDec.b α)
theorem spec_PairDec.eq : @spec_PairDec = @spec_PairDec.b := funext fun α => lockF_eq _

-- prim internal_stringslite_Index
/-- internal/stringslite.Cut -/
noncomputable def internal_stringslite_Cut.b {α : Type} (N : Nat) (a951 : ByteArray) (a952 : ByteArray) (k0 : ByteArray → ByteArray → Bool → Option α) : Option α :=
 internal_stringslite_Index N a951 a952
  (fun x953 =>
   let x954 := (decide ((0 : Int) ≤ x953))
   bif x954 then
    bif (decide ((0 : Int) ≤ x953)) then
     bif (decide (x953 ≤ ((a951.size : Nat) : Int))) then
      let x955 := a951.extract 0 x953.toNat
      let x956 := ((a952.size : Nat) : Int)
      let x957 := IntKind.i64.wrap (x953 + x956)
      bif (decide ((0 : Int) ≤ x957)) then
       bif (decide (x957 ≤ ((a951.size : Nat) : Int))) then
        let x958 := a951.extract x957.toNat a951.size
        k0 x955 x958 true
       else
        none
      else
       none
     else
      none
    else
     none
   else
    k0 a951 ByteArray.empty false)
noncomputable def internal_stringslite_Cut {α : Type} := lockF (@internal_stringslite_Cut.b α)
theorem internal_stringslite_Cut.eq : @internal_stringslite_Cut = @internal_stringslite_Cut.b := funext fun α => lockF_eq _

/-- strings.Cut -/
noncomputable def strings_Cut.b {α : Type} (N : Nat) (a949 : ByteArray) (a950 : ByteArray) (k0 : ByteArray → ByteArray → Bool → Option α) : Option α :=
 internal_stringslite_Cut N a949 a950
  (fun x959 x960 x961 =>
   k0 x959 x960 x961)
noncomputable def strings_Cut {α : Type} := lockF (@strings_Cut.b α)
theorem strings_Cut.eq : @strings_Cut = @strings_Cut.b := funext fun α => lockF_eq _

noncomputable def impl_isDigits_L0r {α : Type} (N : Nat) (next : ByteArray → Int → Int → Option α) (k0 : Bool → Option α) (k1 : ByteArray → Option α) (v971 : ByteArray) (v972 : Int) (v973 : Int) : Option α :=
 let x974 := decide (v973 < v972)
 bif x974 then
  bif (decide (v973 < (0 : Int))) then
   none
  else
   match (v971[v973.toNat]? : Option UInt8) with
   | some x975 =>
    let x976 := ((x975.toNat : Nat) : Int)
    let x977 := (decide (x976 < (48 : Int)))
    bif x977 then
     k0 false
    else
     bif (decide (v973 < (0 : Int))) then
      none
     else
      match (v971[v973.toNat]? : Option UInt8) with
      | some x978 =>
       let x979 := ((x978.toNat : Nat) : Int)
       let x980 := (decide ((57 : Int) < x979))
       bif x980 then
        k0 false
       else
        let x981 := (IntKind.i64.wrap (v973 + (1 : Int)))
        next v971 v972 x981
      | none => none
   | none => none
 else
  k1 v971
noncomputable def impl_isDigits_L0.b {α : Type} := fun N n v971 v972 v973 k0 k1 => loopN (fun next => @impl_isDigits_L0r α N next k0 k1) (fun _ _ _ => none) n v971 v972 v973
noncomputable def impl_isDigits_L0 {α : Type} := lockF (@impl_isDigits_L0.b α)
theorem impl_isDigits_L0.eq : @impl_isDigits_L0 = @impl_isDigits_L0.b := funext fun α => lockF_eq _
theorem impl_isDigits_L0.zero {α : Type} (N v971 v972 v973 k0 k1) : @impl_isDigits_L0 α N 0 v971 v972 v973 k0 k1 = none := by rw [impl_isDigits_L0.eq]; rfl
theorem impl_isDigits_L0.succ {α : Type} (N n v971 v972 v973 k0 k1) : @impl_isDigits_L0 α N (n + 1) v971 v972 v973 k0 k1 = impl_isDigits_L0r N (fun y0 y1 y2 => impl_isDigits_L0 N n y0 y1 y2 k0 k1) k0 k1 v971 v972 v973 := by rw [impl_isDigits_L0.eq]; rfl
/-- impl.isDigits -/
noncomputable def impl_isDigits.b {α : Type} (N : Nat) (a969 : ByteArray) (k0 : Bool → Option α) : Option α :=
 let x970 := ((a969.size : Nat) : Int)
 impl_isDigits_L0 N N a969 x970 (0 : Int)
  (fun x982 =>
   k0 x982)
  (fun x983 =>
   let x984 := !eqS x983 ByteArray.empty
   k0 x984)
noncomputable def impl_isDigits {α : Type} := lockF (@impl_isDigits.b α)
theorem impl_isDigits.eq : @impl_isDigits = @impl_isDigits.b := funext fun α => lockF_eq _

/-- impl.wholeDigits -/
noncomputable def impl_wholeDigits.b {α : Type} (N : Nat) (a968 : ByteArray) (k0 : Bool → Option α) : Option α :=
 impl_isDigits N a968
  (fun x985 =>
   bif x985 then
    let x986 := (eqS a968 (⟨#[48]⟩ : ByteArray))
    bif x986 then
     k0 true
    else
     match (a968[0]? : Option UInt8) with
     | some x987 =>
      let x988 := ((x987.toNat : Nat) : Int)
      let x989 := (!(decide (x988 = (48 : Int))))
      k0 x989
     | none => none
   else
    k0 false)
noncomputable def impl_wholeDigits {α : Type} := lockF (@impl_wholeDigits.b α)
theorem impl_wholeDigits.eq : @impl_wholeDigits = @impl_wholeDigits.b := funext fun α => lockF_eq _

/-- internal/stringslite.HasPrefix -/
noncomputable def internal_stringslite_HasPrefix.b {α : Type} (N : Nat) (a999 : ByteArray) (a1000 : ByteArray) (k0 : Bool → Option α) : Option α :=
 let x1001 := ((a999.size : Nat) : Int)
 let x1002 := ((a1000.size : Nat) : Int)
 let x1003 := decide (x1002 ≤ x1001)
 bif x1003 then
  let x1004 := ((a1000.size : Nat) : Int)
  bif (decide ((0 : Int) ≤ x1004)) then
   bif (decide (x1004 ≤ ((a999.size : Nat) : Int))) then
    let x1005 := a999.extract 0 x1004.toNat
    let x1006 := eqS x1005 a1000
    k0 x1006
   else
    none
  else
   none
 else
  k0 false
noncomputable def internal_stringslite_HasPrefix {α : Type} := lockF (@internal_stringslite_HasPrefix.b α)
theorem internal_stringslite_HasPrefix.eq : @internal_stringslite_HasPrefix = @internal_stringslite_HasPrefix.b := funext fun α => lockF_eq _

/-- internal/stringslite.CutPrefix -/
noncomputable def internal_stringslite_CutPrefix.b {α : Type} (N : Nat) (a997 : ByteArray) (a998 : ByteArray) (k0 : ByteArray → Bool → Option α) : Option α :=
 internal_stringslite_HasPrefix N a997 a998
  (fun x1007 =>
   let x1008 := !x1007
   bif x1008 then
    k0 a997 false
   else
    let x1009 := ((a998.size : Nat) : Int)
    bif (decide ((0 : Int) ≤ x1009)) then
     bif (decide (x1009 ≤ ((a997.size : Nat) : Int))) then
      let x1010 := a997.extract x1009.toNat a997.size
      k0 x1010 true
     else
      none
    else
     none)
noncomputable def internal_stringslite_CutPrefix {α : Type} := lockF (@internal_stringslite_CutPrefix.b α)
theorem internal_stringslite_CutPrefix.eq : @internal_stringslite_CutPrefix = @internal_stringslite_CutPrefix.b := funext fun α => lockF_eq _

/-- strings.CutPrefix -/
noncomputable def strings_CutPrefix.b {α : Type} (N : Nat) (a995 : ByteArray) (a996 : ByteArray) (k0 : ByteArray → Bool → Option α) : Option α :=
 internal_stringslite_CutPrefix N a995 a996
  (fun x1011 x1012 =>
   k0 x1011 x1012)
noncomputable def strings_CutPrefix {α : Type} := lockF (@strings_CutPrefix.b α)
theorem strings_CutPrefix.eq : @strings_CutPrefix = @strings_CutPrefix.b := funext fun α => lockF_eq _

-- prim strconv_Atoi
noncomputable def impl_literal_J11.b {α : Type} (N : Nat) (v1022 : ByteArray) (v1023 : ByteArray) (v1024 : Bool) (v1025 : Int) (k0 : ByteArray → ByteArray → Int → Option α) : Option α :=
 bif v1024 then
  let x1026 := IntKind.i64.wrap (0 - v1025)
  k0 v1022 v1023 x1026
 else
  k0 v1022 v1023 v1025
noncomputable def impl_literal_J11 {α : Type} := lockF (@impl_literal_J11.b α)
theorem impl_literal_J11.eq : @impl_literal_J11 = @impl_literal_J11.b := funext fun α => lockF_eq _
/-- impl.literal -/
noncomputable def impl_literal.b {α : Type} (N : Nat) (a948 : ByteArray) (k0 : ByteArray → ByteArray → Int → Bool → Option α) : Option α :=
 strings_Cut N a948 (⟨#[101]⟩ : ByteArray)
  (fun x962 x963 x964 =>
   strings_Cut N x962 (⟨#[46]⟩ : ByteArray)
    (fun x965 x966 x967 =>
     impl_wholeDigits N x965
      (fun x990 =>
       let x991 := !x990
       bif x991 then
        k0 ByteArray.empty ByteArray.empty (0 : Int) false
       else
        bif x967 then
         impl_isDigits N x966
          (fun x992 =>
           let x993 := !x992
           bif x993 then
            k0 ByteArray.empty ByteArray.empty (0 : Int) false
           else
            let x994 := !x964
            bif x994 then
             k0 x965 x966 (0 : Int) true
            else
             strings_CutPrefix N x963 (⟨#[45]⟩ : ByteArray)
              (fun x1013 x1014 =>
               strconv_Atoi N x1013
                (fun x1015 =>
                 impl_wholeDigits N x1013
                  (fun x1016 =>
                   let x1017 := !x1016
                   bif x1017 then
                    k0 ByteArray.empty ByteArray.empty (0 : Int) false
                   else
                    let x1018 := ((x1013.size : Nat) : Int)
                    let x1019 := (decide ((3 : Int) < x1018))
                    bif x1019 then
                     k0 ByteArray.empty ByteArray.empty (0 : Int) false
                    else
                     let x1020 := (decide ((400 : Int) < x1015))
                     bif x1020 then
                      k0 ByteArray.empty ByteArray.empty (0 : Int) false
                     else
                      bif x1014 then
                       let x1021 := (decide (x1015 = (0 : Int)))
                       bif x1021 then
                        k0 ByteArray.empty ByteArray.empty (0 : Int) false
                       else
                        impl_literal_J11 N x965 x966 x1014 x1015
                         (fun x1027 x1028 x1029 =>
                          k0 x1027 x1028 x1029 true)
                      else
                       impl_literal_J11 N x965 x966 x1014 x1015
                        (fun x1030 x1031 x1032 =>
                         k0 x1030 x1031 x1032 true)))
                (fun _ =>
                 k0 ByteArray.empty ByteArray.empty (0 : Int) false)))
        else
         let x1034 := !x964
         bif x1034 then
          k0 x965 x966 (0 : Int) true
         else
          strings_CutPrefix N x963 (⟨#[45]⟩ : ByteArray)
           (fun x1035 x1036 =>
            strconv_Atoi N x1035
             (fun x1037 =>
              impl_wholeDigits N x1035
               (fun x1038 =>
                let x1039 := !x1038
                bif x1039 then
                 k0 ByteArray.empty ByteArray.empty (0 : Int) false
                else
                 let x1040 := ((x1035.size : Nat) : Int)
                 let x1041 := (decide ((3 : Int) < x1040))
                 bif x1041 then
                  k0 ByteArray.empty ByteArray.empty (0 : Int) false
                 else
                  let x1042 := (decide ((400 : Int) < x1037))
                  bif x1042 then
                   k0 ByteArray.empty ByteArray.empty (0 : Int) false
                  else
                   bif x1036 then
                    let x1043 := (decide (x1037 = (0 : Int)))
                    bif x1043 then
                     k0 ByteArray.empty ByteArray.empty (0 : Int) false
                    else
                     impl_literal_J11 N x965 x966 x1036 x1037
                      (fun x1044 x1045 x1046 =>
                       k0 x1044 x1045 x1046 true)
                   else
                    impl_literal_J11 N x965 x966 x1036 x1037
                     (fun x1047 x1048 x1049 =>
                      k0 x1047 x1048 x1049 true)))
             (fun _ =>
              k0 ByteArray.empty ByteArray.empty (0 : Int) false)))))
noncomputable def impl_literal {α : Type} := lockF (@impl_literal.b α)
theorem impl_literal.eq : @impl_literal = @impl_literal.b := funext fun α => lockF_eq _

/-- impl.DecOk -/
noncomputable def impl_DecOk.b {α : Type} (N : Nat) (a947 : ByteArray) (k0 : Bool → Option α) : Option α :=
 impl_literal N a947
  (fun _ _ _ x1054 =>
   bif x1054 then
    let x1055 := ((a947.size : Nat) : Int)
    let x1056 := (decide (x1055 ≤ (60 : Int)))
    k0 x1056
   else
    k0 false)
noncomputable def impl_DecOk {α : Type} := lockF (@impl_DecOk.b α)
theorem impl_DecOk.eq : @impl_DecOk = @impl_DecOk.b := funext fun α => lockF_eq _

noncomputable def impl_trim_L0r {α : Type} (N : Nat) (next : List Int → Option α) (k0 : List Int → Option α) (v1264 : List Int) : Option α :=
 let x1265 := ((v1264.length : Nat) : Int)
 let x1266 := (decide ((0 : Int) < x1265))
 bif x1266 then
  let x1267 := ((v1264.length : Nat) : Int)
  let x1268 := (IntKind.i64.wrap (x1267 - (1 : Int)))
  bif (decide (x1268 < (0 : Int))) then
   none
  else
   match v1264[x1268.toNat]? with
   | some x1269 =>
    let x1270 := (decide (x1269 = (0 : Int)))
    bif x1270 then
     let x1271 := ((v1264.length : Nat) : Int)
     let x1272 := (IntKind.i64.wrap (x1271 - (1 : Int)))
     bif (decide ((0 : Int) ≤ x1272)) then
      bif (decide (x1272 ≤ ((v1264.length : Nat) : Int))) then
       let x1273 := v1264.take x1272.toNat
       next x1273
      else
       none
     else
      none
    else
     k0 v1264
   | none => none
 else
  k0 v1264
noncomputable def impl_trim_L0.b {α : Type} := fun N n v1264 k0 => loopN (fun next => @impl_trim_L0r α N next k0) (fun _ => none) n v1264
noncomputable def impl_trim_L0 {α : Type} := lockF (@impl_trim_L0.b α)
theorem impl_trim_L0.eq : @impl_trim_L0 = @impl_trim_L0.b := funext fun α => lockF_eq _
theorem impl_trim_L0.zero {α : Type} (N v1264 k0) : @impl_trim_L0 α N 0 v1264 k0 = none := by rw [impl_trim_L0.eq]; rfl
theorem impl_trim_L0.succ {α : Type} (N n v1264 k0) : @impl_trim_L0 α N (n + 1) v1264 k0 = impl_trim_L0r N (fun y0 => impl_trim_L0 N n y0 k0) k0 v1264 := by rw [impl_trim_L0.eq]; rfl
/-- impl.trim -/
noncomputable def impl_trim.b {α : Type} (N : Nat) (a1263 : List Int) (k0 : List Int → Option α) : Option α :=
 impl_trim_L0 N N a1263
  (fun x1274 =>
   k0 x1274)
noncomputable def impl_trim {α : Type} := lockF (@impl_trim.b α)
theorem impl_trim.eq : @impl_trim = @impl_trim.b := funext fun α => lockF_eq _

noncomputable def impl_natMul_L2r {α : Type} (N : Nat) (next : List Int → Int → Int → Int → List Int → Int → Int → List Int → Int → Int → List Int → Option α) (k0 : List Int → Int → Int → List Int → Int → Int → List Int → Option α) (v1224 : List Int) (v1225 : Int) (v1226 : Int) (v1227 : Int) (v1228 : List Int) (v1229 : Int) (v1230 : Int) (v1231 : List Int) (v1232 : Int) (v1233 : Int) (v1234 : List Int) : Option α :=
 let x1235 := decide (v1233 < v1232)
 bif x1235 then
  bif (decide (v1233 < (0 : Int))) then
   none
  else
   match v1231[v1233.toNat]? with
   | some x1236 =>
    let x1237 := IntKind.i64.wrap (v1225 + v1233)
    bif (decide (x1237 < (0 : Int))) then
     none
    else
     bif decide (x1237.toNat < v1234.length) then
      match v1234[x1237.toNat]? with
      | some x1238 =>
       let x1239 := IntKind.i64.wrap (v1226 * x1236)
       let x1240 := IntKind.i64.wrap (x1238 + x1239)
       let x1241 := IntKind.i64.wrap (x1240 + v1227)
       let x1242 := IntKind.i64.wrap (v1225 + v1233)
       let x1243 := (bitI .and .i64 x1241 (65535 : Int))
       bif (decide (x1242 < (0 : Int))) then
        none
       else
        bif decide (x1242.toNat < v1234.length) then
         match v1234[x1242.toNat]? with
         | some x1244 =>
          let x1245 := v1234.set x1242.toNat x1243
          let x1246 := (shrI .i64 x1241 (16 : Int))
          let x1247 := (IntKind.i64.wrap (v1233 + (1 : Int)))
          next v1224 v1225 v1226 x1246 v1228 v1229 v1230 v1231 v1232 x1247 x1245
         | none => none
        else
         none
      | none => none
     else
      none
   | none => none
 else
  k0 v1224 v1225 v1227 v1228 v1229 v1230 v1234
noncomputable def impl_natMul_L2.b {α : Type} := fun N n v1224 v1225 v1226 v1227 v1228 v1229 v1230 v1231 v1232 v1233 v1234 k0 => loopN (fun next => @impl_natMul_L2r α N next k0) (fun _ _ _ _ _ _ _ _ _ _ _ => none) n v1224 v1225 v1226 v1227 v1228 v1229 v1230 v1231 v1232 v1233 v1234
noncomputable def impl_natMul_L2 {α : Type} := lockF (@impl_natMul_L2.b α)
theorem impl_natMul_L2.eq : @impl_natMul_L2 = @impl_natMul_L2.b := funext fun α => lockF_eq _
theorem impl_natMul_L2.zero {α : Type} (N v1224 v1225 v1226 v1227 v1228 v1229 v1230 v1231 v1232 v1233 v1234 k0) : @impl_natMul_L2 α N 0 v1224 v1225 v1226 v1227 v1228 v1229 v1230 v1231 v1232 v1233 v1234 k0 = none := by rw [impl_natMul_L2.eq]; rfl
theorem impl_natMul_L2.succ {α : Type} (N n v1224 v1225 v1226 v1227 v1228 v1229 v1230 v1231 v1232 v1233 v1234 k0) : @impl_natMul_L2 α N (n + 1) v1224 v1225 v1226 v1227 v1228 v1229 v1230 v1231 v1232 v1233 v1234 k0 = impl_natMul_L2r N (fun y0 y1 y2 y3 y4 y5 y6 y7 y8 y9 y10 => impl_natMul_L2 N n y0 y1 y2 y3 y4 y5 y6 y7 y8 y9 y10 k0) k0 v1224 v1225 v1226 v1227 v1228 v1229 v1230 v1231 v1232 v1233 v1234 := by rw [impl_natMul_L2.eq]; rfl
noncomputable def impl_natMul_L0r {α : Type} (N : Nat) (next : List Int → List Int → Int → Int → List Int → Option α) (k0 : List Int → Option α) (v1216 : List Int) (v1217 : List Int) (v1218 : Int) (v1219 : Int) (v1220 : List Int) : Option α :=
 let x1221 := decide (v1219 < v1218)
 bif x1221 then
  bif (decide (v1219 < (0 : Int))) then
   none
  else
   match v1217[v1219.toNat]? with
   | some x1222 =>
    let x1223 := ((v1216.length : Nat) : Int)
    impl_natMul_L2 N N v1216 v1219 x1222 (0 : Int) v1217 v1218 v1219 v1216 x1223 (0 : Int) v1220
     (fun x1248 x1249 x1250 x1251 x1252 x1253 x1254 =>
      let x1255 := ((x1248.length : Nat) : Int)
      let x1256 := IntKind.i64.wrap (x1249 + x1255)
      bif (decide (x1256 < (0 : Int))) then
       none
      else
       bif decide (x1256.toNat < x1254.length) then
        match x1254[x1256.toNat]? with
        | some x1257 =>
         let x1258 := IntKind.i64.wrap (x1257 + x1250)
         bif (decide (x1256 < (0 : Int))) then
          none
         else
          bif decide (x1256.toNat < x1254.length) then
           match x1254[x1256.toNat]? with
           | some x1259 =>
            let x1260 := x1254.set x1256.toNat x1258
            let x1261 := (IntKind.i64.wrap (x1253 + (1 : Int)))
            next x1248 x1251 x1252 x1261 x1260
           | none => none
          else
           none
        | none => none
       else
        none)
   | none => none
 else
  k0 v1220
noncomputable def impl_natMul_L0.b {α : Type} := fun N n v1216 v1217 v1218 v1219 v1220 k0 => loopN (fun next => @impl_natMul_L0r α N next k0) (fun _ _ _ _ _ => none) n v1216 v1217 v1218 v1219 v1220
noncomputable def impl_natMul_L0 {α : Type} := lockF (@impl_natMul_L0.b α)
theorem impl_natMul_L0.eq : @impl_natMul_L0 = @impl_natMul_L0.b := funext fun α => lockF_eq _
theorem impl_natMul_L0.zero {α : Type} (N v1216 v1217 v1218 v1219 v1220 k0) : @impl_natMul_L0 α N 0 v1216 v1217 v1218 v1219 v1220 k0 = none := by rw [impl_natMul_L0.eq]; rfl
theorem impl_natMul_L0.succ {α : Type} (N n v1216 v1217 v1218 v1219 v1220 k0) : @impl_natMul_L0 α N (n + 1) v1216 v1217 v1218 v1219 v1220 k0 = impl_natMul_L0r N (fun y0 y1 y2 y3 y4 => impl_natMul_L0 N n y0 y1 y2 y3 y4 k0) k0 v1216 v1217 v1218 v1219 v1220 := by rw [impl_natMul_L0.eq]; rfl
/-- impl.natMul -/
noncomputable def impl_natMul.b {α : Type} (N : Nat) (a1208 : List Int) (a1209 : List Int) (k0 : List Int → Option α) : Option α :=
 let x1210 := ((a1208.length : Nat) : Int)
 let x1211 := ((a1209.length : Nat) : Int)
 let x1212 := IntKind.i64.wrap (x1210 + x1211)
 let x1213 := (IntKind.i64.wrap (x1212 + (1 : Int)))
 bif (decide ((0 : Int) ≤ x1213)) then
  bif decide (x1213 ≤ x1213) then
   bif (decide (x1213 ≤ ((8796093022208 : Nat) : Int))) then
    let x1214 := (List.replicate x1213.toNat (0 : Int))
    let x1215 := ((a1208.length : Nat) : Int)
    impl_natMul_L0 N N a1209 a1208 x1215 (0 : Int) x1214
     (fun x1262 =>
      impl_trim N x1262
       (fun x1275 =>
        k0 x1275))
   else
    none
  else
   none
 else
  none
noncomputable def impl_natMul {α : Type} := lockF (@impl_natMul.b α)
theorem impl_natMul.eq : @impl_natMul = @impl_natMul.b := funext fun α => lockF_eq _

noncomputable def impl_natOf_L0r {α : Type} (N : Nat) (next : Int → List Int → Option α) (k0 : List Int → Option α) (v1282 : Int) (v1283 : List Int) : Option α :=
 let x1284 := (decide ((0 : Int) < v1282))
 bif x1284 then
  let x1285 := (bitI .and .u64 v1282 (65535 : Int))
  let x1286 := IntKind.i64.wrap x1285
  let x1287 := [x1286]
  bif decide (v1283.length + x1287.length ≤ 8796093022208) then
   let x1288 := v1283 ++ x1287
   let x1289 := (shrI .u64 v1282 (16 : Int))
   next x1289 x1288
  else
   none
 else
  k0 v1283
noncomputable def impl_natOf_L0.b {α : Type} := fun N n v1282 v1283 k0 => loopN (fun next => @impl_natOf_L0r α N next k0) (fun _ _ => none) n v1282 v1283
noncomputable def impl_natOf_L0 {α : Type} := lockF (@impl_natOf_L0.b α)
theorem impl_natOf_L0.eq : @impl_natOf_L0 = @impl_natOf_L0.b := funext fun α => lockF_eq _
theorem impl_natOf_L0.zero {α : Type} (N v1282 v1283 k0) : @impl_natOf_L0 α N 0 v1282 v1283 k0 = none := by rw [impl_natOf_L0.eq]; rfl
theorem impl_natOf_L0.succ {α : Type} (N n v1282 v1283 k0) : @impl_natOf_L0 α N (n + 1) v1282 v1283 k0 = impl_natOf_L0r N (fun y0 y1 => impl_natOf_L0 N n y0 y1 k0) k0 v1282 v1283 := by rw [impl_natOf_L0.eq]; rfl
/-- impl.natOf -/
noncomputable def impl_natOf.b {α : Type} (N : Nat) (a1281 : Int) (k0 : List Int → Option α) : Option α :=
 impl_natOf_L0 N N a1281 []
  (fun x1290 =>
   k0 x1290)
noncomputable def impl_natOf {α : Type} := lockF (@impl_natOf.b α)
theorem impl_natOf.eq : @impl_natOf = @impl_natOf.b := funext fun α => lockF_eq _

noncomputable def impl_natAdd_L0r {α : Type} (N : Nat) (next : List Int → Int → Int → List Int → Option α) (k0 : List Int → Option α) (v1302 : List Int) (v1303 : Int) (v1304 : Int) (v1305 : List Int) : Option α :=
 let x1306 := decide (v1304 < v1303)
 bif x1306 then
  bif (decide (v1304 < (0 : Int))) then
   none
  else
   match v1302[v1304.toNat]? with
   | some x1307 =>
    bif (decide (v1304 < (0 : Int))) then
     none
    else
     bif decide (v1304.toNat < v1305.length) then
      match v1305[v1304.toNat]? with
      | some x1308 =>
       let x1309 := IntKind.i64.wrap (x1308 + x1307)
       bif (decide (v1304 < (0 : Int))) then
        none
       else
        bif decide (v1304.toNat < v1305.length) then
         match v1305[v1304.toNat]? with
         | some x1310 =>
          let x1311 := v1305.set v1304.toNat x1309
          let x1312 := (IntKind.i64.wrap (v1304 + (1 : Int)))
          next v1302 v1303 x1312 x1311
         | none => none
        else
         none
      | none => none
     else
      none
   | none => none
 else
  k0 v1305
noncomputable def impl_natAdd_L0.b {α : Type} := fun N n v1302 v1303 v1304 v1305 k0 => loopN (fun next => @impl_natAdd_L0r α N next k0) (fun _ _ _ _ => none) n v1302 v1303 v1304 v1305
noncomputable def impl_natAdd_L0 {α : Type} := lockF (@impl_natAdd_L0.b α)
theorem impl_natAdd_L0.eq : @impl_natAdd_L0 = @impl_natAdd_L0.b := funext fun α => lockF_eq _
theorem impl_natAdd_L0.zero {α : Type} (N v1302 v1303 v1304 v1305 k0) : @impl_natAdd_L0 α N 0 v1302 v1303 v1304 v1305 k0 = none := by rw [impl_natAdd_L0.eq]; rfl
theorem impl_natAdd_L0.succ {α : Type} (N n v1302 v1303 v1304 v1305 k0) : @impl_natAdd_L0 α N (n + 1) v1302 v1303 v1304 v1305 k0 = impl_natAdd_L0r N (fun y0 y1 y2 y3 => impl_natAdd_L0 N n y0 y1 y2 y3 k0) k0 v1302 v1303 v1304 v1305 := by rw [impl_natAdd_L0.eq]; rfl
noncomputable def impl_natAdd_L2r {α : Type} (N : Nat) (next : Int → Int → List Int → Option α) (k0 : List Int → Option α) (v1316 : Int) (v1317 : Int) (v1318 : List Int) : Option α :=
 let x1319 := decide (v1317 < v1316)
 bif x1319 then
  let x1320 := (IntKind.i64.wrap (v1317 + (1 : Int)))
  bif (decide (x1320 < (0 : Int))) then
   none
  else
   bif decide (x1320.toNat < v1318.length) then
    match v1318[x1320.toNat]? with
    | some x1321 =>
     bif (decide (v1317 < (0 : Int))) then
      none
     else
      bif decide (v1317.toNat < v1318.length) then
       match v1318[v1317.toNat]? with
       | some x1322 =>
        let x1323 := (shrI .i64 x1322 (16 : Int))
        let x1324 := IntKind.i64.wrap (x1321 + x1323)
        bif (decide (x1320 < (0 : Int))) then
         none
        else
         bif decide (x1320.toNat < v1318.length) then
          match v1318[x1320.toNat]? with
          | some x1325 =>
           let x1326 := v1318.set x1320.toNat x1324
           bif (decide (v1317 < (0 : Int))) then
            none
           else
            bif decide (v1317.toNat < x1326.length) then
             match x1326[v1317.toNat]? with
             | some x1327 =>
              let x1328 := (bitI .and .i64 x1327 (65535 : Int))
              bif (decide (v1317 < (0 : Int))) then
               none
              else
               bif decide (v1317.toNat < x1326.length) then
                match x1326[v1317.toNat]? with
                | some x1329 =>
                 let x1330 := x1326.set v1317.toNat x1328
                 let x1331 := (IntKind.i64.wrap (v1317 + (1 : Int)))
                 next v1316 x1331 x1330
                | none => none
               else
                none
             | none => none
            else
             none
          | none => none
         else
          none
       | none => none
      else
       none
    | none => none
   else
    none
 else
  k0 v1318
noncomputable def impl_natAdd_L2.b {α : Type} := fun N n v1316 v1317 v1318 k0 => loopN (fun next => @impl_natAdd_L2r α N next k0) (fun _ _ _ => none) n v1316 v1317 v1318
noncomputable def impl_natAdd_L2 {α : Type} := lockF (@impl_natAdd_L2.b α)
theorem impl_natAdd_L2.eq : @impl_natAdd_L2 = @impl_natAdd_L2.b := funext fun α => lockF_eq _
theorem impl_natAdd_L2.zero {α : Type} (N v1316 v1317 v1318 k0) : @impl_natAdd_L2 α N 0 v1316 v1317 v1318 k0 = none := by rw [impl_natAdd_L2.eq]; rfl
theorem impl_natAdd_L2.succ {α : Type} (N n v1316 v1317 v1318 k0) : @impl_natAdd_L2 α N (n + 1) v1316 v1317 v1318 k0 = impl_natAdd_L2r N (fun y0 y1 y2 => impl_natAdd_L2 N n y0 y1 y2 k0) k0 v1316 v1317 v1318 := by rw [impl_natAdd_L2.eq]; rfl
/-- impl.natAdd -/
noncomputable def impl_natAdd.b {α : Type} (N : Nat) (a1292 : List Int) (a1293 : List Int) (k0 : List Int → Option α) : Option α :=
 let x1294 := ((a1292.length : Nat) : Int)
 let x1295 := ((a1293.length : Nat) : Int)
 let x1296 := maxI x1294 x1295
 let x1297 := (IntKind.i64.wrap (x1296 + (1 : Int)))
 bif (decide ((0 : Int) ≤ x1297)) then
  bif decide (x1297 ≤ x1297) then
   bif (decide (x1297 ≤ ((8796093022208 : Nat) : Int))) then
    let x1298 := (List.replicate x1297.toNat (0 : Int))
    let x1299 := List.take (min a1292.length x1298.length) a1292 ++ List.drop (min a1292.length x1298.length) x1298
    let x1301 := ((a1293.length : Nat) : Int)
    impl_natAdd_L0 N N a1293 x1301 (0 : Int) x1299
     (fun x1313 =>
      let x1314 := ((x1313.length : Nat) : Int)
      let x1315 := (IntKind.i64.wrap (x1314 - (1 : Int)))
      impl_natAdd_L2 N N x1315 (0 : Int) x1313
       (fun x1332 =>
        impl_trim N x1332
         (fun x1333 =>
          k0 x1333)))
   else
    none
  else
   none
 else
  none
noncomputable def impl_natAdd {α : Type} := lockF (@impl_natAdd.b α)
theorem impl_natAdd.eq : @impl_natAdd = @impl_natAdd.b := funext fun α => lockF_eq _

noncomputable def impl_natRead_L0r {α : Type} (N : Nat) (next : ByteArray → List Int → Int → Int → Option α) (k0 : List Int → Option α) (v1202 : ByteArray) (v1203 : List Int) (v1204 : Int) (v1205 : Int) : Option α :=
 let x1206 := decide (v1205 < v1204)
 bif x1206 then
  let x1207 := [(10 : Int)]
  impl_natMul N v1203 x1207
   (fun x1276 =>
    bif (decide (v1205 < (0 : Int))) then
     none
    else
     match (v1202[v1205.toNat]? : Option UInt8) with
     | some x1277 =>
      let x1278 := ((x1277.toNat : Nat) : Int)
      let x1279 := (IntKind.u8.wrap (x1278 - (48 : Int)))
      let x1280 := IntKind.u64.wrap x1279
      impl_natOf N x1280
       (fun x1291 =>
        impl_natAdd N x1276 x1291
         (fun x1334 =>
          let x1335 := (IntKind.i64.wrap (v1205 + (1 : Int)))
          next v1202 x1334 v1204 x1335))
     | none => none)
 else
  k0 v1203
noncomputable def impl_natRead_L0.b {α : Type} := fun N n v1202 v1203 v1204 v1205 k0 => loopN (fun next => @impl_natRead_L0r α N next k0) (fun _ _ _ _ => none) n v1202 v1203 v1204 v1205
noncomputable def impl_natRead_L0 {α : Type} := lockF (@impl_natRead_L0.b α)
theorem impl_natRead_L0.eq : @impl_natRead_L0 = @impl_natRead_L0.b := funext fun α => lockF_eq _
theorem impl_natRead_L0.zero {α : Type} (N v1202 v1203 v1204 v1205 k0) : @impl_natRead_L0 α N 0 v1202 v1203 v1204 v1205 k0 = none := by rw [impl_natRead_L0.eq]; rfl
theorem impl_natRead_L0.succ {α : Type} (N n v1202 v1203 v1204 v1205 k0) : @impl_natRead_L0 α N (n + 1) v1202 v1203 v1204 v1205 k0 = impl_natRead_L0r N (fun y0 y1 y2 y3 => impl_natRead_L0 N n y0 y1 y2 y3 k0) k0 v1202 v1203 v1204 v1205 := by rw [impl_natRead_L0.eq]; rfl
/-- impl.natRead -/
noncomputable def impl_natRead.b {α : Type} (N : Nat) (a1200 : ByteArray) (k0 : List Int → Option α) : Option α :=
 let x1201 := ((a1200.size : Nat) : Int)
 impl_natRead_L0 N N a1200 [] x1201 (0 : Int)
  (fun x1336 =>
   k0 x1336)
noncomputable def impl_natRead {α : Type} := lockF (@impl_natRead.b α)
theorem impl_natRead.eq : @impl_natRead = @impl_natRead.b := funext fun α => lockF_eq _

noncomputable def impl_ten_L0r {α : Type} (N : Nat) (next : List Int → Int → Int → Option α) (k0 : List Int → Option α) (v1352 : List Int) (v1353 : Int) (v1354 : Int) : Option α :=
 let x1355 := decide (v1354 < v1353)
 bif x1355 then
  let x1356 := [(10 : Int)]
  impl_natMul N v1352 x1356
   (fun x1357 =>
    let x1358 := (IntKind.i64.wrap (v1354 + (1 : Int)))
    next x1357 v1353 x1358)
 else
  k0 v1352
noncomputable def impl_ten_L0.b {α : Type} := fun N n v1352 v1353 v1354 k0 => loopN (fun next => @impl_ten_L0r α N next k0) (fun _ _ _ => none) n v1352 v1353 v1354
noncomputable def impl_ten_L0 {α : Type} := lockF (@impl_ten_L0.b α)
theorem impl_ten_L0.eq : @impl_ten_L0 = @impl_ten_L0.b := funext fun α => lockF_eq _
theorem impl_ten_L0.zero {α : Type} (N v1352 v1353 v1354 k0) : @impl_ten_L0 α N 0 v1352 v1353 v1354 k0 = none := by rw [impl_ten_L0.eq]; rfl
theorem impl_ten_L0.succ {α : Type} (N n v1352 v1353 v1354 k0) : @impl_ten_L0 α N (n + 1) v1352 v1353 v1354 k0 = impl_ten_L0r N (fun y0 y1 y2 => impl_ten_L0 N n y0 y1 y2 k0) k0 v1352 v1353 v1354 := by rw [impl_ten_L0.eq]; rfl
/-- impl.ten -/
noncomputable def impl_ten.b {α : Type} (N : Nat) (a1350 : Int) (k0 : List Int → Option α) : Option α :=
 let x1351 := [(1 : Int)]
 impl_ten_L0 N N x1351 a1350 (0 : Int)
  (fun x1359 =>
   k0 x1359)
noncomputable def impl_ten {α : Type} := lockF (@impl_ten.b α)
theorem impl_ten.eq : @impl_ten = @impl_ten.b := funext fun α => lockF_eq _

/-- impl.whole -/
noncomputable def impl_whole.b {α : Type} (N : Nat) (a1362 : Bool) (a1363 : List Int) (k0 : Bool → List Int → List Int → Option α) : Option α :=
 bif a1362 then
  let x1364 := ((a1363.length : Nat) : Int)
  let x1365 := (decide ((0 : Int) < x1364))
  let x1366 := [(1 : Int)]
  k0 x1365 a1363 x1366
 else
  let x1367 := [(1 : Int)]
  k0 false a1363 x1367
noncomputable def impl_whole {α : Type} := lockF (@impl_whole.b α)
theorem impl_whole.eq : @impl_whole = @impl_whole.b := funext fun α => lockF_eq _

/-- slices.Clone[[]int,int] -/
noncomputable def slices_Clone_int_int {α : Type} (N : Nat) (a1 : List Int) (k0 : List Int → Option α) : Option α :=
  bif decide (([] : List Int).length + a1.length ≤ 8796093022208) then k0 a1 else none

/-- slices.Clip[[]int,int] -/
noncomputable def slices_Clip_int_int.b {α : Type} (N : Nat) (a1378 : List Int) (k0 : List Int → Option α) : Option α :=
 let x1379 := ((a1378.length : Nat) : Int)
 let x1380 := ((a1378.length : Nat) : Int)
 bif (decide ((0 : Int) ≤ x1380)) then
  bif (decide (x1380 ≤ ((a1378.length : Nat) : Int))) then
   bif (decide ((0 : Int) ≤ x1379)) then
    bif (decide (x1379 ≤ ((x1380.toNat : Nat) : Int))) then
     let x1381 := a1378.take x1379.toNat
     k0 x1381
    else
     none
   else
    none
  else
   none
 else
  none
noncomputable def slices_Clip_int_int {α : Type} := lockF (@slices_Clip_int_int.b α)
theorem slices_Clip_int_int.eq : @slices_Clip_int_int = @slices_Clip_int_int.b := funext fun α => lockF_eq _

/-- impl.clone[int] -/
noncomputable def impl_clone_int.b {α : Type} (N : Nat) (a1376 : List Int) (k0 : List Int → Option α) : Option α :=
 slices_Clone_int_int N a1376
  (fun x1377 =>
   slices_Clip_int_int N x1377
    (fun x1382 =>
     k0 x1382))
noncomputable def impl_clone_int {α : Type} := lockF (@impl_clone_int.b α)
theorem impl_clone_int.eq : @impl_clone_int = @impl_clone_int.b := funext fun α => lockF_eq _

/-- impl.given -/
noncomputable def impl_given.b {α : Type} (N : Nat) (a1371 : Bool × (List Int) × (List Int) × Unit) (k0 : Bool → Bool → List Int → List Int → Option α) : Option α :=
 let x1372 := ((a1371.2.1.length : Nat) : Int)
 let x1373 := (decide ((256 : Int) < x1372))
 bif x1373 then
  k0 false false [] []
 else
  let x1374 := ((a1371.2.2.1.length : Nat) : Int)
  let x1375 := (decide ((256 : Int) < x1374))
  bif x1375 then
   k0 false false [] []
  else
   impl_clone_int N a1371.2.1
    (fun x1383 =>
     impl_clone_int N a1371.2.2.1
      (fun x1384 =>
       k0 a1371.1 true x1383 x1384))
noncomputable def impl_given {α : Type} := lockF (@impl_given.b α)
theorem impl_given.eq : @impl_given = @impl_given.b := funext fun α => lockF_eq _

noncomputable def impl_natCmp_L0r {α : Type} (N : Nat) (next : List Int → List Int → Int → Option α) (k0 : Int → Option α) (k1 : Option α) (v1471 : List Int) (v1472 : List Int) (v1473 : Int) : Option α :=
 let x1474 := (decide ((0 : Int) ≤ v1473))
 bif x1474 then
  bif (decide (v1473 < (0 : Int))) then
   none
  else
   match v1471[v1473.toNat]? with
   | some x1475 =>
    bif (decide (v1473 < (0 : Int))) then
     none
    else
     match v1472[v1473.toNat]? with
     | some x1476 =>
      let x1477 := !(decide (x1475 = x1476))
      bif x1477 then
       bif (decide (v1473 < (0 : Int))) then
        none
       else
        match v1471[v1473.toNat]? with
        | some x1478 =>
         bif (decide (v1473 < (0 : Int))) then
          none
         else
          match v1472[v1473.toNat]? with
          | some x1479 =>
           let x1480 := IntKind.i64.wrap (x1478 - x1479)
           let x1481 := (minI (1 : Int) x1480)
           let x1482 := (maxI (-1 : Int) x1481)
           k0 x1482
          | none => none
        | none => none
      else
       let x1483 := (IntKind.i64.wrap (v1473 - (1 : Int)))
       next v1471 v1472 x1483
     | none => none
   | none => none
 else
  k1
noncomputable def impl_natCmp_L0.b {α : Type} := fun N n v1471 v1472 v1473 k0 k1 => loopN (fun next => @impl_natCmp_L0r α N next k0 k1) (fun _ _ _ => none) n v1471 v1472 v1473
noncomputable def impl_natCmp_L0 {α : Type} := lockF (@impl_natCmp_L0.b α)
theorem impl_natCmp_L0.eq : @impl_natCmp_L0 = @impl_natCmp_L0.b := funext fun α => lockF_eq _
theorem impl_natCmp_L0.zero {α : Type} (N v1471 v1472 v1473 k0 k1) : @impl_natCmp_L0 α N 0 v1471 v1472 v1473 k0 k1 = none := by rw [impl_natCmp_L0.eq]; rfl
theorem impl_natCmp_L0.succ {α : Type} (N n v1471 v1472 v1473 k0 k1) : @impl_natCmp_L0 α N (n + 1) v1471 v1472 v1473 k0 k1 = impl_natCmp_L0r N (fun y0 y1 y2 => impl_natCmp_L0 N n y0 y1 y2 k0 k1) k0 k1 v1471 v1472 v1473 := by rw [impl_natCmp_L0.eq]; rfl
/-- impl.natCmp -/
noncomputable def impl_natCmp.b {α : Type} (N : Nat) (a1459 : List Int) (a1460 : List Int) (k0 : Int → Option α) : Option α :=
 let x1461 := ((a1459.length : Nat) : Int)
 let x1462 := ((a1460.length : Nat) : Int)
 let x1463 := !(decide (x1461 = x1462))
 bif x1463 then
  let x1464 := ((a1459.length : Nat) : Int)
  let x1465 := ((a1460.length : Nat) : Int)
  let x1466 := IntKind.i64.wrap (x1464 - x1465)
  let x1467 := (minI (1 : Int) x1466)
  let x1468 := (maxI (-1 : Int) x1467)
  k0 x1468
 else
  let x1469 := ((a1459.length : Nat) : Int)
  let x1470 := (IntKind.i64.wrap (x1469 - (1 : Int)))
  impl_natCmp_L0 N N a1459 a1460 x1470
   (fun x1484 =>
    k0 x1484)
   (
    k0 (0 : Int))
noncomputable def impl_natCmp {α : Type} := lockF (@impl_natCmp.b α)
theorem impl_natCmp.eq : @impl_natCmp = @impl_natCmp.b := funext fun α => lockF_eq _

noncomputable def math_bits_Len64_J1.b {α : Type} (N : Nat) (v1520 : Int) (v1521 : Int) (k0 : Int → Int → Option α) : Option α :=
 let x1522 := (decide ((4294967296 : Int) ≤ v1520))
 bif x1522 then
  let x1523 := (shrI .u64 v1520 (32 : Int))
  k0 x1523 (32 : Int)
 else
  k0 v1520 v1521
noncomputable def math_bits_Len64_J1 {α : Type} := lockF (@math_bits_Len64_J1.b α)
theorem math_bits_Len64_J1.eq : @math_bits_Len64_J1 = @math_bits_Len64_J1.b := funext fun α => lockF_eq _
noncomputable def math_bits_Len64_J4.b {α : Type} (N : Nat) (v1526 : Int) (v1527 : Int) (k0 : Int → Int → Option α) : Option α :=
 let x1528 := (decide ((65536 : Int) ≤ v1526))
 bif x1528 then
  let x1529 := (shrI .u64 v1526 (16 : Int))
  let x1530 := (IntKind.i64.wrap (v1527 + (16 : Int)))
  k0 x1529 x1530
 else
  k0 v1526 v1527
noncomputable def math_bits_Len64_J4 {α : Type} := lockF (@math_bits_Len64_J4.b α)
theorem math_bits_Len64_J4.eq : @math_bits_Len64_J4 = @math_bits_Len64_J4.b := funext fun α => lockF_eq _
noncomputable def math_bits_Len64_J7.b {α : Type} (N : Nat) (v1533 : Int) (v1534 : Int) (k0 : Int → Int → Option α) : Option α :=
 let x1535 := (decide ((256 : Int) ≤ v1533))
 bif x1535 then
  let x1536 := (shrI .u64 v1533 (8 : Int))
  let x1537 := (IntKind.i64.wrap (v1534 + (8 : Int)))
  k0 x1536 x1537
 else
  k0 v1533 v1534
noncomputable def math_bits_Len64_J7 {α : Type} := lockF (@math_bits_Len64_J7.b α)
theorem math_bits_Len64_J7.eq : @math_bits_Len64_J7 = @math_bits_Len64_J7.b := funext fun α => lockF_eq _
/-- math/bits.Len64 -/
noncomputable def math_bits_Len64.b {α : Type} (N : Nat) (a1519 : Int) (k0 : Int → Option α) : Option α :=
 math_bits_Len64_J1 N a1519 (0 : Int)
  (fun x1524 x1525 =>
   math_bits_Len64_J4 N x1524 x1525
    (fun x1531 x1532 =>
     math_bits_Len64_J7 N x1531 x1532
      (fun x1538 x1539 =>
       let x1540 := IntKind.u8.wrap x1538
       bif (decide (x1540 < (0 : Int))) then
        none
       else
        match ((⟨#[0, 1, 2, 2, 3, 3, 3, 3, 4, 4, 4, 4, 4, 4, 4, 4, 5, 5, 5, 5, 5, 5, 5, 5, 5, 5, 5, 5, 5, 5, 5, 5, 6, 6, 6, 6, 6, 6, 6, 6, 6, 6, 6, 6, 6, 6, 6, 6, 6, 6, 6, 6, 6, 6, 6, 6, 6, 6, 6, 6, 6, 6, 6, 6, 7, 7, 7, 7, 7, 7, 7, 7, 7, 7, 7, 7, 7, 7, 7, 7, 7, 7, 7, 7, 7, 7, 7, 7, 7, 7, 7, 7, 7, 7, 7, 7, 7, 7, 7, 7, 7, 7, 7, 7, 7, 7, 7, 7, 7, 7, 7, 7, 7, 7, 7, 7, 7, 7, 7, 7, 7, 7, 7, 7, 7, 7, 7, 7, 8, 8, 8, 8, 8, 8, 8, 8, 8, 8, 8, 8, 8, 8, 8, 8, 8, 8, 8, 8, 8, 8, 8, 8, 8, 8, 8, 8, 8, 8, 8, 8, 8, 8, 8, 8, 8, 8, 8, 8, 8, 8, 8, 8, 8, 8, 8, 8, 8, 8, 8, 8, 8, 8, 8, 8, 8, 8, 8, 8, 8, 8, 8, 8, 8, 8, 8, 8, 8, 8, 8, 8, 8, 8, 8, 8, 8, 8, 8, 8, 8, 8, 8, 8, 8, 8, 8, 8, 8, 8, 8, 8, 8, 8, 8, 8, 8, 8, 8, 8, 8, 8, 8, 8, 8, 8, 8, 8, 8, 8, 8, 8, 8, 8, 8, 8, 8, 8, 8, 8, 8, 8, 8, 8, 8, 8, 8, 8]⟩ : ByteArray)[x1540.toNat]? : Option UInt8) with
        | some x1541 =>
         let x1542 := ((x1541.toNat : Nat) : Int)
         let x1543 := IntKind.i64.wrap x1542
         let x1544 := IntKind.i64.wrap (x1539 + x1543)
         k0 x1544
        | none => none)))
noncomputable def math_bits_Len64 {α : Type} := lockF (@math_bits_Len64.b α)
theorem math_bits_Len64.eq : @math_bits_Len64 = @math_bits_Len64.b := funext fun α => lockF_eq _

/-- math/bits.Len -/
noncomputable def math_bits_Len.b {α : Type} (N : Nat) (a1518 : Int) (k0 : Int → Option α) : Option α :=
 math_bits_Len64 N a1518
  (fun x1545 =>
   k0 x1545)
noncomputable def math_bits_Len {α : Type} := lockF (@math_bits_Len.b α)
theorem math_bits_Len.eq : @math_bits_Len = @math_bits_Len.b := funext fun α => lockF_eq _

noncomputable def impl_natShift_J10.b {α : Type} (N : Nat) (v1624 : List Int) (v1625 : Int) (v1626 : Int) (v1627 : Int) (v1628 : Int) (v1629 : Int) (v1630 : List Int) (k0 : List Int → Int → Int → Int → Int → List Int → Option α) : Option α :=
 let x1631 := IntKind.i64.wrap (v1625 + v1627)
 let x1632 := (IntKind.i64.wrap (x1631 + (1 : Int)))
 let x1633 := ((v1624.length : Nat) : Int)
 let x1634 := decide (x1632 < x1633)
 bif x1634 then
  bif (decide (v1627 < (0 : Int))) then
   none
  else
   bif decide (v1627.toNat < v1630.length) then
    match v1630[v1627.toNat]? with
    | some x1635 =>
     let x1636 := IntKind.i64.wrap (v1625 + v1627)
     let x1637 := (IntKind.i64.wrap (x1636 + (1 : Int)))
     bif (decide (x1637 < (0 : Int))) then
      none
     else
      match v1624[x1637.toNat]? with
      | some x1638 =>
       let x1639 := (IntKind.i64.wrap ((16 : Int) - v1626))
       bif (decide (x1639 < (0 : Int))) then
        none
       else
        let x1640 := shlI .i64 x1638 x1639
        let x1641 := (bitI .and .i64 x1640 (65535 : Int))
        let x1642 := bitI .or .i64 x1635 x1641
        bif (decide (v1627 < (0 : Int))) then
         none
        else
         bif decide (v1627.toNat < v1630.length) then
          match v1630[v1627.toNat]? with
          | some x1643 =>
           let x1644 := v1630.set v1627.toNat x1642
           k0 v1624 v1625 v1626 v1628 v1629 x1644
          | none => none
         else
          none
      | none => none
    | none => none
   else
    none
 else
  k0 v1624 v1625 v1626 v1628 v1629 v1630
noncomputable def impl_natShift_J10 {α : Type} := lockF (@impl_natShift_J10.b α)
theorem impl_natShift_J10.eq : @impl_natShift_J10 = @impl_natShift_J10.b := funext fun α => lockF_eq _
noncomputable def impl_natShift_L0r {α : Type} (N : Nat) (next : List Int → Int → Int → Int → Int → List Int → Option α) (k0 : List Int → Option α) (v1613 : List Int) (v1614 : Int) (v1615 : Int) (v1616 : Int) (v1617 : Int) (v1618 : List Int) : Option α :=
 let x1619 := decide (v1617 < v1616)
 bif x1619 then
  bif (decide (v1617 < (0 : Int))) then
   none
  else
   bif decide (v1617.toNat < v1618.length) then
    match v1618[v1617.toNat]? with
    | some x1620 =>
     bif (decide (v1615 < (0 : Int))) then
      none
     else
      let x1621 := shrI .i64 x1620 v1615
      bif (decide (v1617 < (0 : Int))) then
       none
      else
       bif decide (v1617.toNat < v1618.length) then
        match v1618[v1617.toNat]? with
        | some x1622 =>
         let x1623 := v1618.set v1617.toNat x1621
         impl_natShift_J10 N v1613 v1614 v1615 v1617 v1616 v1617 x1623
          (fun x1645 x1646 x1647 x1648 x1649 x1650 =>
           let x1651 := (IntKind.i64.wrap (x1649 + (1 : Int)))
           next x1645 x1646 x1647 x1648 x1651 x1650)
        | none => none
       else
        none
    | none => none
   else
    none
 else
  k0 v1618
noncomputable def impl_natShift_L0.b {α : Type} := fun N n v1613 v1614 v1615 v1616 v1617 v1618 k0 => loopN (fun next => @impl_natShift_L0r α N next k0) (fun _ _ _ _ _ _ => none) n v1613 v1614 v1615 v1616 v1617 v1618
noncomputable def impl_natShift_L0 {α : Type} := lockF (@impl_natShift_L0.b α)
theorem impl_natShift_L0.eq : @impl_natShift_L0 = @impl_natShift_L0.b := funext fun α => lockF_eq _
theorem impl_natShift_L0.zero {α : Type} (N v1613 v1614 v1615 v1616 v1617 v1618 k0) : @impl_natShift_L0 α N 0 v1613 v1614 v1615 v1616 v1617 v1618 k0 = none := by rw [impl_natShift_L0.eq]; rfl
theorem impl_natShift_L0.succ {α : Type} (N n v1613 v1614 v1615 v1616 v1617 v1618 k0) : @impl_natShift_L0 α N (n + 1) v1613 v1614 v1615 v1616 v1617 v1618 k0 = impl_natShift_L0r N (fun y0 y1 y2 y3 y4 y5 => impl_natShift_L0 N n y0 y1 y2 y3 y4 y5 k0) k0 v1613 v1614 v1615 v1616 v1617 v1618 := by rw [impl_natShift_L0.eq]; rfl
noncomputable def impl_natShift_L2r {α : Type} (N : Nat) (next : Int → List Int → Int → Int → List Int → Option α) (k0 : List Int → Option α) (v1660 : Int) (v1661 : List Int) (v1662 : Int) (v1663 : Int) (v1664 : List Int) : Option α :=
 let x1665 := decide (v1663 < v1662)
 bif x1665 then
  bif (decide (v1663 < (0 : Int))) then
   none
  else
   match v1661[v1663.toNat]? with
   | some x1666 =>
    let x1667 := (Int.tmod v1660 (16 : Int))
    bif (decide (x1667 < (0 : Int))) then
     none
    else
     let x1668 := shlI .i64 x1666 x1667
     let x1669 := (IntKind.i64.wrap (Int.tdiv v1660 (16 : Int)))
     let x1670 := IntKind.i64.wrap (x1669 + v1663)
     bif (decide (x1670 < (0 : Int))) then
      none
     else
      bif decide (x1670.toNat < v1664.length) then
       match v1664[x1670.toNat]? with
       | some x1671 =>
        let x1672 := (bitI .and .i64 x1668 (65535 : Int))
        let x1673 := bitI .or .i64 x1671 x1672
        bif (decide (x1670 < (0 : Int))) then
         none
        else
         bif decide (x1670.toNat < v1664.length) then
          match v1664[x1670.toNat]? with
          | some x1674 =>
           let x1675 := v1664.set x1670.toNat x1673
           let x1676 := (IntKind.i64.wrap (Int.tdiv v1660 (16 : Int)))
           let x1677 := IntKind.i64.wrap (x1676 + v1663)
           let x1678 := (IntKind.i64.wrap (x1677 + (1 : Int)))
           let x1679 := (shrI .i64 x1668 (16 : Int))
           bif (decide (x1678 < (0 : Int))) then
            none
           else
            bif decide (x1678.toNat < x1675.length) then
             match x1675[x1678.toNat]? with
             | some x1680 =>
              let x1681 := x1675.set x1678.toNat x1679
              let x1682 := (IntKind.i64.wrap (v1663 + (1 : Int)))
              next v1660 v1661 v1662 x1682 x1681
             | none => none
            else
             none
          | none => none
         else
          none
       | none => none
      else
       none
   | none => none
 else
  k0 v1664
noncomputable def impl_natShift_L2.b {α : Type} := fun N n v1660 v1661 v1662 v1663 v1664 k0 => loopN (fun next => @impl_natShift_L2r α N next k0) (fun _ _ _ _ _ => none) n v1660 v1661 v1662 v1663 v1664
noncomputable def impl_natShift_L2 {α : Type} := lockF (@impl_natShift_L2.b α)
theorem impl_natShift_L2.eq : @impl_natShift_L2 = @impl_natShift_L2.b := funext fun α => lockF_eq _
theorem impl_natShift_L2.zero {α : Type} (N v1660 v1661 v1662 v1663 v1664 k0) : @impl_natShift_L2 α N 0 v1660 v1661 v1662 v1663 v1664 k0 = none := by rw [impl_natShift_L2.eq]; rfl
theorem impl_natShift_L2.succ {α : Type} (N n v1660 v1661 v1662 v1663 v1664 k0) : @impl_natShift_L2 α N (n + 1) v1660 v1661 v1662 v1663 v1664 k0 = impl_natShift_L2r N (fun y0 y1 y2 y3 y4 => impl_natShift_L2 N n y0 y1 y2 y3 y4 k0) k0 v1660 v1661 v1662 v1663 v1664 := by rw [impl_natShift_L2.eq]; rfl
/-- impl.natShift -/
noncomputable def impl_natShift.b {α : Type} (N : Nat) (a1601 : List Int) (a1602 : Int) (k0 : List Int → Option α) : Option α :=
 let x1603 := (decide (a1602 < (0 : Int)))
 bif x1603 then
  let x1604 := IntKind.i64.wrap (0 - a1602)
  let x1605 := (IntKind.i64.wrap (Int.tdiv x1604 (16 : Int)))
  let x1606 := IntKind.i64.wrap (0 - a1602)
  let x1607 := (Int.tmod x1606 (16 : Int))
  let x1608 := ((a1601.length : Nat) : Int)
  let x1609 := decide (x1608 ≤ x1605)
  bif x1609 then
   k0 []
  else
   bif (decide ((0 : Int) ≤ x1605)) then
    bif (decide (x1605 ≤ ((a1601.length : Nat) : Int))) then
     let x1610 := a1601.drop x1605.toNat
     slices_Clone_int_int N x1610
      (fun x1611 =>
       let x1612 := ((x1611.length : Nat) : Int)
       impl_natShift_L0 N N a1601 x1605 x1607 x1612 (0 : Int) x1611
        (fun x1652 =>
         impl_trim N x1652
          (fun x1653 =>
           k0 x1653)))
    else
     none
   else
    none
 else
  let x1654 := (IntKind.i64.wrap (Int.tdiv a1602 (16 : Int)))
  let x1655 := ((a1601.length : Nat) : Int)
  let x1656 := IntKind.i64.wrap (x1654 + x1655)
  let x1657 := (IntKind.i64.wrap (x1656 + (1 : Int)))
  bif (decide ((0 : Int) ≤ x1657)) then
   bif decide (x1657 ≤ x1657) then
    bif (decide (x1657 ≤ ((8796093022208 : Nat) : Int))) then
     let x1658 := (List.replicate x1657.toNat (0 : Int))
     let x1659 := ((a1601.length : Nat) : Int)
     impl_natShift_L2 N N a1602 a1601 x1659 (0 : Int) x1658
      (fun x1683 =>
       impl_trim N x1683
        (fun x1684 =>
         k0 x1684))
    else
     none
   else
    none
  else
   none
noncomputable def impl_natShift {α : Type} := lockF (@impl_natShift.b α)
theorem impl_natShift.eq : @impl_natShift = @impl_natShift.b := funext fun α => lockF_eq _

noncomputable def impl_natDiv_L0r {α : Type} (N : Nat) (next : List Int → List Int → Int → Int → List Int → Option α) (k0 : Int → List Int → Option α) (v1493 : List Int) (v1494 : List Int) (v1495 : Int) (v1496 : Int) (v1497 : List Int) : Option α :=
 let x1498 := (decide ((0 : Int) ≤ v1496))
 bif x1498 then
  let x1499 := (shlI .i64 v1495 (16 : Int))
  bif (decide (v1496 < (0 : Int))) then
   none
  else
   match v1493[v1496.toNat]? with
   | some x1500 =>
    let x1501 := bitI .or .i64 x1499 x1500
    match v1494[0]? with
    | some x1502 =>
     bif (decide (x1502 = (0 : Int))) then
      none
     else
      let x1503 := IntKind.i64.wrap (Int.tdiv x1501 x1502)
      match v1494[0]? with
      | some x1504 =>
       bif (decide (x1504 = (0 : Int))) then
        none
       else
        let x1505 := Int.tmod x1501 x1504
        bif (decide (v1496 < (0 : Int))) then
         none
        else
         bif decide (v1496.toNat < v1497.length) then
          match v1497[v1496.toNat]? with
          | some x1506 =>
           let x1507 := v1497.set v1496.toNat x1503
           let x1508 := (IntKind.i64.wrap (v1496 - (1 : Int)))
           next v1493 v1494 x1505 x1508 x1507
          | none => none
         else
          none
      | none => none
    | none => none
   | none => none
 else
  k0 v1495 v1497
noncomputable def impl_natDiv_L0.b {α : Type} := fun N n v1493 v1494 v1495 v1496 v1497 k0 => loopN (fun next => @impl_natDiv_L0r α N next k0) (fun _ _ _ _ _ => none) n v1493 v1494 v1495 v1496 v1497
noncomputable def impl_natDiv_L0 {α : Type} := lockF (@impl_natDiv_L0.b α)
theorem impl_natDiv_L0.eq : @impl_natDiv_L0 = @impl_natDiv_L0.b := funext fun α => lockF_eq _
theorem impl_natDiv_L0.zero {α : Type} (N v1493 v1494 v1495 v1496 v1497 k0) : @impl_natDiv_L0 α N 0 v1493 v1494 v1495 v1496 v1497 k0 = none := by rw [impl_natDiv_L0.eq]; rfl
theorem impl_natDiv_L0.succ {α : Type} (N n v1493 v1494 v1495 v1496 v1497 k0) : @impl_natDiv_L0 α N (n + 1) v1493 v1494 v1495 v1496 v1497 k0 = impl_natDiv_L0r N (fun y0 y1 y2 y3 y4 => impl_natDiv_L0 N n y0 y1 y2 y3 y4 k0) k0 v1493 v1494 v1495 v1496 v1497 := by rw [impl_natDiv_L0.eq]; rfl
noncomputable def impl_natDiv_L2r {α : Type} (N : Nat) (next : List Int → Int → List Int → Int → List Int → Option α) (k0 : Int → List Int → Int → List Int → Option α) (v1691 : List Int) (v1692 : Int) (v1693 : List Int) (v1694 : Int) (v1695 : List Int) : Option α :=
 let x1696 := ((v1695.length : Nat) : Int)
 let x1697 := ((v1691.length : Nat) : Int)
 let x1698 := (IntKind.i64.wrap (x1697 + (1 : Int)))
 let x1699 := decide (x1696 < x1698)
 bif x1699 then
  let x1700 := [(0 : Int)]
  bif decide (v1695.length + x1700.length ≤ 8796093022208) then
   let x1701 := v1695 ++ x1700
   next v1691 v1692 v1693 v1694 x1701
  else
   none
 else
  k0 v1692 v1693 v1694 v1695
noncomputable def impl_natDiv_L2.b {α : Type} := fun N n v1691 v1692 v1693 v1694 v1695 k0 => loopN (fun next => @impl_natDiv_L2r α N next k0) (fun _ _ _ _ _ => none) n v1691 v1692 v1693 v1694 v1695
noncomputable def impl_natDiv_L2 {α : Type} := lockF (@impl_natDiv_L2.b α)
theorem impl_natDiv_L2.eq : @impl_natDiv_L2 = @impl_natDiv_L2.b := funext fun α => lockF_eq _
theorem impl_natDiv_L2.zero {α : Type} (N v1691 v1692 v1693 v1694 v1695 k0) : @impl_natDiv_L2 α N 0 v1691 v1692 v1693 v1694 v1695 k0 = none := by rw [impl_natDiv_L2.eq]; rfl
theorem impl_natDiv_L2.succ {α : Type} (N n v1691 v1692 v1693 v1694 v1695 k0) : @impl_natDiv_L2 α N (n + 1) v1691 v1692 v1693 v1694 v1695 k0 = impl_natDiv_L2r N (fun y0 y1 y2 y3 y4 => impl_natDiv_L2 N n y0 y1 y2 y3 y4 k0) k0 v1691 v1692 v1693 v1694 v1695 := by rw [impl_natDiv_L2.eq]; rfl
noncomputable def impl_natDiv_L6r {α : Type} (N : Nat) (next : Int → List Int → Int → Int → Int → Int → List Int → List Int → Option α) (k0 : Int → List Int → Int → Int → Int → List Int → List Int → Option α) (v1732 : Int) (v1733 : List Int) (v1734 : Int) (v1735 : Int) (v1736 : Int) (v1737 : Int) (v1738 : List Int) (v1739 : List Int) : Option α :=
 let x1740 := (decide ((65536 : Int) ≤ v1736))
 bif x1740 then
  let x1741 := (IntKind.i64.wrap (v1736 - (1 : Int)))
  let x1742 := (IntKind.i64.wrap (v1734 - (1 : Int)))
  bif (decide (x1742 < (0 : Int))) then
   none
  else
   match v1733[x1742.toNat]? with
   | some x1743 =>
    let x1744 := IntKind.i64.wrap (v1737 + x1743)
    let x1745 := (decide ((65536 : Int) ≤ x1744))
    bif x1745 then
     k0 v1732 v1733 v1734 v1735 x1741 v1738 v1739
    else
     next v1732 v1733 v1734 v1735 x1741 x1744 v1738 v1739
   | none => none
 else
  let x1746 := (IntKind.i64.wrap (v1734 - (2 : Int)))
  bif (decide (x1746 < (0 : Int))) then
   none
  else
   match v1733[x1746.toNat]? with
   | some x1747 =>
    let x1748 := IntKind.i64.wrap (v1736 * x1747)
    let x1749 := (shlI .i64 v1737 (16 : Int))
    let x1750 := IntKind.i64.wrap (v1735 + v1734)
    let x1751 := (IntKind.i64.wrap (x1750 - (2 : Int)))
    bif (decide (x1751 < (0 : Int))) then
     none
    else
     bif decide (x1751.toNat < v1738.length) then
      match v1738[x1751.toNat]? with
      | some x1752 =>
       let x1753 := bitI .or .i64 x1749 x1752
       let x1754 := decide (x1753 < x1748)
       bif x1754 then
        let x1755 := (IntKind.i64.wrap (v1736 - (1 : Int)))
        let x1756 := (IntKind.i64.wrap (v1734 - (1 : Int)))
        bif (decide (x1756 < (0 : Int))) then
         none
        else
         match v1733[x1756.toNat]? with
         | some x1757 =>
          let x1758 := IntKind.i64.wrap (v1737 + x1757)
          let x1759 := (decide ((65536 : Int) ≤ x1758))
          bif x1759 then
           k0 v1732 v1733 v1734 v1735 x1755 v1738 v1739
          else
           next v1732 v1733 v1734 v1735 x1755 x1758 v1738 v1739
         | none => none
       else
        k0 v1732 v1733 v1734 v1735 v1736 v1738 v1739
      | none => none
     else
      none
   | none => none
noncomputable def impl_natDiv_L6.b {α : Type} := fun N n v1732 v1733 v1734 v1735 v1736 v1737 v1738 v1739 k0 => loopN (fun next => @impl_natDiv_L6r α N next k0) (fun _ _ _ _ _ _ _ _ => none) n v1732 v1733 v1734 v1735 v1736 v1737 v1738 v1739
noncomputable def impl_natDiv_L6 {α : Type} := lockF (@impl_natDiv_L6.b α)
theorem impl_natDiv_L6.eq : @impl_natDiv_L6 = @impl_natDiv_L6.b := funext fun α => lockF_eq _
theorem impl_natDiv_L6.zero {α : Type} (N v1732 v1733 v1734 v1735 v1736 v1737 v1738 v1739 k0) : @impl_natDiv_L6 α N 0 v1732 v1733 v1734 v1735 v1736 v1737 v1738 v1739 k0 = none := by rw [impl_natDiv_L6.eq]; rfl
theorem impl_natDiv_L6.succ {α : Type} (N n v1732 v1733 v1734 v1735 v1736 v1737 v1738 v1739 k0) : @impl_natDiv_L6 α N (n + 1) v1732 v1733 v1734 v1735 v1736 v1737 v1738 v1739 k0 = impl_natDiv_L6r N (fun y0 y1 y2 y3 y4 y5 y6 y7 => impl_natDiv_L6 N n y0 y1 y2 y3 y4 y5 y6 y7 k0) k0 v1732 v1733 v1734 v1735 v1736 v1737 v1738 v1739 := by rw [impl_natDiv_L6.eq]; rfl
noncomputable def impl_natDiv_J34.b {α : Type} (N : Nat) (v1786 : Int) (v1787 : List Int) (v1788 : Int) (v1789 : Int) (v1790 : Int) (v1791 : Int) (v1792 : Int) (v1793 : Int) (v1794 : List Int) (v1795 : Int) (v1796 : Int) (v1797 : List Int) (v1798 : List Int) (k0 : Int → List Int → Int → Int → Int → Int → Int → Int → List Int → Int → Int → List Int → List Int → Option α) : Option α :=
 let x1799 := (decide (v1793 < (0 : Int)))
 bif x1799 then
  let x1800 := IntKind.i64.wrap (0 - v1793)
  let x1801 := (IntKind.i64.wrap (x1800 + (65536 : Int)))
  let x1802 := (IntKind.i64.wrap (x1801 - (1 : Int)))
  let x1803 := (IntKind.i64.wrap (Int.tdiv x1802 (65536 : Int)))
  let x1804 := (IntKind.i64.wrap (x1803 * (65536 : Int)))
  let x1805 := IntKind.i64.wrap (v1793 + x1804)
  k0 v1786 v1787 v1788 v1789 v1790 x1803 v1792 x1805 v1794 v1795 v1796 v1797 v1798
 else
  k0 v1786 v1787 v1788 v1789 v1790 v1791 v1792 v1793 v1794 v1795 v1796 v1797 v1798
noncomputable def impl_natDiv_J34 {α : Type} := lockF (@impl_natDiv_J34.b α)
theorem impl_natDiv_J34.eq : @impl_natDiv_J34 = @impl_natDiv_J34.b := funext fun α => lockF_eq _
noncomputable def impl_natDiv_L8r {α : Type} (N : Nat) (next : Int → List Int → Int → Int → Int → Int → List Int → Int → Int → List Int → List Int → Option α) (k0 : Int → List Int → Int → Int → Int → Int → List Int → List Int → Option α) (v1768 : Int) (v1769 : List Int) (v1770 : Int) (v1771 : Int) (v1772 : Int) (v1773 : Int) (v1774 : List Int) (v1775 : Int) (v1776 : Int) (v1777 : List Int) (v1778 : List Int) : Option α :=
 let x1779 := decide (v1776 < v1775)
 bif x1779 then
  bif (decide (v1776 < (0 : Int))) then
   none
  else
   match v1774[v1776.toNat]? with
   | some x1780 =>
    let x1781 := IntKind.i64.wrap (v1771 + v1776)
    bif (decide (x1781 < (0 : Int))) then
     none
    else
     bif decide (x1781.toNat < v1777.length) then
      match v1777[x1781.toNat]? with
      | some x1782 =>
       let x1783 := IntKind.i64.wrap (x1782 - v1773)
       let x1784 := IntKind.i64.wrap (v1772 * x1780)
       let x1785 := IntKind.i64.wrap (x1783 - x1784)
       impl_natDiv_J34 N v1768 v1769 v1770 v1771 v1772 (0 : Int) v1776 x1785 v1774 v1775 v1776 v1777 v1778
        (fun x1806 x1807 x1808 x1809 x1810 x1811 x1812 x1813 x1814 x1815 x1816 x1817 x1818 =>
         let x1819 := IntKind.i64.wrap (x1809 + x1812)
         bif (decide (x1819 < (0 : Int))) then
          none
         else
          bif decide (x1819.toNat < x1817.length) then
           match x1817[x1819.toNat]? with
           | some x1820 =>
            let x1821 := x1817.set x1819.toNat x1813
            let x1822 := (IntKind.i64.wrap (x1816 + (1 : Int)))
            next x1806 x1807 x1808 x1809 x1810 x1811 x1814 x1815 x1822 x1821 x1818
           | none => none
          else
           none)
      | none => none
     else
      none
   | none => none
 else
  k0 v1768 v1769 v1770 v1771 v1772 v1773 v1777 v1778
noncomputable def impl_natDiv_L8.b {α : Type} := fun N n v1768 v1769 v1770 v1771 v1772 v1773 v1774 v1775 v1776 v1777 v1778 k0 => loopN (fun next => @impl_natDiv_L8r α N next k0) (fun _ _ _ _ _ _ _ _ _ _ _ => none) n v1768 v1769 v1770 v1771 v1772 v1773 v1774 v1775 v1776 v1777 v1778
noncomputable def impl_natDiv_L8 {α : Type} := lockF (@impl_natDiv_L8.b α)
theorem impl_natDiv_L8.eq : @impl_natDiv_L8 = @impl_natDiv_L8.b := funext fun α => lockF_eq _
theorem impl_natDiv_L8.zero {α : Type} (N v1768 v1769 v1770 v1771 v1772 v1773 v1774 v1775 v1776 v1777 v1778 k0) : @impl_natDiv_L8 α N 0 v1768 v1769 v1770 v1771 v1772 v1773 v1774 v1775 v1776 v1777 v1778 k0 = none := by rw [impl_natDiv_L8.eq]; rfl
theorem impl_natDiv_L8.succ {α : Type} (N n v1768 v1769 v1770 v1771 v1772 v1773 v1774 v1775 v1776 v1777 v1778 k0) : @impl_natDiv_L8 α N (n + 1) v1768 v1769 v1770 v1771 v1772 v1773 v1774 v1775 v1776 v1777 v1778 k0 = impl_natDiv_L8r N (fun y0 y1 y2 y3 y4 y5 y6 y7 y8 y9 y10 => impl_natDiv_L8 N n y0 y1 y2 y3 y4 y5 y6 y7 y8 y9 y10 k0) k0 v1768 v1769 v1770 v1771 v1772 v1773 v1774 v1775 v1776 v1777 v1778 := by rw [impl_natDiv_L8.eq]; rfl
noncomputable def impl_natDiv_L10r {α : Type} (N : Nat) (next : Int → List Int → Int → Int → Int → Int → List Int → Int → Int → List Int → List Int → Option α) (k0 : Int → List Int → Int → Int → Int → Int → List Int → List Int → Option α) (v1848 : Int) (v1849 : List Int) (v1850 : Int) (v1851 : Int) (v1852 : Int) (v1853 : Int) (v1854 : List Int) (v1855 : Int) (v1856 : Int) (v1857 : List Int) (v1858 : List Int) : Option α :=
 let x1859 := decide (v1856 < v1855)
 bif x1859 then
  bif (decide (v1856 < (0 : Int))) then
   none
  else
   match v1854[v1856.toNat]? with
   | some x1860 =>
    let x1861 := IntKind.i64.wrap (v1851 + v1856)
    bif (decide (x1861 < (0 : Int))) then
     none
    else
     bif decide (x1861.toNat < v1857.length) then
      match v1857[x1861.toNat]? with
      | some x1862 =>
       let x1863 := IntKind.i64.wrap (x1862 + x1860)
       let x1864 := IntKind.i64.wrap (x1863 + v1853)
       let x1865 := IntKind.i64.wrap (v1851 + v1856)
       let x1866 := (bitI .and .i64 x1864 (65535 : Int))
       let x1867 := (shrI .i64 x1864 (16 : Int))
       bif (decide (x1865 < (0 : Int))) then
        none
       else
        bif decide (x1865.toNat < v1857.length) then
         match v1857[x1865.toNat]? with
         | some x1868 =>
          let x1869 := v1857.set x1865.toNat x1866
          let x1870 := (IntKind.i64.wrap (v1856 + (1 : Int)))
          next v1848 v1849 v1850 v1851 v1852 x1867 v1854 v1855 x1870 x1869 v1858
         | none => none
        else
         none
      | none => none
     else
      none
   | none => none
 else
  k0 v1848 v1849 v1850 v1851 v1852 v1853 v1857 v1858
noncomputable def impl_natDiv_L10.b {α : Type} := fun N n v1848 v1849 v1850 v1851 v1852 v1853 v1854 v1855 v1856 v1857 v1858 k0 => loopN (fun next => @impl_natDiv_L10r α N next k0) (fun _ _ _ _ _ _ _ _ _ _ _ => none) n v1848 v1849 v1850 v1851 v1852 v1853 v1854 v1855 v1856 v1857 v1858
noncomputable def impl_natDiv_L10 {α : Type} := lockF (@impl_natDiv_L10.b α)
theorem impl_natDiv_L10.eq : @impl_natDiv_L10 = @impl_natDiv_L10.b := funext fun α => lockF_eq _
theorem impl_natDiv_L10.zero {α : Type} (N v1848 v1849 v1850 v1851 v1852 v1853 v1854 v1855 v1856 v1857 v1858 k0) : @impl_natDiv_L10 α N 0 v1848 v1849 v1850 v1851 v1852 v1853 v1854 v1855 v1856 v1857 v1858 k0 = none := by rw [impl_natDiv_L10.eq]; rfl
theorem impl_natDiv_L10.succ {α : Type} (N n v1848 v1849 v1850 v1851 v1852 v1853 v1854 v1855 v1856 v1857 v1858 k0) : @impl_natDiv_L10 α N (n + 1) v1848 v1849 v1850 v1851 v1852 v1853 v1854 v1855 v1856 v1857 v1858 k0 = impl_natDiv_L10r N (fun y0 y1 y2 y3 y4 y5 y6 y7 y8 y9 y10 => impl_natDiv_L10 N n y0 y1 y2 y3 y4 y5 y6 y7 y8 y9 y10 k0) k0 v1848 v1849 v1850 v1851 v1852 v1853 v1854 v1855 v1856 v1857 v1858 := by rw [impl_natDiv_L10.eq]; rfl
noncomputable def impl_natDiv_J40.b {α : Type} (N : Nat) (v1836 : Int) (v1837 : List Int) (v1838 : Int) (v1839 : Int) (v1840 : Int) (v1841 : List Int) (v1842 : List Int) (k0 : Int → List Int → Int → Int → Int → List Int → List Int → Option α) : Option α :=
 let x1843 := IntKind.i64.wrap (v1839 + v1838)
 bif (decide (x1843 < (0 : Int))) then
  none
 else
  bif decide (x1843.toNat < v1841.length) then
   match v1841[x1843.toNat]? with
   | some x1844 =>
    let x1845 := (decide (x1844 < (0 : Int)))
    bif x1845 then
     let x1846 := (IntKind.i64.wrap (v1840 - (1 : Int)))
     let x1847 := ((v1837.length : Nat) : Int)
     impl_natDiv_L10 N N v1836 v1837 v1838 v1839 x1846 (0 : Int) v1837 x1847 (0 : Int) v1841 v1842
      (fun x1871 x1872 x1873 x1874 x1875 x1876 x1877 x1878 =>
       let x1879 := IntKind.i64.wrap (x1874 + x1873)
       bif (decide (x1879 < (0 : Int))) then
        none
       else
        bif decide (x1879.toNat < x1877.length) then
         match x1877[x1879.toNat]? with
         | some x1880 =>
          let x1881 := IntKind.i64.wrap (x1880 + x1876)
          bif (decide (x1879 < (0 : Int))) then
           none
          else
           bif decide (x1879.toNat < x1877.length) then
            match x1877[x1879.toNat]? with
            | some x1882 =>
             let x1883 := x1877.set x1879.toNat x1881
             k0 x1871 x1872 x1873 x1874 x1875 x1883 x1878
            | none => none
           else
            none
         | none => none
        else
         none)
    else
     k0 v1836 v1837 v1838 v1839 v1840 v1841 v1842
   | none => none
  else
   none
noncomputable def impl_natDiv_J40 {α : Type} := lockF (@impl_natDiv_J40.b α)
theorem impl_natDiv_J40.eq : @impl_natDiv_J40 = @impl_natDiv_J40.b := funext fun α => lockF_eq _
noncomputable def impl_natDiv_L4r {α : Type} (N : Nat) (next : Int → List Int → Int → Int → List Int → List Int → Option α) (k0 : Int → List Int → List Int → Option α) (v1712 : Int) (v1713 : List Int) (v1714 : Int) (v1715 : Int) (v1716 : List Int) (v1717 : List Int) : Option α :=
 let x1718 := (decide ((0 : Int) ≤ v1715))
 bif x1718 then
  let x1719 := IntKind.i64.wrap (v1715 + v1714)
  bif (decide (x1719 < (0 : Int))) then
   none
  else
   bif decide (x1719.toNat < v1716.length) then
    match v1716[x1719.toNat]? with
    | some x1720 =>
     let x1721 := (shlI .i64 x1720 (16 : Int))
     let x1722 := IntKind.i64.wrap (v1715 + v1714)
     let x1723 := (IntKind.i64.wrap (x1722 - (1 : Int)))
     bif (decide (x1723 < (0 : Int))) then
      none
     else
      bif decide (x1723.toNat < v1716.length) then
       match v1716[x1723.toNat]? with
       | some x1724 =>
        let x1725 := bitI .or .i64 x1721 x1724
        let x1726 := (IntKind.i64.wrap (v1714 - (1 : Int)))
        bif (decide (x1726 < (0 : Int))) then
         none
        else
         match v1713[x1726.toNat]? with
         | some x1727 =>
          bif (decide (x1727 = (0 : Int))) then
           none
          else
           let x1728 := IntKind.i64.wrap (Int.tdiv x1725 x1727)
           let x1729 := (IntKind.i64.wrap (v1714 - (1 : Int)))
           bif (decide (x1729 < (0 : Int))) then
            none
           else
            match v1713[x1729.toNat]? with
            | some x1730 =>
             bif (decide (x1730 = (0 : Int))) then
              none
             else
              let x1731 := Int.tmod x1725 x1730
              impl_natDiv_L6 N N v1712 v1713 v1714 v1715 x1728 x1731 v1716 v1717
               (fun x1760 x1761 x1762 x1763 x1764 x1765 x1766 =>
                let x1767 := ((x1761.length : Nat) : Int)
                impl_natDiv_L8 N N x1760 x1761 x1762 x1763 x1764 (0 : Int) x1761 x1767 (0 : Int) x1765 x1766
                 (fun x1823 x1824 x1825 x1826 x1827 x1828 x1829 x1830 =>
                  let x1831 := IntKind.i64.wrap (x1826 + x1825)
                  bif (decide (x1831 < (0 : Int))) then
                   none
                  else
                   bif decide (x1831.toNat < x1829.length) then
                    match x1829[x1831.toNat]? with
                    | some x1832 =>
                     let x1833 := IntKind.i64.wrap (x1832 - x1828)
                     bif (decide (x1831 < (0 : Int))) then
                      none
                     else
                      bif decide (x1831.toNat < x1829.length) then
                       match x1829[x1831.toNat]? with
                       | some x1834 =>
                        let x1835 := x1829.set x1831.toNat x1833
                        impl_natDiv_J40 N x1823 x1824 x1825 x1826 x1827 x1835 x1830
                         (fun x1884 x1885 x1886 x1887 x1888 x1889 x1890 =>
                          bif (decide (x1887 < (0 : Int))) then
                           none
                          else
                           bif decide (x1887.toNat < x1890.length) then
                            match x1890[x1887.toNat]? with
                            | some x1891 =>
                             let x1892 := x1890.set x1887.toNat x1888
                             let x1893 := (IntKind.i64.wrap (x1887 - (1 : Int)))
                             next x1884 x1885 x1886 x1893 x1889 x1892
                            | none => none
                           else
                            none)
                       | none => none
                      else
                       none
                    | none => none
                   else
                    none))
            | none => none
         | none => none
       | none => none
      else
       none
    | none => none
   else
    none
 else
  k0 v1712 v1716 v1717
noncomputable def impl_natDiv_L4.b {α : Type} := fun N n v1712 v1713 v1714 v1715 v1716 v1717 k0 => loopN (fun next => @impl_natDiv_L4r α N next k0) (fun _ _ _ _ _ _ => none) n v1712 v1713 v1714 v1715 v1716 v1717
noncomputable def impl_natDiv_L4 {α : Type} := lockF (@impl_natDiv_L4.b α)
theorem impl_natDiv_L4.eq : @impl_natDiv_L4 = @impl_natDiv_L4.b := funext fun α => lockF_eq _
theorem impl_natDiv_L4.zero {α : Type} (N v1712 v1713 v1714 v1715 v1716 v1717 k0) : @impl_natDiv_L4 α N 0 v1712 v1713 v1714 v1715 v1716 v1717 k0 = none := by rw [impl_natDiv_L4.eq]; rfl
theorem impl_natDiv_L4.succ {α : Type} (N n v1712 v1713 v1714 v1715 v1716 v1717 k0) : @impl_natDiv_L4 α N (n + 1) v1712 v1713 v1714 v1715 v1716 v1717 k0 = impl_natDiv_L4r N (fun y0 y1 y2 y3 y4 y5 => impl_natDiv_L4 N n y0 y1 y2 y3 y4 y5 k0) k0 v1712 v1713 v1714 v1715 v1716 v1717 := by rw [impl_natDiv_L4.eq]; rfl
/-- impl.natDiv -/
noncomputable def impl_natDiv.b {α : Type} (N : Nat) (a1457 : List Int) (a1458 : List Int) (k0 : List Int → List Int → Option α) : Option α :=
 impl_natCmp N a1457 a1458
  (fun x1485 =>
   let x1486 := (decide (x1485 < (0 : Int)))
   bif x1486 then
    k0 [] a1457
   else
    let x1487 := ((a1458.length : Nat) : Int)
    let x1488 := (decide (x1487 = (1 : Int)))
    bif x1488 then
     let x1489 := ((a1457.length : Nat) : Int)
     bif (decide ((0 : Int) ≤ x1489)) then
      bif decide (x1489 ≤ x1489) then
       bif (decide (x1489 ≤ ((8796093022208 : Nat) : Int))) then
        let x1490 := (List.replicate x1489.toNat (0 : Int))
        let x1491 := ((a1457.length : Nat) : Int)
        let x1492 := (IntKind.i64.wrap (x1491 - (1 : Int)))
        impl_natDiv_L0 N N a1457 a1458 (0 : Int) x1492 x1490
         (fun x1509 x1510 =>
          impl_trim N x1510
           (fun x1511 =>
            let x1512 := [x1509]
            impl_trim N x1512
             (fun x1513 =>
              k0 x1511 x1513)))
       else
        none
      else
       none
     else
      none
    else
     let x1514 := ((a1458.length : Nat) : Int)
     let x1515 := (IntKind.i64.wrap (x1514 - (1 : Int)))
     bif (decide (x1515 < (0 : Int))) then
      none
     else
      match a1458[x1515.toNat]? with
      | some x1516 =>
       let x1517 := IntKind.u64.wrap x1516
       math_bits_Len N x1517
        (fun x1546 =>
         let x1547 := (IntKind.i64.wrap ((16 : Int) - x1546))
         impl_natShift N a1458 x1547
          (fun x1685 =>
           impl_natShift N a1457 x1547
            (fun x1686 =>
             slices_Clone_int_int N x1686
              (fun x1687 =>
               let x1688 := [(0 : Int)]
               bif decide (x1687.length + x1688.length ≤ 8796093022208) then
                let x1689 := x1687 ++ x1688
                let x1690 := ((x1685.length : Nat) : Int)
                impl_natDiv_L2 N N a1457 x1547 x1685 x1690 x1689
                 (fun x1702 x1703 x1704 x1705 =>
                  let x1706 := ((x1705.length : Nat) : Int)
                  let x1707 := IntKind.i64.wrap (x1706 - x1704)
                  bif (decide ((0 : Int) ≤ x1707)) then
                   bif decide (x1707 ≤ x1707) then
                    bif (decide (x1707 ≤ ((8796093022208 : Nat) : Int))) then
                     let x1708 := (List.replicate x1707.toNat (0 : Int))
                     let x1709 := ((x1705.length : Nat) : Int)
                     let x1710 := IntKind.i64.wrap (x1709 - x1704)
                     let x1711 := (IntKind.i64.wrap (x1710 - (1 : Int)))
                     impl_natDiv_L4 N N x1702 x1703 x1704 x1711 x1705 x1708
                      (fun x1894 x1895 x1896 =>
                       impl_trim N x1896
                        (fun x1897 =>
                         impl_trim N x1895
                          (fun x1898 =>
                           let x1899 := IntKind.i64.wrap (0 - x1894)
                           impl_natShift N x1898 x1899
                            (fun x1900 =>
                             k0 x1897 x1900))))
                    else
                     none
                   else
                    none
                  else
                   none)
               else
                none))))
      | none => none)
noncomputable def impl_natDiv {α : Type} := lockF (@impl_natDiv.b α)
theorem impl_natDiv.eq : @impl_natDiv = @impl_natDiv.b := funext fun α => lockF_eq _

noncomputable def impl_natGcd_L0r {α : Type} (N : Nat) (next : List Int → List Int → Option α) (k0 : List Int → Option α) (v1396 : List Int) (v1397 : List Int) : Option α :=
 let x1398 := ((v1397.length : Nat) : Int)
 let x1399 := (decide ((0 : Int) < x1398))
 bif x1399 then
  impl_natDiv N v1396 v1397
   (fun _ x1902 =>
    next v1397 x1902)
 else
  k0 v1396
noncomputable def impl_natGcd_L0.b {α : Type} := fun N n v1396 v1397 k0 => loopN (fun next => @impl_natGcd_L0r α N next k0) (fun _ _ => none) n v1396 v1397
noncomputable def impl_natGcd_L0 {α : Type} := lockF (@impl_natGcd_L0.b α)
theorem impl_natGcd_L0.eq : @impl_natGcd_L0 = @impl_natGcd_L0.b := funext fun α => lockF_eq _
theorem impl_natGcd_L0.zero {α : Type} (N v1396 v1397 k0) : @impl_natGcd_L0 α N 0 v1396 v1397 k0 = none := by rw [impl_natGcd_L0.eq]; rfl
theorem impl_natGcd_L0.succ {α : Type} (N n v1396 v1397 k0) : @impl_natGcd_L0 α N (n + 1) v1396 v1397 k0 = impl_natGcd_L0r N (fun y0 y1 => impl_natGcd_L0 N n y0 y1 k0) k0 v1396 v1397 := by rw [impl_natGcd_L0.eq]; rfl
/-- impl.natGcd -/
noncomputable def impl_natGcd.b {α : Type} (N : Nat) (a1394 : List Int) (a1395 : List Int) (k0 : List Int → Option α) : Option α :=
 impl_natGcd_L0 N N a1394 a1395
  (fun x1903 =>
   k0 x1903)
noncomputable def impl_natGcd {α : Type} := lockF (@impl_natGcd.b α)
theorem impl_natGcd.eq : @impl_natGcd = @impl_natGcd.b := funext fun α => lockF_eq _

noncomputable def impl_lowest_J2.b {α : Type} (N : Nat) (v1905 : Bool) (v1906 : List Int) (v1907 : List Int) (v1908 : List Int) (v1909 : Bool) (v1910 : List Int) (v1911 : List Int) (k0 : Bool → List Int → List Int → Bool → List Int → List Int → Option α) : Option α :=
 let x1912 := [(1 : Int)]
 impl_natCmp N v1908 x1912
  (fun x1913 =>
   let x1914 := (!(decide (x1913 = (0 : Int))))
   bif x1914 then
    impl_natDiv N v1906 v1908
     (fun x1915 _ =>
      impl_natDiv N v1907 v1908
       (fun x1917 _ =>
        k0 v1905 x1915 x1917 v1909 v1910 v1911))
   else
    k0 v1905 v1906 v1907 v1909 v1910 v1911)
noncomputable def impl_lowest_J2 {α : Type} := lockF (@impl_lowest_J2.b α)
theorem impl_lowest_J2.eq : @impl_lowest_J2 = @impl_lowest_J2.b := funext fun α => lockF_eq _
/-- impl.lowest -/
noncomputable def impl_lowest.b {α : Type} (N : Nat) (a1391 : Bool) (a1392 : List Int) (a1393 : List Int) (k0 : (Bool × (List Int) × (List Int) × Unit) → Option α) : Option α :=
 impl_natGcd N a1392 a1393
  (fun x1904 =>
   impl_lowest_J2 N a1391 a1392 a1393 x1904 false [] []
    (fun x1919 x1920 x1921 _ _ _ =>
     bif x1919 then
      let x1925 := ((x1920.length : Nat) : Int)
      let x1926 := (decide ((0 : Int) < x1925))
      k0 (x1926, (x1920, (x1921, ())))
     else
      k0 (false, (x1920, (x1921, ())))))
noncomputable def impl_lowest {α : Type} := lockF (@impl_lowest.b α)
theorem impl_lowest.eq : @impl_lowest = @impl_lowest.b := funext fun α => lockF_eq _

/-- impl.DecFrac -/
noncomputable def impl_DecFrac.b {α : Type} (N : Nat) (a946 : ByteArray) (k0 : Bool → Bool → List Int → List Int → Option α) : Option α :=
 impl_DecOk N a946
  (fun x1057 =>
   let x1058 := !x1057
   bif x1058 then
    k0 false false [] []
   else
    impl_literal N a946
     (fun x1059 x1060 x1061 _ =>
      bif decide (x1059.size + x1060.size ≤ 9223372036854775807) then
       let x1063 := x1059 ++ x1060
       impl_natRead N x1063
        (fun x1337 =>
         let x1338 := ((x1060.size : Nat) : Int)
         let x1339 := IntKind.i64.wrap (x1061 - x1338)
         let x1340 := (decide ((0 : Int) ≤ x1339))
         bif x1340 then
          impl_ten N x1339
           (fun x1360 =>
            impl_natMul N x1337 x1360
             (fun x1361 =>
              impl_whole N false x1361
               (fun x1368 x1369 x1370 =>
                impl_given N (x1368, (x1369, (x1370, ())))
                 (fun x1385 x1386 x1387 x1388 =>
                  k0 x1385 x1386 x1387 x1388))))
         else
          let x1389 := IntKind.i64.wrap (0 - x1339)
          impl_ten N x1389
           (fun x1390 =>
            impl_lowest N false x1337 x1390
             (fun x1927 =>
              impl_given N x1927
               (fun x1928 x1929 x1930 x1931 =>
                k0 x1928 x1929 x1930 x1931))))
      else
       none))
noncomputable def impl_DecFrac {α : Type} := lockF (@impl_DecFrac.b α)
theorem impl_DecFrac.eq : @impl_DecFrac = @impl_DecFrac.b := funext fun α => lockF_eq _

/-- impl.formatOf -/
noncomputable def impl_formatOf.b {α : Type} (N : Nat) (a1941 : Int) (k0 : (Int × Int × Int × Int × Unit) → Bool → Option α) : Option α :=
 let x1942 := (decide (a1941 = (32 : Int)))
 bif x1942 then
  k0 ((23 : Int), ((-149 : Int), ((127 : Int), ((2139095040 : Int), ())))) true
 else
  let x1943 := (decide (a1941 = (64 : Int)))
  bif x1943 then
   k0 ((52 : Int), ((-1074 : Int), ((1023 : Int), ((9218868437227405312 : Int), ())))) true
  else
   k0 ((0 : Int), ((0 : Int), ((0 : Int), ((0 : Int), ())))) false
noncomputable def impl_formatOf {α : Type} := lockF (@impl_formatOf.b α)
theorem impl_formatOf.eq : @impl_formatOf = @impl_formatOf.b := funext fun α => lockF_eq _

/-- impl.in -/
noncomputable def impl_in.b {α : Type} (N : Nat) (a1972 : Int) (a1973 : Int) (a1974 : Int) (k0 : Bool → Option α) : Option α :=
 let x1975 := decide (a1973 ≤ a1972)
 bif x1975 then
  let x1976 := decide (a1972 ≤ a1974)
  k0 x1976
 else
  k0 false
noncomputable def impl_in {α : Type} := lockF (@impl_in.b α)
theorem impl_in.eq : @impl_in = @impl_in.b := funext fun α => lockF_eq _

/-- impl.NatOk$1 -/
noncomputable def impl_NatOk_1.b {α : Type} (N : Nat) (a1971 : Int) (k0 : Bool → Option α) : Option α :=
 impl_in N a1971 (0 : Int) (65535 : Int)
  (fun x1977 =>
   let x1978 := !x1977
   k0 x1978)
noncomputable def impl_NatOk_1 {α : Type} := lockF (@impl_NatOk_1.b α)
theorem impl_NatOk_1.eq : @impl_NatOk_1 = @impl_NatOk_1.b := funext fun α => lockF_eq _

noncomputable def slices_IndexFunc_int_int__impl_NatOk_1_L0r {α : Type} (N : Nat) (next : List Int → Int → Int → Option α) (k0 : Int → Option α) (k1 : Option α) (v1966 : List Int) (v1967 : Int) (v1968 : Int) : Option α :=
 let x1969 := decide (v1968 < v1967)
 bif x1969 then
  bif (decide (v1968 < (0 : Int))) then
   none
  else
   match v1966[v1968.toNat]? with
   | some x1970 =>
    impl_NatOk_1 N x1970
     (fun x1979 =>
      bif x1979 then
       k0 v1968
      else
       let x1980 := (IntKind.i64.wrap (v1968 + (1 : Int)))
       next v1966 v1967 x1980)
   | none => none
 else
  k1
noncomputable def slices_IndexFunc_int_int__impl_NatOk_1_L0.b {α : Type} := fun N n v1966 v1967 v1968 k0 k1 => loopN (fun next => @slices_IndexFunc_int_int__impl_NatOk_1_L0r α N next k0 k1) (fun _ _ _ => none) n v1966 v1967 v1968
noncomputable def slices_IndexFunc_int_int__impl_NatOk_1_L0 {α : Type} := lockF (@slices_IndexFunc_int_int__impl_NatOk_1_L0.b α)
theorem slices_IndexFunc_int_int__impl_NatOk_1_L0.eq : @slices_IndexFunc_int_int__impl_NatOk_1_L0 = @slices_IndexFunc_int_int__impl_NatOk_1_L0.b := funext fun α => lockF_eq _
theorem slices_IndexFunc_int_int__impl_NatOk_1_L0.zero {α : Type} (N v1966 v1967 v1968 k0 k1) : @slices_IndexFunc_int_int__impl_NatOk_1_L0 α N 0 v1966 v1967 v1968 k0 k1 = none := by rw [slices_IndexFunc_int_int__impl_NatOk_1_L0.eq]; rfl
theorem slices_IndexFunc_int_int__impl_NatOk_1_L0.succ {α : Type} (N n v1966 v1967 v1968 k0 k1) : @slices_IndexFunc_int_int__impl_NatOk_1_L0 α N (n + 1) v1966 v1967 v1968 k0 k1 = slices_IndexFunc_int_int__impl_NatOk_1_L0r N (fun y0 y1 y2 => slices_IndexFunc_int_int__impl_NatOk_1_L0 N n y0 y1 y2 k0 k1) k0 k1 v1966 v1967 v1968 := by rw [slices_IndexFunc_int_int__impl_NatOk_1_L0.eq]; rfl
/-- slices.IndexFunc[[]int,int] -/
noncomputable def slices_IndexFunc_int_int__impl_NatOk_1.b {α : Type} (N : Nat) (a1964 : List Int) (k0 : Int → Option α) : Option α :=
 let x1965 := ((a1964.length : Nat) : Int)
 slices_IndexFunc_int_int__impl_NatOk_1_L0 N N a1964 x1965 (0 : Int)
  (fun x1981 =>
   k0 x1981)
  (
   k0 (-1 : Int))
noncomputable def slices_IndexFunc_int_int__impl_NatOk_1 {α : Type} := lockF (@slices_IndexFunc_int_int__impl_NatOk_1.b α)
theorem slices_IndexFunc_int_int__impl_NatOk_1.eq : @slices_IndexFunc_int_int__impl_NatOk_1 = @slices_IndexFunc_int_int__impl_NatOk_1.b := funext fun α => lockF_eq _

/-- slices.ContainsFunc[[]int,int] -/
noncomputable def slices_ContainsFunc_int_int__impl_NatOk_1.b {α : Type} (N : Nat) (a1963 : List Int) (k0 : Bool → Option α) : Option α :=
 slices_IndexFunc_int_int__impl_NatOk_1 N a1963
  (fun x1982 =>
   let x1983 := (decide ((0 : Int) ≤ x1982))
   k0 x1983)
noncomputable def slices_ContainsFunc_int_int__impl_NatOk_1 {α : Type} := lockF (@slices_ContainsFunc_int_int__impl_NatOk_1.b α)
theorem slices_ContainsFunc_int_int__impl_NatOk_1.eq : @slices_ContainsFunc_int_int__impl_NatOk_1 = @slices_ContainsFunc_int_int__impl_NatOk_1.b := funext fun α => lockF_eq _

/-- impl.NatOk -/
noncomputable def impl_NatOk.b {α : Type} (N : Nat) (a1958 : List Int) (k0 : Bool → Option α) : Option α :=
 let x1959 := ((a1958.length : Nat) : Int)
 let x1960 := (decide (x1959 ≤ (256 : Int)))
 bif x1960 then
  let x1961 := ((a1958.length : Nat) : Int)
  let x1962 := (decide (x1961 = (0 : Int)))
  bif x1962 then
   slices_ContainsFunc_int_int__impl_NatOk_1 N a1958
    (fun x1984 =>
     let x1985 := !x1984
     k0 x1985)
  else
   let x1986 := ((a1958.length : Nat) : Int)
   let x1987 := (IntKind.i64.wrap (x1986 - (1 : Int)))
   bif (decide (x1987 < (0 : Int))) then
    none
   else
    match a1958[x1987.toNat]? with
    | some x1988 =>
     let x1989 := (!(decide (x1988 = (0 : Int))))
     bif x1989 then
      slices_ContainsFunc_int_int__impl_NatOk_1 N a1958
       (fun x1990 =>
        let x1991 := !x1990
        k0 x1991)
     else
      k0 false
    | none => none
 else
  k0 false
noncomputable def impl_NatOk {α : Type} := lockF (@impl_NatOk.b α)
theorem impl_NatOk.eq : @impl_NatOk = @impl_NatOk.b := funext fun α => lockF_eq _

/-- impl.nats$1 -/
noncomputable def impl_nats_1.b {α : Type} (N : Nat) (a1957 : List Int) (k0 : Bool → Option α) : Option α :=
 impl_NatOk N a1957
  (fun x1992 =>
   let x1993 := !x1992
   k0 x1993)
noncomputable def impl_nats_1 {α : Type} := lockF (@impl_nats_1.b α)
theorem impl_nats_1.eq : @impl_nats_1 = @impl_nats_1.b := funext fun α => lockF_eq _

noncomputable def slices_IndexFunc_int_int__impl_nats_1_L0r {α : Type} (N : Nat) (next : List (List Int) → Int → Int → Option α) (k0 : Int → Option α) (k1 : Option α) (v1952 : List (List Int)) (v1953 : Int) (v1954 : Int) : Option α :=
 let x1955 := decide (v1954 < v1953)
 bif x1955 then
  bif (decide (v1954 < (0 : Int))) then
   none
  else
   match v1952[v1954.toNat]? with
   | some x1956 =>
    impl_nats_1 N x1956
     (fun x1994 =>
      bif x1994 then
       k0 v1954
      else
       let x1995 := (IntKind.i64.wrap (v1954 + (1 : Int)))
       next v1952 v1953 x1995)
   | none => none
 else
  k1
noncomputable def slices_IndexFunc_int_int__impl_nats_1_L0.b {α : Type} := fun N n v1952 v1953 v1954 k0 k1 => loopN (fun next => @slices_IndexFunc_int_int__impl_nats_1_L0r α N next k0 k1) (fun _ _ _ => none) n v1952 v1953 v1954
noncomputable def slices_IndexFunc_int_int__impl_nats_1_L0 {α : Type} := lockF (@slices_IndexFunc_int_int__impl_nats_1_L0.b α)
theorem slices_IndexFunc_int_int__impl_nats_1_L0.eq : @slices_IndexFunc_int_int__impl_nats_1_L0 = @slices_IndexFunc_int_int__impl_nats_1_L0.b := funext fun α => lockF_eq _
theorem slices_IndexFunc_int_int__impl_nats_1_L0.zero {α : Type} (N v1952 v1953 v1954 k0 k1) : @slices_IndexFunc_int_int__impl_nats_1_L0 α N 0 v1952 v1953 v1954 k0 k1 = none := by rw [slices_IndexFunc_int_int__impl_nats_1_L0.eq]; rfl
theorem slices_IndexFunc_int_int__impl_nats_1_L0.succ {α : Type} (N n v1952 v1953 v1954 k0 k1) : @slices_IndexFunc_int_int__impl_nats_1_L0 α N (n + 1) v1952 v1953 v1954 k0 k1 = slices_IndexFunc_int_int__impl_nats_1_L0r N (fun y0 y1 y2 => slices_IndexFunc_int_int__impl_nats_1_L0 N n y0 y1 y2 k0 k1) k0 k1 v1952 v1953 v1954 := by rw [slices_IndexFunc_int_int__impl_nats_1_L0.eq]; rfl
/-- slices.IndexFunc[[][]int,[]int] -/
noncomputable def slices_IndexFunc_int_int__impl_nats_1.b {α : Type} (N : Nat) (a1950 : List (List Int)) (k0 : Int → Option α) : Option α :=
 let x1951 := ((a1950.length : Nat) : Int)
 slices_IndexFunc_int_int__impl_nats_1_L0 N N a1950 x1951 (0 : Int)
  (fun x1996 =>
   k0 x1996)
  (
   k0 (-1 : Int))
noncomputable def slices_IndexFunc_int_int__impl_nats_1 {α : Type} := lockF (@slices_IndexFunc_int_int__impl_nats_1.b α)
theorem slices_IndexFunc_int_int__impl_nats_1.eq : @slices_IndexFunc_int_int__impl_nats_1 = @slices_IndexFunc_int_int__impl_nats_1.b := funext fun α => lockF_eq _

/-- slices.ContainsFunc[[][]int,[]int] -/
noncomputable def slices_ContainsFunc_int_int__impl_nats_1.b {α : Type} (N : Nat) (a1949 : List (List Int)) (k0 : Bool → Option α) : Option α :=
 slices_IndexFunc_int_int__impl_nats_1 N a1949
  (fun x1997 =>
   let x1998 := (decide ((0 : Int) ≤ x1997))
   k0 x1998)
noncomputable def slices_ContainsFunc_int_int__impl_nats_1 {α : Type} := lockF (@slices_ContainsFunc_int_int__impl_nats_1.b α)
theorem slices_ContainsFunc_int_int__impl_nats_1.eq : @slices_ContainsFunc_int_int__impl_nats_1 = @slices_ContainsFunc_int_int__impl_nats_1.b := funext fun α => lockF_eq _

/-- impl.nats -/
noncomputable def impl_nats.b {α : Type} (N : Nat) (a1948 : List (List Int)) (k0 : Bool → Option α) : Option α :=
 slices_ContainsFunc_int_int__impl_nats_1 N a1948
  (fun x1999 =>
   let x2000 := !x1999
   k0 x2000)
noncomputable def impl_nats {α : Type} := lockF (@impl_nats.b α)
theorem impl_nats.eq : @impl_nats = @impl_nats.b := funext fun α => lockF_eq _

/-- impl.FracOk -/
noncomputable def impl_FracOk.b {α : Type} (N : Nat) (a1946 : Bool × (List Int) × (List Int) × Unit) (k0 : Bool → Option α) : Option α :=
 let x1947 := [a1946.2.1, a1946.2.2.1]
 impl_nats N x1947
  (fun x2001 =>
   bif x2001 then
    let x2002 := ((a1946.2.2.1.length : Nat) : Int)
    let x2003 := (decide ((0 : Int) < x2002))
    bif x2003 then
     let x2004 := ((a1946.2.1.length : Nat) : Int)
     let x2005 := (decide ((0 : Int) < x2004))
     bif x2005 then
      impl_natGcd N a1946.2.1 a1946.2.2.1
       (fun x2006 =>
        let x2007 := [(1 : Int)]
        impl_natCmp N x2006 x2007
         (fun x2008 =>
          let x2009 := (decide (x2008 = (0 : Int)))
          k0 x2009))
     else
      let x2010 := !a1946.1
      bif x2010 then
       impl_natGcd N a1946.2.1 a1946.2.2.1
        (fun x2011 =>
         let x2012 := [(1 : Int)]
         impl_natCmp N x2011 x2012
          (fun x2013 =>
           let x2014 := (decide (x2013 = (0 : Int)))
           k0 x2014))
      else
       k0 false
    else
     k0 false
   else
    k0 false)
noncomputable def impl_FracOk {α : Type} := lockF (@impl_FracOk.b α)
theorem impl_FracOk.eq : @impl_FracOk = @impl_FracOk.b := funext fun α => lockF_eq _

/-- impl.floated -/
noncomputable def impl_floated.b {α : Type} (N : Nat) (a1939 : Int) (a1940 : Bool × (List Int) × (List Int) × Unit) (k0 : Bool → Option α) : Option α :=
 impl_formatOf N a1939
  (fun _ x1945 =>
   bif x1945 then
    impl_FracOk N a1940
     (fun x2015 =>
      k0 x2015)
   else
    k0 false)
noncomputable def impl_floated {α : Type} := lockF (@impl_floated.b α)
theorem impl_floated.eq : @impl_floated = @impl_floated.b := funext fun α => lockF_eq _

/-- impl.natBits -/
noncomputable def impl_natBits.b {α : Type} (N : Nat) (a2027 : List Int) (k0 : Int → Option α) : Option α :=
 let x2028 := ((a2027.length : Nat) : Int)
 let x2029 := (decide (x2028 = (0 : Int)))
 bif x2029 then
  k0 (0 : Int)
 else
  let x2030 := ((a2027.length : Nat) : Int)
  let x2031 := (IntKind.i64.wrap (x2030 - (1 : Int)))
  let x2032 := (IntKind.i64.wrap ((16 : Int) * x2031))
  let x2033 := ((a2027.length : Nat) : Int)
  let x2034 := (IntKind.i64.wrap (x2033 - (1 : Int)))
  bif (decide (x2034 < (0 : Int))) then
   none
  else
   match a2027[x2034.toNat]? with
   | some x2035 =>
    let x2036 := IntKind.u64.wrap x2035
    math_bits_Len N x2036
     (fun x2037 =>
      let x2038 := IntKind.i64.wrap (x2032 + x2037)
      k0 x2038)
   | none => none
noncomputable def impl_natBits {α : Type} := lockF (@impl_natBits.b α)
theorem impl_natBits.eq : @impl_natBits = @impl_natBits.b := funext fun α => lockF_eq _

-- prim math_bits_TrailingZeros64
noncomputable def impl_BitMake_J14.b {α : Type} (N : Nat) (v2124 : Int) (v2125 : Int) (v2126 : Int) (v2127 : Int) (v2128 : Bool × Int × Int × Unit) (v2129 : Int × Int × Int × Int × Unit) (k0 : Int → (Bool × Int × Int × Unit) → Option α) : Option α :=
 let x2130 := (decide ((1 : Int) ≤ v2127))
 bif x2130 then
  bif (decide (v2129.1 < (0 : Int))) then
   none
  else
   let x2131 := shlI .i64 v2127 v2129.1
   let x2132 := (IntKind.i64.wrap (v2129.1 + (1 : Int)))
   let x2133 := IntKind.i64.wrap (x2132 - v2126)
   bif (decide (x2133 < (0 : Int))) then
    none
   else
    let x2134 := shlI .u64 v2124 x2133
    let x2135 := IntKind.i64.wrap x2134
    bif (decide (v2129.1 < (0 : Int))) then
     none
    else
     let x2136 := (shlI .i64 (1 : Int) v2129.1)
     let x2137 := (IntKind.i64.wrap (x2136 - (1 : Int)))
     let x2138 := bitI .and .i64 x2135 x2137
     let x2139 := bitI .or .i64 x2131 x2138
     k0 x2139 v2128
 else
  let x2140 := IntKind.i64.wrap (v2125 - v2129.2.1)
  bif (decide (x2140 < (0 : Int))) then
   none
  else
   let x2141 := shlI .u64 v2124 x2140
   let x2142 := IntKind.i64.wrap x2141
   k0 x2142 v2128
noncomputable def impl_BitMake_J14 {α : Type} := lockF (@impl_BitMake_J14.b α)
theorem impl_BitMake_J14.eq : @impl_BitMake_J14 = @impl_BitMake_J14.b := funext fun α => lockF_eq _
noncomputable def impl_BitMake_J17.b {α : Type} (N : Nat) (v2145 : Int) (v2146 : Bool × Int × Int × Unit) (k0 : Int → Option α) : Option α :=
 bif v2146.1 then
  let x2147 := IntKind.i64.wrap (0 - v2145)
  k0 x2147
 else
  k0 v2145
noncomputable def impl_BitMake_J17 {α : Type} := lockF (@impl_BitMake_J17.b α)
theorem impl_BitMake_J17.eq : @impl_BitMake_J17 = @impl_BitMake_J17.b := funext fun α => lockF_eq _
/-- impl.BitMake -/
noncomputable def impl_BitMake.b {α : Type} (N : Nat) (a2105 : Int) (a2106 : Bool × Int × Int × Unit) (k0 : Int → Bool → Option α) : Option α :=
 impl_formatOf N a2105
  (fun x2107 x2108 =>
   let x2109 := !x2108
   bif x2109 then
    k0 (0 : Int) false
   else
    impl_in N a2106.2.2.1 (-2000 : Int) (2000 : Int)
     (fun x2110 =>
      let x2111 := !x2110
      bif x2111 then
       k0 (0 : Int) false
      else
       let x2112 := (decide (a2106.2.1 = (0 : Int)))
       bif x2112 then
        k0 (0 : Int) true
       else
        math_bits_TrailingZeros64 N a2106.2.1
         (fun x2113 =>
          bif (decide (x2113 < (0 : Int))) then
           none
          else
           let x2114 := shrI .u64 a2106.2.1 x2113
           let x2115 := IntKind.i64.wrap (a2106.2.2.1 + x2113)
           math_bits_Len64 N x2114
            (fun x2116 =>
             let x2117 := IntKind.i64.wrap (x2115 + x2116)
             let x2118 := (IntKind.i64.wrap (x2117 - (1 : Int)))
             let x2119 := (IntKind.i64.wrap (x2107.1 + (1 : Int)))
             let x2120 := decide (x2119 < x2116)
             bif x2120 then
              k0 (0 : Int) false
             else
              let x2121 := decide (x2115 < x2107.2.1)
              bif x2121 then
               k0 (0 : Int) false
              else
               let x2122 := decide (x2107.2.2.1 < x2118)
               bif x2122 then
                k0 (0 : Int) false
               else
                let x2123 := IntKind.i64.wrap (x2118 + x2107.2.2.1)
                impl_BitMake_J14 N x2114 x2115 x2116 x2123 a2106 x2107
                 (fun x2143 x2144 =>
                  impl_BitMake_J17 N x2143 x2144
                   (fun x2148 =>
                    k0 x2148 true))))))
noncomputable def impl_BitMake {α : Type} := lockF (@impl_BitMake.b α)
theorem impl_BitMake.eq : @impl_BitMake = @impl_BitMake.b := funext fun α => lockF_eq _

noncomputable def impl_truncated_J7.b {α : Type} (N : Nat) (v2044 : Int) (v2045 : Int) (v2046 : Int) (v2047 : List Int) (v2048 : List Int) (v2049 : Int × Int × Int × Int × Unit) (k0 : Int → Int → Int → List Int → List Int → (Int × Int × Int × Int × Unit) → Option α) : Option α :=
 let x2050 := (decide (v2046 < (0 : Int)))
 bif x2050 then
  let x2051 := IntKind.i64.wrap (0 - v2046)
  impl_natShift N v2047 x2051
   (fun x2052 =>
    k0 v2044 v2045 v2046 x2052 v2048 v2049)
 else
  impl_natShift N v2048 v2046
   (fun x2053 =>
    k0 v2044 v2045 v2046 v2047 x2053 v2049)
noncomputable def impl_truncated_J7 {α : Type} := lockF (@impl_truncated_J7.b α)
theorem impl_truncated_J7.eq : @impl_truncated_J7 = @impl_truncated_J7.b := funext fun α => lockF_eq _
noncomputable def impl_truncated_J12.b {α : Type} (N : Nat) (v2064 : Int) (v2065 : Int) (v2066 : Int) (v2067 : List Int) (v2068 : Bool) (v2069 : Int × Int × Int × Int × Unit) (k0 : Int → Int → List Int → Bool → (Int × Int × Int × Int × Unit) → Option α) : Option α :=
 impl_natBits N v2067
  (fun x2070 =>
   let x2071 := decide (v2065 < x2070)
   bif x2071 then
    bif v2068 then
     match v2067[0]? with
     | some x2072 =>
      let x2073 := (bitI .and .i64 x2072 (1 : Int))
      let x2074 := (decide (x2073 = (0 : Int)))
      impl_natShift N v2067 (-1 : Int)
       (fun x2075 =>
        let x2076 := (IntKind.i64.wrap (v2066 + (1 : Int)))
        k0 v2064 x2076 x2075 x2074 v2069)
     | none => none
    else
     impl_natShift N v2067 (-1 : Int)
      (fun x2077 =>
       let x2078 := (IntKind.i64.wrap (v2066 + (1 : Int)))
       k0 v2064 x2078 x2077 false v2069)
   else
    k0 v2064 v2066 v2067 v2068 v2069)
noncomputable def impl_truncated_J12 {α : Type} := lockF (@impl_truncated_J12.b α)
theorem impl_truncated_J12.eq : @impl_truncated_J12 = @impl_truncated_J12.b := funext fun α => lockF_eq _
noncomputable def impl_truncated_L0r {α : Type} (N : Nat) (next : Int → Int → Bool → Int → List Int → Int → Int → (Int × Int × Int × Int × Unit) → Option α) (k0 : Int → Int → Bool → Int → (Int × Int × Int × Int × Unit) → Option α) (v2085 : Int) (v2086 : Int) (v2087 : Bool) (v2088 : Int) (v2089 : List Int) (v2090 : Int) (v2091 : Int) (v2092 : Int × Int × Int × Int × Unit) : Option α :=
 let x2093 := decide (v2091 < v2090)
 bif x2093 then
  bif (decide (v2091 < (0 : Int))) then
   none
  else
   match v2089[v2091.toNat]? with
   | some x2094 =>
    let x2095 := IntKind.u64.wrap x2094
    let x2096 := (IntKind.i64.wrap ((16 : Int) * v2091))
    bif (decide (x2096 < (0 : Int))) then
     none
    else
     let x2097 := shlI .u64 x2095 x2096
     let x2098 := bitI .or .u64 v2088 x2097
     let x2099 := (IntKind.i64.wrap (v2091 + (1 : Int)))
     next v2085 v2086 v2087 x2098 v2089 v2090 x2099 v2092
   | none => none
 else
  k0 v2085 v2086 v2087 v2088 v2092
noncomputable def impl_truncated_L0.b {α : Type} := fun N n v2085 v2086 v2087 v2088 v2089 v2090 v2091 v2092 k0 => loopN (fun next => @impl_truncated_L0r α N next k0) (fun _ _ _ _ _ _ _ _ => none) n v2085 v2086 v2087 v2088 v2089 v2090 v2091 v2092
noncomputable def impl_truncated_L0 {α : Type} := lockF (@impl_truncated_L0.b α)
theorem impl_truncated_L0.eq : @impl_truncated_L0 = @impl_truncated_L0.b := funext fun α => lockF_eq _
theorem impl_truncated_L0.zero {α : Type} (N v2085 v2086 v2087 v2088 v2089 v2090 v2091 v2092 k0) : @impl_truncated_L0 α N 0 v2085 v2086 v2087 v2088 v2089 v2090 v2091 v2092 k0 = none := by rw [impl_truncated_L0.eq]; rfl
theorem impl_truncated_L0.succ {α : Type} (N n v2085 v2086 v2087 v2088 v2089 v2090 v2091 v2092 k0) : @impl_truncated_L0 α N (n + 1) v2085 v2086 v2087 v2088 v2089 v2090 v2091 v2092 k0 = impl_truncated_L0r N (fun y0 y1 y2 y3 y4 y5 y6 y7 => impl_truncated_L0 N n y0 y1 y2 y3 y4 y5 y6 y7 k0) k0 v2085 v2086 v2087 v2088 v2089 v2090 v2091 v2092 := by rw [impl_truncated_L0.eq]; rfl
/-- impl.truncated -/
noncomputable def impl_truncated.b {α : Type} (N : Nat) (a2020 : Int) (a2021 : Bool × (List Int) × (List Int) × Unit) (k0 : Int → Bool → Option α) : Option α :=
 impl_formatOf N a2020
  (fun x2022 _ =>
   let x2024 := ((a2021.2.1.length : Nat) : Int)
   let x2025 := (decide (x2024 = (0 : Int)))
   bif x2025 then
    k0 (0 : Int) true
   else
    let x2026 := (IntKind.i64.wrap (x2022.1 + (1 : Int)))
    impl_natBits N a2021.2.1
     (fun x2039 =>
      impl_natBits N a2021.2.2.1
       (fun x2040 =>
        let x2041 := IntKind.i64.wrap (x2039 - x2040)
        let x2042 := IntKind.i64.wrap (x2041 - x2026)
        let x2043 := maxI x2022.2.1 x2042
        impl_truncated_J7 N a2020 x2026 x2043 a2021.2.1 a2021.2.2.1 x2022
         (fun x2054 x2055 x2056 x2057 x2058 x2059 =>
          impl_natDiv N x2057 x2058
           (fun x2060 x2061 =>
            let x2062 := ((x2061.length : Nat) : Int)
            let x2063 := (decide (x2062 = (0 : Int)))
            impl_truncated_J12 N x2054 x2055 x2056 x2060 x2063 x2059
             (fun x2079 x2080 x2081 x2082 x2083 =>
              let x2084 := ((x2081.length : Nat) : Int)
              impl_truncated_L0 N N x2079 x2080 x2082 (0 : Int) x2081 x2084 (0 : Int) x2083
               (fun x2100 x2101 x2102 x2103 x2104 =>
                impl_BitMake N x2100 (false, (x2103, (x2101, ())))
                 (fun x2149 x2150 =>
                  let x2151 := !x2150
                  bif x2151 then
                   let x2152 := (IntKind.i64.wrap (x2104.2.2.2.1 - (1 : Int)))
                   k0 x2152 false
                  else
                   k0 x2149 x2102))))))))
noncomputable def impl_truncated {α : Type} := lockF (@impl_truncated.b α)
theorem impl_truncated.eq : @impl_truncated = @impl_truncated.b := funext fun α => lockF_eq _

noncomputable def impl_around_J3.b {α : Type} (N : Nat) (v2155 : Int) (v2156 : Bool) (v2157 : Int) (v2158 : Bool × (List Int) × (List Int) × Unit) (k0 : Int → Int → (Bool × (List Int) × (List Int) × Unit) → Option α) : Option α :=
 let x2159 := !v2156
 bif x2159 then
  let x2160 := (IntKind.i64.wrap (v2157 + (1 : Int)))
  k0 v2155 x2160 v2158
 else
  k0 v2155 v2157 v2158
noncomputable def impl_around_J3 {α : Type} := lockF (@impl_around_J3.b α)
theorem impl_around_J3.eq : @impl_around_J3 = @impl_around_J3.b := funext fun α => lockF_eq _
/-- impl.around -/
noncomputable def impl_around.b {α : Type} (N : Nat) (a2018 : Int) (a2019 : Bool × (List Int) × (List Int) × Unit) (k0 : Int → Int → Option α) : Option α :=
 impl_truncated N a2018 a2019
  (fun x2153 x2154 =>
   impl_around_J3 N x2153 x2154 x2153 a2019
    (fun x2161 x2162 x2163 =>
     bif x2163.1 then
      let x2164 := IntKind.i64.wrap (0 - x2162)
      let x2165 := IntKind.i64.wrap (0 - x2161)
      k0 x2164 x2165
     else
      k0 x2161 x2162))
noncomputable def impl_around {α : Type} := lockF (@impl_around.b α)
theorem impl_around.eq : @impl_around = @impl_around.b := funext fun α => lockF_eq _

/-- impl.PairFrac -/
noncomputable def impl_PairFrac.b {α : Type} (N : Nat) (a1937 : Int) (a1938 : Bool × (List Int) × (List Int) × Unit) (k0 : (Int × Int × Unit) → Bool → Option α) : Option α :=
 impl_floated N a1937 a1938
  (fun x2016 =>
   let x2017 := !x2016
   bif x2017 then
    k0 ((0 : Int), ((0 : Int), ())) false
   else
    impl_around N a1937 a1938
     (fun x2166 x2167 =>
      k0 (x2166, (x2167, ())) true))
noncomputable def impl_PairFrac {α : Type} := lockF (@impl_PairFrac.b α)
theorem impl_PairFrac.eq : @impl_PairFrac = @impl_PairFrac.b := funext fun α => lockF_eq _

/-- impl.PairDec -/
noncomputable def impl_PairDec.b {α : Type} (N : Nat) (a944 : Int) (a945 : ByteArray) (k0 : (Int × Int × Unit) → Bool → Option α) : Option α :=
 impl_DecFrac N a945
  (fun x1932 x1933 x1934 x1935 =>
   let x1936 := !x1933
   bif x1936 then
    k0 ((0 : Int), ((0 : Int), ())) false
   else
    impl_PairFrac N a944 (x1932, (x1934, (x1935, ())))
     (fun x2168 x2169 =>
      k0 x2168 x2169))
noncomputable def impl_PairDec {α : Type} := lockF (@impl_PairDec.b α)
theorem impl_PairDec.eq : @impl_PairDec = @impl_PairDec.b := funext fun α => lockF_eq _

/-- laws.eqPair -/
noncomputable def laws_eqPair.b {α : Type} (N : Nat) (a2172 : Int × Int × Unit) (a2173 : Int × Int × Unit) (k0 : Bool → Option α) : Option α :=
 let x2174 := !(decide (a2172.1 = a2173.1))
 bif x2174 then
  k0 false
 else
  let x2175 := !(decide (a2172.2.1 = a2173.2.1))
  bif x2175 then
   k0 false
  else
   k0 true
noncomputable def laws_eqPair {α : Type} := lockF (@laws_eqPair.b α)
theorem laws_eqPair.eq : @laws_eqPair = @laws_eqPair.b := funext fun α => lockF_eq _

/-- laws.FnExactPairDec -/
noncomputable def laws_FnExactPairDec.b {α : Type} (N : Nat) (a1 : Int) (a2 : ByteArray) (k0 : Bool → Option α) : Option α :=
 let x3 := ((a2.size : Nat) : Int)
 let x4 := (decide ((1048576 : Int) < x3))
 bif x4 then
  k0 true
 else
  spec_PairDec N a1 a2
   (fun x942 x943 =>
    impl_PairDec N a1 a2
     (fun x2170 x2171 =>
      laws_eqPair N x2170 x942
       (fun x2176 =>
        let x2177 := !x2176
        bif x2177 then
         k0 false
        else
         let x2178 := !(x2171 == x943)
         bif x2178 then
          k0 false
         else
          k0 true)))
noncomputable def laws_FnExactPairDec {α : Type} := lockF (@laws_FnExactPairDec.b α)
theorem laws_FnExactPairDec.eq : @laws_FnExactPairDec = @laws_FnExactPairDec.b := funext fun α => lockF_eq _

end
end Go.Proofs.YtnhbcpmmdblkjaaGreatDoorAm
