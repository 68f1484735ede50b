/-
 The functions that the program computes,as the abstract machine tells them. Printed by amp.py.
-/
import Derived.Test.YtnhbcpmmdblkjaaDoorAmc
namespace Go.Proofs.YtnhbcpmmdblkjaaDoorAm
open Go
noncomputable section
set_option linter.unusedVariables false
set_option linter.unusedSimpArgs false

noncomputable def spec_l11Letter.b {α:Type} (N:Nat) (a20:Int) (k0:Bool→Option α):Option α :=
 let x21:=(decide ((97:Int)≤a20))
 bif x21 then
  let x22:=(decide (a20≤(122:Int)))
  k0 x22
 else
  k0 false
noncomputable def spec_l11Letter {α:Type}:=lockF (@spec_l11Letter.b α)
theorem spec_l11Letter.eq:@spec_l11Letter=@spec_l11Letter.b:=funext fun α=>lockF_eq _

noncomputable def spec_l11Digit.b {α:Type} (N:Nat) (a36:Int) (k0:Bool→Option α):Option α :=
 let x37:=(decide ((48:Int)≤a36))
 bif x37 then
  let x38:=(decide (a36≤(57:Int)))
  k0 x38
 else
  k0 false
noncomputable def spec_l11Digit {α:Type}:=lockF (@spec_l11Digit.b α)
theorem spec_l11Digit.eq:@spec_l11Digit=@spec_l11Digit.b:=funext fun α=>lockF_eq _

noncomputable def spec_l11End_L0r {α:Type} (N:Nat) (next:ByteArray→Int→Int→Option α) (k0:Int→Option α) (k1:Int→Option α) (v27:ByteArray) (v28:Int) (v29:Int):Option α :=
 let x30:=((v27.size:Nat):Int)
 let x31:=decide (v29 < x30)
 bif x31 then
  bif (decide (v29 < (0:Int))) then
   none
  else
   match (v27[v29.toNat]?:Option UInt8) with
   | some x32 =>
    let x33:=((x32.toNat:Nat):Int)
    spec_l11Letter N x33
     (fun x34 =>
      let x35 := !x34
      bif x35 then
       spec_l11Digit N x33
        (fun x39 =>
         let x40 := !x39
         bif x40 then
          let x41:=(!(decide (x33=(46:Int))))
          bif x41 then
           let x42:=(decide (x33=(45:Int)))
           bif x42 then
            bif (decide (v28 < (0:Int))) then
             none
            else
             match (v27[v28.toNat]?:Option UInt8) with
             | some x43 =>
              let x44:=((x43.toNat:Nat):Int)
              spec_l11Digit N x44
               (fun x45 =>
                bif x45 then
                 let x46:=(IntKind.i64.wrap (v29 - (1:Int)))
                 bif (decide (x46 < (0:Int))) then
                  none
                 else
                  match (v27[x46.toNat]?:Option UInt8) with
                  | some x47 =>
                   let x48:=((x47.toNat:Nat):Int)
                   let x49:=(decide (x48=(101:Int)))
                   let x50 := !x49
                   bif x50 then
                    k0 v29
                   else
                    let x51:=(IntKind.i64.wrap (v29 + (1:Int)))
                    next v27 v28 x51
                  | none=>none
                else
                 k0 v29)
             | none=>none
           else
            k0 v29
          else
           let x52:=(IntKind.i64.wrap (v29 + (1:Int)))
           next v27 v28 x52
         else
          let x53:=(IntKind.i64.wrap (v29 + (1:Int)))
          next v27 v28 x53)
      else
       let x54:=(IntKind.i64.wrap (v29 + (1:Int)))
       next v27 v28 x54)
   | none=>none
 else
  k1 v29
noncomputable def spec_l11End_L0.b {α:Type}:=fun N n v27 v28 v29 k0 k1=>loopN (fun next=>@spec_l11End_L0r α N next k0 k1) (fun _ _ _=>none) n v27 v28 v29
noncomputable def spec_l11End_L0 {α:Type}:=lockF (@spec_l11End_L0.b α)
theorem spec_l11End_L0.eq:@spec_l11End_L0=@spec_l11End_L0.b:=funext fun α=>lockF_eq _
theorem spec_l11End_L0.zero {α:Type} (N v27 v28 v29 k0 k1):@spec_l11End_L0 α N 0 v27 v28 v29 k0 k1=none:=by rw [spec_l11End_L0.eq]; rfl
theorem spec_l11End_L0.succ {α:Type} (N n v27 v28 v29 k0 k1):@spec_l11End_L0 α N (n + 1) v27 v28 v29 k0 k1=spec_l11End_L0r N (fun y0 y1 y2=>spec_l11End_L0 N n y0 y1 y2 k0 k1) k0 k1 v27 v28 v29:=by rw [spec_l11End_L0.eq]; rfl
noncomputable def spec_l11End.b {α:Type} (N:Nat) (a24:ByteArray) (a25:Int) (k0:Int→Option α):Option α :=
 let x26:=(IntKind.i64.wrap (a25 + (1:Int)))
 spec_l11End_L0 N N a24 a25 x26
  (fun x55 =>
   k0 x55)
  (fun x56 =>
   k0 x56)
noncomputable def spec_l11End {α:Type}:=lockF (@spec_l11End.b α)
theorem spec_l11End.eq:@spec_l11End=@spec_l11End.b:=funext fun α=>lockF_eq _

noncomputable def spec_l11Run_L0r {α:Type} (N:Nat) (next:ByteArray→Int→Int→Option α) (k0:Int→Option α) (v75:ByteArray) (v76:Int) (v77:Int):Option α :=
 let x78:=IntKind.i64.wrap (v76 + v77)
 let x79:=((v75.size:Nat):Int)
 let x80:=decide (x78 < x79)
 bif x80 then
  let x81:=IntKind.i64.wrap (v76 + v77)
  bif (decide (x81 < (0:Int))) then
   none
  else
   match (v75[x81.toNat]?:Option UInt8) with
   | some x82 =>
    let x83:=((x82.toNat:Nat):Int)
    spec_l11Digit N x83
     (fun x84 =>
      bif x84 then
       let x85:=(IntKind.i64.wrap (v77 + (1:Int)))
       next v75 v76 x85
      else
       k0 v77)
   | none=>none
 else
  k0 v77
noncomputable def spec_l11Run_L0.b {α:Type}:=fun N n v75 v76 v77 k0=>loopN (fun next=>@spec_l11Run_L0r α N next k0) (fun _ _ _=>none) n v75 v76 v77
noncomputable def spec_l11Run_L0 {α:Type}:=lockF (@spec_l11Run_L0.b α)
theorem spec_l11Run_L0.eq:@spec_l11Run_L0=@spec_l11Run_L0.b:=funext fun α=>lockF_eq _
theorem spec_l11Run_L0.zero {α:Type} (N v75 v76 v77 k0):@spec_l11Run_L0 α N 0 v75 v76 v77 k0=none:=by rw [spec_l11Run_L0.eq]; rfl
theorem spec_l11Run_L0.succ {α:Type} (N n v75 v76 v77 k0):@spec_l11Run_L0 α N (n + 1) v75 v76 v77 k0=spec_l11Run_L0r N (fun y0 y1 y2=>spec_l11Run_L0 N n y0 y1 y2 k0) k0 v75 v76 v77:=by rw [spec_l11Run_L0.eq]; rfl
noncomputable def spec_l11Run.b {α:Type} (N:Nat) (a73:ByteArray) (a74:Int) (k0:Int→Option α):Option α :=
 spec_l11Run_L0 N N a73 a74 (0:Int)
  (fun x86 =>
   k0 x86)
noncomputable def spec_l11Run {α:Type}:=lockF (@spec_l11Run.b α)
theorem spec_l11Run.eq:@spec_l11Run=@spec_l11Run.b:=funext fun α=>lockF_eq _

noncomputable def spec_LangNumOk_J5.b {α:Type} (N:Nat) (v95:ByteArray) (v96:Int) (k0:Bool→Option α) (k1:ByteArray→Int→Option α):Option α :=
 let x97:=((v95.size:Nat):Int)
 let x98:=decide (v96 < x97)
 bif x98 then
  bif (decide (v96 < (0:Int))) then
   none
  else
   match (v95[v96.toNat]?:Option UInt8) with
   | some x99 =>
    let x100:=((x99.toNat:Nat):Int)
    let x101:=(decide (x100=(46:Int)))
    bif x101 then
     let x102:=(IntKind.i64.wrap (v96 + (1:Int)))
     spec_l11Run N v95 x102
      (fun x103 =>
       let x104:=(decide (x103=(0:Int)))
       bif x104 then
        k0 false
       else
        let x105:=(IntKind.i64.wrap (v96 + (1:Int)))
        let x106:=IntKind.i64.wrap (x105 + x103)
        k1 v95 x106)
    else
     k1 v95 v96
   | none=>none
 else
  k1 v95 v96
noncomputable def spec_LangNumOk_J5 {α:Type}:=lockF (@spec_LangNumOk_J5.b α)
theorem spec_LangNumOk_J5.eq:@spec_LangNumOk_J5=@spec_LangNumOk_J5.b:=funext fun α=>lockF_eq _
noncomputable def spec_LangNumOk_J13.b {α:Type} (N:Nat) (v123:ByteArray) (v124:Int) (v125:Bool) (k0:ByteArray→Int→Bool→Option α):Option α :=
 bif v125 then
  let x126:=(IntKind.i64.wrap (v124 + (1:Int)))
  k0 v123 x126 v125
 else
  k0 v123 v124 v125
noncomputable def spec_LangNumOk_J13 {α:Type}:=lockF (@spec_LangNumOk_J13.b α)
theorem spec_LangNumOk_J13.eq:@spec_LangNumOk_J13=@spec_LangNumOk_J13.b:=funext fun α=>lockF_eq _
noncomputable def spec_LangNumOk_J10.b {α:Type} (N:Nat) (v110:ByteArray) (v111:Int) (k0:Bool→Option α) (k1:ByteArray→Int→Option α):Option α :=
 let x112:=((v110.size:Nat):Int)
 let x113:=decide (v111 < x112)
 bif x113 then
  bif (decide (v111 < (0:Int))) then
   none
  else
   match (v110[v111.toNat]?:Option UInt8) with
   | some x114 =>
    let x115:=((x114.toNat:Nat):Int)
    let x116:=(decide (x115=(101:Int)))
    bif x116 then
     let x117:=(IntKind.i64.wrap (v111 + (1:Int)))
     let x118:=((v110.size:Nat):Int)
     let x119:=decide (x117 < x118)
     bif x119 then
      bif (decide (x117 < (0:Int))) then
       none
      else
       match (v110[x117.toNat]?:Option UInt8) with
       | some x120 =>
        let x121:=((x120.toNat:Nat):Int)
        let x122:=(decide (x121=(45:Int)))
        spec_LangNumOk_J13 N v110 x117 x122
         (fun x127 x128 x129 =>
          spec_l11Run N x127 x128
           (fun x130 =>
            let x131:=(decide (x130=(0:Int)))
            bif x131 then
             k0 false
            else
             let x132:=(decide ((3:Int) < x130))
             bif x132 then
              k0 false
             else
              bif (decide (x128 < (0:Int))) then
               none
              else
               match (x127[x128.toNat]?:Option UInt8) with
               | some x133 =>
                let x134:=((x133.toNat:Nat):Int)
                let x135:=(decide (x134=(48:Int)))
                bif x135 then
                 let x136:=(decide ((1:Int) < x130))
                 bif x136 then
                  k0 false
                 else
                  bif x129 then
                   k0 false
                  else
                   let x137:=(decide (x130=(3:Int)))
                   bif x137 then
                    let x138:=IntKind.i64.wrap (x128 + x130)
                    bif (decide ((0:Int)≤x138)) then
                     bif (decide (x138≤((x127.size:Nat):Int))) then
                      bif (decide ((0:Int)≤x128)) then
                       bif (decide (x128≤((x138.toNat:Nat):Int))) then
                        let x139:=x127.extract x128.toNat x138.toNat
                        let x140:=(!(ltS x139 (⟨#[52,48,48]⟩:ByteArray) || eqS x139 (⟨#[52,48,48]⟩:ByteArray)))
                        bif x140 then
                         k0 false
                        else
                         let x141:=IntKind.i64.wrap (x128 + x130)
                         k1 x127 x141
                       else
                        none
                      else
                       none
                     else
                      none
                    else
                     none
                   else
                    let x142:=IntKind.i64.wrap (x128 + x130)
                    k1 x127 x142
                else
                 let x143:=(decide (x130=(3:Int)))
                 bif x143 then
                  let x144:=IntKind.i64.wrap (x128 + x130)
                  bif (decide ((0:Int)≤x144)) then
                   bif (decide (x144≤((x127.size:Nat):Int))) then
                    bif (decide ((0:Int)≤x128)) then
                     bif (decide (x128≤((x144.toNat:Nat):Int))) then
                      let x145:=x127.extract x128.toNat x144.toNat
                      let x146:=(!(ltS x145 (⟨#[52,48,48]⟩:ByteArray) || eqS x145 (⟨#[52,48,48]⟩:ByteArray)))
                      bif x146 then
                       k0 false
                      else
                       let x147:=IntKind.i64.wrap (x128 + x130)
                       k1 x127 x147
                     else
                      none
                    else
                     none
                   else
                    none
                  else
                   none
                 else
                  let x148:=IntKind.i64.wrap (x128 + x130)
                  k1 x127 x148
               | none=>none))
       | none=>none
     else
      spec_LangNumOk_J13 N v110 x117 false
       (fun x149 x150 x151 =>
        spec_l11Run N x149 x150
         (fun x152 =>
          let x153:=(decide (x152=(0:Int)))
          bif x153 then
           k0 false
          else
           let x154:=(decide ((3:Int) < x152))
           bif x154 then
            k0 false
           else
            bif (decide (x150 < (0:Int))) then
             none
            else
             match (x149[x150.toNat]?:Option UInt8) with
             | some x155 =>
              let x156:=((x155.toNat:Nat):Int)
              let x157:=(decide (x156=(48:Int)))
              bif x157 then
               let x158:=(decide ((1:Int) < x152))
               bif x158 then
                k0 false
               else
                bif x151 then
                 k0 false
                else
                 let x159:=(decide (x152=(3:Int)))
                 bif x159 then
                  let x160:=IntKind.i64.wrap (x150 + x152)
                  bif (decide ((0:Int)≤x160)) then
                   bif (decide (x160≤((x149.size:Nat):Int))) then
                    bif (decide ((0:Int)≤x150)) then
                     bif (decide (x150≤((x160.toNat:Nat):Int))) then
                      let x161:=x149.extract x150.toNat x160.toNat
                      let x162:=(!(ltS x161 (⟨#[52,48,48]⟩:ByteArray) || eqS x161 (⟨#[52,48,48]⟩:ByteArray)))
                      bif x162 then
                       k0 false
                      else
                       let x163:=IntKind.i64.wrap (x150 + x152)
                       k1 x149 x163
                     else
                      none
                    else
                     none
                   else
                    none
                  else
                   none
                 else
                  let x164:=IntKind.i64.wrap (x150 + x152)
                  k1 x149 x164
              else
               let x165:=(decide (x152=(3:Int)))
               bif x165 then
                let x166:=IntKind.i64.wrap (x150 + x152)
                bif (decide ((0:Int)≤x166)) then
                 bif (decide (x166≤((x149.size:Nat):Int))) then
                  bif (decide ((0:Int)≤x150)) then
                   bif (decide (x150≤((x166.toNat:Nat):Int))) then
                    let x167:=x149.extract x150.toNat x166.toNat
                    let x168:=(!(ltS x167 (⟨#[52,48,48]⟩:ByteArray) || eqS x167 (⟨#[52,48,48]⟩:ByteArray)))
                    bif x168 then
                     k0 false
                    else
                     let x169:=IntKind.i64.wrap (x150 + x152)
                     k1 x149 x169
                   else
                    none
                  else
                   none
                 else
                  none
                else
                 none
               else
                let x170:=IntKind.i64.wrap (x150 + x152)
                k1 x149 x170
             | none=>none))
    else
     k1 v110 v111
   | none=>none
 else
  k1 v110 v111
noncomputable def spec_LangNumOk_J10 {α:Type}:=lockF (@spec_LangNumOk_J10.b α)
theorem spec_LangNumOk_J10.eq:@spec_LangNumOk_J10=@spec_LangNumOk_J10.b:=funext fun α=>lockF_eq _
noncomputable def spec_LangNumOk.b {α:Type} (N:Nat) (a72:ByteArray) (k0:Bool→Option α):Option α :=
 spec_l11Run N a72 (0:Int)
  (fun x87 =>
   let x88:=((a72.size:Nat):Int)
   let x89:=(decide ((60:Int) < x88))
   bif x89 then
    k0 false
   else
    let x90:=(decide (x87=(0:Int)))
    bif x90 then
     k0 false
    else
     let x91:=(decide ((1:Int) < x87))
     bif x91 then
      match (a72[0]?:Option UInt8) with
      | some x92 =>
       let x93:=((x92.toNat:Nat):Int)
       let x94:=(decide (x93=(48:Int)))
       bif x94 then
        k0 false
       else
        spec_LangNumOk_J5 N a72 x87
         (fun x107 =>
          k0 x107)
         (fun x108 x109 =>
          spec_LangNumOk_J10 N x108 x109
           (fun x171 =>
            k0 x171)
           (fun x172 x173 =>
            let x174:=((x172.size:Nat):Int)
            let x175:=decide (x173=x174)
            k0 x175))
      | none=>none
     else
      spec_LangNumOk_J5 N a72 x87
       (fun x176 =>
        k0 x176)
       (fun x177 x178 =>
        spec_LangNumOk_J10 N x177 x178
         (fun x179 =>
          k0 x179)
         (fun x180 x181 =>
          let x182:=((x180.size:Nat):Int)
          let x183:=decide (x181=x182)
          k0 x183)))
noncomputable def spec_LangNumOk {α:Type}:=lockF (@spec_LangNumOk.b α)
theorem spec_LangNumOk.eq:@spec_LangNumOk=@spec_LangNumOk.b:=funext fun α=>lockF_eq _

noncomputable def spec_l11Plain_L0r {α:Type} (N:Nat) (next:ByteArray→Int→Option α) (k0:Bool→Option α) (k1:Option α) (v200:ByteArray) (v201:Int):Option α :=
 let x202:=((v200.size:Nat):Int)
 let x203:=decide (v201 < x202)
 bif x203 then
  bif (decide (v201 < (0:Int))) then
   none
  else
   match (v200[v201.toNat]?:Option UInt8) with
   | some x204 =>
    let x205:=((x204.toNat:Nat):Int)
    spec_l11Letter N x205
     (fun x206 =>
      let x207 := !x206
      bif x207 then
       bif (decide (v201 < (0:Int))) then
        none
       else
        match (v200[v201.toNat]?:Option UInt8) with
        | some x208 =>
         let x209:=((x208.toNat:Nat):Int)
         spec_l11Digit N x209
          (fun x210 =>
           let x211 := !x210
           bif x211 then
            k0 false
           else
            let x212:=(IntKind.i64.wrap (v201 + (1:Int)))
            next v200 x212)
        | none=>none
      else
       let x213:=(IntKind.i64.wrap (v201 + (1:Int)))
       next v200 x213)
   | none=>none
 else
  k1
noncomputable def spec_l11Plain_L0.b {α:Type}:=fun N n v200 v201 k0 k1=>loopN (fun next=>@spec_l11Plain_L0r α N next k0 k1) (fun _ _=>none) n v200 v201
noncomputable def spec_l11Plain_L0 {α:Type}:=lockF (@spec_l11Plain_L0.b α)
theorem spec_l11Plain_L0.eq:@spec_l11Plain_L0=@spec_l11Plain_L0.b:=funext fun α=>lockF_eq _
theorem spec_l11Plain_L0.zero {α:Type} (N v200 v201 k0 k1):@spec_l11Plain_L0 α N 0 v200 v201 k0 k1=none:=by rw [spec_l11Plain_L0.eq]; rfl
theorem spec_l11Plain_L0.succ {α:Type} (N n v200 v201 k0 k1):@spec_l11Plain_L0 α N (n + 1) v200 v201 k0 k1=spec_l11Plain_L0r N (fun y0 y1=>spec_l11Plain_L0 N n y0 y1 k0 k1) k0 k1 v200 v201:=by rw [spec_l11Plain_L0.eq]; rfl
noncomputable def spec_l11Plain.b {α:Type} (N:Nat) (a191:ByteArray) (k0:Bool→Option α):Option α :=
 let x192:=((a191.size:Nat):Int)
 let x193:=(decide (x192 < (1:Int)))
 bif x193 then
  k0 false
 else
  let x194:=((a191.size:Nat):Int)
  let x195:=(decide ((8:Int) < x194))
  bif x195 then
   k0 false
  else
   match (a191[0]?:Option UInt8) with
   | some x196 =>
    let x197:=((x196.toNat:Nat):Int)
    spec_l11Letter N x197
     (fun x198 =>
      let x199 := !x198
      bif x199 then
       k0 false
      else
       spec_l11Plain_L0 N N a191 (1:Int)
        (fun x214 =>
         k0 x214)
        (
         k0 true))
   | none=>none
noncomputable def spec_l11Plain {α:Type}:=lockF (@spec_l11Plain.b α)
theorem spec_l11Plain.eq:@spec_l11Plain=@spec_l11Plain.b:=funext fun α=>lockF_eq _

noncomputable def spec_l11Sign_J11.b {α:Type} (N:Nat) (v282:ByteArray) (v283:Int) (v284:Int) (k0:ByteArray→Int→Bool→Option α):Option α :=
 let x285:=(decide (v284=(44:Int)))
 bif x285 then
  k0 v282 v283 x285
 else
  let x286:=(decide (v284=(61:Int)))
  k0 v282 v283 x286
noncomputable def spec_l11Sign_J11 {α:Type}:=lockF (@spec_l11Sign_J11.b α)
theorem spec_l11Sign_J11.eq:@spec_l11Sign_J11=@spec_l11Sign_J11.b:=funext fun α=>lockF_eq _
noncomputable def spec_l11Sign_J10.b {α:Type} (N:Nat) (v278:ByteArray) (v279:Int) (v280:Int) (k0:ByteArray→Int→Bool→Option α):Option α :=
 let x281:=(decide (v280=(41:Int)))
 bif x281 then
  k0 v278 v279 x281
 else
  spec_l11Sign_J11 N v278 v279 v280
   (fun x287 x288 x289 =>
    k0 x287 x288 x289)
noncomputable def spec_l11Sign_J10 {α:Type}:=lockF (@spec_l11Sign_J10.b α)
theorem spec_l11Sign_J10.eq:@spec_l11Sign_J10=@spec_l11Sign_J10.b:=funext fun α=>lockF_eq _
noncomputable def spec_l11Sign_J9.b {α:Type} (N:Nat) (v274:ByteArray) (v275:Int) (v276:Int) (k0:ByteArray→Int→Bool→Option α):Option α :=
 let x277:=(decide (v276=(40:Int)))
 bif x277 then
  k0 v274 v275 x277
 else
  spec_l11Sign_J10 N v274 v275 v276
   (fun x290 x291 x292 =>
    k0 x290 x291 x292)
noncomputable def spec_l11Sign_J9 {α:Type}:=lockF (@spec_l11Sign_J9.b α)
theorem spec_l11Sign_J9.eq:@spec_l11Sign_J9=@spec_l11Sign_J9.b:=funext fun α=>lockF_eq _
noncomputable def spec_l11Sign_J8.b {α:Type} (N:Nat) (v270:ByteArray) (v271:Int) (v272:Int) (k0:ByteArray→Int→Bool→Option α):Option α :=
 let x273:=(decide (v272=(94:Int)))
 bif x273 then
  k0 v270 v271 x273
 else
  spec_l11Sign_J9 N v270 v271 v272
   (fun x293 x294 x295 =>
    k0 x293 x294 x295)
noncomputable def spec_l11Sign_J8 {α:Type}:=lockF (@spec_l11Sign_J8.b α)
theorem spec_l11Sign_J8.eq:@spec_l11Sign_J8=@spec_l11Sign_J8.b:=funext fun α=>lockF_eq _
noncomputable def spec_l11Sign_J7.b {α:Type} (N:Nat) (v266:ByteArray) (v267:Int) (v268:Int) (k0:ByteArray→Int→Bool→Option α):Option α :=
 let x269:=(decide (v268=(47:Int)))
 bif x269 then
  k0 v266 v267 x269
 else
  spec_l11Sign_J8 N v266 v267 v268
   (fun x296 x297 x298 =>
    k0 x296 x297 x298)
noncomputable def spec_l11Sign_J7 {α:Type}:=lockF (@spec_l11Sign_J7.b α)
theorem spec_l11Sign_J7.eq:@spec_l11Sign_J7=@spec_l11Sign_J7.b:=funext fun α=>lockF_eq _
noncomputable def spec_l11Sign_J6.b {α:Type} (N:Nat) (v262:ByteArray) (v263:Int) (v264:Int) (k0:ByteArray→Int→Bool→Option α):Option α :=
 let x265:=(decide (v264=(42:Int)))
 bif x265 then
  k0 v262 v263 x265
 else
  spec_l11Sign_J7 N v262 v263 v264
   (fun x299 x300 x301 =>
    k0 x299 x300 x301)
noncomputable def spec_l11Sign_J6 {α:Type}:=lockF (@spec_l11Sign_J6.b α)
theorem spec_l11Sign_J6.eq:@spec_l11Sign_J6=@spec_l11Sign_J6.b:=funext fun α=>lockF_eq _
noncomputable def spec_l11Sign_J5.b {α:Type} (N:Nat) (v258:ByteArray) (v259:Int) (v260:Int) (k0:ByteArray→Int→Bool→Option α):Option α :=
 let x261:=(decide (v260=(45:Int)))
 bif x261 then
  k0 v258 v259 x261
 else
  spec_l11Sign_J6 N v258 v259 v260
   (fun x302 x303 x304 =>
    k0 x302 x303 x304)
noncomputable def spec_l11Sign_J5 {α:Type}:=lockF (@spec_l11Sign_J5.b α)
theorem spec_l11Sign_J5.eq:@spec_l11Sign_J5=@spec_l11Sign_J5.b:=funext fun α=>lockF_eq _
noncomputable def spec_l11Sign_J4.b {α:Type} (N:Nat) (v254:ByteArray) (v255:Int) (v256:Int) (k0:ByteArray→Int→Bool→Option α):Option α :=
 let x257:=(decide (v256=(43:Int)))
 bif x257 then
  k0 v254 v255 x257
 else
  spec_l11Sign_J5 N v254 v255 v256
   (fun x305 x306 x307 =>
    k0 x305 x306 x307)
noncomputable def spec_l11Sign_J4 {α:Type}:=lockF (@spec_l11Sign_J4.b α)
theorem spec_l11Sign_J4.eq:@spec_l11Sign_J4=@spec_l11Sign_J4.b:=funext fun α=>lockF_eq _
noncomputable def spec_l11Sign.b {α:Type} (N:Nat) (a238:ByteArray) (a239:Int) (k0:ByteArray→Option α):Option α :=
 let x240:=(IntKind.i64.wrap (a239 + (1:Int)))
 let x241:=((a238.size:Nat):Int)
 let x242:=decide (x240 < x241)
 bif x242 then
  bif (decide (a239 < (0:Int))) then
   none
  else
   match (a238[a239.toNat]?:Option UInt8) with
   | some x243 =>
    let x244:=((x243.toNat:Nat):Int)
    let x245:=(decide (x244=(60:Int)))
    bif x245 then
     let x246:=(IntKind.i64.wrap (a239 + (1:Int)))
     bif (decide (x246 < (0:Int))) then
      none
     else
      match (a238[x246.toNat]?:Option UInt8) with
      | some x247 =>
       let x248:=((x247.toNat:Nat):Int)
       let x249:=(decide (x248=(61:Int)))
       bif x249 then
        let x250:=(IntKind.i64.wrap (a239 + (2:Int)))
        bif (decide ((0:Int)≤x250)) then
         bif (decide (x250≤((a238.size:Nat):Int))) then
          bif (decide ((0:Int)≤a239)) then
           bif (decide (a239≤((x250.toNat:Nat):Int))) then
            let x251:=a238.extract a239.toNat x250.toNat
            k0 x251
           else
            none
          else
           none
         else
          none
        else
         none
       else
        bif (decide (a239 < (0:Int))) then
         none
        else
         match (a238[a239.toNat]?:Option UInt8) with
         | some x252 =>
          let x253:=((x252.toNat:Nat):Int)
          spec_l11Sign_J4 N a238 a239 x253
           (fun x308 x309 x310 =>
            bif x310 then
             let x311:=(IntKind.i64.wrap (x309 + (1:Int)))
             bif (decide ((0:Int)≤x311)) then
              bif (decide (x311≤((x308.size:Nat):Int))) then
               bif (decide ((0:Int)≤x309)) then
                bif (decide (x309≤((x311.toNat:Nat):Int))) then
                 let x312:=x308.extract x309.toNat x311.toNat
                 k0 x312
                else
                 none
               else
                none
              else
               none
             else
              none
            else
             k0 ByteArray.empty)
         | none=>none
      | none=>none
    else
     bif (decide (a239 < (0:Int))) then
      none
     else
      match (a238[a239.toNat]?:Option UInt8) with
      | some x313 =>
       let x314:=((x313.toNat:Nat):Int)
       let x315:=(decide (x314=(62:Int)))
       bif x315 then
        let x316:=(IntKind.i64.wrap (a239 + (1:Int)))
        bif (decide (x316 < (0:Int))) then
         none
        else
         match (a238[x316.toNat]?:Option UInt8) with
         | some x317 =>
          let x318:=((x317.toNat:Nat):Int)
          let x319:=(decide (x318=(61:Int)))
          bif x319 then
           let x320:=(IntKind.i64.wrap (a239 + (2:Int)))
           bif (decide ((0:Int)≤x320)) then
            bif (decide (x320≤((a238.size:Nat):Int))) then
             bif (decide ((0:Int)≤a239)) then
              bif (decide (a239≤((x320.toNat:Nat):Int))) then
               let x321:=a238.extract a239.toNat x320.toNat
               k0 x321
              else
               none
             else
              none
            else
             none
           else
            none
          else
           bif (decide (a239 < (0:Int))) then
            none
           else
            match (a238[a239.toNat]?:Option UInt8) with
            | some x322 =>
             let x323:=((x322.toNat:Nat):Int)
             spec_l11Sign_J4 N a238 a239 x323
              (fun x324 x325 x326 =>
               bif x326 then
                let x327:=(IntKind.i64.wrap (x325 + (1:Int)))
                bif (decide ((0:Int)≤x327)) then
                 bif (decide (x327≤((x324.size:Nat):Int))) then
                  bif (decide ((0:Int)≤x325)) then
                   bif (decide (x325≤((x327.toNat:Nat):Int))) then
                    let x328:=x324.extract x325.toNat x327.toNat
                    k0 x328
                   else
                    none
                  else
                   none
                 else
                  none
                else
                 none
               else
                k0 ByteArray.empty)
            | none=>none
         | none=>none
       else
        bif (decide (a239 < (0:Int))) then
         none
        else
         match (a238[a239.toNat]?:Option UInt8) with
         | some x329 =>
          let x330:=((x329.toNat:Nat):Int)
          spec_l11Sign_J4 N a238 a239 x330
           (fun x331 x332 x333 =>
            bif x333 then
             let x334:=(IntKind.i64.wrap (x332 + (1:Int)))
             bif (decide ((0:Int)≤x334)) then
              bif (decide (x334≤((x331.size:Nat):Int))) then
               bif (decide ((0:Int)≤x332)) then
                bif (decide (x332≤((x334.toNat:Nat):Int))) then
                 let x335:=x331.extract x332.toNat x334.toNat
                 k0 x335
                else
                 none
               else
                none
              else
               none
             else
              none
            else
             k0 ByteArray.empty)
         | none=>none
      | none=>none
   | none=>none
 else
  bif (decide (a239 < (0:Int))) then
   none
  else
   match (a238[a239.toNat]?:Option UInt8) with
   | some x336 =>
    let x337:=((x336.toNat:Nat):Int)
    spec_l11Sign_J4 N a238 a239 x337
     (fun x338 x339 x340 =>
      bif x340 then
       let x341:=(IntKind.i64.wrap (x339 + (1:Int)))
       bif (decide ((0:Int)≤x341)) then
        bif (decide (x341≤((x338.size:Nat):Int))) then
         bif (decide ((0:Int)≤x339)) then
          bif (decide (x339≤((x341.toNat:Nat):Int))) then
           let x342:=x338.extract x339.toNat x341.toNat
           k0 x342
          else
           none
         else
          none
        else
         none
       else
        none
      else
       k0 ByteArray.empty)
   | none=>none
noncomputable def spec_l11Sign {α:Type}:=lockF (@spec_l11Sign.b α)
theorem spec_l11Sign.eq:@spec_l11Sign=@spec_l11Sign.b:=funext fun α=>lockF_eq _

noncomputable def spec_LangTokens_J15.b {α:Type} (N:Nat) (v66:ByteArray) (v67:Int) (v68:Int) (v69:List (Int×ByteArray×Unit)) (v70:Int×ByteArray×Unit) (k0:ByteArray→Int→Int→List (Int×ByteArray×Unit)→(Int×ByteArray×Unit)→Option α):Option α :=
 let x71:=(decide (v67=(0:Int)))
 bif x71 then
  spec_LangNumOk N v70.2.1
   (fun x184 =>
    let x185 := !x184
    bif x185 then
     k0 v66 (3:Int) v68 v69 v70
    else
     k0 v66 v67 v68 v69 v70)
 else
  k0 v66 v67 v68 v69 v70
noncomputable def spec_LangTokens_J15 {α:Type}:=lockF (@spec_LangTokens_J15.b α)
theorem spec_LangTokens_J15.eq:@spec_LangTokens_J15=@spec_LangTokens_J15.b:=funext fun α=>lockF_eq _
noncomputable def spec_LangTokens_J13.b {α:Type} (N:Nat) (v59:ByteArray) (v60:Int) (v61:Int) (v62:Int) (v63:List (Int×ByteArray×Unit)) (v64:Int×ByteArray×Unit) (k0:ByteArray→Int→Int→List (Int×ByteArray×Unit)→(Int×ByteArray×Unit)→Option α) (k1:Int→List (Int×ByteArray×Unit)→Option α):Option α :=
 spec_l11Digit N v61
  (fun x65 =>
   bif x65 then
    spec_LangTokens_J15 N v59 v60 v62 v63 ((2:Int),(v64.2.1,()))
     (fun x186 x187 x188 x189 x190 =>
      k0 x186 x187 x188 x189 x190)
   else
    spec_l11Plain N v64.2.1
     (fun x215 =>
      let x216 := !x215
      bif x216 then
       k1 (2:Int) []
      else
       k0 v59 v60 v62 v63 v64))
noncomputable def spec_LangTokens_J13 {α:Type}:=lockF (@spec_LangTokens_J13.b α)
theorem spec_LangTokens_J13.eq:@spec_LangTokens_J13=@spec_LangTokens_J13.b:=funext fun α=>lockF_eq _
noncomputable def spec_LangTokens_L0r {α:Type} (N:Nat) (next:ByteArray→Int→Int→List (Int×ByteArray×Unit)→Option α) (k0:Int→List (Int×ByteArray×Unit)→Option α) (k1:Int→List (Int×ByteArray×Unit)→Option α) (v7:ByteArray) (v8:Int) (v9:Int) (v10:List (Int×ByteArray×Unit)):Option α :=
 let x11:=((v7.size:Nat):Int)
 let x12:=decide (v9 < x11)
 bif x12 then
  bif (decide (v9 < (0:Int))) then
   none
  else
   match (v7[v9.toNat]?:Option UInt8) with
   | some x13 =>
    let x14:=((x13.toNat:Nat):Int)
    let x15:=(!(decide (x14=(35:Int))))
    bif x15 then
     bif (decide (v9 < (0:Int))) then
      none
     else
      match (v7[v9.toNat]?:Option UInt8) with
      | some x16 =>
       let x17:=((x16.toNat:Nat):Int)
       let x18:=(decide (x17=(32:Int)))
       bif x18 then
        let x19:=(IntKind.i64.wrap (v9 + (1:Int)))
        next v7 v8 x19 v10
       else
        spec_l11Letter N x17
         (fun x23 =>
          bif x23 then
           spec_l11End N v7 v9
            (fun x57 =>
             bif (decide ((0:Int)≤x57)) then
              bif (decide (x57≤((v7.size:Nat):Int))) then
               bif (decide ((0:Int)≤v9)) then
                bif (decide (v9≤((x57.toNat:Nat):Int))) then
                 let x58:=v7.extract v9.toNat x57.toNat
                 spec_LangTokens_J13 N v7 v8 x17 x57 v10 ((1:Int),(x58,()))
                  (fun x217 x218 x219 x220 x221 =>
                   let x222:=[x221]
                   bif decide (x220.length + x222.length≤5864062014805) then
                    let x223:=x220++x222
                    next x217 x218 x219 x223
                   else
                    none)
                  (fun x224 x225 =>
                   k0 x224 x225)
                else
                 none
               else
                none
              else
               none
             else
              none)
          else
           spec_l11Digit N x17
            (fun x226 =>
             bif x226 then
              spec_l11End N v7 v9
               (fun x227 =>
                bif (decide ((0:Int)≤x227)) then
                 bif (decide (x227≤((v7.size:Nat):Int))) then
                  bif (decide ((0:Int)≤v9)) then
                   bif (decide (v9≤((x227.toNat:Nat):Int))) then
                    let x228:=v7.extract v9.toNat x227.toNat
                    spec_LangTokens_J13 N v7 v8 x17 x227 v10 ((1:Int),(x228,()))
                     (fun x229 x230 x231 x232 x233 =>
                      let x234:=[x233]
                      bif decide (x232.length + x234.length≤5864062014805) then
                       let x235:=x232++x234
                       next x229 x230 x231 x235
                      else
                       none)
                     (fun x236 x237 =>
                      k0 x236 x237)
                   else
                    none
                  else
                   none
                 else
                  none
                else
                 none)
             else
              spec_l11Sign N v7 v9
               (fun x343 =>
                let x344:=eqS x343 ByteArray.empty
                bif x344 then
                 k0 (2:Int) []
                else
                 let x345:=[((3:Int),(x343,()))]
                 bif decide (v10.length + x345.length≤5864062014805) then
                  let x346:=v10++x345
                  let x347:=((x343.size:Nat):Int)
                  let x348:=IntKind.i64.wrap (v9 + x347)
                  next v7 v8 x348 x346
                 else
                  none)))
      | none=>none
    else
     k1 v8 v10
   | none=>none
 else
  k1 v8 v10
noncomputable def spec_LangTokens_L0.b {α:Type}:=fun N n v7 v8 v9 v10 k0 k1=>loopN (fun next=>@spec_LangTokens_L0r α N next k0 k1) (fun _ _ _ _=>none) n v7 v8 v9 v10
noncomputable def spec_LangTokens_L0 {α:Type}:=lockF (@spec_LangTokens_L0.b α)
theorem spec_LangTokens_L0.eq:@spec_LangTokens_L0=@spec_LangTokens_L0.b:=funext fun α=>lockF_eq _
theorem spec_LangTokens_L0.zero {α:Type} (N v7 v8 v9 v10 k0 k1):@spec_LangTokens_L0 α N 0 v7 v8 v9 v10 k0 k1=none:=by rw [spec_LangTokens_L0.eq]; rfl
theorem spec_LangTokens_L0.succ {α:Type} (N n v7 v8 v9 v10 k0 k1):@spec_LangTokens_L0 α N (n + 1) v7 v8 v9 v10 k0 k1=spec_LangTokens_L0r N (fun y0 y1 y2 y3=>spec_LangTokens_L0 N n y0 y1 y2 y3 k0 k1) k0 k1 v7 v8 v9 v10:=by rw [spec_LangTokens_L0.eq]; rfl
noncomputable def spec_LangTokens.b {α:Type} (N:Nat) (a4:ByteArray) (k0:Int→List (Int×ByteArray×Unit)→Option α):Option α :=
 let x5:=((a4.size:Nat):Int)
 let x6:=(decide ((1000:Int) < x5))
 bif x6 then
  k0 (1:Int) []
 else
  spec_LangTokens_L0 N N a4 (0:Int) (0:Int) []
   (fun x349 x350 =>
    k0 x349 x350)
   (fun x351 x352 =>
    let x353:=(!(decide (x351=(0:Int))))
    bif x353 then
     k0 x351 []
    else
     let x354:=((x352.length:Nat):Int)
     let x355:=(decide ((300:Int) < x354))
     bif x355 then
      k0 (5:Int) []
     else
      k0 (0:Int) x352)
noncomputable def spec_LangTokens {α:Type}:=lockF (@spec_LangTokens.b α)
theorem spec_LangTokens.eq:@spec_LangTokens=@spec_LangTokens.b:=funext fun α=>lockF_eq _

noncomputable def internal_stringslite_Cut.b {α:Type} (N:Nat) (a363:ByteArray) (a364:ByteArray) (k0:ByteArray→ByteArray→Bool→Option α):Option α :=
 internal_stringslite_Index N a363 a364
  (fun x365 =>
   let x366:=(decide ((0:Int)≤x365))
   bif x366 then
    bif (decide ((0:Int)≤x365)) then
     bif (decide (x365≤((a363.size:Nat):Int))) then
      let x367:=a363.extract 0 x365.toNat
      let x368:=((a364.size:Nat):Int)
      let x369:=IntKind.i64.wrap (x365 + x368)
      bif (decide ((0:Int)≤x369)) then
       bif (decide (x369≤((a363.size:Nat):Int))) then
        let x370:=a363.extract x369.toNat a363.size
        k0 x367 x370 true
       else
        none
      else
       none
     else
      none
    else
     none
   else
    k0 a363 ByteArray.empty false)
noncomputable def internal_stringslite_Cut {α:Type}:=lockF (@internal_stringslite_Cut.b α)
theorem internal_stringslite_Cut.eq:@internal_stringslite_Cut=@internal_stringslite_Cut.b:=funext fun α=>lockF_eq _

noncomputable def strings_Cut.b {α:Type} (N:Nat) (a361:ByteArray) (a362:ByteArray) (k0:ByteArray→ByteArray→Bool→Option α):Option α :=
 internal_stringslite_Cut N a361 a362
  (fun x371 x372 x373 =>
   k0 x371 x372 x373)
noncomputable def strings_Cut {α:Type}:=lockF (@strings_Cut.b α)
theorem strings_Cut.eq:@strings_Cut=@strings_Cut.b:=funext fun α=>lockF_eq _

noncomputable def internal_stringslite_HasPrefix.b {α:Type} (N:Nat) (a388:ByteArray) (a389:ByteArray) (k0:Bool→Option α):Option α :=
 let x390:=((a388.size:Nat):Int)
 let x391:=((a389.size:Nat):Int)
 let x392:=decide (x391≤x390)
 bif x392 then
  let x393:=((a389.size:Nat):Int)
  bif (decide ((0:Int)≤x393)) then
   bif (decide (x393≤((a388.size:Nat):Int))) then
    let x394:=a388.extract 0 x393.toNat
    let x395:=eqS x394 a389
    k0 x395
   else
    none
  else
   none
 else
  k0 false
noncomputable def internal_stringslite_HasPrefix {α:Type}:=lockF (@internal_stringslite_HasPrefix.b α)
theorem internal_stringslite_HasPrefix.eq:@internal_stringslite_HasPrefix=@internal_stringslite_HasPrefix.b:=funext fun α=>lockF_eq _

noncomputable def strings_HasPrefix.b {α:Type} (N:Nat) (a386:ByteArray) (a387:ByteArray) (k0:Bool→Option α):Option α :=
 internal_stringslite_HasPrefix N a386 a387
  (fun x396 =>
   k0 x396)
noncomputable def strings_HasPrefix {α:Type}:=lockF (@strings_HasPrefix.b α)
theorem strings_HasPrefix.eq:@strings_HasPrefix=@strings_HasPrefix.b:=funext fun α=>lockF_eq _

noncomputable def strings_IndexByte.b {α:Type} (N:Nat) (a403:ByteArray) (a404:Int) (k0:Int→Option α):Option α :=
 internal_stringslite_IndexByte N a403 a404
  (fun x405 =>
   k0 x405)
noncomputable def strings_IndexByte {α:Type}:=lockF (@strings_IndexByte.b α)
theorem strings_IndexByte.eq:@strings_IndexByte=@strings_IndexByte.b:=funext fun α=>lockF_eq _

noncomputable def impl_signOf.b {α:Type} (N:Nat) (a385:ByteArray) (k0:ByteArray→Option α):Option α :=
 strings_HasPrefix N a385 (⟨#[60,61]⟩:ByteArray)
  (fun x397 =>
   bif x397 then
    bif (decide ((2:Int)≤((a385.size:Nat):Int))) then
     let x398:=a385.extract 0 2
     k0 x398
    else
     none
   else
    strings_HasPrefix N a385 (⟨#[62,61]⟩:ByteArray)
     (fun x399 =>
      bif x399 then
       bif (decide ((2:Int)≤((a385.size:Nat):Int))) then
        let x400:=a385.extract 0 2
        k0 x400
       else
        none
      else
       match (a385[0]?:Option UInt8) with
       | some x401 =>
        let x402:=((x401.toNat:Nat):Int)
        strings_IndexByte N (⟨#[43,45,42,47,94,40,41,44,61]⟩:ByteArray) x402
         (fun x406 =>
          let x407:=(decide ((0:Int)≤x406))
          bif x407 then
           bif (decide ((1:Int)≤((a385.size:Nat):Int))) then
            let x408:=a385.extract 0 1
            k0 x408
           else
            none
          else
           k0 ByteArray.empty)
       | none=>none))
noncomputable def impl_signOf {α:Type}:=lockF (@impl_signOf.b α)
theorem impl_signOf.eq:@impl_signOf=@impl_signOf.b:=funext fun α=>lockF_eq _

noncomputable def impl_isLetter.b {α:Type} (N:Nat) (a416:Int) (k0:Bool→Option α):Option α :=
 let x417:=(decide ((97:Int)≤a416))
 bif x417 then
  let x418:=(decide (a416≤(122:Int)))
  k0 x418
 else
  k0 false
noncomputable def impl_isLetter {α:Type}:=lockF (@impl_isLetter.b α)
theorem impl_isLetter.eq:@impl_isLetter=@impl_isLetter.b:=funext fun α=>lockF_eq _

noncomputable def impl_isFigure.b {α:Type} (N:Nat) (a431:Int) (k0:Bool→Option α):Option α :=
 let x432:=(decide ((48:Int)≤a431))
 bif x432 then
  let x433:=(decide (a431≤(57:Int)))
  k0 x433
 else
  k0 false
noncomputable def impl_isFigure {α:Type}:=lockF (@impl_isFigure.b α)
theorem impl_isFigure.eq:@impl_isFigure=@impl_isFigure.b:=funext fun α=>lockF_eq _

noncomputable def impl_wordLength_L0r {α:Type} (N:Nat) (next:ByteArray→Int→Option α) (k0:Int→Option α) (v421:ByteArray) (v422:Int):Option α :=
 let x423:=((v421.size:Nat):Int)
 let x424:=decide (v422 < x423)
 bif x424 then
  bif (decide (v422 < (0:Int))) then
   none
  else
   match (v421[v422.toNat]?:Option UInt8) with
   | some x425 =>
    let x426:=((x425.toNat:Nat):Int)
    impl_isLetter N x426
     (fun x427 =>
      bif x427 then
       let x428:=(IntKind.i64.wrap (v422 + (1:Int)))
       next v421 x428
      else
       bif (decide (v422 < (0:Int))) then
        none
       else
        match (v421[v422.toNat]?:Option UInt8) with
        | some x429 =>
         let x430:=((x429.toNat:Nat):Int)
         impl_isFigure N x430
          (fun x434 =>
           bif x434 then
            let x435:=(IntKind.i64.wrap (v422 + (1:Int)))
            next v421 x435
           else
            bif (decide (v422 < (0:Int))) then
             none
            else
             match (v421[v422.toNat]?:Option UInt8) with
             | some x436 =>
              let x437:=((x436.toNat:Nat):Int)
              let x438:=(decide (x437=(46:Int)))
              bif x438 then
               let x439:=(IntKind.i64.wrap (v422 + (1:Int)))
               next v421 x439
              else
               bif (decide (v422 < (0:Int))) then
                none
               else
                match (v421[v422.toNat]?:Option UInt8) with
                | some x440 =>
                 let x441:=((x440.toNat:Nat):Int)
                 let x442:=(decide (x441=(45:Int)))
                 bif x442 then
                  match (v421[0]?:Option UInt8) with
                  | some x443 =>
                   let x444:=((x443.toNat:Nat):Int)
                   impl_isFigure N x444
                    (fun x445 =>
                     bif x445 then
                      let x446:=(IntKind.i64.wrap (v422 - (1:Int)))
                      bif (decide (x446 < (0:Int))) then
                       none
                      else
                       match (v421[x446.toNat]?:Option UInt8) with
                       | some x447 =>
                        let x448:=((x447.toNat:Nat):Int)
                        let x449:=(decide (x448=(101:Int)))
                        bif x449 then
                         let x450:=(IntKind.i64.wrap (v422 + (1:Int)))
                         next v421 x450
                        else
                         k0 v422
                       | none=>none
                     else
                      k0 v422)
                  | none=>none
                 else
                  k0 v422
                | none=>none
             | none=>none)
        | none=>none)
   | none=>none
 else
  k0 v422
noncomputable def impl_wordLength_L0.b {α:Type}:=fun N n v421 v422 k0=>loopN (fun next=>@impl_wordLength_L0r α N next k0) (fun _ _=>none) n v421 v422
noncomputable def impl_wordLength_L0 {α:Type}:=lockF (@impl_wordLength_L0.b α)
theorem impl_wordLength_L0.eq:@impl_wordLength_L0=@impl_wordLength_L0.b:=funext fun α=>lockF_eq _
theorem impl_wordLength_L0.zero {α:Type} (N v421 v422 k0):@impl_wordLength_L0 α N 0 v421 v422 k0=none:=by rw [impl_wordLength_L0.eq]; rfl
theorem impl_wordLength_L0.succ {α:Type} (N n v421 v422 k0):@impl_wordLength_L0 α N (n + 1) v421 v422 k0=impl_wordLength_L0r N (fun y0 y1=>impl_wordLength_L0 N n y0 y1 k0) k0 v421 v422:=by rw [impl_wordLength_L0.eq]; rfl
noncomputable def impl_wordLength.b {α:Type} (N:Nat) (a420:ByteArray) (k0:Int→Option α):Option α :=
 impl_wordLength_L0 N N a420 (0:Int)
  (fun x451 =>
   k0 x451)
noncomputable def impl_wordLength {α:Type}:=lockF (@impl_wordLength.b α)
theorem impl_wordLength.eq:@impl_wordLength=@impl_wordLength.b:=funext fun α=>lockF_eq _

noncomputable def impl_isDigits_L0r {α:Type} (N:Nat) (next:ByteArray→Int→Int→Option α) (k0:Bool→Option α) (k1:ByteArray→Option α) (v473:ByteArray) (v474:Int) (v475:Int):Option α :=
 let x476:=decide (v475 < v474)
 bif x476 then
  bif (decide (v475 < (0:Int))) then
   none
  else
   match (v473[v475.toNat]?:Option UInt8) with
   | some x477 =>
    let x478:=((x477.toNat:Nat):Int)
    let x479:=(decide (x478 < (48:Int)))
    bif x479 then
     k0 false
    else
     bif (decide (v475 < (0:Int))) then
      none
     else
      match (v473[v475.toNat]?:Option UInt8) with
      | some x480 =>
       let x481:=((x480.toNat:Nat):Int)
       let x482:=(decide ((57:Int) < x481))
       bif x482 then
        k0 false
       else
        let x483:=(IntKind.i64.wrap (v475 + (1:Int)))
        next v473 v474 x483
      | none=>none
   | none=>none
 else
  k1 v473
noncomputable def impl_isDigits_L0.b {α:Type}:=fun N n v473 v474 v475 k0 k1=>loopN (fun next=>@impl_isDigits_L0r α N next k0 k1) (fun _ _ _=>none) n v473 v474 v475
noncomputable def impl_isDigits_L0 {α:Type}:=lockF (@impl_isDigits_L0.b α)
theorem impl_isDigits_L0.eq:@impl_isDigits_L0=@impl_isDigits_L0.b:=funext fun α=>lockF_eq _
theorem impl_isDigits_L0.zero {α:Type} (N v473 v474 v475 k0 k1):@impl_isDigits_L0 α N 0 v473 v474 v475 k0 k1=none:=by rw [impl_isDigits_L0.eq]; rfl
theorem impl_isDigits_L0.succ {α:Type} (N n v473 v474 v475 k0 k1):@impl_isDigits_L0 α N (n + 1) v473 v474 v475 k0 k1=impl_isDigits_L0r N (fun y0 y1 y2=>impl_isDigits_L0 N n y0 y1 y2 k0 k1) k0 k1 v473 v474 v475:=by rw [impl_isDigits_L0.eq]; rfl
noncomputable def impl_isDigits.b {α:Type} (N:Nat) (a471:ByteArray) (k0:Bool→Option α):Option α :=
 let x472:=((a471.size:Nat):Int)
 impl_isDigits_L0 N N a471 x472 (0:Int)
  (fun x484 =>
   k0 x484)
  (fun x485 =>
   let x486 := !eqS x485 ByteArray.empty
   k0 x486)
noncomputable def impl_isDigits {α:Type}:=lockF (@impl_isDigits.b α)
theorem impl_isDigits.eq:@impl_isDigits=@impl_isDigits.b:=funext fun α=>lockF_eq _

noncomputable def impl_wholeDigits.b {α:Type} (N:Nat) (a470:ByteArray) (k0:Bool→Option α):Option α :=
 impl_isDigits N a470
  (fun x487 =>
   bif x487 then
    let x488:=(eqS a470 (⟨#[48]⟩:ByteArray))
    bif x488 then
     k0 true
    else
     match (a470[0]?:Option UInt8) with
     | some x489 =>
      let x490:=((x489.toNat:Nat):Int)
      let x491:=(!(decide (x490=(48:Int))))
      k0 x491
     | none=>none
   else
    k0 false)
noncomputable def impl_wholeDigits {α:Type}:=lockF (@impl_wholeDigits.b α)
theorem impl_wholeDigits.eq:@impl_wholeDigits=@impl_wholeDigits.b:=funext fun α=>lockF_eq _

noncomputable def internal_stringslite_CutPrefix.b {α:Type} (N:Nat) (a499:ByteArray) (a500:ByteArray) (k0:ByteArray→Bool→Option α):Option α :=
 internal_stringslite_HasPrefix N a499 a500
  (fun x501 =>
   let x502 := !x501
   bif x502 then
    k0 a499 false
   else
    let x503:=((a500.size:Nat):Int)
    bif (decide ((0:Int)≤x503)) then
     bif (decide (x503≤((a499.size:Nat):Int))) then
      let x504:=a499.extract x503.toNat a499.size
      k0 x504 true
     else
      none
    else
     none)
noncomputable def internal_stringslite_CutPrefix {α:Type}:=lockF (@internal_stringslite_CutPrefix.b α)
theorem internal_stringslite_CutPrefix.eq:@internal_stringslite_CutPrefix=@internal_stringslite_CutPrefix.b:=funext fun α=>lockF_eq _

noncomputable def strings_CutPrefix.b {α:Type} (N:Nat) (a497:ByteArray) (a498:ByteArray) (k0:ByteArray→Bool→Option α):Option α :=
 internal_stringslite_CutPrefix N a497 a498
  (fun x505 x506 =>
   k0 x505 x506)
noncomputable def strings_CutPrefix {α:Type}:=lockF (@strings_CutPrefix.b α)
theorem strings_CutPrefix.eq:@strings_CutPrefix=@strings_CutPrefix.b:=funext fun α=>lockF_eq _

noncomputable def impl_literal_J11.b {α:Type} (N:Nat) (v516:ByteArray) (v517:ByteArray) (v518:Bool) (v519:Int) (k0:ByteArray→ByteArray→Int→Option α):Option α :=
 bif v518 then
  let x520:=IntKind.i64.wrap (0 - v519)
  k0 v516 v517 x520
 else
  k0 v516 v517 v519
noncomputable def impl_literal_J11 {α:Type}:=lockF (@impl_literal_J11.b α)
theorem impl_literal_J11.eq:@impl_literal_J11=@impl_literal_J11.b:=funext fun α=>lockF_eq _
noncomputable def impl_literal.b {α:Type} (N:Nat) (a463:ByteArray) (k0:ByteArray→ByteArray→Int→Bool→Option α):Option α :=
 strings_Cut N a463 (⟨#[101]⟩:ByteArray)
  (fun x464 x465 x466 =>
   strings_Cut N x464 (⟨#[46]⟩:ByteArray)
    (fun x467 x468 x469 =>
     impl_wholeDigits N x467
      (fun x492 =>
       let x493 := !x492
       bif x493 then
        k0 ByteArray.empty ByteArray.empty (0:Int) false
       else
        bif x469 then
         impl_isDigits N x468
          (fun x494 =>
           let x495 := !x494
           bif x495 then
            k0 ByteArray.empty ByteArray.empty (0:Int) false
           else
            let x496 := !x466
            bif x496 then
             k0 x467 x468 (0:Int) true
            else
             strings_CutPrefix N x465 (⟨#[45]⟩:ByteArray)
              (fun x507 x508 =>
               strconv_Atoi N x507
                (fun x509 =>
                 impl_wholeDigits N x507
                  (fun x510 =>
                   let x511 := !x510
                   bif x511 then
                    k0 ByteArray.empty ByteArray.empty (0:Int) false
                   else
                    let x512:=((x507.size:Nat):Int)
                    let x513:=(decide ((3:Int) < x512))
                    bif x513 then
                     k0 ByteArray.empty ByteArray.empty (0:Int) false
                    else
                     let x514:=(decide ((400:Int) < x509))
                     bif x514 then
                      k0 ByteArray.empty ByteArray.empty (0:Int) false
                     else
                      bif x508 then
                       let x515:=(decide (x509=(0:Int)))
                       bif x515 then
                        k0 ByteArray.empty ByteArray.empty (0:Int) false
                       else
                        impl_literal_J11 N x467 x468 x508 x509
                         (fun x521 x522 x523 =>
                          k0 x521 x522 x523 true)
                      else
                       impl_literal_J11 N x467 x468 x508 x509
                        (fun x524 x525 x526 =>
                         k0 x524 x525 x526 true)))
                (fun _ =>
                 k0 ByteArray.empty ByteArray.empty (0:Int) false)))
        else
         let x528 := !x466
         bif x528 then
          k0 x467 x468 (0:Int) true
         else
          strings_CutPrefix N x465 (⟨#[45]⟩:ByteArray)
           (fun x529 x530 =>
            strconv_Atoi N x529
             (fun x531 =>
              impl_wholeDigits N x529
               (fun x532 =>
                let x533 := !x532
                bif x533 then
                 k0 ByteArray.empty ByteArray.empty (0:Int) false
                else
                 let x534:=((x529.size:Nat):Int)
                 let x535:=(decide ((3:Int) < x534))
                 bif x535 then
                  k0 ByteArray.empty ByteArray.empty (0:Int) false
                 else
                  let x536:=(decide ((400:Int) < x531))
                  bif x536 then
                   k0 ByteArray.empty ByteArray.empty (0:Int) false
                  else
                   bif x530 then
                    let x537:=(decide (x531=(0:Int)))
                    bif x537 then
                     k0 ByteArray.empty ByteArray.empty (0:Int) false
                    else
                     impl_literal_J11 N x467 x468 x530 x531
                      (fun x538 x539 x540 =>
                       k0 x538 x539 x540 true)
                   else
                    impl_literal_J11 N x467 x468 x530 x531
                     (fun x541 x542 x543 =>
                      k0 x541 x542 x543 true)))
             (fun _ =>
              k0 ByteArray.empty ByteArray.empty (0:Int) false)))))
noncomputable def impl_literal {α:Type}:=lockF (@impl_literal.b α)
theorem impl_literal.eq:@impl_literal=@impl_literal.b:=funext fun α=>lockF_eq _

noncomputable def impl_DecOk.b {α:Type} (N:Nat) (a462:ByteArray) (k0:Bool→Option α):Option α :=
 impl_literal N a462
  (fun _ _ _ x548 =>
   bif x548 then
    let x549:=((a462.size:Nat):Int)
    let x550:=(decide (x549≤(60:Int)))
    k0 x550
   else
    k0 false)
noncomputable def impl_DecOk {α:Type}:=lockF (@impl_DecOk.b α)
theorem impl_DecOk.eq:@impl_DecOk=@impl_DecOk.b:=funext fun α=>lockF_eq _

noncomputable def impl_LangNumOk.b {α:Type} (N:Nat) (a461:ByteArray) (k0:Bool→Option α):Option α :=
 impl_DecOk N a461
  (fun x551 =>
   bif x551 then
    let x552:=((a461.size:Nat):Int)
    let x553:=(decide (x552≤(60:Int)))
    k0 x553
   else
    k0 false)
noncomputable def impl_LangNumOk {α:Type}:=lockF (@impl_LangNumOk.b α)
theorem impl_LangNumOk.eq:@impl_LangNumOk=@impl_LangNumOk.b:=funext fun α=>lockF_eq _

noncomputable def impl_in.b {α:Type} (N:Nat) (a594:Int) (a595:Int) (a596:Int) (k0:Bool→Option α):Option α :=
 let x597:=decide (a595≤a594)
 bif x597 then
  let x598:=decide (a594≤a596)
  k0 x598
 else
  k0 false
noncomputable def impl_in {α:Type}:=lockF (@impl_in.b α)
theorem impl_in.eq:@impl_in=@impl_in.b:=funext fun α=>lockF_eq _

noncomputable def impl_wordOk_L0r {α:Type} (N:Nat) (next:ByteArray→Int→Int→Option α) (k0:Bool→Option α) (k1:ByteArray→Option α) (v577:ByteArray) (v578:Int) (v579:Int):Option α :=
 let x580:=decide (v579 < v578)
 bif x580 then
  bif (decide (v579 < (0:Int))) then
   none
  else
   match (v577[v579.toNat]?:Option UInt8) with
   | some x581 =>
    let x582:=((x581.toNat:Nat):Int)
    impl_isLetter N x582
     (fun x583 =>
      let x584 := !x583
      bif x584 then
       bif (decide (v579 < (0:Int))) then
        none
       else
        match (v577[v579.toNat]?:Option UInt8) with
        | some x585 =>
         let x586:=((x585.toNat:Nat):Int)
         impl_isFigure N x586
          (fun x587 =>
           let x588 := !x587
           bif x588 then
            k0 false
           else
            let x589:=(IntKind.i64.wrap (v579 + (1:Int)))
            next v577 v578 x589)
        | none=>none
      else
       let x590:=(IntKind.i64.wrap (v579 + (1:Int)))
       next v577 v578 x590)
   | none=>none
 else
  k1 v577
noncomputable def impl_wordOk_L0.b {α:Type}:=fun N n v577 v578 v579 k0 k1=>loopN (fun next=>@impl_wordOk_L0r α N next k0 k1) (fun _ _ _=>none) n v577 v578 v579
noncomputable def impl_wordOk_L0 {α:Type}:=lockF (@impl_wordOk_L0.b α)
theorem impl_wordOk_L0.eq:@impl_wordOk_L0=@impl_wordOk_L0.b:=funext fun α=>lockF_eq _
theorem impl_wordOk_L0.zero {α:Type} (N v577 v578 v579 k0 k1):@impl_wordOk_L0 α N 0 v577 v578 v579 k0 k1=none:=by rw [impl_wordOk_L0.eq]; rfl
theorem impl_wordOk_L0.succ {α:Type} (N n v577 v578 v579 k0 k1):@impl_wordOk_L0 α N (n + 1) v577 v578 v579 k0 k1=impl_wordOk_L0r N (fun y0 y1 y2=>impl_wordOk_L0 N n y0 y1 y2 k0 k1) k0 k1 v577 v578 v579:=by rw [impl_wordOk_L0.eq]; rfl
noncomputable def impl_wordOk.b {α:Type} (N:Nat) (a575:ByteArray) (k0:Bool→Option α):Option α :=
 let x576:=((a575.size:Nat):Int)
 impl_wordOk_L0 N N a575 x576 (0:Int)
  (fun x591 =>
   k0 x591)
  (fun x592 =>
   let x593:=((x592.size:Nat):Int)
   impl_in N x593 (1:Int) (8:Int)
    (fun x599 =>
     bif x599 then
      match (x592[0]?:Option UInt8) with
      | some x600 =>
       let x601:=((x600.toNat:Nat):Int)
       impl_isLetter N x601
        (fun x602 =>
         k0 x602)
      | none=>none
     else
      k0 false))
noncomputable def impl_wordOk {α:Type}:=lockF (@impl_wordOk.b α)
theorem impl_wordOk.eq:@impl_wordOk=@impl_wordOk.b:=funext fun α=>lockF_eq _

noncomputable def slices_Clip_impl_LangToken_impl_LangToken.b {α:Type} (N:Nat) (a619:List (Int×ByteArray×Unit)) (k0:List (Int×ByteArray×Unit)→Option α):Option α :=
 let x620:=((a619.length:Nat):Int)
 let x621:=((a619.length:Nat):Int)
 bif (decide ((0:Int)≤x621)) then
  bif (decide (x621≤((a619.length:Nat):Int))) then
   bif (decide ((0:Int)≤x620)) then
    bif (decide (x620≤((x621.toNat:Nat):Int))) then
     let x622:=a619.take x620.toNat
     k0 x622
    else
     none
   else
    none
  else
   none
 else
  none
noncomputable def slices_Clip_impl_LangToken_impl_LangToken {α:Type}:=lockF (@slices_Clip_impl_LangToken_impl_LangToken.b α)
theorem slices_Clip_impl_LangToken_impl_LangToken.eq:@slices_Clip_impl_LangToken_impl_LangToken=@slices_Clip_impl_LangToken_impl_LangToken.b:=funext fun α=>lockF_eq _

noncomputable def impl_LangTokens_J12.b {α:Type} (N:Nat) (v454:ByteArray) (v455:Bool) (v456:List (Int×ByteArray×Unit)) (v457:Int×ByteArray×Unit) (k0:ByteArray→Bool→List (Int×ByteArray×Unit)→(Int×ByteArray×Unit)→Option α):Option α :=
 match (v454[0]?:Option UInt8) with
 | some x458 =>
  let x459:=((x458.toNat:Nat):Int)
  impl_isFigure N x459
   (fun x460 =>
    bif x460 then
     bif v455 then
      k0 v454 true v456 ((2:Int),(v457.2.1,()))
     else
      impl_LangNumOk N v457.2.1
       (fun x554 =>
        let x555 := !x554
        k0 v454 x555 v456 ((2:Int),(v457.2.1,())))
    else
     k0 v454 v455 v456 v457)
 | none=>none
noncomputable def impl_LangTokens_J12 {α:Type}:=lockF (@impl_LangTokens_J12.b α)
theorem impl_LangTokens_J12.eq:@impl_LangTokens_J12=@impl_LangTokens_J12.b:=funext fun α=>lockF_eq _
noncomputable def impl_LangTokens_J10.b {α:Type} (N:Nat) (v410:ByteArray) (v411:Bool) (v412:List (Int×ByteArray×Unit)) (v413:Int×ByteArray×Unit) (k0:ByteArray→Bool→List (Int×ByteArray×Unit)→(Int×ByteArray×Unit)→Option α):Option α :=
 match (v410[0]?:Option UInt8) with
 | some x414 =>
  let x415:=((x414.toNat:Nat):Int)
  impl_isLetter N x415
   (fun x419 =>
    bif x419 then
     impl_wordLength N v410
      (fun x452 =>
       bif (decide ((0:Int)≤x452)) then
        bif (decide (x452≤((v410.size:Nat):Int))) then
         let x453:=v410.extract 0 x452.toNat
         impl_LangTokens_J12 N v410 v411 v412 ((1:Int),(x453,()))
          (fun x556 x557 x558 x559 =>
           k0 x556 x557 x558 x559)
        else
         none
       else
        none)
    else
     match (v410[0]?:Option UInt8) with
     | some x560 =>
      let x561:=((x560.toNat:Nat):Int)
      impl_isFigure N x561
       (fun x562 =>
        bif x562 then
         impl_wordLength N v410
          (fun x563 =>
           bif (decide ((0:Int)≤x563)) then
            bif (decide (x563≤((v410.size:Nat):Int))) then
             let x564:=v410.extract 0 x563.toNat
             impl_LangTokens_J12 N v410 v411 v412 ((1:Int),(x564,()))
              (fun x565 x566 x567 x568 =>
               k0 x565 x566 x567 x568)
            else
             none
           else
            none)
        else
         k0 v410 v411 v412 v413)
     | none=>none)
 | none=>none
noncomputable def impl_LangTokens_J10 {α:Type}:=lockF (@impl_LangTokens_J10.b α)
theorem impl_LangTokens_J10.eq:@impl_LangTokens_J10=@impl_LangTokens_J10.b:=funext fun α=>lockF_eq _
noncomputable def impl_LangTokens_L0r {α:Type} (N:Nat) (next:ByteArray→Bool→List (Int×ByteArray×Unit)→Option α) (k0:Int→List (Int×ByteArray×Unit)→Option α) (k1:Bool→List (Int×ByteArray×Unit)→Option α) (v377:ByteArray) (v378:Bool) (v379:List (Int×ByteArray×Unit)):Option α :=
 let x380 := !eqS v377 ByteArray.empty
 bif x380 then
  match (v377[0]?:Option UInt8) with
  | some x381 =>
   let x382:=((x381.toNat:Nat):Int)
   let x383:=(decide (x382=(32:Int)))
   bif x383 then
    bif (decide ((1:Int)≤((v377.size:Nat):Int))) then
     let x384:=v377.extract 1 v377.size
     next x384 v378 v379
    else
     none
   else
    impl_signOf N v377
     (fun x409 =>
      impl_LangTokens_J10 N v377 v378 v379 ((3:Int),(x409,()))
       (fun x569 x570 x571 x572 =>
        let x573:=eqS x572.2.1 ByteArray.empty
        bif x573 then
         k0 (2:Int) []
        else
         let x574:=(decide (x572.1=(1:Int)))
         bif x574 then
          impl_wordOk N x572.2.1
           (fun x603 =>
            let x604 := !x603
            bif x604 then
             k0 (2:Int) []
            else
             let x605:=[x572]
             bif decide (x571.length + x605.length≤5864062014805) then
              let x606:=x571++x605
              let x607:=((x572.2.1.size:Nat):Int)
              bif (decide ((0:Int)≤x607)) then
               bif (decide (x607≤((x569.size:Nat):Int))) then
                let x608:=x569.extract x607.toNat x569.size
                next x608 x570 x606
               else
                none
              else
               none
             else
              none)
         else
          let x609:=[x572]
          bif decide (x571.length + x609.length≤5864062014805) then
           let x610:=x571++x609
           let x611:=((x572.2.1.size:Nat):Int)
           bif (decide ((0:Int)≤x611)) then
            bif (decide (x611≤((x569.size:Nat):Int))) then
             let x612:=x569.extract x611.toNat x569.size
             next x612 x570 x610
            else
             none
           else
            none
          else
           none))
  | none=>none
 else
  k1 v378 v379
noncomputable def impl_LangTokens_L0.b {α:Type}:=fun N n v377 v378 v379 k0 k1=>loopN (fun next=>@impl_LangTokens_L0r α N next k0 k1) (fun _ _ _=>none) n v377 v378 v379
noncomputable def impl_LangTokens_L0 {α:Type}:=lockF (@impl_LangTokens_L0.b α)
theorem impl_LangTokens_L0.eq:@impl_LangTokens_L0=@impl_LangTokens_L0.b:=funext fun α=>lockF_eq _
theorem impl_LangTokens_L0.zero {α:Type} (N v377 v378 v379 k0 k1):@impl_LangTokens_L0 α N 0 v377 v378 v379 k0 k1=none:=by rw [impl_LangTokens_L0.eq]; rfl
theorem impl_LangTokens_L0.succ {α:Type} (N n v377 v378 v379 k0 k1):@impl_LangTokens_L0 α N (n + 1) v377 v378 v379 k0 k1=impl_LangTokens_L0r N (fun y0 y1 y2=>impl_LangTokens_L0 N n y0 y1 y2 k0 k1) k0 k1 v377 v378 v379:=by rw [impl_LangTokens_L0.eq]; rfl
noncomputable def impl_LangTokens.b {α:Type} (N:Nat) (a358:ByteArray) (k0:Int→List (Int×ByteArray×Unit)→Option α):Option α :=
 let x359:=((a358.size:Nat):Int)
 let x360:=(decide ((1000:Int) < x359))
 bif x360 then
  k0 (1:Int) []
 else
  strings_Cut N a358 (⟨#[35]⟩:ByteArray)
   (fun x374 _ _ =>
    impl_LangTokens_L0 N N x374 false []
     (fun x613 x614 =>
      k0 x613 x614)
     (fun x615 x616 =>
      bif x615 then
       k0 (3:Int) []
      else
       let x617:=((x616.length:Nat):Int)
       let x618:=(decide ((300:Int) < x617))
       bif x618 then
        k0 (5:Int) []
       else
        slices_Clip_impl_LangToken_impl_LangToken N x616
         (fun x623 =>
          k0 (0:Int) x623)))
noncomputable def impl_LangTokens {α:Type}:=lockF (@impl_LangTokens.b α)
theorem impl_LangTokens.eq:@impl_LangTokens=@impl_LangTokens.b:=funext fun α=>lockF_eq _

noncomputable def laws_eqLangToken.b {α:Type} (N:Nat) (a638:Int×ByteArray×Unit) (a639:Int×ByteArray×Unit) (k0:Bool→Option α):Option α :=
 let x640 := !(decide (a638.1=a639.1))
 bif x640 then
  k0 false
 else
  let x641 := !eqS a638.2.1 a639.2.1
  bif x641 then
   k0 false
  else
   k0 true
noncomputable def laws_eqLangToken {α:Type}:=lockF (@laws_eqLangToken.b α)
theorem laws_eqLangToken.eq:@laws_eqLangToken=@laws_eqLangToken.b:=funext fun α=>lockF_eq _

noncomputable def laws_eqLangTokenS_L0r {α:Type} (N:Nat) (next:List (Int×ByteArray×Unit)→List (Int×ByteArray×Unit)→Int→Option α) (k0:Bool→Option α) (k1:Option α) (v631:List (Int×ByteArray×Unit)) (v632:List (Int×ByteArray×Unit)) (v633:Int):Option α :=
 let x634:=((v631.length:Nat):Int)
 let x635:=decide (v633 < x634)
 bif x635 then
  bif (decide (v633 < (0:Int))) then
   none
  else
   match v631[v633.toNat]? with
   | some x636 =>
    bif (decide (v633 < (0:Int))) then
     none
    else
     match v632[v633.toNat]? with
     | some x637 =>
      laws_eqLangToken N x636 x637
       (fun x642 =>
        let x643 := !x642
        bif x643 then
         k0 false
        else
         let x644:=(IntKind.i64.wrap (v633 + (1:Int)))
         next v631 v632 x644)
     | none=>none
   | none=>none
 else
  k1
noncomputable def laws_eqLangTokenS_L0.b {α:Type}:=fun N n v631 v632 v633 k0 k1=>loopN (fun next=>@laws_eqLangTokenS_L0r α N next k0 k1) (fun _ _ _=>none) n v631 v632 v633
noncomputable def laws_eqLangTokenS_L0 {α:Type}:=lockF (@laws_eqLangTokenS_L0.b α)
theorem laws_eqLangTokenS_L0.eq:@laws_eqLangTokenS_L0=@laws_eqLangTokenS_L0.b:=funext fun α=>lockF_eq _
theorem laws_eqLangTokenS_L0.zero {α:Type} (N v631 v632 v633 k0 k1):@laws_eqLangTokenS_L0 α N 0 v631 v632 v633 k0 k1=none:=by rw [laws_eqLangTokenS_L0.eq]; rfl
theorem laws_eqLangTokenS_L0.succ {α:Type} (N n v631 v632 v633 k0 k1):@laws_eqLangTokenS_L0 α N (n + 1) v631 v632 v633 k0 k1=laws_eqLangTokenS_L0r N (fun y0 y1 y2=>laws_eqLangTokenS_L0 N n y0 y1 y2 k0 k1) k0 k1 v631 v632 v633:=by rw [laws_eqLangTokenS_L0.eq]; rfl
noncomputable def laws_eqLangTokenS.b {α:Type} (N:Nat) (a626:List (Int×ByteArray×Unit)) (a627:List (Int×ByteArray×Unit)) (k0:Bool→Option α):Option α :=
 let x628:=((a626.length:Nat):Int)
 let x629:=((a627.length:Nat):Int)
 let x630 := !(decide (x628=x629))
 bif x630 then
  k0 false
 else
  laws_eqLangTokenS_L0 N N a626 a627 (0:Int)
   (fun x645 =>
    k0 x645)
   (
    k0 true)
noncomputable def laws_eqLangTokenS {α:Type}:=lockF (@laws_eqLangTokenS.b α)
theorem laws_eqLangTokenS.eq:@laws_eqLangTokenS=@laws_eqLangTokenS.b:=funext fun α=>lockF_eq _

noncomputable def laws_markText_L0r {α:Type} (N:Nat) (next:Int→ByteArray→Option α) (k0:ByteArray→Option α) (v661:Int) (v662:ByteArray):Option α :=
 let x663:=(decide ((0:Int) < v661))
 bif x663 then
  let x664:=(Int.tmod v661 (10:Int))
  let x665:=(IntKind.i64.wrap ((48:Int) + x664))
  let x666:=IntKind.u8.wrap x665
  let x667:=[x666]
  let x668:=bytesOf x667
  bif decide (x668.size + v662.size≤9223372036854775807) then
   let x669:=x668++v662
   let x670:=(IntKind.i64.wrap (Int.tdiv v661 (10:Int)))
   next x670 x669
  else
   none
 else
  k0 v662
noncomputable def laws_markText_L0.b {α:Type}:=fun N n v661 v662 k0=>loopN (fun next=>@laws_markText_L0r α N next k0) (fun _ _=>none) n v661 v662
noncomputable def laws_markText_L0 {α:Type}:=lockF (@laws_markText_L0.b α)
theorem laws_markText_L0.eq:@laws_markText_L0=@laws_markText_L0.b:=funext fun α=>lockF_eq _
theorem laws_markText_L0.zero {α:Type} (N v661 v662 k0):@laws_markText_L0 α N 0 v661 v662 k0=none:=by rw [laws_markText_L0.eq]; rfl
theorem laws_markText_L0.succ {α:Type} (N n v661 v662 k0):@laws_markText_L0 α N (n + 1) v661 v662 k0=laws_markText_L0r N (fun y0 y1=>laws_markText_L0 N n y0 y1 k0) k0 v661 v662:=by rw [laws_markText_L0.eq]; rfl
noncomputable def laws_markText.b {α:Type} (N:Nat) (a659:Int) (k0:ByteArray→Option α):Option α :=
 let x660:=(decide (a659≤(0:Int)))
 bif x660 then
  k0 (⟨#[109,48]⟩:ByteArray)
 else
  laws_markText_L0 N N a659 ByteArray.empty
   (fun x671 =>
    bif (decide ((⟨#[109]⟩:ByteArray).size + x671.size≤9223372036854775807)) then
     let x672:=((⟨#[109]⟩:ByteArray)++x671)
     k0 x672
    else
     none)
noncomputable def laws_markText {α:Type}:=lockF (@laws_markText.b α)
theorem laws_markText.eq:@laws_markText=@laws_markText.b:=funext fun α=>lockF_eq _

noncomputable def laws_markLangTokenS_L0r {α:Type} (N:Nat) (next:Int→Int→List (Int×ByteArray×Unit)→Option α) (k0:Int→List (Int×ByteArray×Unit)→Option α) (v651:Int) (v652:Int) (v653:List (Int×ByteArray×Unit)):Option α :=
 let x654:=((v653.length:Nat):Int)
 let x655:=decide (v652 < x654)
 bif x655 then
  bif (decide (v652 < (0:Int))) then
   none
  else
   bif decide (v652.toNat < v653.length) then
    match v653[v652.toNat]? with
    | some x656 =>
     let x657:=v653.set v652.toNat (v651,(x656.2.1,()))
     let x658:=(IntKind.i64.wrap (v651 + (1:Int)))
     laws_markText N x658
      (fun x673 =>
       bif (decide (v652 < (0:Int))) then
        none
       else
        bif decide (v652.toNat < x657.length) then
         match x657[v652.toNat]? with
         | some x674 =>
          let x675:=x657.set v652.toNat (x674.1,(x673,()))
          let x676:=(IntKind.i64.wrap (x658 + (1:Int)))
          let x677:=(IntKind.i64.wrap (v652 + (1:Int)))
          next x676 x677 x675
         | none=>none
        else
         none)
    | none=>none
   else
    none
 else
  k0 v651 v653
noncomputable def laws_markLangTokenS_L0.b {α:Type}:=fun N n v651 v652 v653 k0=>loopN (fun next=>@laws_markLangTokenS_L0r α N next k0) (fun _ _ _=>none) n v651 v652 v653
noncomputable def laws_markLangTokenS_L0 {α:Type}:=lockF (@laws_markLangTokenS_L0.b α)
theorem laws_markLangTokenS_L0.eq:@laws_markLangTokenS_L0=@laws_markLangTokenS_L0.b:=funext fun α=>lockF_eq _
theorem laws_markLangTokenS_L0.zero {α:Type} (N v651 v652 v653 k0):@laws_markLangTokenS_L0 α N 0 v651 v652 v653 k0=none:=by rw [laws_markLangTokenS_L0.eq]; rfl
theorem laws_markLangTokenS_L0.succ {α:Type} (N n v651 v652 v653 k0):@laws_markLangTokenS_L0 α N (n + 1) v651 v652 v653 k0=laws_markLangTokenS_L0r N (fun y0 y1 y2=>laws_markLangTokenS_L0 N n y0 y1 y2 k0) k0 v651 v652 v653:=by rw [laws_markLangTokenS_L0.eq]; rfl
noncomputable def laws_markLangTokenS.b {α:Type} (N:Nat) (a649:Int) (a650:List (Int×ByteArray×Unit)) (k0:Int→List (Int×ByteArray×Unit)→Option α):Option α :=
 laws_markLangTokenS_L0 N N a649 (0:Int) a650
  (fun x678 x679 =>
   k0 x678 x679)
noncomputable def laws_markLangTokenS {α:Type}:=lockF (@laws_markLangTokenS.b α)
theorem laws_markLangTokenS.eq:@laws_markLangTokenS=@laws_markLangTokenS.b:=funext fun α=>lockF_eq _

noncomputable def laws_heldLangTokenS_L0r {α:Type} (N:Nat) (next:List (Int×ByteArray×Unit)→Int→Int→Option α) (k0:Int→Option α) (k1:Int→Option α) (v684:List (Int×ByteArray×Unit)) (v685:Int) (v686:Int):Option α :=
 let x687:=((v684.length:Nat):Int)
 let x688:=decide (v686 < x687)
 bif x688 then
  bif (decide (v686 < (0:Int))) then
   none
  else
   match v684[v686.toNat]? with
   | some x689 =>
    let x690 := !(decide (x689.1=v685))
    bif x690 then
     k0 (-1:Int)
    else
     let x691:=(IntKind.i64.wrap (v685 + (1:Int)))
     bif (decide (v686 < (0:Int))) then
      none
     else
      match v684[v686.toNat]? with
      | some x692 =>
       laws_markText N x691
        (fun x693 =>
         let x694 := !eqS x692.2.1 x693
         bif x694 then
          k0 (-1:Int)
         else
          let x695:=(IntKind.i64.wrap (x691 + (1:Int)))
          let x696:=(IntKind.i64.wrap (v686 + (1:Int)))
          next v684 x695 x696)
      | none=>none
   | none=>none
 else
  k1 v685
noncomputable def laws_heldLangTokenS_L0.b {α:Type}:=fun N n v684 v685 v686 k0 k1=>loopN (fun next=>@laws_heldLangTokenS_L0r α N next k0 k1) (fun _ _ _=>none) n v684 v685 v686
noncomputable def laws_heldLangTokenS_L0 {α:Type}:=lockF (@laws_heldLangTokenS_L0.b α)
theorem laws_heldLangTokenS_L0.eq:@laws_heldLangTokenS_L0=@laws_heldLangTokenS_L0.b:=funext fun α=>lockF_eq _
theorem laws_heldLangTokenS_L0.zero {α:Type} (N v684 v685 v686 k0 k1):@laws_heldLangTokenS_L0 α N 0 v684 v685 v686 k0 k1=none:=by rw [laws_heldLangTokenS_L0.eq]; rfl
theorem laws_heldLangTokenS_L0.succ {α:Type} (N n v684 v685 v686 k0 k1):@laws_heldLangTokenS_L0 α N (n + 1) v684 v685 v686 k0 k1=laws_heldLangTokenS_L0r N (fun y0 y1 y2=>laws_heldLangTokenS_L0 N n y0 y1 y2 k0 k1) k0 k1 v684 v685 v686:=by rw [laws_heldLangTokenS_L0.eq]; rfl
noncomputable def laws_heldLangTokenS.b {α:Type} (N:Nat) (a682:List (Int×ByteArray×Unit)) (a683:Int) (k0:Int→Option α):Option α :=
 laws_heldLangTokenS_L0 N N a682 a683 (0:Int)
  (fun x697 =>
   k0 x697)
  (fun x698 =>
   k0 x698)
noncomputable def laws_heldLangTokenS {α:Type}:=lockF (@laws_heldLangTokenS.b α)
theorem laws_heldLangTokenS.eq:@laws_heldLangTokenS=@laws_heldLangTokenS.b:=funext fun α=>lockF_eq _

noncomputable def laws_FnExactLangTokens.b {α:Type} (N:Nat) (a1:ByteArray) (k0:Bool→Option α):Option α :=
 let x2:=((a1.size:Nat):Int)
 let x3:=(decide ((1048576:Int) < x2))
 bif x3 then
  k0 true
 else
  spec_LangTokens N a1
   (fun x356 x357 =>
    impl_LangTokens N a1
     (fun x624 x625 =>
      laws_eqLangTokenS N x625 x357
       (fun x646 =>
        let x647 := !x646
        bif x647 then
         k0 false
        else
         let x648 := !(decide (x624=x356))
         bif x648 then
          k0 false
         else
          laws_markLangTokenS N (1:Int) x625
           (fun x680 x681 =>
            laws_heldLangTokenS N x681 (1:Int)
             (fun x699 =>
              let x700:=(decide (x699 < (0:Int)))
              bif x700 then
               k0 false
              else
               let x701 := !(decide (x699=x680))
               bif x701 then
                k0 false
               else
                impl_LangTokens N a1
                 (fun x702 x703 =>
                  laws_eqLangTokenS N x703 x357
                   (fun x704 =>
                    let x705 := !x704
                    bif x705 then
                     k0 false
                    else
                     let x706 := !(decide (x702=x356))
                     bif x706 then
                      k0 false
                     else
                      laws_heldLangTokenS N x681 (1:Int)
                       (fun x707 =>
                        let x708:=(decide (x707 < (0:Int)))
                        bif x708 then
                         k0 false
                        else
                         let x709 := !(decide (x707=x680))
                         bif x709 then
                          k0 false
                         else
                          k0 true))))))))
noncomputable def laws_FnExactLangTokens {α:Type}:=lockF (@laws_FnExactLangTokens.b α)
theorem laws_FnExactLangTokens.eq:@laws_FnExactLangTokens=@laws_FnExactLangTokens.b:=funext fun α=>lockF_eq _

end
end Go.Proofs.YtnhbcpmmdblkjaaDoorAm
