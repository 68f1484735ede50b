/-
 The functions that the program computes,as the abstract machine tells them. Printed by amp.py.
-/
import Derived.Test.YtnhbcpmmdblkjaaGreatDoorAmc
namespace Go.Proofs.YtnhbcpmmdblkjaaGreatDoorAm
open Go
noncomputable section
set_option linter.unusedVariables false
set_option linter.unusedSimpArgs false

noncomputable def wcU.b {α:Type} (N:Nat) (v9:List Int) (k0:List Int→Option α):Option α :=
 let x10:=((v9.length:Nat):Int)
 let x11:=(decide ((2000:Int) < x10))
 bif x11 then
  bif (decide ((2000:Int)≤((v9.length:Nat):Int))) then
   let x12:=v9.take 2000
   k0 x12
  else
   none
 else
  k0 v9
noncomputable def wcU {α:Type}:=wy (@wcU.b α)
theorem wcU.eq:@wcU=@wcU.b:=funext fun α=>wb _
noncomputable def wdt.b {α:Type} (N:Nat) (a8:List Int) (k0:((List Int)×Int×Unit)→Option α):Option α :=
 wcU N a8
  (fun x13 =>
   k0 (x13,((0:Int),())))
noncomputable def wdt {α:Type}:=wy (@wdt.b α)
theorem wdt.eq:@wdt=@wdt.b:=funext fun α=>wb _

noncomputable def wcY.b {α:Type} (N:Nat) (v16:List Int) (k0:List Int→Option α):Option α :=
 let x17:=((v16.length:Nat):Int)
 let x18:=(decide ((2000:Int) < x17))
 bif x18 then
  bif (decide ((2000:Int)≤((v16.length:Nat):Int))) then
   let x19:=v16.take 2000
   k0 x19
  else
   none
 else
  k0 v16
noncomputable def wcY {α:Type}:=wy (@wcY.b α)
theorem wcY.eq:@wcY=@wcY.b:=funext fun α=>wb _
noncomputable def wdG.b {α:Type} (N:Nat) (a15:List Int) (k0:((List Int)×Int×Unit)→Option α):Option α :=
 wcY N a15
  (fun x20 =>
   k0 (x20,((0:Int),())))
noncomputable def wdG {α:Type}:=wy (@wdG.b α)
theorem wdG.eq:@wdG=@wdG.b:=funext fun α=>wb _

noncomputable def wt.b {α:Type} (N:Nat) (a23:Int) (a24:(List Int)×Int×Unit) (k0:Int→((List Int)×Int×Unit)→Option α):Option α :=
 let x25:=(IntKind.i64.wrap (a24.2.1 + (1:Int)))
 let x26:=(decide (a23 < (1:Int)))
 bif x26 then
  k0 (0:Int) (a24.1,(x25,()))
 else
  let x27:=((a24.1.length:Nat):Int)
  let x28:=(decide (x27=(0:Int)))
  bif x28 then
   k0 (0:Int) (a24.1,(x25,()))
  else
   let x29:=(IntKind.i64.wrap (x25 - (1:Int)))
   let x30:=((a24.1.length:Nat):Int)
   let x31:=decide (x29 < x30)
   bif x31 then
    bif (decide (x29 < (0:Int))) then
     none
    else
     match a24.1[x29.toNat]? with
     | some x32 =>
      let x33:=IntKind.i64.wrap x32
      bif (decide (a23=(0:Int))) then
       none
      else
       let x34:=Int.tmod x33 a23
       k0 x34 (a24.1,(x25,()))
     | none=>none
   else
    let x35:=((a24.1.length:Nat):Int)
    bif (decide (x35=(0:Int))) then
     none
    else
     let x36:=Int.tmod x29 x35
     bif (decide (x36 < (0:Int))) then
      none
     else
      match a24.1[x36.toNat]? with
      | some x37 =>
       let x38:=IntKind.i64.wrap x37
       let x39:=(IntKind.i64.wrap (x38 * (131:Int)))
       let x40:=(IntKind.i64.wrap (x29 * (7:Int)))
       let x41:=(IntKind.i64.wrap (x40 + (3:Int)))
       let x42:=((a24.1.length:Nat):Int)
       bif (decide (x42=(0:Int))) then
        none
       else
        let x43:=Int.tmod x41 x42
        bif (decide (x43 < (0:Int))) then
         none
        else
         match a24.1[x43.toNat]? with
         | some x44 =>
          let x45:=IntKind.i64.wrap x44
          let x46:=(IntKind.i64.wrap (x45 * (1117:Int)))
          let x47:=IntKind.i64.wrap (x39 + x46)
          let x48:=(IntKind.i64.wrap (x29 * (29:Int)))
          let x49:=IntKind.i64.wrap (x47 + x48)
          let x50:=((a24.1.length:Nat):Int)
          bif (decide (x50=(0:Int))) then
           none
          else
           let x51:=IntKind.i64.wrap (Int.tdiv x29 x50)
           let x52:=(IntKind.i64.wrap (x51 * (53:Int)))
           let x53:=IntKind.i64.wrap (x49 + x52)
           let x54:=(IntKind.i64.wrap (Int.tdiv x53 (64:Int)))
           let x55:=bitI .xor .i64 x53 x54
           bif (decide (a23=(0:Int))) then
            none
           else
            let x56:=Int.tmod x55 a23
            k0 x56 (a24.1,(x25,()))
         | none=>none
      | none=>none
noncomputable def wt {α:Type}:=wy (@wt.b α)
theorem wt.eq:@wt=@wt.b:=funext fun α=>wb _

noncomputable def wbA.b {α:Type} (N:Nat) (a22:(List Int)×Int×Unit) (k0:Int→((List Int)×Int×Unit)→Option α):Option α :=
 wt N (32:Int) a22
  (fun x57 x58 =>
   let x59:=(decide (x57 < (15:Int)))
   bif x59 then
    k0 (32:Int) x58
   else
    let x60:=(decide (x57 < (30:Int)))
    bif x60 then
     k0 (64:Int) x58
    else
     let x61:=[(0:Int),(63:Int),(16:Int),(-64:Int)]
     wt N (4:Int) x58
      (fun x62 x63 =>
       bif (decide (x62 < (0:Int))) then
        none
       else
        bif decide (x62.toNat < x61.length) then
         match x61[x62.toNat]? with
         | some x64 =>
          k0 x64 x63
         | none=>none
        else
         none))
noncomputable def wbA {α:Type}:=wy (@wbA.b α)
theorem wbA.eq:@wbA=@wbA.b:=funext fun α=>wb _

noncomputable def wu.b {α:Type} (N:Nat) (a68:Int) (a69:(List Int)×Int×Unit) (k0:Int→((List Int)×Int×Unit)→Option α):Option α :=
 let x70:=(IntKind.i64.wrap (a69.2.1 + (1:Int)))
 let x71:=(decide (a68 < (1:Int)))
 bif x71 then
  k0 (0:Int) (a69.1,(x70,()))
 else
  let x72:=((a69.1.length:Nat):Int)
  let x73:=(decide (x72=(0:Int)))
  bif x73 then
   k0 (0:Int) (a69.1,(x70,()))
  else
   let x74:=(IntKind.i64.wrap (x70 - (1:Int)))
   let x75:=((a69.1.length:Nat):Int)
   let x76:=decide (x74 < x75)
   bif x76 then
    bif (decide (x74 < (0:Int))) then
     none
    else
     match a69.1[x74.toNat]? with
     | some x77 =>
      let x78:=IntKind.i64.wrap x77
      bif (decide (a68=(0:Int))) then
       none
      else
       let x79:=Int.tmod x78 a68
       k0 x79 (a69.1,(x70,()))
     | none=>none
   else
    let x80:=((a69.1.length:Nat):Int)
    bif (decide (x80=(0:Int))) then
     none
    else
     let x81:=Int.tmod x74 x80
     bif (decide (x81 < (0:Int))) then
      none
     else
      match a69.1[x81.toNat]? with
      | some x82 =>
       let x83:=IntKind.i64.wrap x82
       let x84:=(IntKind.i64.wrap (x83 * (131:Int)))
       let x85:=(IntKind.i64.wrap (x74 * (7:Int)))
       let x86:=(IntKind.i64.wrap (x85 + (3:Int)))
       let x87:=((a69.1.length:Nat):Int)
       bif (decide (x87=(0:Int))) then
        none
       else
        let x88:=Int.tmod x86 x87
        bif (decide (x88 < (0:Int))) then
         none
        else
         match a69.1[x88.toNat]? with
         | some x89 =>
          let x90:=IntKind.i64.wrap x89
          let x91:=(IntKind.i64.wrap (x90 * (1117:Int)))
          let x92:=IntKind.i64.wrap (x84 + x91)
          let x93:=(IntKind.i64.wrap (x74 * (29:Int)))
          let x94:=IntKind.i64.wrap (x92 + x93)
          let x95:=((a69.1.length:Nat):Int)
          bif (decide (x95=(0:Int))) then
           none
          else
           let x96:=IntKind.i64.wrap (Int.tdiv x74 x95)
           let x97:=(IntKind.i64.wrap (x96 * (53:Int)))
           let x98:=IntKind.i64.wrap (x94 + x97)
           let x99:=(IntKind.i64.wrap (Int.tdiv x98 (64:Int)))
           let x100:=bitI .xor .i64 x98 x99
           bif (decide (a68=(0:Int))) then
            none
           else
            let x101:=Int.tmod x100 a68
            k0 x101 (a69.1,(x70,()))
         | none=>none
      | none=>none
noncomputable def wu {α:Type}:=wy (@wu.b α)
theorem wu.eq:@wu=@wu.b:=funext fun α=>wb _

noncomputable def wg6 {α:Type} (N:Nat) (next:Int→List Int→Option α) (k0:List Int→Option α) (v106:Int) (v107:List Int):Option α :=
 let x108:=(decide ((0:Int) < v106))
 bif x108 then
  let x109:=(Int.tmod v106 (65536:Int))
  let x110:=IntKind.i64.wrap x109
  let x111:=[x110]
  bif decide (v107.length + x111.length≤8796093022208) then
   let x112:=v107++x111
   let x113:=(IntKind.u64.wrap (Int.tdiv v106 (65536:Int)))
   next x113 x112
  else
   none
 else
  k0 v107
noncomputable def wco.b {α:Type}:=fun N n v106 v107 k0=>we2 (fun next=>@wg6 α N next k0) (fun _ _=>none) n v106 v107
noncomputable def wco {α:Type}:=wy (@wco.b α)
theorem wco.eq:@wco=@wco.b:=funext fun α=>wb _
theorem wco.zero {α:Type} (N v106 v107 k0):@wco α N 0 v106 v107 k0=none:=by rw [wco.eq]; rfl
theorem wco.succ {α:Type} (N n v106 v107 k0):@wco α N (n + 1) v106 v107 k0=wg6 N (fun y0 y1=>wco N n y0 y1 k0) k0 v106 v107:=by rw [wco.eq]; rfl
noncomputable def wdB.b {α:Type} (N:Nat) (a105:Int) (k0:List Int→Option α):Option α :=
 wco N N a105 []
  (fun x114 =>
   k0 x114)
noncomputable def wdB {α:Type}:=wy (@wdB.b α)
theorem wdB.eq:@wdB=@wdB.b:=funext fun α=>wb _

noncomputable def wgl {α:Type} (N:Nat) (next:List Int→Int→Option α) (k0:Bool→Option α) (k1:List Int→Option α) (v199:List Int) (v200:Int):Option α :=
 let x201:=((v199.length:Nat):Int)
 let x202:=decide (v200 < x201)
 bif x202 then
  bif (decide (v200 < (0:Int))) then
   none
  else
   match v199[v200.toNat]? with
   | some x203 =>
    let x204:=(decide (x203 < (0:Int)))
    bif x204 then
     k0 false
    else
     bif (decide (v200 < (0:Int))) then
      none
     else
      match v199[v200.toNat]? with
      | some x205 =>
       let x206:=(decide ((65536:Int)≤x205))
       bif x206 then
        k0 false
       else
        let x207:=(IntKind.i64.wrap (v200 + (1:Int)))
        next v199 x207
      | none=>none
   | none=>none
 else
  k1 v199
noncomputable def wcb.b {α:Type}:=fun N n v199 v200 k0 k1=>we2 (fun next=>@wgl α N next k0 k1) (fun _ _=>none) n v199 v200
noncomputable def wcb {α:Type}:=wy (@wcb.b α)
theorem wcb.eq:@wcb=@wcb.b:=funext fun α=>wb _
theorem wcb.zero {α:Type} (N v199 v200 k0 k1):@wcb α N 0 v199 v200 k0 k1=none:=by rw [wcb.eq]; rfl
theorem wcb.succ {α:Type} (N n v199 v200 k0 k1):@wcb α N (n + 1) v199 v200 k0 k1=wgl N (fun y0 y1=>wcb N n y0 y1 k0 k1) k0 k1 v199 v200:=by rw [wcb.eq]; rfl
noncomputable def wd3.b {α:Type} (N:Nat) (a196:List Int) (k0:Bool→Option α):Option α :=
 let x197:=((a196.length:Nat):Int)
 let x198:=(decide ((256:Int) < x197))
 bif x198 then
  k0 false
 else
  wcb N N a196 (0:Int)
   (fun x208 =>
    k0 x208)
   (fun x209 =>
    let x210:=((x209.length:Nat):Int)
    let x211:=(decide (x210=(0:Int)))
    bif x211 then
     k0 true
    else
     let x212:=((x209.length:Nat):Int)
     let x213:=(IntKind.i64.wrap (x212 - (1:Int)))
     bif (decide (x213 < (0:Int))) then
      none
     else
      match x209[x213.toNat]? with
      | some x214 =>
       let x215:=(!(decide (x214=(0:Int))))
       k0 x215
      | none=>none)
noncomputable def wd3 {α:Type}:=wy (@wd3.b α)
theorem wd3.eq:@wd3=@wd3.b:=funext fun α=>wb _

noncomputable def wf5 {α:Type} (N:Nat) (next:List Int→Int→Option α) (k0:List Int→Int→Option α) (v248:List Int) (v249:Int):Option α :=
 let x250:=(decide ((0:Int) < v249))
 bif x250 then
  let x251:=(IntKind.i64.wrap (v249 - (1:Int)))
  bif (decide (x251 < (0:Int))) then
   none
  else
   match v248[x251.toNat]? with
   | some x252 =>
    let x253:=(decide (x252=(0:Int)))
    bif x253 then
     let x254:=(IntKind.i64.wrap (v249 - (1:Int)))
     next v248 x254
    else
     k0 v248 v249
   | none=>none
 else
  k0 v248 v249
noncomputable def wbK.b {α:Type}:=fun N n v248 v249 k0=>we2 (fun next=>@wf5 α N next k0) (fun _ _=>none) n v248 v249
noncomputable def wbK {α:Type}:=wy (@wbK.b α)
theorem wbK.eq:@wbK=@wbK.b:=funext fun α=>wb _
theorem wbK.zero {α:Type} (N v248 v249 k0):@wbK α N 0 v248 v249 k0=none:=by rw [wbK.eq]; rfl
theorem wbK.succ {α:Type} (N n v248 v249 k0):@wbK α N (n + 1) v248 v249 k0=wf5 N (fun y0 y1=>wbK N n y0 y1 k0) k0 v248 v249:=by rw [wbK.eq]; rfl
noncomputable def wfY {α:Type} (N:Nat) (next:List Int→Int→Int→List Int→Option α) (k0:List Int→Option α) (v257:List Int) (v258:Int) (v259:Int) (v260:List Int):Option α :=
 let x261:=decide (v259 < v258)
 bif x261 then
  bif (decide (v259 < (0:Int))) then
   none
  else
   match v257[v259.toNat]? with
   | some x262 =>
    let x263:=[x262]
    bif decide (v260.length + x263.length≤8796093022208) then
     let x264:=v260++x263
     let x265:=(IntKind.i64.wrap (v259 + (1:Int)))
     next v257 v258 x265 x264
    else
     none
   | none=>none
 else
  k0 v260
noncomputable def wbH.b {α:Type}:=fun N n v257 v258 v259 v260 k0=>we2 (fun next=>@wfY α N next k0) (fun _ _ _ _=>none) n v257 v258 v259 v260
noncomputable def wbH {α:Type}:=wy (@wbH.b α)
theorem wbH.eq:@wbH=@wbH.b:=funext fun α=>wb _
theorem wbH.zero {α:Type} (N v257 v258 v259 v260 k0):@wbH α N 0 v257 v258 v259 v260 k0=none:=by rw [wbH.eq]; rfl
theorem wbH.succ {α:Type} (N n v257 v258 v259 v260 k0):@wbH α N (n + 1) v257 v258 v259 v260 k0=wfY N (fun y0 y1 y2 y3=>wbH N n y0 y1 y2 y3 k0) k0 v257 v258 v259 v260:=by rw [wbH.eq]; rfl
noncomputable def wcs.b {α:Type} (N:Nat) (a246:List Int) (k0:List Int→Option α):Option α :=
 let x247:=((a246.length:Nat):Int)
 wbK N N a246 x247
  (fun x255 x256 =>
   wbH N N x255 x256 (0:Int) []
    (fun x266 =>
     k0 x266))
noncomputable def wcs {α:Type}:=wy (@wcs.b α)
theorem wcs.eq:@wcs=@wcs.b:=funext fun α=>wb _

noncomputable def wfh {α:Type} (N:Nat) (next:List Int→Int→Int→Int→List Int→Option α) (k0:Int→List Int→Option α) (v230:List Int) (v231:Int) (v232:Int) (v233:Int) (v234:List Int):Option α :=
 let x235:=(decide ((0:Int)≤v233))
 bif x235 then
  let x236:=(IntKind.i64.wrap (v232 * (65536:Int)))
  bif (decide (v233 < (0:Int))) then
   none
  else
   match v230[v233.toNat]? with
   | some x237 =>
    let x238:=IntKind.i64.wrap (x236 + x237)
    bif (decide (v231=(0:Int))) then
     none
    else
     let x239:=IntKind.i64.wrap (Int.tdiv x238 v231)
     bif (decide (v233 < (0:Int))) then
      none
     else
      bif decide (v233.toNat < v234.length) then
       match v234[v233.toNat]? with
       | some x240 =>
        let x241:=v234.set v233.toNat x239
        bif (decide (v231=(0:Int))) then
         none
        else
         let x242:=Int.tmod x238 v231
         let x243:=(IntKind.i64.wrap (v233 - (1:Int)))
         next v230 v231 x242 x243 x241
       | none=>none
      else
       none
   | none=>none
 else
  k0 v232 v234
noncomputable def wO.b {α:Type}:=fun N n v230 v231 v232 v233 v234 k0=>we2 (fun next=>@wfh α N next k0) (fun _ _ _ _ _=>none) n v230 v231 v232 v233 v234
noncomputable def wO {α:Type}:=wy (@wO.b α)
theorem wO.eq:@wO=@wO.b:=funext fun α=>wb _
theorem wO.zero {α:Type} (N v230 v231 v232 v233 v234 k0):@wO α N 0 v230 v231 v232 v233 v234 k0=none:=by rw [wO.eq]; rfl
theorem wO.succ {α:Type} (N n v230 v231 v232 v233 v234 k0):@wO α N (n + 1) v230 v231 v232 v233 v234 k0=wfh N (fun y0 y1 y2 y3 y4=>wO N n y0 y1 y2 y3 y4 k0) k0 v230 v231 v232 v233 v234:=by rw [wO.eq]; rfl
noncomputable def wcz.b {α:Type} (N:Nat) (a224:List Int) (a225:Int) (k0:Int→List Int→Option α):Option α :=
 let x226:=((a224.length:Nat):Int)
 bif (decide ((0:Int)≤x226)) then
  bif decide (x226≤x226) then
   bif (decide (x226≤((8796093022208:Nat):Int))) then
    let x227:=(List.replicate x226.toNat (0:Int))
    let x228:=((a224.length:Nat):Int)
    let x229:=(IntKind.i64.wrap (x228 - (1:Int)))
    wO N N a224 a225 (0:Int) x229 x227
     (fun x244 x245 =>
      wcs N x245
       (fun x267 =>
        k0 x244 x267))
   else
    none
  else
   none
 else
  none
noncomputable def wcz {α:Type}:=wy (@wcz.b α)
theorem wcz.eq:@wcz=@wcz.b:=funext fun α=>wb _

noncomputable def wgx {α:Type} (N:Nat) (next:List Int→List Int→Option α) (k0:List Int→Option α) (v220:List Int) (v221:List Int):Option α :=
 let x222:=((v220.length:Nat):Int)
 let x223:=(decide ((0:Int) < x222))
 bif x223 then
  wcz N v220 (10:Int)
   (fun x268 x269 =>
    let x270:=(IntKind.i64.wrap ((48:Int) + x268))
    let x271:=IntKind.u8.wrap x270
    let x272:=[x271]
    bif decide (v221.length + x272.length≤8796093022208) then
     let x273:=v221++x272
     next x269 x273
    else
     none)
 else
  k0 v221
noncomputable def wbw.b {α:Type}:=fun N n v220 v221 k0=>we2 (fun next=>@wgx α N next k0) (fun _ _=>none) n v220 v221
noncomputable def wbw {α:Type}:=wy (@wbw.b α)
theorem wbw.eq:@wbw=@wbw.b:=funext fun α=>wb _
theorem wbw.zero {α:Type} (N v220 v221 k0):@wbw α N 0 v220 v221 k0=none:=by rw [wbw.eq]; rfl
theorem wbw.succ {α:Type} (N n v220 v221 k0):@wbw α N (n + 1) v220 v221 k0=wgx N (fun y0 y1=>wbw N n y0 y1 k0) k0 v220 v221:=by rw [wbw.eq]; rfl
noncomputable def wfM {α:Type} (N:Nat) (next:Int→List Int→List Int→Option α) (k0:List Int→Option α) (v277:Int) (v278:List Int) (v279:List Int):Option α :=
 let x280:=(decide ((0:Int)≤v277))
 bif x280 then
  bif (decide (v277 < (0:Int))) then
   none
  else
   bif decide (v277.toNat < v278.length) then
    match v278[v277.toNat]? with
    | some x281 =>
     let x282:=[x281]
     bif decide (v279.length + x282.length≤8796093022208) then
      let x283:=v279++x282
      let x284:=(IntKind.i64.wrap (v277 - (1:Int)))
      next x284 v278 x283
     else
      none
    | none=>none
   else
    none
 else
  k0 v279
noncomputable def wbo.b {α:Type}:=fun N n v277 v278 v279 k0=>we2 (fun next=>@wfM α N next k0) (fun _ _ _=>none) n v277 v278 v279
noncomputable def wbo {α:Type}:=wy (@wbo.b α)
theorem wbo.eq:@wbo=@wbo.b:=funext fun α=>wb _
theorem wbo.zero {α:Type} (N v277 v278 v279 k0):@wbo α N 0 v277 v278 v279 k0=none:=by rw [wbo.eq]; rfl
theorem wbo.succ {α:Type} (N n v277 v278 v279 k0):@wbo α N (n + 1) v277 v278 v279 k0=wfM N (fun y0 y1 y2=>wbo N n y0 y1 y2 k0) k0 v277 v278 v279:=by rw [wbo.eq]; rfl
noncomputable def wdM.b {α:Type} (N:Nat) (a195:List Int) (k0:ByteArray→Option α):Option α :=
 wd3 N a195
  (fun x216 =>
   let x217 := !x216
   bif x217 then
    k0 ByteArray.empty
   else
    let x218:=((a195.length:Nat):Int)
    let x219:=(decide (x218=(0:Int)))
    bif x219 then
     k0 (⟨#[48]⟩:ByteArray)
    else
     wbw N N a195 []
      (fun x274 =>
       let x275:=((x274.length:Nat):Int)
       let x276:=(IntKind.i64.wrap (x275 - (1:Int)))
       wbo N N x276 x274 []
        (fun x285 =>
         let x286:=whd x285
         k0 x286)))
noncomputable def wdM {α:Type}:=wy (@wdM.b α)
theorem wdM.eq:@wdM=@wdM.b:=funext fun α=>wb _

noncomputable def wce.b {α:Type} (N:Nat) (v308:Int) (v309:(List Int)×Int×Unit) (k0:Int→((List Int)×Int×Unit)→Option α):Option α :=
 wu N (6:Int) v309
  (fun x310 x311 =>
   let x312:=(decide (x310=(0:Int)))
   bif x312 then
    wu N (3:Int) x311
     (fun x313 x314 =>
      let x315:=(IntKind.i64.wrap ((256:Int) - x313))
      k0 x315 x314)
   else
    k0 v308 x311)
noncomputable def wce {α:Type}:=wy (@wce.b α)
theorem wce.eq:@wce=@wce.b:=funext fun α=>wb _
noncomputable def wbk.b {α:Type} (N:Nat) (v304:Int) (v305:Int) (v306:(List Int)×Int×Unit) (k0:Int→((List Int)×Int×Unit)→Option α) (k1:((List Int)×Int×Unit)→List Int→Option α):Option α :=
 let x307:=(decide (v305=(1:Int)))
 bif x307 then
  wce N v304 v306
   (fun x316 x317 =>
    k0 x316 x317)
 else
  let x318:=(decide (v305=(2:Int)))
  bif x318 then
   wu N (12:Int) v306
    (fun x319 x320 =>
     let x321:=IntKind.u64.wrap x319
     wdB N x321
      (fun x322 =>
       k1 x320 x322))
  else
   k0 v304 v306
noncomputable def wbk {α:Type}:=wy (@wbk.b α)
theorem wbk.eq:@wbk=@wbk.b:=funext fun α=>wb _
noncomputable def wQ.b {α:Type} (N:Nat) (v298:Int) (v299:Int) (v300:(List Int)×Int×Unit) (k0:Int→((List Int)×Int×Unit)→Option α) (k1:((List Int)×Int×Unit)→List Int→Option α):Option α :=
 let x301:=(decide (v299=(0:Int)))
 bif x301 then
  wu N (24:Int) v300
   (fun x302 x303 =>
    k0 x302 x303)
 else
  wbk N v298 v299 v300
   (fun x323 x324 =>
    k0 x323 x324)
   (fun x325 x326 =>
    k1 x325 x326)
noncomputable def wQ {α:Type}:=wy (@wQ.b α)
theorem wQ.eq:@wQ=@wQ.b:=funext fun α=>wb _
noncomputable def wbt.b {α:Type} (N:Nat) (v343:Int) (v344:Int) (v345:Int) (v346:Int) (v347:(List Int)×Int×Unit) (v348:List Int) (k0:Int→Int→Int→Int→((List Int)×Int×Unit)→List Int→Option α):Option α :=
 let x349:=(decide (v344=(0:Int)))
 bif x349 then
  k0 v343 v344 v345 (65535:Int) v347 v348
 else
  k0 v343 v344 v345 v346 v347 v348
noncomputable def wbt {α:Type}:=wy (@wbt.b α)
theorem wbt.eq:@wbt=@wbt.b:=funext fun α=>wb _
noncomputable def wbs.b {α:Type} (N:Nat) (v356:Int) (v357:Int) (v358:Int) (v359:Int) (v360:(List Int)×Int×Unit) (v361:List Int) (k0:Int→Int→Int→Int→((List Int)×Int×Unit)→List Int→Option α):Option α :=
 let x362:=(decide (v357=(1:Int)))
 bif x362 then
  k0 v356 v357 v358 (0:Int) v360 v361
 else
  k0 v356 v357 v358 v359 v360 v361
noncomputable def wbs {α:Type}:=wy (@wbs.b α)
theorem wbs.eq:@wbs=@wbs.b:=funext fun α=>wb _
noncomputable def weu {α:Type} (N:Nat) (next:Int→Int→Int→((List Int)×Int×Unit)→List Int→Option α) (k0:Int→((List Int)×Int×Unit)→List Int→Option α) (v331:Int) (v332:Int) (v333:Int) (v334:(List Int)×Int×Unit) (v335:List Int):Option α :=
 let x336:=decide (v333 < v331)
 bif x336 then
  wu N (256:Int) v334
   (fun x337 x338 =>
    let x339:=(IntKind.i64.wrap (x337 * (256:Int)))
    wu N (256:Int) x338
     (fun x340 x341 =>
      let x342:=IntKind.i64.wrap (x339 + x340)
      wbt N v331 v332 v333 x342 x341 v335
       (fun x350 x351 x352 x353 x354 x355 =>
        wbs N x350 x351 x352 x353 x354 x355
         (fun x363 x364 x365 x366 x367 x368 =>
          let x369:=[x366]
          bif decide (x368.length + x369.length≤8796093022208) then
           let x370:=x368++x369
           let x371:=(IntKind.i64.wrap (x365 + (1:Int)))
           next x363 x364 x371 x367 x370
          else
           none))))
 else
  k0 v331 v334 v335
noncomputable def wN.b {α:Type}:=fun N n v331 v332 v333 v334 v335 k0=>we2 (fun next=>@weu α N next k0) (fun _ _ _ _ _=>none) n v331 v332 v333 v334 v335
noncomputable def wN {α:Type}:=wy (@wN.b α)
theorem wN.eq:@wN=@wN.b:=funext fun α=>wb _
theorem wN.zero {α:Type} (N v331 v332 v333 v334 v335 k0):@wN α N 0 v331 v332 v333 v334 v335 k0=none:=by rw [wN.eq]; rfl
theorem wN.succ {α:Type} (N n v331 v332 v333 v334 v335 k0):@wN α N (n + 1) v331 v332 v333 v334 v335 k0=weu N (fun y0 y1 y2 y3 y4=>wN N n y0 y1 y2 y3 y4 k0) k0 v331 v332 v333 v334 v335:=by rw [wN.eq]; rfl
noncomputable def wbf.b {α:Type} (N:Nat) (v375:Int) (v376:(List Int)×Int×Unit) (v377:List Int) (k0:((List Int)×Int×Unit)→List Int→Option α):Option α :=
 let x378:=(decide ((0:Int) < v375))
 bif x378 then
  let x379:=(IntKind.i64.wrap (v375 - (1:Int)))
  bif (decide (x379 < (0:Int))) then
   none
  else
   bif decide (x379.toNat < v377.length) then
    match v377[x379.toNat]? with
    | some x380 =>
     let x381:=(decide (x380=(0:Int)))
     bif x381 then
      let x382:=(IntKind.i64.wrap (v375 - (1:Int)))
      wu N (16:Int) v376
       (fun x383 x384 =>
        let x385:=IntKind.u64.wrap x383
        bif (decide (x385 < (0:Int))) then
         none
        else
         let x386:=(shlI .i64 (1:Int) x385)
         bif (decide (x382 < (0:Int))) then
          none
         else
          bif decide (x382.toNat < v377.length) then
           match v377[x382.toNat]? with
           | some x387 =>
            let x388:=v377.set x382.toNat x386
            k0 x384 x388
           | none=>none
          else
           none)
     else
      k0 v376 v377
    | none=>none
   else
    none
 else
  k0 v376 v377
noncomputable def wbf {α:Type}:=wy (@wbf.b α)
theorem wbf.eq:@wbf=@wbf.b:=funext fun α=>wb _
noncomputable def wc6.b {α:Type} (N:Nat) (a293:(List Int)×Int×Unit) (k0:((List Int)×Int×Unit)→List Int→Option α):Option α :=
 wu N (4:Int) a293
  (fun x294 x295 =>
   wu N (16:Int) x295
    (fun x296 x297 =>
     wQ N x294 x296 x297
      (fun x327 x328 =>
       wu N (5:Int) x328
        (fun x329 x330 =>
         wN N N x327 x329 (0:Int) x330 []
          (fun x372 x373 x374 =>
           wbf N x372 x373 x374
            (fun x389 x390 =>
             k0 x389 x390))))
      (fun x391 x392 =>
       k0 x391 x392)))
noncomputable def wc6 {α:Type}:=wy (@wc6.b α)
theorem wc6.eq:@wc6=@wc6.b:=funext fun α=>wb _

noncomputable def wby.b {α:Type} (N:Nat) (v288:ByteArray) (v289:(List Int)×Int×Unit) (k0:ByteArray→((List Int)×Int×Unit)→Option α):Option α :=
 wu N (8:Int) v289
  (fun x290 x291 =>
   let x292:=(decide (x290=(0:Int)))
   bif x292 then
    wc6 N x291
     (fun x393 x394 =>
      wdM N x394
       (fun x395 =>
        k0 x395 x393))
   else
    k0 v288 x291)
noncomputable def wby {α:Type}:=wy (@wby.b α)
theorem wby.eq:@wby=@wby.b:=funext fun α=>wb _
noncomputable def wbx.b {α:Type} (N:Nat) (v407:ByteArray) (v408:Int) (v409:(List Int)×Int×Unit) (k0:ByteArray→Int→((List Int)×Int×Unit)→Option α):Option α :=
 wu N (10:Int) v409
  (fun x410 x411 =>
   let x412:=(decide (x410=(0:Int)))
   bif x412 then
    wu N (50:Int) x411
     (fun x413 x414 =>
      k0 v407 x413 x414)
   else
    k0 v407 v408 x411)
noncomputable def wbx {α:Type}:=wy (@wbx.b α)
theorem wbx.eq:@wbx=@wbx.b:=funext fun α=>wb _
noncomputable def weB {α:Type} (N:Nat) (next:ByteArray→Int→Int→((List Int)×Int×Unit)→Option α) (k0:ByteArray→((List Int)×Int×Unit)→Option α) (v418:ByteArray) (v419:Int) (v420:Int) (v421:(List Int)×Int×Unit):Option α :=
 let x422:=decide (v420 < v419)
 bif x422 then
  wu N (10:Int) v421
   (fun x423 x424 =>
    let x425:=(IntKind.i64.wrap ((48:Int) + x423))
    let x426:=IntKind.u8.wrap x425
    let x427:=[x426]
    let x428:=whd x427
    bif decide (v418.size + x428.size≤9223372036854775807) then
     let x429:=v418++x428
     let x430:=(IntKind.i64.wrap (v420 + (1:Int)))
     next x429 v419 x430 x424
    else
     none)
 else
  k0 v418 v421
noncomputable def wD.b {α:Type}:=fun N n v418 v419 v420 v421 k0=>we2 (fun next=>@weB α N next k0) (fun _ _ _ _=>none) n v418 v419 v420 v421
noncomputable def wD {α:Type}:=wy (@wD.b α)
theorem wD.eq:@wD=@wD.b:=funext fun α=>wb _
theorem wD.zero {α:Type} (N v418 v419 v420 v421 k0):@wD α N 0 v418 v419 v420 v421 k0=none:=by rw [wD.eq]; rfl
theorem wD.succ {α:Type} (N n v418 v419 v420 v421 k0):@wD α N (n + 1) v418 v419 v420 v421 k0=weB N (fun y0 y1 y2 y3=>wD N n y0 y1 y2 y3 k0) k0 v418 v419 v420 v421:=by rw [wD.eq]; rfl
noncomputable def wbv.b {α:Type} (N:Nat) (v398:ByteArray) (v399:(List Int)×Int×Unit) (k0:ByteArray→((List Int)×Int×Unit)→Option α):Option α :=
 wu N (2:Int) v399
  (fun x400 x401 =>
   let x402:=(decide (x400=(0:Int)))
   bif x402 then
    bif (decide (v398.size + (⟨#[46]⟩:ByteArray).size≤9223372036854775807)) then
     let x403:=(v398++(⟨#[46]⟩:ByteArray))
     wu N (5:Int) x401
      (fun x404 x405 =>
       let x406:=(IntKind.i64.wrap ((1:Int) + x404))
       wbx N x403 x406 x405
        (fun x415 x416 x417 =>
         wD N N x415 x416 (0:Int) x417
          (fun x431 x432 =>
           k0 x431 x432)))
    else
     none
   else
    k0 v398 x401)
noncomputable def wbv {α:Type}:=wy (@wbv.b α)
theorem wbv.eq:@wbv=@wbv.b:=funext fun α=>wb _
noncomputable def wbj.b {α:Type} (N:Nat) (v435:ByteArray) (v436:(List Int)×Int×Unit) (k0:ByteArray→((List Int)×Int×Unit)→Option α):Option α :=
 wu N (3:Int) v436
  (fun x437 x438 =>
   let x439:=(decide (x437=(0:Int)))
   bif x439 then
    let x440:=[(⟨#[101]⟩:ByteArray),(⟨#[101,45]⟩:ByteArray)]
    wu N (2:Int) x438
     (fun x441 x442 =>
      bif (decide (x441 < (0:Int))) then
       none
      else
       bif decide (x441.toNat < x440.length) then
        match x440[x441.toNat]? with
        | some x443 =>
         bif decide (v435.size + x443.size≤9223372036854775807) then
          let x444:=v435++x443
          let x445:=[(0:Int),(1:Int),(5:Int),(30:Int),(399:Int),(400:Int),(401:Int),(1000:Int)]
          wu N (8:Int) x442
           (fun x446 x447 =>
            bif (decide (x446 < (0:Int))) then
             none
            else
             bif decide (x446.toNat < x445.length) then
              match x445[x446.toNat]? with
              | some x448 =>
               let x449:=IntKind.u64.wrap x448
               wdB N x449
                (fun x450 =>
                 wdM N x450
                  (fun x451 =>
                   bif decide (x444.size + x451.size≤9223372036854775807) then
                    let x452:=x444++x451
                    k0 x452 x447
                   else
                    none))
              | none=>none
             else
              none)
         else
          none
        | none=>none
       else
        none)
   else
    k0 v435 x438)
noncomputable def wbj {α:Type}:=wy (@wbj.b α)
theorem wbj.eq:@wbj=@wbj.b:=funext fun α=>wb _
noncomputable def wbl.b {α:Type} (N:Nat) (v471:ByteArray) (v472:Int) (v473:(List Int)×Int×Unit) (k0:ByteArray→((List Int)×Int×Unit)→Option α):Option α :=
 let x474:=(decide (v472=(2:Int)))
 bif x474 then
  let x475:=[ByteArray.empty,(⟨#[46,53]⟩:ByteArray),(⟨#[49,46]⟩:ByteArray),(⟨#[45,49]⟩:ByteArray),(⟨#[49,101]⟩:ByteArray),(⟨#[49,46,101,53]⟩:ByteArray),(⟨#[101,53]⟩:ByteArray),(⟨#[49,46,46,50]⟩:ByteArray)]
  wu N (8:Int) v473
   (fun x476 x477 =>
    bif (decide (x476 < (0:Int))) then
     none
    else
     bif decide (x476.toNat < x475.length) then
      match x475[x476.toNat]? with
      | some x478 =>
       k0 x478 x477
      | none=>none
     else
      none)
 else
  k0 v471 v473
noncomputable def wbl {α:Type}:=wy (@wbl.b α)
theorem wbl.eq:@wbl=@wbl.b:=funext fun α=>wb _
noncomputable def wbz.b {α:Type} (N:Nat) (v462:ByteArray) (v463:Int) (v464:(List Int)×Int×Unit) (k0:ByteArray→((List Int)×Int×Unit)→Option α):Option α :=
 let x465:=(decide (v463=(1:Int)))
 bif x465 then
  let x466:=[(⟨#[46]⟩:ByteArray),(⟨#[101]⟩:ByteArray),(⟨#[120]⟩:ByteArray),(⟨#[32]⟩:ByteArray),(⟨#[46,53]⟩:ByteArray),(⟨#[101,43,49]⟩:ByteArray),(⟨#[101,45,48]⟩:ByteArray),(⟨#[101,48,53]⟩:ByteArray)]
  wu N (8:Int) v464
   (fun x467 x468 =>
    bif (decide (x467 < (0:Int))) then
     none
    else
     bif decide (x467.toNat < x466.length) then
      match x466[x467.toNat]? with
      | some x469 =>
       bif decide (v462.size + x469.size≤9223372036854775807) then
        let x470:=v462++x469
        k0 x470 x468
       else
        none
      | none=>none
     else
      none)
 else
  wbl N v462 v463 v464
   (fun x479 x480 =>
    k0 x479 x480)
noncomputable def wbz {α:Type}:=wy (@wbz.b α)
theorem wbz.eq:@wbz=@wbz.b:=funext fun α=>wb _
noncomputable def wbh.b {α:Type} (N:Nat) (v457:ByteArray) (v458:Int) (v459:(List Int)×Int×Unit) (k0:ByteArray→((List Int)×Int×Unit)→Option α):Option α :=
 let x460:=(decide (v458=(0:Int)))
 bif x460 then
  bif (decide ((⟨#[48]⟩:ByteArray).size + v457.size≤9223372036854775807)) then
   let x461:=((⟨#[48]⟩:ByteArray)++v457)
   k0 x461 v459
  else
   none
 else
  wbz N v457 v458 v459
   (fun x481 x482 =>
    k0 x481 x482)
noncomputable def wbh {α:Type}:=wy (@wbh.b α)
theorem wbh.eq:@wbh=@wbh.b:=funext fun α=>wb _
noncomputable def wcn.b {α:Type} (N:Nat) (a67:(List Int)×Int×Unit) (k0:ByteArray→((List Int)×Int×Unit)→Option α):Option α :=
 wu N (2000:Int) a67
  (fun x102 x103 =>
   let x104:=IntKind.u64.wrap x102
   wdB N x104
    (fun x115 =>
     wdM N x115
      (fun x287 =>
       wby N x287 x103
        (fun x396 x397 =>
         wbv N x396 x397
          (fun x433 x434 =>
           wbj N x433 x434
            (fun x453 x454 =>
             wu N (20:Int) x454
              (fun x455 x456 =>
               wbh N x453 x455 x456
                (fun x483 x484 =>
                 k0 x483 x484))))))))
noncomputable def wcn {α:Type}:=wy (@wcn.b α)
theorem wcn.eq:@wcn=@wcn.b:=funext fun α=>wb _

noncomputable def wcT.b {α:Type} (N:Nat) (a7:List Int) (k0:Int→ByteArray→Option α):Option α :=
 wdt N a7
  (fun x14 =>
   wdG N a7
    (fun x21 =>
     wbA N x14
      (fun x65 _ =>
       wcn N x21
        (fun x485 _ =>
         k0 x65 x485))))
noncomputable def wcT {α:Type}:=wy (@wcT.b α)
theorem wcT.eq:@wcT=@wcT.b:=funext fun α=>wb _

-- prim wE
noncomputable def wbd.b {α:Type} (N:Nat) (a496:ByteArray) (a497:ByteArray) (k0:ByteArray→ByteArray→Bool→Option α):Option α :=
 wE N a496 a497
  (fun x498 =>
   let x499:=(decide ((0:Int)≤x498))
   bif x499 then
    bif (decide ((0:Int)≤x498)) then
     bif (decide (x498≤((a496.size:Nat):Int))) then
      let x500:=a496.extract 0 x498.toNat
      let x501:=((a497.size:Nat):Int)
      let x502:=IntKind.i64.wrap (x498 + x501)
      bif (decide ((0:Int)≤x502)) then
       bif (decide (x502≤((a496.size:Nat):Int))) then
        let x503:=a496.extract x502.toNat a496.size
        k0 x500 x503 true
       else
        none
      else
       none
     else
      none
    else
     none
   else
    k0 a496 ByteArray.empty false)
noncomputable def wbd {α:Type}:=wy (@wbd.b α)
theorem wbd.eq:@wbd=@wbd.b:=funext fun α=>wb _

noncomputable def wek.b {α:Type} (N:Nat) (a494:ByteArray) (a495:ByteArray) (k0:ByteArray→ByteArray→Bool→Option α):Option α :=
 wbd N a494 a495
  (fun x504 x505 x506 =>
   k0 x504 x505 x506)
noncomputable def wek {α:Type}:=wy (@wek.b α)
theorem wek.eq:@wek=@wek.b:=funext fun α=>wb _

noncomputable def wfr {α:Type} (N:Nat) (next:ByteArray→Int→Int→Option α) (k0:Bool→Option α) (k1:ByteArray→Option α) (v516:ByteArray) (v517:Int) (v518:Int):Option α :=
 let x519:=decide (v518 < v517)
 bif x519 then
  bif (decide (v518 < (0:Int))) then
   none
  else
   match (v516[v518.toNat]?:Option UInt8) with
   | some x520 =>
    let x521:=((x520.toNat:Nat):Int)
    let x522:=(decide (x521 < (48:Int)))
    bif x522 then
     k0 false
    else
     bif (decide (v518 < (0:Int))) then
      none
     else
      match (v516[v518.toNat]?:Option UInt8) with
      | some x523 =>
       let x524:=((x523.toNat:Nat):Int)
       let x525:=(decide ((57:Int) < x524))
       bif x525 then
        k0 false
       else
        let x526:=(IntKind.i64.wrap (v518 + (1:Int)))
        next v516 v517 x526
      | none=>none
   | none=>none
 else
  k1 v516
noncomputable def wZ.b {α:Type}:=fun N n v516 v517 v518 k0 k1=>we2 (fun next=>@wfr α N next k0 k1) (fun _ _ _=>none) n v516 v517 v518
noncomputable def wZ {α:Type}:=wy (@wZ.b α)
theorem wZ.eq:@wZ=@wZ.b:=funext fun α=>wb _
theorem wZ.zero {α:Type} (N v516 v517 v518 k0 k1):@wZ α N 0 v516 v517 v518 k0 k1=none:=by rw [wZ.eq]; rfl
theorem wZ.succ {α:Type} (N n v516 v517 v518 k0 k1):@wZ α N (n + 1) v516 v517 v518 k0 k1=wfr N (fun y0 y1 y2=>wZ N n y0 y1 y2 k0 k1) k0 k1 v516 v517 v518:=by rw [wZ.eq]; rfl
noncomputable def wdA.b {α:Type} (N:Nat) (a514:ByteArray) (k0:Bool→Option α):Option α :=
 let x515:=((a514.size:Nat):Int)
 wZ N N a514 x515 (0:Int)
  (fun x527 =>
   k0 x527)
  (fun x528 =>
   let x529 := !eqS x528 ByteArray.empty
   k0 x529)
noncomputable def wdA {α:Type}:=wy (@wdA.b α)
theorem wdA.eq:@wdA=@wdA.b:=funext fun α=>wb _

noncomputable def wbR.b {α:Type} (N:Nat) (a513:ByteArray) (k0:Bool→Option α):Option α :=
 wdA N a513
  (fun x530 =>
   bif x530 then
    let x531:=(eqS a513 (⟨#[48]⟩:ByteArray))
    bif x531 then
     k0 true
    else
     match (a513[0]?:Option UInt8) with
     | some x532 =>
      let x533:=((x532.toNat:Nat):Int)
      let x534:=(!(decide (x533=(48:Int))))
      k0 x534
     | none=>none
   else
    k0 false)
noncomputable def wbR {α:Type}:=wy (@wbR.b α)
theorem wbR.eq:@wbR=@wbR.b:=funext fun α=>wb _

noncomputable def wM.b {α:Type} (N:Nat) (a544:ByteArray) (a545:ByteArray) (k0:Bool→Option α):Option α :=
 let x546:=((a544.size:Nat):Int)
 let x547:=((a545.size:Nat):Int)
 let x548:=decide (x547≤x546)
 bif x548 then
  let x549:=((a545.size:Nat):Int)
  bif (decide ((0:Int)≤x549)) then
   bif (decide (x549≤((a544.size:Nat):Int))) then
    let x550:=a544.extract 0 x549.toNat
    let x551:=eqS x550 a545
    k0 x551
   else
    none
  else
   none
 else
  k0 false
noncomputable def wM {α:Type}:=wy (@wM.b α)
theorem wM.eq:@wM=@wM.b:=funext fun α=>wb _

noncomputable def wK.b {α:Type} (N:Nat) (a542:ByteArray) (a543:ByteArray) (k0:ByteArray→Bool→Option α):Option α :=
 wM N a542 a543
  (fun x552 =>
   let x553 := !x552
   bif x553 then
    k0 a542 false
   else
    let x554:=((a543.size:Nat):Int)
    bif (decide ((0:Int)≤x554)) then
     bif (decide (x554≤((a542.size:Nat):Int))) then
      let x555:=a542.extract x554.toNat a542.size
      k0 x555 true
     else
      none
    else
     none)
noncomputable def wK {α:Type}:=wy (@wK.b α)
theorem wK.eq:@wK=@wK.b:=funext fun α=>wb _

noncomputable def wb3.b {α:Type} (N:Nat) (a540:ByteArray) (a541:ByteArray) (k0:ByteArray→Bool→Option α):Option α :=
 wK N a540 a541
  (fun x556 x557 =>
   k0 x556 x557)
noncomputable def wb3 {α:Type}:=wy (@wb3.b α)
theorem wb3.eq:@wb3=@wb3.b:=funext fun α=>wb _

-- prim wcX
noncomputable def wbc.b {α:Type} (N:Nat) (v567:ByteArray) (v568:ByteArray) (v569:Bool) (v570:Int) (k0:ByteArray→ByteArray→Int→Option α):Option α :=
 bif v569 then
  let x571:=IntKind.i64.wrap (0 - v570)
  k0 v567 v568 x571
 else
  k0 v567 v568 v570
noncomputable def wbc {α:Type}:=wy (@wbc.b α)
theorem wbc.eq:@wbc=@wbc.b:=funext fun α=>wb _
noncomputable def wdZ.b {α:Type} (N:Nat) (a493:ByteArray) (k0:ByteArray→ByteArray→Int→Bool→Option α):Option α :=
 wek N a493 (⟨#[101]⟩:ByteArray)
  (fun x507 x508 x509 =>
   wek N x507 (⟨#[46]⟩:ByteArray)
    (fun x510 x511 x512 =>
     wbR N x510
      (fun x535 =>
       let x536 := !x535
       bif x536 then
        k0 ByteArray.empty ByteArray.empty (0:Int) false
       else
        bif x512 then
         wdA N x511
          (fun x537 =>
           let x538 := !x537
           bif x538 then
            k0 ByteArray.empty ByteArray.empty (0:Int) false
           else
            let x539 := !x509
            bif x539 then
             k0 x510 x511 (0:Int) true
            else
             wb3 N x508 (⟨#[45]⟩:ByteArray)
              (fun x558 x559 =>
               wcX N x558
                (fun x560 =>
                 wbR N x558
                  (fun x561 =>
                   let x562 := !x561
                   bif x562 then
                    k0 ByteArray.empty ByteArray.empty (0:Int) false
                   else
                    let x563:=((x558.size:Nat):Int)
                    let x564:=(decide ((3:Int) < x563))
                    bif x564 then
                     k0 ByteArray.empty ByteArray.empty (0:Int) false
                    else
                     let x565:=(decide ((400:Int) < x560))
                     bif x565 then
                      k0 ByteArray.empty ByteArray.empty (0:Int) false
                     else
                      bif x559 then
                       let x566:=(decide (x560=(0:Int)))
                       bif x566 then
                        k0 ByteArray.empty ByteArray.empty (0:Int) false
                       else
                        wbc N x510 x511 x559 x560
                         (fun x572 x573 x574 =>
                          k0 x572 x573 x574 true)
                      else
                       wbc N x510 x511 x559 x560
                        (fun x575 x576 x577 =>
                         k0 x575 x576 x577 true)))
                (fun _ =>
                 k0 ByteArray.empty ByteArray.empty (0:Int) false)))
        else
         let x579 := !x509
         bif x579 then
          k0 x510 x511 (0:Int) true
         else
          wb3 N x508 (⟨#[45]⟩:ByteArray)
           (fun x580 x581 =>
            wcX N x580
             (fun x582 =>
              wbR N x580
               (fun x583 =>
                let x584 := !x583
                bif x584 then
                 k0 ByteArray.empty ByteArray.empty (0:Int) false
                else
                 let x585:=((x580.size:Nat):Int)
                 let x586:=(decide ((3:Int) < x585))
                 bif x586 then
                  k0 ByteArray.empty ByteArray.empty (0:Int) false
                 else
                  let x587:=(decide ((400:Int) < x582))
                  bif x587 then
                   k0 ByteArray.empty ByteArray.empty (0:Int) false
                  else
                   bif x581 then
                    let x588:=(decide (x582=(0:Int)))
                    bif x588 then
                     k0 ByteArray.empty ByteArray.empty (0:Int) false
                    else
                     wbc N x510 x511 x581 x582
                      (fun x589 x590 x591 =>
                       k0 x589 x590 x591 true)
                   else
                    wbc N x510 x511 x581 x582
                     (fun x592 x593 x594 =>
                      k0 x592 x593 x594 true)))
             (fun _ =>
              k0 ByteArray.empty ByteArray.empty (0:Int) false)))))
noncomputable def wdZ {α:Type}:=wy (@wdZ.b α)
theorem wdZ.eq:@wdZ=@wdZ.b:=funext fun α=>wb _

noncomputable def we9.b {α:Type} (N:Nat) (a492:ByteArray) (k0:Bool→Option α):Option α :=
 wdZ N a492
  (fun _ _ _ x599 =>
   bif x599 then
    let x600:=((a492.size:Nat):Int)
    let x601:=(decide (x600≤(60:Int)))
    k0 x601
   else
    k0 false)
noncomputable def we9 {α:Type}:=wy (@we9.b α)
theorem we9.eq:@we9=@we9.b:=funext fun α=>wb _

noncomputable def wgO {α:Type} (N:Nat) (next:List Int→Option α) (k0:List Int→Option α) (v809:List Int):Option α :=
 let x810:=((v809.length:Nat):Int)
 let x811:=(decide ((0:Int) < x810))
 bif x811 then
  let x812:=((v809.length:Nat):Int)
  let x813:=(IntKind.i64.wrap (x812 - (1:Int)))
  bif (decide (x813 < (0:Int))) then
   none
  else
   match v809[x813.toNat]? with
   | some x814 =>
    let x815:=(decide (x814=(0:Int)))
    bif x815 then
     let x816:=((v809.length:Nat):Int)
     let x817:=(IntKind.i64.wrap (x816 - (1:Int)))
     bif (decide ((0:Int)≤x817)) then
      bif (decide (x817≤((v809.length:Nat):Int))) then
       let x818:=v809.take x817.toNat
       next x818
      else
       none
     else
      none
    else
     k0 v809
   | none=>none
 else
  k0 v809
noncomputable def wcC.b {α:Type}:=fun N n v809 k0=>we2 (fun next=>@wgO α N next k0) (fun _=>none) n v809
noncomputable def wcC {α:Type}:=wy (@wcC.b α)
theorem wcC.eq:@wcC=@wcC.b:=funext fun α=>wb _
theorem wcC.zero {α:Type} (N v809 k0):@wcC α N 0 v809 k0=none:=by rw [wcC.eq]; rfl
theorem wcC.succ {α:Type} (N n v809 k0):@wcC α N (n + 1) v809 k0=wgO N (fun y0=>wcC N n y0 k0) k0 v809:=by rw [wcC.eq]; rfl
noncomputable def wdk.b {α:Type} (N:Nat) (a808:List Int) (k0:List Int→Option α):Option α :=
 wcC N N a808
  (fun x819 =>
   k0 x819)
noncomputable def wdk {α:Type}:=wy (@wdk.b α)
theorem wdk.eq:@wdk=@wdk.b:=funext fun α=>wb _

noncomputable def wfW {α:Type} (N:Nat) (next:List Int→Int→Int→Int→List Int→Int→Int→List Int→Int→Int→List Int→Option α) (k0:List Int→Int→Int→List Int→Int→Int→List Int→Option α) (v769:List Int) (v770:Int) (v771:Int) (v772:Int) (v773:List Int) (v774:Int) (v775:Int) (v776:List Int) (v777:Int) (v778:Int) (v779:List Int):Option α :=
 let x780:=decide (v778 < v777)
 bif x780 then
  bif (decide (v778 < (0:Int))) then
   none
  else
   match v776[v778.toNat]? with
   | some x781 =>
    let x782:=IntKind.i64.wrap (v770 + v778)
    bif (decide (x782 < (0:Int))) then
     none
    else
     bif decide (x782.toNat < v779.length) then
      match v779[x782.toNat]? with
      | some x783 =>
       let x784:=IntKind.i64.wrap (v771 * x781)
       let x785:=IntKind.i64.wrap (x783 + x784)
       let x786:=IntKind.i64.wrap (x785 + v772)
       let x787:=IntKind.i64.wrap (v770 + v778)
       let x788:=(bitI .and .i64 x786 (65535:Int))
       bif (decide (x787 < (0:Int))) then
        none
       else
        bif decide (x787.toNat < v779.length) then
         match v779[x787.toNat]? with
         | some x789 =>
          let x790:=v779.set x787.toNat x788
          let x791:=(shrI .i64 x786 (16:Int))
          let x792:=(IntKind.i64.wrap (v778 + (1:Int)))
          next v769 v770 v771 x791 v773 v774 v775 v776 v777 x792 x790
         | none=>none
        else
         none
      | none=>none
     else
      none
   | none=>none
 else
  k0 v769 v770 v772 v773 v774 v775 v779
noncomputable def wbC.b {α:Type}:=fun N n v769 v770 v771 v772 v773 v774 v775 v776 v777 v778 v779 k0=>we2 (fun next=>@wfW α N next k0) (fun _ _ _ _ _ _ _ _ _ _ _=>none) n v769 v770 v771 v772 v773 v774 v775 v776 v777 v778 v779
noncomputable def wbC {α:Type}:=wy (@wbC.b α)
theorem wbC.eq:@wbC=@wbC.b:=funext fun α=>wb _
theorem wbC.zero {α:Type} (N v769 v770 v771 v772 v773 v774 v775 v776 v777 v778 v779 k0):@wbC α N 0 v769 v770 v771 v772 v773 v774 v775 v776 v777 v778 v779 k0=none:=by rw [wbC.eq]; rfl
theorem wbC.succ {α:Type} (N n v769 v770 v771 v772 v773 v774 v775 v776 v777 v778 v779 k0):@wbC α N (n + 1) v769 v770 v771 v772 v773 v774 v775 v776 v777 v778 v779 k0=wfW N (fun y0 y1 y2 y3 y4 y5 y6 y7 y8 y9 y10=>wbC N n y0 y1 y2 y3 y4 y5 y6 y7 y8 y9 y10 k0) k0 v769 v770 v771 v772 v773 v774 v775 v776 v777 v778 v779:=by rw [wbC.eq]; rfl
noncomputable def wfX {α:Type} (N:Nat) (next:List Int→List Int→Int→Int→List Int→Option α) (k0:List Int→Option α) (v761:List Int) (v762:List Int) (v763:Int) (v764:Int) (v765:List Int):Option α :=
 let x766:=decide (v764 < v763)
 bif x766 then
  bif (decide (v764 < (0:Int))) then
   none
  else
   match v762[v764.toNat]? with
   | some x767 =>
    let x768:=((v761.length:Nat):Int)
    wbC N N v761 v764 x767 (0:Int) v762 v763 v764 v761 x768 (0:Int) v765
     (fun x793 x794 x795 x796 x797 x798 x799 =>
      let x800:=((x793.length:Nat):Int)
      let x801:=IntKind.i64.wrap (x794 + x800)
      bif (decide (x801 < (0:Int))) then
       none
      else
       bif decide (x801.toNat < x799.length) then
        match x799[x801.toNat]? with
        | some x802 =>
         let x803:=IntKind.i64.wrap (x802 + x795)
         bif (decide (x801 < (0:Int))) then
          none
         else
          bif decide (x801.toNat < x799.length) then
           match x799[x801.toNat]? with
           | some x804 =>
            let x805:=x799.set x801.toNat x803
            let x806:=(IntKind.i64.wrap (x798 + (1:Int)))
            next x793 x796 x797 x806 x805
           | none=>none
          else
           none
        | none=>none
       else
        none)
   | none=>none
 else
  k0 v765
noncomputable def wbM.b {α:Type}:=fun N n v761 v762 v763 v764 v765 k0=>we2 (fun next=>@wfX α N next k0) (fun _ _ _ _ _=>none) n v761 v762 v763 v764 v765
noncomputable def wbM {α:Type}:=wy (@wbM.b α)
theorem wbM.eq:@wbM=@wbM.b:=funext fun α=>wb _
theorem wbM.zero {α:Type} (N v761 v762 v763 v764 v765 k0):@wbM α N 0 v761 v762 v763 v764 v765 k0=none:=by rw [wbM.eq]; rfl
theorem wbM.succ {α:Type} (N n v761 v762 v763 v764 v765 k0):@wbM α N (n + 1) v761 v762 v763 v764 v765 k0=wfX N (fun y0 y1 y2 y3 y4=>wbM N n y0 y1 y2 y3 y4 k0) k0 v761 v762 v763 v764 v765:=by rw [wbM.eq]; rfl
noncomputable def wdF.b {α:Type} (N:Nat) (a753:List Int) (a754:List Int) (k0:List Int→Option α):Option α :=
 let x755:=((a753.length:Nat):Int)
 let x756:=((a754.length:Nat):Int)
 let x757:=IntKind.i64.wrap (x755 + x756)
 let x758:=(IntKind.i64.wrap (x757 + (1:Int)))
 bif (decide ((0:Int)≤x758)) then
  bif decide (x758≤x758) then
   bif (decide (x758≤((8796093022208:Nat):Int))) then
    let x759:=(List.replicate x758.toNat (0:Int))
    let x760:=((a753.length:Nat):Int)
    wbM N N a754 a753 x760 (0:Int) x759
     (fun x807 =>
      wdk N x807
       (fun x820 =>
        k0 x820))
   else
    none
  else
   none
 else
  none
noncomputable def wdF {α:Type}:=wy (@wdF.b α)
theorem wdF.eq:@wdF=@wdF.b:=funext fun α=>wb _

noncomputable def wgZ {α:Type} (N:Nat) (next:Int→List Int→Option α) (k0:List Int→Option α) (v827:Int) (v828:List Int):Option α :=
 let x829:=(decide ((0:Int) < v827))
 bif x829 then
  let x830:=(bitI .and .u64 v827 (65535:Int))
  let x831:=IntKind.i64.wrap x830
  let x832:=[x831]
  bif decide (v828.length + x832.length≤8796093022208) then
   let x833:=v828++x832
   let x834:=(shrI .u64 v827 (16:Int))
   next x834 x833
  else
   none
 else
  k0 v828
noncomputable def wcm.b {α:Type}:=fun N n v827 v828 k0=>we2 (fun next=>@wgZ α N next k0) (fun _ _=>none) n v827 v828
noncomputable def wcm {α:Type}:=wy (@wcm.b α)
theorem wcm.eq:@wcm=@wcm.b:=funext fun α=>wb _
theorem wcm.zero {α:Type} (N v827 v828 k0):@wcm α N 0 v827 v828 k0=none:=by rw [wcm.eq]; rfl
theorem wcm.succ {α:Type} (N n v827 v828 k0):@wcm α N (n + 1) v827 v828 k0=wgZ N (fun y0 y1=>wcm N n y0 y1 k0) k0 v827 v828:=by rw [wcm.eq]; rfl
noncomputable def weY.b {α:Type} (N:Nat) (a826:Int) (k0:List Int→Option α):Option α :=
 wcm N N a826 []
  (fun x835 =>
   k0 x835)
noncomputable def weY {α:Type}:=wy (@weY.b α)
theorem weY.eq:@weY=@weY.b:=funext fun α=>wb _

noncomputable def wfV {α:Type} (N:Nat) (next:List Int→Int→Int→List Int→Option α) (k0:List Int→Option α) (v847:List Int) (v848:Int) (v849:Int) (v850:List Int):Option α :=
 let x851:=decide (v849 < v848)
 bif x851 then
  bif (decide (v849 < (0:Int))) then
   none
  else
   match v847[v849.toNat]? with
   | some x852 =>
    bif (decide (v849 < (0:Int))) then
     none
    else
     bif decide (v849.toNat < v850.length) then
      match v850[v849.toNat]? with
      | some x853 =>
       let x854:=IntKind.i64.wrap (x853 + x852)
       bif (decide (v849 < (0:Int))) then
        none
       else
        bif decide (v849.toNat < v850.length) then
         match v850[v849.toNat]? with
         | some x855 =>
          let x856:=v850.set v849.toNat x854
          let x857:=(IntKind.i64.wrap (v849 + (1:Int)))
          next v847 v848 x857 x856
         | none=>none
        else
         none
      | none=>none
     else
      none
   | none=>none
 else
  k0 v850
noncomputable def wbE.b {α:Type}:=fun N n v847 v848 v849 v850 k0=>we2 (fun next=>@wfV α N next k0) (fun _ _ _ _=>none) n v847 v848 v849 v850
noncomputable def wbE {α:Type}:=wy (@wbE.b α)
theorem wbE.eq:@wbE=@wbE.b:=funext fun α=>wb _
theorem wbE.zero {α:Type} (N v847 v848 v849 v850 k0):@wbE α N 0 v847 v848 v849 v850 k0=none:=by rw [wbE.eq]; rfl
theorem wbE.succ {α:Type} (N n v847 v848 v849 v850 k0):@wbE α N (n + 1) v847 v848 v849 v850 k0=wfV N (fun y0 y1 y2 y3=>wbE N n y0 y1 y2 y3 k0) k0 v847 v848 v849 v850:=by rw [wbE.eq]; rfl
noncomputable def wf1 {α:Type} (N:Nat) (next:Int→Int→List Int→Option α) (k0:List Int→Option α) (v861:Int) (v862:Int) (v863:List Int):Option α :=
 let x864:=decide (v862 < v861)
 bif x864 then
  let x865:=(IntKind.i64.wrap (v862 + (1:Int)))
  bif (decide (x865 < (0:Int))) then
   none
  else
   bif decide (x865.toNat < v863.length) then
    match v863[x865.toNat]? with
    | some x866 =>
     bif (decide (v862 < (0:Int))) then
      none
     else
      bif decide (v862.toNat < v863.length) then
       match v863[v862.toNat]? with
       | some x867 =>
        let x868:=(shrI .i64 x867 (16:Int))
        let x869:=IntKind.i64.wrap (x866 + x868)
        bif (decide (x865 < (0:Int))) then
         none
        else
         bif decide (x865.toNat < v863.length) then
          match v863[x865.toNat]? with
          | some x870 =>
           let x871:=v863.set x865.toNat x869
           bif (decide (v862 < (0:Int))) then
            none
           else
            bif decide (v862.toNat < x871.length) then
             match x871[v862.toNat]? with
             | some x872 =>
              let x873:=(bitI .and .i64 x872 (65535:Int))
              bif (decide (v862 < (0:Int))) then
               none
              else
               bif decide (v862.toNat < x871.length) then
                match x871[v862.toNat]? with
                | some x874 =>
                 let x875:=x871.set v862.toNat x873
                 let x876:=(IntKind.i64.wrap (v862 + (1:Int)))
                 next v861 x876 x875
                | none=>none
               else
                none
             | none=>none
            else
             none
          | none=>none
         else
          none
       | none=>none
      else
       none
    | none=>none
   else
    none
 else
  k0 v863
noncomputable def wbG.b {α:Type}:=fun N n v861 v862 v863 k0=>we2 (fun next=>@wf1 α N next k0) (fun _ _ _=>none) n v861 v862 v863
noncomputable def wbG {α:Type}:=wy (@wbG.b α)
theorem wbG.eq:@wbG=@wbG.b:=funext fun α=>wb _
theorem wbG.zero {α:Type} (N v861 v862 v863 k0):@wbG α N 0 v861 v862 v863 k0=none:=by rw [wbG.eq]; rfl
theorem wbG.succ {α:Type} (N n v861 v862 v863 k0):@wbG α N (n + 1) v861 v862 v863 k0=wf1 N (fun y0 y1 y2=>wbG N n y0 y1 y2 k0) k0 v861 v862 v863:=by rw [wbG.eq]; rfl
noncomputable def weG.b {α:Type} (N:Nat) (a837:List Int) (a838:List Int) (k0:List Int→Option α):Option α :=
 let x839:=((a837.length:Nat):Int)
 let x840:=((a838.length:Nat):Int)
 let x841:=maxI x839 x840
 let x842:=(IntKind.i64.wrap (x841 + (1:Int)))
 bif (decide ((0:Int)≤x842)) then
  bif decide (x842≤x842) then
   bif (decide (x842≤((8796093022208:Nat):Int))) then
    let x843:=(List.replicate x842.toNat (0:Int))
    let x844:=List.take (min a837.length x843.length) a837++List.drop (min a837.length x843.length) x843
    let x846:=((a838.length:Nat):Int)
    wbE N N a838 x846 (0:Int) x844
     (fun x858 =>
      let x859:=((x858.length:Nat):Int)
      let x860:=(IntKind.i64.wrap (x859 - (1:Int)))
      wbG N N x860 (0:Int) x858
       (fun x877 =>
        wdk N x877
         (fun x878 =>
          k0 x878)))
   else
    none
  else
   none
 else
  none
noncomputable def weG {α:Type}:=wy (@weG.b α)
theorem weG.eq:@weG=@weG.b:=funext fun α=>wb _

noncomputable def wfJ {α:Type} (N:Nat) (next:ByteArray→List Int→Int→Int→Option α) (k0:List Int→Option α) (v747:ByteArray) (v748:List Int) (v749:Int) (v750:Int):Option α :=
 let x751:=decide (v750 < v749)
 bif x751 then
  let x752:=[(10:Int)]
  wdF N v748 x752
   (fun x821 =>
    bif (decide (v750 < (0:Int))) then
     none
    else
     match (v747[v750.toNat]?:Option UInt8) with
     | some x822 =>
      let x823:=((x822.toNat:Nat):Int)
      let x824:=(IntKind.u8.wrap (x823 - (48:Int)))
      let x825:=IntKind.u64.wrap x824
      weY N x825
       (fun x836 =>
        weG N x821 x836
         (fun x879 =>
          let x880:=(IntKind.i64.wrap (v750 + (1:Int)))
          next v747 x879 v749 x880))
     | none=>none)
 else
  k0 v748
noncomputable def wbn.b {α:Type}:=fun N n v747 v748 v749 v750 k0=>we2 (fun next=>@wfJ α N next k0) (fun _ _ _ _=>none) n v747 v748 v749 v750
noncomputable def wbn {α:Type}:=wy (@wbn.b α)
theorem wbn.eq:@wbn=@wbn.b:=funext fun α=>wb _
theorem wbn.zero {α:Type} (N v747 v748 v749 v750 k0):@wbn α N 0 v747 v748 v749 v750 k0=none:=by rw [wbn.eq]; rfl
theorem wbn.succ {α:Type} (N n v747 v748 v749 v750 k0):@wbn α N (n + 1) v747 v748 v749 v750 k0=wfJ N (fun y0 y1 y2 y3=>wbn N n y0 y1 y2 y3 k0) k0 v747 v748 v749 v750:=by rw [wbn.eq]; rfl
noncomputable def wd7.b {α:Type} (N:Nat) (a745:ByteArray) (k0:List Int→Option α):Option α :=
 let x746:=((a745.size:Nat):Int)
 wbn N N a745 [] x746 (0:Int)
  (fun x881 =>
   k0 x881)
noncomputable def wd7 {α:Type}:=wy (@wd7.b α)
theorem wd7.eq:@wd7=@wd7.b:=funext fun α=>wb _

noncomputable def wha {α:Type} (N:Nat) (next:List Int→Int→Int→Option α) (k0:List Int→Option α) (v897:List Int) (v898:Int) (v899:Int):Option α :=
 let x900:=decide (v899 < v898)
 bif x900 then
  let x901:=[(10:Int)]
  wdF N v897 x901
   (fun x902 =>
    let x903:=(IntKind.i64.wrap (v899 + (1:Int)))
    next x902 v898 x903)
 else
  k0 v897
noncomputable def wc4.b {α:Type}:=fun N n v897 v898 v899 k0=>we2 (fun next=>@wha α N next k0) (fun _ _ _=>none) n v897 v898 v899
noncomputable def wc4 {α:Type}:=wy (@wc4.b α)
theorem wc4.eq:@wc4=@wc4.b:=funext fun α=>wb _
theorem wc4.zero {α:Type} (N v897 v898 v899 k0):@wc4 α N 0 v897 v898 v899 k0=none:=by rw [wc4.eq]; rfl
theorem wc4.succ {α:Type} (N n v897 v898 v899 k0):@wc4 α N (n + 1) v897 v898 v899 k0=wha N (fun y0 y1 y2=>wc4 N n y0 y1 y2 k0) k0 v897 v898 v899:=by rw [wc4.eq]; rfl
noncomputable def wfT.b {α:Type} (N:Nat) (a895:Int) (k0:List Int→Option α):Option α :=
 let x896:=[(1:Int)]
 wc4 N N x896 a895 (0:Int)
  (fun x904 =>
   k0 x904)
noncomputable def wfT {α:Type}:=wy (@wfT.b α)
theorem wfT.eq:@wfT=@wfT.b:=funext fun α=>wb _

noncomputable def wea.b {α:Type} (N:Nat) (a907:Bool) (a908:List Int) (k0:Bool→List Int→List Int→Option α):Option α :=
 bif a907 then
  let x909:=((a908.length:Nat):Int)
  let x910:=(decide ((0:Int) < x909))
  let x911:=[(1:Int)]
  k0 x910 a908 x911
 else
  let x912:=[(1:Int)]
  k0 false a908 x912
noncomputable def wea {α:Type}:=wy (@wea.b α)
theorem wea.eq:@wea=@wea.b:=funext fun α=>wb _

noncomputable def wc7 {α:Type} (N:Nat) (a1:List Int) (k0:List Int→Option α):Option α :=
 bif decide (([]:List Int).length + a1.length≤8796093022208) then k0 a1 else none

noncomputable def wct.b {α:Type} (N:Nat) (a923:List Int) (k0:List Int→Option α):Option α :=
 let x924:=((a923.length:Nat):Int)
 let x925:=((a923.length:Nat):Int)
 bif (decide ((0:Int)≤x925)) then
  bif (decide (x925≤((a923.length:Nat):Int))) then
   bif (decide ((0:Int)≤x924)) then
    bif (decide (x924≤((x925.toNat:Nat):Int))) then
     let x926:=a923.take x924.toNat
     k0 x926
    else
     none
   else
    none
  else
   none
 else
  none
noncomputable def wct {α:Type}:=wy (@wct.b α)
theorem wct.eq:@wct=@wct.b:=funext fun α=>wb _

noncomputable def wdd.b {α:Type} (N:Nat) (a921:List Int) (k0:List Int→Option α):Option α :=
 wc7 N a921
  (fun x922 =>
   wct N x922
    (fun x927 =>
     k0 x927))
noncomputable def wdd {α:Type}:=wy (@wdd.b α)
theorem wdd.eq:@wdd=@wdd.b:=funext fun α=>wb _

noncomputable def weW.b {α:Type} (N:Nat) (a916:Bool×(List Int)×(List Int)×Unit) (k0:Bool→Bool→List Int→List Int→Option α):Option α :=
 let x917:=((a916.2.1.length:Nat):Int)
 let x918:=(decide ((256:Int) < x917))
 bif x918 then
  k0 false false [] []
 else
  let x919:=((a916.2.2.1.length:Nat):Int)
  let x920:=(decide ((256:Int) < x919))
  bif x920 then
   k0 false false [] []
  else
   wdd N a916.2.1
    (fun x928 =>
     wdd N a916.2.2.1
      (fun x929 =>
       k0 a916.1 true x928 x929))
noncomputable def weW {α:Type}:=wy (@weW.b α)
theorem weW.eq:@weW=@weW.b:=funext fun α=>wb _

noncomputable def wga {α:Type} (N:Nat) (next:List Int→List Int→Int→Option α) (k0:Int→Option α) (k1:Option α) (v1016:List Int) (v1017:List Int) (v1018:Int):Option α :=
 let x1019:=(decide ((0:Int)≤v1018))
 bif x1019 then
  bif (decide (v1018 < (0:Int))) then
   none
  else
   match v1016[v1018.toNat]? with
   | some x1020 =>
    bif (decide (v1018 < (0:Int))) then
     none
    else
     match v1017[v1018.toNat]? with
     | some x1021 =>
      let x1022 := !(decide (x1020=x1021))
      bif x1022 then
       bif (decide (v1018 < (0:Int))) then
        none
       else
        match v1016[v1018.toNat]? with
        | some x1023 =>
         bif (decide (v1018 < (0:Int))) then
          none
         else
          match v1017[v1018.toNat]? with
          | some x1024 =>
           let x1025:=IntKind.i64.wrap (x1023 - x1024)
           let x1026:=(minI (1:Int) x1025)
           let x1027:=(maxI (-1:Int) x1026)
           k0 x1027
          | none=>none
        | none=>none
      else
       let x1028:=(IntKind.i64.wrap (v1018 - (1:Int)))
       next v1016 v1017 x1028
     | none=>none
   | none=>none
 else
  k1
noncomputable def wbI.b {α:Type}:=fun N n v1016 v1017 v1018 k0 k1=>we2 (fun next=>@wga α N next k0 k1) (fun _ _ _=>none) n v1016 v1017 v1018
noncomputable def wbI {α:Type}:=wy (@wbI.b α)
theorem wbI.eq:@wbI=@wbI.b:=funext fun α=>wb _
theorem wbI.zero {α:Type} (N v1016 v1017 v1018 k0 k1):@wbI α N 0 v1016 v1017 v1018 k0 k1=none:=by rw [wbI.eq]; rfl
theorem wbI.succ {α:Type} (N n v1016 v1017 v1018 k0 k1):@wbI α N (n + 1) v1016 v1017 v1018 k0 k1=wga N (fun y0 y1 y2=>wbI N n y0 y1 y2 k0 k1) k0 k1 v1016 v1017 v1018:=by rw [wbI.eq]; rfl
noncomputable def wdL.b {α:Type} (N:Nat) (a1004:List Int) (a1005:List Int) (k0:Int→Option α):Option α :=
 let x1006:=((a1004.length:Nat):Int)
 let x1007:=((a1005.length:Nat):Int)
 let x1008 := !(decide (x1006=x1007))
 bif x1008 then
  let x1009:=((a1004.length:Nat):Int)
  let x1010:=((a1005.length:Nat):Int)
  let x1011:=IntKind.i64.wrap (x1009 - x1010)
  let x1012:=(minI (1:Int) x1011)
  let x1013:=(maxI (-1:Int) x1012)
  k0 x1013
 else
  let x1014:=((a1004.length:Nat):Int)
  let x1015:=(IntKind.i64.wrap (x1014 - (1:Int)))
  wbI N N a1004 a1005 x1015
   (fun x1029 =>
    k0 x1029)
   (
    k0 (0:Int))
noncomputable def wdL {α:Type}:=wy (@wdL.b α)
theorem wdL.eq:@wdL=@wdL.b:=funext fun α=>wb _

noncomputable def wch.b {α:Type} (N:Nat) (v1065:Int) (v1066:Int) (k0:Int→Int→Option α):Option α :=
 let x1067:=(decide ((4294967296:Int)≤v1065))
 bif x1067 then
  let x1068:=(shrI .u64 v1065 (32:Int))
  k0 x1068 (32:Int)
 else
  k0 v1065 v1066
noncomputable def wch {α:Type}:=wy (@wch.b α)
theorem wch.eq:@wch=@wch.b:=funext fun α=>wb _
noncomputable def wcq.b {α:Type} (N:Nat) (v1071:Int) (v1072:Int) (k0:Int→Int→Option α):Option α :=
 let x1073:=(decide ((65536:Int)≤v1071))
 bif x1073 then
  let x1074:=(shrI .u64 v1071 (16:Int))
  let x1075:=(IntKind.i64.wrap (v1072 + (16:Int)))
  k0 x1074 x1075
 else
  k0 v1071 v1072
noncomputable def wcq {α:Type}:=wy (@wcq.b α)
theorem wcq.eq:@wcq=@wcq.b:=funext fun α=>wb _
noncomputable def wcg.b {α:Type} (N:Nat) (v1078:Int) (v1079:Int) (k0:Int→Int→Option α):Option α :=
 let x1080:=(decide ((256:Int)≤v1078))
 bif x1080 then
  let x1081:=(shrI .u64 v1078 (8:Int))
  let x1082:=(IntKind.i64.wrap (v1079 + (8:Int)))
  k0 x1081 x1082
 else
  k0 v1078 v1079
noncomputable def wcg {α:Type}:=wy (@wcg.b α)
theorem wcg.eq:@wcg=@wcg.b:=funext fun α=>wb _
noncomputable def wcZ.b {α:Type} (N:Nat) (a1064:Int) (k0:Int→Option α):Option α :=
 wch N a1064 (0:Int)
  (fun x1069 x1070 =>
   wcq N x1069 x1070
    (fun x1076 x1077 =>
     wcg N x1076 x1077
      (fun x1083 x1084 =>
       let x1085:=IntKind.u8.wrap x1083
       bif (decide (x1085 < (0:Int))) then
        none
       else
        match ((⟨#[0,1,2,2,3,3,3,3,4,4,4,4,4,4,4,4,5,5,5,5,5,5,5,5,5,5,5,5,5,5,5,5,6,6,6,6,6,6,6,6,6,6,6,6,6,6,6,6,6,6,6,6,6,6,6,6,6,6,6,6,6,6,6,6,7,7,7,7,7,7,7,7,7,7,7,7,7,7,7,7,7,7,7,7,7,7,7,7,7,7,7,7,7,7,7,7,7,7,7,7,7,7,7,7,7,7,7,7,7,7,7,7,7,7,7,7,7,7,7,7,7,7,7,7,7,7,7,7,8,8,8,8,8,8,8,8,8,8,8,8,8,8,8,8,8,8,8,8,8,8,8,8,8,8,8,8,8,8,8,8,8,8,8,8,8,8,8,8,8,8,8,8,8,8,8,8,8,8,8,8,8,8,8,8,8,8,8,8,8,8,8,8,8,8,8,8,8,8,8,8,8,8,8,8,8,8,8,8,8,8,8,8,8,8,8,8,8,8,8,8,8,8,8,8,8,8,8,8,8,8,8,8,8,8,8,8,8,8,8,8,8,8,8,8,8,8,8,8,8,8,8,8,8,8,8,8]⟩:ByteArray)[x1085.toNat]?:Option UInt8) with
        | some x1086 =>
         let x1087:=((x1086.toNat:Nat):Int)
         let x1088:=IntKind.i64.wrap x1087
         let x1089:=IntKind.i64.wrap (x1084 + x1088)
         k0 x1089
        | none=>none)))
noncomputable def wcZ {α:Type}:=wy (@wcZ.b α)
theorem wcZ.eq:@wcZ=@wcZ.b:=funext fun α=>wb _

noncomputable def wcW.b {α:Type} (N:Nat) (a1063:Int) (k0:Int→Option α):Option α :=
 wcZ N a1063
  (fun x1090 =>
   k0 x1090)
noncomputable def wcW {α:Type}:=wy (@wcW.b α)
theorem wcW.eq:@wcW=@wcW.b:=funext fun α=>wb _

noncomputable def wcF.b {α:Type} (N:Nat) (v1169:List Int) (v1170:Int) (v1171:Int) (v1172:Int) (v1173:Int) (v1174:Int) (v1175:List Int) (k0:List Int→Int→Int→Int→Int→List Int→Option α):Option α :=
 let x1176:=IntKind.i64.wrap (v1170 + v1172)
 let x1177:=(IntKind.i64.wrap (x1176 + (1:Int)))
 let x1178:=((v1169.length:Nat):Int)
 let x1179:=decide (x1177 < x1178)
 bif x1179 then
  bif (decide (v1172 < (0:Int))) then
   none
  else
   bif decide (v1172.toNat < v1175.length) then
    match v1175[v1172.toNat]? with
    | some x1180 =>
     let x1181:=IntKind.i64.wrap (v1170 + v1172)
     let x1182:=(IntKind.i64.wrap (x1181 + (1:Int)))
     bif (decide (x1182 < (0:Int))) then
      none
     else
      match v1169[x1182.toNat]? with
      | some x1183 =>
       let x1184:=(IntKind.i64.wrap ((16:Int) - v1171))
       bif (decide (x1184 < (0:Int))) then
        none
       else
        let x1185:=shlI .i64 x1183 x1184
        let x1186:=(bitI .and .i64 x1185 (65535:Int))
        let x1187:=bitI .or .i64 x1180 x1186
        bif (decide (v1172 < (0:Int))) then
         none
        else
         bif decide (v1172.toNat < v1175.length) then
          match v1175[v1172.toNat]? with
          | some x1188 =>
           let x1189:=v1175.set v1172.toNat x1187
           k0 v1169 v1170 v1171 v1173 v1174 x1189
          | none=>none
         else
          none
      | none=>none
    | none=>none
   else
    none
 else
  k0 v1169 v1170 v1171 v1173 v1174 v1175
noncomputable def wcF {α:Type}:=wy (@wcF.b α)
theorem wcF.eq:@wcF=@wcF.b:=funext fun α=>wb _
noncomputable def wfs {α:Type} (N:Nat) (next:List Int→Int→Int→Int→Int→List Int→Option α) (k0:List Int→Option α) (v1158:List Int) (v1159:Int) (v1160:Int) (v1161:Int) (v1162:Int) (v1163:List Int):Option α :=
 let x1164:=decide (v1162 < v1161)
 bif x1164 then
  bif (decide (v1162 < (0:Int))) then
   none
  else
   bif decide (v1162.toNat < v1163.length) then
    match v1163[v1162.toNat]? with
    | some x1165 =>
     bif (decide (v1160 < (0:Int))) then
      none
     else
      let x1166:=shrI .i64 x1165 v1160
      bif (decide (v1162 < (0:Int))) then
       none
      else
       bif decide (v1162.toNat < v1163.length) then
        match v1163[v1162.toNat]? with
        | some x1167 =>
         let x1168:=v1163.set v1162.toNat x1166
         wcF N v1158 v1159 v1160 v1162 v1161 v1162 x1168
          (fun x1190 x1191 x1192 x1193 x1194 x1195 =>
           let x1196:=(IntKind.i64.wrap (x1194 + (1:Int)))
           next x1190 x1191 x1192 x1193 x1196 x1195)
        | none=>none
       else
        none
    | none=>none
   else
    none
 else
  k0 v1163
noncomputable def w9.b {α:Type}:=fun N n v1158 v1159 v1160 v1161 v1162 v1163 k0=>we2 (fun next=>@wfs α N next k0) (fun _ _ _ _ _ _=>none) n v1158 v1159 v1160 v1161 v1162 v1163
noncomputable def w9 {α:Type}:=wy (@w9.b α)
theorem w9.eq:@w9=@w9.b:=funext fun α=>wb _
theorem w9.zero {α:Type} (N v1158 v1159 v1160 v1161 v1162 v1163 k0):@w9 α N 0 v1158 v1159 v1160 v1161 v1162 v1163 k0=none:=by rw [w9.eq]; rfl
theorem w9.succ {α:Type} (N n v1158 v1159 v1160 v1161 v1162 v1163 k0):@w9 α N (n + 1) v1158 v1159 v1160 v1161 v1162 v1163 k0=wfs N (fun y0 y1 y2 y3 y4 y5=>w9 N n y0 y1 y2 y3 y4 y5 k0) k0 v1158 v1159 v1160 v1161 v1162 v1163:=by rw [w9.eq]; rfl
noncomputable def wfv {α:Type} (N:Nat) (next:Int→List Int→Int→Int→List Int→Option α) (k0:List Int→Option α) (v1205:Int) (v1206:List Int) (v1207:Int) (v1208:Int) (v1209:List Int):Option α :=
 let x1210:=decide (v1208 < v1207)
 bif x1210 then
  bif (decide (v1208 < (0:Int))) then
   none
  else
   match v1206[v1208.toNat]? with
   | some x1211 =>
    let x1212:=(Int.tmod v1205 (16:Int))
    bif (decide (x1212 < (0:Int))) then
     none
    else
     let x1213:=shlI .i64 x1211 x1212
     let x1214:=(IntKind.i64.wrap (Int.tdiv v1205 (16:Int)))
     let x1215:=IntKind.i64.wrap (x1214 + v1208)
     bif (decide (x1215 < (0:Int))) then
      none
     else
      bif decide (x1215.toNat < v1209.length) then
       match v1209[x1215.toNat]? with
       | some x1216 =>
        let x1217:=(bitI .and .i64 x1213 (65535:Int))
        let x1218:=bitI .or .i64 x1216 x1217
        bif (decide (x1215 < (0:Int))) then
         none
        else
         bif decide (x1215.toNat < v1209.length) then
          match v1209[x1215.toNat]? with
          | some x1219 =>
           let x1220:=v1209.set x1215.toNat x1218
           let x1221:=(IntKind.i64.wrap (Int.tdiv v1205 (16:Int)))
           let x1222:=IntKind.i64.wrap (x1221 + v1208)
           let x1223:=(IntKind.i64.wrap (x1222 + (1:Int)))
           let x1224:=(shrI .i64 x1213 (16:Int))
           bif (decide (x1223 < (0:Int))) then
            none
           else
            bif decide (x1223.toNat < x1220.length) then
             match x1220[x1223.toNat]? with
             | some x1225 =>
              let x1226:=x1220.set x1223.toNat x1224
              let x1227:=(IntKind.i64.wrap (v1208 + (1:Int)))
              next v1205 v1206 v1207 x1227 x1226
             | none=>none
            else
             none
          | none=>none
         else
          none
       | none=>none
      else
       none
   | none=>none
 else
  k0 v1209
noncomputable def wba.b {α:Type}:=fun N n v1205 v1206 v1207 v1208 v1209 k0=>we2 (fun next=>@wfv α N next k0) (fun _ _ _ _ _=>none) n v1205 v1206 v1207 v1208 v1209
noncomputable def wba {α:Type}:=wy (@wba.b α)
theorem wba.eq:@wba=@wba.b:=funext fun α=>wb _
theorem wba.zero {α:Type} (N v1205 v1206 v1207 v1208 v1209 k0):@wba α N 0 v1205 v1206 v1207 v1208 v1209 k0=none:=by rw [wba.eq]; rfl
theorem wba.succ {α:Type} (N n v1205 v1206 v1207 v1208 v1209 k0):@wba α N (n + 1) v1205 v1206 v1207 v1208 v1209 k0=wfv N (fun y0 y1 y2 y3 y4=>wba N n y0 y1 y2 y3 y4 k0) k0 v1205 v1206 v1207 v1208 v1209:=by rw [wba.eq]; rfl
noncomputable def wbq.b {α:Type} (N:Nat) (a1146:List Int) (a1147:Int) (k0:List Int→Option α):Option α :=
 let x1148:=(decide (a1147 < (0:Int)))
 bif x1148 then
  let x1149:=IntKind.i64.wrap (0 - a1147)
  let x1150:=(IntKind.i64.wrap (Int.tdiv x1149 (16:Int)))
  let x1151:=IntKind.i64.wrap (0 - a1147)
  let x1152:=(Int.tmod x1151 (16:Int))
  let x1153:=((a1146.length:Nat):Int)
  let x1154:=decide (x1153≤x1150)
  bif x1154 then
   k0 []
  else
   bif (decide ((0:Int)≤x1150)) then
    bif (decide (x1150≤((a1146.length:Nat):Int))) then
     let x1155:=a1146.drop x1150.toNat
     wc7 N x1155
      (fun x1156 =>
       let x1157:=((x1156.length:Nat):Int)
       w9 N N a1146 x1150 x1152 x1157 (0:Int) x1156
        (fun x1197 =>
         wdk N x1197
          (fun x1198 =>
           k0 x1198)))
    else
     none
   else
    none
 else
  let x1199:=(IntKind.i64.wrap (Int.tdiv a1147 (16:Int)))
  let x1200:=((a1146.length:Nat):Int)
  let x1201:=IntKind.i64.wrap (x1199 + x1200)
  let x1202:=(IntKind.i64.wrap (x1201 + (1:Int)))
  bif (decide ((0:Int)≤x1202)) then
   bif decide (x1202≤x1202) then
    bif (decide (x1202≤((8796093022208:Nat):Int))) then
     let x1203:=(List.replicate x1202.toNat (0:Int))
     let x1204:=((a1146.length:Nat):Int)
     wba N N a1147 a1146 x1204 (0:Int) x1203
      (fun x1228 =>
       wdk N x1228
        (fun x1229 =>
         k0 x1229))
    else
     none
   else
    none
  else
   none
noncomputable def wbq {α:Type}:=wy (@wbq.b α)
theorem wbq.eq:@wbq=@wbq.b:=funext fun α=>wb _

noncomputable def wf2 {α:Type} (N:Nat) (next:List Int→List Int→Int→Int→List Int→Option α) (k0:Int→List Int→Option α) (v1038:List Int) (v1039:List Int) (v1040:Int) (v1041:Int) (v1042:List Int):Option α :=
 let x1043:=(decide ((0:Int)≤v1041))
 bif x1043 then
  let x1044:=(shlI .i64 v1040 (16:Int))
  bif (decide (v1041 < (0:Int))) then
   none
  else
   match v1038[v1041.toNat]? with
   | some x1045 =>
    let x1046:=bitI .or .i64 x1044 x1045
    match v1039[0]? with
    | some x1047 =>
     bif (decide (x1047=(0:Int))) then
      none
     else
      let x1048:=IntKind.i64.wrap (Int.tdiv x1046 x1047)
      match v1039[0]? with
      | some x1049 =>
       bif (decide (x1049=(0:Int))) then
        none
       else
        let x1050:=Int.tmod x1046 x1049
        bif (decide (v1041 < (0:Int))) then
         none
        else
         bif decide (v1041.toNat < v1042.length) then
          match v1042[v1041.toNat]? with
          | some x1051 =>
           let x1052:=v1042.set v1041.toNat x1048
           let x1053:=(IntKind.i64.wrap (v1041 - (1:Int)))
           next v1038 v1039 x1050 x1053 x1052
          | none=>none
         else
          none
      | none=>none
    | none=>none
   | none=>none
 else
  k0 v1040 v1042
noncomputable def wbJ.b {α:Type}:=fun N n v1038 v1039 v1040 v1041 v1042 k0=>we2 (fun next=>@wf2 α N next k0) (fun _ _ _ _ _=>none) n v1038 v1039 v1040 v1041 v1042
noncomputable def wbJ {α:Type}:=wy (@wbJ.b α)
theorem wbJ.eq:@wbJ=@wbJ.b:=funext fun α=>wb _
theorem wbJ.zero {α:Type} (N v1038 v1039 v1040 v1041 v1042 k0):@wbJ α N 0 v1038 v1039 v1040 v1041 v1042 k0=none:=by rw [wbJ.eq]; rfl
theorem wbJ.succ {α:Type} (N n v1038 v1039 v1040 v1041 v1042 k0):@wbJ α N (n + 1) v1038 v1039 v1040 v1041 v1042 k0=wf2 N (fun y0 y1 y2 y3 y4=>wbJ N n y0 y1 y2 y3 y4 k0) k0 v1038 v1039 v1040 v1041 v1042:=by rw [wbJ.eq]; rfl
noncomputable def wgI {α:Type} (N:Nat) (next:List Int→Int→List Int→Int→List Int→Option α) (k0:Int→List Int→Int→List Int→Option α) (v1236:List Int) (v1237:Int) (v1238:List Int) (v1239:Int) (v1240:List Int):Option α :=
 let x1241:=((v1240.length:Nat):Int)
 let x1242:=((v1236.length:Nat):Int)
 let x1243:=(IntKind.i64.wrap (x1242 + (1:Int)))
 let x1244:=decide (x1241 < x1243)
 bif x1244 then
  let x1245:=[(0:Int)]
  bif decide (v1240.length + x1245.length≤8796093022208) then
   let x1246:=v1240++x1245
   next v1236 v1237 v1238 v1239 x1246
  else
   none
 else
  k0 v1237 v1238 v1239 v1240
noncomputable def wbW.b {α:Type}:=fun N n v1236 v1237 v1238 v1239 v1240 k0=>we2 (fun next=>@wgI α N next k0) (fun _ _ _ _ _=>none) n v1236 v1237 v1238 v1239 v1240
noncomputable def wbW {α:Type}:=wy (@wbW.b α)
theorem wbW.eq:@wbW=@wbW.b:=funext fun α=>wb _
theorem wbW.zero {α:Type} (N v1236 v1237 v1238 v1239 v1240 k0):@wbW α N 0 v1236 v1237 v1238 v1239 v1240 k0=none:=by rw [wbW.eq]; rfl
theorem wbW.succ {α:Type} (N n v1236 v1237 v1238 v1239 v1240 k0):@wbW α N (n + 1) v1236 v1237 v1238 v1239 v1240 k0=wgI N (fun y0 y1 y2 y3 y4=>wbW N n y0 y1 y2 y3 y4 k0) k0 v1236 v1237 v1238 v1239 v1240:=by rw [wbW.eq]; rfl
noncomputable def wgE {α:Type} (N:Nat) (next:Int→List Int→Int→Int→Int→Int→List Int→List Int→Option α) (k0:Int→List Int→Int→Int→Int→List Int→List Int→Option α) (v1277:Int) (v1278:List Int) (v1279:Int) (v1280:Int) (v1281:Int) (v1282:Int) (v1283:List Int) (v1284:List Int):Option α :=
 let x1285:=(decide ((65536:Int)≤v1281))
 bif x1285 then
  let x1286:=(IntKind.i64.wrap (v1281 - (1:Int)))
  let x1287:=(IntKind.i64.wrap (v1279 - (1:Int)))
  bif (decide (x1287 < (0:Int))) then
   none
  else
   match v1278[x1287.toNat]? with
   | some x1288 =>
    let x1289:=IntKind.i64.wrap (v1282 + x1288)
    let x1290:=(decide ((65536:Int)≤x1289))
    bif x1290 then
     k0 v1277 v1278 v1279 v1280 x1286 v1283 v1284
    else
     next v1277 v1278 v1279 v1280 x1286 x1289 v1283 v1284
   | none=>none
 else
  let x1291:=(IntKind.i64.wrap (v1279 - (2:Int)))
  bif (decide (x1291 < (0:Int))) then
   none
  else
   match v1278[x1291.toNat]? with
   | some x1292 =>
    let x1293:=IntKind.i64.wrap (v1281 * x1292)
    let x1294:=(shlI .i64 v1282 (16:Int))
    let x1295:=IntKind.i64.wrap (v1280 + v1279)
    let x1296:=(IntKind.i64.wrap (x1295 - (2:Int)))
    bif (decide (x1296 < (0:Int))) then
     none
    else
     bif decide (x1296.toNat < v1283.length) then
      match v1283[x1296.toNat]? with
      | some x1297 =>
       let x1298:=bitI .or .i64 x1294 x1297
       let x1299:=decide (x1298 < x1293)
       bif x1299 then
        let x1300:=(IntKind.i64.wrap (v1281 - (1:Int)))
        let x1301:=(IntKind.i64.wrap (v1279 - (1:Int)))
        bif (decide (x1301 < (0:Int))) then
         none
        else
         match v1278[x1301.toNat]? with
         | some x1302 =>
          let x1303:=IntKind.i64.wrap (v1282 + x1302)
          let x1304:=(decide ((65536:Int)≤x1303))
          bif x1304 then
           k0 v1277 v1278 v1279 v1280 x1300 v1283 v1284
          else
           next v1277 v1278 v1279 v1280 x1300 x1303 v1283 v1284
         | none=>none
       else
        k0 v1277 v1278 v1279 v1280 v1281 v1283 v1284
      | none=>none
     else
      none
   | none=>none
noncomputable def wbD.b {α:Type}:=fun N n v1277 v1278 v1279 v1280 v1281 v1282 v1283 v1284 k0=>we2 (fun next=>@wgE α N next k0) (fun _ _ _ _ _ _ _ _=>none) n v1277 v1278 v1279 v1280 v1281 v1282 v1283 v1284
noncomputable def wbD {α:Type}:=wy (@wbD.b α)
theorem wbD.eq:@wbD=@wbD.b:=funext fun α=>wb _
theorem wbD.zero {α:Type} (N v1277 v1278 v1279 v1280 v1281 v1282 v1283 v1284 k0):@wbD α N 0 v1277 v1278 v1279 v1280 v1281 v1282 v1283 v1284 k0=none:=by rw [wbD.eq]; rfl
theorem wbD.succ {α:Type} (N n v1277 v1278 v1279 v1280 v1281 v1282 v1283 v1284 k0):@wbD α N (n + 1) v1277 v1278 v1279 v1280 v1281 v1282 v1283 v1284 k0=wgE N (fun y0 y1 y2 y3 y4 y5 y6 y7=>wbD N n y0 y1 y2 y3 y4 y5 y6 y7 k0) k0 v1277 v1278 v1279 v1280 v1281 v1282 v1283 v1284:=by rw [wbD.eq]; rfl
noncomputable def wcO.b {α:Type} (N:Nat) (v1331:Int) (v1332:List Int) (v1333:Int) (v1334:Int) (v1335:Int) (v1336:Int) (v1337:Int) (v1338:Int) (v1339:List Int) (v1340:Int) (v1341:Int) (v1342:List Int) (v1343:List Int) (k0:Int→List Int→Int→Int→Int→Int→Int→Int→List Int→Int→Int→List Int→List Int→Option α):Option α :=
 let x1344:=(decide (v1338 < (0:Int)))
 bif x1344 then
  let x1345:=IntKind.i64.wrap (0 - v1338)
  let x1346:=(IntKind.i64.wrap (x1345 + (65536:Int)))
  let x1347:=(IntKind.i64.wrap (x1346 - (1:Int)))
  let x1348:=(IntKind.i64.wrap (Int.tdiv x1347 (65536:Int)))
  let x1349:=(IntKind.i64.wrap (x1348 * (65536:Int)))
  let x1350:=IntKind.i64.wrap (v1338 + x1349)
  k0 v1331 v1332 v1333 v1334 v1335 x1348 v1337 x1350 v1339 v1340 v1341 v1342 v1343
 else
  k0 v1331 v1332 v1333 v1334 v1335 v1336 v1337 v1338 v1339 v1340 v1341 v1342 v1343
noncomputable def wcO {α:Type}:=wy (@wcO.b α)
theorem wcO.eq:@wcO=@wcO.b:=funext fun α=>wb _
noncomputable def wgc {α:Type} (N:Nat) (next:Int→List Int→Int→Int→Int→Int→List Int→Int→Int→List Int→List Int→Option α) (k0:Int→List Int→Int→Int→Int→Int→List Int→List Int→Option α) (v1313:Int) (v1314:List Int) (v1315:Int) (v1316:Int) (v1317:Int) (v1318:Int) (v1319:List Int) (v1320:Int) (v1321:Int) (v1322:List Int) (v1323:List Int):Option α :=
 let x1324:=decide (v1321 < v1320)
 bif x1324 then
  bif (decide (v1321 < (0:Int))) then
   none
  else
   match v1319[v1321.toNat]? with
   | some x1325 =>
    let x1326:=IntKind.i64.wrap (v1316 + v1321)
    bif (decide (x1326 < (0:Int))) then
     none
    else
     bif decide (x1326.toNat < v1322.length) then
      match v1322[x1326.toNat]? with
      | some x1327 =>
       let x1328:=IntKind.i64.wrap (x1327 - v1318)
       let x1329:=IntKind.i64.wrap (v1317 * x1325)
       let x1330:=IntKind.i64.wrap (x1328 - x1329)
       wcO N v1313 v1314 v1315 v1316 v1317 (0:Int) v1321 x1330 v1319 v1320 v1321 v1322 v1323
        (fun x1351 x1352 x1353 x1354 x1355 x1356 x1357 x1358 x1359 x1360 x1361 x1362 x1363 =>
         let x1364:=IntKind.i64.wrap (x1354 + x1357)
         bif (decide (x1364 < (0:Int))) then
          none
         else
          bif decide (x1364.toNat < x1362.length) then
           match x1362[x1364.toNat]? with
           | some x1365 =>
            let x1366:=x1362.set x1364.toNat x1358
            let x1367:=(IntKind.i64.wrap (x1361 + (1:Int)))
            next x1351 x1352 x1353 x1354 x1355 x1356 x1359 x1360 x1367 x1366 x1363
           | none=>none
          else
           none)
      | none=>none
     else
      none
   | none=>none
 else
  k0 v1313 v1314 v1315 v1316 v1317 v1318 v1322 v1323
noncomputable def wbu.b {α:Type}:=fun N n v1313 v1314 v1315 v1316 v1317 v1318 v1319 v1320 v1321 v1322 v1323 k0=>we2 (fun next=>@wgc α N next k0) (fun _ _ _ _ _ _ _ _ _ _ _=>none) n v1313 v1314 v1315 v1316 v1317 v1318 v1319 v1320 v1321 v1322 v1323
noncomputable def wbu {α:Type}:=wy (@wbu.b α)
theorem wbu.eq:@wbu=@wbu.b:=funext fun α=>wb _
theorem wbu.zero {α:Type} (N v1313 v1314 v1315 v1316 v1317 v1318 v1319 v1320 v1321 v1322 v1323 k0):@wbu α N 0 v1313 v1314 v1315 v1316 v1317 v1318 v1319 v1320 v1321 v1322 v1323 k0=none:=by rw [wbu.eq]; rfl
theorem wbu.succ {α:Type} (N n v1313 v1314 v1315 v1316 v1317 v1318 v1319 v1320 v1321 v1322 v1323 k0):@wbu α N (n + 1) v1313 v1314 v1315 v1316 v1317 v1318 v1319 v1320 v1321 v1322 v1323 k0=wgc N (fun y0 y1 y2 y3 y4 y5 y6 y7 y8 y9 y10=>wbu N n y0 y1 y2 y3 y4 y5 y6 y7 y8 y9 y10 k0) k0 v1313 v1314 v1315 v1316 v1317 v1318 v1319 v1320 v1321 v1322 v1323:=by rw [wbu.eq]; rfl
noncomputable def wfI {α:Type} (N:Nat) (next:Int→List Int→Int→Int→Int→Int→List Int→Int→Int→List Int→List Int→Option α) (k0:Int→List Int→Int→Int→Int→Int→List Int→List Int→Option α) (v1393:Int) (v1394:List Int) (v1395:Int) (v1396:Int) (v1397:Int) (v1398:Int) (v1399:List Int) (v1400:Int) (v1401:Int) (v1402:List Int) (v1403:List Int):Option α :=
 let x1404:=decide (v1401 < v1400)
 bif x1404 then
  bif (decide (v1401 < (0:Int))) then
   none
  else
   match v1399[v1401.toNat]? with
   | some x1405 =>
    let x1406:=IntKind.i64.wrap (v1396 + v1401)
    bif (decide (x1406 < (0:Int))) then
     none
    else
     bif decide (x1406.toNat < v1402.length) then
      match v1402[x1406.toNat]? with
      | some x1407 =>
       let x1408:=IntKind.i64.wrap (x1407 + x1405)
       let x1409:=IntKind.i64.wrap (x1408 + v1398)
       let x1410:=IntKind.i64.wrap (v1396 + v1401)
       let x1411:=(bitI .and .i64 x1409 (65535:Int))
       let x1412:=(shrI .i64 x1409 (16:Int))
       bif (decide (x1410 < (0:Int))) then
        none
       else
        bif decide (x1410.toNat < v1402.length) then
         match v1402[x1410.toNat]? with
         | some x1413 =>
          let x1414:=v1402.set x1410.toNat x1411
          let x1415:=(IntKind.i64.wrap (v1401 + (1:Int)))
          next v1393 v1394 v1395 v1396 v1397 x1412 v1399 v1400 x1415 x1414 v1403
         | none=>none
        else
         none
      | none=>none
     else
      none
   | none=>none
 else
  k0 v1393 v1394 v1395 v1396 v1397 v1398 v1402 v1403
noncomputable def wbm.b {α:Type}:=fun N n v1393 v1394 v1395 v1396 v1397 v1398 v1399 v1400 v1401 v1402 v1403 k0=>we2 (fun next=>@wfI α N next k0) (fun _ _ _ _ _ _ _ _ _ _ _=>none) n v1393 v1394 v1395 v1396 v1397 v1398 v1399 v1400 v1401 v1402 v1403
noncomputable def wbm {α:Type}:=wy (@wbm.b α)
theorem wbm.eq:@wbm=@wbm.b:=funext fun α=>wb _
theorem wbm.zero {α:Type} (N v1393 v1394 v1395 v1396 v1397 v1398 v1399 v1400 v1401 v1402 v1403 k0):@wbm α N 0 v1393 v1394 v1395 v1396 v1397 v1398 v1399 v1400 v1401 v1402 v1403 k0=none:=by rw [wbm.eq]; rfl
theorem wbm.succ {α:Type} (N n v1393 v1394 v1395 v1396 v1397 v1398 v1399 v1400 v1401 v1402 v1403 k0):@wbm α N (n + 1) v1393 v1394 v1395 v1396 v1397 v1398 v1399 v1400 v1401 v1402 v1403 k0=wfI N (fun y0 y1 y2 y3 y4 y5 y6 y7 y8 y9 y10=>wbm N n y0 y1 y2 y3 y4 y5 y6 y7 y8 y9 y10 k0) k0 v1393 v1394 v1395 v1396 v1397 v1398 v1399 v1400 v1401 v1402 v1403:=by rw [wbm.eq]; rfl
noncomputable def wcy.b {α:Type} (N:Nat) (v1381:Int) (v1382:List Int) (v1383:Int) (v1384:Int) (v1385:Int) (v1386:List Int) (v1387:List Int) (k0:Int→List Int→Int→Int→Int→List Int→List Int→Option α):Option α :=
 let x1388:=IntKind.i64.wrap (v1384 + v1383)
 bif (decide (x1388 < (0:Int))) then
  none
 else
  bif decide (x1388.toNat < v1386.length) then
   match v1386[x1388.toNat]? with
   | some x1389 =>
    let x1390:=(decide (x1389 < (0:Int)))
    bif x1390 then
     let x1391:=(IntKind.i64.wrap (v1385 - (1:Int)))
     let x1392:=((v1382.length:Nat):Int)
     wbm N N v1381 v1382 v1383 v1384 x1391 (0:Int) v1382 x1392 (0:Int) v1386 v1387
      (fun x1416 x1417 x1418 x1419 x1420 x1421 x1422 x1423 =>
       let x1424:=IntKind.i64.wrap (x1419 + x1418)
       bif (decide (x1424 < (0:Int))) then
        none
       else
        bif decide (x1424.toNat < x1422.length) then
         match x1422[x1424.toNat]? with
         | some x1425 =>
          let x1426:=IntKind.i64.wrap (x1425 + x1421)
          bif (decide (x1424 < (0:Int))) then
           none
          else
           bif decide (x1424.toNat < x1422.length) then
            match x1422[x1424.toNat]? with
            | some x1427 =>
             let x1428:=x1422.set x1424.toNat x1426
             k0 x1416 x1417 x1418 x1419 x1420 x1428 x1423
            | none=>none
           else
            none
         | none=>none
        else
         none)
    else
     k0 v1381 v1382 v1383 v1384 v1385 v1386 v1387
   | none=>none
  else
   none
noncomputable def wcy {α:Type}:=wy (@wcy.b α)
theorem wcy.eq:@wcy=@wcy.b:=funext fun α=>wb _
noncomputable def wfZ {α:Type} (N:Nat) (next:Int→List Int→Int→Int→List Int→List Int→Option α) (k0:Int→List Int→List Int→Option α) (v1257:Int) (v1258:List Int) (v1259:Int) (v1260:Int) (v1261:List Int) (v1262:List Int):Option α :=
 let x1263:=(decide ((0:Int)≤v1260))
 bif x1263 then
  let x1264:=IntKind.i64.wrap (v1260 + v1259)
  bif (decide (x1264 < (0:Int))) then
   none
  else
   bif decide (x1264.toNat < v1261.length) then
    match v1261[x1264.toNat]? with
    | some x1265 =>
     let x1266:=(shlI .i64 x1265 (16:Int))
     let x1267:=IntKind.i64.wrap (v1260 + v1259)
     let x1268:=(IntKind.i64.wrap (x1267 - (1:Int)))
     bif (decide (x1268 < (0:Int))) then
      none
     else
      bif decide (x1268.toNat < v1261.length) then
       match v1261[x1268.toNat]? with
       | some x1269 =>
        let x1270:=bitI .or .i64 x1266 x1269
        let x1271:=(IntKind.i64.wrap (v1259 - (1:Int)))
        bif (decide (x1271 < (0:Int))) then
         none
        else
         match v1258[x1271.toNat]? with
         | some x1272 =>
          bif (decide (x1272=(0:Int))) then
           none
          else
           let x1273:=IntKind.i64.wrap (Int.tdiv x1270 x1272)
           let x1274:=(IntKind.i64.wrap (v1259 - (1:Int)))
           bif (decide (x1274 < (0:Int))) then
            none
           else
            match v1258[x1274.toNat]? with
            | some x1275 =>
             bif (decide (x1275=(0:Int))) then
              none
             else
              let x1276:=Int.tmod x1270 x1275
              wbD N N v1257 v1258 v1259 v1260 x1273 x1276 v1261 v1262
               (fun x1305 x1306 x1307 x1308 x1309 x1310 x1311 =>
                let x1312:=((x1306.length:Nat):Int)
                wbu N N x1305 x1306 x1307 x1308 x1309 (0:Int) x1306 x1312 (0:Int) x1310 x1311
                 (fun x1368 x1369 x1370 x1371 x1372 x1373 x1374 x1375 =>
                  let x1376:=IntKind.i64.wrap (x1371 + x1370)
                  bif (decide (x1376 < (0:Int))) then
                   none
                  else
                   bif decide (x1376.toNat < x1374.length) then
                    match x1374[x1376.toNat]? with
                    | some x1377 =>
                     let x1378:=IntKind.i64.wrap (x1377 - x1373)
                     bif (decide (x1376 < (0:Int))) then
                      none
                     else
                      bif decide (x1376.toNat < x1374.length) then
                       match x1374[x1376.toNat]? with
                       | some x1379 =>
                        let x1380:=x1374.set x1376.toNat x1378
                        wcy N x1368 x1369 x1370 x1371 x1372 x1380 x1375
                         (fun x1429 x1430 x1431 x1432 x1433 x1434 x1435 =>
                          bif (decide (x1432 < (0:Int))) then
                           none
                          else
                           bif decide (x1432.toNat < x1435.length) then
                            match x1435[x1432.toNat]? with
                            | some x1436 =>
                             let x1437:=x1435.set x1432.toNat x1433
                             let x1438:=(IntKind.i64.wrap (x1432 - (1:Int)))
                             next x1429 x1430 x1431 x1438 x1434 x1437
                            | none=>none
                           else
                            none)
                       | none=>none
                      else
                       none
                    | none=>none
                   else
                    none))
            | none=>none
         | none=>none
       | none=>none
      else
       none
    | none=>none
   else
    none
 else
  k0 v1257 v1261 v1262
noncomputable def wbF.b {α:Type}:=fun N n v1257 v1258 v1259 v1260 v1261 v1262 k0=>we2 (fun next=>@wfZ α N next k0) (fun _ _ _ _ _ _=>none) n v1257 v1258 v1259 v1260 v1261 v1262
noncomputable def wbF {α:Type}:=wy (@wbF.b α)
theorem wbF.eq:@wbF=@wbF.b:=funext fun α=>wb _
theorem wbF.zero {α:Type} (N v1257 v1258 v1259 v1260 v1261 v1262 k0):@wbF α N 0 v1257 v1258 v1259 v1260 v1261 v1262 k0=none:=by rw [wbF.eq]; rfl
theorem wbF.succ {α:Type} (N n v1257 v1258 v1259 v1260 v1261 v1262 k0):@wbF α N (n + 1) v1257 v1258 v1259 v1260 v1261 v1262 k0=wfZ N (fun y0 y1 y2 y3 y4 y5=>wbF N n y0 y1 y2 y3 y4 y5 k0) k0 v1257 v1258 v1259 v1260 v1261 v1262:=by rw [wbF.eq]; rfl
noncomputable def wdI.b {α:Type} (N:Nat) (a1002:List Int) (a1003:List Int) (k0:List Int→List Int→Option α):Option α :=
 wdL N a1002 a1003
  (fun x1030 =>
   let x1031:=(decide (x1030 < (0:Int)))
   bif x1031 then
    k0 [] a1002
   else
    let x1032:=((a1003.length:Nat):Int)
    let x1033:=(decide (x1032=(1:Int)))
    bif x1033 then
     let x1034:=((a1002.length:Nat):Int)
     bif (decide ((0:Int)≤x1034)) then
      bif decide (x1034≤x1034) then
       bif (decide (x1034≤((8796093022208:Nat):Int))) then
        let x1035:=(List.replicate x1034.toNat (0:Int))
        let x1036:=((a1002.length:Nat):Int)
        let x1037:=(IntKind.i64.wrap (x1036 - (1:Int)))
        wbJ N N a1002 a1003 (0:Int) x1037 x1035
         (fun x1054 x1055 =>
          wdk N x1055
           (fun x1056 =>
            let x1057:=[x1054]
            wdk N x1057
             (fun x1058 =>
              k0 x1056 x1058)))
       else
        none
      else
       none
     else
      none
    else
     let x1059:=((a1003.length:Nat):Int)
     let x1060:=(IntKind.i64.wrap (x1059 - (1:Int)))
     bif (decide (x1060 < (0:Int))) then
      none
     else
      match a1003[x1060.toNat]? with
      | some x1061 =>
       let x1062:=IntKind.u64.wrap x1061
       wcW N x1062
        (fun x1091 =>
         let x1092:=(IntKind.i64.wrap ((16:Int) - x1091))
         wbq N a1003 x1092
          (fun x1230 =>
           wbq N a1002 x1092
            (fun x1231 =>
             wc7 N x1231
              (fun x1232 =>
               let x1233:=[(0:Int)]
               bif decide (x1232.length + x1233.length≤8796093022208) then
                let x1234:=x1232++x1233
                let x1235:=((x1230.length:Nat):Int)
                wbW N N a1002 x1092 x1230 x1235 x1234
                 (fun x1247 x1248 x1249 x1250 =>
                  let x1251:=((x1250.length:Nat):Int)
                  let x1252:=IntKind.i64.wrap (x1251 - x1249)
                  bif (decide ((0:Int)≤x1252)) then
                   bif decide (x1252≤x1252) then
                    bif (decide (x1252≤((8796093022208:Nat):Int))) then
                     let x1253:=(List.replicate x1252.toNat (0:Int))
                     let x1254:=((x1250.length:Nat):Int)
                     let x1255:=IntKind.i64.wrap (x1254 - x1249)
                     let x1256:=(IntKind.i64.wrap (x1255 - (1:Int)))
                     wbF N N x1247 x1248 x1249 x1256 x1250 x1253
                      (fun x1439 x1440 x1441 =>
                       wdk N x1441
                        (fun x1442 =>
                         wdk N x1440
                          (fun x1443 =>
                           let x1444:=IntKind.i64.wrap (0 - x1439)
                           wbq N x1443 x1444
                            (fun x1445 =>
                             k0 x1442 x1445))))
                    else
                     none
                   else
                    none
                  else
                   none)
               else
                none))))
      | none=>none)
noncomputable def wdI {α:Type}:=wy (@wdI.b α)
theorem wdI.eq:@wdI=@wdI.b:=funext fun α=>wb _

noncomputable def wgS {α:Type} (N:Nat) (next:List Int→List Int→Option α) (k0:List Int→Option α) (v941:List Int) (v942:List Int):Option α :=
 let x943:=((v942.length:Nat):Int)
 let x944:=(decide ((0:Int) < x943))
 bif x944 then
  wdI N v941 v942
   (fun _ x1447 =>
    next v942 x1447)
 else
  k0 v941
noncomputable def wbV.b {α:Type}:=fun N n v941 v942 k0=>we2 (fun next=>@wgS α N next k0) (fun _ _=>none) n v941 v942
noncomputable def wbV {α:Type}:=wy (@wbV.b α)
theorem wbV.eq:@wbV=@wbV.b:=funext fun α=>wb _
theorem wbV.zero {α:Type} (N v941 v942 k0):@wbV α N 0 v941 v942 k0=none:=by rw [wbV.eq]; rfl
theorem wbV.succ {α:Type} (N n v941 v942 k0):@wbV α N (n + 1) v941 v942 k0=wgS N (fun y0 y1=>wbV N n y0 y1 k0) k0 v941 v942:=by rw [wbV.eq]; rfl
noncomputable def wd6.b {α:Type} (N:Nat) (a939:List Int) (a940:List Int) (k0:List Int→Option α):Option α :=
 wbV N N a939 a940
  (fun x1448 =>
   k0 x1448)
noncomputable def wd6 {α:Type}:=wy (@wd6.b α)
theorem wd6.eq:@wd6=@wd6.b:=funext fun α=>wb _

noncomputable def wdm.b {α:Type} (N:Nat) (v1450:Bool) (v1451:List Int) (v1452:List Int) (v1453:List Int) (v1454:Bool) (v1455:List Int) (v1456:List Int) (k0:Bool→List Int→List Int→Bool→List Int→List Int→Option α):Option α :=
 let x1457:=[(1:Int)]
 wdL N v1453 x1457
  (fun x1458 =>
   let x1459:=(!(decide (x1458=(0:Int))))
   bif x1459 then
    wdI N v1451 v1453
     (fun x1460 _ =>
      wdI N v1452 v1453
       (fun x1462 _ =>
        k0 v1450 x1460 x1462 v1454 v1455 v1456))
   else
    k0 v1450 v1451 v1452 v1454 v1455 v1456)
noncomputable def wdm {α:Type}:=wy (@wdm.b α)
theorem wdm.eq:@wdm=@wdm.b:=funext fun α=>wb _
noncomputable def wep.b {α:Type} (N:Nat) (a936:Bool) (a937:List Int) (a938:List Int) (k0:(Bool×(List Int)×(List Int)×Unit)→Option α):Option α :=
 wd6 N a937 a938
  (fun x1449 =>
   wdm N a936 a937 a938 x1449 false [] []
    (fun x1464 x1465 x1466 _ _ _ =>
     bif x1464 then
      let x1470:=((x1465.length:Nat):Int)
      let x1471:=(decide ((0:Int) < x1470))
      k0 (x1471,(x1465,(x1466,())))
     else
      k0 (false,(x1465,(x1466,())))))
noncomputable def wep {α:Type}:=wy (@wep.b α)
theorem wep.eq:@wep=@wep.b:=funext fun α=>wb _

noncomputable def wd9.b {α:Type} (N:Nat) (a491:ByteArray) (k0:Bool→Bool→List Int→List Int→Option α):Option α :=
 we9 N a491
  (fun x602 =>
   let x603 := !x602
   bif x603 then
    k0 false false [] []
   else
    wdZ N a491
     (fun x604 x605 x606 _ =>
      bif decide (x604.size + x605.size≤9223372036854775807) then
       let x608:=x604++x605
       wd7 N x608
        (fun x882 =>
         let x883:=((x605.size:Nat):Int)
         let x884:=IntKind.i64.wrap (x606 - x883)
         let x885:=(decide ((0:Int)≤x884))
         bif x885 then
          wfT N x884
           (fun x905 =>
            wdF N x882 x905
             (fun x906 =>
              wea N false x906
               (fun x913 x914 x915 =>
                weW N (x913,(x914,(x915,())))
                 (fun x930 x931 x932 x933 =>
                  k0 x930 x931 x932 x933))))
         else
          let x934:=IntKind.i64.wrap (0 - x884)
          wfT N x934
           (fun x935 =>
            wep N false x882 x935
             (fun x1472 =>
              weW N x1472
               (fun x1473 x1474 x1475 x1476 =>
                k0 x1473 x1474 x1475 x1476))))
      else
       none))
noncomputable def wd9 {α:Type}:=wy (@wd9.b α)
theorem wd9.eq:@wd9=@wd9.b:=funext fun α=>wb _

noncomputable def wcP.b {α:Type} (N:Nat) (a1486:Int) (k0:(Int×Int×Int×Int×Unit)→Bool→Option α):Option α :=
 let x1487:=(decide (a1486=(32:Int)))
 bif x1487 then
  k0 ((23:Int),((-149:Int),((127:Int),((2139095040:Int),())))) true
 else
  let x1488:=(decide (a1486=(64:Int)))
  bif x1488 then
   k0 ((52:Int),((-1074:Int),((1023:Int),((9218868437227405312:Int),())))) true
  else
   k0 ((0:Int),((0:Int),((0:Int),((0:Int),())))) false
noncomputable def wcP {α:Type}:=wy (@wcP.b α)
theorem wcP.eq:@wcP=@wcP.b:=funext fun α=>wb _

noncomputable def wgj.b {α:Type} (N:Nat) (a1517:Int) (a1518:Int) (a1519:Int) (k0:Bool→Option α):Option α :=
 let x1520:=decide (a1518≤a1517)
 bif x1520 then
  let x1521:=decide (a1517≤a1519)
  k0 x1521
 else
  k0 false
noncomputable def wgj {α:Type}:=wy (@wgj.b α)
theorem wgj.eq:@wgj=@wgj.b:=funext fun α=>wb _

noncomputable def wex.b {α:Type} (N:Nat) (a1516:Int) (k0:Bool→Option α):Option α :=
 wgj N a1516 (0:Int) (65535:Int)
  (fun x1522 =>
   let x1523 := !x1522
   k0 x1523)
noncomputable def wex {α:Type}:=wy (@wex.b α)
theorem wex.eq:@wex=@wex.b:=funext fun α=>wb _

noncomputable def wbT {α:Type} (N:Nat) (next:List Int→Int→Int→Option α) (k0:Int→Option α) (k1:Option α) (v1511:List Int) (v1512:Int) (v1513:Int):Option α :=
 let x1514:=decide (v1513 < v1512)
 bif x1514 then
  bif (decide (v1513 < (0:Int))) then
   none
  else
   match v1511[v1513.toNat]? with
   | some x1515 =>
    wex N x1515
     (fun x1524 =>
      bif x1524 then
       k0 v1513
      else
       let x1525:=(IntKind.i64.wrap (v1513 + (1:Int)))
       next v1511 v1512 x1525)
   | none=>none
 else
  k1
noncomputable def we.b {α:Type}:=fun N n v1511 v1512 v1513 k0 k1=>we2 (fun next=>@wbT α N next k0 k1) (fun _ _ _=>none) n v1511 v1512 v1513
noncomputable def we {α:Type}:=wy (@we.b α)
theorem we.eq:@we=@we.b:=funext fun α=>wb _
theorem we.zero {α:Type} (N v1511 v1512 v1513 k0 k1):@we α N 0 v1511 v1512 v1513 k0 k1=none:=by rw [we.eq]; rfl
theorem we.succ {α:Type} (N n v1511 v1512 v1513 k0 k1):@we α N (n + 1) v1511 v1512 v1513 k0 k1=wbT N (fun y0 y1 y2=>we N n y0 y1 y2 k0 k1) k0 k1 v1511 v1512 v1513:=by rw [we.eq]; rfl
noncomputable def wz.b {α:Type} (N:Nat) (a1509:List Int) (k0:Int→Option α):Option α :=
 let x1510:=((a1509.length:Nat):Int)
 we N N a1509 x1510 (0:Int)
  (fun x1526 =>
   k0 x1526)
  (
   k0 (-1:Int))
noncomputable def wz {α:Type}:=wy (@wz.b α)
theorem wz.eq:@wz=@wz.b:=funext fun α=>wb _

noncomputable def wo.b {α:Type} (N:Nat) (a1508:List Int) (k0:Bool→Option α):Option α :=
 wz N a1508
  (fun x1527 =>
   let x1528:=(decide ((0:Int)≤x1527))
   k0 x1528)
noncomputable def wo {α:Type}:=wy (@wo.b α)
theorem wo.eq:@wo=@wo.b:=funext fun α=>wb _

noncomputable def wfc.b {α:Type} (N:Nat) (a1503:List Int) (k0:Bool→Option α):Option α :=
 let x1504:=((a1503.length:Nat):Int)
 let x1505:=(decide (x1504≤(256:Int)))
 bif x1505 then
  let x1506:=((a1503.length:Nat):Int)
  let x1507:=(decide (x1506=(0:Int)))
  bif x1507 then
   wo N a1503
    (fun x1529 =>
     let x1530 := !x1529
     k0 x1530)
  else
   let x1531:=((a1503.length:Nat):Int)
   let x1532:=(IntKind.i64.wrap (x1531 - (1:Int)))
   bif (decide (x1532 < (0:Int))) then
    none
   else
    match a1503[x1532.toNat]? with
    | some x1533 =>
     let x1534:=(!(decide (x1533=(0:Int))))
     bif x1534 then
      wo N a1503
       (fun x1535 =>
        let x1536 := !x1535
        k0 x1536)
     else
      k0 false
    | none=>none
 else
  k0 false
noncomputable def wfc {α:Type}:=wy (@wfc.b α)
theorem wfc.eq:@wfc=@wfc.b:=funext fun α=>wb _

noncomputable def we1.b {α:Type} (N:Nat) (a1502:List Int) (k0:Bool→Option α):Option α :=
 wfc N a1502
  (fun x1537 =>
   let x1538 := !x1537
   k0 x1538)
noncomputable def we1 {α:Type}:=wy (@we1.b α)
theorem we1.eq:@we1=@we1.b:=funext fun α=>wb _

noncomputable def wbY {α:Type} (N:Nat) (next:List (List Int)→Int→Int→Option α) (k0:Int→Option α) (k1:Option α) (v1497:List (List Int)) (v1498:Int) (v1499:Int):Option α :=
 let x1500:=decide (v1499 < v1498)
 bif x1500 then
  bif (decide (v1499 < (0:Int))) then
   none
  else
   match v1497[v1499.toNat]? with
   | some x1501 =>
    we1 N x1501
     (fun x1539 =>
      bif x1539 then
       k0 v1499
      else
       let x1540:=(IntKind.i64.wrap (v1499 + (1:Int)))
       next v1497 v1498 x1540)
   | none=>none
 else
  k1
noncomputable def wg.b {α:Type}:=fun N n v1497 v1498 v1499 k0 k1=>we2 (fun next=>@wbY α N next k0 k1) (fun _ _ _=>none) n v1497 v1498 v1499
noncomputable def wg {α:Type}:=wy (@wg.b α)
theorem wg.eq:@wg=@wg.b:=funext fun α=>wb _
theorem wg.zero {α:Type} (N v1497 v1498 v1499 k0 k1):@wg α N 0 v1497 v1498 v1499 k0 k1=none:=by rw [wg.eq]; rfl
theorem wg.succ {α:Type} (N n v1497 v1498 v1499 k0 k1):@wg α N (n + 1) v1497 v1498 v1499 k0 k1=wbY N (fun y0 y1 y2=>wg N n y0 y1 y2 k0 k1) k0 k1 v1497 v1498 v1499:=by rw [wg.eq]; rfl
noncomputable def wA.b {α:Type} (N:Nat) (a1495:List (List Int)) (k0:Int→Option α):Option α :=
 let x1496:=((a1495.length:Nat):Int)
 wg N N a1495 x1496 (0:Int)
  (fun x1541 =>
   k0 x1541)
  (
   k0 (-1:Int))
noncomputable def wA {α:Type}:=wy (@wA.b α)
theorem wA.eq:@wA=@wA.b:=funext fun α=>wb _

noncomputable def ww.b {α:Type} (N:Nat) (a1494:List (List Int)) (k0:Bool→Option α):Option α :=
 wA N a1494
  (fun x1542 =>
   let x1543:=(decide ((0:Int)≤x1542))
   k0 x1543)
noncomputable def ww {α:Type}:=wy (@ww.b α)
theorem ww.eq:@ww=@ww.b:=funext fun α=>wb _

noncomputable def wfw.b {α:Type} (N:Nat) (a1493:List (List Int)) (k0:Bool→Option α):Option α :=
 ww N a1493
  (fun x1544 =>
   let x1545 := !x1544
   k0 x1545)
noncomputable def wfw {α:Type}:=wy (@wfw.b α)
theorem wfw.eq:@wfw=@wfw.b:=funext fun α=>wb _

noncomputable def wel.b {α:Type} (N:Nat) (a1491:Bool×(List Int)×(List Int)×Unit) (k0:Bool→Option α):Option α :=
 let x1492:=[a1491.2.1,a1491.2.2.1]
 wfw N x1492
  (fun x1546 =>
   bif x1546 then
    let x1547:=((a1491.2.2.1.length:Nat):Int)
    let x1548:=(decide ((0:Int) < x1547))
    bif x1548 then
     let x1549:=((a1491.2.1.length:Nat):Int)
     let x1550:=(decide ((0:Int) < x1549))
     bif x1550 then
      wd6 N a1491.2.1 a1491.2.2.1
       (fun x1551 =>
        let x1552:=[(1:Int)]
        wdL N x1551 x1552
         (fun x1553 =>
          let x1554:=(decide (x1553=(0:Int)))
          k0 x1554))
     else
      let x1555 := !a1491.1
      bif x1555 then
       wd6 N a1491.2.1 a1491.2.2.1
        (fun x1556 =>
         let x1557:=[(1:Int)]
         wdL N x1556 x1557
          (fun x1558 =>
           let x1559:=(decide (x1558=(0:Int)))
           k0 x1559))
      else
       k0 false
    else
     k0 false
   else
    k0 false)
noncomputable def wel {α:Type}:=wy (@wel.b α)
theorem wel.eq:@wel=@wel.b:=funext fun α=>wb _

noncomputable def web.b {α:Type} (N:Nat) (a1484:Int) (a1485:Bool×(List Int)×(List Int)×Unit) (k0:Bool→Option α):Option α :=
 wcP N a1484
  (fun _ x1490 =>
   bif x1490 then
    wel N a1485
     (fun x1560 =>
      k0 x1560)
   else
    k0 false)
noncomputable def web {α:Type}:=wy (@web.b α)
theorem web.eq:@web=@web.b:=funext fun α=>wb _

noncomputable def wdN.b {α:Type} (N:Nat) (a1572:List Int) (k0:Int→Option α):Option α :=
 let x1573:=((a1572.length:Nat):Int)
 let x1574:=(decide (x1573=(0:Int)))
 bif x1574 then
  k0 (0:Int)
 else
  let x1575:=((a1572.length:Nat):Int)
  let x1576:=(IntKind.i64.wrap (x1575 - (1:Int)))
  let x1577:=(IntKind.i64.wrap ((16:Int) * x1576))
  let x1578:=((a1572.length:Nat):Int)
  let x1579:=(IntKind.i64.wrap (x1578 - (1:Int)))
  bif (decide (x1579 < (0:Int))) then
   none
  else
   match a1572[x1579.toNat]? with
   | some x1580 =>
    let x1581:=IntKind.u64.wrap x1580
    wcW N x1581
     (fun x1582 =>
      let x1583:=IntKind.i64.wrap (x1577 + x1582)
      k0 x1583)
   | none=>none
noncomputable def wdN {α:Type}:=wy (@wdN.b α)
theorem wdN.eq:@wdN=@wdN.b:=funext fun α=>wb _

-- prim wC
noncomputable def wcS.b {α:Type} (N:Nat) (v1669:Int) (v1670:Int) (v1671:Int) (v1672:Int) (v1673:Bool×Int×Int×Unit) (v1674:Int×Int×Int×Int×Unit) (k0:Int→(Bool×Int×Int×Unit)→Option α):Option α :=
 let x1675:=(decide ((1:Int)≤v1672))
 bif x1675 then
  bif (decide (v1674.1 < (0:Int))) then
   none
  else
   let x1676:=shlI .i64 v1672 v1674.1
   let x1677:=(IntKind.i64.wrap (v1674.1 + (1:Int)))
   let x1678:=IntKind.i64.wrap (x1677 - v1671)
   bif (decide (x1678 < (0:Int))) then
    none
   else
    let x1679:=shlI .u64 v1669 x1678
    let x1680:=IntKind.i64.wrap x1679
    bif (decide (v1674.1 < (0:Int))) then
     none
    else
     let x1681:=(shlI .i64 (1:Int) v1674.1)
     let x1682:=(IntKind.i64.wrap (x1681 - (1:Int)))
     let x1683:=bitI .and .i64 x1680 x1682
     let x1684:=bitI .or .i64 x1676 x1683
     k0 x1684 v1673
 else
  let x1685:=IntKind.i64.wrap (v1670 - v1674.2.1)
  bif (decide (x1685 < (0:Int))) then
   none
  else
   let x1686:=shlI .u64 v1669 x1685
   let x1687:=IntKind.i64.wrap x1686
   k0 x1687 v1673
noncomputable def wcS {α:Type}:=wy (@wcS.b α)
theorem wcS.eq:@wcS=@wcS.b:=funext fun α=>wb _
noncomputable def wda.b {α:Type} (N:Nat) (v1690:Int) (v1691:Bool×Int×Int×Unit) (k0:Int→Option α):Option α :=
 bif v1691.1 then
  let x1692:=IntKind.i64.wrap (0 - v1690)
  k0 x1692
 else
  k0 v1690
noncomputable def wda {α:Type}:=wy (@wda.b α)
theorem wda.eq:@wda=@wda.b:=funext fun α=>wb _
noncomputable def wdH.b {α:Type} (N:Nat) (a1650:Int) (a1651:Bool×Int×Int×Unit) (k0:Int→Bool→Option α):Option α :=
 wcP N a1650
  (fun x1652 x1653 =>
   let x1654 := !x1653
   bif x1654 then
    k0 (0:Int) false
   else
    wgj N a1651.2.2.1 (-2000:Int) (2000:Int)
     (fun x1655 =>
      let x1656 := !x1655
      bif x1656 then
       k0 (0:Int) false
      else
       let x1657:=(decide (a1651.2.1=(0:Int)))
       bif x1657 then
        k0 (0:Int) true
       else
        wC N a1651.2.1
         (fun x1658 =>
          bif (decide (x1658 < (0:Int))) then
           none
          else
           let x1659:=shrI .u64 a1651.2.1 x1658
           let x1660:=IntKind.i64.wrap (a1651.2.2.1 + x1658)
           wcZ N x1659
            (fun x1661 =>
             let x1662:=IntKind.i64.wrap (x1660 + x1661)
             let x1663:=(IntKind.i64.wrap (x1662 - (1:Int)))
             let x1664:=(IntKind.i64.wrap (x1652.1 + (1:Int)))
             let x1665:=decide (x1664 < x1661)
             bif x1665 then
              k0 (0:Int) false
             else
              let x1666:=decide (x1660 < x1652.2.1)
              bif x1666 then
               k0 (0:Int) false
              else
               let x1667:=decide (x1652.2.2.1 < x1663)
               bif x1667 then
                k0 (0:Int) false
               else
                let x1668:=IntKind.i64.wrap (x1663 + x1652.2.2.1)
                wcS N x1659 x1660 x1661 x1668 a1651 x1652
                 (fun x1688 x1689 =>
                  wda N x1688 x1689
                   (fun x1693 =>
                    k0 x1693 true))))))
noncomputable def wdH {α:Type}:=wy (@wdH.b α)
theorem wdH.eq:@wdH=@wdH.b:=funext fun α=>wb _

noncomputable def wcD.b {α:Type} (N:Nat) (v1589:Int) (v1590:Int) (v1591:Int) (v1592:List Int) (v1593:List Int) (v1594:Int×Int×Int×Int×Unit) (k0:Int→Int→Int→List Int→List Int→(Int×Int×Int×Int×Unit)→Option α):Option α :=
 let x1595:=(decide (v1591 < (0:Int)))
 bif x1595 then
  let x1596:=IntKind.i64.wrap (0 - v1591)
  wbq N v1592 x1596
   (fun x1597 =>
    k0 v1589 v1590 v1591 x1597 v1593 v1594)
 else
  wbq N v1593 v1591
   (fun x1598 =>
    k0 v1589 v1590 v1591 v1592 x1598 v1594)
noncomputable def wcD {α:Type}:=wy (@wcD.b α)
theorem wcD.eq:@wcD=@wcD.b:=funext fun α=>wb _
noncomputable def wcL.b {α:Type} (N:Nat) (v1609:Int) (v1610:Int) (v1611:Int) (v1612:List Int) (v1613:Bool) (v1614:Int×Int×Int×Int×Unit) (k0:Int→Int→List Int→Bool→(Int×Int×Int×Int×Unit)→Option α):Option α :=
 wdN N v1612
  (fun x1615 =>
   let x1616:=decide (v1610 < x1615)
   bif x1616 then
    bif v1613 then
     match v1612[0]? with
     | some x1617 =>
      let x1618:=(bitI .and .i64 x1617 (1:Int))
      let x1619:=(decide (x1618=(0:Int)))
      wbq N v1612 (-1:Int)
       (fun x1620 =>
        let x1621:=(IntKind.i64.wrap (v1611 + (1:Int)))
        k0 v1609 x1621 x1620 x1619 v1614)
     | none=>none
    else
     wbq N v1612 (-1:Int)
      (fun x1622 =>
       let x1623:=(IntKind.i64.wrap (v1611 + (1:Int)))
       k0 v1609 x1623 x1622 false v1614)
   else
    k0 v1609 v1611 v1612 v1613 v1614)
noncomputable def wcL {α:Type}:=wy (@wcL.b α)
theorem wcL.eq:@wcL=@wcL.b:=funext fun α=>wb _
noncomputable def wfl {α:Type} (N:Nat) (next:Int→Int→Bool→Int→List Int→Int→Int→(Int×Int×Int×Int×Unit)→Option α) (k0:Int→Int→Bool→Int→(Int×Int×Int×Int×Unit)→Option α) (v1630:Int) (v1631:Int) (v1632:Bool) (v1633:Int) (v1634:List Int) (v1635:Int) (v1636:Int) (v1637:Int×Int×Int×Int×Unit):Option α :=
 let x1638:=decide (v1636 < v1635)
 bif x1638 then
  bif (decide (v1636 < (0:Int))) then
   none
  else
   match v1634[v1636.toNat]? with
   | some x1639 =>
    let x1640:=IntKind.u64.wrap x1639
    let x1641:=(IntKind.i64.wrap ((16:Int) * v1636))
    bif (decide (x1641 < (0:Int))) then
     none
    else
     let x1642:=shlI .u64 x1640 x1641
     let x1643:=bitI .or .u64 v1633 x1642
     let x1644:=(IntKind.i64.wrap (v1636 + (1:Int)))
     next v1630 v1631 v1632 x1643 v1634 v1635 x1644 v1637
   | none=>none
 else
  k0 v1630 v1631 v1632 v1633 v1637
noncomputable def wP.b {α:Type}:=fun N n v1630 v1631 v1632 v1633 v1634 v1635 v1636 v1637 k0=>we2 (fun next=>@wfl α N next k0) (fun _ _ _ _ _ _ _ _=>none) n v1630 v1631 v1632 v1633 v1634 v1635 v1636 v1637
noncomputable def wP {α:Type}:=wy (@wP.b α)
theorem wP.eq:@wP=@wP.b:=funext fun α=>wb _
theorem wP.zero {α:Type} (N v1630 v1631 v1632 v1633 v1634 v1635 v1636 v1637 k0):@wP α N 0 v1630 v1631 v1632 v1633 v1634 v1635 v1636 v1637 k0=none:=by rw [wP.eq]; rfl
theorem wP.succ {α:Type} (N n v1630 v1631 v1632 v1633 v1634 v1635 v1636 v1637 k0):@wP α N (n + 1) v1630 v1631 v1632 v1633 v1634 v1635 v1636 v1637 k0=wfl N (fun y0 y1 y2 y3 y4 y5 y6 y7=>wP N n y0 y1 y2 y3 y4 y5 y6 y7 k0) k0 v1630 v1631 v1632 v1633 v1634 v1635 v1636 v1637:=by rw [wP.eq]; rfl
noncomputable def wdr.b {α:Type} (N:Nat) (a1565:Int) (a1566:Bool×(List Int)×(List Int)×Unit) (k0:Int→Bool→Option α):Option α :=
 wcP N a1565
  (fun x1567 _ =>
   let x1569:=((a1566.2.1.length:Nat):Int)
   let x1570:=(decide (x1569=(0:Int)))
   bif x1570 then
    k0 (0:Int) true
   else
    let x1571:=(IntKind.i64.wrap (x1567.1 + (1:Int)))
    wdN N a1566.2.1
     (fun x1584 =>
      wdN N a1566.2.2.1
       (fun x1585 =>
        let x1586:=IntKind.i64.wrap (x1584 - x1585)
        let x1587:=IntKind.i64.wrap (x1586 - x1571)
        let x1588:=maxI x1567.2.1 x1587
        wcD N a1565 x1571 x1588 a1566.2.1 a1566.2.2.1 x1567
         (fun x1599 x1600 x1601 x1602 x1603 x1604 =>
          wdI N x1602 x1603
           (fun x1605 x1606 =>
            let x1607:=((x1606.length:Nat):Int)
            let x1608:=(decide (x1607=(0:Int)))
            wcL N x1599 x1600 x1601 x1605 x1608 x1604
             (fun x1624 x1625 x1626 x1627 x1628 =>
              let x1629:=((x1626.length:Nat):Int)
              wP N N x1624 x1625 x1627 (0:Int) x1626 x1629 (0:Int) x1628
               (fun x1645 x1646 x1647 x1648 x1649 =>
                wdH N x1645 (false,(x1648,(x1646,())))
                 (fun x1694 x1695 =>
                  let x1696 := !x1695
                  bif x1696 then
                   let x1697:=(IntKind.i64.wrap (x1649.2.2.2.1 - (1:Int)))
                   k0 x1697 false
                  else
                   k0 x1694 x1647))))))))
noncomputable def wdr {α:Type}:=wy (@wdr.b α)
theorem wdr.eq:@wdr=@wdr.b:=funext fun α=>wb _

noncomputable def wdP.b {α:Type} (N:Nat) (v1700:Int) (v1701:Bool) (v1702:Int) (v1703:Bool×(List Int)×(List Int)×Unit) (k0:Int→Int→(Bool×(List Int)×(List Int)×Unit)→Option α):Option α :=
 let x1704 := !v1701
 bif x1704 then
  let x1705:=(IntKind.i64.wrap (v1702 + (1:Int)))
  k0 v1700 x1705 v1703
 else
  k0 v1700 v1702 v1703
noncomputable def wdP {α:Type}:=wy (@wdP.b α)
theorem wdP.eq:@wdP=@wdP.b:=funext fun α=>wb _
noncomputable def weH.b {α:Type} (N:Nat) (a1563:Int) (a1564:Bool×(List Int)×(List Int)×Unit) (k0:Int→Int→Option α):Option α :=
 wdr N a1563 a1564
  (fun x1698 x1699 =>
   wdP N x1698 x1699 x1698 a1564
    (fun x1706 x1707 x1708 =>
     bif x1708.1 then
      let x1709:=IntKind.i64.wrap (0 - x1707)
      let x1710:=IntKind.i64.wrap (0 - x1706)
      k0 x1709 x1710
     else
      k0 x1706 x1707))
noncomputable def weH {α:Type}:=wy (@weH.b α)
theorem weH.eq:@weH=@weH.b:=funext fun α=>wb _

noncomputable def wdh.b {α:Type} (N:Nat) (a1482:Int) (a1483:Bool×(List Int)×(List Int)×Unit) (k0:(Int×Int×Unit)→Bool→Option α):Option α :=
 web N a1482 a1483
  (fun x1561 =>
   let x1562 := !x1561
   bif x1562 then
    k0 ((0:Int),((0:Int),())) false
   else
    weH N a1482 a1483
     (fun x1711 x1712 =>
      k0 (x1711,(x1712,())) true))
noncomputable def wdh {α:Type}:=wy (@wdh.b α)
theorem wdh.eq:@wdh=@wdh.b:=funext fun α=>wb _

noncomputable def wec.b {α:Type} (N:Nat) (a489:Int) (a490:ByteArray) (k0:(Int×Int×Unit)→Bool→Option α):Option α :=
 wd9 N a490
  (fun x1477 x1478 x1479 x1480 =>
   let x1481 := !x1478
   bif x1481 then
    k0 ((0:Int),((0:Int),())) false
   else
    wdh N a489 (x1477,(x1479,(x1480,())))
     (fun x1713 x1714 =>
      k0 x1713 x1714))
noncomputable def wec {α:Type}:=wy (@wec.b α)
theorem wec.eq:@wec=@wec.b:=funext fun α=>wb _

noncomputable def wfq {α:Type} (N:Nat) (next:ByteArray→Int→Int→Option α) (k0:Int→Option α) (v1725:ByteArray) (v1726:Int) (v1727:Int):Option α :=
 let x1728:=IntKind.i64.wrap (v1726 + v1727)
 let x1729:=((v1725.size:Nat):Int)
 let x1730:=decide (x1728 < x1729)
 bif x1730 then
  let x1731:=IntKind.i64.wrap (v1726 + v1727)
  bif (decide (x1731 < (0:Int))) then
   none
  else
   match (v1725[x1731.toNat]?:Option UInt8) with
   | some x1732 =>
    let x1733:=((x1732.toNat:Nat):Int)
    let x1734:=(decide ((48:Int)≤x1733))
    bif x1734 then
     let x1735:=IntKind.i64.wrap (v1726 + v1727)
     bif (decide (x1735 < (0:Int))) then
      none
     else
      match (v1725[x1735.toNat]?:Option UInt8) with
      | some x1736 =>
       let x1737:=((x1736.toNat:Nat):Int)
       let x1738:=(decide (x1737≤(57:Int)))
       bif x1738 then
        let x1739:=(IntKind.i64.wrap (v1727 + (1:Int)))
        next v1725 v1726 x1739
       else
        k0 v1727
      | none=>none
    else
     k0 v1727
   | none=>none
 else
  k0 v1727
noncomputable def wY.b {α:Type}:=fun N n v1725 v1726 v1727 k0=>we2 (fun next=>@wfq α N next k0) (fun _ _ _=>none) n v1725 v1726 v1727
noncomputable def wY {α:Type}:=wy (@wY.b α)
theorem wY.eq:@wY=@wY.b:=funext fun α=>wb _
theorem wY.zero {α:Type} (N v1725 v1726 v1727 k0):@wY α N 0 v1725 v1726 v1727 k0=none:=by rw [wY.eq]; rfl
theorem wY.succ {α:Type} (N n v1725 v1726 v1727 k0):@wY α N (n + 1) v1725 v1726 v1727 k0=wfq N (fun y0 y1 y2=>wY N n y0 y1 y2 k0) k0 v1725 v1726 v1727:=by rw [wY.eq]; rfl
noncomputable def wcA.b {α:Type} (N:Nat) (a1723:ByteArray) (a1724:Int) (k0:Int→Option α):Option α :=
 wY N N a1723 a1724 (0:Int)
  (fun x1740 =>
   k0 x1740)
noncomputable def wcA {α:Type}:=wy (@wcA.b α)
theorem wcA.eq:@wcA=@wcA.b:=funext fun α=>wb _

noncomputable def wcN.b {α:Type} (N:Nat) (v1748:ByteArray) (v1749:ByteArray) (v1750:Int) (v1751:Int) (k0:ByteArray→Int→Int→Bool→Option α) (k1:ByteArray→ByteArray→Int→Int→Option α):Option α :=
 let x1752:=((v1748.size:Nat):Int)
 let x1753:=decide (v1751 < x1752)
 bif x1753 then
  bif (decide (v1751 < (0:Int))) then
   none
  else
   match (v1748[v1751.toNat]?:Option UInt8) with
   | some x1754 =>
    let x1755:=((x1754.toNat:Nat):Int)
    let x1756:=(decide (x1755=(46:Int)))
    bif x1756 then
     let x1757:=(IntKind.i64.wrap (v1751 + (1:Int)))
     wcA N v1748 x1757
      (fun x1758 =>
       let x1759:=(decide (x1758=(0:Int)))
       bif x1759 then
        k0 ByteArray.empty (0:Int) (0:Int) false
       else
        let x1760:=(IntKind.i64.wrap (v1751 + (1:Int)))
        let x1761:=(IntKind.i64.wrap (v1751 + (1:Int)))
        let x1762:=IntKind.i64.wrap (x1761 + x1758)
        bif (decide ((0:Int)≤x1762)) then
         bif (decide (x1762≤((v1748.size:Nat):Int))) then
          bif (decide ((0:Int)≤x1760)) then
           bif (decide (x1760≤((x1762.toNat:Nat):Int))) then
            let x1763:=v1748.extract x1760.toNat x1762.toNat
            bif decide (v1749.size + x1763.size≤9223372036854775807) then
             let x1764:=v1749++x1763
             let x1765:=(IntKind.i64.wrap (v1751 + (1:Int)))
             let x1766:=IntKind.i64.wrap (x1765 + x1758)
             k1 v1748 x1764 x1758 x1766
            else
             none
           else
            none
          else
           none
         else
          none
        else
         none)
    else
     k1 v1748 v1749 v1750 v1751
   | none=>none
 else
  k1 v1748 v1749 v1750 v1751
noncomputable def wcN {α:Type}:=wy (@wcN.b α)
theorem wcN.eq:@wcN=@wcN.b:=funext fun α=>wb _
noncomputable def wcM.b {α:Type} (N:Nat) (v1791:ByteArray) (v1792:ByteArray) (v1793:Int) (v1794:Int) (v1795:Int) (v1796:Bool) (k0:ByteArray→ByteArray→Int→Int→Int→Bool→Option α):Option α :=
 bif v1796 then
  let x1797:=(IntKind.i64.wrap (v1794 + (1:Int)))
  k0 v1791 v1792 v1793 x1797 v1795 v1796
 else
  k0 v1791 v1792 v1793 v1794 v1795 v1796
noncomputable def wcM {α:Type}:=wy (@wcM.b α)
theorem wcM.eq:@wcM=@wcM.b:=funext fun α=>wb _
noncomputable def wfK {α:Type} (N:Nat) (next:ByteArray→ByteArray→Int→Int→Int→Bool→Int→Int→Option α) (k0:ByteArray→ByteArray→Int→Int→Int→Bool→Int→Option α) (v1814:ByteArray) (v1815:ByteArray) (v1816:Int) (v1817:Int) (v1818:Int) (v1819:Bool) (v1820:Int) (v1821:Int):Option α :=
 let x1822:=IntKind.i64.wrap (v1817 + v1820)
 let x1823:=decide (v1821 < x1822)
 bif x1823 then
  let x1824:=(IntKind.i64.wrap (v1818 * (10:Int)))
  bif (decide (v1821 < (0:Int))) then
   none
  else
   match (v1814[v1821.toNat]?:Option UInt8) with
   | some x1825 =>
    let x1826:=((x1825.toNat:Nat):Int)
    let x1827:=(IntKind.u8.wrap (x1826 - (48:Int)))
    let x1828:=IntKind.i64.wrap x1827
    let x1829:=IntKind.i64.wrap (x1824 + x1828)
    let x1830:=(IntKind.i64.wrap (v1821 + (1:Int)))
    next v1814 v1815 v1816 v1817 x1829 v1819 v1820 x1830
   | none=>none
 else
  k0 v1814 v1815 v1816 v1817 v1818 v1819 v1820
noncomputable def wH.b {α:Type}:=fun N n v1814 v1815 v1816 v1817 v1818 v1819 v1820 v1821 k0=>we2 (fun next=>@wfK α N next k0) (fun _ _ _ _ _ _ _ _=>none) n v1814 v1815 v1816 v1817 v1818 v1819 v1820 v1821
noncomputable def wH {α:Type}:=wy (@wH.b α)
theorem wH.eq:@wH=@wH.b:=funext fun α=>wb _
theorem wH.zero {α:Type} (N v1814 v1815 v1816 v1817 v1818 v1819 v1820 v1821 k0):@wH α N 0 v1814 v1815 v1816 v1817 v1818 v1819 v1820 v1821 k0=none:=by rw [wH.eq]; rfl
theorem wH.succ {α:Type} (N n v1814 v1815 v1816 v1817 v1818 v1819 v1820 v1821 k0):@wH α N (n + 1) v1814 v1815 v1816 v1817 v1818 v1819 v1820 v1821 k0=wfK N (fun y0 y1 y2 y3 y4 y5 y6 y7=>wH N n y0 y1 y2 y3 y4 y5 y6 y7 k0) k0 v1814 v1815 v1816 v1817 v1818 v1819 v1820 v1821:=by rw [wH.eq]; rfl
noncomputable def wV.b {α:Type} (N:Nat) (v1839:ByteArray) (v1840:ByteArray) (v1841:Int) (v1842:Int) (v1843:Int) (v1844:Bool) (v1845:Int) (k0:ByteArray→ByteArray→Int→Int→Int→Int→Option α):Option α :=
 bif v1844 then
  let x1846:=IntKind.i64.wrap (0 - v1843)
  k0 v1839 v1840 v1841 v1842 x1846 v1845
 else
  k0 v1839 v1840 v1841 v1842 v1843 v1845
noncomputable def wV {α:Type}:=wy (@wV.b α)
theorem wV.eq:@wV=@wV.b:=funext fun α=>wb _
noncomputable def wb6.b {α:Type} (N:Nat) (v1775:ByteArray) (v1776:ByteArray) (v1777:Int) (v1778:Int) (v1779:Int) (k0:ByteArray→Int→Int→Bool→Option α) (k1:ByteArray→ByteArray→Int→Int→Int→Option α):Option α :=
 let x1780:=((v1775.size:Nat):Int)
 let x1781:=decide (v1778 < x1780)
 bif x1781 then
  bif (decide (v1778 < (0:Int))) then
   none
  else
   match (v1775[v1778.toNat]?:Option UInt8) with
   | some x1782 =>
    let x1783:=((x1782.toNat:Nat):Int)
    let x1784:=(decide (x1783=(101:Int)))
    bif x1784 then
     let x1785:=(IntKind.i64.wrap (v1778 + (1:Int)))
     let x1786:=((v1775.size:Nat):Int)
     let x1787:=decide (x1785 < x1786)
     bif x1787 then
      bif (decide (x1785 < (0:Int))) then
       none
      else
       match (v1775[x1785.toNat]?:Option UInt8) with
       | some x1788 =>
        let x1789:=((x1788.toNat:Nat):Int)
        let x1790:=(decide (x1789=(45:Int)))
        wcM N v1775 v1776 v1777 x1785 v1779 x1790
         (fun x1798 x1799 x1800 x1801 x1802 x1803 =>
          wcA N x1798 x1801
           (fun x1804 =>
            let x1805:=(decide (x1804=(0:Int)))
            bif x1805 then
             k0 ByteArray.empty (0:Int) (0:Int) false
            else
             let x1806:=(decide ((3:Int) < x1804))
             bif x1806 then
              k0 ByteArray.empty (0:Int) (0:Int) false
             else
              let x1807:=(decide ((1:Int) < x1804))
              bif x1807 then
               bif (decide (x1801 < (0:Int))) then
                none
               else
                match (x1798[x1801.toNat]?:Option UInt8) with
                | some x1808 =>
                 let x1809:=((x1808.toNat:Nat):Int)
                 let x1810:=(decide (x1809=(48:Int)))
                 bif x1810 then
                  k0 ByteArray.empty (0:Int) (0:Int) false
                 else
                  bif x1803 then
                   bif (decide (x1801 < (0:Int))) then
                    none
                   else
                    match (x1798[x1801.toNat]?:Option UInt8) with
                    | some x1811 =>
                     let x1812:=((x1811.toNat:Nat):Int)
                     let x1813:=(decide (x1812=(48:Int)))
                     bif x1813 then
                      k0 ByteArray.empty (0:Int) (0:Int) false
                     else
                      wH N N x1798 x1799 x1800 x1801 x1802 x1803 x1804 x1801
                       (fun x1831 x1832 x1833 x1834 x1835 x1836 x1837 =>
                        let x1838:=(decide ((400:Int) < x1835))
                        bif x1838 then
                         k0 ByteArray.empty (0:Int) (0:Int) false
                        else
                         wV N x1831 x1832 x1833 x1834 x1835 x1836 x1837
                          (fun x1847 x1848 x1849 x1850 x1851 x1852 =>
                           let x1853:=IntKind.i64.wrap (x1850 + x1852)
                           k1 x1847 x1848 x1849 x1853 x1851))
                    | none=>none
                  else
                   wH N N x1798 x1799 x1800 x1801 x1802 x1803 x1804 x1801
                    (fun x1854 x1855 x1856 x1857 x1858 x1859 x1860 =>
                     let x1861:=(decide ((400:Int) < x1858))
                     bif x1861 then
                      k0 ByteArray.empty (0:Int) (0:Int) false
                     else
                      wV N x1854 x1855 x1856 x1857 x1858 x1859 x1860
                       (fun x1862 x1863 x1864 x1865 x1866 x1867 =>
                        let x1868:=IntKind.i64.wrap (x1865 + x1867)
                        k1 x1862 x1863 x1864 x1868 x1866))
                | none=>none
              else
               bif x1803 then
                bif (decide (x1801 < (0:Int))) then
                 none
                else
                 match (x1798[x1801.toNat]?:Option UInt8) with
                 | some x1869 =>
                  let x1870:=((x1869.toNat:Nat):Int)
                  let x1871:=(decide (x1870=(48:Int)))
                  bif x1871 then
                   k0 ByteArray.empty (0:Int) (0:Int) false
                  else
                   wH N N x1798 x1799 x1800 x1801 x1802 x1803 x1804 x1801
                    (fun x1872 x1873 x1874 x1875 x1876 x1877 x1878 =>
                     let x1879:=(decide ((400:Int) < x1876))
                     bif x1879 then
                      k0 ByteArray.empty (0:Int) (0:Int) false
                     else
                      wV N x1872 x1873 x1874 x1875 x1876 x1877 x1878
                       (fun x1880 x1881 x1882 x1883 x1884 x1885 =>
                        let x1886:=IntKind.i64.wrap (x1883 + x1885)
                        k1 x1880 x1881 x1882 x1886 x1884))
                 | none=>none
               else
                wH N N x1798 x1799 x1800 x1801 x1802 x1803 x1804 x1801
                 (fun x1887 x1888 x1889 x1890 x1891 x1892 x1893 =>
                  let x1894:=(decide ((400:Int) < x1891))
                  bif x1894 then
                   k0 ByteArray.empty (0:Int) (0:Int) false
                  else
                   wV N x1887 x1888 x1889 x1890 x1891 x1892 x1893
                    (fun x1895 x1896 x1897 x1898 x1899 x1900 =>
                     let x1901:=IntKind.i64.wrap (x1898 + x1900)
                     k1 x1895 x1896 x1897 x1901 x1899))))
       | none=>none
     else
      wcM N v1775 v1776 v1777 x1785 v1779 false
       (fun x1902 x1903 x1904 x1905 x1906 x1907 =>
        wcA N x1902 x1905
         (fun x1908 =>
          let x1909:=(decide (x1908=(0:Int)))
          bif x1909 then
           k0 ByteArray.empty (0:Int) (0:Int) false
          else
           let x1910:=(decide ((3:Int) < x1908))
           bif x1910 then
            k0 ByteArray.empty (0:Int) (0:Int) false
           else
            let x1911:=(decide ((1:Int) < x1908))
            bif x1911 then
             bif (decide (x1905 < (0:Int))) then
              none
             else
              match (x1902[x1905.toNat]?:Option UInt8) with
              | some x1912 =>
               let x1913:=((x1912.toNat:Nat):Int)
               let x1914:=(decide (x1913=(48:Int)))
               bif x1914 then
                k0 ByteArray.empty (0:Int) (0:Int) false
               else
                bif x1907 then
                 bif (decide (x1905 < (0:Int))) then
                  none
                 else
                  match (x1902[x1905.toNat]?:Option UInt8) with
                  | some x1915 =>
                   let x1916:=((x1915.toNat:Nat):Int)
                   let x1917:=(decide (x1916=(48:Int)))
                   bif x1917 then
                    k0 ByteArray.empty (0:Int) (0:Int) false
                   else
                    wH N N x1902 x1903 x1904 x1905 x1906 x1907 x1908 x1905
                     (fun x1918 x1919 x1920 x1921 x1922 x1923 x1924 =>
                      let x1925:=(decide ((400:Int) < x1922))
                      bif x1925 then
                       k0 ByteArray.empty (0:Int) (0:Int) false
                      else
                       wV N x1918 x1919 x1920 x1921 x1922 x1923 x1924
                        (fun x1926 x1927 x1928 x1929 x1930 x1931 =>
                         let x1932:=IntKind.i64.wrap (x1929 + x1931)
                         k1 x1926 x1927 x1928 x1932 x1930))
                  | none=>none
                else
                 wH N N x1902 x1903 x1904 x1905 x1906 x1907 x1908 x1905
                  (fun x1933 x1934 x1935 x1936 x1937 x1938 x1939 =>
                   let x1940:=(decide ((400:Int) < x1937))
                   bif x1940 then
                    k0 ByteArray.empty (0:Int) (0:Int) false
                   else
                    wV N x1933 x1934 x1935 x1936 x1937 x1938 x1939
                     (fun x1941 x1942 x1943 x1944 x1945 x1946 =>
                      let x1947:=IntKind.i64.wrap (x1944 + x1946)
                      k1 x1941 x1942 x1943 x1947 x1945))
              | none=>none
            else
             bif x1907 then
              bif (decide (x1905 < (0:Int))) then
               none
              else
               match (x1902[x1905.toNat]?:Option UInt8) with
               | some x1948 =>
                let x1949:=((x1948.toNat:Nat):Int)
                let x1950:=(decide (x1949=(48:Int)))
                bif x1950 then
                 k0 ByteArray.empty (0:Int) (0:Int) false
                else
                 wH N N x1902 x1903 x1904 x1905 x1906 x1907 x1908 x1905
                  (fun x1951 x1952 x1953 x1954 x1955 x1956 x1957 =>
                   let x1958:=(decide ((400:Int) < x1955))
                   bif x1958 then
                    k0 ByteArray.empty (0:Int) (0:Int) false
                   else
                    wV N x1951 x1952 x1953 x1954 x1955 x1956 x1957
                     (fun x1959 x1960 x1961 x1962 x1963 x1964 =>
                      let x1965:=IntKind.i64.wrap (x1962 + x1964)
                      k1 x1959 x1960 x1961 x1965 x1963))
               | none=>none
             else
              wH N N x1902 x1903 x1904 x1905 x1906 x1907 x1908 x1905
               (fun x1966 x1967 x1968 x1969 x1970 x1971 x1972 =>
                let x1973:=(decide ((400:Int) < x1970))
                bif x1973 then
                 k0 ByteArray.empty (0:Int) (0:Int) false
                else
                 wV N x1966 x1967 x1968 x1969 x1970 x1971 x1972
                  (fun x1974 x1975 x1976 x1977 x1978 x1979 =>
                   let x1980:=IntKind.i64.wrap (x1977 + x1979)
                   k1 x1974 x1975 x1976 x1980 x1978))))
    else
     k1 v1775 v1776 v1777 v1778 v1779
   | none=>none
 else
  k1 v1775 v1776 v1777 v1778 v1779
noncomputable def wb6 {α:Type}:=wy (@wb6.b α)
theorem wb6.eq:@wb6=@wb6.b:=funext fun α=>wb _
noncomputable def wdJ.b {α:Type} (N:Nat) (a1720:ByteArray) (k0:ByteArray→Int→Int→Bool→Option α):Option α :=
 let x1721:=((a1720.size:Nat):Int)
 let x1722:=(decide ((60:Int) < x1721))
 bif x1722 then
  k0 ByteArray.empty (0:Int) (0:Int) false
 else
  wcA N a1720 (0:Int)
   (fun x1741 =>
    let x1742:=(decide (x1741=(0:Int)))
    bif x1742 then
     k0 ByteArray.empty (0:Int) (0:Int) false
    else
     let x1743:=(decide ((1:Int) < x1741))
     bif x1743 then
      match (a1720[0]?:Option UInt8) with
      | some x1744 =>
       let x1745:=((x1744.toNat:Nat):Int)
       let x1746:=(decide (x1745=(48:Int)))
       bif x1746 then
        k0 ByteArray.empty (0:Int) (0:Int) false
       else
        bif (decide ((0:Int)≤x1741)) then
         bif (decide (x1741≤((a1720.size:Nat):Int))) then
          let x1747:=a1720.extract 0 x1741.toNat
          wcN N a1720 x1747 (0:Int) x1741
           (fun x1767 x1768 x1769 x1770 =>
            k0 x1767 x1768 x1769 x1770)
           (fun x1771 x1772 x1773 x1774 =>
            wb6 N x1771 x1772 x1773 x1774 (0:Int)
             (fun x1981 x1982 x1983 x1984 =>
              k0 x1981 x1982 x1983 x1984)
             (fun x1985 x1986 x1987 x1988 x1989 =>
              let x1990:=((x1985.size:Nat):Int)
              let x1991:=decide (x1988=x1990)
              k0 x1986 x1987 x1989 x1991))
         else
          none
        else
         none
      | none=>none
     else
      bif (decide ((0:Int)≤x1741)) then
       bif (decide (x1741≤((a1720.size:Nat):Int))) then
        let x1992:=a1720.extract 0 x1741.toNat
        wcN N a1720 x1992 (0:Int) x1741
         (fun x1993 x1994 x1995 x1996 =>
          k0 x1993 x1994 x1995 x1996)
         (fun x1997 x1998 x1999 x2000 =>
          wb6 N x1997 x1998 x1999 x2000 (0:Int)
           (fun x2001 x2002 x2003 x2004 =>
            k0 x2001 x2002 x2003 x2004)
           (fun x2005 x2006 x2007 x2008 x2009 =>
            let x2010:=((x2005.size:Nat):Int)
            let x2011:=decide (x2008=x2010)
            k0 x2006 x2007 x2009 x2011))
       else
        none
      else
       none)
noncomputable def wdJ {α:Type}:=wy (@wdJ.b α)
theorem wdJ.eq:@wdJ=@wdJ.b:=funext fun α=>wb _

noncomputable def wgn {α:Type} (N:Nat) (next:List Int→List Int→Int→Int→Int→List Int→Option α) (k0:List Int→List Int→Int→Int→List Int→Option α) (v2043:List Int) (v2044:List Int) (v2045:Int) (v2046:Int) (v2047:Int) (v2048:List Int):Option α :=
 let x2049:=((v2044.length:Nat):Int)
 let x2050:=decide (v2047 < x2049)
 bif x2050 then
  let x2051:=IntKind.i64.wrap (v2045 + v2047)
  bif (decide (x2051 < (0:Int))) then
   none
  else
   bif decide (x2051.toNat < v2048.length) then
    match v2048[x2051.toNat]? with
    | some x2052 =>
     bif (decide (v2045 < (0:Int))) then
      none
     else
      match v2043[v2045.toNat]? with
      | some x2053 =>
       bif (decide (v2047 < (0:Int))) then
        none
       else
        match v2044[v2047.toNat]? with
        | some x2054 =>
         let x2055:=IntKind.i64.wrap (x2053 * x2054)
         let x2056:=IntKind.i64.wrap (x2052 + x2055)
         let x2057:=IntKind.i64.wrap (x2056 + v2046)
         let x2058:=IntKind.i64.wrap (v2045 + v2047)
         let x2059:=(Int.tmod x2057 (65536:Int))
         bif (decide (x2058 < (0:Int))) then
          none
         else
          bif decide (x2058.toNat < v2048.length) then
           match v2048[x2058.toNat]? with
           | some x2060 =>
            let x2061:=v2048.set x2058.toNat x2059
            let x2062:=(IntKind.i64.wrap (Int.tdiv x2057 (65536:Int)))
            let x2063:=(IntKind.i64.wrap (v2047 + (1:Int)))
            next v2043 v2044 v2045 x2062 x2063 x2061
           | none=>none
          else
           none
        | none=>none
      | none=>none
    | none=>none
   else
    none
 else
  k0 v2043 v2044 v2045 v2046 v2048
noncomputable def wbX.b {α:Type}:=fun N n v2043 v2044 v2045 v2046 v2047 v2048 k0=>we2 (fun next=>@wgn α N next k0) (fun _ _ _ _ _ _=>none) n v2043 v2044 v2045 v2046 v2047 v2048
noncomputable def wbX {α:Type}:=wy (@wbX.b α)
theorem wbX.eq:@wbX=@wbX.b:=funext fun α=>wb _
theorem wbX.zero {α:Type} (N v2043 v2044 v2045 v2046 v2047 v2048 k0):@wbX α N 0 v2043 v2044 v2045 v2046 v2047 v2048 k0=none:=by rw [wbX.eq]; rfl
theorem wbX.succ {α:Type} (N n v2043 v2044 v2045 v2046 v2047 v2048 k0):@wbX α N (n + 1) v2043 v2044 v2045 v2046 v2047 v2048 k0=wgn N (fun y0 y1 y2 y3 y4 y5=>wbX N n y0 y1 y2 y3 y4 y5 k0) k0 v2043 v2044 v2045 v2046 v2047 v2048:=by rw [wbX.eq]; rfl
noncomputable def wgk {α:Type} (N:Nat) (next:List Int→List Int→Int→List Int→Option α) (k0:List Int→Option α) (v2037:List Int) (v2038:List Int) (v2039:Int) (v2040:List Int):Option α :=
 let x2041:=((v2037.length:Nat):Int)
 let x2042:=decide (v2039 < x2041)
 bif x2042 then
  wbX N N v2037 v2038 v2039 (0:Int) (0:Int) v2040
   (fun x2064 x2065 x2066 x2067 x2068 =>
    let x2069:=((x2065.length:Nat):Int)
    let x2070:=IntKind.i64.wrap (x2066 + x2069)
    bif (decide (x2070 < (0:Int))) then
     none
    else
     bif decide (x2070.toNat < x2068.length) then
      match x2068[x2070.toNat]? with
      | some x2071 =>
       let x2072:=x2068.set x2070.toNat x2067
       let x2073:=(IntKind.i64.wrap (x2066 + (1:Int)))
       next x2064 x2065 x2073 x2072
      | none=>none
     else
      none)
 else
  k0 v2040
noncomputable def wcd.b {α:Type}:=fun N n v2037 v2038 v2039 v2040 k0=>we2 (fun next=>@wgk α N next k0) (fun _ _ _ _=>none) n v2037 v2038 v2039 v2040
noncomputable def wcd {α:Type}:=wy (@wcd.b α)
theorem wcd.eq:@wcd=@wcd.b:=funext fun α=>wb _
theorem wcd.zero {α:Type} (N v2037 v2038 v2039 v2040 k0):@wcd α N 0 v2037 v2038 v2039 v2040 k0=none:=by rw [wcd.eq]; rfl
theorem wcd.succ {α:Type} (N n v2037 v2038 v2039 v2040 k0):@wcd α N (n + 1) v2037 v2038 v2039 v2040 k0=wgk N (fun y0 y1 y2 y3=>wcd N n y0 y1 y2 y3 k0) k0 v2037 v2038 v2039 v2040:=by rw [wcd.eq]; rfl
noncomputable def wdf.b {α:Type} (N:Nat) (a2031:List Int) (a2032:List Int) (k0:List Int→Option α):Option α :=
 let x2033:=((a2031.length:Nat):Int)
 let x2034:=((a2032.length:Nat):Int)
 let x2035:=IntKind.i64.wrap (x2033 + x2034)
 bif (decide ((0:Int)≤x2035)) then
  bif decide (x2035≤x2035) then
   bif (decide (x2035≤((8796093022208:Nat):Int))) then
    let x2036:=(List.replicate x2035.toNat (0:Int))
    wcd N N a2031 a2032 (0:Int) x2036
     (fun x2074 =>
      wcs N x2074
       (fun x2075 =>
        k0 x2075))
   else
    none
  else
   none
 else
  none
noncomputable def wdf {α:Type}:=wy (@wdf.b α)
theorem wdf.eq:@wdf=@wdf.b:=funext fun α=>wb _

noncomputable def wc0.b {α:Type} (N:Nat) (a2027:List Int) (a2028:Int) (k0:List Int→Option α):Option α :=
 let x2029:=(decide (a2028=(0:Int)))
 bif x2029 then
  k0 []
 else
  let x2030:=[a2028]
  wdf N a2027 x2030
   (fun x2076 =>
    k0 x2076)
noncomputable def wc0 {α:Type}:=wy (@wc0.b α)
theorem wc0.eq:@wc0=@wc0.b:=funext fun α=>wb _

noncomputable def weU.b {α:Type} (N:Nat) (a2102:List Int) (a2103:Int) (k0:Int→Option α):Option α :=
 let x2104:=((a2102.length:Nat):Int)
 let x2105:=decide (a2103 < x2104)
 bif x2105 then
  bif (decide (a2103 < (0:Int))) then
   none
  else
   match a2102[a2103.toNat]? with
   | some x2106 =>
    k0 x2106
   | none=>none
 else
  k0 (0:Int)
noncomputable def weU {α:Type}:=wy (@weU.b α)
theorem weU.eq:@weU=@weU.b:=funext fun α=>wb _

noncomputable def wdR.b {α:Type} (N:Nat) (v2086:List Int) (v2087:List Int) (v2088:Int) (k0:List Int→List Int→Int→Option α):Option α :=
 let x2089:=((v2087.length:Nat):Int)
 let x2090:=decide (v2088 < x2089)
 bif x2090 then
  let x2091:=((v2087.length:Nat):Int)
  k0 v2086 v2087 x2091
 else
  k0 v2086 v2087 v2088
noncomputable def wdR {α:Type}:=wy (@wdR.b α)
theorem wdR.eq:@wdR=@wdR.b:=funext fun α=>wb _
noncomputable def wgp {α:Type} (N:Nat) (next:List Int→List Int→Int→Int→Int→List Int→Option α) (k0:Int→List Int→Option α) (v2095:List Int) (v2096:List Int) (v2097:Int) (v2098:Int) (v2099:Int) (v2100:List Int):Option α :=
 let x2101:=decide (v2099 < v2097)
 bif x2101 then
  weU N v2095 v2099
   (fun x2107 =>
    weU N v2096 v2099
     (fun x2108 =>
      let x2109:=IntKind.i64.wrap (x2107 + x2108)
      let x2110:=IntKind.i64.wrap (x2109 + v2098)
      let x2111:=(Int.tmod x2110 (65536:Int))
      let x2112:=[x2111]
      bif decide (v2100.length + x2112.length≤8796093022208) then
       let x2113:=v2100++x2112
       let x2114:=(IntKind.i64.wrap (Int.tdiv x2110 (65536:Int)))
       let x2115:=(IntKind.i64.wrap (v2099 + (1:Int)))
       next v2095 v2096 v2097 x2114 x2115 x2113
      else
       none))
 else
  k0 v2098 v2100
noncomputable def wca.b {α:Type}:=fun N n v2095 v2096 v2097 v2098 v2099 v2100 k0=>we2 (fun next=>@wgp α N next k0) (fun _ _ _ _ _ _=>none) n v2095 v2096 v2097 v2098 v2099 v2100
noncomputable def wca {α:Type}:=wy (@wca.b α)
theorem wca.eq:@wca=@wca.b:=funext fun α=>wb _
theorem wca.zero {α:Type} (N v2095 v2096 v2097 v2098 v2099 v2100 k0):@wca α N 0 v2095 v2096 v2097 v2098 v2099 v2100 k0=none:=by rw [wca.eq]; rfl
theorem wca.succ {α:Type} (N n v2095 v2096 v2097 v2098 v2099 v2100 k0):@wca α N (n + 1) v2095 v2096 v2097 v2098 v2099 v2100 k0=wgp N (fun y0 y1 y2 y3 y4 y5=>wca N n y0 y1 y2 y3 y4 y5 k0) k0 v2095 v2096 v2097 v2098 v2099 v2100:=by rw [wca.eq]; rfl
noncomputable def wdQ.b {α:Type} (N:Nat) (v2118:Int) (v2119:List Int) (k0:List Int→Option α):Option α :=
 let x2120:=(decide ((0:Int) < v2118))
 bif x2120 then
  let x2121:=[v2118]
  bif decide (v2119.length + x2121.length≤8796093022208) then
   let x2122:=v2119++x2121
   k0 x2122
  else
   none
 else
  k0 v2119
noncomputable def wdQ {α:Type}:=wy (@wdQ.b α)
theorem wdQ.eq:@wdQ=@wdQ.b:=funext fun α=>wb _
noncomputable def weK.b {α:Type} (N:Nat) (a2083:List Int) (a2084:List Int) (k0:List Int→Option α):Option α :=
 let x2085:=((a2083.length:Nat):Int)
 wdR N a2083 a2084 x2085
  (fun x2092 x2093 x2094 =>
   wca N N x2092 x2093 x2094 (0:Int) (0:Int) []
    (fun x2116 x2117 =>
     wdQ N x2116 x2117
      (fun x2123 =>
       k0 x2123)))
noncomputable def weK {α:Type}:=wy (@weK.b α)
theorem weK.eq:@weK=@weK.b:=funext fun α=>wb _

noncomputable def wf4 {α:Type} (N:Nat) (next:Int→Int→List Int→Option α) (k0:List Int→Option α) (v2137:Int) (v2138:Int) (v2139:List Int):Option α :=
 let x2140:=decide (v2138 < v2137)
 bif x2140 then
  wc0 N v2139 (10:Int)
   (fun x2141 =>
    let x2142:=(IntKind.i64.wrap (v2138 + (1:Int)))
    next v2137 x2142 x2141)
 else
  k0 v2139
noncomputable def wbL.b {α:Type}:=fun N n v2137 v2138 v2139 k0=>we2 (fun next=>@wf4 α N next k0) (fun _ _ _=>none) n v2137 v2138 v2139
noncomputable def wbL {α:Type}:=wy (@wbL.b α)
theorem wbL.eq:@wbL=@wbL.b:=funext fun α=>wb _
theorem wbL.zero {α:Type} (N v2137 v2138 v2139 k0):@wbL α N 0 v2137 v2138 v2139 k0=none:=by rw [wbL.eq]; rfl
theorem wbL.succ {α:Type} (N n v2137 v2138 v2139 k0):@wbL α N (n + 1) v2137 v2138 v2139 k0=wf4 N (fun y0 y1 y2=>wbL N n y0 y1 y2 k0) k0 v2137 v2138 v2139:=by rw [wbL.eq]; rfl
noncomputable def wet.b {α:Type} (N:Nat) (a2135:Int) (k0:List Int→Option α):Option α :=
 let x2136:=[(1:Int)]
 wbL N N a2135 (0:Int) x2136
  (fun x2143 =>
   k0 x2143)
noncomputable def wet {α:Type}:=wy (@wet.b α)
theorem wet.eq:@wet=@wet.b:=funext fun α=>wb _

noncomputable def wgq {α:Type} (N:Nat) (next:List Int→List Int→Int→Option α) (k0:Int→Option α) (k1:Option α) (v2173:List Int) (v2174:List Int) (v2175:Int):Option α :=
 let x2176:=(decide ((0:Int)≤v2175))
 bif x2176 then
  bif (decide (v2175 < (0:Int))) then
   none
  else
   match v2173[v2175.toNat]? with
   | some x2177 =>
    bif (decide (v2175 < (0:Int))) then
     none
    else
     match v2174[v2175.toNat]? with
     | some x2178 =>
      let x2179:=decide (x2177 < x2178)
      bif x2179 then
       k0 (-1:Int)
      else
       bif (decide (v2175 < (0:Int))) then
        none
       else
        match v2173[v2175.toNat]? with
        | some x2180 =>
         bif (decide (v2175 < (0:Int))) then
          none
         else
          match v2174[v2175.toNat]? with
          | some x2181 =>
           let x2182:=decide (x2181 < x2180)
           bif x2182 then
            k0 (1:Int)
           else
            let x2183:=(IntKind.i64.wrap (v2175 - (1:Int)))
            next v2173 v2174 x2183
          | none=>none
        | none=>none
     | none=>none
   | none=>none
 else
  k1
noncomputable def wcc.b {α:Type}:=fun N n v2173 v2174 v2175 k0 k1=>we2 (fun next=>@wgq α N next k0 k1) (fun _ _ _=>none) n v2173 v2174 v2175
noncomputable def wcc {α:Type}:=wy (@wcc.b α)
theorem wcc.eq:@wcc=@wcc.b:=funext fun α=>wb _
theorem wcc.zero {α:Type} (N v2173 v2174 v2175 k0 k1):@wcc α N 0 v2173 v2174 v2175 k0 k1=none:=by rw [wcc.eq]; rfl
theorem wcc.succ {α:Type} (N n v2173 v2174 v2175 k0 k1):@wcc α N (n + 1) v2173 v2174 v2175 k0 k1=wgq N (fun y0 y1 y2=>wcc N n y0 y1 y2 k0 k1) k0 k1 v2173 v2174 v2175:=by rw [wcc.eq]; rfl
noncomputable def weP.b {α:Type} (N:Nat) (a2163:List Int) (a2164:List Int) (k0:Int→Option α):Option α :=
 let x2165:=((a2163.length:Nat):Int)
 let x2166:=((a2164.length:Nat):Int)
 let x2167:=decide (x2165 < x2166)
 bif x2167 then
  k0 (-1:Int)
 else
  let x2168:=((a2163.length:Nat):Int)
  let x2169:=((a2164.length:Nat):Int)
  let x2170:=decide (x2169 < x2168)
  bif x2170 then
   k0 (1:Int)
  else
   let x2171:=((a2163.length:Nat):Int)
   let x2172:=(IntKind.i64.wrap (x2171 - (1:Int)))
   wcc N N a2163 a2164 x2172
    (fun x2184 =>
     k0 x2184)
    (
     k0 (0:Int))
noncomputable def weP {α:Type}:=wy (@weP.b α)
theorem weP.eq:@weP=@weP.b:=funext fun α=>wb _

noncomputable def wgw {α:Type} (N:Nat) (next:List Int→Int→List Int→Option α) (k0:List Int→Option α) (v2212:List Int) (v2213:Int) (v2214:List Int):Option α :=
 let x2215:=((v2212.length:Nat):Int)
 let x2216:=decide (v2213 < x2215)
 bif x2216 then
  bif (decide (v2213 < (0:Int))) then
   none
  else
   match v2212[v2213.toNat]? with
   | some x2217 =>
    let x2218:=[x2217]
    bif decide (v2214.length + x2218.length≤8796093022208) then
     let x2219:=v2214++x2218
     let x2220:=(IntKind.i64.wrap (v2213 + (1:Int)))
     next v2212 x2220 x2219
    else
     none
   | none=>none
 else
  k0 v2214
noncomputable def wb7.b {α:Type}:=fun N n v2212 v2213 v2214 k0=>we2 (fun next=>@wgw α N next k0) (fun _ _ _=>none) n v2212 v2213 v2214
noncomputable def wb7 {α:Type}:=wy (@wb7.b α)
theorem wb7.eq:@wb7=@wb7.b:=funext fun α=>wb _
theorem wb7.zero {α:Type} (N v2212 v2213 v2214 k0):@wb7 α N 0 v2212 v2213 v2214 k0=none:=by rw [wb7.eq]; rfl
theorem wb7.succ {α:Type} (N n v2212 v2213 v2214 k0):@wb7 α N (n + 1) v2212 v2213 v2214 k0=wgw N (fun y0 y1 y2=>wb7 N n y0 y1 y2 k0) k0 v2212 v2213 v2214:=by rw [wb7.eq]; rfl
noncomputable def we8.b {α:Type} (N:Nat) (a2210:List Int) (a2211:Int) (k0:List Int→Option α):Option α :=
 wb7 N N a2210 a2211 []
  (fun x2221 =>
   k0 x2221)
noncomputable def we8 {α:Type}:=wy (@we8.b α)
theorem we8.eq:@we8=@we8.b:=funext fun α=>wb _

noncomputable def wgu {α:Type} (N:Nat) (next:List Int→Int→List Int→Option α) (k0:List Int→Option α) (v2238:List Int) (v2239:Int) (v2240:List Int):Option α :=
 let x2241:=((v2238.length:Nat):Int)
 let x2242:=decide (v2239 < x2241)
 bif x2242 then
  bif (decide (v2239 < (0:Int))) then
   none
  else
   match v2238[v2239.toNat]? with
   | some x2243 =>
    let x2244:=[x2243]
    bif decide (v2240.length + x2244.length≤8796093022208) then
     let x2245:=v2240++x2244
     let x2246:=(IntKind.i64.wrap (v2239 + (1:Int)))
     next v2238 x2246 x2245
    else
     none
   | none=>none
 else
  k0 v2240
noncomputable def wb8.b {α:Type}:=fun N n v2238 v2239 v2240 k0=>we2 (fun next=>@wgu α N next k0) (fun _ _ _=>none) n v2238 v2239 v2240
noncomputable def wb8 {α:Type}:=wy (@wb8.b α)
theorem wb8.eq:@wb8=@wb8.b:=funext fun α=>wb _
theorem wb8.zero {α:Type} (N v2238 v2239 v2240 k0):@wb8 α N 0 v2238 v2239 v2240 k0=none:=by rw [wb8.eq]; rfl
theorem wb8.succ {α:Type} (N n v2238 v2239 v2240 k0):@wb8 α N (n + 1) v2238 v2239 v2240 k0=wgu N (fun y0 y1 y2=>wb8 N n y0 y1 y2 k0) k0 v2238 v2239 v2240:=by rw [wb8.eq]; rfl
noncomputable def weN.b {α:Type} (N:Nat) (a2233:List Int) (a2234:Int) (k0:List Int→Option α):Option α :=
 let x2235:=((a2233.length:Nat):Int)
 let x2236:=(decide (x2235=(0:Int)))
 bif x2236 then
  k0 []
 else
  bif (decide ((0:Int)≤a2234)) then
   bif decide (a2234≤a2234) then
    bif (decide (a2234≤((8796093022208:Nat):Int))) then
     let x2237:=(List.replicate a2234.toNat (0:Int))
     wb8 N N a2233 (0:Int) x2237
      (fun x2247 =>
       k0 x2247)
    else
     none
   else
    none
  else
   none
noncomputable def weN {α:Type}:=wy (@weN.b α)
theorem weN.eq:@weN=@weN.b:=funext fun α=>wb _

noncomputable def wdz.b {α:Type} (N:Nat) (v2304:List Int) (v2305:List Int) (v2306:Int) (v2307:Int) (v2308:Int) (v2309:List Int) (k0:List Int→List Int→Int→Int→Int→List Int→Option α):Option α :=
 let x2310:=(decide (v2308 < (0:Int)))
 bif x2310 then
  let x2311:=(IntKind.i64.wrap (v2308 + (65536:Int)))
  k0 v2304 v2305 (1:Int) v2307 x2311 v2309
 else
  k0 v2304 v2305 v2306 v2307 v2308 v2309
noncomputable def wdz {α:Type}:=wy (@wdz.b α)
theorem wdz.eq:@wdz=@wdz.b:=funext fun α=>wb _
noncomputable def wfP {α:Type} (N:Nat) (next:List Int→List Int→Int→Int→List Int→Option α) (k0:List Int→Option α) (v2293:List Int) (v2294:List Int) (v2295:Int) (v2296:Int) (v2297:List Int):Option α :=
 let x2298:=((v2293.length:Nat):Int)
 let x2299:=decide (v2296 < x2298)
 bif x2299 then
  bif (decide (v2296 < (0:Int))) then
   none
  else
   match v2293[v2296.toNat]? with
   | some x2300 =>
    weU N v2294 v2296
     (fun x2301 =>
      let x2302:=IntKind.i64.wrap (x2300 - x2301)
      let x2303:=IntKind.i64.wrap (x2302 - v2295)
      wdz N v2293 v2294 (0:Int) v2296 x2303 v2297
       (fun x2312 x2313 x2314 x2315 x2316 x2317 =>
        let x2318:=[x2316]
        bif decide (x2317.length + x2318.length≤8796093022208) then
         let x2319:=x2317++x2318
         let x2320:=(IntKind.i64.wrap (x2315 + (1:Int)))
         next x2312 x2313 x2314 x2320 x2319
        else
         none))
   | none=>none
 else
  k0 v2297
noncomputable def wbP.b {α:Type}:=fun N n v2293 v2294 v2295 v2296 v2297 k0=>we2 (fun next=>@wfP α N next k0) (fun _ _ _ _ _=>none) n v2293 v2294 v2295 v2296 v2297
noncomputable def wbP {α:Type}:=wy (@wbP.b α)
theorem wbP.eq:@wbP=@wbP.b:=funext fun α=>wb _
theorem wbP.zero {α:Type} (N v2293 v2294 v2295 v2296 v2297 k0):@wbP α N 0 v2293 v2294 v2295 v2296 v2297 k0=none:=by rw [wbP.eq]; rfl
theorem wbP.succ {α:Type} (N n v2293 v2294 v2295 v2296 v2297 k0):@wbP α N (n + 1) v2293 v2294 v2295 v2296 v2297 k0=wfP N (fun y0 y1 y2 y3 y4=>wbP N n y0 y1 y2 y3 y4 k0) k0 v2293 v2294 v2295 v2296 v2297:=by rw [wbP.eq]; rfl
noncomputable def wev.b {α:Type} (N:Nat) (a2291:List Int) (a2292:List Int) (k0:List Int→Option α):Option α :=
 wbP N N a2291 a2292 (0:Int) (0:Int) []
  (fun x2321 =>
   wcs N x2321
    (fun x2322 =>
     k0 x2322))
noncomputable def wev {α:Type}:=wy (@wev.b α)
theorem wev.eq:@wev=@wev.b:=funext fun α=>wb _

noncomputable def wdl.b {α:Type} (N:Nat) (v2262:Int) (v2263:Int) (v2264:Int) (v2265:Int) (v2266:List Int) (v2267:List Int) (v2268:List Int) (v2269:List Int) (k0:Int→Int→Int→Int→List Int→List Int→List Int→List Int→Option α):Option α :=
 let x2270:=(decide ((65536:Int)≤v2265))
 bif x2270 then
  k0 v2262 v2263 v2264 (65535:Int) v2266 v2267 v2268 v2269
 else
  k0 v2262 v2263 v2264 v2265 v2266 v2267 v2268 v2269
noncomputable def wdl {α:Type}:=wy (@wdl.b α)
theorem wdl.eq:@wdl=@wdl.b:=funext fun α=>wb _
noncomputable def wg4 {α:Type} (N:Nat) (next:Int→Int→Int→Int→List Int→List Int→List Int→List Int→List Int→Option α) (k0:Int→Int→Int→Int→List Int→List Int→List Int→List Int→List Int→Option α) (v2280:Int) (v2281:Int) (v2282:Int) (v2283:Int) (v2284:List Int) (v2285:List Int) (v2286:List Int) (v2287:List Int) (v2288:List Int):Option α :=
 weP N v2288 v2287
  (fun x2289 =>
   let x2290:=(decide ((0:Int) < x2289))
   bif x2290 then
    wev N v2288 v2285
     (fun x2323 =>
      let x2324:=(IntKind.i64.wrap (v2283 - (1:Int)))
      next v2280 v2281 v2282 x2324 v2284 v2285 v2286 v2287 x2323)
   else
    k0 v2280 v2281 v2282 v2283 v2284 v2285 v2286 v2287 v2288)
noncomputable def wcj.b {α:Type}:=fun N n v2280 v2281 v2282 v2283 v2284 v2285 v2286 v2287 v2288 k0=>we2 (fun next=>@wg4 α N next k0) (fun _ _ _ _ _ _ _ _ _=>none) n v2280 v2281 v2282 v2283 v2284 v2285 v2286 v2287 v2288
noncomputable def wcj {α:Type}:=wy (@wcj.b α)
theorem wcj.eq:@wcj=@wcj.b:=funext fun α=>wb _
theorem wcj.zero {α:Type} (N v2280 v2281 v2282 v2283 v2284 v2285 v2286 v2287 v2288 k0):@wcj α N 0 v2280 v2281 v2282 v2283 v2284 v2285 v2286 v2287 v2288 k0=none:=by rw [wcj.eq]; rfl
theorem wcj.succ {α:Type} (N n v2280 v2281 v2282 v2283 v2284 v2285 v2286 v2287 v2288 k0):@wcj α N (n + 1) v2280 v2281 v2282 v2283 v2284 v2285 v2286 v2287 v2288 k0=wg4 N (fun y0 y1 y2 y3 y4 y5 y6 y7 y8=>wcj N n y0 y1 y2 y3 y4 y5 y6 y7 y8 k0) k0 v2280 v2281 v2282 v2283 v2284 v2285 v2286 v2287 v2288:=by rw [wcj.eq]; rfl
noncomputable def wgr {α:Type} (N:Nat) (next:Int→Int→Int→List Int→List Int→List Int→List Int→Option α) (k0:Int→List Int→List Int→Option α) (v2225:Int) (v2226:Int) (v2227:Int) (v2228:List Int) (v2229:List Int) (v2230:List Int) (v2231:List Int):Option α :=
 let x2232:=(decide ((0:Int)≤v2227))
 bif x2232 then
  weN N v2231 (1:Int)
   (fun x2248 =>
    bif (decide (v2227 < (0:Int))) then
     none
    else
     bif decide (v2227.toNat < v2228.length) then
      match v2228[v2227.toNat]? with
      | some x2249 =>
       let x2250:=IntKind.u64.wrap x2249
       wdB N x2250
        (fun x2251 =>
         weK N x2248 x2251
          (fun x2252 =>
           wcs N x2252
            (fun x2253 =>
             weU N x2253 v2226
              (fun x2254 =>
               let x2255:=(IntKind.i64.wrap (x2254 * (65536:Int)))
               let x2256:=(IntKind.i64.wrap (v2226 - (1:Int)))
               weU N x2253 x2256
                (fun x2257 =>
                 let x2258:=IntKind.i64.wrap (x2255 + x2257)
                 let x2259:=(IntKind.i64.wrap (v2226 - (1:Int)))
                 bif (decide (x2259 < (0:Int))) then
                  none
                 else
                  bif decide (x2259.toNat < v2229.length) then
                   match v2229[x2259.toNat]? with
                   | some x2260 =>
                    bif (decide (x2260=(0:Int))) then
                     none
                    else
                     let x2261:=IntKind.i64.wrap (Int.tdiv x2258 x2260)
                     wdl N v2225 v2226 v2227 x2261 v2228 v2229 v2230 x2253
                      (fun x2271 x2272 x2273 x2274 x2275 x2276 x2277 x2278 =>
                       wc0 N x2276 x2274
                        (fun x2279 =>
                         wcj N N x2271 x2272 x2273 x2274 x2275 x2276 x2277 x2278 x2279
                          (fun x2325 x2326 x2327 x2328 x2329 x2330 x2331 x2332 x2333 =>
                           bif (decide (x2327 < (0:Int))) then
                            none
                           else
                            bif decide (x2327.toNat < x2331.length) then
                             match x2331[x2327.toNat]? with
                             | some x2334 =>
                              let x2335:=x2331.set x2327.toNat x2328
                              wev N x2332 x2333
                               (fun x2336 =>
                                let x2337:=(IntKind.i64.wrap (x2327 - (1:Int)))
                                next x2325 x2326 x2337 x2329 x2330 x2335 x2336)
                             | none=>none
                            else
                             none)))
                   | none=>none
                  else
                   none)))))
      | none=>none
     else
      none)
 else
  k0 v2225 v2230 v2231
noncomputable def wb9.b {α:Type}:=fun N n v2225 v2226 v2227 v2228 v2229 v2230 v2231 k0=>we2 (fun next=>@wgr α N next k0) (fun _ _ _ _ _ _ _=>none) n v2225 v2226 v2227 v2228 v2229 v2230 v2231
noncomputable def wb9 {α:Type}:=wy (@wb9.b α)
theorem wb9.eq:@wb9=@wb9.b:=funext fun α=>wb _
theorem wb9.zero {α:Type} (N v2225 v2226 v2227 v2228 v2229 v2230 v2231 k0):@wb9 α N 0 v2225 v2226 v2227 v2228 v2229 v2230 v2231 k0=none:=by rw [wb9.eq]; rfl
theorem wb9.succ {α:Type} (N n v2225 v2226 v2227 v2228 v2229 v2230 v2231 k0):@wb9 α N (n + 1) v2225 v2226 v2227 v2228 v2229 v2230 v2231 k0=wgr N (fun y0 y1 y2 y3 y4 y5 y6=>wb9 N n y0 y1 y2 y3 y4 y5 y6 k0) k0 v2225 v2226 v2227 v2228 v2229 v2230 v2231:=by rw [wb9.eq]; rfl
noncomputable def wew.b {α:Type} (N:Nat) (a2161:List Int) (a2162:List Int) (k0:List Int→List Int→Option α):Option α :=
 weP N a2161 a2162
  (fun x2185 =>
   let x2186:=(decide (x2185 < (0:Int)))
   bif x2186 then
    wcs N a2161
     (fun x2187 =>
      k0 [] x2187)
   else
    let x2188:=((a2162.length:Nat):Int)
    let x2189:=(decide (x2188=(1:Int)))
    bif x2189 then
     match a2162[0]? with
     | some x2190 =>
      wcz N a2161 x2190
       (fun x2191 x2192 =>
        let x2193:=IntKind.u64.wrap x2191
        wdB N x2193
         (fun x2194 =>
          k0 x2192 x2194))
     | none=>none
    else
     let x2195:=((a2162.length:Nat):Int)
     let x2196:=(IntKind.i64.wrap (x2195 - (1:Int)))
     bif (decide (x2196 < (0:Int))) then
      none
     else
      match a2162[x2196.toNat]? with
      | some x2197 =>
       let x2198:=(IntKind.i64.wrap (x2197 + (1:Int)))
       bif (decide (x2198=(0:Int))) then
        none
       else
        let x2199:=(IntKind.i64.wrap (Int.tdiv (65536:Int) x2198))
        wc0 N a2161 x2199
         (fun x2200 =>
          wc0 N a2162 x2199
           (fun x2201 =>
            let x2202:=((x2201.length:Nat):Int)
            let x2203:=((x2200.length:Nat):Int)
            let x2204:=IntKind.i64.wrap (x2203 - x2202)
            let x2205:=(IntKind.i64.wrap (x2204 + (1:Int)))
            bif (decide ((0:Int)≤x2205)) then
             bif decide (x2205≤x2205) then
              bif (decide (x2205≤((8796093022208:Nat):Int))) then
               let x2206:=(List.replicate x2205.toNat (0:Int))
               let x2207:=((x2200.length:Nat):Int)
               let x2208:=IntKind.i64.wrap (x2207 - x2202)
               let x2209:=(IntKind.i64.wrap (x2208 + (1:Int)))
               we8 N x2200 x2209
                (fun x2222 =>
                 let x2223:=((x2200.length:Nat):Int)
                 let x2224:=IntKind.i64.wrap (x2223 - x2202)
                 wb9 N N x2199 x2202 x2224 x2200 x2201 x2206 x2222
                  (fun x2338 x2339 x2340 =>
                   wcz N x2340 x2338
                    (fun _ x2342 =>
                     wcs N x2339
                      (fun x2343 =>
                       k0 x2343 x2342))))
              else
               none
             else
              none
            else
             none))
      | none=>none)
noncomputable def wew {α:Type}:=wy (@wew.b α)
theorem wew.eq:@wew=@wew.b:=funext fun α=>wb _

noncomputable def wg5 {α:Type} (N:Nat) (next:List Int→List Int→Option α) (k0:List Int→Option α) (v2157:List Int) (v2158:List Int):Option α :=
 let x2159:=((v2158.length:Nat):Int)
 let x2160:=(decide ((0:Int) < x2159))
 bif x2160 then
  wew N v2157 v2158
   (fun _ x2345 =>
    next v2158 x2345)
 else
  k0 v2157
noncomputable def wcl.b {α:Type}:=fun N n v2157 v2158 k0=>we2 (fun next=>@wg5 α N next k0) (fun _ _=>none) n v2157 v2158
noncomputable def wcl {α:Type}:=wy (@wcl.b α)
theorem wcl.eq:@wcl=@wcl.b:=funext fun α=>wb _
theorem wcl.zero {α:Type} (N v2157 v2158 k0):@wcl α N 0 v2157 v2158 k0=none:=by rw [wcl.eq]; rfl
theorem wcl.succ {α:Type} (N n v2157 v2158 k0):@wcl α N (n + 1) v2157 v2158 k0=wg5 N (fun y0 y1=>wcl N n y0 y1 k0) k0 v2157 v2158:=by rw [wcl.eq]; rfl
noncomputable def weL.b {α:Type} (N:Nat) (a2153:List Int) (a2154:List Int) (k0:List Int→Option α):Option α :=
 wcs N a2153
  (fun x2155 =>
   wcs N a2154
    (fun x2156 =>
     wcl N N x2155 x2156
      (fun x2346 =>
       k0 x2346)))
noncomputable def weL {α:Type}:=wy (@weL.b α)
theorem weL.eq:@weL=@weL.b:=funext fun α=>wb _

noncomputable def wdu.b {α:Type} (N:Nat) (a2147:Bool) (a2148:List Int) (a2149:List Int) (k0:Bool→Bool→List Int→List Int→Option α):Option α :=
 let x2150:=((a2148.length:Nat):Int)
 let x2151:=(decide (x2150=(0:Int)))
 bif x2151 then
  let x2152:=[(1:Int)]
  k0 false true [] x2152
 else
  weL N a2148 a2149
   (fun x2347 =>
    wew N a2148 x2347
     (fun x2348 _ =>
      wew N a2149 x2347
       (fun x2350 _ =>
        let x2352:=((x2348.length:Nat):Int)
        let x2353:=(decide ((256:Int) < x2352))
        bif x2353 then
         k0 false false [] []
        else
         let x2354:=((x2350.length:Nat):Int)
         let x2355:=(decide ((256:Int) < x2354))
         bif x2355 then
          k0 false false [] []
         else
          k0 a2147 true x2348 x2350)))
noncomputable def wdu {α:Type}:=wy (@wdu.b α)
theorem wdu.eq:@wdu=@wdu.b:=funext fun α=>wb _

noncomputable def wfL {α:Type} (N:Nat) (next:ByteArray→Int→Int→Int→Bool→List Int→List Int→List Int→Option α) (k0:Int→Int→Bool→List Int→List Int→List Int→Option α) (v2017:ByteArray) (v2018:Int) (v2019:Int) (v2020:Int) (v2021:Bool) (v2022:List Int) (v2023:List Int) (v2024:List Int):Option α :=
 let x2025:=((v2017.size:Nat):Int)
 let x2026:=decide (v2020 < x2025)
 bif x2026 then
  wc0 N v2022 (10:Int)
   (fun x2077 =>
    bif (decide (v2020 < (0:Int))) then
     none
    else
     match (v2017[v2020.toNat]?:Option UInt8) with
     | some x2078 =>
      let x2079:=((x2078.toNat:Nat):Int)
      let x2080:=(IntKind.u8.wrap (x2079 - (48:Int)))
      let x2081:=IntKind.u64.wrap x2080
      wdB N x2081
       (fun x2082 =>
        weK N x2077 x2082
         (fun x2124 =>
          wcs N x2124
           (fun x2125 =>
            let x2126:=(IntKind.i64.wrap (v2020 + (1:Int)))
            next v2017 v2018 v2019 x2126 v2021 x2125 v2023 v2024)))
     | none=>none)
 else
  k0 v2018 v2019 v2021 v2022 v2023 v2024
noncomputable def wbp.b {α:Type}:=fun N n v2017 v2018 v2019 v2020 v2021 v2022 v2023 v2024 k0=>we2 (fun next=>@wfL α N next k0) (fun _ _ _ _ _ _ _ _=>none) n v2017 v2018 v2019 v2020 v2021 v2022 v2023 v2024
noncomputable def wbp {α:Type}:=wy (@wbp.b α)
theorem wbp.eq:@wbp=@wbp.b:=funext fun α=>wb _
theorem wbp.zero {α:Type} (N v2017 v2018 v2019 v2020 v2021 v2022 v2023 v2024 k0):@wbp α N 0 v2017 v2018 v2019 v2020 v2021 v2022 v2023 v2024 k0=none:=by rw [wbp.eq]; rfl
theorem wbp.succ {α:Type} (N n v2017 v2018 v2019 v2020 v2021 v2022 v2023 v2024 k0):@wbp α N (n + 1) v2017 v2018 v2019 v2020 v2021 v2022 v2023 v2024 k0=wfL N (fun y0 y1 y2 y3 y4 y5 y6 y7=>wbp N n y0 y1 y2 y3 y4 y5 y6 y7 k0) k0 v2017 v2018 v2019 v2020 v2021 v2022 v2023 v2024:=by rw [wbp.eq]; rfl
noncomputable def wd1.b {α:Type} (N:Nat) (a1719:ByteArray) (k0:Bool→Bool→List Int→List Int→Option α):Option α :=
 wdJ N a1719
  (fun x2012 x2013 x2014 x2015 =>
   let x2016 := !x2015
   bif x2016 then
    k0 false false [] []
   else
    wbp N N x2012 x2013 x2014 (0:Int) false [] [] []
     (fun x2127 x2128 _ x2130 _ _ =>
      let x2133:=IntKind.i64.wrap (x2128 - x2127)
      let x2134:=(decide ((0:Int)≤x2133))
      bif x2134 then
       wet N x2133
        (fun x2144 =>
         wdf N x2130 x2144
          (fun x2145 =>
           let x2146:=[(1:Int)]
           wdu N false x2145 x2146
            (fun x2356 x2357 x2358 x2359 =>
             k0 x2356 x2357 x2358 x2359)))
      else
       let x2360:=IntKind.i64.wrap (0 - x2133)
       wet N x2360
        (fun x2361 =>
         wdu N false x2130 x2361
          (fun x2362 x2363 x2364 x2365 =>
           k0 x2362 x2363 x2364 x2365))))
noncomputable def wd1 {α:Type}:=wy (@wd1.b α)
theorem wd1.eq:@wd1=@wd1.b:=funext fun α=>wb _

noncomputable def wdO.b {α:Type} (N:Nat) (a2375:Int) (k0:Bool→Option α):Option α :=
 let x2376:=(decide (a2375=(32:Int)))
 bif x2376 then
  k0 true
 else
  let x2377:=(decide (a2375=(64:Int)))
  k0 x2377
noncomputable def wdO {α:Type}:=wy (@wdO.b α)
theorem wdO.eq:@wdO=@wdO.b:=funext fun α=>wb _

noncomputable def weV.b {α:Type} (N:Nat) (a2390:List Int) (k0:Bool→Option α):Option α :=
 let x2391:=((a2390.length:Nat):Int)
 let x2392:=(decide (x2391=(1:Int)))
 bif x2392 then
  match a2390[0]? with
  | some x2393 =>
   let x2394:=(decide (x2393=(1:Int)))
   k0 x2394
  | none=>none
 else
  k0 false
noncomputable def weV {α:Type}:=wy (@weV.b α)
theorem weV.eq:@weV=@weV.b:=funext fun α=>wb _

noncomputable def wdw.b {α:Type} (N:Nat) (a2380:Bool×(List Int)×(List Int)×Unit) (k0:Bool→Option α):Option α :=
 wd3 N a2380.2.1
  (fun x2381 =>
   let x2382 := !x2381
   bif x2382 then
    k0 false
   else
    wd3 N a2380.2.2.1
     (fun x2383 =>
      let x2384 := !x2383
      bif x2384 then
       k0 false
      else
       let x2385:=((a2380.2.2.1.length:Nat):Int)
       let x2386:=(decide (x2385=(0:Int)))
       bif x2386 then
        k0 false
       else
        let x2387:=((a2380.2.1.length:Nat):Int)
        let x2388:=(decide (x2387=(0:Int)))
        bif x2388 then
         bif a2380.1 then
          k0 false
         else
          weL N a2380.2.1 a2380.2.2.1
           (fun x2389 =>
            weV N x2389
             (fun x2395 =>
              k0 x2395))
        else
         weL N a2380.2.1 a2380.2.2.1
          (fun x2396 =>
           weV N x2396
            (fun x2397 =>
             k0 x2397))))
noncomputable def wdw {α:Type}:=wy (@wdw.b α)
theorem wdw.eq:@wdw=@wdw.b:=funext fun α=>wb _

noncomputable def weO.b {α:Type} (N:Nat) (a2400:Bool×(List Int)×(List Int)×Unit) (k0:(Bool×(List Int)×(List Int)×Unit)→Option α):Option α :=
 k0 (a2400.1,(a2400.2.1,(a2400.2.2.1,())))
noncomputable def weO {α:Type}:=wy (@weO.b α)
theorem weO.eq:@weO=@weO.b:=funext fun α=>wb _

noncomputable def wem.b {α:Type} (N:Nat) (a2409:Int) (k0:Int→Option α):Option α :=
 let x2410:=(decide (a2409=(32:Int)))
 bif x2410 then
  k0 (23:Int)
 else
  k0 (52:Int)
noncomputable def wem {α:Type}:=wy (@wem.b α)
theorem wem.eq:@wem=@wem.b:=funext fun α=>wb _

noncomputable def wgM {α:Type} (N:Nat) (next:Int→Int→Option α) (k0:Int→Option α) (v2422:Int) (v2423:Int):Option α :=
 let x2424:=(decide ((0:Int) < v2423))
 bif x2424 then
  let x2425:=(IntKind.i64.wrap (v2422 + (1:Int)))
  let x2426:=(IntKind.i64.wrap (Int.tdiv v2423 (2:Int)))
  next x2425 x2426
 else
  k0 v2422
noncomputable def wbU.b {α:Type}:=fun N n v2422 v2423 k0=>we2 (fun next=>@wgM α N next k0) (fun _ _=>none) n v2422 v2423
noncomputable def wbU {α:Type}:=wy (@wbU.b α)
theorem wbU.eq:@wbU=@wbU.b:=funext fun α=>wb _
theorem wbU.zero {α:Type} (N v2422 v2423 k0):@wbU α N 0 v2422 v2423 k0=none:=by rw [wbU.eq]; rfl
theorem wbU.succ {α:Type} (N n v2422 v2423 k0):@wbU α N (n + 1) v2422 v2423 k0=wgM N (fun y0 y1=>wbU N n y0 y1 k0) k0 v2422 v2423:=by rw [wbU.eq]; rfl
noncomputable def wdE.b {α:Type} (N:Nat) (a2413:List Int) (k0:Int→Option α):Option α :=
 let x2414:=((a2413.length:Nat):Int)
 let x2415:=(decide (x2414=(0:Int)))
 bif x2415 then
  k0 (0:Int)
 else
  let x2416:=((a2413.length:Nat):Int)
  let x2417:=(IntKind.i64.wrap (x2416 - (1:Int)))
  let x2418:=(IntKind.i64.wrap ((16:Int) * x2417))
  let x2419:=((a2413.length:Nat):Int)
  let x2420:=(IntKind.i64.wrap (x2419 - (1:Int)))
  bif (decide (x2420 < (0:Int))) then
   none
  else
   match a2413[x2420.toNat]? with
   | some x2421 =>
    wbU N N x2418 x2421
     (fun x2427 =>
      k0 x2427)
   | none=>none
noncomputable def wdE {α:Type}:=wy (@wdE.b α)
theorem wdE.eq:@wdE=@wdE.b:=funext fun α=>wb _

noncomputable def wde.b {α:Type} (N:Nat) (a2436:Int) (k0:Int→Option α):Option α :=
 let x2437:=(decide (a2436=(32:Int)))
 bif x2437 then
  k0 (-149:Int)
 else
  k0 (-1074:Int)
noncomputable def wde {α:Type}:=wy (@wde.b α)
theorem wde.eq:@wde=@wde.b:=funext fun α=>wb _

noncomputable def wdv.b {α:Type} (N:Nat) (a2471:Int) (k0:List Int→Option α):Option α :=
 let x2472:=(Int.tmod a2471 (16:Int))
 let x2473:=IntKind.u64.wrap x2472
 bif (decide (x2473 < (0:Int))) then
  none
 else
  let x2474:=(shlI .i64 (1:Int) x2473)
  let x2475:=[x2474]
  let x2476:=(IntKind.i64.wrap (Int.tdiv a2471 (16:Int)))
  weN N x2475 x2476
   (fun x2477 =>
    k0 x2477)
noncomputable def wdv {α:Type}:=wy (@wdv.b α)
theorem wdv.eq:@wdv=@wdv.b:=funext fun α=>wb _

noncomputable def wc9.b {α:Type} (N:Nat) (v2467:Int) (v2468:List Int) (v2469:List Int) (k0:List Int→List Int→Option α):Option α :=
 let x2470:=(decide ((0:Int)≤v2467))
 bif x2470 then
  wdv N v2467
   (fun x2478 =>
    wdf N v2468 x2478
     (fun x2479 =>
      k0 x2479 v2469))
 else
  let x2480:=IntKind.i64.wrap (0 - v2467)
  wdv N x2480
   (fun x2481 =>
    wdf N v2469 x2481
     (fun x2482 =>
      k0 v2468 x2482))
noncomputable def wc9 {α:Type}:=wy (@wc9.b α)
theorem wc9.eq:@wc9=@wc9.b:=funext fun α=>wb _
noncomputable def wdx.b {α:Type} (N:Nat) (a2465:Bool×(List Int)×(List Int)×Unit) (a2466:Int) (k0:Bool→List Int→Option α):Option α :=
 wc9 N a2466 a2465.2.1 a2465.2.2.1
  (fun x2483 x2484 =>
   wew N x2483 x2484
    (fun x2485 x2486 =>
     let x2487:=((x2486.length:Nat):Int)
     let x2488:=(decide ((0:Int) < x2487))
     k0 x2488 x2485))
noncomputable def wdx {α:Type}:=wy (@wdx.b α)
theorem wdx.eq:@wdx=@wdx.b:=funext fun α=>wb _

noncomputable def wft {α:Type} (N:Nat) (next:List Int→Int→Int→Option α) (k0:Int→Option α) (v2515:List Int) (v2516:Int) (v2517:Int):Option α :=
 let x2518:=(decide ((0:Int)≤v2517))
 bif x2518 then
  let x2519:=(IntKind.u64.wrap (v2516 * (65536:Int)))
  bif (decide (v2517 < (0:Int))) then
   none
  else
   match v2515[v2517.toNat]? with
   | some x2520 =>
    let x2521:=IntKind.u64.wrap x2520
    let x2522:=IntKind.u64.wrap (x2519 + x2521)
    let x2523:=(IntKind.i64.wrap (v2517 - (1:Int)))
    next v2515 x2522 x2523
   | none=>none
 else
  k0 v2516
noncomputable def wX.b {α:Type}:=fun N n v2515 v2516 v2517 k0=>we2 (fun next=>@wft α N next k0) (fun _ _ _=>none) n v2515 v2516 v2517
noncomputable def wX {α:Type}:=wy (@wX.b α)
theorem wX.eq:@wX=@wX.b:=funext fun α=>wb _
theorem wX.zero {α:Type} (N v2515 v2516 v2517 k0):@wX α N 0 v2515 v2516 v2517 k0=none:=by rw [wX.eq]; rfl
theorem wX.succ {α:Type} (N n v2515 v2516 v2517 k0):@wX α N (n + 1) v2515 v2516 v2517 k0=wft N (fun y0 y1 y2=>wX N n y0 y1 y2 k0) k0 v2515 v2516 v2517:=by rw [wX.eq]; rfl
noncomputable def wdy.b {α:Type} (N:Nat) (a2508:List Int) (k0:Int→Bool→Option α):Option α :=
 wd3 N a2508
  (fun x2509 =>
   let x2510 := !x2509
   bif x2510 then
    k0 (0:Int) false
   else
    let x2511:=((a2508.length:Nat):Int)
    let x2512:=(decide ((4:Int) < x2511))
    bif x2512 then
     k0 (0:Int) false
    else
     let x2513:=((a2508.length:Nat):Int)
     let x2514:=(IntKind.i64.wrap (x2513 - (1:Int)))
     wX N N a2508 (0:Int) x2514
      (fun x2524 =>
       k0 x2524 true))
noncomputable def wdy {α:Type}:=wy (@wdy.b α)
theorem wdy.eq:@wdy=@wdy.b:=funext fun α=>wb _

noncomputable def wc2.b {α:Type} (N:Nat) (a2534:Int) (k0:Int→Option α):Option α :=
 let x2535:=(decide (a2534=(32:Int)))
 bif x2535 then
  k0 (2139095040:Int)
 else
  let x2536:=(decide (a2534=(64:Int)))
  bif x2536 then
   k0 (9218868437227405312:Int)
  else
   k0 (0:Int)
noncomputable def wc2 {α:Type}:=wy (@wc2.b α)
theorem wc2.eq:@wc2=@wc2.b:=funext fun α=>wb _

noncomputable def wdo.b {α:Type} (N:Nat) (v2432:Int) (v2433:Int) (v2434:Int) (v2435:Bool×(List Int)×(List Int)×Unit) (k0:Int→Int→Int→(Bool×(List Int)×(List Int)×Unit)→Option α):Option α :=
 wde N v2432
  (fun x2438 =>
   let x2439:=IntKind.i64.wrap (0 - x2438)
   let x2440:=decide (x2439 < v2434)
   bif x2440 then
    wde N v2432
     (fun x2441 =>
      let x2442:=IntKind.i64.wrap (0 - x2441)
      k0 v2432 v2433 x2442 v2435)
   else
    k0 v2432 v2433 v2434 v2435)
noncomputable def wdo {α:Type}:=wy (@wdo.b α)
theorem wdo.eq:@wdo=@wdo.b:=funext fun α=>wb _
noncomputable def wf3 {α:Type} (N:Nat) (next:Int→Int→Int→Bool→(Bool×(List Int)×(List Int)×Unit)→List Int→Option α) (k0:Int→Int→Int→Bool→List Int→Option α) (v2491:Int) (v2492:Int) (v2493:Int) (v2494:Bool) (v2495:Bool×(List Int)×(List Int)×Unit) (v2496:List Int):Option α :=
 wdE N v2496
  (fun x2497 =>
   let x2498:=(IntKind.i64.wrap (v2492 + (1:Int)))
   let x2499:=decide (x2498 < x2497)
   bif x2499 then
    let x2500:=(IntKind.i64.wrap (v2493 - (1:Int)))
    wdx N v2495 x2500
     (fun x2501 x2502 =>
      next v2491 v2492 x2500 x2501 v2495 x2502)
   else
    k0 v2491 v2492 v2493 v2494 v2496)
noncomputable def wbN.b {α:Type}:=fun N n v2491 v2492 v2493 v2494 v2495 v2496 k0=>we2 (fun next=>@wf3 α N next k0) (fun _ _ _ _ _ _=>none) n v2491 v2492 v2493 v2494 v2495 v2496
noncomputable def wbN {α:Type}:=wy (@wbN.b α)
theorem wbN.eq:@wbN=@wbN.b:=funext fun α=>wb _
theorem wbN.zero {α:Type} (N v2491 v2492 v2493 v2494 v2495 v2496 k0):@wbN α N 0 v2491 v2492 v2493 v2494 v2495 v2496 k0=none:=by rw [wbN.eq]; rfl
theorem wbN.succ {α:Type} (N n v2491 v2492 v2493 v2494 v2495 v2496 k0):@wbN α N (n + 1) v2491 v2492 v2493 v2494 v2495 v2496 k0=wf3 N (fun y0 y1 y2 y3 y4 y5=>wbN N n y0 y1 y2 y3 y4 y5 k0) k0 v2491 v2492 v2493 v2494 v2495 v2496:=by rw [wbN.eq]; rfl
noncomputable def weI.b {α:Type} (N:Nat) (a2405:Int) (a2406:Bool×(List Int)×(List Int)×Unit) (k0:Int→Bool→Option α):Option α :=
 let x2407:=((a2406.2.1.length:Nat):Int)
 let x2408:=(decide (x2407=(0:Int)))
 bif x2408 then
  k0 (0:Int) false
 else
  wem N a2405
   (fun x2411 =>
    let x2412:=(IntKind.i64.wrap (x2411 + (1:Int)))
    wdE N a2406.2.1
     (fun x2428 =>
      let x2429:=IntKind.i64.wrap (x2412 - x2428)
      wdE N a2406.2.2.1
       (fun x2430 =>
        let x2431:=IntKind.i64.wrap (x2429 + x2430)
        wdo N a2405 x2411 x2431 a2406
         (fun x2443 x2444 x2445 x2446 =>
          wdx N x2446 x2445
           (fun x2489 x2490 =>
            wbN N N x2443 x2444 x2445 x2489 x2446 x2490
             (fun x2503 x2504 x2505 x2506 x2507 =>
              wdy N x2507
               (fun x2525 _ =>
                wdE N x2507
                 (fun x2527 =>
                  let x2528:=decide (x2527≤x2504)
                  bif x2528 then
                   let x2529:=IntKind.i64.wrap x2525
                   k0 x2529 x2506
                  else
                   let x2530:=IntKind.i64.wrap (0 - x2505)
                   wde N x2503
                    (fun x2531 =>
                     let x2532:=IntKind.i64.wrap (x2530 - x2531)
                     let x2533:=(IntKind.i64.wrap (x2532 + (1:Int)))
                     wc2 N x2503
                      (fun x2537 =>
                       let x2538:=IntKind.u64.wrap x2504
                       bif (decide (x2538 < (0:Int))) then
                        none
                       else
                        let x2539:=shrI .i64 x2537 x2538
                        let x2540:=(IntKind.i64.wrap (x2539 - (1:Int)))
                        let x2541:=decide (x2540 < x2533)
                        bif x2541 then
                         wc2 N x2503
                          (fun x2542 =>
                           let x2543:=(IntKind.i64.wrap (x2542 - (1:Int)))
                           k0 x2543 true)
                        else
                         let x2544:=IntKind.u64.wrap x2504
                         bif (decide (x2544 < (0:Int))) then
                          none
                         else
                          let x2545:=shlI .i64 x2533 x2544
                          let x2546:=IntKind.i64.wrap x2525
                          let x2547:=IntKind.i64.wrap (x2545 + x2546)
                          let x2548:=IntKind.u64.wrap x2504
                          bif (decide (x2548 < (0:Int))) then
                           none
                          else
                           let x2549:=(shlI .i64 (1:Int) x2548)
                           let x2550:=IntKind.i64.wrap (x2547 - x2549)
                           k0 x2550 x2506))))))))))
noncomputable def weI {α:Type}:=wy (@weI.b α)
theorem weI.eq:@weI=@weI.b:=funext fun α=>wb _

noncomputable def wdj.b {α:Type} (N:Nat) (v2553:Bool) (v2554:Int) (v2555:Bool) (k0:Int→Option α):Option α :=
 bif v2555 then
  let x2556 := !v2553
  bif x2556 then
   let x2557:=(IntKind.i64.wrap (v2554 + (1:Int)))
   k0 x2557
  else
   k0 v2554
 else
  k0 v2554
noncomputable def wdj {α:Type}:=wy (@wdj.b α)
theorem wdj.eq:@wdj=@wdj.b:=funext fun α=>wb _
noncomputable def wdi.b {α:Type} (N:Nat) (v2560:Bool) (v2561:Int) (v2562:Bool) (k0:Int→Option α):Option α :=
 bif v2562 then
  bif v2560 then
   let x2563:=(IntKind.i64.wrap (v2561 + (1:Int)))
   k0 x2563
  else
   k0 v2561
 else
  k0 v2561
noncomputable def wdi {α:Type}:=wy (@wdi.b α)
theorem wdi.eq:@wdi=@wdi.b:=funext fun α=>wb _
noncomputable def wdX.b {α:Type} (N:Nat) (a2402:Int) (a2403:Bool×(List Int)×(List Int)×Unit) (a2404:Bool) (k0:Int→Option α):Option α :=
 weI N a2402 a2403
  (fun x2551 x2552 =>
   bif a2403.1 then
    wdj N a2404 x2551 x2552
     (fun x2558 =>
      let x2559:=IntKind.i64.wrap (0 - x2558)
      k0 x2559)
   else
    wdi N a2404 x2551 x2552
     (fun x2564 =>
      k0 x2564))
noncomputable def wdX {α:Type}:=wy (@wdX.b α)
theorem wdX.eq:@wdX=@wdX.b:=funext fun α=>wb _

noncomputable def wdq.b {α:Type} (N:Nat) (a2373:Int) (a2374:Bool×(List Int)×(List Int)×Unit) (k0:Int→Bool→Option α):Option α :=
 wdO N a2373
  (fun x2378 =>
   let x2379 := !x2378
   bif x2379 then
    k0 (0:Int) false
   else
    wdw N a2374
     (fun x2398 =>
      let x2399 := !x2398
      bif x2399 then
       k0 (0:Int) false
      else
       weO N a2374
        (fun x2401 =>
         wdX N a2373 x2401 false
          (fun x2565 =>
           k0 x2565 true))))
noncomputable def wdq {α:Type}:=wy (@wdq.b α)
theorem wdq.eq:@wdq=@wdq.b:=funext fun α=>wb _

noncomputable def wd8.b {α:Type} (N:Nat) (a2568:Int) (a2569:Bool×(List Int)×(List Int)×Unit) (k0:Int→Bool→Option α):Option α :=
 wdO N a2568
  (fun x2570 =>
   let x2571 := !x2570
   bif x2571 then
    k0 (0:Int) false
   else
    wdw N a2569
     (fun x2572 =>
      let x2573 := !x2572
      bif x2573 then
       k0 (0:Int) false
      else
       weO N a2569
        (fun x2574 =>
         wdX N a2568 x2574 true
          (fun x2575 =>
           k0 x2575 true))))
noncomputable def wd8 {α:Type}:=wy (@wd8.b α)
theorem wd8.eq:@wd8=@wd8.b:=funext fun α=>wb _

noncomputable def wdg.b {α:Type} (N:Nat) (a2371:Int) (a2372:Bool×(List Int)×(List Int)×Unit) (k0:(Int×Int×Unit)→Bool→Option α):Option α :=
 wdq N a2371 a2372
  (fun x2566 x2567 =>
   wd8 N a2371 a2372
    (fun x2576 _ =>
     k0 (x2566,(x2576,())) x2567))
noncomputable def wdg {α:Type}:=wy (@wdg.b α)
theorem wdg.eq:@wdg=@wdg.b:=funext fun α=>wb _

noncomputable def wef.b {α:Type} (N:Nat) (a1717:Int) (a1718:ByteArray) (k0:(Int×Int×Unit)→Bool→Option α):Option α :=
 wd1 N a1718
  (fun x2366 x2367 x2368 x2369 =>
   let x2370 := !x2367
   bif x2370 then
    k0 ((0:Int),((0:Int),())) false
   else
    wdg N a1717 (x2366,(x2368,(x2369,())))
     (fun x2578 x2579 =>
      k0 x2578 x2579))
noncomputable def wef {α:Type}:=wy (@wef.b α)
theorem wef.eq:@wef=@wef.b:=funext fun α=>wb _

noncomputable def weo.b {α:Type} (N:Nat) (a2598:Int) (k0:Int→Option α):Option α :=
 wcP N a2598
  (fun x2599 _ =>
   k0 x2599.2.2.2.1)
noncomputable def weo {α:Type}:=wy (@weo.b α)
theorem weo.eq:@weo=@weo.b:=funext fun α=>wb _

noncomputable def weE.b {α:Type} (N:Nat) (a2605:Int) (a2606:Int) (k0:Bool→Option α):Option α :=
 wcP N a2605
  (fun x2607 x2608 =>
   bif x2608 then
    let x2609:=IntKind.i64.wrap (0 - x2607.2.2.2.1)
    wgj N a2606 x2609 x2607.2.2.2.1
     (fun x2610 =>
      k0 x2610)
   else
    k0 false)
noncomputable def weE {α:Type}:=wy (@weE.b α)
theorem weE.eq:@weE=@weE.b:=funext fun α=>wb _

noncomputable def wes.b {α:Type} (N:Nat) (a2602:Int) (a2603:Int×Int×Unit) (k0:Bool→Option α):Option α :=
 weo N a2602
  (fun x2604 =>
   weE N a2602 a2603.1
    (fun x2611 =>
     bif x2611 then
      weE N a2602 a2603.2.1
       (fun x2612 =>
        bif x2612 then
         let x2613:=decide (a2603.1≤a2603.2.1)
         bif x2613 then
          let x2614 := !(decide (a2603.1=x2604))
          bif x2614 then
           let x2615:=IntKind.i64.wrap (0 - x2604)
           let x2616 := !(decide (a2603.2.1=x2615))
           k0 x2616
          else
           k0 false
         else
          k0 false
        else
         k0 false)
     else
      k0 false))
noncomputable def wes {α:Type}:=wy (@wes.b α)
theorem wes.eq:@wes=@wes.b:=funext fun α=>wb _

noncomputable def wfe.b {α:Type} (N:Nat) (a2670:Int) (k0:Int→Option α):Option α :=
 let x2671:=IntKind.i64.wrap (0 - a2670)
 let x2672:=maxI a2670 x2671
 k0 x2672
noncomputable def wfe {α:Type}:=wy (@wfe.b α)
theorem wfe.eq:@wfe=@wfe.b:=funext fun α=>wb _

noncomputable def wdn.b {α:Type} (N:Nat) (a2664:Int) (a2665:Int) (k0:(Bool×Int×Int×Unit)→Bool→Option α):Option α :=
 wcP N a2664
  (fun x2666 _ =>
   weE N a2664 a2665
    (fun x2668 =>
     let x2669 := !x2668
     bif x2669 then
      k0 (false,((0:Int),((0:Int),()))) false
     else
      wfe N a2665
       (fun x2673 =>
        let x2674:=decide (x2673=x2666.2.2.2.1)
        bif x2674 then
         k0 (false,((0:Int),((0:Int),()))) false
        else
         wfe N a2665
          (fun x2675 =>
           bif (decide (x2666.1 < (0:Int))) then
            none
           else
            let x2676:=(shlI .i64 (1:Int) x2666.1)
            let x2677:=(IntKind.i64.wrap (x2676 - (1:Int)))
            let x2678:=bitI .and .i64 x2675 x2677
            wfe N a2665
             (fun x2679 =>
              bif (decide (x2666.1 < (0:Int))) then
               none
              else
               let x2680:=shrI .i64 x2679 x2666.1
               let x2681:=(decide (x2680=(0:Int)))
               bif x2681 then
                let x2682:=(decide (a2665 < (0:Int)))
                let x2683:=IntKind.u64.wrap x2678
                k0 (x2682,(x2683,(x2666.2.1,()))) true
               else
                let x2684:=(decide (a2665 < (0:Int)))
                bif (decide (x2666.1 < (0:Int))) then
                 none
                else
                 let x2685:=(shlI .i64 (1:Int) x2666.1)
                 let x2686:=bitI .or .i64 x2678 x2685
                 let x2687:=IntKind.u64.wrap x2686
                 let x2688:=IntKind.i64.wrap (x2666.2.1 + x2680)
                 let x2689:=(IntKind.i64.wrap (x2688 - (1:Int)))
                 k0 (x2684,(x2687,(x2689,()))) true)))))
noncomputable def wdn {α:Type}:=wy (@wdn.b α)
theorem wdn.eq:@wdn=@wdn.b:=funext fun α=>wb _

noncomputable def weM.b {α:Type} (N:Nat) (a2662:Int) (a2663:Int) (k0:(Bool×(List Int)×(List Int)×Unit)→Option α):Option α :=
 wdn N a2662 a2663
  (fun x2690 _ =>
   weY N x2690.2.1
    (fun x2692 =>
     let x2693:=(decide ((0:Int)≤x2690.2.2.1))
     bif x2693 then
      wbq N x2692 x2690.2.2.1
       (fun x2694 =>
        wea N x2690.1 x2694
         (fun x2695 x2696 x2697 =>
          k0 (x2695,(x2696,(x2697,())))))
     else
      let x2698:=[(1:Int)]
      let x2699:=IntKind.i64.wrap (0 - x2690.2.2.1)
      wbq N x2698 x2699
       (fun x2700 =>
        wep N x2690.1 x2692 x2700
         (fun x2701 =>
          k0 x2701))))
noncomputable def weM {α:Type}:=wy (@weM.b α)
theorem weM.eq:@weM=@weM.b:=funext fun α=>wb _

noncomputable def wcQ.b {α:Type} (N:Nat) (a2705:Bool×(List Int)×(List Int)×Unit) (k0:Int→Option α):Option α :=
 bif a2705.1 then
  k0 (-1:Int)
 else
  let x2706:=((a2705.2.1.length:Nat):Int)
  let x2707:=(decide (x2706=(0:Int)))
  bif x2707 then
   k0 (0:Int)
  else
   k0 (1:Int)
noncomputable def wcQ {α:Type}:=wy (@wcQ.b α)
theorem wcQ.eq:@wcQ=@wcQ.b:=funext fun α=>wb _

noncomputable def wcV.b {α:Type} (N:Nat) (a2703:Bool×(List Int)×(List Int)×Unit) (a2704:Bool×(List Int)×(List Int)×Unit) (k0:Int→Option α):Option α :=
 wcQ N a2703
  (fun x2708 =>
   wcQ N a2704
    (fun x2709 =>
     let x2710 := !(decide (x2708=x2709))
     bif x2710 then
      wcQ N a2703
       (fun x2711 =>
        wcQ N a2704
         (fun x2712 =>
          let x2713:=IntKind.i64.wrap (x2711 - x2712)
          let x2714:=(minI (1:Int) x2713)
          let x2715:=(maxI (-1:Int) x2714)
          k0 x2715))
     else
      wdF N a2703.2.1 a2704.2.2.1
       (fun x2716 =>
        wdF N a2704.2.1 a2703.2.2.1
         (fun x2717 =>
          wdL N x2716 x2717
           (fun x2718 =>
            bif a2703.1 then
             let x2719:=IntKind.i64.wrap (0 - x2718)
             k0 x2719
            else
             k0 x2718)))))
noncomputable def wcV {α:Type}:=wy (@wcV.b α)
theorem wcV.eq:@wcV=@wcV.b:=funext fun α=>wb _

noncomputable def wds.b {α:Type} (N:Nat) (a2595:Int) (a2596:Int×Int×Unit) (a2597:Bool×(List Int)×(List Int)×Unit) (k0:Bool→Option α):Option α :=
 weo N a2595
  (fun x2601 =>
   wes N a2595 a2596
    (fun x2617 =>
     bif x2617 then
      wel N a2597
       (fun x2618 =>
        bif x2618 then
         let x2619:=IntKind.i64.wrap (0 - x2601)
         let x2620:=decide (a2596.1=x2619)
         bif x2620 then
          let x2621:=decide (a2596.2.1=x2601)
          bif x2621 then
           k0 true
          else
           weM N a2595 a2596.2.1
            (fun x2702 =>
             wcV N a2597 x2702
              (fun x2720 =>
               let x2721:=(decide (x2720≤(0:Int)))
               k0 x2721))
         else
          weM N a2595 a2596.1
           (fun x2722 =>
            wcV N x2722 a2597
             (fun x2723 =>
              let x2724:=(decide (x2723≤(0:Int)))
              bif x2724 then
               let x2725:=decide (a2596.2.1=x2601)
               bif x2725 then
                k0 true
               else
                weM N a2595 a2596.2.1
                 (fun x2726 =>
                  wcV N a2597 x2726
                   (fun x2727 =>
                    let x2728:=(decide (x2727≤(0:Int)))
                    k0 x2728))
              else
               k0 false))
        else
         k0 false)
     else
      k0 false))
noncomputable def wds {α:Type}:=wy (@wds.b α)
theorem wds.eq:@wds=@wds.b:=funext fun α=>wb _

noncomputable def wer.b {α:Type} (N:Nat) (a2752:Bool) (a2753:List Int) (a2754:List Int) (k0:Bool→Bool→List Int→List Int→Option α):Option α :=
 wd3 N a2753
  (fun x2755 =>
   let x2756 := !x2755
   bif x2756 then
    k0 false false [] []
   else
    wd3 N a2754
     (fun x2757 =>
      let x2758 := !x2757
      bif x2758 then
       k0 false false [] []
      else
       let x2759:=((a2754.length:Nat):Int)
       let x2760:=(decide (x2759=(0:Int)))
       bif x2760 then
        k0 false false [] []
       else
        wdu N a2752 a2753 a2754
         (fun x2761 x2762 x2763 x2764 =>
          k0 x2761 x2762 x2763 x2764)))
noncomputable def wer {α:Type}:=wy (@wer.b α)
theorem wer.eq:@wer=@wer.b:=funext fun α=>wb _

noncomputable def wfo {α:Type} (N:Nat) (next:Int→Int→((List Int)×Int×Unit)→Option α) (k0:Int→((List Int)×Int×Unit)→Option α) (v2838:Int) (v2839:Int) (v2840:(List Int)×Int×Unit):Option α :=
 let x2841:=(decide (v2839 < (8:Int)))
 bif x2841 then
  let x2842:=(IntKind.u64.wrap (v2838 * (256:Int)))
  wt N (256:Int) v2840
   (fun x2843 x2844 =>
    let x2845:=IntKind.u64.wrap x2843
    let x2846:=IntKind.u64.wrap (x2842 + x2845)
    let x2847:=(IntKind.i64.wrap (v2839 + (1:Int)))
    next x2846 x2847 x2844)
 else
  k0 v2838 v2840
noncomputable def wR.b {α:Type}:=fun N n v2838 v2839 v2840 k0=>we2 (fun next=>@wfo α N next k0) (fun _ _ _=>none) n v2838 v2839 v2840
noncomputable def wR {α:Type}:=wy (@wR.b α)
theorem wR.eq:@wR=@wR.b:=funext fun α=>wb _
theorem wR.zero {α:Type} (N v2838 v2839 v2840 k0):@wR α N 0 v2838 v2839 v2840 k0=none:=by rw [wR.eq]; rfl
theorem wR.succ {α:Type} (N n v2838 v2839 v2840 k0):@wR α N (n + 1) v2838 v2839 v2840 k0=wfo N (fun y0 y1 y2=>wR N n y0 y1 y2 k0) k0 v2838 v2839 v2840:=by rw [wR.eq]; rfl
noncomputable def wdp.b {α:Type} (N:Nat) (a2837:(List Int)×Int×Unit) (k0:Int→((List Int)×Int×Unit)→Option α):Option α :=
 wR N N (0:Int) (0:Int) a2837
  (fun x2848 x2849 =>
   k0 x2848 x2849)
noncomputable def wdp {α:Type}:=wy (@wdp.b α)
theorem wdp.eq:@wdp=@wdp.b:=funext fun α=>wb _

noncomputable def wbZ.b {α:Type} (N:Nat) (v2798:Int) (v2799:Int) (v2800:Int) (v2801:(List Int)×Int×Unit) (k0:Int→Int→Int→Bool→((List Int)×Int×Unit)→Option α):Option α :=
 let x2802:=(decide (v2800=(2:Int)))
 bif x2802 then
  k0 v2798 v2799 v2800 x2802 v2801
 else
  let x2803:=(decide (v2800=(3:Int)))
  k0 v2798 v2799 v2800 x2803 v2801
noncomputable def wbZ {α:Type}:=wy (@wbZ.b α)
theorem wbZ.eq:@wbZ=@wbZ.b:=funext fun α=>wb _
noncomputable def wbr.b {α:Type} (N:Nat) (v2816:Int) (v2817:Int) (v2818:Int) (v2819:(List Int)×Int×Unit) (k0:Int→Int→((List Int)×Int×Unit)→Option α):Option α :=
 let x2820:=(decide (v2816=(32:Int)))
 bif x2820 then
  wt N (256:Int) v2819
   (fun x2821 x2822 =>
    let x2823:=(shlI .i64 x2821 (23:Int))
    wt N (4:Int) x2822
     (fun x2824 x2825 =>
      let x2826:=IntKind.i64.wrap (x2823 + x2824)
      let x2827:=(IntKind.i64.wrap (x2826 - (1:Int)))
      k0 v2817 x2827 x2825))
 else
  k0 v2817 v2818 v2819
noncomputable def wbr {α:Type}:=wy (@wbr.b α)
theorem wbr.eq:@wbr=@wbr.b:=funext fun α=>wb _
noncomputable def wci.b {α:Type} (N:Nat) (v2854:Int) (v2855:Int) (v2856:(List Int)×Int×Unit) (k0:Int→Int→((List Int)×Int×Unit)→Option α):Option α :=
 let x2857:=(decide ((0:Int) < v2854))
 bif x2857 then
  let x2858:=(IntKind.i64.wrap (v2854 + (1:Int)))
  bif (decide (x2858=(0:Int))) then
   none
  else
   let x2859:=Int.tmod v2855 x2858
   k0 v2854 x2859 v2856
 else
  k0 v2854 v2855 v2856
noncomputable def wci {α:Type}:=wy (@wci.b α)
theorem wci.eq:@wci=@wci.b:=funext fun α=>wb _
noncomputable def wbg.b {α:Type} (N:Nat) (v2831:Int) (v2832:Int) (v2833:(List Int)×Int×Unit) (k0:Int→Int→((List Int)×Int×Unit)→Option α):Option α :=
 let x2834:=(decide (v2832=(4:Int)))
 bif x2834 then
  wt N (1048576:Int) v2833
   (fun x2835 x2836 =>
    k0 v2831 x2835 x2836)
 else
  wdp N v2833
   (fun x2850 x2851 =>
    let x2852:=(shrI .u64 x2850 (1:Int))
    let x2853:=IntKind.i64.wrap x2852
    wci N v2831 x2853 x2851
     (fun x2860 x2861 x2862 =>
      k0 x2860 x2861 x2862))
noncomputable def wbg {α:Type}:=wy (@wbg.b α)
theorem wbg.eq:@wbg=@wbg.b:=funext fun α=>wb _
noncomputable def wbi.b {α:Type} (N:Nat) (v2790:Int) (v2791:Int) (v2792:Int) (v2793:(List Int)×Int×Unit) (k0:Int→Int→((List Int)×Int×Unit)→Option α):Option α :=
 let x2794:=(decide (v2792=(1:Int)))
 bif x2794 then
  wt N (6:Int) v2793
   (fun x2795 x2796 =>
    let x2797:=IntKind.i64.wrap (v2791 - x2795)
    k0 v2791 x2797 x2796)
 else
  wbZ N v2790 v2791 v2792 v2793
   (fun x2804 x2805 x2806 x2807 x2808 =>
    bif x2807 then
     wt N (2048:Int) x2808
      (fun x2809 x2810 =>
       let x2811:=(shlI .i64 x2809 (52:Int))
       wt N (4:Int) x2810
        (fun x2812 x2813 =>
         let x2814:=IntKind.i64.wrap (x2811 + x2812)
         let x2815:=(IntKind.i64.wrap (x2814 - (1:Int)))
         wbr N x2804 x2805 x2815 x2813
          (fun x2828 x2829 x2830 =>
           k0 x2828 x2829 x2830)))
    else
     wbg N x2805 x2806 x2808
      (fun x2863 x2864 x2865 =>
       k0 x2863 x2864 x2865))
noncomputable def wbi {α:Type}:=wy (@wbi.b α)
theorem wbi.eq:@wbi=@wbi.b:=funext fun α=>wb _
noncomputable def wb1.b {α:Type} (N:Nat) (v2783:Int) (v2784:Int) (v2785:Int) (v2786:(List Int)×Int×Unit) (k0:Int→Int→((List Int)×Int×Unit)→Option α):Option α :=
 let x2787:=(decide (v2785=(0:Int)))
 bif x2787 then
  wt N (6:Int) v2786
   (fun x2788 x2789 =>
    k0 v2784 x2788 x2789)
 else
  wbi N v2783 v2784 v2785 v2786
   (fun x2866 x2867 x2868 =>
    k0 x2866 x2867 x2868)
noncomputable def wb1 {α:Type}:=wy (@wb1.b α)
theorem wb1.eq:@wb1=@wb1.b:=funext fun α=>wb _
noncomputable def wcI.b {α:Type} (N:Nat) (v2882:Int) (v2883:Int) (v2884:(List Int)×Int×Unit) (k0:Int→((List Int)×Int×Unit)→Option α):Option α :=
 let x2885:=decide (v2882 < v2883)
 bif x2885 then
  k0 v2882 v2884
 else
  k0 v2883 v2884
noncomputable def wcI {α:Type}:=wy (@wcI.b α)
theorem wcI.eq:@wcI=@wcI.b:=funext fun α=>wb _
noncomputable def wbQ.b {α:Type} (N:Nat) (v2872:Int) (v2873:Int) (v2874:(List Int)×Int×Unit) (k0:Int→((List Int)×Int×Unit)→Option α):Option α :=
 wt N (40:Int) v2874
  (fun x2875 x2876 =>
   let x2877:=(decide (x2875=(0:Int)))
   bif x2877 then
    let x2878:=(IntKind.i64.wrap (v2872 + (1:Int)))
    wt N (3:Int) x2876
     (fun x2879 x2880 =>
      let x2881:=IntKind.i64.wrap (x2878 + x2879)
      k0 x2881 x2880)
   else
    wcI N v2872 v2873 x2876
     (fun x2886 x2887 =>
      k0 x2886 x2887))
noncomputable def wbQ {α:Type}:=wy (@wbQ.b α)
theorem wbQ.eq:@wbQ=@wbQ.b:=funext fun α=>wb _
noncomputable def wcB.b {α:Type} (N:Nat) (a2778:Int) (a2779:(List Int)×Int×Unit) (k0:Int→((List Int)×Int×Unit)→Option α):Option α :=
 wc2 N a2778
  (fun x2780 =>
   wt N (10:Int) a2779
    (fun x2781 x2782 =>
     wb1 N a2778 x2780 x2781 x2782
      (fun x2869 x2870 x2871 =>
       wbQ N x2869 x2870 x2871
        (fun x2888 x2889 =>
         wt N (2:Int) x2889
          (fun x2890 x2891 =>
           let x2892:=(decide (x2890=(0:Int)))
           bif x2892 then
            let x2893:=IntKind.i64.wrap (0 - x2888)
            k0 x2893 x2891
           else
            k0 x2888 x2891)))))
noncomputable def wcB {α:Type}:=wy (@wcB.b α)
theorem wcB.eq:@wcB=@wcB.b:=funext fun α=>wb _

noncomputable def we6.b {α:Type} (N:Nat) (a2900:Int) (a2901:Int) (k0:Bool→Option α):Option α :=
 wdO N a2900
  (fun x2902 =>
   bif x2902 then
    wc2 N a2900
     (fun x2903 =>
      let x2904:=IntKind.i64.wrap (0 - x2903)
      let x2905:=decide (x2904≤a2901)
      bif x2905 then
       wc2 N a2900
        (fun x2906 =>
         let x2907:=decide (a2901≤x2906)
         k0 x2907)
      else
       k0 false)
   else
    k0 false)
noncomputable def we6 {α:Type}:=wy (@we6.b α)
theorem we6.eq:@we6=@we6.b:=funext fun α=>wb _

noncomputable def wcG.b {α:Type} (N:Nat) (v2917:Int) (v2918:Int) (v2919:Bool×Int×Int×Unit) (v2920:Bool×Int×Int×Unit) (k0:Int→Int→(Bool×Int×Int×Unit)→(Bool×Int×Int×Unit)→Option α):Option α :=
 let x2921:=(decide (v2918 < (0:Int)))
 bif x2921 then
  let x2922:=IntKind.i64.wrap (0 - v2918)
  k0 v2917 x2922 v2919 v2920
 else
  k0 v2917 v2918 v2919 v2920
noncomputable def wcG {α:Type}:=wy (@wcG.b α)
theorem wcG.eq:@wcG=@wcG.b:=funext fun α=>wb _
noncomputable def wcH.b {α:Type} (N:Nat) (v2933:Int) (v2934:Int) (v2935:Bool×Int×Int×Unit) (v2936:Bool×Int×Int×Unit) (k0:(Bool×Int×Int×Unit)→(Bool×Int×Int×Unit)→Option α):Option α :=
 let x2937:=(decide ((0:Int) < v2934))
 bif x2937 then
  let x2938:=IntKind.u64.wrap v2933
  let x2939:=IntKind.u64.wrap (v2936.2.1 + x2938)
  let x2940:=IntKind.i64.wrap (v2936.2.2.1 + v2934)
  let x2941:=(IntKind.i64.wrap (x2940 - (1:Int)))
  k0 v2935 (v2936.1,(x2939,(x2941,())))
 else
  k0 v2935 v2936
noncomputable def wcH {α:Type}:=wy (@wcH.b α)
theorem wcH.eq:@wcH=@wcH.b:=funext fun α=>wb _
noncomputable def wdc.b {α:Type} (N:Nat) (a2898:Int) (a2899:Int) (k0:(Bool×Int×Int×Unit)→Bool→Option α):Option α :=
 we6 N a2898 a2899
  (fun x2908 =>
   let x2909 := !x2908
   bif x2909 then
    k0 (false,((0:Int),((0:Int),()))) false
   else
    wc2 N a2898
     (fun x2910 =>
      let x2911:=decide (a2899=x2910)
      bif x2911 then
       k0 (false,((0:Int),((0:Int),()))) false
      else
       wc2 N a2898
        (fun x2912 =>
         let x2913:=IntKind.i64.wrap (0 - x2912)
         let x2914:=decide (a2899=x2913)
         bif x2914 then
          k0 (false,((0:Int),((0:Int),()))) false
         else
          let x2915:=(decide (a2899 < (0:Int)))
          wde N a2898
           (fun x2916 =>
            wcG N a2898 a2899 (false,((0:Int),((0:Int),()))) (x2915,((0:Int),(x2916,())))
             (fun x2923 x2924 x2925 x2926 =>
              wem N x2923
               (fun x2927 =>
                let x2928:=IntKind.u64.wrap x2927
                bif (decide (x2928 < (0:Int))) then
                 none
                else
                 let x2929:=(shlI .i64 (1:Int) x2928)
                 bif (decide (x2929=(0:Int))) then
                  none
                 else
                  let x2930:=IntKind.i64.wrap (Int.tdiv x2924 x2929)
                  bif (decide (x2929=(0:Int))) then
                   none
                  else
                   let x2931:=Int.tmod x2924 x2929
                   let x2932:=IntKind.u64.wrap x2931
                   wcH N x2929 x2930 x2925 (x2926.1,(x2932,(x2926.2.2.1,())))
                    (fun _ x2943 =>
                     k0 x2943 true)))))))
noncomputable def wdc {α:Type}:=wy (@wdc.b α)
theorem wdc.eq:@wdc=@wdc.b:=funext fun α=>wb _

noncomputable def wey.b {α:Type} (N:Nat) (v2953:Bool) (v2954:Bool×Int×Int×Unit) (v2955:Bool) (v2956:List Int) (v2957:List Int) (v2958:List Int) (v2959:List Int) (k0:Bool→Bool→List Int→List Int→List Int→List Int→Option α):Option α :=
 let x2960:=(decide ((0:Int)≤v2954.2.2.1))
 bif x2960 then
  wdv N v2954.2.2.1
   (fun x2961 =>
    wdf N v2958 x2961
     (fun x2962 =>
      k0 v2953 v2955 v2956 v2957 x2962 v2959))
 else
  let x2963:=IntKind.i64.wrap (0 - v2954.2.2.1)
  wdv N x2963
   (fun x2964 =>
    k0 v2953 v2955 v2956 v2957 v2958 x2964)
noncomputable def wey {α:Type}:=wy (@wey.b α)
theorem wey.eq:@wey=@wey.b:=funext fun α=>wb _
noncomputable def wfx.b {α:Type} (N:Nat) (a2947:Int) (a2948:Int) (k0:Bool→List Int→List Int→Option α):Option α :=
 wdc N a2947 a2948
  (fun x2949 _ =>
   wdB N x2949.2.1
    (fun x2951 =>
     let x2952:=[(1:Int)]
     wey N false x2949 x2949.1 [] [] x2951 x2952
      (fun _ x2966 _ _ x2969 x2970 =>
       k0 x2966 x2969 x2970)))
noncomputable def wfx {α:Type}:=wy (@wfx.b α)
theorem wfx.eq:@wfx=@wfx.b:=funext fun α=>wb _

noncomputable def wc3.b {α:Type} (N:Nat) (a2896:Int) (a2897:Int) (k0:Bool→Bool→List Int→List Int→Option α):Option α :=
 wdc N a2896 a2897
  (fun _ x2945 =>
   let x2946 := !x2945
   bif x2946 then
    k0 false false [] []
   else
    wfx N a2896 a2897
     (fun x2971 x2972 x2973 =>
      wdu N x2971 x2972 x2973
       (fun x2974 x2975 x2976 x2977 =>
        k0 x2974 x2975 x2976 x2977)))
noncomputable def wc3 {α:Type}:=wy (@wc3.b α)
theorem wc3.eq:@wc3=@wc3.b:=funext fun α=>wb _

noncomputable def we7.b {α:Type} (N:Nat) (a3077:Bool×(List Int)×(List Int)×Unit) (a3078:Bool×(List Int)×(List Int)×Unit) (k0:Bool→List Int→List Int→Option α):Option α :=
 wdf N a3077.2.1 a3078.2.2.1
  (fun x3079 =>
   wdf N a3078.2.1 a3077.2.2.1
    (fun x3080 =>
     wdf N a3077.2.2.1 a3078.2.2.1
      (fun x3081 =>
       let x3082:=a3077.1 == a3078.1
       bif x3082 then
        weK N x3079 x3080
         (fun x3083 =>
          k0 a3077.1 x3083 x3081)
       else
        weP N x3079 x3080
         (fun x3084 =>
          let x3085:=(decide ((0:Int)≤x3084))
          bif x3085 then
           wev N x3079 x3080
            (fun x3086 =>
             k0 a3077.1 x3086 x3081)
          else
           wev N x3080 x3079
            (fun x3087 =>
             k0 a3078.1 x3087 x3081)))))
noncomputable def we7 {α:Type}:=wy (@we7.b α)
theorem we7.eq:@we7=@we7.b:=funext fun α=>wb _

noncomputable def wee.b {α:Type} (N:Nat) (a3071:Bool×(List Int)×(List Int)×Unit) (a3072:Bool×(List Int)×(List Int)×Unit) (k0:Bool→Bool→List Int→List Int→Option α):Option α :=
 wdw N a3071
  (fun x3073 =>
   let x3074 := !x3073
   bif x3074 then
    k0 false false [] []
   else
    wdw N a3072
     (fun x3075 =>
      let x3076 := !x3075
      bif x3076 then
       k0 false false [] []
      else
       we7 N a3071 a3072
        (fun x3088 x3089 x3090 =>
         wdu N x3088 x3089 x3090
          (fun x3091 x3092 x3093 x3094 =>
           k0 x3091 x3092 x3093 x3094))))
noncomputable def wee {α:Type}:=wy (@wee.b α)
theorem wee.eq:@wee=@wee.b:=funext fun α=>wb _

noncomputable def wed.b {α:Type} (N:Nat) (a3137:Bool×(List Int)×(List Int)×Unit) (a3138:Bool×(List Int)×(List Int)×Unit) (k0:Bool→Bool→List Int→List Int→Option α):Option α :=
 wdw N a3137
  (fun x3139 =>
   let x3140 := !x3139
   bif x3140 then
    k0 false false [] []
   else
    wdw N a3138
     (fun x3141 =>
      let x3142 := !x3141
      bif x3142 then
       k0 false false [] []
      else
       let x3143 := !(a3137.1 == a3138.1)
       wdf N a3137.2.1 a3138.2.1
        (fun x3144 =>
         wdf N a3137.2.2.1 a3138.2.2.1
          (fun x3145 =>
           wdu N x3143 x3144 x3145
            (fun x3146 x3147 x3148 x3149 =>
             k0 x3146 x3147 x3148 x3149)))))
noncomputable def wed {α:Type}:=wy (@wed.b α)
theorem wed.eq:@wed=@wed.b:=funext fun α=>wb _

noncomputable def wcJ.b {α:Type} (N:Nat) (v2982:Bool) (v2983:(List Int)×Int×Unit) (v2984:Bool) (v2985:Bool) (v2986:Bool) (v2987:List Int) (v2988:List Int) (v2989:List Int) (v2990:List Int) (v2991:List Int) (v2992:List Int) (k0:((List Int)×Int×Unit)→Bool→Bool→List Int→List Int→List Int→List Int→Option α):Option α :=
 bif v2982 then
  k0 v2983 v2984 v2986 v2987 v2988 v2991 v2992
 else
  k0 v2983 v2984 v2985 v2987 v2988 v2989 v2990
noncomputable def wcJ {α:Type}:=wy (@wcJ.b α)
theorem wcJ.eq:@wcJ=@wcJ.b:=funext fun α=>wb _
noncomputable def wcv.b {α:Type} (N:Nat) (v3015:Bool) (v3016:(List Int)×Int×Unit) (v3017:Bool) (v3018:Bool) (v3019:Bool) (v3020:List Int) (v3021:List Int) (v3022:List Int) (v3023:List Int) (v3024:List Int) (v3025:List Int) (k0:((List Int)×Int×Unit)→Bool→Bool→List Int→List Int→List Int→List Int→Option α):Option α :=
 bif v3015 then
  k0 v3016 v3017 v3019 v3020 v3021 v3024 v3025
 else
  k0 v3016 v3017 v3018 v3020 v3021 v3022 v3023
noncomputable def wcv {α:Type}:=wy (@wcv.b α)
theorem wcv.eq:@wcv=@wcv.b:=funext fun α=>wb _
noncomputable def wcw.b {α:Type} (N:Nat) (v3099:Bool) (v3100:(List Int)×Int×Unit) (v3101:Bool) (v3102:Bool) (v3103:Bool) (v3104:List Int) (v3105:List Int) (v3106:List Int) (v3107:List Int) (v3108:List Int) (v3109:List Int) (k0:((List Int)×Int×Unit)→Bool→Bool→List Int→List Int→List Int→List Int→Option α):Option α :=
 bif v3099 then
  k0 v3100 v3101 v3103 v3104 v3105 v3108 v3109
 else
  k0 v3100 v3101 v3102 v3104 v3105 v3106 v3107
noncomputable def wcw {α:Type}:=wy (@wcw.b α)
theorem wcw.eq:@wcw=@wcw.b:=funext fun α=>wb _
noncomputable def wb0.b {α:Type} (N:Nat) (v3048:Bool) (v3049:(List Int)×Int×Unit) (v3050:Bool) (v3051:Bool) (v3052:Bool) (v3053:List Int) (v3054:List Int) (v3055:List Int) (v3056:List Int) (v3057:List Int) (v3058:List Int) (k0:((List Int)×Int×Unit)→Bool→Bool→List Int→List Int→List Int→List Int→Option α):Option α :=
 bif v3048 then
  wt N (30:Int) v3049
   (fun x3059 x3060 =>
    let x3061:=(IntKind.i64.wrap ((2:Int) * x3059))
    let x3062:=(IntKind.i64.wrap ((1:Int) + x3061))
    let x3063:=[x3062]
    wt N (200:Int) x3060
     (fun x3064 x3065 =>
      wdv N x3064
       (fun x3066 =>
        wer N false x3063 x3066
         (fun x3067 _ x3069 x3070 =>
          wee N (v3052,(v3057,(v3058,()))) (x3067,(x3069,(x3070,())))
           (fun x3095 x3096 x3097 x3098 =>
            wcw N x3096 x3065 v3050 v3051 x3095 v3053 v3054 v3055 v3056 x3097 x3098
             (fun x3110 x3111 x3112 x3113 x3114 x3115 x3116 =>
              k0 x3110 x3111 x3112 x3113 x3114 x3115 x3116))))))
 else
  k0 v3049 v3050 v3051 v3053 v3054 v3055 v3056
noncomputable def wb0 {α:Type}:=wy (@wb0.b α)
theorem wb0.eq:@wb0=@wb0.b:=funext fun α=>wb _
noncomputable def wcr.b {α:Type} (N:Nat) (v3154:Bool) (v3155:(List Int)×Int×Unit) (v3156:Bool) (v3157:Bool) (v3158:Bool) (v3159:List Int) (v3160:List Int) (v3161:List Int) (v3162:List Int) (v3163:List Int) (v3164:List Int) (k0:((List Int)×Int×Unit)→Bool→Bool→List Int→List Int→List Int→List Int→Option α):Option α :=
 bif v3154 then
  k0 v3155 v3156 v3158 v3159 v3160 v3163 v3164
 else
  k0 v3155 v3156 v3157 v3159 v3160 v3161 v3162
noncomputable def wcr {α:Type}:=wy (@wcr.b α)
theorem wcr.eq:@wcr=@wcr.b:=funext fun α=>wb _
noncomputable def wb4.b {α:Type} (N:Nat) (v3124:Int) (v3125:(List Int)×Int×Unit) (v3126:Bool) (v3127:Bool) (v3128:List Int) (v3129:List Int) (v3130:List Int) (v3131:List Int) (k0:((List Int)×Int×Unit)→Bool→Bool→List Int→List Int→List Int→List Int→Option α):Option α :=
 let x3132:=(decide (v3124=(3:Int)))
 bif x3132 then
  wt N (1200:Int) v3125
   (fun x3133 x3134 =>
    wdv N x3133
     (fun x3135 =>
      let x3136:=[(1:Int)]
      wed N (v3127,(v3130,(v3131,()))) (false,(x3135,(x3136,())))
       (fun x3150 x3151 x3152 x3153 =>
        wcr N x3151 x3134 v3126 v3127 x3150 v3128 v3129 v3130 v3131 x3152 x3153
         (fun x3165 x3166 x3167 x3168 x3169 x3170 x3171 =>
          k0 x3165 x3166 x3167 x3168 x3169 x3170 x3171))))
 else
  k0 v3125 v3126 v3127 v3128 v3129 v3130 v3131
noncomputable def wb4 {α:Type}:=wy (@wb4.b α)
theorem wb4.eq:@wb4=@wb4.b:=funext fun α=>wb _
noncomputable def wb2.b {α:Type} (N:Nat) (v3033:Int) (v3034:(List Int)×Int×Unit) (v3035:Bool) (v3036:Bool) (v3037:List Int) (v3038:List Int) (v3039:List Int) (v3040:List Int) (k0:((List Int)×Int×Unit)→Bool→Bool→List Int→List Int→List Int→List Int→Option α):Option α :=
 let x3041:=(decide (v3033=(2:Int)))
 bif x3041 then
  wcB N (32:Int) v3034
   (fun x3042 x3043 =>
    wc3 N (32:Int) x3042
     (fun x3044 x3045 x3046 x3047 =>
      wb0 N x3045 x3043 v3035 v3036 x3044 v3037 v3038 v3039 v3040 x3046 x3047
       (fun x3117 x3118 x3119 x3120 x3121 x3122 x3123 =>
        k0 x3117 x3118 x3119 x3120 x3121 x3122 x3123)))
 else
  wb4 N v3033 v3034 v3035 v3036 v3037 v3038 v3039 v3040
   (fun x3172 x3173 x3174 x3175 x3176 x3177 x3178 =>
    k0 x3172 x3173 x3174 x3175 x3176 x3177 x3178)
noncomputable def wb2 {α:Type}:=wy (@wb2.b α)
theorem wb2.eq:@wb2=@wb2.b:=funext fun α=>wb _
noncomputable def wcp.b {α:Type} (N:Nat) (v3000:Int) (v3001:(List Int)×Int×Unit) (v3002:Bool) (v3003:Bool) (v3004:List Int) (v3005:List Int) (v3006:List Int) (v3007:List Int) (k0:((List Int)×Int×Unit)→Bool→Bool→List Int→List Int→List Int→List Int→Option α):Option α :=
 let x3008:=(decide (v3000=(1:Int)))
 bif x3008 then
  wcB N (64:Int) v3001
   (fun x3009 x3010 =>
    wc3 N (64:Int) x3009
     (fun x3011 x3012 x3013 x3014 =>
      wcv N x3012 x3010 v3002 v3003 x3011 v3004 v3005 v3006 v3007 x3013 x3014
       (fun x3026 x3027 x3028 x3029 x3030 x3031 x3032 =>
        k0 x3026 x3027 x3028 x3029 x3030 x3031 x3032)))
 else
  wb2 N v3000 v3001 v3002 v3003 v3004 v3005 v3006 v3007
   (fun x3179 x3180 x3181 x3182 x3183 x3184 x3185 =>
    k0 x3179 x3180 x3181 x3182 x3183 x3184 x3185)
noncomputable def wcp {α:Type}:=wy (@wcp.b α)
theorem wcp.eq:@wcp=@wcp.b:=funext fun α=>wb _
noncomputable def wck.b {α:Type} (N:Nat) (v2769:Int) (v2770:(List Int)×Int×Unit) (v2771:Bool) (v2772:Bool) (v2773:List Int) (v2774:List Int) (v2775:List Int) (v2776:List Int) (k0:((List Int)×Int×Unit)→Bool→Bool→List Int→List Int→List Int→List Int→Option α):Option α :=
 let x2777:=(decide (v2769=(0:Int)))
 bif x2777 then
  wcB N (32:Int) v2770
   (fun x2894 x2895 =>
    wc3 N (32:Int) x2894
     (fun x2978 x2979 x2980 x2981 =>
      wcJ N x2979 x2895 v2771 v2772 x2978 v2773 v2774 v2775 v2776 x2980 x2981
       (fun x2993 x2994 x2995 x2996 x2997 x2998 x2999 =>
        k0 x2993 x2994 x2995 x2996 x2997 x2998 x2999)))
 else
  wcp N v2769 v2770 v2771 v2772 v2773 v2774 v2775 v2776
   (fun x3186 x3187 x3188 x3189 x3190 x3191 x3192 =>
    k0 x3186 x3187 x3188 x3189 x3190 x3191 x3192)
noncomputable def wck {α:Type}:=wy (@wck.b α)
theorem wck.eq:@wck=@wck.b:=funext fun α=>wb _
noncomputable def wcu.b {α:Type} (N:Nat) (v3200:(List Int)×Int×Unit) (v3201:Bool) (v3202:Bool) (v3203:List Int) (v3204:List Int) (v3205:List Int) (v3206:List Int) (k0:((List Int)×Int×Unit)→Bool→Bool→List Int→List Int→List Int→List Int→Option α):Option α :=
 wt N (40:Int) v3200
  (fun x3207 x3208 =>
   let x3209:=(decide (x3207=(0:Int)))
   bif x3209 then
    k0 x3208 v3201 v3202 v3203 v3204 v3205 []
   else
    k0 x3208 v3201 v3202 v3203 v3204 v3205 v3206)
noncomputable def wcu {α:Type}:=wy (@wcu.b α)
theorem wcu.eq:@wcu=@wcu.b:=funext fun α=>wb _
noncomputable def wdb.b {α:Type} (N:Nat) (a2738:(List Int)×Int×Unit) (k0:Bool→((List Int)×Int×Unit)→List Int→List Int→Option α):Option α :=
 wt N (2000:Int) a2738
  (fun x2739 x2740 =>
   wt N (6:Int) x2740
    (fun x2741 x2742 =>
     wt N (2:Int) x2742
      (fun x2743 x2744 =>
       let x2745:=(decide (x2743=(0:Int)))
       let x2746:=IntKind.u64.wrap x2739
       wdB N x2746
        (fun x2747 =>
         wt N (50:Int) x2744
          (fun x2748 x2749 =>
           let x2750:=(IntKind.i64.wrap ((1:Int) + x2748))
           let x2751:=[x2750]
           wer N x2745 x2747 x2751
            (fun x2765 _ x2767 x2768 =>
             wck N x2741 x2749 false x2765 [] [] x2767 x2768
              (fun x3193 x3194 x3195 x3196 x3197 x3198 x3199 =>
               wcu N x3193 x3194 x3195 x3196 x3197 x3198 x3199
                (fun x3210 _ x3212 _ _ x3215 x3216 =>
                 k0 x3212 x3210 x3215 x3216))))))))
noncomputable def wdb {α:Type}:=wy (@wdb.b α)
theorem wdb.eq:@wdb=@wdb.b:=funext fun α=>wb _

noncomputable def wez.b {α:Type} (N:Nat) (a2734:List Int) (k0:Int→Bool→List Int→List Int→Option α):Option α :=
 wdt N a2734
  (fun x2735 =>
   wbA N x2735
    (fun x2736 x2737 =>
     wdb N x2737
      (fun x3217 _ x3219 x3220 =>
       k0 x2736 x3217 x3219 x3220)))
noncomputable def wez {α:Type}:=wy (@wez.b α)
theorem wez.eq:@wez=@wez.b:=funext fun α=>wb _

noncomputable def wcf.b {α:Type} (N:Nat) (a2733:List Int) (k0:Int→Bool→List Int→List Int→Option α):Option α :=
 wez N a2733
  (fun x3221 x3222 x3223 x3224 =>
   k0 x3221 x3222 x3223 x3224)
noncomputable def wcf {α:Type}:=wy (@wcf.b α)
theorem wcf.eq:@wcf=@wcf.b:=funext fun α=>wb _

noncomputable def weg.b {α:Type} (N:Nat) (a3260:Int×Int×Unit) (a3261:Int) (k0:Bool→Option α):Option α :=
 wes N a3261 a3260
  (fun x3262 =>
   let x3263 := !x3262
   k0 x3263)
noncomputable def weg {α:Type}:=wy (@weg.b α)
theorem weg.eq:@weg=@weg.b:=funext fun α=>wb _

noncomputable def wS {α:Type} (N:Nat) (next:List (Int×Int×Unit)→Int→Int→Int→Option α) (k0:Int→Option α) (k1:Option α) (v3254:List (Int×Int×Unit)) (v3255:Int) (v3256:Int) (v3257:Int):Option α :=
 let x3258:=decide (v3257 < v3256)
 bif x3258 then
  bif (decide (v3257 < (0:Int))) then
   none
  else
   match v3254[v3257.toNat]? with
   | some x3259 =>
    weg N x3259 v3255
     (fun x3264 =>
      bif x3264 then
       k0 v3257
      else
       let x3265:=(IntKind.i64.wrap (v3257 + (1:Int)))
       next v3254 v3255 v3256 x3265)
   | none=>none
 else
  k1
noncomputable def wc.b {α:Type}:=fun N n v3254 v3255 v3256 v3257 k0 k1=>we2 (fun next=>@wS α N next k0 k1) (fun _ _ _ _=>none) n v3254 v3255 v3256 v3257
noncomputable def wc {α:Type}:=wy (@wc.b α)
theorem wc.eq:@wc=@wc.b:=funext fun α=>wb _
theorem wc.zero {α:Type} (N v3254 v3255 v3256 v3257 k0 k1):@wc α N 0 v3254 v3255 v3256 v3257 k0 k1=none:=by rw [wc.eq]; rfl
theorem wc.succ {α:Type} (N n v3254 v3255 v3256 v3257 k0 k1):@wc α N (n + 1) v3254 v3255 v3256 v3257 k0 k1=wS N (fun y0 y1 y2 y3=>wc N n y0 y1 y2 y3 k0 k1) k0 k1 v3254 v3255 v3256 v3257:=by rw [wc.eq]; rfl
noncomputable def wl.b {α:Type} (N:Nat) (a3251:List (Int×Int×Unit)) (a3252:Int) (k0:Int→Option α):Option α :=
 let x3253:=((a3251.length:Nat):Int)
 wc N N a3251 a3252 x3253 (0:Int)
  (fun x3266 =>
   k0 x3266)
  (
   k0 (-1:Int))
noncomputable def wl {α:Type}:=wy (@wl.b α)
theorem wl.eq:@wl=@wl.b:=funext fun α=>wb _

noncomputable def wi.b {α:Type} (N:Nat) (a3249:List (Int×Int×Unit)) (a3250:Int) (k0:Bool→Option α):Option α :=
 wl N a3249 a3250
  (fun x3267 =>
   let x3268:=(decide ((0:Int)≤x3267))
   k0 x3268)
noncomputable def wi {α:Type}:=wy (@wi.b α)
theorem wi.eq:@wi=@wi.b:=funext fun α=>wb _

noncomputable def wfb.b {α:Type} (N:Nat) (a3245:Int) (a3246:(List (Int×Int×Unit))×Unit) (k0:Bool→Option α):Option α :=
 let x3247:=((a3246.1.length:Nat):Int)
 wgj N x3247 (1:Int) (6:Int)
  (fun x3248 =>
   bif x3248 then
    wi N a3246.1 a3245
     (fun x3269 =>
      let x3270 := !x3269
      k0 x3270)
   else
    k0 false)
noncomputable def wfb {α:Type}:=wy (@wfb.b α)
theorem wfb.eq:@wfb=@wfb.b:=funext fun α=>wb _

noncomputable def wf0 {α:Type} (N:Nat) (next:Int→List (Bool×(List Int)×(List Int)×Unit)→List (Int×Int×Unit)→Int→Int→Option α) (k0:Bool→Option α) (k1:Option α) (v3277:Int) (v3278:List (Bool×(List Int)×(List Int)×Unit)) (v3279:List (Int×Int×Unit)) (v3280:Int) (v3281:Int):Option α :=
 let x3282:=decide (v3281 < v3280)
 bif x3282 then
  bif (decide (v3281 < (0:Int))) then
   none
  else
   match v3279[v3281.toNat]? with
   | some x3283 =>
    bif (decide (v3281 < (0:Int))) then
     none
    else
     match v3278[v3281.toNat]? with
     | some x3284 =>
      wds N v3277 x3283 x3284
       (fun x3285 =>
        let x3286 := !x3285
        bif x3286 then
         k0 false
        else
         let x3287:=(IntKind.i64.wrap (v3281 + (1:Int)))
         next v3277 v3278 v3279 v3280 x3287)
     | none=>none
   | none=>none
 else
  k1
noncomputable def wbO.b {α:Type}:=fun N n v3277 v3278 v3279 v3280 v3281 k0 k1=>we2 (fun next=>@wf0 α N next k0 k1) (fun _ _ _ _ _=>none) n v3277 v3278 v3279 v3280 v3281
noncomputable def wbO {α:Type}:=wy (@wbO.b α)
theorem wbO.eq:@wbO=@wbO.b:=funext fun α=>wb _
theorem wbO.zero {α:Type} (N v3277 v3278 v3279 v3280 v3281 k0 k1):@wbO α N 0 v3277 v3278 v3279 v3280 v3281 k0 k1=none:=by rw [wbO.eq]; rfl
theorem wbO.succ {α:Type} (N n v3277 v3278 v3279 v3280 v3281 k0 k1):@wbO α N (n + 1) v3277 v3278 v3279 v3280 v3281 k0 k1=wf0 N (fun y0 y1 y2 y3 y4=>wbO N n y0 y1 y2 y3 y4 k0 k1) k0 k1 v3277 v3278 v3279 v3280 v3281:=by rw [wbO.eq]; rfl
noncomputable def wdV.b {α:Type} (N:Nat) (a3242:Int) (a3243:(List (Int×Int×Unit))×Unit) (a3244:List (Bool×(List Int)×(List Int)×Unit)) (k0:Bool→Option α):Option α :=
 wfb N a3242 a3243
  (fun x3271 =>
   let x3272 := !x3271
   bif x3272 then
    k0 false
   else
    let x3273:=((a3244.length:Nat):Int)
    let x3274:=((a3243.1.length:Nat):Int)
    let x3275 := !(decide (x3273=x3274))
    bif x3275 then
     k0 false
    else
     let x3276:=((a3243.1.length:Nat):Int)
     wbO N N a3242 a3244 a3243.1 x3276 (0:Int)
      (fun x3288 =>
       k0 x3288)
      (
       k0 true))
noncomputable def wdV {α:Type}:=wy (@wdV.b α)
theorem wdV.eq:@wdV=@wdV.b:=funext fun α=>wb _

noncomputable def wcE.b {α:Type} (N:Nat) (v2583:List Int) (v2584:Int) (v2585:ByteArray) (v2586:Bool) (v2587:Int×Int×Unit) (k0:Bool→Option α) (k1:List Int→Option α):Option α :=
 bif v2586 then
  wd1 N v2585
   (fun x2588 _ x2590 x2591 =>
    let x2592:=decide (v2587.2.1 < v2587.1)
    bif x2592 then
     k0 false
    else
     let x2593:=IntKind.i64.wrap (v2587.2.1 - v2587.1)
     let x2594:=(decide ((1:Int) < x2593))
     bif x2594 then
      k0 false
     else
      wds N v2584 v2587 (x2588,(x2590,(x2591,())))
       (fun x2729 =>
        let x2730 := !x2729
        bif x2730 then
         k0 false
        else
         k1 v2583))
 else
  k1 v2583
noncomputable def wcE {α:Type}:=wy (@wcE.b α)
theorem wcE.eq:@wcE=@wcE.b:=funext fun α=>wb _
noncomputable def laws_FnPairDec.b {α:Type} (N:Nat) (a1:List Int) (a2:List Int) (k0:Bool→Option α):Option α :=
 let x3:=((a1.length:Nat):Int)
 let x4:=(decide ((1048576:Int) < x3))
 bif x4 then
  k0 true
 else
  let x5:=((a2.length:Nat):Int)
  let x6:=(decide ((1048576:Int) < x5))
  bif x6 then
   k0 true
  else
   wcT N a1
    (fun x487 x488 =>
     wec N x487 x488
      (fun x1715 x1716 =>
       wef N x487 x488
        (fun _ x2581 =>
         let x2582 := !(x1716 == x2581)
         bif x2582 then
          k0 false
         else
          wcE N a2 x487 x488 x1716 x1715
           (fun x2731 =>
            k0 x2731)
           (fun x2732 =>
            wcf N x2732
             (fun x3225 x3226 x3227 x3228 =>
              wdh N x3225 (x3226,(x3227,(x3228,())))
               (fun x3229 x3230 =>
                wdg N x3225 (x3226,(x3227,(x3228,())))
                 (fun _ x3232 =>
                  let x3233 := !(x3230 == x3232)
                  bif x3233 then
                   k0 false
                  else
                   let x3234 := !x3230
                   bif x3234 then
                    k0 true
                   else
                    let x3235:=decide (x3229.2.1 < x3229.1)
                    bif x3235 then
                     k0 false
                    else
                     let x3236:=IntKind.i64.wrap (x3229.2.1 - x3229.1)
                     let x3237:=(decide ((1:Int) < x3236))
                     bif x3237 then
                      k0 false
                     else
                      wds N x3225 x3229 (x3226,(x3227,(x3228,())))
                       (fun x3238 =>
                        let x3239 := !x3238
                        bif x3239 then
                         k0 false
                        else
                         let x3240:=[x3229,x3229]
                         let x3241:=[(x3226,(x3227,(x3228,()))),(x3226,(x3227,(x3228,())))]
                         wdV N x3225 (x3240,()) x3241
                          (fun x3289 =>
                           bif x3289 then
                            let x3290:=[(x3226,(x3227,(x3228,())))]
                            wdV N x3225 (x3240,()) x3290
                             (fun x3291 =>
                              let x3292 := !x3291
                              k0 x3292)
                           else
                            k0 false)))))))))
noncomputable def laws_FnPairDec {α:Type}:=wy (@laws_FnPairDec.b α)
theorem laws_FnPairDec.eq:@laws_FnPairDec=@laws_FnPairDec.b:=funext fun α=>wb _

end
end Go.Proofs.YtnhbcpmmdblkjaaGreatDoorAm
