/-
  The abstract machine: a small interpreter of the loaded code over typed data, and the proof that what it answers, the machine does. Part 1.
-/
import Derived.Calls
import Derived.Below
import Derived.Laws.AppendOwn
import Derived.Orders
import Derived.Laws.Entries
import Derived.Laws.BytesString
import Derived.Laws.Tables
import Derived.Laws.MakeOwn
set_option linter.unusedVariables false
set_option linter.unusedSimpArgs false
set_option linter.unusedSectionVars false
namespace Go.Proofs.YtnhbcpmmdblkjaaDoorAm
open Go

noncomputable def lockF.{u} {β:Sort u} (x:β):β:=Classical.choose (p:=fun f=>f=x) ⟨x,rfl⟩
theorem lockF_eq.{u} {β:Sort u} (x:β):lockF x=x:=Classical.choose_spec (p:=fun f=>f=x) _
def loopN.{u} {β:Type u} (s:β→β) (z:β) (n:Nat):β:=Nat.rec z (fun _ next=>s next) n
inductive Ty where
 | int (k:IntKind) | bool | str | sl (t:Ty) | unit | pair (a b:Ty)
 deriving DecidableEq

@[reducible] def Ty.den:Ty→Type
 | .int _=>Int
 | .bool=>Bool
 | .str=>ByteArray
 | .sl t=>List t.den
 | .unit=>Unit
 | .pair a b=>a.den×b.den

def Ty.size:Ty→Nat
 | .unit=>0
 | .pair a b=>a.size + b.size
 | _=>1
def Ty.agg:Ty→Bool
 | .unit | .pair ..=>true
 | _=>false
def Ty.hasSl:Ty→Bool
 | .sl _=>true
 | .pair a b=>a.hasSl || b.hasSl
 | _=>false
def zeroD:(t:Ty)→t.den
 | .int _=>(0:Int)
 | .bool=>false
 | .str=>(ByteArray.empty:ByteArray)
 | .sl _=>[]
 | .unit=>()
 | .pair a b=>(zeroD a,zeroD b)

def castTo (t t':Ty) (x:t.den):Option t'.den:=if h:t=t' then some (h ▸ x) else none

inductive HV where
 | undef
 | skip
 | iv (t:Ty) (x:t.den)
 | nn (t:Ty) (xs:List t.den)
 | nil
 | own (id:Nat)
 | sub (id off len:Nat)
 | lp (id:Nat) (path:List Nat) (off:Nat)
 | le (id i:Nat) (path:List Nat) (off:Nat)
 | ip (t:Ty) (x:t.den)
 | agg (parts:List HV)
 | tuple (parts:List HV)
 | fn (f:Nat) (caps:List HV)
 | er (b:Bool)
abbrev us (n:Nat) (l:List HV):List HV:=List.replicate n .undef++l

inductive Blk where
 | arr (e:Nat) (t:Ty) (xs:List t.den) (frz:Bool)
 | box (e:Nat) (c:HV) (frz:Bool)
 | gone

structure St where
 slots:List HV
 store:List Blk

def lk.{u} {β:Type u}:List (Nat×β)→Nat→Option β
 | [],_=>none
 | (k,v)::r,i=>if k == i then some v else lk r i
def posOf:List Nat→Nat→Option Nat
 | [],_=>none
 | a::r,i=>if a == i then some 0 else (posOf r i).map (· + 1)
def nodupB:List Nat→Bool
 | []=>true
 | a::r => !(r.contains a) && nodupB r

structure Env where
 sl:List (Nat×Nat×Ty)
 ty:List (Nat×Ty)
 lay:List (Nat×Nat×Bool)
 fo:List (Nat×List Nat)
 lim:List (Nat×Nat)
 eqs:List (Nat×Ty)
 zs:List (Nat×List Nat)
 ifs:List Nat
 cut:List Nat

structure Callee where
 loan:Bool
 run:{α:Type}→List HV→List Blk→(HV→List Blk→Option α)→Option α
abbrev CT:=List (Nat×Callee)

mutual
def hsz:HV→Nat
 | .iv t _=>t.size
 | .nn .. | .nil | .own _ | .sub .. | .lp .. | .le .. | .ip .. | .fn .. | .er _=>1
 | .agg ps=>hszL ps
 | .undef | .skip | .tuple _=>0
def hszL:List HV→Nat
 | []=>0
 | h::r=>hsz h + hszL r
end
def hagg:HV→Bool
 | .iv t _=>t.agg
 | .agg _=>true
 | _=>false

def constHV:Value→Option HV
 | .int k n=>some (.iv (.int k) n)
 | .bool b=>some (.iv .bool b)
 | .string s=>some (.iv .str s)
 | .slice none 0 0=>some .nil
 | .pointer none=>some .undef
 | .nilIface=>some (.er false)
 | _=>none
def opnd (S:St):Operand→Option HV
 | .tmp t=>S.slots[t]?
 | .const v=>constHV v
 | .func f=>some (.fn f [])
 | .global _=>none
def opndL (S : St) : List Operand → Option (List HV)
  | [] => some []
  | x :: r => match opnd S x, opndL S r with
    | some h, some hs => some (h :: hs)
    | _, _ => none

def ivGet:(t:Ty)→t.den→List Nat→Option HV
 | t,x,[]=>some (.iv t x)
 | .pair a _,x,0::r=>ivGet a x.1 r
 | .pair _ b,x,(i + 1)::r=>ivGet b x.2 (i::r)
 | _,_,_=>none
def ivOff:Ty→List Nat→Option Nat
 | _,[]=>some 0
 | .pair a _,0::r=>ivOff a r
 | .pair a b,(i + 1)::r=>(ivOff b (i::r)).map (a.size + ·)
 | _,_=>none
def explode:(t:Ty)→t.den→List HV
 | .pair a b,x=>.iv a x.1::explode b x.2
 | .unit,_=>[]
 | t,x=>[.iv t x]
def getP : HV → List Nat → Option HV
  | h, [] => some h
  | .agg ps, i :: r => match ps[i]? with
    | some h => getP h r
    | none => none
  | .iv t x, i :: r => ivGet t x (i :: r)
  | _, _ => none
def offP : HV → List Nat → Option Nat
  | _, [] => some 0
  | .agg ps, i :: r => match ps[i]? with
    | some h => (offP h r).map (hszL (ps.take i) + ·)
    | none => none
  | .iv t _, i :: r => ivOff t (i :: r)
  | _, _ => none
def toIVs : List HV → Option (Sigma Ty.den)
  | [] => some ⟨.unit, ()⟩
  | .iv t x :: r => match toIVs r with
    | some ⟨b, y⟩ => some ⟨.pair t b, (x, y)⟩
    | none => none
  | _ => none
def mkAgg (ps:List HV):HV:=match toIVs ps with
 | some ⟨t,x⟩=>.iv t x
 | none=>.agg ps
def setP : HV → List Nat → HV → Option HV
  | _, [], v => some v
  | .agg ps, i :: r, v => match ps[i]? with
    | some h => match setP h r v with
      | some h' => some (mkAgg (ps.set i h'))
      | none => none
    | none => none
  | .iv t x, i :: r, v => match (explode t x)[i]? with
    | some h => match setP h r v with
      | some h' => some (mkAgg ((explode t x).set i h'))
      | none => none
    | none => none
  | _, _, _ => none

def oneOf (t:Ty) (ps:List HV):HV:=match t.agg with
 | true=>mkAgg ps
 | false=>ps.headD .undef
def zeroN:Ty→List HV
 | .pair a b=>oneOf a (zeroN a)::zeroN b
 | .unit=>[]
 | .sl _=>[.nil]
 | t=>[.iv t (zeroD t)]
def adopt : Ty → List HV → Nat → List HV × List Blk
  | .pair a b, p :: ps, n =>
    let ra : HV × List Blk := match p, a.agg with
      | .agg qs, true => (mkAgg (adopt a qs n).1, (adopt a qs n).2)
      | p, false => ((adopt a [p] n).1.headD p, (adopt a [p] n).2)
      | p, _ => (p, [])
    let rb := adopt b ps (n + ra.2.length)
    (ra.1 :: rb.1, ra.2 ++ rb.2)
  | .sl t, [.nil], n => ([.own n], [.arr 0 t [] false])
  | _, ps, _ => (ps, [])

def tag:List Nat→List Blk→List Blk
 | e::es,.arr _ t xs z::bs=>.arr e t xs z::tag es bs
 | _,bs=>bs
def kindsOf (l:Option (List Nat)):List Nat:=match l with
 | some es=>es
 | none=>[]
mutual
def snap (st : List Blk) : HV → Option (Sigma Ty.den)
  | .iv t x => some ⟨t, x⟩
  | .own id => match st[id]? with
    | some (.arr _ t xs _) => some ⟨.sl t, xs⟩
    | _ => none
  | .sub id off len => match st[id]? with
    | some (.arr _ t xs _) => some ⟨.sl t, (xs.drop off).take len⟩
    | _ => none
  | .agg ps => snapL st ps
  | _ => none
def snapL (st : List Blk) : List HV → Option (Sigma Ty.den)
  | [] => some ⟨.unit, ()⟩
  | h :: r => match snap st h, snapL st r with
    | some ⟨a, x⟩, some ⟨b, y⟩ => some ⟨.pair a b, (x, y)⟩
    | _, _ => none
end
def ofSig:Option (Sigma Ty.den)→Option HV
 | some ⟨t,x⟩=>some (.iv t x)
 | none=>none
mutual
def idsOf:HV→List Nat
 | .own id | .sub id _ _ | .lp id _ _ | .le id _ _ _=>[id]
 | .agg ps | .tuple ps | .fn _ ps=>idsOfL ps
 | _=>[]
def idsOfL:List HV→List Nat
 | []=>[]
 | h::r=>idsOf h++idsOfL r
end
mutual
def mapId (f:Nat→Option Nat):HV→Option HV
 | .own id=>(f id).map .own
 | .sub id o l=>(f id).map (.sub · o l)
 | .lp id p o=>(f id).map (.lp · p o)
 | .le id i p o=>(f id).map (.le · i p o)
 | .agg ps=>(mapIdL f ps).map .agg
 | .tuple ps=>(mapIdL f ps).map .tuple
 | .fn g ps=>(mapIdL f ps).map (.fn g)
 | h=>some h
def mapIdL (f : Nat → Option Nat) : List HV → Option (List HV)
  | [] => some []
  | h :: r => match mapId f h, mapIdL f r with
    | some x, some xs => some (x :: xs)
    | _, _ => none
end
def mapIdB (f:Nat→Option Nat):Blk→Option Blk
 | .box e c z=>(mapId f c).map (.box e · z)
 | b=>some b
def mapIdBs (f : Nat → Option Nat) : List Blk → Option (List Blk)
  | [] => some []
  | b :: r => match mapIdB f b, mapIdBs f r with
    | some x, some xs => some (x :: xs)
    | _, _ => none
mutual
def hasSlH:HV→Bool
 | .iv t _=>t.hasSl
 | .nn .. | .ip ..=>true
 | .agg ps | .tuple ps | .fn _ ps=>hasSlHL ps
 | _=>false
def hasSlHL:List HV→Bool
 | []=>false
 | h::r=>hasSlH h || hasSlHL r
end
def hasSlB:Blk→Bool
 | .arr _ t _ _=>t.hasSl
 | .box _ c _=>hasSlH c
 | .gone=>false
def Blk.live:Blk→Bool
 | .arr _ _ _ z | .box _ _ z => !z
 | .gone=>false
def Blk.freeze:Blk→Blk
 | .arr e t xs _=>.arr e t xs true
 | .box e c _=>.box e c true
 | .gone=>.gone
def freezeAt (st : List Blk) : List Nat → List Blk
  | [] => st
  | i :: r => match st[i]? with
    | some b => freezeAt (st.set i b.freeze) r
    | none => freezeAt st r
def blksAt (st : List Blk) : List Nat → Option (List Blk)
  | [] => some []
  | i :: r => match st[i]?, blksAt st r with
    | some b, some bs => if b.live then some (b :: bs) else none
    | _, _ => none
def writeAt (st:List Blk):List Nat→List Blk→List Blk
 | i::r,b::bs=>writeAt (st.set i b) r bs
 | _,_=>st

def passCap (st : List Blk) : HV → Option HV
  | .ip t x => some (.ip t x)
  | .lp id path off => match st[id]? with
    | some (.box _ c _) => match getP c path, offP c path with
      | some h, some o => if o = off then (match snap st h with
        | some ⟨t, x⟩ => some (.ip t x)
        | none => none) else none
      | _, _ => none
    | _ => none
  | _ => none
def passCaps (st : List Blk) : List HV → Option (List HV)
  | [] => some []
  | h :: r => match passCap st h, passCaps st r with
    | some x, some xs => some (x :: xs)
    | _, _ => none
mutual
def passA (st : List Blk) (loan : Bool) (ty : Option Ty) : HV → Option HV
  | .iv t x => some (.iv t x)
  | .ip t x => some (.ip t x)
  | .nil => match ty with
    | some (.sl t) => some (.iv (.sl t) [])
    | _ => none
  | .own id => match loan with
    | true => some (.own id)
    | false => ofSig (snap st (.own id))
  | .sub id o l => ofSig (snap st (.sub id o l))
  | .lp id [] 0 => some (.lp id [] 0)
  | .agg ps => match loan with
    | true => (passAL st ps).map .agg
    | false => ofSig (snapL st ps)
  | .fn f caps => (passCaps st caps).map (.fn f)
  | _ => none
def passAL (st : List Blk) : List HV → Option (List HV)
  | [] => some []
  | h :: r => match passA st true none h, passAL st r with
    | some x, some xs => some (x :: xs)
    | _, _ => none
end
def passL (st : List Blk) (loan : Bool) : List (Option Ty) → List HV → Option (List HV)
  | _, [] => some []
  | ts, h :: r => match passA st loan (ts.headD none) h, passL st loan ts.tail r with
    | some x, some xs => some (x :: xs)
    | _, _ => none
def capIds (st : List Blk) : List HV → List Nat
  | [] => []
  | h :: r => (match h with
    | .lp id path _ => id :: (match st[id]? with
      | some (.box _ c _) => (match getP c path with
        | some h => idsOf h
        | none => [])
      | _ => [])
    | _ => []) ++ capIds st r
mutual
def snIds (st : List Blk) (loan : Bool) : HV → List Nat
  | .own id => match loan with
    | true => []
    | false => [id]
  | .sub id _ _ => [id]
  | .agg ps => match loan with
    | true => snIdsL st true ps
    | false => idsOfL ps
  | .fn _ caps => capIds st caps
  | _ => []
def snIdsL (st:List Blk) (loan:Bool):List HV→List Nat
 | []=>[]
 | h::r=>snIds st loan h++snIdsL st loan r
end
def remap (ids:List Nat) (base:Nat) (i:Nat):Option Nat :=
 if i < ids.length then ids[i]? else some (base + (i - ids.length))
def loanIds (loan:Bool) (args:List HV):List Nat:=match loan with
 | true=>idsOfL args
 | false=>idsOfL (args.filter fun | .lp ..=>true | _=>false)
def disjB (a b:List Nat):Bool:=a.all fun i => !b.contains i

def callV {α : Type} (C : CT) (f : Nat) (tys : List (Option Ty)) (args : List HV) (st : List Blk) (K : Bool → HV → List Blk → Option α) : Option α :=
  match lk C f with
  | none => none
  | some c =>
    match passL st c.loan tys args with
    | none => none
    | some args1 =>
      match nodupB (loanIds c.loan args1), disjB (loanIds c.loan args1) (snIdsL st c.loan args), blksAt st (loanIds c.loan args1) with
      | true, true, some loans =>
        match mapIdL (posOf (loanIds c.loan args1)) args1, mapIdBs (posOf (loanIds c.loan args1)) loans with
        | some args2, some loans2 => c.run args2 loans2 fun res st' =>
          match decide ((loanIds c.loan args1).length ≤ st'.length), mapIdBs (remap (loanIds c.loan args1) st.length) st', mapId (remap (loanIds c.loan args1) st.length) res with
          | true, some bs, some res' =>
            match hasSlH res || st'.any hasSlB, snIdsL st c.loan args with
            | true, _ :: _ => K false res' (writeAt (freezeAt st (snIdsL st c.loan args)) (loanIds c.loan args1) (bs.take (loanIds c.loan args1).length) ++ bs.drop (loanIds c.loan args1).length)
            | _, _ => K (st'.isEmpty) res' (writeAt st (loanIds c.loan args1) (bs.take (loanIds c.loan args1).length) ++ bs.drop (loanIds c.loan args1).length)
          | _, _, _ => none
        | _, _ => none
      | _, _, _ => none

def maxI (x y:Int):Int:=if y > x then y else x
def minI (x y:Int):Int:=if y < x then y else x
def bitI (op:BinOp) (k:IntKind) (x y:Int):Int :=
 let a:=BitVec.ofInt k.bits x
 let b:=BitVec.ofInt k.bits y
 match op with
 | .and=>k.wrap (a &&& b).toNat
 | .or=>k.wrap (a ||| b).toNat
 | .xor=>k.wrap (a ^^^ b).toNat
 | _=>k.wrap (a &&& ~~~b).toNat
def shlI (k:IntKind) (x y:Int):Int:=k.wrap (x * 2 ^ (min y.toNat k.bits))
def shrI (k:IntKind) (x y:Int):Int:=x.fdiv (2 ^ (min y.toNat k.bits))
def ltS (x y:ByteArray):Bool:=Op.bytesLess x.toList y.toList
def eqS (x y:ByteArray):Bool:=x.toList == y.toList
def eqD : (t : Ty) → t.den → t.den → Option Bool
  | .int _, x, y => some (decide ((x : Int) = y))
  | .bool, x, y => some ((x : Bool) == y)
  | .unit, _, _ => some true
  | .pair a b, x, y => match eqD a x.1 y.1, eqD b x.2 y.2 with
    | some p, some q => some (p && q)
    | _, _ => none
  | _, _, _ => none

def binI {α : Type} (op : BinOp) (k : IntKind) (x y : Int) (K : HV → Option α) : Option α :=
  match op with
  | .add => K (.iv (.int k) (k.wrap (x + y)))
  | .sub => K (.iv (.int k) (k.wrap (x - y)))
  | .mul => K (.iv (.int k) (k.wrap (x * y)))
  | .quo => match decide (y = 0) with
    | true => none
    | false => K (.iv (.int k) (k.wrap (x.tdiv y)))
  | .rem => match decide (y = 0) with
    | true => none
    | false => K (.iv (.int k) (x.tmod y))
  | .eql => K (.iv .bool (decide (x = y)))
  | .neq => K (.iv .bool (!decide (x = y)))
  | .lss => K (.iv .bool (decide (x < y)))
  | .leq => K (.iv .bool (decide (x ≤ y)))
  | .gtr => K (.iv .bool (decide (y < x)))
  | .geq => K (.iv .bool (decide (y ≤ x)))
  | .shl | .shr => none
  | op => K (.iv (.int k) (bitI op k x y))
def binS {α : Type} (op : BinOp) (x y : ByteArray) (K : HV → Option α) : Option α :=
  match op with
  | .add => match decide (x.size + y.size ≤ 9223372036854775807) with
    | true => K (.iv .str (x ++ y))
    | false => none
  | .eql => K (.iv .bool (eqS x y))
  | .neq => K (.iv .bool (!eqS x y))
  | .lss => K (.iv .bool (ltS x y))
  | .leq => K (.iv .bool (ltS x y || eqS x y))
  | .gtr => K (.iv .bool (!(ltS x y || eqS x y)))
  | .geq => K (.iv .bool (!ltS x y))
  | _ => none
def isNilC:Operand→Bool
 | .const .nilIface=>true
 | _=>false
def binV {α : Type} (E : Env) (op : BinOp) (T : Nat) (cn : Bool) (a b : HV) (K : HV → Option α) : Option α :=
  match a, b with
  | .iv (.int k) x, .iv (.int k') y =>
    match op with
    | .shl => match decide ((y : Int) < 0) with
      | true => none
      | false => K (.iv (.int k) (shlI k x y))
    | .shr => match decide ((y : Int) < 0) with
      | true => none
      | false => K (.iv (.int k) (shrI k x y))
    | op => if k = k' then binI op k x y K else none
  | .iv .str x, .iv .str y => binS op x y K
  | .iv .bool x, .iv .bool y => match lk E.ty T, op with
    | some .bool, .eql => K (.iv .bool ((x : Bool) == y))
    | some .bool, .neq => K (.iv .bool (!((x : Bool) == y)))
    | _, _ => none
  | .iv (.pair p q) x, .iv t' y => match lk E.eqs T, castTo t' (.pair p q) y with
    | some t, some y' => if t = .pair p q then (match eqD (.pair p q) x y' with
      | some z => match op with
        | .eql => K (.iv .bool z)
        | .neq => K (.iv .bool (!z))
        | _ => none
      | none => none) else none
    | _, _ => none
  | .nn _ _, .nil => match lk E.sl T, op with
    | some _, .eql => K (.iv .bool false)
    | some _, .neq => K (.iv .bool true)
    | _, _ => none
  | .nil, .nil => match lk E.sl T, op with
    | some _, .eql => K (.iv .bool true)
    | some _, .neq => K (.iv .bool false)
    | _, _ => none
  | .er e, .er false => match cn, E.ifs.contains T, op with
    | true, true, .eql => K (.iv .bool (!e))
    | true, true, .neq => K (.iv .bool e)
    | _, _, _ => none
  | _, _ => none
def unV {α:Type} (op:UnOp) (a:HV) (K:HV→Option α):Option α :=
 match op,a with
 | .neg,.iv (.int k) x=>K (.iv (.int k) (k.wrap (0 - (x:Int))))
 | .xor,.iv (.int k) x=>K (.iv (.int k) (bitI .xor k (if k.signed then -1 else k.max) x))
 | .not,.iv .bool b=>K (.iv .bool (!(b:Bool)))
 | _,_=>none

def bytesOf (ns:List Int):ByteArray:=ns.foldl (fun r n=>r.push (UInt8.ofNat n.toNat)) ByteArray.empty
def srcOf (st : List Blk) (t : Ty) : HV → Option (List t.den)
  | .nil => some []
  | .nn t' ys => castTo (.sl t') (.sl t) ys
  | h => match snap st h with
    | some ⟨.sl t', ys⟩ => castTo (.sl t') (.sl t) ys
    | _ => none
def snapIds (fz:List Nat):HV→List Nat
 | .iv ..=>[]
 | h=>idsOf h

def optNat {α : Type} (x : Int) (hi : Nat) (K : Nat → Option α) : Option α :=
  match decide (0 ≤ x) with
  | true => (match decide (x ≤ hi) with
    | true => K x.toNat
    | false => none)
  | false => none
def bLo {α:Type} (n:Nat) (lo:Option HV) (K:Option Nat→Option Nat→Option α) (h:Option Nat):Option α:=match lo with
 | none=>K none h
 | some (.iv (.int _) x)=>optNat x (h.getD n) fun l=>K (some l) h
 | _=>none
def bHi {α:Type} (n:Nat) (lo hi:Option HV) (K:Option Nat→Option Nat→Option α) (m:Nat):Option α:=match hi with
 | none=>bLo n lo K none
 | some (.iv (.int _) x)=>optNat x m fun h=>bLo n lo K (some h)
 | _=>none
def bounds {α:Type} (n:Nat) (lo hi mx:Option HV) (K:Option Nat→Option Nat→Option α):Option α :=
 match mx,hi with
 | none,_=>bHi n lo hi K n
 | some (.iv (.int _) x),some _=>optNat x n (bHi n lo hi K)
 | _,_=>none
def cutL {β:Type} (xs:List β) (lo hi:Option Nat):List β :=
 match lo,hi with
 | none,none=>xs
 | some l,none=>xs.drop l
 | none,some h=>xs.take h
 | some l,some h=>(xs.take h).drop l

def splitOpt (lo hi mx:Option Operand) (hs:List HV):Option (Option HV×Option HV×Option HV) :=
 match lo,hi,mx,hs with
 | none,none,none,[]=>some (none,none,none)
 | some _,none,none,[a]=>some (some a,none,none)
 | none,some _,none,[a]=>some (none,some a,none)
 | some _,some _,none,[a,b]=>some (some a,some b,none)
 | none,some _,some _,[a,b]=>some (none,some a,some b)
 | some _,some _,some _,[a,b,c]=>some (some a,some b,some c)
 | _,_,_,_=>none

def fillP : List Nat → List HV → List HV → Option (List HV)
  | [], [], ps => some ps
  | i :: ix, h :: hs, ps => match ps[i]? with
    | some p => if hsz h = hsz p ∧ 0 < hsz h then fillP ix hs (ps.set i h) else none
    | none => none
  | _, _, _ => none
def fillE (st : List Blk) (t : Ty) : List Nat → List HV → List t.den → Option (List t.den)
  | [], [], xs => some xs
  | i :: ix, h :: hs, xs => match snap st h with
    | some ⟨t', x⟩ => match castTo t' t x with
      | some y => if i < List.length xs then fillE st t ix hs (xs.set i y) else none
      | none => none
    | none => none
  | _, _, _ => none
def loadV {α : Type} (E : Env) (T : Nat) (a : HV) (st : List Blk) (K : HV → Option α) : Option α :=
  let fit (h : HV) : Option α := match lk E.lay T with
    | some (n, g) => if hsz h = n ∧ hagg h = g then K h else none
    | none => none
  match a with
  | .ip t x => fit (.iv t x)
  | .lp id path off => match st[id]? with
    | some (.box _ c _) => match getP c path, offP c path with
      | some h, some o => if o = off then fit h else none
      | _, _ => none
    | _ => none
  | .le id i path off => match st[id]? with
    | some (.arr _ t xs _) => match xs[i]? with
      | some x => match ivGet t x path, ivOff t path with
        | some h, some o => if o = off then fit h else none
        | _, _ => none
      | none => none
    | _ => none
  | _ => none

def storeV {α : Type} (E : Env) (T : Nat) (a v : HV) (st : List Blk) (K : List Blk → Option α) : Option α :=
  match a with
  | .lp id path off => match st[id]? with
    | some (.box e c false) => match getP c path, offP c path, lk E.lay T with
      | some h, some o, some (n, _) =>
        if o = off ∧ hsz h = n ∧ hsz v = n then (match v, lk E.sl T with
          | .nil, some (e2, t) => (match setP c path (.own st.length) with
            | some c' => K (st.set id (.box e c' false) ++ [.arr e2 t [] false])
            | none => none)
          | _, _ => (match setP c path v with
            | some c' => K (st.set id (.box e c' false))
            | none => none)) else none
      | _, _, _ => none
    | _ => none
  | .le id i path off => match st[id]? with
    | some (.arr e t xs false) => match (xs[i]? : Option t.den) with
      | none => none
      | some x => match snap st v with
        | none => none
        | some ⟨tv, xv⟩ => match ivGet t x path, ivOff t path, lk E.lay T with
          | some h, some o, some (n, _) =>
            if o = off ∧ hsz h = n ∧ tv.size = n ∧ (idsOf v).contains id = false then (match setP (.iv t x) path (.iv tv xv) with
              | some (.iv t' y) => match castTo t' t y with
                | some y' => K ((freezeAt st (idsOf v)).set id (.arr e t (xs.set i y') false))
                | none => none
              | _ => none) else none
          | _, _, _ => none
    | _ => none
  | _ => none

def pickIv (b : Bool) : HV → HV → Option HV
  | .iv t x, .iv t' y => match castTo t' t y with
    | some y' => some (.iv t (bif b then x else y'))
    | none => none
  | _, _ => none
def isPtr:HV→Bool
 | .lp .. | .ip ..=>true
 | _=>false
def tyL (E:Env) (ts:Array Nat):List (Option Ty):=ts.toList.map fun t=>lk E.ty t

def appendTo {α:Type} (e:Nat) (t:Ty) (l:Nat) (xs ys:List t.den) (st:List Blk) (K:Bool→HV→List Blk→Option α):Option α :=
 match decide (List.length xs + List.length ys≤l) with
 | true=>K false (.own st.length) (st++[.arr e t (xs++ys) false])
 | false=>none
def clipV {α:Type} (E:Env) (T id:Nat) (l h m:Option HV) (st:List Blk) (K:Bool→HV→List Blk→Option α):Option α :=
 match st[id]?,lk E.sl T,l with
 | some (.arr e t xs false),some (_,te),none=>if te=t then bounds xs.length none h m (fun l' h'=>match l' with
   | none=>K false (.own st.length) (st.set id .gone++[.arr e t (xs.take (h'.getD xs.length)) false])
   | some _=>none) else none
 | _,_,_=>none
def wrB (o:Oper) (hs:List HV):Option (List Nat):=match o.op,hs with
 | .alloc _,_ | .box _ _,_ | .build _ _,_ | .move _,_ | .assign _,_=>some []
 | .store _ _ _,[.lp id _ _,_]=>some [id]
 | _,_=>none
def stepV {α : Type} (E : Env) (C : CT) (o : Oper) (hs : List HV) (st : List Blk) (K : Bool → HV → List Blk → Option α) : Option α :=
  match o.op, hs with
  | .move _, [h] => K true h st
  | .assign _, [h] => match h with
    | .nil => match lk E.sl o.type with
      | some (e, t) => K false (.own st.length) (st ++ [.arr e t [] false])
      | none => none
    | h => K true h st
  | .pick _ _ _, [.iv .bool b, x, y] => match pickIv b x y with
    | some h => K true h st
    | none => match (b : Bool) with
      | true => K true x st
      | false => K true y st
  | .alloc T, [] => match lk E.ty T with
    | some t => K false (.lp st.length [] 0) (st ++ .box T (oneOf t (adopt t (zeroN t) (st.length + 1)).1) false :: tag (kindsOf (lk E.zs T)) (adopt t (zeroN t) (st.length + 1)).2)
    | none => none
  | .box T _, [h] => match lk E.lay T with
    | some (n, g) => if hsz h = n ∧ hagg h = g then K false (.lp st.length [] 0) (st ++ [.box T h false]) else none
    | none => none
  | .build T ps, hs => match lk E.ty T with
    | some t => match t.agg, fillP (ps.toList.map (·.1)) hs (zeroN t) with
      | true, some parts => match tag (kindsOf (lk E.zs T)) (adopt t parts st.length).2 with
        | [] => K true (mkAgg (adopt t parts st.length).1) st
        | bs => K false (mkAgg (adopt t parts st.length).1) (st ++ bs)
      | _, _ => none
    | none => none
  | .buildSlice T n ps, hs => match lk E.sl T with
    | some (e, t) => match fillE st t (ps.toList.map (·.1)) hs (List.replicate n (zeroD t)) with
      | some xs => if n * t.size ≤ 16777216 then K false (.own st.length) (freezeAt st (idsOfL hs) ++ [.arr e t xs false]) else none
      | none => none
    | none => none
  | .load T _, [a] => loadV E T a st fun h => K true h st
  | .store T _ _, [a, v] => storeV E T a v st fun st' => K false .undef st'
  | .nilCheck _, [h] => match h with
    | .lp .. | .le .. | .ip .. | .fn .. => K true h st
    | _ => none
  | .binOp op T _ y _, [a, b] => binV E op T (isNilC y) a b fun h => K true h st
  | .unOp op _ _, [a] => unV op a fun h => K true h st
  | .convert src dst _, [a] => match lk E.ty src, lk E.ty dst, a with
    | some (.int _), some (.int k), .iv (.int _) x => K true (.iv (.int k) (k.wrap x)) st
    | some .str, some .str, .iv .str s => K true (.iv .str s) st
    | some (.sl (.int .u8)), some .str, a => match snap st a with
      | some ⟨.sl (.int .u8), bs⟩ => K true (.iv .str (bytesOf bs)) st
      | _ => none
    | _, _, _ => none
  | .makeFunc (.func f) first _, caps => if first.size = 0 ∧ caps.all isPtr = true then K true (.fn f caps) st else none
  | .makeSlice T _ _, [.iv (.int .i64) n, .iv (.int .i64) c] => match lk E.sl T with
    | some (e, t) => match lk E.lim e with
      | some l => match decide ((0 : Int) ≤ n) with
        | true => (match decide ((n : Int) ≤ c) with
          | true => (match decide ((c : Int) ≤ l) with
            | true => K false (.own st.length) (st ++ [.arr e t (List.replicate (n : Int).toNat (zeroD t)) false])
            | false => none)
          | false => none)
        | false => none
      | none => none
    | none => none
  | .slice T _ lo hi mx, x :: r => match splitOpt lo hi mx r with
    | some (l, h, m) => match x with
      | .iv .str s => match (match lk E.ty T with | some .str => m | _ => some .undef) with
        | none => bounds s.size l h m fun l h => K true (.iv .str (s.extract (l.getD 0) (h.getD s.size))) st
        | some _ => none
      | .iv (.sl t) xs => match lk E.sl T with
        | some (_, te) => if te = t then bounds xs.length l h m fun l h => K true (.iv (.sl t) (cutL xs l h)) st else none
        | none => none
      | .own id => match m, E.cut.contains T with
        | some m, _ => clipV E T id l h (some m) st K
        | none, true => clipV E T id l h none st K
        | none, false => match st[id]?, lk E.sl T with
          | some (.arr _ t xs _), some (_, te) => if te = t then bounds xs.length l h none fun l h => K true (.sub id (l.getD 0) (h.getD xs.length - l.getD 0)) st else none
          | _, _ => none
      | .sub id off len => match st[id]?, lk E.sl T, m with
        | some (.arr _ t xs _), some (_, te), none => if te = t then bounds len l h m fun l h => K true (.sub id (off + l.getD 0) (h.getD len - l.getD 0)) st else none
        | _, _, _ => none
      | _ => none
    | none => none
  | .fieldAddr T _ f, [a] => match (lk E.fo T).bind (·[f]?), a with
    | some fo, .lp id path off => K true (.lp id (path ++ [f]) (off + fo)) st
    | some fo, .le id i path off => K true (.le id i (path ++ [f]) (off + fo)) st
    | some fo, .ip t x => match ivGet t x [f], ivOff t [f] with
      | some (.iv t' x'), some o => if o = fo then K true (.ip t' x') st else none
      | _, _ => none
    | _, _ => none
  | .indexAddr T _ _, [a, .iv (.int _) n] => match lk E.sl T with
    | some (_, te) => match decide ((n : Int) < 0) with
      | true => none
      | false => match a with
        | .iv (.sl t) xs => if te = t then (match (xs[(n : Int).toNat]? : Option t.den) with
          | some x => K true (.ip t x) st
          | none => none) else none
        | .own id => match st[id]? with
          | some (.arr _ t xs _) => if te = t then (match decide ((n : Int).toNat < xs.length) with
            | true => K true (.le id (n : Int).toNat [] 0) st
            | false => none) else none
          | _ => none
        | .sub id off len => match st[id]? with
          | some (.arr _ t xs _) => if te = t then (match decide ((n : Int).toNat < len) with
            | true => K true (.le id (off + (n : Int).toNat) [] 0) st
            | false => none) else none
          | _ => none
        | _ => none
    | none => none
  | .index T _ _, [.iv .str s, .iv (.int _) n] => match lk E.ty T with
    | some .str => match decide ((n : Int) < 0) with
      | true => none
      | false => match (s[(n : Int).toNat]? : Option UInt8) with
        | some b => K true (.iv (.int .u8) ((b.toNat : Nat) : Int)) st
        | none => none
    | _ => none
  | .extract _ i, [.tuple ps] => match ps[i]? with
    | some h => K true h st
    | none => none
  | .call c, hs => match c.callee with
    | .builtin .len => match hs, (c.argTypes[0]?).bind (lk E.sl), (c.argTypes[0]?).bind (lk E.ty) with
      | [.iv .str s], _, some .str => K true (.iv (.int .i64) (s.size : Int)) st
      | [.iv (.sl t) xs], some _, _ => K true (.iv (.int .i64) ((xs.length : Nat) : Int)) st
      | [.own id], some _, _ => match st[id]? with
        | some (.arr _ t xs _) => K true (.iv (.int .i64) ((xs.length : Nat) : Int)) st
        | _ => none
      | [.sub id off len], some _, _ => match st[id]? with
        | some (.arr _ t xs _) => K true (.iv (.int .i64) ((len : Nat) : Int)) st
        | _ => none
      | _, _, _ => none
    | .builtin .append => match hs, c.argTypes.toList with
      | [s, x], [T, T'] => match lk E.sl T, decide (T = T') with
        | some (e, t), true => match lk E.lim e, srcOf st t x with
          | some l, some ys => match s with
            | .nil => appendTo e t l [] ys st K
            | .own id => match st[id]? with
              | some (.arr e0 t' xs false) => if e0 = e ∨ e0 = 0 then (match castTo (.sl t') (.sl t) xs with
                | some xs' => appendTo e t l xs' ys (st.set id .gone) K
                | none => none) else none
              | _ => none
            | .sub id 0 n => match st[id]? with
              | some (.arr e0 t' xs false) => if e0 = e ∨ e0 = 0 then (match castTo (.sl t') (.sl t) xs with
                | some xs' => appendTo e t l (xs'.take n) ys (st.set id .gone) K
                | none => none) else none
              | _ => none
            | _ => none
          | _, _ => none
        | _, _ => none
      | _, _ => none
    | .builtin .copy => match hs, c.argTypes.toList with
      | [.own id, x], [T, T'] => match lk E.sl T, decide (T = T'), st[id]? with
        | some (_, t), true, some (.arr e' t' xs false) => match srcOf st t' x with
          | some ys => if t' = t ∧ (idsOf x).contains id = false then K false (.iv (.int .i64) ((min (List.length ys) (List.length xs) : Nat) : Int))
              (st.set id (.arr e' t' (List.take (min (List.length ys) (List.length xs)) ys ++ List.drop (min (List.length ys) (List.length xs)) xs) false)) else none
          | none => none
        | _, _, _ => none
      | _, _ => none
    | .builtin .max => match hs with
      | [.iv (.int k) x, .iv (.int k') y] => if k = k' then K true (.iv (.int k) (maxI x y)) st else none
      | [.iv (.int k) x, .iv (.int k') y, .iv (.int k'') z] => if k = k' ∧ k = k'' then K true (.iv (.int k) (maxI (maxI x y) z)) st else none
      | _ => none
    | .builtin .min => match hs with
      | [.iv (.int k) x, .iv (.int k') y] => if k = k' then K true (.iv (.int k) (minI x y)) st else none
      | [.iv (.int k) x, .iv (.int k') y, .iv (.int k'') z] => if k = k' ∧ k = k'' then K true (.iv (.int k) (minI (minI x y) z)) st else none
      | _ => none
    | .value _ => match hs with
      | .fn f caps :: args => callV C f (tyL E c.argTypes) (args ++ caps) st K
      | _ => none
    | _ => none
  | _, _ => none

def St.put (S:St) (d:Option Nat) (v:HV) (st:List Blk):St :=
 {slots:=match d with
   | some d=>S.slots.set d v
   | none=>S.slots
  store:=st }
def dstOf (ops:Array Oper) (j:Nat):Option Nat:=match ops[j]? with
 | some o=>o.dst
 | none=>none

def runIx {α : Type} (E : Env) (C : CT) (ops : Array Oper) : List Nat → List Bool → St → (List Bool → St → Option α) → Option α
  | [], ps, S, K => K ps.reverse S
  | i :: rest, ps, S, K =>
    match ops[i]? with
    | none => none
    | some o =>
      let perform (S : St) : Option α := match opndL S o.op.operands.toList with
        | none => none
        | some hs => stepV E C o hs S.store fun p v st => runIx E C ops rest (p :: ps) (S.put o.dst v st) K
      match o.guard with
      | none => perform S
      | some (j, want) => match (dstOf ops j).bind fun d => (S.slots[d]?).map fun h => (d, h) with
        | some (d, .iv .bool b) =>
          let S1 := { S with slots := S.slots.set d (.iv .bool true) }
          let S0 := { S with slots := S.slots.set d (.iv .bool false) }
          (match (b : Bool), want with
          | true, true => perform S1
          | false, false => perform S0
          | true, false => runIx E C ops rest (true :: ps) (S1.put o.dst .skip S1.store) K
          | false, true => runIx E C ops rest (true :: ps) (S0.put o.dst .skip S0.store) K)
        | some (_, .skip) => runIx E C ops rest (true :: ps) (S.put o.dst .skip S.store) K
        | _ => none
def dedup (seen:List Nat):List Nat→List Nat
 | []=>seen
 | a::r=>dedup (match seen.contains a with | true=>seen | false=>seen++[a]) r
def boxIds (st:List Blk):List Nat→List Nat
 | []=>[]
 | i::r=>(match st[i]? with | some (.box _ c _)=>idsOf c | _=>[])++boxIds st r
def reach (st:List Blk):Nat→List Nat→List Nat
 | 0,l=>l
 | n + 1,l=>reach st n (dedup l (boxIds st l))

def blkIds:Blk→List Nat
 | .box _ c _=>idsOf c
 | _=>[]
def vis (st:List Blk) (hs:List HV):List Nat:=reach st 3 (dedup [] (idsOfL hs))
def allIn (a b:List Nat):Bool:=a.all fun i=>b.contains i
def closedB (st:List Blk) (hs:List HV) (V:List Nat):Bool:=allIn (idsOfL hs) V && V.all fun i=>match st[i]? with
 | some (.arr ..)=>true
 | some (.box _ c _)=>allIn (idsOf c) V
 | _=>false
def hide (V:List Nat):Nat→List Blk→List Blk
 | _,[]=>[]
 | i,b::r=>(match V.contains i with | true=>b | false=>.gone)::hide V (i + 1) r
def unhide (V:List Nat):Nat→List Blk→List Blk→List Blk
 | _,[],st'=>st'
 | i,b::r,b'::r'=>(match V.contains i with | true=>b' | false=>b)::unhide V (i + 1) r r'
 | _,_::_,[]=>[]
def outB (V:List Nat) (n:Nat) (v:HV) (st':List Blk):Bool :=
 Nat.ble n st'.length && ((idsOf v).all fun i=>V.contains i || (Nat.ble n i && Nat.blt i st'.length)) &&
  st'.all fun b=>(blkIds b).all fun i=>V.contains i || (Nat.ble n i && Nat.blt i st'.length)
structure Rc where
 vis:List Nat
 wr:List Nat
 n:Nat
 m:Nat
 full:Bool
def wrOf (o : Oper) (hs : List HV) (V : List Nat) (p : Bool) : List Nat := match p with
  | true => []
  | false => (match wrB o hs with
    | some W => W
    | none => V)
def seen (st:List Blk) (hs:List HV):List Nat×Bool:=match closedB st hs (vis st hs) with
 | true=>(vis st hs,false)
 | false=>(List.range st.length,true)
def closedA (st:List Blk) (hs:List HV) (V:List Nat):Bool:=allIn (idsOfL hs) V && V.all fun i=>match st[i]? with
 | some b=>allIn (blkIds b) V
 | none=>false
def stepL {α : Type} (E : Env) (C : CT) (o : Oper) (hs : List HV) (st : List Blk) (K : Rc → HV → List Blk → Option α) : Option α :=
  match closedA st hs (seen st hs).1 with
  | false => none
  | true => stepV E C o hs (hide (seen st hs).1 0 st) fun p v st' => match outB (seen st hs).1 st.length v st' with
    | false => none
    | true => K ⟨(seen st hs).1, wrOf o hs (seen st hs).1 p, st.length, st'.length - st.length, (seen st hs).2⟩ v (unhide (seen st hs).1 0 st st')
def mvP (o : Oper) (S : St) : Option HV := match o.op with
  | .move (.tmp t) => (match S.slots[t]? with
    | some (.lp a b c) => some (.lp a b c)
    | _ => none)
  | _ => none
def runIxL {α : Type} (E : Env) (C : CT) (ops : Array Oper) : List Nat → List Rc → St → (List Rc → St → Option α) → Option α
  | [], rs, S, K => K rs.reverse S
  | i :: rest, rs, S, K =>
    match ops[i]? with
    | none => none
    | some o =>
      let perform (S : St) : Option α := match mvP o S with
        | some h => runIxL E C ops rest (⟨[], [], S.store.length, 0, false⟩ :: rs) (S.put o.dst h S.store) K
        | none => match opndL S o.op.operands.toList with
        | none => none
        | some hs => stepL E C o hs S.store fun x v st => runIxL E C ops rest (x :: rs) (S.put o.dst v st) K
      match o.guard with
      | none => perform S
      | some (j, want) => match (dstOf ops j).bind fun d => (S.slots[d]?).map fun h => (d, h) with
        | some (d, .iv .bool b) =>
          let S1 := { S with slots := S.slots.set d (.iv .bool true) }
          let S0 := { S with slots := S.slots.set d (.iv .bool false) }
          (match (b : Bool), want with
          | true, true => perform S1
          | false, false => perform S0
          | true, false => runIxL E C ops rest (⟨[], [], S1.store.length, 0, false⟩ :: rs) (S1.put o.dst .skip S1.store) K
          | false, true => runIxL E C ops rest (⟨[], [], S0.store.length, 0, false⟩ :: rs) (S0.put o.dst .skip S0.store) K)
        | some (_, .skip) => runIxL E C ops rest (⟨[], [], S.store.length, 0, false⟩ :: rs) (S.put o.dst .skip S.store) K
        | _ => none

end Go.Proofs.YtnhbcpmmdblkjaaDoorAm

namespace Go.Proofs.YtnhbcpmmdblkjaaDoorAm
open Go

inductive Out where
 | normal (S:St)
 | exit (id:Nat) (S:St)
 | ret (r:HV) (st:List Blk)

structure Piece where
 maskIn:Nat
 run:{α:Type}→St→(Out→Option α)→Option α

structure Fi where
 loans:Nat
 owns:Bool
 results:List ResultVar
 rtys:List Nat
 blks:List (Nat×Piece)
 regs:List (Nat×Piece)
 masks:List (Nat×Nat)

def keep (m:Nat):Nat→List HV→List HV
 | _,[]=>[]
 | i,h::r=>(match Nat.testBit m (2 * i) with | true=>h | false=>.undef)::keep m (i + 1) r
def blksAll (st : List Blk) : List Nat → Option (List Blk)
  | [] => some []
  | i :: r => match st[i]?, blksAll st r with
    | some b, some bs => some (b :: bs)
    | _, _ => none
def pack (loans : Nat) (order : List Nat) (hs : List HV) (st : List Blk) : Option (List HV × List Blk) :=
  match nodupB order, order.take loans == List.range loans, mapIdL (posOf order) hs, blksAll st order with
  | true, true, some hs', some bs => (match mapIdBs (posOf order) bs with
    | some bs' => some (hs', bs')
    | none => none)
  | _, _, _, _ => none
def norm0 (loans m:Nat) (S:St):Option St :=
 match pack loans (reach S.store 3 (dedup (List.range loans) (idsOfL (keep m 0 S.slots)))) (keep m 0 S.slots) S.store with
 | some (sl,bs)=>some ⟨sl,bs⟩
 | none=>none
def shOne (st:List Blk):HV→Option HV
 | .own id=>ofSig (snap st (.own id))
 | .sub id o l=>ofSig (snap st (.sub id o l))
 | .agg ps=>ofSig (snapL st ps)
 | _=>none
def shr (st : List Blk) (m : Nat) : Nat → List HV → List HV × List Nat
  | _, [] => ([], [])
  | i, h :: r => match Nat.testBit m (2 * i + 1), shOne st h with
    | true, some x => (x :: (shr st m (i + 1) r).1, idsOf h ++ (shr st m (i + 1) r).2)
    | _, _ => (h :: (shr st m (i + 1) r).1, (shr st m (i + 1) r).2)
def norm1 (loans m:Nat) (S:St):Option St :=
 norm0 loans m ⟨(shr S.store m 0 S.slots).1,freezeAt S.store (shr S.store m 0 S.slots).2⟩
def unbox1 (st : List Blk) (id : Nat) : List Blk := match st[id]? with
  | some (.box e h false) => (match (idsOf h).contains id, shOne st h with
    | false, some x => (freezeAt st (idsOf h)).set id (.box e x false)
    | _, _ => st)
  | _ => st
def unbox (m : Nat) : Nat → List HV → List Blk → List Blk
  | _, [], st => st
  | i, h :: r, st => match Nat.testBit m (2 * i + 1), h with
    | true, .lp id [] 0 => unbox m (i + 1) r (unbox1 st id)
    | _, _ => unbox m (i + 1) r st
def norm (loans m:Nat) (S:St):Option St:=norm1 loans m ⟨S.slots,unbox m 0 S.slots S.store⟩

def readRes (E : Env) (S : St) : List ResultVar → List Nat → Option (List HV)
  | [], _ => some []
  | .tmp t :: r, ty :: tys => match S.slots[t]?, readRes E S r tys with
    | some .nil, some hs => match lk E.ty ty with
      | some (.sl u) => some (.iv (.sl u) [] :: hs)
      | _ => none
    | some h, some hs => some (h :: hs)
    | _, _ => none
  | .cell a ty :: r, _ :: tys => match S.slots[a]?, lk E.lay ty, readRes E S r tys with
    | some (.lp id path off), some (n, g), some hs => match S.store[id]? with
      | some (.box _ c _) => match getP c path, offP c path with
        | some h, some o => if o = off ∧ hsz h = n ∧ hagg h = g then some (h :: hs) else none
        | _, _ => none
      | _ => none
    | _, _, _ => none
  | _, _ => none
def asShared (st:List Blk):HV→Option HV
 | .lp id [] 0=>some (.lp id [] 0)
 | h=>ofSig (snap st h)
def asSharedL (st : List Blk) : List HV → Option (List HV)
  | [] => some []
  | h :: r => match asShared st h, asSharedL st r with
    | some x, some xs => some (x :: xs)
    | _, _ => none
def shIds:HV→List Nat
 | .lp ..=>[]
 | h=>idsOf h
def shIdsL:List HV→List Nat
 | []=>[]
 | h::r=>shIds h++shIdsL r
def oneOrTuple:List HV→HV
 | [h]=>h
 | hs=>.tuple hs
mutual
def noSub:HV→Bool
 | .sub .. | .le .. | .nil | .undef | .skip | .tuple _ | .er _=>false
 | .agg ps | .fn _ ps=>noSubL ps
 | _=>true
def noSubL:List HV→Bool
 | []=>true
 | h::r=>noSub h && noSubL r
end
def retV {α : Type} (E : Env) (F : Fi) (S : St) (K : Out → Option α) : Option α :=
  match readRes E S F.results F.rtys with
  | none => none
  | some hs0 =>
    match (match F.owns with | true => some hs0 | false => asSharedL S.store hs0) with
    | none => none
    | some hs =>
      match noSubL hs, pack F.loans (dedup (List.range F.loans) (idsOfL hs)) hs (match F.owns with | true => S.store | false => freezeAt S.store (shIdsL hs0)) with
      | true, some (hs', bs') => K (.ret (oneOrTuple hs') bs')
      | _, _ => none

def binds (e:Edge):Bool:=Region.binds .any e
def ancs (ops : List Oper) : List Nat :=
  let rec go : List Oper → List Nat → List Nat
    | [], acc => acc
    | o :: r, acc => go r (acc ++ [o.after.toList.foldl (fun m e => match binds e with
        | true => m ||| (1 <<< e.on) ||| (acc.getD e.on 0)
        | false => m) 0])
  go ops []
def meets (a b:List Nat):Bool:=a.any fun i=>b.contains i
def freeB (x y:Rc):Bool :=
 !x.full && !y.full && !meets x.wr y.vis && !meets y.wr x.vis && y.vis.all fun v => !(Nat.ble x.n v && Nat.blt v (x.n + x.m))
def drawOk (ops : Array Oper) (rs : List Rc) : Bool :=
  let an := ancs ops.toList
  let n := ops.size
  (rs.length == n) && rs.all (fun x => x.wr.all fun i => x.vis.contains i) &&
  (List.range n).all fun j => match ops[j]?, rs[j]? with
    | some oj, some rj => oj.after.toList.all (fun e => !binds e || decide (e.on < j)) &&
      (List.range j).all fun i => match ops[i]?, rs[i]? with
        | some oi, some ri => (an.getD j 0).testBit i || (oi.apart ops oj && freeB ri rj)
        | _, _ => false
    | _, _ => false

def seqKey:Code→Code→Option Nat
 | .region r _ _,.cond ..=>some r
 | _,_=>none
def runC {α : Type} (E : Env) (C : CT) (F : Fi) : Code → St → (Out → Option α) → Option α
  | .skip, S, K => K (.normal S)
  | .region _ ops draw, S, K => match draw with
    | false => runIx E C ops (List.range ops.size) [] S fun _ S' => K (.normal S')
    | true => runIxL E C ops (List.range ops.size) [] S fun rs S' => match drawOk ops rs with
      | true => K (.normal S')
      | false => none
  | .seq a b, S, K =>
    match (seqKey a b).bind (lk F.regs) with
    | some p => match norm F.loans p.maskIn S with
      | some S1 => p.run S1 K
      | none => none
    | none => runC E C F a S fun
      | .normal S' => runC E C F b S' K
      | o => K o
  | .cond c a b, S, K => match opnd S c with
    | some (.iv .bool t) => (match (t : Bool) with
      | true => runC E C F a S K
      | false => runC E C F b S K)
    | _ => none
  | .block id c, S, K => match lk F.blks id with
    | some p => match norm F.loans p.maskIn S with
      | some S1 => p.run S1 K
      | none => none
    | none => runC E C F c S fun
      | .exit id' S' => (match id' == id with
        | true => K (.normal S')
        | false => K (.exit id' S'))
      | o => K o
  | .exit id, S, K => match lk F.masks id with
    | some m => match norm F.loans m S with
      | some S1 => K (.exit id S1)
      | none => none
    | none => K (.exit id S)
  | .ret, S, K => retV E F S K
  | _, _, _ => none

def runSeq {α : Type} (E : Env) (C : CT) (F : Fi) (m : Nat) : Code → St → (Out → Option α) → Option α
  | .seq a b, S, K => runC E C F a S fun
    | .normal S' => runC E C F b S' fun
      | .normal S2 => (match norm F.loans m S2 with
        | some S3 => K (.normal S3)
        | none => none)
      | o => K o
    | o => K o
  | _, _, _ => none
def runRound {α : Type} (E : Env) (C : CT) (F : Fi) (m : Nat) (next : St → (Out → Option α) → Option α) : Code → St → (Out → Option α) → Option α
  | .block id (.loop c), S, K => runC E C F c S fun
    | .normal S' => (match norm F.loans m S' with
      | some S1 => next S1 K
      | none => none)
    | .exit id' S' => (match id' == id with
      | true => K (.normal S')
      | false => K (.exit id' S'))
    | o => K o
  | _, _, _ => none

def nodes (F : Fi) : Code → List (Code × Piece)
  | .seq a b => match (seqKey a b).bind (lk F.regs) with
    | some p => [(.seq a b, p)]
    | none => nodes F a ++ nodes F b
  | .cond _ a b => nodes F a ++ nodes F b
  | .block id c => match lk F.blks id with
    | some p => [(.block id c, p)]
    | none => nodes F c
  | _ => []

inductive SP where
 | u | i (t:Ty) | o (id:Nat) | p (id:Nat) (path:List Nat) (off:Nat) | a (ps:List SP) | f (g:Nat) (caps:List SP) | q (t:Ty) | s (id:Nat) | k
inductive BP where
 | arr (e:Nat) (t:Ty) (z:Bool) | box (e:Nat) (c:SP) (z:Bool) | gone
mutual
@[reducible] def SP.V:SP→Type
 | .i t=>t.den
 | .q t=>t.den
 | .a ps=>SP.VL ps
 | .f _ ps=>SP.VL ps
 | .s _=>Nat×Nat
 | _=>Unit
@[reducible] def SP.VL:List SP→Type
 | []=>Unit
 | x::r=>x.V×SP.VL r
end
mutual
def SP.mk:(x:SP)→x.V→HV
 | .u,_=>.undef
 | .k,_=>.skip
 | .i t,v=>.iv t v
 | .o id,_=>.own id
 | .p id path off,_=>.lp id path off
 | .a ps,v=>.agg (SP.mkL ps v)
 | .f g ps,v=>.fn g (SP.mkL ps v)
 | .q t,v=>.ip t v
 | .s id,v=>.sub id v.1 v.2
def SP.mkL:(xs:List SP)→SP.VL xs→List HV
 | [],_=>[]
 | x::r,v=>x.mk v.1::SP.mkL r v.2
end
mutual
def SP.dec:(x:SP)→HV→Option x.V
 | .u,.undef=>some ()
 | .k,.skip=>some ()
 | .i t,.iv t' v=>castTo t' t v
 | .o id,.own id'=>if id=id' then some () else none
 | .p id path off,.lp id' path' off'=>if id=id'∧path=path'∧off=off' then some () else none
 | .a ps,.agg hs=>SP.decL ps hs
 | .f g ps,.fn g' hs=>if g=g' then SP.decL ps hs else none
 | .q t,.ip t' v=>castTo t' t v
 | .s id,.sub id' j l=>if id=id' then some (j,l) else none
 | _,_=>none
def SP.decL : (xs : List SP) → List HV → Option (SP.VL xs)
  | [], [] => some ()
  | x :: r, h :: hs => match SP.dec x h, SP.decL r hs with
    | some v, some vs => some (v, vs)
    | _, _ => none
  | _, _ => none
end
def SP.decS (x:SP) (h:HV):Option x.V:=match x with
 | .u=>some ()
 | x=>x.dec h
def SP.decLS : (xs : List SP) → List HV → Option (SP.VL xs)
  | [], [] => some ()
  | x :: r, h :: hs => match SP.decS x h, SP.decLS r hs with
    | some v, some vs => some (v, vs)
    | _, _ => none
  | _, _ => none
@[reducible] def BP.V:BP→Type
 | .arr _ t _=>List t.den
 | .box _ c _=>c.V
 | .gone=>Unit
def BP.mk:(x:BP)→x.V→Blk
 | .arr e t z,xs=>.arr e t xs z
 | .box e c z,v=>.box e (c.mk v) z
 | .gone,_=>.gone
def BP.dec:(x:BP)→Blk→Option x.V
 | .arr e t z,.arr e' t' xs z'=>if (e=e'∨e'=0)∧z=z' then castTo (.sl t') (.sl t) xs else none
 | .box e c z,.box e' h z'=>if e=e'∧z=z' then c.dec h else none
 | .gone,_=>some ()
 | _,_=>none
@[reducible] def BP.VL:List BP→Type
 | []=>Unit
 | x::r=>x.V×BP.VL r
def BP.mkL:(xs:List BP)→BP.VL xs→List Blk
 | [],_=>[]
 | x::r,v=>x.mk v.1::BP.mkL r v.2
def BP.decL : (xs : List BP) → List Blk → Option (BP.VL xs)
  | [], [] => some ()
  | x :: r, h :: hs => match BP.dec x h, BP.decL r hs with
    | some v, some vs => some (v, vs)
    | _, _ => none
  | _, _ => none
structure Pt where
 slots:List SP
 store:List BP
@[reducible] def Pt.V (p:Pt):Type:=SP.VL p.slots×BP.VL p.store
def Pt.mk' (p:Pt) (v:p.V):St:=⟨SP.mkL p.slots v.1,BP.mkL p.store v.2⟩
def Pt.dec (p:Pt) (S:St):Option p.V:=match SP.decLS p.slots S.slots,BP.decL p.store S.store with
 | some a,some b=>some (a,b)
 | _,_=>none
def mkPiece (maskIn:Nat) (p:Pt) (G:{α:Type}→p.V→(Out→Option α)→Option α):Piece :=
 ⟨maskIn,fun S K=>match p.dec S with
  | some v=>G v K
  | none=>none⟩
def mkCallee (loan:Bool) (p:Pt) (G:{α:Type}→p.V→(HV→List Blk→Option α)→Option α):Callee :=
 ⟨loan,fun args loans K=>match p.dec ⟨args,loans⟩ with
  | some v=>G v K
  | none=>none⟩
def runFn {α : Type} (E : Env) (C : CT) (F : Fi) (fn : Func) (args : List HV) (loans : List Blk) (K : HV → List Blk → Option α) : Option α :=
  match fn.body with
  | some c => runC E C F c ⟨args ++ List.replicate (fn.ntmps - args.length) .skip, loans⟩ fun
    | .ret r st => K r st
    | .normal S => retV E F S fun
      | .ret r st => K r st
      | _ => none
    | _ => none
  | none => none
end Go.Proofs.YtnhbcpmmdblkjaaDoorAm

namespace Go.Proofs.YtnhbcpmmdblkjaaDoorAm
open Go

def RowR {β:Type} (R:β→List Value→Prop):List β→List Value→Prop
 | [],cs=>cs=[]
 | x::xs,cs=>∃ c1 c2,cs=c1++c2∧R x c1∧RowR R xs c2

section row
variable {β:Type} {R:β→List Value→Prop} {sz:Nat}
theorem RowR.mono {R':β→List Value→Prop} (h:∀ x cs,R x cs→R' x cs):∀ {xs cs},RowR R xs cs→RowR R' xs cs
 | [],_,hr=>hr
 | _::_,_,⟨c1,c2,e,h1,h2⟩=>⟨c1,c2,e,h _ _ h1,RowR.mono h h2⟩
theorem RowR.length (hs : ∀ x cs, R x cs → cs.length = sz) : ∀ {xs cs}, RowR R xs cs → cs.length = xs.length * sz
  | [], _, hr => by simp [RowR] at hr; simp [hr]
  | _ :: xs, _, ⟨c1, c2, e, h1, h2⟩ => by
    have := RowR.length hs h2
    have := hs _ _ h1
    simp [e, List.length_cons, Nat.add_mul]; omega
theorem RowR.append:∀ {xs ys c1 c2},RowR R xs c1→RowR R ys c2→RowR R (xs++ys) (c1++c2)
 | [],_,_,_,h1,h2=>by simp only [RowR] at h1; subst h1; simpa using h2
 | _::_,_,_,_,⟨a,b,e,h1,h1'⟩,h2=>⟨a,b++_,by simp [e],h1,RowR.append h1' h2⟩
theorem RowR.take (hs : ∀ x cs, R x cs → cs.length = sz) : ∀ {xs cs} (n : Nat), RowR R xs cs → RowR R (xs.take n) (cs.take (n * sz))
  | [], _, n, hr => by simp only [RowR] at hr; subst hr; simp [RowR]
  | x :: xs, _, 0, _ => by simp [RowR]
  | x :: xs, _, n + 1, ⟨c1, c2, e, h1, h2⟩ => by
    have hl := hs _ _ h1
    refine ⟨c1, c2.take (n * sz), ?_, h1, RowR.take hs n h2⟩
    rw [e, List.take_append, Nat.add_mul, Nat.one_mul, List.take_of_length_le (l := c1) (by omega), show n * sz + sz - c1.length = n * sz by omega]
theorem RowR.drop (hs : ∀ x cs, R x cs → cs.length = sz) : ∀ {xs cs} (n : Nat), RowR R xs cs → RowR R (xs.drop n) (cs.drop (n * sz))
  | [], _, n, hr => by simp only [RowR] at hr; subst hr; simp [RowR]
  | x :: xs, cs, 0, h => by simpa using h
  | x :: xs, _, n + 1, ⟨c1, c2, e, h1, h2⟩ => by
    have hl := hs _ _ h1
    have := RowR.drop hs n h2
    rw [e, List.drop_append, Nat.add_mul, Nat.one_mul, List.drop_of_length_le (l := c1) (by omega), show n * sz + sz - c1.length = n * sz by omega]
    exact this
theorem RowR.get (hs : ∀ x cs, R x cs → cs.length = sz) : ∀ {xs cs} {i : Nat} {x}, RowR R xs cs → xs[i]? = some x → R x ((cs.drop (i * sz)).take sz)
  | [], _, _, _, _, hx => by simp at hx
  | y :: xs, _, 0, x, ⟨c1, c2, e, h1, h2⟩, hx => by
    simp at hx; subst hx
    have hl := hs _ _ h1
    simp [e, ← hl, h1]
  | y :: xs, _, i + 1, x, ⟨c1, c2, e, h1, h2⟩, hx => by
    have hl := hs _ _ h1
    have := RowR.get hs (i := i) h2 (by simpa using hx)
    rw [e, List.drop_append, Nat.add_mul, Nat.one_mul, List.drop_of_length_le (l := c1) (by omega), show i * sz + sz - c1.length = i * sz by omega]
    exact this
theorem RowR.set (hs : ∀ x cs, R x cs → cs.length = sz) : ∀ {xs cs} {i : Nat} {y c}, RowR R xs cs → R y c → i < xs.length →
    RowR R (xs.set i y) (cs.take (i * sz) ++ c ++ cs.drop (i * sz + sz))
  | [], _, _, _, _, _, _, hi => by simp at hi
  | x :: xs, _, 0, y, c, ⟨c1, c2, e, h1, h2⟩, hy, _ => by
    have hl := hs _ _ h1
    refine ⟨c, c2, ?_, hy, h2⟩
    subst e
    rw [List.drop_append, List.drop_of_length_le (l := c1) (by omega)]
    simp [hl]
  | x :: xs, _, i + 1, y, c, ⟨c1, c2, e, h1, h2⟩, hy, hi => by
    have hl := hs _ _ h1
    have := RowR.set hs (i := i) h2 hy (by simpa using hi)
    refine ⟨c1, _, ?_, h1, this⟩
    subst e
    rw [List.take_append, List.drop_append, Nat.add_mul, Nat.one_mul, List.take_of_length_le (l := c1) (by omega), List.drop_of_length_le (l := c1) (by omega)]
    rw [show i * sz + sz - c1.length = i * sz by omega, show i * sz + sz + sz - c1.length = i * sz + sz by omega]
    simp
theorem RowR.replicate {x:β} {c:List Value} (h:R x c):∀ n,RowR R (List.replicate n x) (List.replicate n c).flatten
 | 0=>by simp [RowR]
 | n + 1=>by rw [List.replicate_succ,List.replicate_succ,List.flatten_cons]; exact ⟨_,_,rfl,h,RowR.replicate h n⟩
theorem RowR.all {p : Value → Prop} (hp : ∀ x cs, R x cs → ∀ v ∈ cs, p v) : ∀ {xs cs}, RowR R xs cs → ∀ v ∈ cs, p v
  | [], _, hr, v, hv => by simp only [RowR] at hr; subst hr; simp at hv
  | _ :: _, _, ⟨c1, c2, e, h1, h2⟩, v, hv => by
    subst e
    rcases List.mem_append.1 hv with hv | hv
    · exact hp _ _ h1 v hv
    · exact RowR.all hp h2 v hv
end row

def cellsR (w:World) (Im:Nat→Prop):(t:Ty)→t.den→List Value→Prop
 | .int k,n,cs=>cs=[.int k n]
 | .bool,b,cs=>cs=[.bool b]
 | .str,s,cs=>cs=[.string s]
 | .unit,_,cs=>cs=[]
 | .pair a b,x,cs=>∃ c1 c2,cs=c1++c2∧cellsR w Im a x.1 c1∧cellsR w Im b x.2 c2
 | .sl t,xs,cs=>∃ p cap,cs=[.slice p (List.length xs) cap]∧(List.length xs≤cap∧(p=none→cap=0)) ∧
   (xs=[]∨∃ b off cur e fr,p=some ⟨b,off,none⟩∧Im b∧w.heap[b]?=some (.cells cur e fr) ∧
    off + List.length xs * t.size≤cur.size∧RowR (cellsR w Im t) xs ((cur.toList.drop off).take (List.length xs * t.size)))

theorem cellsR.length {w Im}:∀ {t:Ty} {x cs},cellsR w Im t x cs→cs.length=t.size
 | .int _,_,_,h=>by simp only [cellsR] at h; simp [h,Ty.size]
 | .bool,_,_,h=>by simp only [cellsR] at h; simp [h,Ty.size]
 | .str,_,_,h=>by simp only [cellsR] at h; simp [h,Ty.size]
 | .unit,_,_,h=>by simp only [cellsR] at h; simp [h,Ty.size]
 | .pair a b,_,_,⟨c1,c2,e,h1,h2⟩=>by have:=cellsR.length h1; have:=cellsR.length h2; simp [e,Ty.size]; omega
 | .sl _,_,_,⟨_,_,e,_⟩=>by simp [e,Ty.size]
theorem cellsR.one {w Im} : ∀ {t : Ty} {x cs}, cellsR w Im t x cs → ∀ v ∈ cs, v.oneCell' = true
  | .int _, _, _, h => by simp only [cellsR] at h; simp [h, Value.oneCell']
  | .bool, _, _, h => by simp only [cellsR] at h; simp [h, Value.oneCell']
  | .str, _, _, h => by simp only [cellsR] at h; simp [h, Value.oneCell']
  | .unit, _, _, h => by simp only [cellsR] at h; simp [h]
  | .pair a b, _, _, ⟨c1, c2, e, h1, h2⟩ => by
    intro v hv; subst e
    rcases List.mem_append.1 hv with hv | hv
    · exact cellsR.one h1 v hv
    · exact cellsR.one h2 v hv
  | .sl _, _, _, ⟨_, _, e, _⟩ => by simp [e, Value.oneCell']
theorem cellsR.mono {w w':World} {Im Im':Nat→Prop} (hi:∀ b,Im b→Im' b) (hw:∀ b,Im b→w'.heap[b]?=w.heap[b]?) :
  ∀ {t:Ty} {x cs},cellsR w Im t x cs→cellsR w' Im' t x cs
 | .int _,_,_,h=>by simpa only [cellsR] using h
 | .bool,_,_,h=>by simpa only [cellsR] using h
 | .str,_,_,h=>by simpa only [cellsR] using h
 | .unit,_,_,h=>by simpa only [cellsR] using h
 | .pair a b,_,_,⟨c1,c2,e,h1,h2⟩=>⟨c1,c2,e,cellsR.mono hi hw h1,cellsR.mono hi hw h2⟩
 | .sl t,_,_,⟨p,cap,e,hc,h⟩=>⟨p,cap,e,hc,h.imp id fun ⟨b,off,cur,el,fr,e1,h2,h3,h4,h5⟩ =>
   ⟨b,off,cur,el,fr,e1,hi b h2,(hw b h2).trans h3,h4,h5.mono fun _ _ h=>cellsR.mono hi hw h⟩⟩
theorem cellsR.noSl {w w' : World} {Im Im' : Nat → Prop} : ∀ {t : Ty} {x cs}, t.hasSl = false → cellsR w Im t x cs → cellsR w' Im' t x cs
  | .int _, _, _, _, h => by simpa only [cellsR] using h
  | .bool, _, _, _, h => by simpa only [cellsR] using h
  | .str, _, _, _, h => by simpa only [cellsR] using h
  | .unit, _, _, _, h => by simpa only [cellsR] using h
  | .pair a b, _, _, hn, ⟨c1, c2, e, h1, h2⟩ => by
    simp only [Ty.hasSl, Bool.or_eq_false_iff] at hn
    exact ⟨c1, c2, e, cellsR.noSl hn.1 h1, cellsR.noSl hn.2 h2⟩
  | .sl t, _, _, hn, _ => by simp [Ty.hasSl] at hn

structure Pl where
 b:Nat
 n:Nat
 cap:Nat
 sz:Nat
def isAg:Value→Bool
 | .agg _=>true
 | _=>false
structure Cx where
 w:World
 Im:Nat→Prop
 σ:Nat→Option Pl
 n:Nat

mutual
def HC (c : Cx) : HV → List Value → Prop
  | .undef, _ => True
  | .skip, cs => cs = [undef]
  | .iv t x, cs => cellsR c.w c.Im t x cs
  | .nn t xs, cs => cellsR c.w c.Im (.sl t) xs cs ∧ ∀ n cap, cs ≠ [.slice none n cap]
  | .nil, cs => cs = [.slice none 0 0]
  | .own id, cs => id < c.n ∧ match c.σ id with
    | none => cs = [.slice none 0 0]
    | some s => cs = [.slice (some ⟨s.b, 0, none⟩) s.n s.cap]
  | .sub id off len, cs => id < c.n ∧ match c.σ id with
    | none => off = 0 ∧ len = 0 ∧ cs = [.slice none 0 0]
    | some s => off + len ≤ s.n ∧ ∃ a cap, cs = [.slice (some a) len cap] ∧ len ≤ cap ∧ (off = 0 → cap = s.cap ∧ a = ⟨s.b, 0, none⟩) ∧ (0 < len → a = ⟨s.b, off * s.sz, none⟩)
  | .lp id _ off, cs => id < c.n ∧ ∃ s, c.σ id = some s ∧ cs = [.pointer (some ⟨s.b, off, none⟩)]
  | .le id i _ off, cs => id < c.n ∧ ∃ s, c.σ id = some s ∧ i < s.n ∧ cs = [.pointer (some ⟨s.b, i * s.sz + off, none⟩)]
  | .ip t x, cs => ∃ b off cur e fr, c.Im b ∧ c.w.heap[b]? = some (.cells cur e fr) ∧ off + t.size ≤ cur.size ∧ cellsR c.w c.Im t x ((cur.toList.drop off).take t.size) ∧
      cs = [.pointer (some ⟨b, off, none⟩)]
  | .agg ps, cs => HCs c ps cs
  | .tuple _, _ => False
  | .fn f ps, cs => ∃ vs : List Value, cs = [.func (.func f) #[] vs.toArray] ∧ HVs c ps vs
  | .er b, cs => match b with
    | false => cs = [.nilIface]
    | true => ∃ t p, cs = [.iface t p]
def HCs (c:Cx):List HV→List Value→Prop
 | [],cs=>cs=[]
 | h::hs,cs=>∃ c1 c2,cs=c1++c2∧c1.length=hsz h∧HC c h c1∧HCs c hs c2
def HVs (c:Cx):List HV→List Value→Prop
 | [],vs=>vs=[]
 | h::hs,vs=>∃ v r,vs=v::r∧HC c h v.cells.toList∧isAg v=hagg h∧HVs c hs r
end
def HVR (c:Cx) (h:HV) (v:Value):Prop :=
 match h with
 | .undef=>True
 | .tuple ps=>∃ vs:List Value,v=.tuple vs.toArray∧HVs c ps vs
 | h=>HC c h v.cells.toList∧isAg v=hagg h

structure Cx.Le (c c':Cx) (f:Nat→Option Nat):Prop where
 im:∀ b,c.Im b→c'.Im b
 heap:∀ b,c.Im b→c'.w.heap[b]?=c.w.heap[b]?
 ids:∀ i j,i < c.n→f i=some j→j < c'.n∧c'.σ j=c.σ i

mutual
theorem hsz_mapId (f : Nat → Option Nat) : ∀ {h h' : HV}, mapId f h = some h' → hsz h' = hsz h
  | .undef, _, e | .skip, _, e | .iv .., _, e | .nn .., _, e | .nil, _, e | .ip .., _, e | .er _, _, e => by simp only [mapId, Option.some.injEq] at e; subst e; rfl
  | .own _, _, e | .sub .., _, e | .lp .., _, e | .le .., _, e => by simp only [mapId, Option.map_eq_some_iff] at e; obtain ⟨_, _, rfl⟩ := e; rfl
  | .tuple _, _, e | .fn .., _, e => by simp only [mapId, Option.map_eq_some_iff] at e; obtain ⟨_, _, rfl⟩ := e; rfl
  | .agg ps, _, e => by
    simp only [mapId, Option.map_eq_some_iff] at e; obtain ⟨qs, eq, rfl⟩ := e
    simp only [hsz]; exact hszL_mapIdL f eq
theorem hszL_mapIdL (f : Nat → Option Nat) : ∀ {hs hs' : List HV}, mapIdL f hs = some hs' → hszL hs' = hszL hs
  | [], _, e => by simp only [mapIdL, Option.some.injEq] at e; subst e; rfl
  | h :: hs, _, e => by
    simp only [mapIdL] at e
    split at e
    · rename_i x xs ex exs
      simp only [Option.some.injEq] at e; subst e
      simp only [hszL, hsz_mapId f ex, hszL_mapIdL f exs]
    · simp at e
end
theorem hagg_mapId (f:Nat→Option Nat) {h h':HV} (e:mapId f h=some h'):hagg h'=hagg h:=by
 cases h <;> simp only [mapId,Option.some.injEq,Option.map_eq_some_iff] at e <;> first | (subst e; rfl) | (obtain ⟨_,_,rfl⟩:=e; rfl)
mutual
theorem mapId_some:∀ (h:HV),mapId some h=some h
 | .undef | .skip | .iv .. | .nn .. | .nil | .ip .. | .er _=>by simp [mapId]
 | .own _ | .sub .. | .lp .. | .le ..=>by simp [mapId]
 | .tuple ps=>by simp [mapId,mapIdL_some ps]
 | .agg ps=>by simp [mapId,mapIdL_some ps]
 | .fn _ ps=>by simp [mapId,mapIdL_some ps]
theorem mapIdL_some:∀ (hs:List HV),mapIdL some hs=some hs
 | []=>by simp [mapIdL]
 | h::hs=>by simp [mapIdL,mapId_some h,mapIdL_some hs]
end

section mono
variable {c c':Cx} {f:Nat→Option Nat}
mutual
theorem HC.mono (L : c.Le c' f) : ∀ {h h' : HV} {cs}, HC c h cs → mapId f h = some h' → HC c' h' cs
  | .undef, _, _, _, e => by simp only [mapId, Option.some.injEq] at e; subst e; simp [HC]
  | .skip, _, _, hh, e => by simp only [mapId, Option.some.injEq] at e; subst e; simpa only [HC] using hh
  | .iv t x, _, _, hh, e => by simp only [mapId, Option.some.injEq] at e; subst e; simp only [HC] at hh ⊢; exact hh.mono L.im L.heap
  | .nn t xs, _, _, hh, e => by simp only [mapId, Option.some.injEq] at e; subst e; simp only [HC] at hh ⊢; exact ⟨hh.1.mono L.im L.heap, hh.2⟩
  | .nil, _, _, hh, e => by simp only [mapId, Option.some.injEq] at e; subst e; simpa only [HC] using hh
  | .er _, _, _, hh, e => by simp only [mapId, Option.some.injEq] at e; subst e; simpa only [HC] using hh
  | .own id, _, _, hh, e => by
    simp only [mapId, Option.map_eq_some_iff] at e; obtain ⟨j, ej, rfl⟩ := e
    simp only [HC] at hh ⊢
    obtain ⟨h1, h2⟩ := L.ids _ _ hh.1 ej
    rw [h2]; exact ⟨h1, hh.2⟩
  | .sub id o l, _, _, hh, e => by
    simp only [mapId, Option.map_eq_some_iff] at e; obtain ⟨j, ej, rfl⟩ := e
    simp only [HC] at hh ⊢
    obtain ⟨h1, h2⟩ := L.ids _ _ hh.1 ej
    rw [h2]; exact ⟨h1, hh.2⟩
  | .lp id p o, _, _, hh, e => by
    simp only [mapId, Option.map_eq_some_iff] at e; obtain ⟨j, ej, rfl⟩ := e
    simp only [HC] at hh ⊢
    obtain ⟨h1, h2⟩ := L.ids _ _ hh.1 ej
    rw [h2]; exact ⟨h1, hh.2⟩
  | .le id i p o, _, _, hh, e => by
    simp only [mapId, Option.map_eq_some_iff] at e; obtain ⟨j, ej, rfl⟩ := e
    simp only [HC] at hh ⊢
    obtain ⟨h1, h2⟩ := L.ids _ _ hh.1 ej
    rw [h2]; exact ⟨h1, hh.2⟩
  | .ip t x, _, _, hh, e => by
    simp only [mapId, Option.some.injEq] at e; subst e; simp only [HC] at hh ⊢
    obtain ⟨b, off, cur, el, fr, h1, h2, h3, h4, h5⟩ := hh
    exact ⟨b, off, cur, el, fr, L.im b h1, (L.heap b h1).trans h2, h3, h4.mono L.im L.heap, h5⟩
  | .agg ps, _, _, hh, e => by
    simp only [mapId, Option.map_eq_some_iff] at e; obtain ⟨j, ej, rfl⟩ := e
    simp only [HC] at hh ⊢; exact HCs.mono L hh ej
  | .tuple ps, _, _, hh, e => by simp [HC] at hh
  | .fn g ps, _, _, hh, e => by
    simp only [mapId, Option.map_eq_some_iff] at e; obtain ⟨j, ej, rfl⟩ := e
    simp only [HC] at hh ⊢; obtain ⟨vs, e1, h2⟩ := hh
    exact ⟨vs, e1, HVs.mono L h2 ej⟩
theorem HCs.mono (L : c.Le c' f) : ∀ {hs hs' : List HV} {cs}, HCs c hs cs → mapIdL f hs = some hs' → HCs c' hs' cs
  | [], _, _, hh, e => by simp only [mapIdL, Option.some.injEq] at e; subst e; simpa only [HCs] using hh
  | h :: hs, _, _, hh, e => by
    simp only [mapIdL] at e
    split at e
    · rename_i x xs ex exs
      simp only [Option.some.injEq] at e; subst e
      simp only [HCs] at hh ⊢
      obtain ⟨c1, c2, e1, h1, h3, h4⟩ := hh
      have hz : hsz x = hsz h := hsz_mapId f ex
      exact ⟨c1, c2, e1, by omega, HC.mono L h3 ex, HCs.mono L h4 exs⟩
    · simp at e
theorem HVs.mono (L : c.Le c' f) : ∀ {hs hs' : List HV} {cs}, HVs c hs cs → mapIdL f hs = some hs' → HVs c' hs' cs
  | [], _, _, hh, e => by simp only [mapIdL, Option.some.injEq] at e; subst e; simpa only [HVs] using hh
  | h :: hs, _, _, hh, e => by
    simp only [mapIdL] at e
    split at e
    · rename_i x xs ex exs
      simp only [Option.some.injEq] at e; subst e
      simp only [HVs] at hh ⊢
      obtain ⟨v, r, e1, h1, h2, h3⟩ := hh
      exact ⟨v, r, e1, HC.mono L h1 ex, by rw [h2, hagg_mapId f ex], HVs.mono L h3 exs⟩
    · simp at e
end
theorem HVR.mono (L:c.Le c' f) {h h':HV} {v} (hh:HVR c h v) (e:mapId f h=some h'):HVR c' h' v:=by
 cases h
 case undef=>simp only [mapId,Option.some.injEq] at e; subst e; trivial
 case tuple ps =>
  simp only [mapId,Option.map_eq_some_iff] at e; obtain ⟨j,ej,rfl⟩:=e
  obtain ⟨vs,e1,h2⟩:=hh
  exact ⟨vs,e1,HVs.mono L h2 ej⟩
 all_goals
  have hg:=hagg_mapId f e
  have:=HC.mono L hh.1 e
  have h2:=hh.2
  simp only [mapId,Option.some.injEq,Option.map_eq_some_iff] at e
  first
   | (subst e; exact ⟨this,h2⟩)
   | (obtain ⟨_,_,rfl⟩:=e; exact ⟨this,h2⟩)
end mono
end Go.Proofs.YtnhbcpmmdblkjaaDoorAm

namespace Go.Proofs.YtnhbcpmmdblkjaaDoorAm
open Go

theorem seg_left {β:Type} {a b:List β} {o n:Nat} (h:o + n≤a.length):((a++b).drop o).take n=(a.drop o).take n:=by
 rw [List.drop_append,List.take_append]
 have:n - (a.length - o)=0:=by omega
 simp [this]
theorem seg_right {β:Type} {a b:List β} {o n:Nat}:((a++b).drop (a.length + o)).take n=(b.drop o).take n:=by
 rw [List.drop_append,List.drop_of_length_le (l:=a) (by omega)]
 simp
theorem seg_all {β:Type} {a:List β} {n:Nat} (h:a.length=n):(a.drop 0).take n=a:=by subst h; simp

theorem ivGet_ok {w : World} {Im : Nat → Prop} : ∀ {t : Ty} {x : t.den} {cs : List Value} {path : List Nat} {h : HV} {o : Nat}, cellsR w Im t x cs → ivGet t x path = some h → ivOff t path = some o →
    ∃ (t' : Ty) (x' : t'.den), h = .iv t' x' ∧ o + t'.size ≤ t.size ∧ cellsR w Im t' x' ((cs.drop o).take t'.size)
  | t, x, cs, [], h, o, hc, hg, ho => by
    rw [ivGet] at hg
    rw [ivOff] at ho
    simp only [Option.some.injEq] at hg ho
    subst hg; subst ho
    exact ⟨t, x, rfl, by omega, by rw [seg_all hc.length]; exact hc⟩
  | .pair a b, x, cs, 0 :: r, h, o, ⟨c1, c2, e, h1, h2⟩, hg, ho => by
    rw [ivGet] at hg
    rw [ivOff] at ho
    obtain ⟨t', x', e', hl, hc'⟩ := ivGet_ok h1 hg ho
    have hl1 := h1.length
    refine ⟨t', x', e', by simp only [Ty.size]; omega, ?_⟩
    rw [e, seg_left (by omega)]; exact hc'
  | .pair a b, x, cs, (i + 1) :: r, h, o, ⟨c1, c2, e, h1, h2⟩, hg, ho => by
    rw [ivGet] at hg
    rw [ivOff] at ho
    simp only [Option.map_eq_some_iff] at ho
    obtain ⟨o', ho', rfl⟩ := ho
    obtain ⟨t', x', e', hl, hc'⟩ := ivGet_ok h2 hg ho'
    have hl1 := h1.length
    refine ⟨t', x', e', by simp only [Ty.size]; omega, ?_⟩
    rw [e, ← hl1, seg_right]; exact hc'
  | .int _, _, _, _ :: _, _, _, _, hg, _ => by simp [ivGet] at hg
  | .bool, _, _, _ :: _, _, _, _, hg, _ => by simp [ivGet] at hg
  | .str, _, _, _ :: _, _, _, _, hg, _ => by simp [ivGet] at hg
  | .unit, _, _, _ :: _, _, _, _, hg, _ => by simp [ivGet] at hg
  | .sl _, _, _, _ :: _, _, _, _, hg, _ => by simp [ivGet] at hg

theorem HCs.len {c : Cx} : ∀ {ps cs}, HCs c ps cs → cs.length = hszL ps
  | [], _, h => by simp only [HCs] at h; subst h; rfl
  | p :: ps, _, h => by
    simp only [HCs] at h
    obtain ⟨c1, c2, e, h1, h2, h3⟩ := h
    have := HCs.len h3
    subst e
    simp only [hszL, List.length_append]; omega
theorem explode_ok {c : Cx} : ∀ {t : Ty} {x : t.den} {cs}, cellsR c.w c.Im t x cs → HCs c (explode t x) cs
  | .pair a b, x, cs, ⟨c1, c2, e, h1, h2⟩ => by
    simp only [explode, HCs]
    exact ⟨c1, c2, e, by simpa [hsz] using h1.length, by simpa only [HC] using h1, explode_ok h2⟩
  | .unit, x, cs, h => by simpa [explode, HCs, cellsR] using h
  | .int _, _, cs, h => by simp only [explode, HCs]; exact ⟨cs, [], by simp, by simpa [hsz] using h.length, by simpa only [HC] using h, rfl⟩
  | .bool, _, cs, h => by simp only [explode, HCs]; exact ⟨cs, [], by simp, by simpa [hsz] using h.length, by simpa only [HC] using h, rfl⟩
  | .str, _, cs, h => by simp only [explode, HCs]; exact ⟨cs, [], by simp, by simpa [hsz] using h.length, by simpa only [HC] using h, rfl⟩
  | .sl _, _, cs, h => by simp only [explode, HCs]; exact ⟨cs, [], by simp, by simpa [hsz] using h.length, by simpa only [HC] using h, rfl⟩
theorem explode_sz:∀ {t:Ty} {x:t.den},hszL (explode t x)=t.size
 | .pair a b,x=>by simp [explode,hszL,hsz,Ty.size,explode_sz (t:=b)]
 | .unit,x=>by simp [explode,hszL,Ty.size]
 | .int _,_ | .bool,_ | .str,_ | .sl _,_=>by simp [explode,hszL,hsz,Ty.size]
theorem explode_get : ∀ {t : Ty} {x : t.den} {i : Nat} {r : List Nat} {h : HV} {o : Nat}, ivGet t x (i :: r) = some h → ivOff t (i :: r) = some o →
    ∃ p o', (explode t x)[i]? = some p ∧ getP p r = some h ∧ offP p r = some o' ∧ o = hszL ((explode t x).take i) + o'
  | .pair a b, x, 0, r, h, o, hg, ho => by
    rw [ivGet] at hg
    rw [ivOff] at ho
    refine ⟨.iv a x.1, o, by simp [explode], ?_, ?_, by simp [hszL]⟩
    · cases r
      · simpa [getP, ivGet] using hg
      · simpa [getP] using hg
    · cases r
      · simpa [offP, ivOff] using ho
      · simpa [offP] using ho
  | .pair a b, x, i + 1, r, h, o, hg, ho => by
    rw [ivGet] at hg
    rw [ivOff] at ho
    simp only [Option.map_eq_some_iff] at ho
    obtain ⟨o1, ho1, rfl⟩ := ho
    obtain ⟨p, o', e1, e2, e3, e4⟩ := explode_get hg ho1
    exact ⟨p, o', by simpa [explode] using e1, e2, e3, by simp [explode, hszL, hsz]; omega⟩
  | .int _, _, _, _, _, _, hg, _ => by simp [ivGet] at hg
  | .bool, _, _, _, _, _, hg, _ => by simp [ivGet] at hg
  | .str, _, _, _, _, _, hg, _ => by simp [ivGet] at hg
  | .unit, _, _, _, _, _, hg, _ => by simp [ivGet] at hg
  | .sl _, _, _, _, _, _, hg, _ => by simp [ivGet] at hg

theorem HCs.get {c : Cx} : ∀ {ps cs} {i : Nat} {h : HV}, HCs c ps cs → ps[i]? = some h →
    hszL (ps.take i) + hsz h ≤ hszL ps ∧ HC c h ((cs.drop (hszL (ps.take i))).take (hsz h))
  | [], _, _, _, _, hi => by simp at hi
  | p :: ps, cs, 0, h, hh, hi => by
    simp only [List.getElem?_cons_zero, Option.some.injEq] at hi; subst hi
    simp only [HCs] at hh
    obtain ⟨c1, c2, e, h1, h2, h3⟩ := hh
    refine ⟨by simp [hszL], ?_⟩
    subst e
    simp only [List.take_zero, hszL]
    rw [seg_left (by omega), seg_all h1]; exact h2
  | p :: ps, cs, i + 1, h, hh, hi => by
    simp only [List.getElem?_cons_succ] at hi
    simp only [HCs] at hh
    obtain ⟨c1, c2, e, h1, h2, h3⟩ := hh
    obtain ⟨g1, g2⟩ := HCs.get h3 hi
    simp only [List.take_succ_cons, hszL]
    refine ⟨by omega, ?_⟩
    subst e
    rw [← h1, seg_right]; exact g2
theorem HCs.put {c : Cx} : ∀ {ps cs} {i : Nat} {h h' : HV} {vs : List Value}, HCs c ps cs → ps[i]? = some h → HC c h' vs → vs.length = hsz h' → hsz h' = hsz h →
    HCs c (ps.set i h') (cs.take (hszL (ps.take i)) ++ vs ++ cs.drop (hszL (ps.take i) + vs.length)) ∧ hszL (ps.set i h') = hszL ps
  | [], _, _, _, _, _, _, hi, _, _, _ => by simp at hi
  | p :: ps, cs, 0, h, h', vs, hh, hi, hv, hl, hs => by
    simp only [List.getElem?_cons_zero, Option.some.injEq] at hi; subst hi
    simp only [HCs] at hh
    obtain ⟨c1, c2, e, h1, h2, h3⟩ := hh
    subst e
    refine ⟨?_, by simp [hszL, hs]⟩
    simp only [List.set_cons_zero, HCs]
    refine ⟨vs, c2, ?_, hl, hv, h3⟩
    simp only [List.take_zero, hszL, Nat.zero_add, List.nil_append]
    rw [List.drop_append, List.drop_of_length_le (l := c1) (by omega)]
    simp [show vs.length - c1.length = 0 by omega]
  | p :: ps, cs, i + 1, h, h', vs, hh, hi, hv, hl, hs => by
    simp only [List.getElem?_cons_succ] at hi
    simp only [HCs] at hh
    obtain ⟨c1, c2, e, h1, h2, h3⟩ := hh
    obtain ⟨g1, g2⟩ := HCs.put h3 hi hv hl hs
    subst e
    refine ⟨?_, by simp [hszL, g2]⟩
    simp only [List.set_cons_succ, HCs, List.take_succ_cons, hszL]
    refine ⟨c1, _, ?_, h1, h2, g1⟩
    rw [← h1, List.take_append, List.take_of_length_le (l := c1) (by omega), show c1.length + hszL (List.take i ps) - c1.length = hszL (List.take i ps) by omega,
      Nat.add_assoc, List.drop_append, List.drop_of_length_le (l := c1) (by omega), show c1.length + (hszL (List.take i ps) + vs.length) - c1.length = hszL (List.take i ps) + vs.length by omega]
    simp

theorem toIVs_ok {c : Cx} : ∀ {ps : List HV} {cs : List Value} {t : Ty} {x : t.den}, toIVs ps = some ⟨t, x⟩ → HCs c ps cs → cellsR c.w c.Im t x cs ∧ t.agg = true ∧ t.size = hszL ps
  | [], cs, t, x, e, h => by
    simp only [toIVs, Option.some.injEq, Sigma.mk.injEq] at e
    obtain ⟨rfl, e⟩ := e
    exact ⟨by simpa [cellsR, HCs] using h, rfl, rfl⟩
  | p :: ps, cs, t, x, e, h => by
    cases p <;> simp only [toIVs] at e <;> try (simp at e; done)
    rename_i t' x'
    split at e
    · rename_i b y eb
      simp only [Option.some.injEq, Sigma.mk.injEq] at e
      obtain ⟨rfl, e⟩ := e
      simp only [heq_eq_eq] at e; subst e
      simp only [HCs] at h
      obtain ⟨c1, c2, e, h1, h2, h3⟩ := h
      obtain ⟨g1, g2, g3⟩ := toIVs_ok eb h3
      refine ⟨⟨c1, c2, e, by simpa only [HC] using h2, g1⟩, rfl, ?_⟩
      simp only [Ty.size, hszL, hsz, g3]
    · simp at e
theorem mkAgg_ok {c:Cx} {ps:List HV} {cs:List Value} (h:HCs c ps cs):HC c (mkAgg ps) cs∧hsz (mkAgg ps)=hszL ps∧hagg (mkAgg ps)=true:=by
 unfold mkAgg
 split
 ·rename_i t x e
  obtain ⟨g1,g2,g3⟩:=toIVs_ok e h
  exact ⟨by simpa only [HC] using g1,by simpa only [hsz] using g3,by simpa only [hagg] using g2⟩
 ·exact ⟨by simpa only [HC] using h,by simp only [hsz],rfl⟩

theorem getP_ok {c : Cx} : ∀ {path : List Nat} {h g : HV} {cs : List Value} {o : Nat}, HC c h cs → cs.length = hsz h → getP h path = some g → offP h path = some o →
    o + hsz g ≤ hsz h ∧ HC c g ((cs.drop o).take (hsz g))
  | [], h, g, cs, o, hh, hl, hg, ho => by
    simp only [getP, Option.some.injEq] at hg
    simp only [offP, Option.some.injEq] at ho
    subst hg; subst ho
    exact ⟨by omega, by rw [seg_all hl]; exact hh⟩
  | i :: r, h, g, cs, o, hh, hl, hg, ho => by
    cases h <;> simp only [getP] at hg <;> try (simp at hg; done)
    case iv t x =>
      simp only [offP] at ho
      obtain ⟨t', x', rfl, g1, g2⟩ := ivGet_ok (by simpa only [HC] using hh) hg ho
      exact ⟨by simpa only [hsz] using g1, by simpa only [HC, hsz] using g2⟩
    case agg ps =>
      simp only [offP] at ho
      split at hg
      · rename_i p hp
        rw [hp] at ho
        simp only [Option.map_eq_some_iff] at ho
        obtain ⟨o', ho', rfl⟩ := ho
        simp only [HC] at hh
        obtain ⟨a1, a2⟩ := HCs.get hh hp
        have hlen : ((cs.drop (hszL (ps.take i))).take (hsz p)).length = hsz p := by
          have := HCs.len hh
          simp only [List.length_take, List.length_drop]; omega
        obtain ⟨b1, b2⟩ := getP_ok a2 hlen hg ho'
        refine ⟨by simp only [hsz]; omega, ?_⟩
        rw [List.drop_take, List.take_take, List.drop_drop] at b2
        rwa [show min (hsz g) (hsz p - o') = hsz g by omega] at b2
      · simp at hg
theorem setP_ok {c : Cx} : ∀ {path : List Nat} {h g v h' : HV} {cs vs : List Value} {o : Nat}, HC c h cs → cs.length = hsz h → getP h path = some g → offP h path = some o →
    setP h path v = some h' → HC c v vs → vs.length = hsz v → hsz v = hsz g →
    HC c h' (cs.take o ++ vs ++ cs.drop (o + vs.length)) ∧ hsz h' = hsz h ∧ (path ≠ [] → hagg h' = true)
  | [], h, g, v, h', cs, vs, o, hh, hl, hg, ho, hs, hv, hvl, hvs => by
    simp only [getP, Option.some.injEq] at hg
    simp only [offP, Option.some.injEq] at ho
    simp only [setP, Option.some.injEq] at hs
    subst hg; subst ho; subst hs
    refine ⟨?_, hvs, by simp⟩
    rw [show cs.drop (0 + vs.length) = [] from List.drop_of_length_le (by omega)]
    simpa using hv
  | i :: r, h, g, v, h', cs, vs, o, hh, hl, hg, ho, hs, hv, hvl, hvs => by
    have core : ∀ (ps : List HV) (p q : HV) (o' : Nat), HCs c ps cs → ps[i]? = some p → getP p r = some g → offP p r = some o' → o = hszL (ps.take i) + o' → setP p r v = some q → h' = mkAgg (ps.set i q) → hsz h = hszL ps →
        HC c h' (cs.take o ++ vs ++ cs.drop (o + vs.length)) ∧ hsz h' = hsz h ∧ (i :: r ≠ [] → hagg h' = true) := by
      intro ps p q o' hps hp hgp hop ho hsp eh esz
      obtain ⟨a1, a2⟩ := HCs.get hps hp
      have hlen : ((cs.drop (hszL (ps.take i))).take (hsz p)).length = hsz p := by
        have := HCs.len hps
        simp only [List.length_take, List.length_drop]; omega
      obtain ⟨b1, b2, _⟩ := setP_ok a2 hlen hgp hop hsp hv hvl hvs
      have hb := getP_ok a2 hlen hgp hop
      have hcs := HCs.len hps
      generalize hseg : (cs.drop (hszL (ps.take i))).take (hsz p) = seg at *
      have hql : (seg.take o' ++ vs ++ seg.drop (o' + vs.length)).length = hsz q := by
        simp only [List.length_append, List.length_take, List.length_drop]; omega
      obtain ⟨d1, d2⟩ := HCs.put hps hp b1 hql b2
      obtain ⟨e1, e2, e3⟩ := mkAgg_ok d1
      subst eh
      refine ⟨?_, by rw [e2, d2, esz], fun _ => e3⟩
      rw [hql, b2] at e1
      have : cs.take o ++ vs ++ cs.drop (o + vs.length) = cs.take (hszL (ps.take i)) ++ (seg.take o' ++ vs ++ seg.drop (o' + vs.length)) ++ cs.drop (hszL (ps.take i) + hsz p) := by
        subst ho
        have h1 : cs.take (hszL (ps.take i) + o') = cs.take (hszL (ps.take i)) ++ seg.take o' := by
          rw [List.take_add, ← hseg, List.take_take, show min o' (hsz p) = o' by omega]
        have h2 : cs.drop (hszL (ps.take i) + o' + vs.length) = seg.drop (o' + vs.length) ++ cs.drop (hszL (ps.take i) + hsz p) := by
          rw [← hseg, List.drop_take, List.drop_drop, ← Nat.add_assoc]
          conv => lhs; rw [← List.take_append_drop (hsz p - (o' + vs.length)) (cs.drop (hszL (ps.take i) + o' + vs.length))]
          congr 1
          rw [List.drop_drop]
          congr 1; omega
        rw [h1, h2]; simp
      rw [this]; exact e1
    cases h <;> simp only [getP] at hg <;> try (simp at hg; done)
    case iv t x =>
      simp only [offP] at ho
      obtain ⟨p, o', e1, e2, e3, e4⟩ := explode_get hg ho
      simp only [setP, e1] at hs
      split at hs
      · rename_i q hq
        simp only [Option.some.injEq] at hs
        exact core _ p q o' (explode_ok (by simpa only [HC] using hh)) e1 e2 e3 e4 hq hs.symm (by simp only [hsz, explode_sz])
      · simp at hs
    case agg ps =>
      simp only [offP] at ho
      split at hg
      · rename_i p hp
        rw [hp] at ho
        simp only [Option.map_eq_some_iff] at ho
        obtain ⟨o', ho', rfl⟩ := ho
        simp only [setP, hp] at hs
        split at hs
        · rename_i q hq
          simp only [Option.some.injEq] at hs
          exact core ps p q o' (by simpa only [HC] using hh) hp hg ho' rfl hq hs.symm (by simp only [hsz])
        · simp at hs
      · simp at hg

theorem HC.len {c:Cx} {h:HV} {cs} (hh:HC c h cs) (hz:0 < hsz h):cs.length=hsz h:=by
 cases h <;> simp only [hsz] at hz ⊢ <;> try omega
 case iv t x=>simp only [HC] at hh; exact hh.length
 case nn t xs=>simp only [HC] at hh; exact hh.1.length
 case nil=>simp only [HC] at hh; simp [hh]
 case own id=>simp only [HC] at hh; have:=hh.2; split at this <;> simp [this]
 case sub id o l =>
  simp only [HC] at hh; have:=hh.2; split at this
  ·simp [this.2.2]
  ·obtain ⟨_,a,cap,e,_⟩:=this; simp [e]
 case lp=>simp only [HC] at hh; obtain ⟨_,s,_,e⟩:=hh; simp [e]
 case le=>simp only [HC] at hh; obtain ⟨_,s,_,_,e⟩:=hh; simp [e]
 case ip=>simp only [HC] at hh; obtain ⟨b,off,cur,e,fr,_,_,_,_,e⟩:=hh; simp [e]
 case agg ps=>simp only [HC] at hh; exact HCs.len hh
 case fn=>simp only [HC] at hh; obtain ⟨vs,e,_⟩:=hh; simp [e]
 case er =>
  simp only [HC] at hh
  split at hh
  ·simp [hh]
  ·obtain ⟨t,p,rfl⟩:=hh; rfl
theorem HC.oneEach {c : Cx} : ∀ {h : HV} {cs}, HC c h cs → cs.length = hsz h → ∀ v ∈ cs, v.oneCell' = true
  | .undef, cs, hh, hl => by simp only [hsz, List.length_eq_zero_iff] at hl; simp [hl]
  | .skip, cs, hh, hl => by simp only [hsz, List.length_eq_zero_iff] at hl; simp [hl]
  | .tuple _, cs, hh, hl => by simp only [hsz, List.length_eq_zero_iff] at hl; simp [hl]
  | .iv t x, cs, hh, hl => by simp only [HC] at hh; exact hh.one
  | .nn t xs, cs, hh, hl => by simp only [HC] at hh; exact hh.1.one
  | .nil, cs, hh, hl => by simp only [HC] at hh; simp [hh, Value.oneCell']
  | .own id, cs, hh, hl => by simp only [HC] at hh; have := hh.2; split at this <;> simp [this, Value.oneCell']
  | .sub id o l, cs, hh, hl => by
    simp only [HC] at hh; have := hh.2; split at this
    · simp [this.2.2, Value.oneCell']
    · obtain ⟨_, a, cap, e, _⟩ := this; simp [e, Value.oneCell']
  | .lp .., cs, hh, hl => by simp only [HC] at hh; obtain ⟨_, s, _, e⟩ := hh; simp [e, Value.oneCell']
  | .le .., cs, hh, hl => by simp only [HC] at hh; obtain ⟨_, s, _, _, e⟩ := hh; simp [e, Value.oneCell']
  | .ip .., cs, hh, hl => by simp only [HC] at hh; obtain ⟨b, off, cur, e, fr, _, _, _, _, e⟩ := hh; simp [e, Value.oneCell']
  | .fn .., cs, hh, hl => by simp only [HC] at hh; obtain ⟨vs, e, _⟩ := hh; simp [e, Value.oneCell']
  | .er b, cs, hh, hl => by
    simp only [HC] at hh
    split at hh
    · simp [hh, Value.oneCell']
    · obtain ⟨t, p, rfl⟩ := hh; simp [Value.oneCell']
  | .agg ps, cs, hh, hl => by simp only [HC] at hh; exact HCs.oneEach ps cs hh
where
  HCs.oneEach : ∀ (ps : List HV) (cs : List Value), HCs c ps cs → ∀ v ∈ cs, v.oneCell' = true
    | [], cs, hh => by simp only [HCs] at hh; simp [hh]
    | p :: ps, cs, hh => by
      simp only [HCs] at hh
      obtain ⟨c1, c2, e, h1, h2, h3⟩ := hh
      subst e
      intro v hv
      rcases List.mem_append.1 hv with hv | hv
      · exact HC.oneEach h2 h1 v hv
      · exact HCs.oneEach ps c2 h3 v hv

def BlkR (c : Cx) (id : Nat) : Blk → Prop
  | .arr e t xs z => match c.σ id with
    | none => xs = []
    | some s => s.n = xs.length ∧ s.sz = t.size ∧ s.n ≤ s.cap ∧ s.cap ≤ maxLen ∧ (z = true → c.Im s.b) ∧ (z = false → ¬ c.Im s.b) ∧
      ∃ cur, c.w.heap[s.b]? = some (.cells cur e (0, 0)) ∧ s.cap * t.size ≤ cur.size ∧ RowR (cellsR c.w c.Im t) xs (cur.toList.take (xs.length * t.size)) ∧ e ≠ 0
  | .box e h z => ∃ s cur, c.σ id = some s ∧ c.w.heap[s.b]? = some (.cells cur e (0, 0)) ∧ (z = true → c.Im s.b) ∧ (z = false → ¬ c.Im s.b) ∧ HC c h cur.toList ∧ cur.size = hsz h
  | .gone => True
structure SR (c:Cx) (st:List Blk):Prop where
 len:st.length=c.n
 im:∀ b,c.Im b→b < c.w.heap.size
 blk:∀ id x,st[id]?=some x→BlkR c id x
 inj:∀ i j x y s s',i ≠ j→st[i]?=some x→st[j]?=some y→x.live=true→y.live=true→c.σ i=some s→c.σ j=some s'→s.b ≠ s'.b

theorem arr_rows {c:Cx} {st:List Blk} (S:SR c st) {id e t xs z s} (hb:st[id]?=some (.arr e t xs z)) (hs:c.σ id=some s) :
  s.n=xs.length∧s.sz=t.size∧s.n≤s.cap∧s.cap≤maxLen∧∃ cur,c.w.heap[s.b]?=some (.cells cur e (0,0))∧s.cap * t.size≤cur.size∧RowR (cellsR c.w c.Im t) xs (cur.toList.take (xs.length * t.size)):=by
 have:=S.blk id _ hb
 simp only [BlkR,hs] at this
 obtain ⟨a1,a2,a3,a4,_,_,cur,a5,a6,a7,_⟩:=this
 exact ⟨a1,a2,a3,a4,cur,a5,a6,a7⟩
theorem arr_none {c:Cx} {st:List Blk} (S:SR c st) {id e t xs z} (hb:st[id]?=some (.arr e t xs z)) (hs:c.σ id=none):xs=[]:=by
 have:=S.blk id _ hb
 simpa only [BlkR,hs] using this

mutual
theorem snap_ok {c : Cx} {st : List Blk} (S : SR c st) {Im' : Nat → Prop} (hi : ∀ b, c.Im b → Im' b) : ∀ {h : HV} {cs : List Value} {t : Ty} {x : t.den}, HC c h cs → snap st h = some ⟨t, x⟩ → (∀ id ∈ idsOf h, ∀ s, c.σ id = some s → Im' s.b) → cellsR c.w Im' t x cs
  | .iv t' x', cs, t, x, hh, e, _ => by
    simp only [snap, Option.some.injEq, Sigma.mk.injEq] at e
    obtain ⟨rfl, e⟩ := e
    simp only [heq_eq_eq] at e; subst e
    simp only [HC] at hh
    exact hh.mono hi fun _ _ => rfl
  | .own id, cs, t, x, hh, e, hid => by
    simp only [snap] at e
    split at e
    · rename_i el t' xs z hb
      simp only [Option.some.injEq, Sigma.mk.injEq] at e
      obtain ⟨rfl, e⟩ := e
      simp only [heq_eq_eq] at e; subst e
      simp only [HC] at hh
      cases hs : c.σ id with
      | none =>
        have := arr_none S hb hs
        subst this
        simp only [hs] at hh
        exact ⟨none, 0, by simp [hh.2], by simp, .inl rfl⟩
      | some s =>
        obtain ⟨a1, a2, a3, a4, cur, a5, a6, a7⟩ := arr_rows S hb hs
        simp only [hs] at hh
        refine ⟨some ⟨s.b, 0, none⟩, s.cap, by rw [hh.2, a1], ⟨by omega, by simp⟩, .inr ⟨s.b, 0, cur, el, (0, 0), rfl, hid id (by simp [idsOf]) s hs, a5, ?_, ?_⟩⟩
        · rw [Nat.zero_add]; exact Nat.le_trans (Nat.mul_le_mul_right _ (by omega)) a6
        · rw [List.drop_zero]; exact a7.mono fun _ _ h => h.mono hi fun _ _ => rfl
    · simp at e
  | .sub id off l, cs, t, x, hh, e, hid => by
    simp only [snap] at e
    split at e
    · rename_i el t' xs z hb
      simp only [Option.some.injEq, Sigma.mk.injEq] at e
      obtain ⟨rfl, e⟩ := e
      simp only [heq_eq_eq] at e; subst e
      simp only [HC] at hh
      cases hs : c.σ id with
      | none =>
        simp only [hs] at hh
        obtain ⟨_, rfl, rfl, rfl⟩ := hh
        exact ⟨none, 0, by simp, by simp, .inl (by simp)⟩
      | some s =>
        obtain ⟨a1, a2, a3, a4, cur, a5, a6, a7⟩ := arr_rows S hb hs
        simp only [hs] at hh
        obtain ⟨_, b1, a, cap, rfl, b4, b2, b3⟩ := hh
        have hlen : ((xs.drop off).take l).length = l := by simp; omega
        refine ⟨some a, cap, by rw [hlen], ⟨by omega, by simp⟩, ?_⟩
        by_cases hl : 0 < l
        · refine .inr ⟨s.b, off * s.sz, cur, el, (0, 0), by rw [b3 hl], hid id (by simp [idsOf]) s hs, a5, ?_, ?_⟩
          · rw [hlen, a2, ← Nat.add_mul]; exact Nat.le_trans (Nat.mul_le_mul_right _ (by omega)) a6
          · rw [hlen, a2]
            have := (a7.drop (fun _ _ h => h.length) off).take (fun _ _ h => h.length) l
            rw [List.drop_take, List.take_take, show min (l * t'.size) (xs.length * t'.size - off * t'.size) = l * t'.size by
              rw [← Nat.sub_mul]; exact Nat.min_eq_left (Nat.mul_le_mul_right _ (by omega))] at this
            exact this.mono fun _ _ h => h.mono hi fun _ _ => rfl
        · have : l = 0 := by omega
          subst this; exact .inl (by simp)
    · simp at e
  | .agg ps, cs, t, x, hh, e, hid => by
    simp only [snap] at e
    simp only [HC] at hh
    exact snapL_ok S hi hh e (by simpa only [idsOf] using hid)
  | .undef, _, _, _, _, e, _ | .skip, _, _, _, _, e, _ | .nn .., _, _, _, _, e, _ | .nil, _, _, _, _, e, _ | .lp .., _, _, _, _, e, _ | .le .., _, _, _, _, e, _
  | .ip .., _, _, _, _, e, _ | .tuple _, _, _, _, _, e, _ | .fn .., _, _, _, _, e, _ | .er _, _, _, _, _, e, _ => by simp [snap] at e
theorem snapL_ok {c : Cx} {st : List Blk} (S : SR c st) {Im' : Nat → Prop} (hi : ∀ b, c.Im b → Im' b) : ∀ {ps : List HV} {cs : List Value} {t : Ty} {x : t.den}, HCs c ps cs → snapL st ps = some ⟨t, x⟩ → (∀ id ∈ idsOfL ps, ∀ s, c.σ id = some s → Im' s.b) → cellsR c.w Im' t x cs
  | [], cs, t, x, hh, e, _ => by
    simp only [snapL, Option.some.injEq, Sigma.mk.injEq] at e
    obtain ⟨rfl, e⟩ := e
    simpa [cellsR, HCs] using hh
  | p :: ps, cs, t, x, hh, e, hid => by
    simp only [snapL] at e
    split at e
    · rename_i a xa b xb ea eb
      simp only [Option.some.injEq, Sigma.mk.injEq] at e
      obtain ⟨rfl, e⟩ := e
      simp only [heq_eq_eq] at e; subst e
      simp only [HCs] at hh
      obtain ⟨c1, c2, e, h1, h2, h3⟩ := hh
      exact ⟨c1, c2, e, snap_ok S hi h2 ea fun i hm => hid i (by simp [idsOfL, hm]), snapL_ok S hi h3 eb fun i hm => hid i (by simp [idsOfL, hm])⟩
    · simp at e
end
end Go.Proofs.YtnhbcpmmdblkjaaDoorAm

namespace Go.Proofs.YtnhbcpmmdblkjaaDoorAm
open Go

def zeroCells:Ty→List Value
 | .int k=>[.int k 0]
 | .bool=>[.bool false]
 | .str=>[.string ByteArray.empty]
 | .sl _=>[.slice none 0 0]
 | .unit=>[]
 | .pair a b=>zeroCells a++zeroCells b
structure InfoOK (P:Program) (T:Nat) (t:Ty):Prop where
 info:∃ i z,P.info? T=some i∧i.size=t.size∧i.zero=some z∧z.cells.toList=zeroCells t
 pos:0 < t.size
def FldOK (P:Program):List Field→Ty→Nat→Prop
 | [],.unit,_=>True
 | f::fs,.pair a b,off=>f.offset=off∧(∃ i,P.info? f.type=some i∧i.size=a.size)∧FldOK P fs b (off + a.size)
 | _,_,_=>False
def TyOK (P:Program) (T:Nat):Ty→Prop
 | .int k=>P.underlying T=some (.int k)
 | .bool=>P.underlying T=some .bool
 | .str=>P.underlying T=some .string
 | .sl t=>∃ e,P.underlying T=some (.slice e)∧(∀ k,t=.int k→P.underlying e=some (.int k))
 | t=>∃ fs,P.underlying T=some (.struct fs)∧FldOK P fs.toList t 0
structure EnvOK (P:Program) (E:Env):Prop where
 sl:∀ T e t,lk E.sl T=some (e,t)→P.underlying T=some (.slice e)∧InfoOK P e t∧e ≠ 0
 ty:∀ T t,lk E.ty T=some t→TyOK P T t∧InfoOK P T t
 lay:∀ T n g,lk E.lay T=some (n,g)→0 < n∧(∃ i,P.info? T=some i∧i.size=n)∧∃ d,P.underlying T=some d ∧
  match d with | .struct _ | .array _ _=>g=true | _=>g=false
 fo:∀ (T:Nat) (os:List Nat) (f o:Nat),lk E.fo T=some os→os[f]?=some o→∃ (fs:Array Field) (fl:Field) (n:Nat),P.underlying T=some (.struct fs)∧fs[f]?=some fl∧fl.offset=o∧(∃ i,P.info? fl.type=some i∧i.size=n + 1)
 ifs:∀ T,E.ifs.contains T=true→∃ ms,P.underlying T=some (.interface ms)
 lim:∀ e l,lk E.lim e=some l→∃ i,P.info? e=some i∧l * i.bytes≤140737488355328∧l≤maxLen
 eqs:∀ T t,lk E.eqs T=some t→P.eqGuardType P.depth T=false∧∀ (w:World) (Im:Nat→Prop) (x y:t.den) (vx vy:Array Value) (z:Bool),
  cellsR w Im t x vx.toList→cellsR w Im t y vy.toList→eqD t x y=some z→(Op.equal T (.agg vx) (.agg vy)).run P w=.ok z w

structure Gd where
 N:Nat
 G:World→Prop
 stable:∀ w w':World,(∀ b,b < N→w'.heap[b]?=w.heap[b]?)→G w→G w'

structure SG (gd:Gd) (c:Cx) (st:List Blk):Prop extends SR c st where
 g:gd.G c.w
 low:gd.N≤c.w.heap.size
 own:∀ id s,id < c.n→c.σ id=some s→gd.N≤s.b∧s.b < c.w.heap.size

structure Nx (c c':Cx):Prop where
 le:c.Le c' some
 heap:∀ b,b < c.w.heap.size→(∀ id s,id < c.n→c.σ id=some s→s.b ≠ b)→c'.w.heap[b]?=c.w.heap[b]?
 imnew:∀ b,c'.Im b→c.Im b∨(∃ id s,id < c.n∧c.σ id=some s∧s.b=b)∨c.w.heap.size≤b
 signew:∀ id s,id < c'.n→c'.σ id=some s→(∃ id' s',id' < c.n∧c.σ id'=some s'∧s'.b=s.b)∨c.w.heap.size≤s.b
 n:c.n≤c'.n
 size:c.w.heap.size≤c'.w.heap.size
 os:c'.w.os=c.w.os
 tape:c'.w.tape=c.w.tape
 output:c'.w.output=c.w.output
theorem Nx.refl (c:Cx):Nx c c:=⟨⟨fun _ h=>h,fun _ _=>rfl,fun i j h e=>by cases e; exact ⟨h,rfl⟩⟩,fun _ _ _=>rfl,fun _ h=>.inl h,fun id s h e=>.inl ⟨id,s,h,e,rfl⟩,Nat.le_refl _,Nat.le_refl _,rfl,rfl,rfl⟩
theorem Nx.trans {a b c:Cx} (h:Nx a b) (k:Nx b c):Nx a c where
 le:=⟨fun x hx=>k.le.im x (h.le.im x hx),fun x hx=>(k.le.heap x (h.le.im x hx)).trans (h.le.heap x hx),fun i j hi e=>by
  cases e
  obtain ⟨h1,h2⟩:=h.le.ids i i hi rfl
  obtain ⟨k1,k2⟩:=k.le.ids i i h1 rfl
  exact ⟨k1,k2.trans h2⟩⟩
 heap:=fun x hx hn=>by
  rw [k.heap x (Nat.lt_of_lt_of_le hx h.size),h.heap x hx hn]
  intro id s hid hs e
  rcases h.signew id s hid hs with ⟨id',s',h1,h2,h3⟩ | h1
  ·exact hn id' s' h1 h2 (h3.trans e)
  ·omega
 imnew:=fun x hx=>by
  rcases k.imnew x hx with h1 | ⟨id,s,h1,h2,h3⟩ | h1
  ·exact h.imnew x h1
  ·rcases h.signew id s h1 h2 with ⟨id',s',g1,g2,g3⟩ | g1
   ·exact .inr (.inl ⟨id',s',g1,g2,g3.trans h3⟩)
   ·exact .inr (.inr (by omega))
  ·exact .inr (.inr (Nat.le_trans h.size h1))
 signew:=fun id s hid hs=>by
  rcases k.signew id s hid hs with ⟨id',s',g1,g2,g3⟩ | g1
  ·rcases h.signew id' s' g1 g2 with ⟨i2,s2,f1,f2,f3⟩ | f1
   ·exact .inl ⟨i2,s2,f1,f2,f3.trans g3⟩
   ·exact .inr (by omega)
  ·exact .inr (Nat.le_trans h.size g1)
 n:=Nat.le_trans h.n k.n
 size:=Nat.le_trans h.size k.size
 os:=k.os.trans h.os
 tape:=k.tape.trans h.tape
 output:=k.output.trans h.output

def HVL (c:Cx):List HV→List Value→Prop
 | [],vs=>vs=[]
 | h::hs,vs=>∃ v r,vs=v::r∧HVR c h v∧HVL c hs r

def Does (P:Program) (o:Oper) (ρ:Operand→Value) (w:World) (R:Value→World→Prop):Prop :=
 (∃ v w',(execOp ρ o).run P w=.ok (.value v) w'∧R v w') ∨
 (∃ w',(execOp ρ o).run P w=.ok .skip w'∧R undef w') ∨
 (∃ f args w',(execOp ρ o).run P w=.ok (.enter f args) w'∧Calls P f args w' fun e w''=>∃ v,e=.returned v∧R v w'')
theorem Does.wp {P:Program} {o:Oper} {a:Act} {w:World} {R:Value→World→Prop} {next:Act→World→Prop} {Q:Exit→Act→World→Prop}
  (h:Does P o a.eval w R) (hn:∀ v w',R v w'→next (a.put o.dst v) w'):o.wp P a w next Q:=by
 unfold Oper.wp
 rcases h with ⟨v,w',e,r⟩ | ⟨w',e,r⟩ | ⟨f,args,w',e,r⟩
 ·rw [e]; exact hn _ _ r
 ·rw [e]; exact hn _ _ r
 ·rw [e]; exact r.mono fun e w'' ⟨v,he,hr⟩=>by subst he; exact hn _ _ hr

def OpOK (gd : Gd) (P : Program) (o : Oper) (hs : List HV) (st : List Blk) (v : HV) (st' : List Blk) : Prop :=
  ∀ (c : Cx) (ρ : Operand → Value), SG gd c st → HVL c hs (o.op.operands.toList.map ρ) →
    Does P o ρ c.w fun val w' => ∃ c', c'.w = w' ∧ Nx c c' ∧ SG gd c' st' ∧ HVR c' v val

theorem OpOK.plain {gd:Gd} {P:Program} {o:Oper} {hs:List HV} {st:List Blk} {v:HV}
  (h:∀ (c:Cx) (ρ:Operand→Value),SG gd c st→HVL c hs (o.op.operands.toList.map ρ)→∃ val,(execOp ρ o).run P c.w=.ok (.value val) c.w∧HVR c v val) :
  OpOK gd P o hs st v st:=fun c ρ S hh =>
 let ⟨val,e,r⟩:=h c ρ S hh
 .inl ⟨val,c.w,e,c,rfl,.refl c,S,r⟩

theorem HVL.one {c:Cx} {h:HV} {v:Value}:HVL c [h] [v]↔HVR c h v:=by simp [HVL]
theorem HVL.cons {c:Cx} {h:HV} {hs:List HV} {vs:List Value} (hh:HVL c (h::hs) vs):∃ v r,vs=v::r∧HVR c h v∧HVL c hs r:=hh
theorem cells_of_notAg {v:Value} (h:isAg v=false):v.cells=#[v]:=by
 cases v <;> first | rfl | simp [isAg] at h
theorem HVR.eq {c:Cx} {h:HV} {v:Value} (hu:h ≠ .undef) (ht:∀ ps,h ≠ .tuple ps):HVR c h v↔(HC c h v.cells.toList∧isAg v=hagg h):=by
 cases h <;> first | rfl | exact absurd rfl hu | exact absurd rfl (ht _)
theorem HVR.cell {c:Cx} {h:HV} {v:Value} (hu:h ≠ .undef) (ht:∀ ps,h ≠ .tuple ps) (hg:hagg h=false):HVR c h v↔(HC c h [v]∧isAg v=false):=by
 rw [HVR.eq hu ht,hg]
 constructor <;> rintro ⟨h1,h2⟩ <;> refine ⟨?_,h2⟩ <;> simpa [cells_of_notAg h2] using h1
theorem HVR.int {c:Cx} {k:IntKind} {n:Int} {v:Value}:HVR c (.iv (.int k) n) v↔v=.int k n:=by
 rw [HVR.cell (by simp) (by simp) rfl]
 simp only [HC,cellsR,List.cons.injEq,and_true]
 exact ⟨fun h=>h.1,fun h=>by subst h; exact ⟨rfl,rfl⟩⟩
theorem HVR.bool {c:Cx} {b:Bool} {v:Value}:HVR c (.iv .bool b) v↔v=.bool b:=by
 rw [HVR.cell (by simp) (by simp) rfl]
 simp only [HC,cellsR,List.cons.injEq,and_true]
 exact ⟨fun h=>h.1,fun h=>by subst h; exact ⟨rfl,rfl⟩⟩
theorem HVR.str {c:Cx} {b:ByteArray} {v:Value}:HVR c (.iv .str b) v↔v=.string b:=by
 rw [HVR.cell (by simp) (by simp) rfl]
 simp only [HC,cellsR,List.cons.injEq,and_true]
 exact ⟨fun h=>h.1,fun h=>by subst h; exact ⟨rfl,rfl⟩⟩
theorem HVR.nil {c:Cx} {v:Value}:HVR c .nil v↔v=.slice none 0 0:=by
 rw [HVR.cell (by simp) (by simp) rfl]
 simp only [HC,List.cons.injEq,and_true]
 exact ⟨fun h=>h.1,fun h=>by subst h; exact ⟨rfl,rfl⟩⟩
theorem HVR.pair {c:Cx} {a b:Ty} {x:(Ty.pair a b).den} {v:Value} (h:HVR c (.iv (.pair a b) x) v):∃ cs,v=.agg cs∧cellsR c.w c.Im (.pair a b) x cs.toList:=by
 simp only [HVR,hagg,Ty.agg] at h
 cases v <;> simp [isAg] at h
 rename_i cs
 exact ⟨cs,rfl,by simpa only [HC,Value.cells] using h⟩
theorem HVR.sl {c:Cx} {t:Ty} {xs:List t.den} {v:Value} (h:HVR c (.iv (.sl t) xs) v):∃ p cap,v=.slice p (List.length xs) cap∧(List.length xs≤cap∧(p=none→cap=0)) ∧
   (xs=[]∨∃ b off cur e fr,p=some ⟨b,off,none⟩∧c.Im b∧c.w.heap[b]?=some (.cells cur e fr) ∧
    off + List.length xs * t.size≤cur.size∧RowR (cellsR c.w c.Im t) xs ((cur.toList.drop off).take (List.length xs * t.size))):=by
 rw [HVR.cell (by simp) (by simp) rfl] at h
 obtain ⟨h,_⟩:=h
 simp only [HC,cellsR,List.cons.injEq,and_true] at h
 exact h
theorem HVR.mkIv {c:Cx} {t:Ty} {x:t.den} {v:Value} (h:cellsR c.w c.Im t x v.cells.toList) (hg:isAg v=t.agg):HVR c (.iv t x) v:=⟨by simpa only [HC] using h,by simpa only [hagg] using hg⟩

section ops
variable {gd:Gd} {P:Program} {α:Type} {r:α}

theorem binI_ok {op:BinOp} {k:IntKind} {x y:Int} {K:HV→Option α} (h:binI op k x y K=some r) (hs:op ≠ .shl∧op ≠ .shr) :
  ∃ h',K h'=some r∧∀ (c:Cx) (T:Nat),∃ v,(binOp op T (.int k x) (.int k y)).run P c.w=.ok v c.w∧HVR c h' v:=by
 cases op <;> simp only [binI] at h
 case shl=>simp at hs
 case shr=>simp at hs
 case quo =>
  split at h
  ·simp at h
  ·rename_i hy
   have hy:y ≠ 0:=by simpa using hy
   exact ⟨_,h,fun c T=>⟨.int k (k.wrap (x.tdiv y)),by simp [binOp,Op.intDiv,hy],HVR.int.2 rfl⟩⟩
 case rem =>
  split at h
  ·simp at h
  ·rename_i hy
   have hy:y ≠ 0:=by simpa using hy
   exact ⟨_,h,fun c T=>⟨.int k (x.tmod y),by simp [binOp,Op.intDiv,hy],HVR.int.2 rfl⟩⟩
 case add=>exact ⟨_,h,fun c T=>⟨.int k (k.wrap (x + y)),by simp [binOp,Op.intArith],HVR.int.2 rfl⟩⟩
 case sub=>exact ⟨_,h,fun c T=>⟨.int k (k.wrap (x - y)),by simp [binOp,Op.intArith],HVR.int.2 rfl⟩⟩
 case mul=>exact ⟨_,h,fun c T=>⟨.int k (k.wrap (x * y)),by simp [binOp,Op.intArith],HVR.int.2 rfl⟩⟩
 case and=>exact ⟨_,h,fun c T=>⟨.int k (bitI .and k x y),by simp only [binOp,ne_eq,not_true_eq_false,if_false,Op.intBits]; rfl,HVR.int.2 rfl⟩⟩
 case or=>exact ⟨_,h,fun c T=>⟨.int k (bitI .or k x y),by simp only [binOp,ne_eq,not_true_eq_false,if_false,Op.intBits]; rfl,HVR.int.2 rfl⟩⟩
 case xor=>exact ⟨_,h,fun c T=>⟨.int k (bitI .xor k x y),by simp only [binOp,ne_eq,not_true_eq_false,if_false,Op.intBits]; rfl,HVR.int.2 rfl⟩⟩
 case andNot=>exact ⟨_,h,fun c T=>⟨.int k (bitI .andNot k x y),by simp only [binOp,ne_eq,not_true_eq_false,if_false,Op.intBits]; rfl,HVR.int.2 rfl⟩⟩
 case eql=>exact ⟨_,h,fun c T=>⟨.bool (decide (x=y)),by simp only [binOp,ne_eq,not_true_eq_false,if_false,Op.intCmp]; rfl,HVR.bool.2 rfl⟩⟩
 case neq=>exact ⟨_,h,fun c T=>⟨.bool (!decide (x=y)),by simp only [binOp,ne_eq,not_true_eq_false,if_false,Op.intCmp]; rfl,HVR.bool.2 rfl⟩⟩
 case lss=>exact ⟨_,h,fun c T=>⟨.bool (decide (x < y)),by simp only [binOp,ne_eq,not_true_eq_false,if_false,Op.intCmp]; rfl,HVR.bool.2 rfl⟩⟩
 case leq=>exact ⟨_,h,fun c T=>⟨.bool (decide (x≤y)),by simp only [binOp,ne_eq,not_true_eq_false,if_false,Op.intCmp]; rfl,HVR.bool.2 rfl⟩⟩
 case gtr=>exact ⟨_,h,fun c T=>⟨.bool (decide (y < x)),by simp only [binOp,ne_eq,not_true_eq_false,if_false,Op.intCmp]; rfl,HVR.bool.2 rfl⟩⟩
 case geq=>exact ⟨_,h,fun c T=>⟨.bool (decide (y≤x)),by simp only [binOp,ne_eq,not_true_eq_false,if_false,Op.intCmp]; rfl,HVR.bool.2 rfl⟩⟩
theorem binS_ok {op:BinOp} {x y:ByteArray} {K:HV→Option α} (h:binS op x y K=some r) :
  ∃ h',K h'=some r∧∀ (c:Cx) (T:Nat),∃ v,(binOp op T (.string x) (.string y)).run P c.w=.ok v c.w∧HVR c h' v:=by
 cases op <;> simp only [binS] at h <;> try (simp at h; done)
 case add =>
  split at h
  ·rename_i hl
   have hl:¬ ((x.size + y.size:Nat):Int) > IntKind.i64.max:=by
    have:x.size + y.size≤9223372036854775807:=by simpa using hl
    simp only [IntKind.max,IntKind.signed,IntKind.bits]; omega
   exact ⟨_,h,fun c T=>⟨.string (x++y),by simp only [binOp,Op.stringOp,hl,if_false]; rfl,HVR.str.2 rfl⟩⟩
  ·simp at h
 all_goals exact ⟨_,h,fun c T=>⟨_,by simp only [binOp,Op.stringOp]; rfl,HVR.bool.2 rfl⟩⟩
theorem eqGuard_plain {op:BinOp} {T:Nat} {x y:Operand} {a b:Value} (w:World) (ha:isAg a=false∨isAg b=false) (hn:a ≠ .nilIface∨b ≠ .nilIface) :
  (eqGuard op T x y a b).run P w=.ok () w:=by
 cases op <;> first | rfl | (cases a <;> cases b <;> first | rfl | (simp [isAg] at ha; done) | (simp at hn; done))
theorem eqGuard_agg {op:BinOp} {T:Nat} {x y:Operand} {a b:Array Value} (w:World) (he:P.eqGuardType P.depth T=false) :
  (eqGuard op T x y (.agg a) (.agg b)).run P w=.ok () w:=by
 cases op <;> first | rfl | simp [eqGuard,he]
theorem equal_bool {T:Nat} (w:World) (h:P.underlying T=some .bool) (x y:Bool):(Op.equal T (.bool x) (.bool y)).run P w=.ok (x == y) w:=by
 unfold Op.equal Op.maxDepth
 rw [Op.equalIn]
 simp [run_underlying h]
theorem equal_nil {T e:Nat} (w:World) (h:P.underlying T=some (.slice e)):(Op.equal T (.slice none 0 0) (.slice none 0 0)).run P w=.ok true w:=by
 unfold Op.equal Op.maxDepth
 rw [Op.equalIn]
 simp [run_underlying h]
theorem equal_nn {T e:Nat} (w:World) (h:P.underlying T=some (.slice e)) (a:Addr) (n cap:Nat):(Op.equal T (.slice (some a) n cap) (.slice none 0 0)).run P w=.ok false w:=by
 unfold Op.equal Op.maxDepth
 rw [Op.equalIn]
 simp [run_underlying h]
theorem equal_nilI {T:Nat} {ms:Array (String×TypeId)} (w:World) (h:P.underlying T=some (.interface ms)):(Op.equal T .nilIface .nilIface).run P w=.ok true w:=by
 unfold Op.equal Op.maxDepth
 rw [Op.equalIn]
 simp [run_underlying h]
theorem equal_ifn {T:Nat} {ms:Array (String×TypeId)} (w:World) (h:P.underlying T=some (.interface ms)) (t:TypeId) (v:Value):(Op.equal T (.iface t v) .nilIface).run P w=.ok false w:=by
 unfold Op.equal Op.maxDepth
 rw [Op.equalIn]
 simp [run_underlying h]
theorem eqGuard_nilc {op:BinOp} {T:Nat} {x:Operand} (w:World):(eqGuard op T x (.const .nilIface) .nilIface .nilIface).run P w=.ok () w:=by
 cases op <;> first | rfl | simp [eqGuard]
theorem castTo_eq {t t':Ty} {x:t.den} {y:t'.den} (h:castTo t t' x=some y):∃ e:t=t',e ▸ x=y:=by
 unfold castTo at h
 split at h
 ·rename_i e; exact ⟨e,by simpa using h⟩
 ·simp at h
theorem binV_ok {E : Env} (hE : EnvOK P E) {op : BinOp} {T : Nat} {yo : Operand} {a b : HV} {K : HV → Option α} (h : binV E op T (isNilC yo) a b K = some r) :
    ∃ h', K h' = some r ∧ ∀ (c : Cx) (x : Operand) (va vb : Value), HVR c a va → HVR c b vb →
      ∃ v, (do eqGuard op T x yo va vb; binOp op T va vb : Sem Value).run P c.w = .ok v c.w ∧ HVR c h' v := by
  unfold binV at h
  split at h
  · rename_i k x k' y
    have pl : ∀ (w : World) (p q : Operand), (eqGuard op T p q (.int k x) (.int k' y)).run P w = .ok () w := fun w p q => eqGuard_plain w (.inl rfl) (.inl (by simp))
    split at h
    · split at h
      · simp at h
      · rename_i hy
        have hy : ¬ (y : Int) < 0 := by simpa using hy
        refine ⟨_, h, fun c p va vb ha hb => ?_⟩
        rw [HVR.int] at ha hb; subst ha; subst hb
        exact ⟨.int k (shlI k x y), by simp only [Sem.run_bind, pl, Result.andThen_ok, binOp, Op.shift, hy, if_false]; rfl, HVR.int.2 rfl⟩
    · split at h
      · simp at h
      · rename_i hy
        have hy : ¬ (y : Int) < 0 := by simpa using hy
        refine ⟨_, h, fun c p va vb ha hb => ?_⟩
        rw [HVR.int] at ha hb; subst ha; subst hb
        exact ⟨.int k (shrI k x y), by simp only [Sem.run_bind, pl, Result.andThen_ok, binOp, Op.shift, hy, if_false]; rfl, HVR.int.2 rfl⟩
    · rename_i n1 n2
      split at h
      · rename_i ek; subst ek
        obtain ⟨h', e1, e2⟩ := binI_ok (P := P) h ⟨n1, n2⟩
        refine ⟨h', e1, fun c p va vb ha hb => ?_⟩
        rw [HVR.int] at ha hb; subst ha; subst hb
        obtain ⟨v, e3, e4⟩ := e2 c T
        exact ⟨v, by simp only [Sem.run_bind, pl, Result.andThen_ok, e3], e4⟩
      · simp at h
  · rename_i x y
    obtain ⟨h', e1, e2⟩ := binS_ok (P := P) h
    refine ⟨h', e1, fun c p va vb ha hb => ?_⟩
    rw [HVR.str] at ha hb; subst ha; subst hb
    obtain ⟨v, e3, e4⟩ := e2 c T
    exact ⟨v, by simp only [Sem.run_bind, eqGuard_plain (P := P) (T := T) c.w (.inl (rfl : isAg (.string x) = false)) (.inl (by simp)), Result.andThen_ok, e3], e4⟩
  · rename_i x y
    split at h
    · rename_i hT
      refine ⟨_, h, fun c p va vb ha hb => ?_⟩
      rw [HVR.bool] at ha hb; subst ha; subst hb
      have hu : P.underlying T = some .bool := (hE.ty T _ hT).1
      exact ⟨.bool (x == y), by simp [eqGuard_plain (P := P) (T := T) c.w (.inl (rfl : isAg (.bool x) = false)) (.inl (by simp)), binOp, equal_bool c.w hu], HVR.bool.2 rfl⟩
    · rename_i hT
      refine ⟨_, h, fun c p va vb ha hb => ?_⟩
      rw [HVR.bool] at ha hb; subst ha; subst hb
      have hu : P.underlying T = some .bool := (hE.ty T _ hT).1
      exact ⟨.bool (!(x == y)), by simp [eqGuard_plain (P := P) (T := T) c.w (.inl (rfl : isAg (.bool x) = false)) (.inl (by simp)), binOp, equal_bool c.w hu], HVR.bool.2 rfl⟩
    · simp at h
  · rename_i p q x t' y
    split at h
    · rename_i t y' ht hy
      split at h
      · rename_i et
        split at h
        · rename_i z hz
          obtain ⟨e, hy⟩ := castTo_eq hy
          subst e
          simp only at hy; subst hy; subst et
          obtain ⟨hg, heq⟩ := hE.eqs T _ ht
          split at h
          · refine ⟨_, h, fun c p va vb ha hb => ?_⟩
            obtain ⟨ca, rfl, ha'⟩ := ha.pair
            obtain ⟨cb, rfl, hb'⟩ := hb.pair
            exact ⟨.bool z, by simp [eqGuard_agg c.w hg, binOp, heq c.w c.Im _ _ ca cb z ha' hb' hz], HVR.bool.2 rfl⟩
          · refine ⟨_, h, fun c p va vb ha hb => ?_⟩
            obtain ⟨ca, rfl, ha'⟩ := ha.pair
            obtain ⟨cb, rfl, hb'⟩ := hb.pair
            exact ⟨.bool (!z), by simp [eqGuard_agg c.w hg, binOp, heq c.w c.Im _ _ ca cb z ha' hb' hz], HVR.bool.2 rfl⟩
          · simp at h
        · simp at h
      · simp at h
    · simp at h
  · rename_i t xs
    have nn : ∀ (c : Cx) (v : Value), HVR c (.nn t xs) v → ∃ a n cap, v = .slice (some a) n cap := by
      intro c v hv
      rw [HVR.cell (by simp) (by simp) rfl] at hv
      simp only [HC, cellsR, List.cons.injEq, and_true] at hv
      obtain ⟨⟨⟨p, cap, e, _⟩, hn⟩, _⟩ := hv
      cases p with
      | none => exact absurd (by rw [e]) (hn _ _)
      | some a => exact ⟨a, _, _, e⟩
    split at h
    · rename_i et hT
      refine ⟨_, h, fun c p va vb ha hb => ?_⟩
      obtain ⟨a, n, cap, rfl⟩ := nn c _ ha
      rw [HVR.nil] at hb; subst hb
      exact ⟨.bool false, by simp [eqGuard_plain (P := P) (T := T) c.w (.inl (rfl : isAg (.slice (some a) n cap) = false)) (.inl (by simp)), binOp, equal_nn c.w (hE.sl T _ _ hT).1], HVR.bool.2 rfl⟩
    · rename_i et hT
      refine ⟨_, h, fun c p va vb ha hb => ?_⟩
      obtain ⟨a, n, cap, rfl⟩ := nn c _ ha
      rw [HVR.nil] at hb; subst hb
      exact ⟨.bool true, by simp [eqGuard_plain (P := P) (T := T) c.w (.inl (rfl : isAg (.slice (some a) n cap) = false)) (.inl (by simp)), binOp, equal_nn c.w (hE.sl T _ _ hT).1], HVR.bool.2 rfl⟩
    · simp at h
  · split at h
    · rename_i et hT
      refine ⟨_, h, fun c p va vb ha hb => ?_⟩
      rw [HVR.nil] at ha hb; subst ha; subst hb
      exact ⟨.bool true, by simp [eqGuard_plain (P := P) (T := T) c.w (.inl (rfl : isAg (.slice none 0 0) = false)) (.inl (by simp)), binOp, equal_nil c.w (hE.sl T _ _ hT).1], HVR.bool.2 rfl⟩
    · rename_i et hT
      refine ⟨_, h, fun c p va vb ha hb => ?_⟩
      rw [HVR.nil] at ha hb; subst ha; subst hb
      exact ⟨.bool false, by simp [eqGuard_plain (P := P) (T := T) c.w (.inl (rfl : isAg (.slice none 0 0) = false)) (.inl (by simp)), binOp, equal_nil c.w (hE.sl T _ _ hT).1], HVR.bool.2 rfl⟩
    · simp at h
  · rename_i e
    have hn : ∀ (c : Cx) (v : Value), HVR c (.er false) v → v = .nilIface := by
      intro c v hv
      rw [HVR.cell (by simp) (by simp) rfl] at hv
      simpa [HC] using hv.1
    have hs : ∀ (c : Cx) (v : Value), HVR c (.er true) v → ∃ t p, v = .iface t p := by
      intro c v hv
      rw [HVR.cell (by simp) (by simp) rfl] at hv
      simpa [HC] using hv.1
    have hcst : isNilC yo = true → yo = .const .nilIface := by
      intro hy
      unfold isNilC at hy
      split at hy
      · rfl
      · simp at hy
    split at h
    · rename_i g1 g2
      obtain ⟨ms, hu⟩ := hE.ifs T g2
      obtain rfl := hcst g1
      refine ⟨_, h, fun c p va vb ha hb => ?_⟩
      obtain rfl := hn c _ hb
      cases e with
      | false =>
        obtain rfl := hn c _ ha
        exact ⟨.bool true, by simp [eqGuard_nilc, binOp, equal_nilI c.w hu], HVR.bool.2 rfl⟩
      | true =>
        obtain ⟨t, q, rfl⟩ := hs c _ ha
        exact ⟨.bool false, by simp [eqGuard_plain (P := P) (T := T) c.w (.inl (rfl : isAg (.iface t q) = false)) (.inl (by simp)), binOp, equal_ifn c.w hu], HVR.bool.2 rfl⟩
    · rename_i g1 g2
      obtain ⟨ms, hu⟩ := hE.ifs T g2
      obtain rfl := hcst g1
      refine ⟨_, h, fun c p va vb ha hb => ?_⟩
      obtain rfl := hn c _ hb
      cases e with
      | false =>
        obtain rfl := hn c _ ha
        exact ⟨.bool false, by simp [eqGuard_nilc, binOp, equal_nilI c.w hu], HVR.bool.2 rfl⟩
      | true =>
        obtain ⟨t, q, rfl⟩ := hs c _ ha
        exact ⟨.bool true, by simp [eqGuard_plain (P := P) (T := T) c.w (.inl (rfl : isAg (.iface t q) = false)) (.inl (by simp)), binOp, equal_ifn c.w hu], HVR.bool.2 rfl⟩
    · simp at h
  · simp at h
end ops
end Go.Proofs.YtnhbcpmmdblkjaaDoorAm

namespace Go.Proofs.YtnhbcpmmdblkjaaDoorAm
open Go

section ops
variable {gd:Gd} {P:Program} {E:Env} {α:Type} {r:α}

theorem unV_ok {op:UnOp} {a:HV} {K:HV→Option α} (h:unV op a K=some r) :
  ∃ h',K h'=some r∧∀ (c:Cx) (va:Value),HVR c a va→∃ v,(Op.unary op va).run P c.w=.ok v c.w∧HVR c h' v:=by
 unfold unV at h
 split at h
 ·rename_i k x
  refine ⟨_,h,fun c va ha=>?_⟩
  rw [HVR.int] at ha; subst ha
  exact ⟨.int k (k.wrap (0 - x)),by simp [Op.unary,Op.intArith],HVR.int.2 rfl⟩
 ·rename_i k x
  refine ⟨_,h,fun c va ha=>?_⟩
  rw [HVR.int] at ha; subst ha
  exact ⟨.int k (bitI .xor k (if k.signed then -1 else k.max) x),by simp only [Op.unary,Op.intBits]; rfl,HVR.int.2 rfl⟩
 ·rename_i b
  refine ⟨_,h,fun c va ha=>?_⟩
  rw [HVR.bool] at ha; subst ha
  exact ⟨.bool (!b),by simp [Op.unary],HVR.bool.2 rfl⟩
 ·simp at h

theorem add_lit (b off n:Nat):(⟨b,off,none⟩:Addr).add n=⟨b,off + n,none⟩:=by
 unfold Addr.add; split <;> simp_all
theorem hsz_plain {h:HV} (hg:hagg h=false):hsz h≤1:=by
 cases h <;> simp only [hsz] <;> try omega
 case iv t x=>cases t <;> simp [hagg,Ty.agg] at hg <;> simp [Ty.size]
 case agg=>simp [hagg] at hg
theorem loadVar_ok {c : Cx} {h : HV} {T n : Nat} {g : Bool} (hE : EnvOK P E) (hl : lk E.lay T = some (n, g)) (b off : Nat) (cur : Array Value) (e : Nat) (fr : Nat × Nat)
    (hb : c.w.heap[b]? = some (.cells cur e fr)) (hfit : off + n ≤ cur.size) (hh : HC c h ((cur.toList.drop off).take n)) (hn : hsz h = n) (hg : hagg h = g) :
    ∃ v, (loadVar T ⟨b, off, none⟩).run P c.w = .ok v c.w ∧ HVR c h v := by
  obtain ⟨hpos, ⟨i, hi, hin⟩, d, hd, hdg⟩ := hE.lay T n g hl
  have hcell : ∀ j, c.w.cell? ⟨b, off + j, none⟩ = cur[off + j]? := fun j => by simp [World.cell?, hb]
  have hszT : (sizeOf T).run P c.w = .ok n c.w := by simp [sizeOf, typeInfo, hi, hin]
  have hu : h ≠ .undef := by rintro rfl; simp [hsz] at hn; omega
  have ht : ∀ ps, h ≠ .tuple ps := by rintro ps rfl; simp [hsz] at hn; omega
  have hlen : ((cur.toList.drop off).take n).length = n := by simp; omega
  cases g with
  | true =>
    have hag : (isAgg T).run P c.w = .ok true c.w := by
      unfold isAgg
      cases d <;> simp at hdg <;> simp [run_underlying hd]
    have hld : (loadCells ⟨b, off, none⟩ n).run P c.w = .ok ((cur.toList.drop off).take n).toArray c.w := by
      have := run_loadCells_list (P := P) c.w ⟨b, off, none⟩ ((cur.toList.drop off).take n) (by
        intro j v hj
        rw [List.getElem?_take] at hj
        split at hj
        · rename_i hjn
          rw [add_lit, hcell j]
          simpa using hj
        · simp at hj)
      rwa [hlen] at this
    refine ⟨.agg ((cur.toList.drop off).take n).toArray, by simp [loadVar, hag, hszT, hld], ?_⟩
    rw [HVR.eq hu ht]
    exact ⟨by simpa [Value.cells] using hh, by rw [hg]; rfl⟩
  | false =>
    have hn1 : n = 1 := by have := hsz_plain hg; omega
    subst hn1
    have hag : (isAgg T).run P c.w = .ok false c.w := by
      unfold isAgg
      cases d <;> simp at hdg <;> simp [run_underlying hd]
    have hlt : off < cur.size := by omega
    have hseg : (cur.toList.drop off).take 1 = [cur[off]] := by
      rw [List.drop_eq_getElem_cons (by simpa using hlt)]; simp
    rw [hseg] at hh
    have hone := hh.oneEach (by simp [hn]) cur[off] (by simp)
    refine ⟨cur[off], ?_, ?_⟩
    · have := hcell 0
      simp only [Nat.add_zero] at this
      simp [loadVar, hag, this, hlt]
    · rw [HVR.cell hu ht hg]
      exact ⟨hh, by cases hc : cur[off] <;> rw [hc] at hone <;> first | rfl | simp [Value.oneCell'] at hone⟩
theorem seg_of_take {β:Type} (l:List β) (a b k n:Nat) (h:b + n≤k):(((l.take a).drop b).take n)=((l.drop b).take n).take (a - b):=by
 rw [List.drop_take,List.take_take,List.take_take,Nat.min_comm]
theorem elem_seg {c:Cx} {t:Ty} {xs:List t.den} {cur:Array Value} {i n:Nat} {x:t.den} (hr:RowR (cellsR c.w c.Im t) xs (cur.toList.take (xs.length * t.size))) (hi:xs[i]?=some x) :
  cellsR c.w c.Im t x ((cur.toList.drop (i * t.size)).take t.size)∧i * t.size + t.size≤xs.length * t.size:=by
 have hlt:i < xs.length:=(List.getElem?_eq_some_iff.1 hi).1
 have h2:i * t.size + t.size≤xs.length * t.size:=by
  rw [← Nat.succ_mul]; exact Nat.mul_le_mul_right _ hlt
 have:=hr.get (fun _ _ h=>h.length) hi
 rw [List.drop_take,List.take_take,Nat.min_eq_left (by omega)] at this
 exact ⟨this,h2⟩
theorem loadV_ok (hE:EnvOK P E) {T:Nat} {a:HV} {st:List Blk} {K:HV→Option α} (h:loadV E T a st K=some r) :
  ∃ h',K h'=some r∧∀ (c:Cx) (va:Value),SG gd c st→HVR c a va→∃ v,(Instr.loadAt T va).run P c.w=.ok v c.w∧HVR c h' v:=by
 have fit:∀ (h':HV),(match lk E.lay T with
   | some (n,g)=>if hsz h'=n∧hagg h'=g then K h' else none
   | none=>none)=some r→K h'=some r∧∃ n g,lk E.lay T=some (n,g)∧hsz h'=n∧hagg h'=g:=by
  intro h' hh
  split at hh
  ·rename_i n g hl
   split at hh
   ·rename_i hc; exact ⟨hh,n,g,hl,hc.1,hc.2⟩
   ·simp at hh
  ·simp at hh
 unfold loadV at h
 simp only at h
 split at h
 ·rename_i t x
  obtain ⟨hk,n,g,hl,hn,hg⟩:=fit _ h
  refine ⟨_,hk,fun c va S ha=>?_⟩
  rw [HVR.cell (by simp) (by simp) rfl] at ha
  obtain ⟨⟨b,off,cur,e,fr,h1,h2,h3,h4,h5⟩,_⟩:=by simpa only [HC] using ha
  simp only [List.cons.injEq,and_true] at h5; subst h5
  simp only [hsz] at hn; subst hn
  obtain ⟨v,e1,e2⟩:=loadVar_ok hE hl b off cur e fr h2 h3 (by simpa only [HC] using h4) rfl hg
  exact ⟨v,by simpa [Instr.loadAt,Instr.sureAddr] using e1,e2⟩
 ·rename_i id path off
  split at h
  ·rename_i e cont z hb
   split at h
   ·rename_i h' o hgp hop
    split at h
    ·rename_i ho; subst ho
     obtain ⟨hk,n,g,hl,hn,hg⟩:=fit _ h
     refine ⟨_,hk,fun c va S ha=>?_⟩
     rw [HVR.cell (by simp) (by simp) rfl] at ha
     obtain ⟨⟨_,s,hs,h5⟩,_⟩:=by simpa only [HC] using ha
     simp only [List.cons.injEq,and_true] at h5; subst h5
     obtain ⟨s',cur,hs',hcur,_,_,hc,hsize⟩:=by simpa only [BlkR] using S.blk id _ hb
     rw [hs] at hs'; cases hs'
     have hle:cur.toList.length=hsz cont:=by simpa using hsize
     obtain ⟨g1,g2⟩:=getP_ok hc hle hgp hop
     obtain ⟨v,e1,e2⟩:=loadVar_ok hE hl s.b o cur e (0,0) hcur (by omega) (by rw [← hn]; exact g2) hn hg
     exact ⟨v,by simpa [Instr.loadAt,Instr.sureAddr] using e1,e2⟩
    ·simp at h
   ·simp at h
  ·simp at h
 ·rename_i id i path off
  split at h
  ·rename_i e t xs z hb
   split at h
   ·rename_i x hx
    split at h
    ·rename_i h' o hgp hop
     split at h
     ·rename_i ho; subst ho
      obtain ⟨hk,n,g,hl,hn,hg⟩:=fit _ h
      refine ⟨_,hk,fun c va S ha=>?_⟩
      rw [HVR.cell (by simp) (by simp) rfl] at ha
      obtain ⟨⟨_,s,hs,_,h5⟩,_⟩:=by simpa only [HC] using ha
      simp only [List.cons.injEq,and_true] at h5; subst h5
      obtain ⟨a1,a2,a3,a4,cur,a5,a6,a7⟩:=arr_rows S.toSR hb hs
      obtain ⟨b1,b2⟩:=elem_seg (n:=0) a7 hx
      obtain ⟨t',x',rfl,d1,d2⟩:=ivGet_ok b1 hgp hop
      simp only [hsz] at hn; subst hn
      have hcap:xs.length * t.size≤cur.size:=Nat.le_trans (Nat.mul_le_mul_right _ (by omega)) a6
      rw [List.drop_take,List.take_take,List.drop_drop,Nat.min_eq_left (by omega),← a2] at d2
      obtain ⟨v,e1,e2⟩:=loadVar_ok hE hl s.b (i * s.sz + o) cur e (0,0) a5 (by rw [a2]; omega) (by simpa only [HC] using d2) rfl hg
      exact ⟨v,by simpa [Instr.loadAt,Instr.sureAddr] using e1,e2⟩
     ·simp at h
    ·simp at h
   ·simp at h
  ·simp at h
 ·simp at h
end ops
end Go.Proofs.YtnhbcpmmdblkjaaDoorAm

namespace Go.Proofs.YtnhbcpmmdblkjaaDoorAm
open Go

theorem mapIdB_some (x:Blk):mapIdB some x=some x:=by
 cases x <;> simp [mapIdB,mapId_some]
theorem BlkR.mono {c c' : Cx} {f : Nat → Option Nat} (L : c.Le c' f) {i j : Nat} {x x' : Blk} (hx : mapIdB f x = some x') (hσ : c'.σ j = c.σ i)
    (hheap : ∀ s, c.σ i = some s → c'.w.heap[s.b]? = c.w.heap[s.b]?) (him : ∀ s, c.σ i = some s → (c'.Im s.b ↔ c.Im s.b)) (h : BlkR c i x) : BlkR c' j x' := by
  cases x with
  | arr e t xs z =>
    simp only [mapIdB, Option.some.injEq] at hx; subst hx
    simp only [BlkR, hσ] at h ⊢
    split at h
    · exact h
    · rename_i s hs
      obtain ⟨a1, a2, a3, a4, a5, a6, cur, a7, a8, a9, a10⟩ := h
      exact ⟨a1, a2, a3, a4, fun hz => (him s hs).2 (a5 hz), fun hz hi => a6 hz ((him s hs).1 hi), cur, (hheap s hs).trans a7, a8, a9.mono fun _ _ h => h.mono L.im L.heap, a10⟩
  | box e h' z =>
    simp only [mapIdB, Option.map_eq_some_iff] at hx
    obtain ⟨h2, e2, rfl⟩ := hx
    simp only [BlkR, hσ] at h ⊢
    obtain ⟨s, cur, hs, a1, a2, a3, a4, a5⟩ := h
    exact ⟨s, cur, hs, (hheap s hs).trans a1, fun hz => (him s hs).2 (a2 hz), fun hz hi => a3 hz ((him s hs).1 hi), a4.mono L e2, by rw [a5, hsz_mapId f e2]⟩
  | gone => simp only [mapIdB, Option.some.injEq] at hx; subst hx; trivial

def Cx.more (c:Cx) (w':World) (pl:List (Option Pl)):Cx :=
 ⟨w',c.Im,fun i=>if i < c.n then c.σ i else (pl[i - c.n]?).join,c.n + pl.length⟩

theorem SG.grow {gd:Gd} {c:Cx} {st:List Blk} (S:SG gd c st) {w':World} (Ch:Nat→Prop) (hold:∀ b,b < c.w.heap.size→¬ Ch b→w'.heap[b]?=c.w.heap[b]?)
  (hsize:c.w.heap.size≤w'.heap.size) (hos:w'.os=c.w.os) (htape:w'.tape=c.w.tape) (hout:w'.output=c.w.output)
  (hch:∀ b,Ch b→¬ c.Im b∧(∃ id s,id < c.n∧c.σ id=some s∧s.b=b)∧∀ id x s,st[id]?=some x→x ≠ .gone→c.σ id=some s→s.b ≠ b)
  (pl:List (Option Pl)) (bs:List Blk) (hlen:pl.length=bs.length)
  (hnew:∀ (k:Nat) s,pl[k]?=some (some s)→(Ch s.b∨c.w.heap.size≤s.b)∧s.b < w'.heap.size)
  (hinj:∀ (i j:Nat) s s',i ≠ j→pl[i]?=some (some s)→pl[j]?=some (some s')→s.b ≠ s'.b)
  (hblk:Nx c (c.more w' pl)→∀ (k:Nat) x,bs[k]?=some x→BlkR (c.more w' pl) (c.n + k) x) :
  Nx c (c.more w' pl)∧SG gd (c.more w' pl) (st++bs):=by
 have σold:∀ i,i < c.n→(c.more w' pl).σ i=c.σ i:=fun i hi=>by simp [Cx.more,hi]
 have σnew:∀ i,c.n≤i→(c.more w' pl).σ i=(pl[i - c.n]?).join:=fun i hi=>by simp [Cx.more,Nat.not_lt.2 hi]
 have σnew':∀ i s,c.n≤i→(c.more w' pl).σ i=some s→pl[i - c.n]?=some (some s):=by
  intro i s hi h
  rw [σnew i hi] at h
  cases hp:pl[i - c.n]? with
  | none=>simp [hp] at h
  | some o=>simp [hp] at h; rw [h]
 have him:∀ b,c.Im b→w'.heap[b]?=c.w.heap[b]?:=fun b hb=>hold b (S.im b hb) fun h=>(hch b h).1 hb
 have chown:∀ b,Ch b→gd.N≤b∧b < c.w.heap.size:=fun b hb=>by
  obtain ⟨_,⟨id,s,h1,h2,h3⟩,_⟩:=hch b hb
  subst h3; exact S.own id s h1 h2
 have nx:Nx c (c.more w' pl):={
  le:=⟨fun b h=>h,him,fun i j hi e=>by cases e; exact ⟨by simp [Cx.more]; omega,σold i hi⟩⟩
  heap:=fun b hb hn=>hold b hb fun h=>by
   obtain ⟨_,⟨id,s,h1,h2,h3⟩,_⟩:=hch b h
   exact hn id s h1 h2 h3
  imnew:=fun b h=>.inl h
  signew:=fun id s hid hs=>by
   by_cases hi:id < c.n
   ·rw [σold id hi] at hs; exact .inl ⟨id,s,hi,hs,rfl⟩
   ·rcases (hnew _ s (σnew' id s (by omega) hs)).1 with h | h
    ·obtain ⟨_,⟨i2,s2,h1,h2,h3⟩,_⟩:=hch _ h
     exact .inl ⟨i2,s2,h1,h2,h3⟩
    ·exact .inr h
  n:=by simp [Cx.more]
  size:=hsize
  os:=hos
  tape:=htape
  output:=hout }
 refine ⟨nx,?_⟩
 have hstl:st.length=c.n:=S.len
 exact {
  len:=by simp [Cx.more,S.len,hlen]
  im:=fun b h=>Nat.lt_of_lt_of_le (S.im b h) hsize
  blk:=fun id x hx=>by
   by_cases hi:id < c.n
   ·rw [List.getElem?_append_left (by omega)] at hx
    by_cases hg:x=.gone
    ·subst hg; trivial
    ·refine (S.blk id x hx).mono nx.le (mapIdB_some x) (σold id hi) (fun s hs=>hold _ (S.own id s hi hs).2 fun h=>(hch _ h).2.2 id x s hx hg hs rfl) fun s hs=>Iff.rfl
   ·rw [List.getElem?_append_right (by omega)] at hx
    have:=hblk nx (id - st.length) x hx
    rwa [show c.n + (id - st.length)=id by omega] at this
  inj:=fun i j x y s s' hne hx hy lx ly hs hs'=>by
   have own:∀ id x s,st[id]?=some x→x.live=true→id < c.n→c.σ id=some s→¬ Ch s.b∧s.b < c.w.heap.size:=fun id x s hx hl hid hs =>
    ⟨fun h=>(hch _ h).2.2 id x s hx (by rintro rfl; simp [Blk.live] at hl) hs rfl,(S.own id s hid hs).2⟩
   by_cases hi:i < c.n <;> by_cases hj:j < c.n
   ·rw [List.getElem?_append_left (by omega)] at hx hy
    rw [σold _ hi] at hs; rw [σold _ hj] at hs'
    exact S.inj i j x y s s' hne hx hy lx ly hs hs'
   ·rw [List.getElem?_append_left (by omega)] at hx
    rw [σold _ hi] at hs
    obtain ⟨h1,h2⟩:=own i x s hx lx hi hs
    have:=(hnew _ _ (σnew' j s' (by omega) hs')).1
    rintro e; rw [e] at h1 h2
    rcases this with h | h
    ·exact h1 h
    ·omega
   ·rw [List.getElem?_append_left (by omega)] at hy
    rw [σold _ hj] at hs'
    obtain ⟨h1,h2⟩:=own j y s' hy ly hj hs'
    have:=(hnew _ _ (σnew' i s (by omega) hs)).1
    rintro e; rw [← e] at h1 h2
    rcases this with h | h
    ·exact h1 h
    ·omega
   ·exact hinj (i - c.n) (j - c.n) s s' (by omega) (σnew' i s (by omega) hs) (σnew' j s' (by omega) hs')
  g:=gd.stable c.w w' (fun b hb=>hold b (Nat.lt_of_lt_of_le hb S.low) fun h=>by have:=(chown b h).1; omega) S.g
  low:=Nat.le_trans S.low hsize
  own:=fun id s hid hs=>by
   by_cases hi:id < c.n
   ·rw [σold id hi] at hs
    obtain ⟨h1,h2⟩:=S.own id s hi hs
    exact ⟨h1,Nat.lt_of_lt_of_le h2 hsize⟩
   ·obtain ⟨h1,h2⟩:=hnew _ s (σnew' id s (by omega) hs)
    refine ⟨?_,h2⟩
    rcases h1 with h | h
    ·exact (chown _ h).1
    ·exact Nat.le_trans S.low h }

theorem SG.other {gd : Gd} {c : Cx} {st : List Blk} (S : SG gd c st) {id : Nat} {x : Blk} (hx : st[id]? = some x) (hlive : x.live = true) {s : Pl} (hs : c.σ id = some s) (hnim : ¬ c.Im s.b) :
    ∀ (j : Nat) (y : Blk) s', j ≠ id → st[j]? = some y → y ≠ .gone → c.σ j = some s' → s'.b ≠ s.b := by
  intro j y s' hne hy hg hs' e
  cases hl : y.live
  · have : c.Im s'.b := by
      have hb := S.blk j y hy
      cases y with
      | arr e t xs z => simp only [BlkR, hs'] at hb; simp [Blk.live] at hl; exact hb.2.2.2.2.1 hl
      | box e h z =>
        simp only [BlkR, hs'] at hb; simp [Blk.live] at hl
        obtain ⟨s2, cur, e2, _, h2, _⟩ := hb
        cases e2; exact h2 hl
      | gone => exact absurd rfl hg
    rw [e] at this; exact hnim this
  · exact S.inj j id y x s' s hne hy hx hl hlive hs' hs e
theorem SG.put {gd:Gd} {c:Cx} {st:List Blk} (S:SG gd c st) {id:Nat} {x x':Blk} (hx:st[id]?=some x) (hlive:x.live=true) {s:Pl} (hs:c.σ id=some s) {w':World}
  (hold:∀ b,b < c.w.heap.size→b ≠ s.b→w'.heap[b]?=c.w.heap[b]?) (hsize:w'.heap.size=c.w.heap.size) (hos:w'.os=c.w.os) (htape:w'.tape=c.w.tape) (hout:w'.output=c.w.output)
  (hnim:¬ c.Im s.b) (hblk:Nx c ⟨w',c.Im,c.σ,c.n⟩→BlkR ⟨w',c.Im,c.σ,c.n⟩ id x') :
  Nx c ⟨w',c.Im,c.σ,c.n⟩∧SG gd ⟨w',c.Im,c.σ,c.n⟩ (st.set id x'):=by
 have hid:id < c.n:=by rw [← S.len]; exact (List.getElem?_eq_some_iff.1 hx).1
 have nx:Nx c ⟨w',c.Im,c.σ,c.n⟩:={
  le:=⟨fun b h=>h,fun b hb=>hold b (S.im b hb) fun e=>hnim (e ▸ hb),fun i j hi e=>by cases e; exact ⟨hi,rfl⟩⟩
  heap:=fun b hb hn=>hold b hb fun e=>hn id s hid hs e.symm
  imnew:=fun b h=>.inl h
  signew:=fun i s hi hs=>.inl ⟨i,s,hi,hs,rfl⟩
  n:=Nat.le_refl _
  size:=by rw [hsize]; exact Nat.le_refl _
  os:=hos
  tape:=htape
  output:=hout }
 refine ⟨nx,?_⟩
 have other:=S.other hx hlive hs hnim
 exact {
  len:=by simpa using S.len
  im:=fun b h=>by rw [hsize]; exact S.im b h
  blk:=fun j y hy=>by
   rw [List.getElem?_set] at hy
   split at hy
   ·rename_i e; subst e
    split at hy
    ·cases hy; exact hblk nx
    ·simp at hy
   ·rename_i hne
    by_cases hg:y=.gone
    ·subst hg; trivial
    ·refine (S.blk j y hy).mono nx.le (mapIdB_some y) rfl (fun s' hs'=>hold _ (S.own j s' (by rw [← S.len]; exact (List.getElem?_eq_some_iff.1 hy).1) hs').2 (other j y s' (Ne.symm hne) hy hg hs')) fun _ _=>Iff.rfl
  inj:=fun i j y z s1 s2 hne hy hz ly lz h1 h2=>by
   have key:∀ i y,(st.set id x')[i]?=some y→y.live=true→(i=id∨(i ≠ id∧st[i]?=some y)):=by
    intro i y hy _
    rw [List.getElem?_set] at hy
    split at hy
    ·rename_i e; exact .inl e.symm
    ·rename_i e; exact .inr ⟨Ne.symm e,hy⟩
   rcases key i y hy ly with rfl | ⟨n1,hy'⟩ <;> rcases key j z hz lz with rfl | ⟨n2,hz'⟩
   ·exact absurd rfl hne
   ·simp only at h1; rw [hs] at h1; cases h1
    exact Ne.symm (other j z s2 n2 hz' (by rintro rfl; simp [Blk.live] at lz) h2)
   ·simp only at h2; rw [hs] at h2; cases h2
    exact other i y s1 n1 hy' (by rintro rfl; simp [Blk.live] at ly) h1
   ·exact S.inj i j y z s1 s2 hne hy' hz' ly lz h1 h2
  g:=gd.stable c.w w' (fun b hb=>hold b (Nat.lt_of_lt_of_le hb S.low) fun e=>by have:=(S.own id s hid hs).1; omega) S.g
  low:=by simp only; rw [hsize]; exact S.low
  own:=fun i s hi hs=>by simp only; rw [hsize]; exact S.own i s hi hs }
end Go.Proofs.YtnhbcpmmdblkjaaDoorAm

namespace Go.Proofs.YtnhbcpmmdblkjaaDoorAm
open Go

theorem freezeAt_get : ∀ (ids : List Nat) (st : List Blk) (i : Nat), (freezeAt st ids)[i]? = if i ∈ ids then (st[i]?).map Blk.freeze else st[i]?
  | [], st, i => by simp [freezeAt]
  | a :: r, st, i => by
    have fz : ∀ b : Blk, b.freeze.freeze = b.freeze := fun b => by cases b <;> rfl
    rw [freezeAt]
    split
    · rename_i b hb
      rw [freezeAt_get r]
      have hlt : a < st.length := (List.getElem?_eq_some_iff.1 hb).1
      by_cases e : a = i
      · subst e
        simp only [List.getElem?_set, hlt, if_true, List.mem_cons, true_or, hb, Option.map_some, fz]
        split <;> rfl
      · simp only [List.getElem?_set, e, if_false, List.mem_cons, Ne.symm e, false_or]
    · rename_i hn
      rw [freezeAt_get r]
      by_cases e : i = a
      · subst e; simp [hn]
      · simp [e]
theorem freezeAt_length (ids:List Nat):∀ (st:List Blk),(freezeAt st ids).length=st.length:=by
 induction ids with
 | nil=>intro st; rfl
 | cons a r ih=>intro st; rw [freezeAt]; split <;> simp [ih]
def Cx.froze (c:Cx) (ids:List Nat):Cx:=⟨c.w,fun b=>c.Im b∨∃ id,id ∈ ids∧∃ s,c.σ id=some s∧s.b=b,c.σ,c.n⟩
theorem SG.froze {gd : Gd} {c : Cx} {st : List Blk} (S : SG gd c st) (ids : List Nat) (hok : ∀ id, id ∈ ids → ∃ x, st[id]? = some x ∧ x ≠ .gone) :
    Nx c (c.froze ids) ∧ SG gd (c.froze ids) (freezeAt st ids) := by
  have idlt : ∀ id, id ∈ ids → id < c.n := fun id h => by
    obtain ⟨x, hx, _⟩ := hok id h
    rw [← S.len]; exact (List.getElem?_eq_some_iff.1 hx).1
  have nx : Nx c (c.froze ids) := {
    le := ⟨fun b h => .inl h, fun _ _ => rfl, fun i j hi e => by cases e; exact ⟨hi, rfl⟩⟩
    heap := fun _ _ _ => rfl
    imnew := fun b h => h.imp id fun ⟨id, hm, s, hs, e⟩ => .inl ⟨id, s, idlt id hm, hs, e⟩
    signew := fun i s hi hs => .inl ⟨i, s, hi, hs, rfl⟩
    n := Nat.le_refl _, size := Nat.le_refl _, os := rfl, tape := rfl, output := rfl }
  refine ⟨nx, ?_⟩
  have frzIm : ∀ j y s, st[j]? = some y → y ≠ .gone → y.live = false → c.σ j = some s → c.Im s.b := fun j y s hy hg hl hs => by
    have hb := S.blk j y hy
    cases y with
    | arr e t xs z => simp only [BlkR, hs] at hb; simp [Blk.live] at hl; exact hb.2.2.2.2.1 hl
    | box e h z =>
      simp only [BlkR, hs] at hb; simp [Blk.live] at hl
      obtain ⟨s2, cur, e2, _, h2, _⟩ := hb
      cases e2; exact h2 hl
    | gone => exact absurd rfl hg
  have liveNot : ∀ j y s, st[j]? = some y → y.live = true → c.σ j = some s → ¬ c.Im s.b := fun j y s hy hl hs => by
    have hb := S.blk j y hy
    cases y with
    | arr e t xs z => simp only [BlkR, hs] at hb; simp [Blk.live] at hl; exact hb.2.2.2.2.2.1 hl
    | box e h z =>
      simp only [BlkR, hs] at hb; simp [Blk.live] at hl
      obtain ⟨s2, cur, e2, _, _, h2, _⟩ := hb
      cases e2; exact h2 hl
    | gone => simp [Blk.live] at hl
  have notFroze : ∀ j y s, j ∉ ids → st[j]? = some y → y.live = true → c.σ j = some s → ¬ (c.froze ids).Im s.b := by
    rintro j y s hj hy hl hs (h | ⟨id, hm, s2, hs2, e⟩)
    · exact liveNot j y s hy hl hs h
    · obtain ⟨x, hx, hg⟩ := hok id hm
      cases hxl : x.live
      · have := frzIm id x s2 hx hg hxl hs2
        rw [e] at this; exact liveNot j y s hy hl hs this
      · exact S.inj id j x y s2 s (by rintro rfl; exact hj hm) hx hy hxl hl hs2 hs e
  have blk0 : ∀ j y, st[j]? = some y → j ∈ ids → BlkR (c.froze ids) j y.freeze := by
    intro j y hy hm
    have hb := S.blk j y hy
    cases y with
    | arr e t xs z =>
      simp only [BlkR, Blk.freeze, Cx.froze] at hb ⊢
      cases hs : c.σ j with
      | none => simpa [hs] using hb
      | some s =>
        simp only [hs] at hb ⊢
        obtain ⟨a1, a2, a3, a4, a5, a6, cur, a7, a8, a9, a10⟩ := hb
        exact ⟨a1, a2, a3, a4, fun _ => .inr ⟨j, hm, s, hs, rfl⟩, by simp, cur, a7, a8, a9.mono fun _ _ h => h.mono nx.le.im nx.le.heap, a10⟩
    | box e h z =>
      simp only [BlkR, Blk.freeze] at hb ⊢
      obtain ⟨s, cur, hs, a1, a2, a3, a4, a5⟩ := hb
      exact ⟨s, cur, hs, a1, fun _ => .inr ⟨j, hm, s, hs, rfl⟩, by simp, a4.mono nx.le (mapId_some _), a5⟩
    | gone => trivial
  exact {
    len := by rw [freezeAt_length]; exact S.len
    im := fun b h => by
      rcases h with h | ⟨id, hm, s, hs, rfl⟩
      · exact S.im b h
      · exact (S.own id s (idlt id hm) hs).2
    blk := fun j y hy => by
      rw [freezeAt_get] at hy
      split at hy
      · rename_i hm
        simp only [Option.map_eq_some_iff] at hy
        obtain ⟨y0, hy0, rfl⟩ := hy
        exact blk0 j y0 hy0 hm
      · rename_i hm
        by_cases hg : y = .gone
        · subst hg; trivial
        · cases hl : y.live
          · refine (S.blk j y hy).mono nx.le (mapIdB_some y) rfl (fun _ _ => rfl) fun s hs => ⟨fun _ => frzIm j y s hy hg hl hs, fun h => .inl h⟩
          · refine (S.blk j y hy).mono nx.le (mapIdB_some y) rfl (fun _ _ => rfl) fun s hs => ⟨fun h => absurd h (notFroze j y s hm hy hl hs), fun h => .inl h⟩
    inj := fun i j x y s s' hne hx hy lx ly hs hs' => by
      have key : ∀ (i : Nat) (x : Blk), (freezeAt st ids)[i]? = some x → x.live = true → st[i]? = some x := by
        intro i x hx hl
        rw [freezeAt_get] at hx
        split at hx
        · simp only [Option.map_eq_some_iff] at hx
          obtain ⟨y0, _, rfl⟩ := hx
          cases y0 <;> simp [Blk.freeze, Blk.live] at hl
        · exact hx
      exact S.inj i j x y s s' hne (key i x hx lx) (key j y hy ly) lx ly hs hs'
    g := S.g
    low := S.low
    own := S.own }

section ops
variable {gd:Gd} {P:Program} {E:Env} {α:Type} {r:α} {st:List Blk}

def Keeps (o:Oper) (hs:List HV) (st st':List Blk):Prop:=∀ W,wrB o hs=some W→∀ i:Nat,i < st.length→i ∉ W→st'[i]?=st[i]?
theorem Keeps.refl {o:Oper} {hs:List HV}:Keeps o hs st st:=fun _ _ _ _ _=>rfl
theorem Keeps.app {o:Oper} {hs:List HV} (bs:List Blk):Keeps o hs st (st++bs):=fun _ _ i hi _=>List.getElem?_append_left hi
theorem Keeps.none {o:Oper} {hs:List HV} {st':List Blk} (h:wrB o hs=none):Keeps o hs st st':=fun W hW=>by rw [h] at hW; simp at hW
def Step (gd:Gd) (P:Program) (o:Oper) (hs:List HV) (st:List Blk) (K:Bool→HV→List Blk→Option α) (r:α):Prop :=
 ∃ p v st',K p v st'=some r∧OpOK gd P o hs st v st'∧(p=true→st'=st)∧Keeps o hs st st'
theorem Step.plain {o:Oper} {hs:List HV} {K:Bool→HV→List Blk→Option α} {v:HV} (h:K true v st=some r)
  (hp:∀ (c:Cx) (ρ:Operand→Value),SG gd c st→HVL c hs (o.op.operands.toList.map ρ)→∃ val,(execOp ρ o).run P c.w=.ok (.value val) c.w∧HVR c v val) :
  Step gd P o hs st K r:=⟨true,v,st,h,.plain hp,fun _=>rfl,.refl⟩

theorem HVL.a1 {c:Cx} {a:HV} {x:Value} (h:HVL c [a] [x]):HVR c a x:=by
 obtain ⟨v,r,e,h1,_⟩:=h.cons
 simp only [List.cons.injEq] at e
 exact e.1 ▸ h1
theorem HVL.a2 {c:Cx} {a b:HV} {x y:Value} (h:HVL c [a,b] [x,y]):HVR c a x∧HVR c b y:=by
 obtain ⟨v,r,e,h1,h2⟩:=h.cons
 simp only [List.cons.injEq] at e
 obtain ⟨rfl,rfl⟩:=e
 exact ⟨h1,h2.a1⟩
theorem HVL.a3 {c:Cx} {a b d:HV} {x y z:Value} (h:HVL c [a,b,d] [x,y,z]):HVR c a x∧HVR c b y∧HVR c d z:=by
 obtain ⟨v,r,e,h1,h2⟩:=h.cons
 simp only [List.cons.injEq] at e
 obtain ⟨rfl,rfl⟩:=e
 exact ⟨h1,h2.a2⟩
theorem step_move {o:Oper} {x:Operand} (ho:o.op=.move x∨o.op=.assign x) {h:HV} {K:Bool→HV→List Blk→Option α} (hk:K true h st=some r) :
  Step gd P o [h] st K r:=by
 refine .plain hk fun c ρ S hh=>?_
 rcases ho with ho | ho <;>
 ·rw [ho] at hh
  exact ⟨ρ x,by simp [execOp,ho],hh.a1⟩
theorem step_pick {o:Oper} {x y z:Operand} (ho:o.op=.pick x y z) {b:Bool} {h h':HV} {K:Bool→HV→List Blk→Option α}
  (hk:(match b with | true=>K true h st | false=>K true h' st)=some r):Step gd P o [.iv .bool b,h,h'] st K r:=by
 cases b
 ·refine .plain hk fun c ρ S hh=>?_
  rw [ho] at hh
  obtain ⟨h1,h2,h3⟩:=hh.a3
  rw [HVR.bool] at h1
  exact ⟨ρ z,by simp [execOp,ho,h1,asBool],h3⟩
 ·refine .plain hk fun c ρ S hh=>?_
  rw [ho] at hh
  obtain ⟨h1,h2,h3⟩:=hh.a3
  rw [HVR.bool] at h1
  exact ⟨ρ y,by simp [execOp,ho,h1,asBool],h2⟩
theorem step_load (hE:EnvOK P E) {o:Oper} {T:Nat} {x:Operand} (ho:o.op=.load T x) {h:HV} {K:Bool→HV→List Blk→Option α}
  (hk:(loadV E T h st fun h=>K true h st)=some r):Step gd P o [h] st K r:=by
 obtain ⟨h',e1,e2⟩:=loadV_ok (gd:=gd) hE hk
 refine .plain e1 fun c ρ S hh=>?_
 rw [ho] at hh
 obtain ⟨v,e3,e4⟩:=e2 c (ρ x) S hh.a1
 exact ⟨v,by simp [execOp,ho,e3],e4⟩
theorem step_nilCheck {o:Oper} {x:Operand} (ho:o.op=.nilCheck x) {h:HV} {K:Bool→HV→List Blk→Option α}
  (hk:(match h with | .lp .. | .le .. | .ip .. | .fn ..=>K true h st | _=>none)=some r):Step gd P o [h] st K r:=by
 split at hk
 ·refine .plain hk fun c ρ S hh=>?_
  rw [ho] at hh
  have h1:=hh.a1
  have h2:=h1
  rw [HVR.cell (by simp) (by simp) rfl] at h1
  obtain ⟨⟨_,s,_,e⟩,_⟩:=by simpa only [HC] using h1
  simp only [List.cons.injEq,and_true] at e
  exact ⟨ρ x,by simp [execOp,ho,e],h2⟩
 ·refine .plain hk fun c ρ S hh=>?_
  rw [ho] at hh
  have h1:=hh.a1
  have h2:=h1
  rw [HVR.cell (by simp) (by simp) rfl] at h1
  obtain ⟨⟨_,s,_,_,e⟩,_⟩:=by simpa only [HC] using h1
  simp only [List.cons.injEq,and_true] at e
  exact ⟨ρ x,by simp [execOp,ho,e],h2⟩
 ·refine .plain hk fun c ρ S hh=>?_
  rw [ho] at hh
  have h1:=hh.a1
  have h2:=h1
  rw [HVR.cell (by simp) (by simp) rfl] at h1
  obtain ⟨⟨b,off,cur,el,fr,_,_,_,_,e⟩,_⟩:=by simpa only [HC] using h1
  simp only [List.cons.injEq,and_true] at e
  exact ⟨ρ x,by simp [execOp,ho,e],h2⟩
 ·refine .plain hk fun c ρ S hh=>?_
  rw [ho] at hh
  have h1:=hh.a1
  have h2:=h1
  rw [HVR.cell (by simp) (by simp) rfl] at h1
  obtain ⟨⟨vs,e,_⟩,_⟩:=by simpa only [HC] using h1
  simp only [List.cons.injEq,and_true] at e
  exact ⟨ρ x,by simp [execOp,ho,e],h2⟩
 ·simp at hk
theorem step_bin (hE:EnvOK P E) {o:Oper} {op:BinOp} {T U:Nat} {x y:Operand} (ho:o.op=.binOp op T x y U) {h h':HV} {K:Bool→HV→List Blk→Option α}
  (hk:(binV E op T (isNilC y) h h' fun h=>K true h st)=some r):Step gd P o [h,h'] st K r:=by
 obtain ⟨h',e1,e2⟩:=binV_ok hE hk
 refine .plain e1 fun c ρ S hh=>?_
 rw [ho] at hh
 obtain ⟨h1,h2⟩:=hh.a2
 obtain ⟨v,e3,e4⟩:=e2 c x _ _ h1 h2
 refine ⟨v,?_,e4⟩
 simp only [execOp,ho]
 rw [Sem.run_bind,e3]; rfl
theorem step_un {o:Oper} {op:UnOp} {T:Nat} {x:Operand} (ho:o.op=.unOp op T x) {h:HV} {K:Bool→HV→List Blk→Option α}
  (hk:(unV op h fun h=>K true h st)=some r):Step gd P o [h] st K r:=by
 obtain ⟨h',e1,e2⟩:=unV_ok (P:=P) hk
 refine .plain e1 fun c ρ S hh=>?_
 rw [ho] at hh
 obtain ⟨v,e3,e4⟩:=e2 c _ hh.a1
 exact ⟨v,by simp [execOp,ho,e3],e4⟩
theorem step_makeFunc {o : Oper} {f : Nat} {first captured : Array Operand} (ho : o.op = .makeFunc (.func f) first captured) {caps : List HV} {K : Bool → HV → List Blk → Option α}
    (hk : (if first.size = 0 ∧ caps.all isPtr = true then K true (.fn f caps) st else none) = some r) : Step gd P o caps st K r := by
  split at hk
  · rename_i hf
    obtain ⟨hf, hcap0⟩ := hf
    have hcap : ∀ h, h ∈ caps → h ≠ .undef ∧ ∀ ps, h ≠ .tuple ps := fun h hm => by
      have := List.all_eq_true.1 hcap0 h hm
      cases h <;> simp [isPtr] at this <;> simp
    clear hcap0
    refine .plain hk fun c ρ S hh => ?_
    rw [ho] at hh
    have hf : first = #[] := Array.size_eq_zero_iff.1 hf
    subst hf
    simp only [Op.operands, Array.empty_append] at hh
    refine ⟨.func (.func f) #[] (captured.map ρ), by simp [execOp, ho, Instr.makeFunc], ?_⟩
    rw [HVR.cell (by simp) (by simp) rfl]
    refine ⟨?_, rfl⟩
    simp only [HC]
    refine ⟨captured.toList.map ρ, by rw [← Array.toList_map], ?_⟩
    generalize captured.toList.map ρ = vs at hh
    clear hk ho
    induction caps generalizing vs with
    | nil => simpa [HVs, HVL] using hh
    | cons h hs ih =>
      obtain ⟨v, rest, e, h1, h2⟩ := hh.cons
      obtain ⟨n1, n2⟩ := hcap h (by simp)
      rw [HVR.eq n1 n2] at h1
      exact ⟨v, rest, e, h1.1, h1.2, ih (fun h hm => hcap h (by simp [hm])) _ h2⟩
  · simp at hk
theorem HVs.get {c : Cx} : ∀ {ps : List HV} {vs : List Value} {i : Nat} {h : HV}, HVs c ps vs → ps[i]? = some h → ∃ v, vs[i]? = some v ∧ HVR c h v
  | [], _, _, _, _, e => by simp at e
  | p :: ps, vs, 0, h, hh, e => by
    simp only [List.getElem?_cons_zero, Option.some.injEq] at e; subst e
    obtain ⟨v, r, e, h1, h2, _⟩ := by simpa only [HVs] using hh
    refine ⟨v, by simp [e], ?_⟩
    cases p <;> first | trivial | exact ⟨h1, h2⟩ | (simp [HC] at h1)
  | p :: ps, vs, i + 1, h, hh, e => by
    simp only [List.getElem?_cons_succ] at e
    obtain ⟨v, r, e1, _, _, h3⟩ := by simpa only [HVs] using hh
    subst e1
    simpa using HVs.get h3 e
theorem step_extract {o:Oper} {x:Operand} {i:Nat} (ho:o.op=.extract x i) {ps:List HV} {K:Bool→HV→List Blk→Option α}
  (hk:(match ps[i]? with | some h=>K true h st | none=>none)=some r):Step gd P o [.tuple ps] st K r:=by
 split at hk
 ·rename_i h he
  refine .plain hk fun c ρ S hh=>?_
  rw [ho] at hh
  obtain ⟨vs,e,h2⟩:=hh.a1
  obtain ⟨v,e1,e2⟩:=HVs.get h2 he
  exact ⟨v,by simp [execOp,ho,Instr.extract,e,e1],e2⟩
 ·simp at hk
theorem fieldPlace_ok (hE:EnvOK P E) {T f fo:Nat} (hf:(lk E.fo T).bind (·[f]?)=some fo) (w:World) (b off:Nat) :
  (Instr.fieldAt T (.pointer (some ⟨b,off,none⟩)) f).run P w=.ok (.pointer (some ⟨b,off + fo,none⟩)) w:=by
 simp only [Option.bind_eq_some_iff] at hf
 obtain ⟨os,h1,h2⟩:=hf
 obtain ⟨fs,fl,n,h3,h4,h5,i,h6,h7⟩:=hE.fo T os f fo h1 h2
 simp [Instr.fieldAt,run_underlying h3,h4,Instr.sureAddr,fieldPlace,sizeOf,typeInfo,h6,h7,h5,add_lit]
theorem step_fieldAddr (hE : EnvOK P E) {o : Oper} {T f : Nat} {x : Operand} (ho : o.op = .fieldAddr T x f) {a : HV} {K : Bool → HV → List Blk → Option α}
    (hk : (match (lk E.fo T).bind (·[f]?), a with
    | some fo, .lp id path off => K true (.lp id (path ++ [f]) (off + fo)) st
    | some fo, .le id i path off => K true (.le id i (path ++ [f]) (off + fo)) st
    | some fo, .ip t x => match ivGet t x [f], ivOff t [f] with
      | some (.iv t' x'), some o => if o = fo then K true (.ip t' x') st else none
      | _, _ => none
    | _, _ => none) = some r) : Step gd P o [a] st K r := by
  split at hk
  · rename_i fo id path off hf
    refine .plain hk fun c ρ S hh => ?_
    rw [ho] at hh
    have h1 := hh.a1
    rw [HVR.cell (by simp) (by simp) rfl] at h1
    obtain ⟨⟨hn, s, hs, e⟩, _⟩ := by simpa only [HC] using h1
    simp only [List.cons.injEq, and_true] at e
    refine ⟨.pointer (some ⟨s.b, off + fo, none⟩), by simp [execOp, ho, e, fieldPlace_ok hE hf], ?_⟩
    rw [HVR.cell (by simp) (by simp) rfl]
    exact ⟨by simp only [HC]; exact ⟨hn, s, hs, rfl⟩, rfl⟩
  · rename_i fo id i path off hf
    refine .plain hk fun c ρ S hh => ?_
    rw [ho] at hh
    have h1 := hh.a1
    rw [HVR.cell (by simp) (by simp) rfl] at h1
    obtain ⟨⟨hn, s, hs, hi, e⟩, _⟩ := by simpa only [HC] using h1
    simp only [List.cons.injEq, and_true] at e
    refine ⟨.pointer (some ⟨s.b, i * s.sz + (off + fo), none⟩), by simp [execOp, ho, e, fieldPlace_ok hE hf, Nat.add_assoc], ?_⟩
    rw [HVR.cell (by simp) (by simp) rfl]
    exact ⟨by simp only [HC]; exact ⟨hn, s, hs, hi, rfl⟩, rfl⟩
  · rename_i fo t v hf
    split at hk
    · rename_i t' x' o' hg hof
      split at hk
      · rename_i eo; subst eo
        refine .plain hk fun c ρ S hh => ?_
        rw [ho] at hh
        have h1 := hh.a1
        rw [HVR.cell (by simp) (by simp) rfl] at h1
        obtain ⟨⟨b, off, cur, el, fr, i1, i2, i3, i4, e⟩, _⟩ := by simpa only [HC] using h1
        simp only [List.cons.injEq, and_true] at e
        obtain ⟨t2, x2, e2, g1, g2⟩ := ivGet_ok i4 hg hof
        cases e2
        refine ⟨.pointer (some ⟨b, off + o', none⟩), by simp [execOp, ho, e, fieldPlace_ok hE hf], ?_⟩
        rw [HVR.cell (by simp) (by simp) rfl]
        refine ⟨?_, rfl⟩
        simp only [HC]
        refine ⟨b, off + o', cur, el, fr, i1, i2, by omega, ?_, rfl⟩
        rw [List.drop_take, List.take_take, List.drop_drop, Nat.min_eq_left (by omega)] at g2
        exact g2
      · simp at hk
    · simp at hk
  · simp at hk
end ops
end Go.Proofs.YtnhbcpmmdblkjaaDoorAm

namespace Go.Proofs.YtnhbcpmmdblkjaaDoorAm
open Go

section ops
variable {gd:Gd} {P:Program} {E:Env} {α:Type} {r:α} {st:List Blk}

theorem asIntOf_int (k:IntKind) (n:Int) (w:World):(asIntOf (.int k n)).run P w=.ok (k,n) w:=rfl
theorem sizeOf_ok {e:Nat} {t:Ty} (hi:InfoOK P e t) (w:World):(sizeOf e).run P w=.ok t.size w:=by
 obtain ⟨⟨i,z,h1,h2,_⟩,_⟩:=hi
 simp [sizeOf,typeInfo,h1,h2]
theorem indexAt_ok (hE:EnvOK P E) {T e:Nat} {t:Ty} (hT:lk E.sl T=some (e,t)) (k:IntKind) (n:Int) (w:World) (b off:Nat) (len cap:Nat) (h0:0≤n) (h1:n.toNat < len) :
  (Instr.indexAt T (.slice (some ⟨b,off,none⟩) len cap) (.int k n)).run P w=.ok (.pointer (some ⟨b,off + n.toNat * t.size,none⟩)) w:=by
 obtain ⟨hu,hi,_⟩:=hE.sl T e t hT
 have:n < (len:Int):=by omega
 simp [Instr.indexAt,asIntOf_int,run_underlying hu,h0,this,sizeOf_ok hi,add_lit]
theorem step_indexAddr (hE : EnvOK P E) {o : Oper} {T : Nat} {x y : Operand} (ho : o.op = .indexAddr T x y) {a : HV} {k : IntKind} {n : Int} {K : Bool → HV → List Blk → Option α}
    (hk : (match lk E.sl T with
    | some (_, te) => match decide (n < 0) with
      | true => none
      | false => match a with
        | .iv (.sl t) xs => if te = t then (match (xs[n.toNat]? : Option t.den) with
          | some x => K true (.ip t x) st
          | none => none) else none
        | .own id => match st[id]? with
          | some (.arr _ t xs _) => if te = t then (match decide (n.toNat < xs.length) with
            | true => K true (.le id n.toNat [] 0) st
            | false => none) else none
          | _ => none
        | .sub id off len => match st[id]? with
          | some (.arr _ t xs _) => if te = t then (match decide (n.toNat < len) with
            | true => K true (.le id (off + n.toNat) [] 0) st
            | false => none) else none
          | _ => none
        | _ => none
    | none => none) = some r) : Step gd P o [a, .iv (.int k) n] st K r := by
  split at hk
  · rename_i e te hT
    split at hk
    · simp at hk
    · rename_i hn0
      have hn : 0 ≤ n := by simpa using hn0
      split at hk
      · rename_i t xs
        split at hk
        · rename_i et; subst et
          split at hk
          · rename_i x hx
            refine .plain hk fun c ρ S hh => ?_
            rw [ho] at hh
            obtain ⟨h1, h2⟩ := hh.a2
            rw [HVR.int] at h2
            obtain ⟨p, cap, e1, hcap, h3⟩ := h1.sl
            have hlt : n.toNat < List.length xs := (List.getElem?_eq_some_iff.1 hx).1
            rcases h3 with rfl | ⟨b, off, cur, el, fr, rfl, i1, i2, i3, i4⟩
            · simp at hlt
            refine ⟨.pointer (some ⟨b, off + n.toNat * te.size, none⟩), by simp [execOp, ho, e1, h2, indexAt_ok hE hT k n c.w b off (List.length xs) cap hn hlt], ?_⟩
            rw [HVR.cell (by simp) (by simp) rfl]
            refine ⟨?_, rfl⟩
            simp only [HC]
            have g := i4.get (fun _ _ h => h.length) hx
            have hle : n.toNat * te.size + te.size ≤ xs.length * te.size := by rw [← Nat.succ_mul]; exact Nat.mul_le_mul_right _ hlt
            rw [List.drop_take, List.take_take, List.drop_drop, Nat.min_eq_left (by omega)] at g
            exact ⟨b, off + n.toNat * te.size, cur, el, fr, i1, i2, by omega, g, rfl⟩
          · simp at hk
        · simp at hk
      · rename_i id
        split at hk
        · rename_i e' t xs z hb
          split at hk
          · rename_i et; subst et
            split at hk
            · rename_i hlt0
              have hlt : n.toNat < List.length xs := by simpa using hlt0
              refine .plain hk fun c ρ S hh => ?_
              rw [ho] at hh
              obtain ⟨h1, h2⟩ := hh.a2
              rw [HVR.int] at h2
              rw [HVR.cell (by simp) (by simp) rfl] at h1
              obtain ⟨⟨hid, h1⟩, _⟩ := by simpa only [HC] using h1
              cases hs : c.σ id with
              | none => have := arr_none S.toSR hb hs; subst this; simp at hlt
              | some s =>
                obtain ⟨a1, a2, _⟩ := arr_rows S.toSR hb hs
                simp only [hs, List.cons.injEq, and_true] at h1
                refine ⟨.pointer (some ⟨s.b, n.toNat * te.size, none⟩), by simp [execOp, ho, h1, h2, indexAt_ok hE hT k n c.w s.b 0 s.n s.cap hn (by omega)], ?_⟩
                rw [HVR.cell (by simp) (by simp) rfl]
                refine ⟨?_, rfl⟩
                simp only [HC]
                exact ⟨hid, s, hs, by omega, by rw [a2]; rfl⟩
            · simp at hk
          · simp at hk
        · simp at hk
      · rename_i id off len
        split at hk
        · rename_i e' t xs z hb
          split at hk
          · rename_i et; subst et
            split at hk
            · rename_i hlt0
              have hlt : n.toNat < len := by simpa using hlt0
              refine .plain hk fun c ρ S hh => ?_
              rw [ho] at hh
              obtain ⟨h1, h2⟩ := hh.a2
              rw [HVR.int] at h2
              rw [HVR.cell (by simp) (by simp) rfl] at h1
              obtain ⟨⟨hid, h1⟩, _⟩ := by simpa only [HC] using h1
              cases hs : c.σ id with
              | none => simp only [hs] at h1; omega
              | some s =>
                obtain ⟨a1, a2, _⟩ := arr_rows S.toSR hb hs
                simp only [hs] at h1
                obtain ⟨b1, ad, cap, e1, b2, b3, b4⟩ := h1
                simp only [List.cons.injEq, and_true] at e1
                have b4 := b4 (by omega)
                subst b4
                refine ⟨.pointer (some ⟨s.b, off * s.sz + n.toNat * te.size, none⟩), by simp [execOp, ho, e1, h2, indexAt_ok hE hT k n c.w s.b (off * s.sz) len cap hn hlt], ?_⟩
                rw [HVR.cell (by simp) (by simp) rfl]
                refine ⟨?_, rfl⟩
                simp only [HC]
                exact ⟨hid, s, hs, by omega, by rw [a2, Nat.add_mul]; rfl⟩
            · simp at hk
          · simp at hk
        · simp at hk
      · simp at hk
  · simp at hk
theorem step_index (hE : EnvOK P E) {o : Oper} {T : Nat} {x y : Operand} (ho : o.op = .index T x y) {s : ByteArray} {k : IntKind} {n : Int} {K : Bool → HV → List Blk → Option α}
    (hk : (match lk E.ty T with
    | some .str => match decide (n < 0) with
      | true => none
      | false => match (s[n.toNat]? : Option UInt8) with
        | some b => K true (.iv (.int .u8) ((b.toNat : Nat) : Int)) st
        | none => none
    | _ => none) = some r) : Step gd P o [.iv .str s, .iv (.int k) n] st K r := by
  split at hk
  · rename_i hT
    split at hk
    · simp at hk
    · rename_i hn0
      have hn : 0 ≤ n := by simpa using hn0
      split at hk
      · rename_i b hb
        refine .plain hk fun c ρ S hh => ?_
        rw [ho] at hh
        obtain ⟨h1, h2⟩ := hh.a2
        rw [HVR.str] at h1
        rw [HVR.int] at h2
        have hu : P.underlying T = some .string := (hE.ty T _ hT).1
        exact ⟨.int .u8 b.toNat, by simp [execOp, ho, h1, h2, Instr.index, asIntOf_int, run_underlying hu, hn, hb], HVR.int.2 rfl⟩
      · simp at hk
  · simp at hk
end ops
end Go.Proofs.YtnhbcpmmdblkjaaDoorAm

namespace Go.Proofs.YtnhbcpmmdblkjaaDoorAm
open Go

section ops
variable {gd:Gd} {P:Program} {E:Env} {α:Type} {r:α} {st:List Blk}

def OptR (c:Cx):Option HV→Option Value→Prop
 | none,none=>True
 | some h,some v=>HVR c h v
 | _,_=>False
theorem OptR.int {c:Cx} {k:IntKind} {x:Int} {v:Option Value} (h:OptR c (some (.iv (.int k) x)) v):v=some (.int k x):=by
 cases v with
 | none=>exact h.elim
 | some v=>rw [HVR.int.1 h]
theorem OptR.none {c:Cx} {v:Option Value} (h:OptR c none v):v=none:=by
 cases v with
 | none=>rfl
 | some v=>exact h.elim
theorem sliceBound_ok (k:IntKind) (x:Int) (y:Nat) (code:BoundsCode) (w:World) (h0:0≤x) (h1:x≤y):(Instr.sliceBound (.int k x) y code).run P w=.ok x.toNat w:=by
 simp [Instr.sliceBound,asIntOf_int,h0,h1]
theorem optNat_ok {x:Int} {hi:Nat} {K:Nat→Option α} (h:optNat x hi K=some r):0≤x∧x≤hi∧K x.toNat=some r:=by
 unfold optNat at h
 split at h
 ·rename_i h1
  split at h
  ·rename_i h2; exact ⟨by simpa using h1,by simpa using h2,h⟩
  ·simp at h
 ·simp at h
def BoundOf (o:Option HV) (v:Option Nat) (m:Nat):Prop:=(o=none∧v=none)∨∃ k x,o=some (.iv (.int k) x)∧0≤(x:Int)∧(x:Int)≤m∧v=some (x:Int).toNat
theorem BoundOf.val {c:Cx} {o:Option HV} {v:Option Nat} {m:Nat} (h:BoundOf o v m) {u:Option Value} (hu:OptR c o u) :
  (u=none∧v=none)∨∃ k x,u=some (.int k x)∧0≤x∧x≤m∧v=some x.toNat:=by
 rcases h with ⟨rfl,rfl⟩ | ⟨k,x,rfl,h0,h1,rfl⟩
 ·exact .inl ⟨hu.none,rfl⟩
 ·exact .inr ⟨k,x,hu.int,h0,h1,rfl⟩
theorem bLo_ok {n:Nat} {lo:Option HV} {K:Option Nat→Option Nat→Option α} {hh:Option Nat} (hle:hh.getD n≤n) (hk:bLo n lo K hh=some r) :
  ∃ l,K l hh=some r∧l.getD 0≤hh.getD n∧BoundOf lo l (hh.getD n):=by
 unfold bLo at hk
 split at hk
 ·exact ⟨none,hk,by simp,.inl ⟨rfl,rfl⟩⟩
 ·rename_i k x
  obtain ⟨h0,h1,h2⟩:=optNat_ok hk
  exact ⟨some (x:Int).toNat,h2,by simp; omega,.inr ⟨k,x,rfl,h0,h1,rfl⟩⟩
 ·simp at hk
theorem bHi_ok {n:Nat} {lo hi:Option HV} {K:Option Nat→Option Nat→Option α} {m:Nat} (hm:m≤n) (hk:bHi n lo hi K m=some r) (hn:hi=none→m=n) :
  ∃ l h':Option Nat,K l h'=some r∧l.getD 0≤h'.getD n∧h'.getD n≤m∧BoundOf lo l (h'.getD n)∧BoundOf hi h' m:=by
 unfold bHi at hk
 split at hk
 ·obtain ⟨l,e1,e2,e3⟩:=bLo_ok (by simp) hk
  exact ⟨l,none,e1,e2,by simp [hn rfl],e3,.inl ⟨rfl,rfl⟩⟩
 ·rename_i k x
  obtain ⟨h0,h1,h2⟩:=optNat_ok hk
  obtain ⟨l,e1,e2,e3⟩:=bLo_ok (by simp; omega) h2
  exact ⟨l,some (x:Int).toNat,e1,e2,by simp; omega,e3,.inr ⟨k,x,rfl,h0,h1,rfl⟩⟩
 ·simp at hk
theorem bounds_ok {n : Nat} {lo hi mx : Option HV} {K : Option Nat → Option Nat → Option α} (h : bounds n lo hi mx K = some r) :
    ∃ l h' : Option Nat, K l h' = some r ∧ l.getD 0 ≤ h'.getD n ∧ h'.getD n ≤ n ∧
      ∀ (c : Cx) (b : Bool) (cap : Nat) (vl vh vm : Option Value), n ≤ cap → OptR c lo vl → OptR c hi vh → OptR c mx vm →
        ∃ m, (Instr.sliceBounds b n cap vl vh vm).run P c.w = .ok (l.getD 0, h'.getD n, m) c.w ∧ h'.getD n ≤ m ∧ m ≤ cap ∧ (mx = none → m = cap) := by
  unfold bounds at h
  split at h
  · obtain ⟨l, h', e1, e2, e3, e4, e5⟩ := bHi_ok (Nat.le_refl _) h (fun _ => rfl)
    refine ⟨l, h', e1, e2, e3, fun c b cap vl vh vm hcap hl hh hm => ⟨cap, ?_, by omega, Nat.le_refl _, fun _ => rfl⟩⟩
    have hm := hm.none; subst hm
    rcases e5.val hh with ⟨rfl, rfl⟩ | ⟨k, x, rfl, x0, x1, rfl⟩ <;> rcases e4.val hl with ⟨rfl, rfl⟩ | ⟨k2, y, rfl, y0, y1, rfl⟩
    · simp [Instr.sliceBounds]
    · simp at y1
      simp [Instr.sliceBounds, sliceBound_ok k2 y n _ c.w y0 y1]
    · simp [Instr.sliceBounds, sliceBound_ok k x cap _ c.w x0 (by omega)]
    · simp only [Option.getD_some] at y1
      simp [Instr.sliceBounds, sliceBound_ok k x cap _ c.w x0 (by omega), sliceBound_ok k2 y _ _ c.w y0 y1]
  · rename_i k mx' hi'
    obtain ⟨m0, m1, m2⟩ := optNat_ok h
    obtain ⟨l, h', e1, e2, e3, e4, e5⟩ := bHi_ok (by omega) m2 (by simp)
    refine ⟨l, h', e1, e2, by omega, fun c b cap vl vh vm hcap hl hh hm => ⟨(mx' : Int).toNat, ?_, by omega, by omega, by simp⟩⟩
    have hm := hm.int; subst hm
    rcases e5.val hh with ⟨rfl, rfl⟩ | ⟨k2, x, rfl, x0, x1, rfl⟩
    · exact absurd hh id
    rcases e4.val hl with ⟨rfl, rfl⟩ | ⟨k3, y, rfl, y0, y1, rfl⟩
    · simp [Instr.sliceBounds, sliceBound_ok k mx' cap _ c.w m0 (by omega), sliceBound_ok k2 x (mx' : Int).toNat _ c.w x0 (by omega)]
    · simp only [Option.getD_some] at y1
      simp [Instr.sliceBounds, sliceBound_ok k mx' cap _ c.w m0 (by omega), sliceBound_ok k2 x (mx' : Int).toNat _ c.w x0 (by omega), sliceBound_ok k3 y _ _ c.w y0 y1]
  · simp at h

theorem HVL.append {c : Cx} : ∀ {hs hs' : List HV} {vs vs' : List Value}, hs.length = vs.length → HVL c (hs ++ hs') (vs ++ vs') → HVL c hs vs ∧ HVL c hs' vs'
  | [], _, [], _, _, h => ⟨rfl, h⟩
  | h :: hs, hs', v :: vs, vs', hl, hh => by
    obtain ⟨v', r, e, h1, h2⟩ := HVL.cons hh
    simp only [List.cons_append, List.cons.injEq] at e
    obtain ⟨rfl, rfl⟩ := e
    obtain ⟨g1, g2⟩ := HVL.append (by simpa using hl) h2
    exact ⟨⟨_, _, rfl, h1, g1⟩, g2⟩
  | [], _, _ :: _, _, hl, _ => by simp at hl
  | _ :: _, _, [], _, hl, _ => by simp at hl
theorem split_ok {c:Cx} {ρ:Operand→Value} {lo hi mx:Option Operand} {hs:List HV} {l h m:Option HV} (e:splitOpt lo hi mx hs=some (l,h,m))
  (hh:HVL c hs ((lo.toArray++hi.toArray++mx.toArray).toList.map ρ)):OptR c l (lo.map ρ)∧OptR c h (hi.map ρ)∧OptR c m (mx.map ρ):=by
 unfold splitOpt at e
 split at e <;> simp only [Option.some.injEq,Prod.mk.injEq,reduceCtorEq] at e <;> obtain ⟨rfl,rfl,rfl⟩:=e <;> simp [OptR] at hh ⊢
 ·exact hh.a1
 ·exact hh.a1
 ·exact hh.a2
 ·exact hh.a2
 ·exact hh.a3
end ops
end Go.Proofs.YtnhbcpmmdblkjaaDoorAm

namespace Go.Proofs.YtnhbcpmmdblkjaaDoorAm
open Go

section ops
variable {gd:Gd} {P:Program} {E:Env} {α:Type} {r:α} {st:List Blk}

theorem cutL_eq {β:Type} (xs:List β) (l h:Option Nat):cutL xs l h=(xs.take (h.getD xs.length)).drop (l.getD 0):=by
 cases l <;> cases h <;> simp [cutL]
theorem slice_iv {c : Cx} {t : Ty} {xs : List t.den} {v : Value} (hv : HVR c (.iv (.sl t) xs) v) {l h : Option Nat} (h1 : l.getD 0 ≤ h.getD xs.length) (h2 : h.getD xs.length ≤ xs.length) :
    ∃ p cap, v = .slice p (List.length xs) cap ∧ (xs.length ≤ cap ∧ (p = none → cap = 0)) ∧ ∀ m, h.getD xs.length ≤ m → m ≤ cap →
      HVR c (.iv (.sl t) (cutL xs l h)) (.slice (if m = l.getD 0 then p else p.map (·.add (l.getD 0 * t.size))) (h.getD xs.length - l.getD 0) (m - l.getD 0)) := by
  obtain ⟨p, cap, e, hcap, hr⟩ := hv.sl
  refine ⟨p, cap, e, hcap, fun m hm hmc => ?_⟩
  rw [cutL_eq]
  generalize l.getD 0 = a at *
  generalize h.getD xs.length = b at *
  have hlen : ((xs.take b).drop a).length = b - a := by simp; omega
  refine HVR.mkIv ?_ rfl
  refine ⟨_, m - a, by rw [hlen]; rfl, ⟨by omega, fun hp => ?_⟩, ?_⟩
  · have : p = none := by
      split at hp
      · exact hp
      · simpa using hp
    have := hcap.2 this
    omega
  by_cases hz : b ≤ a
  · exact .inl (List.length_eq_zero_iff.1 (by omega))
  · rcases hr with rfl | ⟨bb, off, cur, el, fr, rfl, i1, i2, i3, i4⟩
    · simp at h2; omega
    · have hne : ¬ m = a := by omega
      refine .inr ⟨bb, off + a * t.size, cur, el, fr, by simp [hne, add_lit], i1, i2, ?_, ?_⟩
      · rw [hlen]
        have : a * t.size + (b - a) * t.size ≤ xs.length * t.size := by rw [← Nat.add_mul]; exact Nat.mul_le_mul_right _ (by omega)
        omega
      · have g := (i4.take (fun _ _ h => h.length) b).drop (fun _ _ h => h.length) a
        rw [List.take_take, Nat.min_eq_left (Nat.mul_le_mul_right _ h2), show List.drop (a * t.size) (List.take (b * t.size) (List.drop off cur.toList)) = List.take ((b - a) * t.size) (List.drop (off + a * t.size) cur.toList) by
          rw [List.drop_take, List.drop_drop, Nat.sub_mul]] at g
        rw [hlen]; exact g
theorem slice_sub {c:Cx} {id off len:Nat} {a cap:Nat} {ad:Addr} {t:Ty} {s:Pl} {b m:Nat} (hid:id < c.n) (hs:c.σ id=some s) (hsz:s.sz=t.size) (h0:off + len≤s.n) (hcap:len≤cap)
  (e0:off=0→cap=s.cap∧ad=⟨s.b,0,none⟩) (e1:0 < len→ad=⟨s.b,off * s.sz,none⟩) (h1:a≤b) (h2:b≤len) (hm:m=cap) :
  HVR c (.sub id (off + a) (b - a)) (.slice (if m=a then some ad else (some ad).map (·.add (a * t.size))) (b - a) (m - a)):=by
 subst hm
 rw [HVR.cell (by simp) (by simp) rfl]
 refine ⟨?_,rfl⟩
 simp only [HC,hs]
 refine ⟨hid,by omega,?_⟩
 by_cases hma:m=a
 ·refine ⟨ad,m - a,by simp [hma],by omega,fun h=>⟨?_,(e0 (by omega)).2⟩,fun h=>by omega⟩
  have:a=0:=by omega
  rw [(e0 (by omega)).1]; omega
 ·refine ⟨ad.add (a * t.size),m - a,by simp [hma],by omega,fun h=>?_,fun h=>?_⟩
  ·have:a=0:=by omega
   subst this
   obtain ⟨g1,g2⟩:=e0 (by omega)
   exact ⟨by omega,by rw [g2,add_lit]; simp⟩
  ·rw [e1 (by omega),add_lit,hsz,Nat.add_mul]
theorem step_slice (hE : EnvOK P E) {o : Oper} {T : Nat} {x0 : Operand} {lo hi mx : Option Operand} (ho : o.op = .slice T x0 lo hi mx) {x : HV} {rs : List HV} {K : Bool → HV → List Blk → Option α}
    (hk : (match splitOpt lo hi mx rs with
    | some (l, h, m) => match x with
      | .iv .str s => match (match lk E.ty T with | some .str => m | _ => some .undef) with
        | none => bounds s.size l h m fun l h => K true (.iv .str (s.extract (l.getD 0) (h.getD s.size))) st
        | some _ => none
      | .iv (.sl t) xs => match lk E.sl T with
        | some (_, te) => if te = t then bounds (List.length xs) l h m fun l h => K true (.iv (.sl t) (cutL xs l h)) st else none
        | none => none
      | .own id => match m, E.cut.contains T with
        | some m, _ => clipV E T id l h (some m) st K
        | none, true => clipV E T id l h none st K
        | none, false => match st[id]?, lk E.sl T with
          | some (.arr _ t xs _), some (_, te) => if te = t then bounds (List.length xs) l h none fun l h => K true (.sub id (l.getD 0) (h.getD (List.length xs) - l.getD 0)) st else none
          | _, _ => none
      | .sub id off len => match st[id]?, lk E.sl T, m with
        | some (.arr _ t xs _), some (_, te), none => if te = t then bounds len l h m fun l h => K true (.sub id (off + l.getD 0) (h.getD len - l.getD 0)) st else none
        | _, _, _ => none
      | _ => none
    | none => none) = some r)
    (hcl : ∀ id l h m, x = .own id → splitOpt lo hi mx rs = some (l, h, m) → clipV E T id l h m st K = some r → Step gd P o (x :: rs) st K r) : Step gd P o (x :: rs) st K r := by
  split at hk
  · rename_i l h m hsp
    have hvl : ∀ (c : Cx) (ρ : Operand → Value), HVL c (x :: rs) (o.op.operands.toList.map ρ) → HVR c x (ρ x0) ∧ OptR c l (lo.map ρ) ∧ OptR c h (hi.map ρ) ∧ OptR c m (mx.map ρ) := by
      intro c ρ hh
      rw [ho] at hh
      have e : (Op.slice T x0 lo hi mx).operands.toList.map ρ = ρ x0 :: (lo.toArray ++ hi.toArray ++ mx.toArray).toList.map ρ := by
        simp [Op.operands]
      rw [e] at hh
      obtain ⟨v, rest, e1, g1, g2⟩ := hh.cons
      simp only [List.cons.injEq] at e1
      obtain ⟨rfl, rfl⟩ := e1
      exact ⟨g1, split_ok hsp g2⟩
    split at hk
    · rename_i s
      split at hk
      · rename_i hm
        split at hm
        · rename_i hT
          subst hm
          obtain ⟨l', h', e1, e2, e3, e4⟩ := bounds_ok (P := P) hk
          refine .plain e1 fun c ρ S hh => ?_
          obtain ⟨g0, g1, g2, g3⟩ := hvl c ρ hh
          rw [HVR.str] at g0
          obtain ⟨m, f1, _⟩ := e4 c false s.size _ _ _ (Nat.le_refl _) g1 g2 g3
          have hu : P.underlying T = some .string := (hE.ty T _ hT).1
          rw [g3.none] at f1
          exact ⟨.string (s.extract (l'.getD 0) (h'.getD s.size)), by simp [execOp, ho, g0, Instr.sliceAt, run_underlying hu, Instr.slice, g3.none, f1], HVR.str.2 rfl⟩
        · simp at hm
      · simp at hk
    · rename_i t xs
      split at hk
      · rename_i e te hT
        split at hk
        · rename_i et; subst et
          obtain ⟨l', h', e1, e2, e3, e4⟩ := bounds_ok (P := P) hk
          refine .plain e1 fun c ρ S hh => ?_
          obtain ⟨g0, g1, g2, g3⟩ := hvl c ρ hh
          obtain ⟨p, cap, q1, q2, q3⟩ := slice_iv g0 e2 e3
          obtain ⟨mm, f1, f2, f3, _⟩ := e4 c true cap _ _ _ q2.1 g1 g2 g3
          obtain ⟨hu, hi', _⟩ := hE.sl T e te hT
          exact ⟨_, by simp [execOp, ho, q1, Instr.sliceAt, run_underlying hu, Instr.slice, f1, sizeOf_ok hi'], q3 mm f2 f3⟩
        · simp at hk
      · simp at hk
    · rename_i id
      split at hk
      · exact hcl id l h _ rfl hsp hk
      · exact hcl id l h none rfl hsp hk
      split at hk
      · rename_i el t xs z e te hb hT
        split at hk
        · rename_i et; subst et
          obtain ⟨l', h', e1, e2, e3, e4⟩ := bounds_ok (P := P) hk
          refine .plain e1 fun c ρ S hh => ?_
          obtain ⟨g0, g1, g2, g3⟩ := hvl c ρ hh
          obtain ⟨hu, hi', _⟩ := hE.sl T e te hT
          rw [HVR.cell (by simp) (by simp) rfl] at g0
          simp only [HC] at g0
          obtain ⟨⟨hid, q0⟩, _⟩ := g0
          cases hs : c.σ id with
          | none =>
            simp only [hs, List.cons.injEq, and_true] at q0
            have := arr_none S.toSR hb hs; subst this
            obtain ⟨mm, f1, f2, f3, f4⟩ := e4 c true 0 _ _ _ (Nat.le_refl _) g1 g2 g3
            have f4 := f4 rfl; subst f4
            simp only [List.length_nil] at *
            have z1 : l'.getD 0 = 0 := by omega
            have z2 : h'.getD 0 = 0 := by omega
            refine ⟨.slice none 0 0, by simp [execOp, ho, q0, Instr.sliceAt, run_underlying hu, Instr.slice, f1, sizeOf_ok hi', z1, z2], ?_⟩
            rw [HVR.cell (by simp) (by simp) rfl]
            exact ⟨by simp [HC, hs, hid, z1, z2], rfl⟩
          | some s =>
            obtain ⟨a1, a2, a3, _⟩ := arr_rows S.toSR hb hs
            simp only [hs, List.cons.injEq, and_true] at q0
            obtain ⟨mm, f1, f2, f3, f4⟩ := e4 c true s.cap _ _ _ (by omega) g1 g2 g3
            rw [← a1] at f1
            have := slice_sub (c := c) (id := id) (off := 0) (len := s.n) (a := l'.getD 0) (b := h'.getD s.n) (m := mm) (cap := s.cap) (ad := ⟨s.b, 0, none⟩) hid hs a2 (by omega) a3 (fun _ => ⟨rfl, rfl⟩) (fun _ => by simp) (by rw [a1]; exact e2) (by rw [a1]; exact e3) (f4 rfl)
            rw [Nat.zero_add] at this
            simp only [a1] at this f1 q0
            exact ⟨_, by simp [execOp, ho, q0, Instr.sliceAt, run_underlying hu, Instr.slice, f1, sizeOf_ok hi'], this⟩
        · simp at hk
      · simp at hk
    · rename_i id off len
      split at hk
      · rename_i el t xs z e te hb hT
        split at hk
        · rename_i et; subst et
          obtain ⟨l', h', e1, e2, e3, e4⟩ := bounds_ok (P := P) hk
          refine .plain e1 fun c ρ S hh => ?_
          obtain ⟨g0, g1, g2, g3⟩ := hvl c ρ hh
          obtain ⟨hu, hi', _⟩ := hE.sl T e te hT
          rw [HVR.cell (by simp) (by simp) rfl] at g0
          simp only [HC] at g0
          obtain ⟨⟨hid, q0⟩, _⟩ := g0
          cases hs : c.σ id with
          | none =>
            simp only [hs] at q0
            obtain ⟨rfl, rfl, q0⟩ := q0
            simp only [List.cons.injEq, and_true] at q0
            obtain ⟨mm, f1, f2, f3, f4⟩ := e4 c true 0 _ _ _ (Nat.le_refl _) g1 g2 g3
            have f4 := f4 rfl; subst f4
            have z1 : l'.getD 0 = 0 := by omega
            have z2 : h'.getD 0 = 0 := by omega
            refine ⟨.slice none 0 0, by simp [execOp, ho, q0, Instr.sliceAt, run_underlying hu, Instr.slice, f1, sizeOf_ok hi', z1, z2], ?_⟩
            rw [HVR.cell (by simp) (by simp) rfl]
            exact ⟨by simp [HC, hs, hid, z1, z2], rfl⟩
          | some s =>
            obtain ⟨a1, a2, a3, _⟩ := arr_rows S.toSR hb hs
            simp only [hs] at q0
            obtain ⟨b1, ad, cap, q1, b2, b3, b4⟩ := q0
            simp only [List.cons.injEq, and_true] at q1
            obtain ⟨mm, f1, f2, f3, f4⟩ := e4 c true cap _ _ _ b2 g1 g2 g3
            have := slice_sub (c := c) (id := id) (off := off) (len := len) (a := l'.getD 0) (b := h'.getD len) (m := mm) (cap := cap) (ad := ad) hid hs a2 b1 b2 b3 b4 e2 e3 (f4 rfl)
            exact ⟨_, by simp [execOp, ho, q1, Instr.sliceAt, run_underlying hu, Instr.slice, f1, sizeOf_ok hi'], this⟩
        · simp at hk
      · simp at hk
    · simp at hk
  · simp at hk
end ops
end Go.Proofs.YtnhbcpmmdblkjaaDoorAm

namespace Go.Proofs.YtnhbcpmmdblkjaaDoorAm
open Go

section ops
variable {gd:Gd} {P:Program} {E:Env} {α:Type} {r:α} {st:List Blk}

theorem arr_map (as:Array Operand) (ρ:Operand→Value) {l:List Value} (h:as.toList.map ρ=l):as.map ρ=l.toArray:=by
 rw [← h,← Array.toList_map]
theorem HVL.is1 {c:Cx} {a:HV} {vs:List Value} (h:HVL c [a] vs):∃ x,vs=[x]∧HVR c a x:=by
 obtain ⟨v,r,e,h1,h2⟩:=h.cons
 cases h2
 exact ⟨v,e,h1⟩
theorem HVL.is2 {c:Cx} {a b:HV} {vs:List Value} (h:HVL c [a,b] vs):∃ x y,vs=[x,y]∧HVR c a x∧HVR c b y:=by
 obtain ⟨v,r,e,h1,h2⟩:=h.cons
 obtain ⟨y,e2,h3⟩:=HVL.is1 h2
 exact ⟨v,y,by rw [e,e2],h1,h3⟩
theorem HVL.is3 {c:Cx} {a b d:HV} {vs:List Value} (h:HVL c [a,b,d] vs):∃ x y z,vs=[x,y,z]∧HVR c a x∧HVR c b y∧HVR c d z:=by
 obtain ⟨v,r,e,h1,h2⟩:=h.cons
 obtain ⟨y,z,e2,h3,h4⟩:=HVL.is2 h2
 exact ⟨v,y,z,by rw [e,e2],h1,h3,h4⟩
theorem bi_ops {o:Oper} {cl:Call} {b:Builtin} (ho:o.op=.call cl) (hc:cl.callee=.builtin b):o.op.operands=cl.args:=by
 rw [ho]; simp [Op.operands,Call.operands,hc]
theorem run_len {o:Oper} {cl:Call} (ho:o.op=.call cl) (hc:cl.callee=.builtin .len) (ρ:Operand→Value) (w:World) :
  (execOp ρ o).run P w=((Builtin.len_ cl.argTypes o.type (cl.args.map ρ)).run P w).andThen fun a w'=>.ok (.value a) w':=by
 simp [execOp,ho,resolve,hc,invoke,builtin]
theorem run_max {o:Oper} {cl:Call} (ho:o.op=.call cl) (hc:cl.callee=.builtin .max) (ρ:Operand→Value) (w:World) :
  (execOp ρ o).run P w=((Builtin.max_ cl.argTypes o.type (cl.args.map ρ)).run P w).andThen fun a w'=>.ok (.value a) w':=by
 simp [execOp,ho,resolve,hc,invoke,builtin]
theorem run_min {o:Oper} {cl:Call} (ho:o.op=.call cl) (hc:cl.callee=.builtin .min) (ρ:Operand→Value) (w:World) :
  (execOp ρ o).run P w=((Builtin.min_ cl.argTypes o.type (cl.args.map ρ)).run P w).andThen fun a w'=>.ok (.value a) w':=by
 simp [execOp,ho,resolve,hc,invoke,builtin]
theorem run_append {o:Oper} {cl:Call} (ho:o.op=.call cl) (hc:cl.callee=.builtin .append) (ρ:Operand→Value) (w:World) :
  (execOp ρ o).run P w=((Builtin.append_ cl.argTypes o.type (cl.args.map ρ)).run P w).andThen fun a w'=>.ok (.value a) w':=by
 simp [execOp,ho,resolve,hc,invoke,builtin]
theorem run_copy {o:Oper} {cl:Call} (ho:o.op=.call cl) (hc:cl.callee=.builtin .copy) (ρ:Operand→Value) (w:World) :
  (execOp ρ o).run P w=((Builtin.copy_ cl.argTypes o.type (cl.args.map ρ)).run P w).andThen fun a w'=>.ok (.value a) w':=by
 simp [execOp,ho,resolve,hc,invoke,builtin]

theorem step_max {o:Oper} {cl:Call} (ho:o.op=.call cl) (hc:cl.callee=.builtin .max) {hs:List HV} {K:Bool→HV→List Blk→Option α}
  (hk:(match hs with
   | [.iv (.int k) x,.iv (.int k') y]=>if k=k' then K true (.iv (.int k) (maxI x y)) st else none
   | [.iv (.int k) x,.iv (.int k') y,.iv (.int k'') z]=>if k=k'∧k=k'' then K true (.iv (.int k) (maxI (maxI x y) z)) st else none
   | _=>none)=some r):Step gd P o hs st K r:=by
 split at hk
 ·rename_i k x k' y
  split at hk
  ·rename_i e; subst e
   refine .plain hk fun c ρ S hh=>?_
   rw [bi_ops ho hc] at hh
   obtain ⟨a,b,e1,h1,h2⟩:=hh.is2
   rw [HVR.int] at h1 h2; subst h1; subst h2
   exact ⟨.int k (maxI x y),by rw [run_max ho hc,arr_map _ _ e1]; simp [Builtin.max_,Builtin.max2,maxI],HVR.int.2 rfl⟩
  ·simp at hk
 ·rename_i k x k' y k'' z
  split at hk
  ·rename_i e; obtain ⟨rfl,rfl⟩:=e
   refine .plain hk fun c ρ S hh=>?_
   rw [bi_ops ho hc] at hh
   obtain ⟨a,b,d,e1,h1,h2,h3⟩:=hh.is3
   rw [HVR.int] at h1 h2 h3; subst h1; subst h2; subst h3
   exact ⟨.int k (maxI (maxI x y) z),by rw [run_max ho hc,arr_map _ _ e1]; simp [Builtin.max_,Builtin.max2,maxI],HVR.int.2 rfl⟩
  ·simp at hk
 ·simp at hk
theorem step_min {o:Oper} {cl:Call} (ho:o.op=.call cl) (hc:cl.callee=.builtin .min) {hs:List HV} {K:Bool→HV→List Blk→Option α}
  (hk:(match hs with
   | [.iv (.int k) x,.iv (.int k') y]=>if k=k' then K true (.iv (.int k) (minI x y)) st else none
   | [.iv (.int k) x,.iv (.int k') y,.iv (.int k'') z]=>if k=k'∧k=k'' then K true (.iv (.int k) (minI (minI x y) z)) st else none
   | _=>none)=some r):Step gd P o hs st K r:=by
 split at hk
 ·rename_i k x k' y
  split at hk
  ·rename_i e; subst e
   refine .plain hk fun c ρ S hh=>?_
   rw [bi_ops ho hc] at hh
   obtain ⟨a,b,e1,h1,h2⟩:=hh.is2
   rw [HVR.int] at h1 h2; subst h1; subst h2
   exact ⟨.int k (minI x y),by rw [run_min ho hc,arr_map _ _ e1]; simp [Builtin.min_,Builtin.min2,minI],HVR.int.2 rfl⟩
  ·simp at hk
 ·rename_i k x k' y k'' z
  split at hk
  ·rename_i e; obtain ⟨rfl,rfl⟩:=e
   refine .plain hk fun c ρ S hh=>?_
   rw [bi_ops ho hc] at hh
   obtain ⟨a,b,d,e1,h1,h2,h3⟩:=hh.is3
   rw [HVR.int] at h1 h2 h3; subst h1; subst h2; subst h3
   exact ⟨.int k (minI (minI x y) z),by rw [run_min ho hc,arr_map _ _ e1]; simp [Builtin.min_,Builtin.min2,minI]; rfl,HVR.int.2 rfl⟩
  ·simp at hk
 ·simp at hk
theorem step_len (hE : EnvOK P E) {o : Oper} {cl : Call} (ho : o.op = .call cl) (hc : cl.callee = .builtin .len) {hs : List HV} {K : Bool → HV → List Blk → Option α}
    (hk : (match hs, (cl.argTypes[0]?).bind (lk E.sl), (cl.argTypes[0]?).bind (lk E.ty) with
      | [.iv .str s], _, some .str => K true (.iv (.int .i64) (s.size : Int)) st
      | [.iv (.sl t) xs], some _, _ => K true (.iv (.int .i64) ((List.length xs : Nat) : Int)) st
      | [.own id], some _, _ => match st[id]? with
        | some (.arr _ t xs _) => K true (.iv (.int .i64) ((List.length xs : Nat) : Int)) st
        | _ => none
      | [.sub id off len], some _, _ => match st[id]? with
        | some (.arr _ t xs _) => K true (.iv (.int .i64) ((len : Nat) : Int)) st
        | _ => none
      | _, _, _ => none) = some r) : Step gd P o hs st K r := by
  have hsl : ∀ e, (cl.argTypes[0]?).bind (lk E.sl) = some e → ∃ T el, cl.argTypes[0]? = some T ∧ P.underlying T = some (.slice el) := by
    intro e he
    simp only [Option.bind_eq_some_iff] at he
    obtain ⟨T, h1, h2⟩ := he
    exact ⟨T, e.1, h1, (hE.sl T e.1 e.2 h2).1⟩
  split at hk
  · rename_i s he
    simp only [Option.bind_eq_some_iff] at he
    obtain ⟨T, h1, h2⟩ := he
    have hu : P.underlying T = some .string := (hE.ty T _ h2).1
    refine .plain hk fun c ρ S hh => ?_
    rw [bi_ops ho hc] at hh
    obtain ⟨a, e1, g1⟩ := hh.is1
    rw [HVR.str] at g1; subst g1
    exact ⟨.int .i64 s.size, by rw [run_len ho hc, arr_map _ _ e1]; simp [Builtin.len_, h1, run_underlying hu, goInt], HVR.int.2 rfl⟩
  · rename_i t xs e he
    obtain ⟨T, el, h1, hu⟩ := hsl e he
    refine .plain hk fun c ρ S hh => ?_
    rw [bi_ops ho hc] at hh
    obtain ⟨a, e1, g1⟩ := hh.is1
    obtain ⟨p, cap, rfl, _⟩ := g1.sl
    exact ⟨.int .i64 (List.length xs : Nat), by rw [run_len ho hc, arr_map _ _ e1]; simp [Builtin.len_, h1, run_underlying hu, goInt], HVR.int.2 rfl⟩
  · rename_i id e he
    obtain ⟨T, el, h1, hu⟩ := hsl e he
    split at hk
    · rename_i el2 t xs z hb
      refine .plain hk fun c ρ S hh => ?_
      rw [bi_ops ho hc] at hh
      obtain ⟨a, e1, g1⟩ := hh.is1
      rw [HVR.cell (by simp) (by simp) rfl] at g1
      simp only [HC] at g1
      obtain ⟨⟨hid, q0⟩, _⟩ := g1
      refine ⟨.int .i64 (List.length xs : Nat), ?_, HVR.int.2 rfl⟩
      rw [run_len ho hc, arr_map _ _ e1]
      cases hs : c.σ id with
      | none =>
        have := arr_none S.toSR hb hs; subst this
        simp only [hs, List.cons.injEq, and_true] at q0; subst q0
        simp [Builtin.len_, h1, run_underlying hu, goInt]
      | some s =>
        obtain ⟨a1, _⟩ := arr_rows S.toSR hb hs
        simp only [hs, List.cons.injEq, and_true] at q0; subst q0
        simp [Builtin.len_, h1, run_underlying hu, goInt, a1]
    · simp at hk
  · rename_i id off len e he
    obtain ⟨T, el, h1, hu⟩ := hsl e he
    split at hk
    · rename_i el2 t xs z hb
      refine .plain hk fun c ρ S hh => ?_
      rw [bi_ops ho hc] at hh
      obtain ⟨a, e1, g1⟩ := hh.is1
      rw [HVR.cell (by simp) (by simp) rfl] at g1
      simp only [HC] at g1
      obtain ⟨⟨hid, q0⟩, _⟩ := g1
      refine ⟨.int .i64 (len : Nat), ?_, HVR.int.2 rfl⟩
      rw [run_len ho hc, arr_map _ _ e1]
      cases hs : c.σ id with
      | none =>
        simp only [hs] at q0
        obtain ⟨rfl, rfl, q0⟩ := q0
        simp only [List.cons.injEq, and_true] at q0; subst q0
        simp [Builtin.len_, h1, run_underlying hu, goInt]
      | some s =>
        simp only [hs] at q0
        obtain ⟨b1, ad, cap, q1, _⟩ := q0
        simp only [List.cons.injEq, and_true] at q1; subst q1
        simp [Builtin.len_, h1, run_underlying hu, goInt]
    · simp at hk
  · simp at hk

theorem HVR.nn {c:Cx} {t:Ty} {xs:List t.den} {v:Value} (h:HVR c (.nn t xs) v):HVR c (.iv (.sl t) xs) v:=by
 rw [HVR.cell (by simp) (by simp) rfl] at h ⊢
 simp only [HC] at h ⊢
 exact ⟨h.1.1,h.2⟩
theorem source_ok {c : Cx} (S : SG gd c st) {t : Ty} {x : HV} {ys : List t.den} {v : Value} (hx : srcOf st t x = some ys) (hv : HVR c x v) :
    ∃ p cap, v = .slice p (List.length ys) cap ∧ (ys = [] ∨ ∃ b off cur e fr, p = some ⟨b, off, none⟩ ∧ c.w.heap[b]? = some (.cells cur e fr) ∧
      off + List.length ys * t.size ≤ cur.size ∧ RowR (cellsR c.w (fun b => c.Im b ∨ ∃ id, id ∈ idsOf x ∧ ∃ s, c.σ id = some s ∧ s.b = b) t) ys ((cur.toList.drop off).take (List.length ys * t.size))) := by
  unfold srcOf at hx
  split at hx
  · simp only [Option.some.injEq] at hx; subst hx
    rw [HVR.nil] at hv
    exact ⟨none, 0, hv, .inl rfl⟩
  · obtain ⟨e, hy⟩ := castTo_eq hx
    simp only [Ty.sl.injEq] at e; subst e
    simp only at hy; subst hy
    obtain ⟨p, cap, e, _, h2⟩ := hv.nn.sl
    exact ⟨p, cap, e, h2.imp id fun ⟨b, off, cur, el, fr, g1, g2, g3, g4, g5⟩ => ⟨b, off, cur, el, fr, g1, g3, g4, g5.mono fun _ _ h => h.mono (fun _ h => .inl h) fun _ _ => rfl⟩⟩
  · split at hx
    · rename_i h t' ys' hs
      obtain ⟨e, hy⟩ := castTo_eq hx
      simp only [Ty.sl.injEq] at e; subst e
      simp only at hy; subst hy
      have hu : x ≠ .undef := by rintro rfl; simp [snap] at hs
      have ht : ∀ ps, x ≠ .tuple ps := by rintro ps rfl; simp [snap] at hs
      rw [HVR.eq hu ht] at hv
      have hc := snap_ok S.toSR (Im' := fun b => c.Im b ∨ ∃ id, id ∈ idsOf x ∧ ∃ s, c.σ id = some s ∧ s.b = b) (fun b h => .inl h) hv.1 hs (fun id hm s hs => .inr ⟨id, hm, s, hs, rfl⟩)
      obtain ⟨p, cap, e1, _, h2⟩ := hc
      have hag : isAg v = false := by
        rw [hv.2]
        cases x <;> first | rfl | (simp [snap] at hs; done) | skip
        · simp only [snap, Option.some.injEq, Sigma.mk.injEq] at hs
          simp [hagg, hs.1, Ty.agg]
        · rename_i ps _ hne
          simp only [snap] at hs
          cases ps <;> simp only [snapL] at hs
          · simp at hs
          · split at hs <;> simp at hs
      rw [cells_of_notAg hag] at e1
      refine ⟨p, cap, by simpa using e1, h2.imp id fun ⟨b, off, cur, el, fr, g1, g2, g3, g4, g5⟩ => ⟨b, off, cur, el, fr, g1, g3, g4, g5⟩⟩
    · simp at hx
theorem row_ints {w : World} {Im : Nat → Prop} {k : IntKind} : ∀ {ns : List Int} {cs : List Value}, RowR (cellsR w Im (.int k)) ns cs → cs = ns.map (Value.int k)
  | [], _, h => h
  | n :: ns, _, ⟨c1, c2, e, h1, h2⟩ => by
    have := row_ints h2
    simp only [cellsR] at h1
    rw [e, h1, this]; rfl
theorem step_convert (hE : EnvOK P E) {o : Oper} {src dst : Nat} {x : Operand} (ho : o.op = .convert src dst x) {q : HV} {K : Bool → HV → List Blk → Option α}
    (hk : (match lk E.ty src, lk E.ty dst, q with
    | some (.int _), some (.int k), .iv (.int _) x => K true (.iv (.int k) (k.wrap x)) st
    | some .str, some .str, .iv .str s => K true (.iv .str s) st
    | some (.sl (.int .u8)), some .str, a => match snap st a with
      | some ⟨.sl (.int .u8), bs⟩ => K true (.iv .str (bytesOf bs)) st
      | _ => none
    | _, _, _ => none) = some r) : Step gd P o [q] st K r := by
  split at hk
  · rename_i k0 k k1 n hs hd
    have us : P.underlying src = some (.int k0) := (hE.ty _ _ hs).1
    have ud : P.underlying dst = some (.int k) := (hE.ty _ _ hd).1
    refine .plain hk fun c ρ S hh => ?_
    rw [ho] at hh
    have h1 := hh.a1
    rw [HVR.int] at h1
    exact ⟨.int k (k.wrap n), by simp [execOp, ho, h1, convert, run_underlying us, run_underlying ud, Conv.intToInt], HVR.int.2 rfl⟩
  · rename_i s hs hd
    have us : P.underlying src = some .string := (hE.ty _ _ hs).1
    have ud : P.underlying dst = some .string := (hE.ty _ _ hd).1
    refine .plain hk fun c ρ S hh => ?_
    rw [ho] at hh
    have h1 := hh.a1
    rw [HVR.str] at h1
    exact ⟨.string s, by simp [execOp, ho, h1, convert, run_underlying us, run_underlying ud], HVR.str.2 rfl⟩
  · rename_i q _ _ _ hs hd
    obtain ⟨e, us, ue⟩ := (hE.ty _ _ hs).1
    have ue := ue .u8 rfl
    have ud : P.underlying dst = some .string := (hE.ty _ _ hd).1
    split at hk
    · rename_i bs hsn
      refine .plain hk fun c ρ S hh => ?_
      rw [ho] at hh
      have h1 := hh.a1
      have hsrc : srcOf st (.int .u8) q = some bs := by
        unfold srcOf
        split
        · simp [snap] at hsn
        · simp [snap] at hsn
        · rw [hsn]; simp [castTo]
      obtain ⟨p, cap, e1, h2⟩ := source_ok S hsrc h1
      refine ⟨.string (bytesOf bs), ?_, HVR.str.2 rfl⟩
      rcases h2 with rfl | ⟨b, off, cur, el, fr, rfl, g1, g2, g3⟩
      · cases p with
        | none => simp [execOp, ho, e1, run_convert_bytes_string c.w src dst e none _ cap us ue ud, Conv.bytesToString, bytesOf]
        | some ad =>
          have hl : (loadCells ad 0).run P c.w = .ok (([] : List Int).map (Value.int .u8)).toArray c.w := by simp [loadCells, loadCellsFrom]
          have := run_bytesToString c.w ad 0 cap [] hl
          simp [execOp, ho, e1, run_convert_bytes_string c.w src dst e (some ad) 0 cap us ue ud, this, bytesOf]
      · have hr := row_ints g3
        have hl : (loadCells ⟨b, off, none⟩ (List.length bs)).run P c.w = .ok (bs.map (Value.int .u8)).toArray c.w := by
          have := run_loadCells_list (P := P) c.w ⟨b, off, none⟩ (bs.map (Value.int .u8)) (by
            intro j u hj
            rw [← hr, List.getElem?_take] at hj
            split at hj
            · rw [add_lit]
              simp only [World.cell?, g1]
              simpa using hj
            · simp at hj)
          simpa using this
        have := run_bytesToString c.w ⟨b, off, none⟩ (List.length bs) cap bs hl
        simp [execOp, ho, e1, run_convert_bytes_string c.w src dst e (some ⟨b, off, none⟩) _ cap us ue ud, this, bytesOf]
    · simp at hk
  · simp at hk
end ops
end Go.Proofs.YtnhbcpmmdblkjaaDoorAm

namespace Go.Proofs.YtnhbcpmmdblkjaaDoorAm
open Go

theorem zero_cellsR (w:World) (Im:Nat→Prop):∀ (t:Ty),cellsR w Im t (zeroD t) (zeroCells t)
 | .int _=>rfl
 | .bool=>rfl
 | .str=>rfl
 | .sl t=>⟨none,0,rfl,⟨Nat.le_refl _,fun _=>rfl⟩,.inl rfl⟩
 | .unit=>rfl
 | .pair a b=>⟨_,_,rfl,zero_cellsR w Im a,zero_cellsR w Im b⟩
theorem zeroCells_len:∀ (t:Ty),(zeroCells t).length=t.size
 | .int _ | .bool | .str | .sl _ | .unit=>rfl
 | .pair a b=>by simp [zeroCells,Ty.size,zeroCells_len a,zeroCells_len b]
theorem zeroN_ok (c : Cx) : ∀ (t : Ty), HCs c (zeroN t) (zeroCells t) ∧ (t.agg = false → ∃ h, zeroN t = [h] ∧ HC c h (zeroCells t) ∧ hsz h = t.size ∧ hagg h = false)
  | .int k => ⟨⟨[.int k 0], [], rfl, rfl, rfl, rfl⟩, fun _ => ⟨_, rfl, rfl, rfl, rfl⟩⟩
  | .bool => ⟨⟨[.bool false], [], rfl, rfl, rfl, rfl⟩, fun _ => ⟨_, rfl, rfl, rfl, rfl⟩⟩
  | .str => ⟨⟨[.string ByteArray.empty], [], rfl, rfl, rfl, rfl⟩, fun _ => ⟨_, rfl, rfl, rfl, rfl⟩⟩
  | .sl t => ⟨⟨[.slice none 0 0], [], rfl, rfl, rfl, rfl⟩, fun _ => ⟨_, rfl, rfl, rfl, rfl⟩⟩
  | .unit => ⟨rfl, by simp [Ty.agg]⟩
  | .pair a b => by
    obtain ⟨ha, ha'⟩ := zeroN_ok c a
    obtain ⟨hb, _⟩ := zeroN_ok c b
    refine ⟨?_, by simp [Ty.agg]⟩
    simp only [zeroN, zeroCells, HCs, oneOf]
    refine ⟨_, _, rfl, ?_, ?_, hb⟩
    · rw [zeroCells_len]
      cases hag : a.agg
      · obtain ⟨h, e, _, h2, _⟩ := ha' hag
        simp [e, h2]
      · have := (mkAgg_ok ha).2.1
        have := HCs.len ha
        rw [zeroCells_len] at this
        simp; omega
    · cases hag : a.agg
      · obtain ⟨h, e, h1, _⟩ := ha' hag
        simpa [e] using h1
      · simpa using (mkAgg_ok ha).1

theorem adopt_ok {c c' : Cx} (L : c.Le c' some) : ∀ (t : Ty) (ps : List HV) (cs : List Value) (n : Nat), HCs c ps cs →
    (∀ i, n ≤ i → i < n + (adopt t ps n).2.length → i < c'.n ∧ c'.σ i = none) →
    HCs c' (adopt t ps n).1 cs ∧ (adopt t ps n).1.length = ps.length ∧ (∀ x, x ∈ (adopt t ps n).2 → ∃ u, x = .arr 0 u [] false)
  | .pair a b, [], cs, n, h, _ => by simp only [adopt]; exact ⟨by simpa only [HCs] using h, by simp⟩
  | .pair a b, p :: ps, cs, n, h, hn => by
    have idm : ∀ {qs : List HV} {ds}, HCs c qs ds → HCs c' qs ds := fun h => h.mono L (mapIdL_some _)
    have idm1 : ∀ {q : HV} {ds}, HC c q ds → HC c' q ds := fun h => h.mono L (mapId_some _)
    simp only [HCs] at h
    obtain ⟨c1, c2, e, h1, h2, h3⟩ := h
    have main : ∀ (ra : HV × List Blk), (adopt (.pair a b) (p :: ps) n) = (ra.1 :: (adopt b ps (n + ra.2.length)).1, ra.2 ++ (adopt b ps (n + ra.2.length)).2) →
        ((∀ i, n ≤ i → i < n + ra.2.length → i < c'.n ∧ c'.σ i = none) → HC c' ra.1 c1 ∧ hsz ra.1 = hsz p ∧ ∀ x, x ∈ ra.2 → ∃ u, x = .arr 0 u [] false) →
        HCs c' (adopt (.pair a b) (p :: ps) n).1 cs ∧ (adopt (.pair a b) (p :: ps) n).1.length = (p :: ps).length ∧ (∀ x, x ∈ (adopt (.pair a b) (p :: ps) n).2 → ∃ u, x = .arr 0 u [] false) := by
      intro ra hra hpart
      rw [hra] at hn ⊢
      simp only [List.length_append] at hn
      obtain ⟨g1, g2, g3⟩ := hpart fun i hi hi' => hn i hi (by omega)
      obtain ⟨k1, k2, k3⟩ := adopt_ok L b ps c2 (n + ra.2.length) h3 fun i hi hi' => hn i (by omega) (by omega)
      refine ⟨⟨c1, c2, e, by omega, g1, k1⟩, by simp [k2], fun x hx => ?_⟩
      rcases List.mem_append.1 hx with hx | hx
      · exact g3 x hx
      · exact k3 x hx
    cases hag : a.agg
    · refine main ((adopt a [p] n).1.headD p, (adopt a [p] n).2) (by cases p <;> simp [adopt, hag]) fun hi => ?_
      obtain ⟨g1, g2, g3⟩ := adopt_ok L a [p] c1 n ⟨c1, [], by simp, h1, h2, rfl⟩ hi
      match hq : (adopt a [p] n).1, g2 with
      | [q], _ =>
        rw [hq] at g1
        simp only [HCs] at g1
        obtain ⟨d1, d2, e1, e2, e3, e4⟩ := g1
        subst e4
        simp only [List.append_nil] at e1
        subst e1
        exact ⟨e3, by simp; omega, g3⟩
    · cases p
      case agg qs =>
        refine main (mkAgg (adopt a qs n).1, (adopt a qs n).2) (by simp [adopt, hag]) fun hi => ?_
        obtain ⟨g1, g2, g3⟩ := adopt_ok L a qs c1 n (by simpa only [HC] using h2) hi
        obtain ⟨k1, k2, _⟩ := mkAgg_ok g1
        refine ⟨k1, ?_, g3⟩
        have := HCs.len g1
        rw [k2]; omega
      all_goals exact main (_, []) (by simp only [adopt, hag]) fun _ => ⟨idm1 h2, rfl, by simp⟩
  | .sl t, ps, cs, n, h, hn => by
    match ps, h, hn with
    | [.nil], h, hn =>
      simp only [HCs, HC] at h
      obtain ⟨c1, c2, e, _, h2, h3⟩ := h
      obtain ⟨i1, i2⟩ := hn n (Nat.le_refl _) (by simp [adopt])
      simp only [adopt]
      refine ⟨?_, rfl, fun x hx => ⟨t, by simpa using hx⟩⟩
      simp only [HCs]
      refine ⟨c1, c2, e, by rw [h2]; rfl, ?_, h3⟩
      simp only [HC, i2]
      exact ⟨i1, h2⟩
    | [], h, _ => simp only [adopt]; exact ⟨h.mono L (mapIdL_some _), by simp⟩
    | p :: q :: r, h, _ => simp only [adopt]; exact ⟨h.mono L (mapIdL_some _), by simp⟩
    | [.undef], h, _ | [.skip], h, _ | [.iv _ _], h, _ | [.nn _ _], h, _ | [.own _], h, _ | [.sub _ _ _], h, _ | [.lp _ _ _], h, _ | [.le _ _ _ _], h, _ | [.ip _ _], h, _ | [.agg _], h, _ | [.tuple _], h, _ | [.fn _ _], h, _ | [.er _], h, _ =>
      simp only [adopt]; exact ⟨h.mono L (mapIdL_some _), by simp⟩
  | .int _, ps, cs, n, h, _ | .bool, ps, cs, n, h, _ | .str, ps, cs, n, h, _ | .unit, ps, cs, n, h, _ => by
    have e : ∀ t : Ty, (∀ a b, t ≠ .pair a b) → (∀ u, t ≠ .sl u) → adopt t ps n = (ps, []) := by
      intro t h1 h2
      cases t <;> first | rfl | exact absurd rfl (h1 _ _) | exact absurd rfl (h2 _)
    rw [e _ (by simp) (by simp)]
    exact ⟨h.mono L (mapIdL_some _), rfl, by simp⟩
end Go.Proofs.YtnhbcpmmdblkjaaDoorAm

namespace Go.Proofs.YtnhbcpmmdblkjaaDoorAm
open Go

theorem SG.alloc {gd : Gd} {c : Cx} {st : List Blk} (S : SG gd c st) {w' : World} {cells : Array Value} {e : Nat} (hw : w'.heap = c.w.heap.push (.cells cells e)) (hos : w'.os = c.w.os) (htape : w'.tape = c.w.tape) (hout : w'.output = c.w.output)
    (s : Pl) (hs : s.b = c.w.heap.size) (x : Blk) (vs : List Blk) (hv : ∀ y, y ∈ vs → ∃ e u, y = .arr e u [] false)
    (hx : Nx c (c.more w' (some s :: vs.map fun _ => none)) → BlkR (c.more w' (some s :: vs.map fun _ => none)) c.n x) :
    Nx c (c.more w' (some s :: vs.map fun _ => none)) ∧ SG gd (c.more w' (some s :: vs.map fun _ => none)) (st ++ x :: vs) := by
  refine S.grow (fun _ => False) (fun b hb _ => ?_) (by simp [hw]) hos htape hout (fun _ h => h.elim) _ _ (by simp) ?_ ?_ ?_
  · rw [hw, Array.getElem?_push, if_neg (by omega)]
  · intro k s' hk
    cases k with
    | zero => simp at hk; subst hk; exact ⟨.inr (by omega), by simp [hw]; omega⟩
    | succ k => simp at hk
  · intro i j s1 s2 hne h1 h2
    cases i <;> cases j <;> simp at h1 h2
    exact absurd rfl hne
  · intro nx k y hk
    cases k with
    | zero => simp at hk; subst hk; exact hx nx
    | succ k =>
      simp only [List.getElem?_cons_succ] at hk
      obtain ⟨_, u, rfl⟩ := hv y (List.mem_of_getElem? hk)
      have : (c.more w' (some s :: vs.map fun _ => none)).σ (c.n + (k + 1)) = none := by
        simp only [Cx.more]
        rw [if_neg (by omega), show c.n + (k + 1) - c.n = k + 1 by omega]
        simp [List.getElem?_map]
        cases vs[k]? <;> rfl
      simp only [BlkR, this]
theorem SG.virt {gd:Gd} {c:Cx} {st:List Blk} (S:SG gd c st) (vs:List Blk) (hv:∀ y,y ∈ vs→∃ e u,y=.arr e u [] false) :
  Nx c (c.more c.w (vs.map fun _=>none))∧SG gd (c.more c.w (vs.map fun _=>none)) (st++vs):=by
 refine S.grow (fun _=>False) (fun b hb _=>rfl) (Nat.le_refl _) rfl rfl rfl (fun _ h=>h.elim) _ _ (by simp) ?_ ?_ ?_
 ·intro k s' hk; simp at hk
 ·intro i j s1 s2 hne h1 h2; simp at h1
 ·intro nx k y hk
  obtain ⟨_,u,rfl⟩:=hv y (List.mem_of_getElem? hk)
  have:(c.more c.w (vs.map fun _=>none)).σ (c.n + k)=none:=by
   simp only [Cx.more]
   rw [if_neg (by omega),show c.n + k - c.n=k by omega]
   simp [List.getElem?_map]
   cases vs[k]? <;> rfl
  simp only [BlkR,this]
theorem more_none {c:Cx} {w':World} {s:Pl} {vs:List Blk}:∀ i,c.n + 1≤i→i < c.n + 1 + vs.length→i < (c.more w' (some s::vs.map fun _=>none)).n∧(c.more w' (some s::vs.map fun _=>none)).σ i=none:=by
 intro i h1 h2
 refine ⟨by simp [Cx.more]; omega,?_⟩
 simp only [Cx.more]
 rw [if_neg (by omega)]
 obtain ⟨k,rfl⟩:∃ k,i=c.n + (k + 1):=⟨i - c.n - 1,by omega⟩
 rw [show c.n + (k + 1) - c.n=k + 1 by omega]
 simp [List.getElem?_map]
 cases vs[k]? <;> rfl
theorem virt_none {c:Cx} {w':World} {vs:List Blk}:∀ i,c.n≤i→i < c.n + vs.length→i < (c.more w' (vs.map fun _=>none)).n∧(c.more w' (vs.map fun _=>none)).σ i=none:=by
 intro i h1 h2
 refine ⟨by simp [Cx.more]; omega,?_⟩
 simp only [Cx.more]
 rw [if_neg (by omega)]
 simp [List.getElem?_map]
 cases vs[i - c.n]? <;> rfl
theorem more_new {c:Cx} {w':World} {s:Pl} {r:List (Option Pl)}:c.n < (c.more w' (some s::r)).n∧(c.more w' (some s::r)).σ c.n=some s:=by
 refine ⟨by simp [Cx.more],?_⟩
 simp [Cx.more]

section ops
variable {gd:Gd} {P:Program} {E:Env} {α:Type} {r:α} {st:List Blk}

theorem step_nil {o:Oper} {x:Operand} (ho:o.op=.move x∨o.op=.assign x) {e:Nat} {t:Ty} {K:Bool→HV→List Blk→Option α}
  (hk:K false (.own st.length) (st++[.arr e t [] false])=some r):Step gd P o [.nil] st K r:=by
 refine ⟨_,_,_,hk,fun c ρ S hh=>?_,by simp,.app _⟩
 have hv:ρ x=.slice none 0 0∧(execOp ρ o).run P c.w=.ok (.value (ρ x)) c.w:=by
  rcases ho with ho | ho <;>
  ·rw [ho] at hh
   exact ⟨HVR.nil.1 hh.a1,by simp [execOp,ho]⟩
 obtain ⟨nx,S'⟩:=S.virt [.arr e t [] false] (by simp)
 refine .inl ⟨_,_,hv.2,c.more c.w ([Blk.arr e t [] false].map fun _=>none),rfl,nx,S',?_⟩
 rw [HVR.cell (by simp) (by simp) rfl]
 obtain ⟨i1,i2⟩:=virt_none (c:=c) (w':=c.w) (vs:=[Blk.arr e t [] false]) c.n (Nat.le_refl _) (by simp)
 refine ⟨?_,by rw [hv.1]; rfl⟩
 simp only [HC,S.len,i2]
 exact ⟨i1,by rw [hv.1]⟩
theorem newVar_run (T:Nat) (v:Value) (w:World):(newVar T v).run P w=.ok ⟨w.heap.size,0,none⟩ (w.alloc (.cells v.cells T)):=by
 simp [newVar,newRow]
theorem step_box (hE:EnvOK P E) {o:Oper} {T:Nat} {x:Operand} (ho:o.op=.box T x) {h:HV} {K:Bool→HV→List Blk→Option α}
  (hk:(match lk E.lay T with
  | some (n,g)=>if hsz h=n∧hagg h=g then K false (.lp st.length [] 0) (st++[.box T h false]) else none
  | none=>none)=some r):Step gd P o [h] st K r:=by
 split at hk
 ·rename_i n g hl
  split at hk
  ·rename_i hc
   refine ⟨_,_,_,hk,fun c ρ S hh=>?_,by simp,.app _⟩
   rw [ho] at hh
   have h1:=hh.a1
   obtain ⟨hpos,_⟩:=hE.lay T n g hl
   have hu:h ≠ .undef:=by rintro rfl; simp [hsz] at hc; omega
   have ht:∀ ps,h ≠ .tuple ps:=by rintro ps rfl; simp [hsz] at hc; omega
   rw [HVR.eq hu ht] at h1
   have hlen:=h1.1.len (by omega)
   obtain ⟨nx,S'⟩:=S.alloc (w':=c.w.alloc (.cells (ρ x).cells T)) (cells:=(ρ x).cells) (e:=T) rfl rfl rfl rfl ⟨c.w.heap.size,0,0,0⟩ rfl (.box T h false) [] (by simp) (fun nx=>by
    obtain ⟨i1,i2⟩:=more_new (c:=c) (w':=c.w.alloc (.cells (ρ x).cells T)) (s:=⟨c.w.heap.size,0,0,0⟩) (r:=[])
    refine ⟨⟨c.w.heap.size,0,0,0⟩,(ρ x).cells,i2,heap_alloc_new c.w _,by simp,fun _ hi=>?_,h1.1.mono nx.le (mapId_some _),by simpa using hlen⟩
    have:=S.im _ hi
    simp at this)
   obtain ⟨i1,i2⟩:=more_new (c:=c) (w':=c.w.alloc (.cells (ρ x).cells T)) (s:=⟨c.w.heap.size,0,0,0⟩) (r:=[])
   refine .inl ⟨.pointer (some ⟨c.w.heap.size,0,none⟩),c.w.alloc (.cells (ρ x).cells T),by simp [execOp,ho,Instr.box,newVar_run],_,rfl,nx,S',?_⟩
   rw [HVR.cell (by simp) (by simp) rfl]
   refine ⟨?_,rfl⟩
   simp only [HC,S.len]
   exact ⟨i1,_,i2,rfl⟩
  ·simp at hk
 ·simp at hk
theorem oneOf_ok {c:Cx} {t:Ty} {ps:List HV} {cs:List Value} (h:HCs c ps cs) (hl:t.agg=false→∃ q,ps=[q]):HC c (oneOf t ps) cs∧hsz (oneOf t ps)=hszL ps:=by
 unfold oneOf
 cases hag:t.agg
 ·obtain ⟨q,rfl⟩:=hl hag
  simp only [HCs] at h
  obtain ⟨c1,c2,e,h1,h2,h3⟩:=h
  subst h3
  simp only [List.append_nil] at e
  subst e
  exact ⟨h2,by simp [hszL]⟩
 ·obtain ⟨g1,g2,_⟩:=mkAgg_ok h
  exact ⟨g1,g2⟩
theorem tag_length:∀ (es:List Nat) (bs:List Blk),(tag es bs).length=bs.length
 | [],bs=>by simp [tag]
 | _::_,[]=>by simp [tag]
 | e::es,b::bs=>by cases b <;> simp [tag,tag_length es bs]
theorem tag_mem : ∀ (es : List Nat) (bs : List Blk), (∀ x, x ∈ bs → ∃ e u, x = .arr e u [] false) → ∀ x, x ∈ tag es bs → ∃ e u, x = .arr e u [] false
  | [], bs, h, x, hx => h x (by simpa [tag] using hx)
  | _ :: _, [], _, x, hx => by simp [tag] at hx
  | e :: es, b :: bs, h, x, hx => by
    obtain ⟨e0, u0, rfl⟩ := h b (by simp)
    simp only [tag, List.mem_cons] at hx
    rcases hx with rfl | hx
    · exact ⟨e, u0, rfl⟩
    · exact tag_mem es bs (fun y hy => h y (by simp [hy])) x hx
theorem step_alloc (hE:EnvOK P E) {o:Oper} {T:Nat} (ho:o.op=.alloc T) {K:Bool→HV→List Blk→Option α}
  (hk:(match lk E.ty T with
  | some t=>K false (.lp st.length [] 0) (st++.box T (oneOf t (adopt t (zeroN t) (st.length + 1)).1) false::tag (kindsOf (lk E.zs T)) (adopt t (zeroN t) (st.length + 1)).2)
  | none=>none)=some r):Step gd P o [] st K r:=by
 split at hk
 ·rename_i t hT
  refine ⟨_,_,_,hk,fun c ρ S hh=>?_,by simp,.app _⟩
  obtain ⟨⟨i,z,hi,hsize,hz,hzc⟩,hpos⟩:=(hE.ty T t hT).2
  have hrun:(execOp ρ o).run P c.w=.ok (.value (.pointer (some ⟨c.w.heap.size,0,none⟩))) (c.w.alloc (.cells z.cells T)):=by
   simp [execOp,ho,Instr.alloc,zeroValue,typeInfo,hi,hz,newVar_run]
  rw [S.len] at *
  generalize kindsOf (lk E.zs T)=es
  obtain ⟨z1,z2⟩:=zeroN_ok c t
  have key:∀ (c':Cx),c.Le c' some→(∀ i,c.n + 1≤i→i < c.n + 1 + (tag es (adopt t (zeroN t) (c.n + 1)).2).length→i < c'.n∧c'.σ i=none)→HC c' (oneOf t (adopt t (zeroN t) (c.n + 1)).1) (zeroCells t)∧hsz (oneOf t (adopt t (zeroN t) (c.n + 1)).1)=t.size:=by
   intro c' L hn
   rw [tag_length] at hn
   obtain ⟨g1,g2,_⟩:=adopt_ok L t (zeroN t) (zeroCells t) (c.n + 1) z1 hn
   obtain ⟨k1,k2⟩:=oneOf_ok (t:=t) g1 (fun hag=>by
    obtain ⟨h,e,_⟩:=z2 hag
    rw [e] at g2
    rw [e]
    match hq:(adopt t [h] (c.n + 1)).1,g2 with
    | [q],_=>exact ⟨q,rfl⟩)
   refine ⟨k1,?_⟩
   have:=HCs.len g1
   rw [zeroCells_len] at this
   omega
  have hvs:∀ x,x ∈ tag es (adopt t (zeroN t) (c.n + 1)).2→∃ e u,x=.arr e u [] false:=by
   have:=adopt_ok (c:=c) (c':=c.more c.w (List.replicate (1 + (adopt t (zeroN t) (c.n + 1)).2.length) none)) ⟨fun _ h=>h,fun _ _=>rfl,fun i j hi e=>by cases e; exact ⟨by simp [Cx.more]; omega,by simp [Cx.more,hi]⟩⟩ t (zeroN t) (zeroCells t) (c.n + 1) z1 (fun i h1 h2=>⟨by simp [Cx.more]; omega,by
    simp only [Cx.more]
    rw [if_neg (by omega),List.getElem?_replicate]
    split <;> rfl⟩)
   exact tag_mem es _ fun x hx=>⟨0,this.2.2 x hx⟩
  obtain ⟨nx,S'⟩:=S.alloc (w':=(c.w.alloc (.cells z.cells T))) (cells:=z.cells) (e:=T) rfl rfl rfl rfl ⟨c.w.heap.size,0,0,0⟩ rfl (.box T (oneOf t (adopt t (zeroN t) (c.n + 1)).1) false) (tag es (adopt t (zeroN t) (c.n + 1)).2) hvs (fun nx=>by
   obtain ⟨i1,i2⟩:=more_new (c:=c) (w':=(c.w.alloc (.cells z.cells T))) (s:=⟨c.w.heap.size,0,0,0⟩) (r:=(tag es (adopt t (zeroN t) (c.n + 1)).2).map fun _=>none)
   obtain ⟨k1,k2⟩:=key _ nx.le (more_none (c:=c))
   refine ⟨⟨c.w.heap.size,0,0,0⟩,z.cells,i2,heap_alloc_new c.w _,by simp,fun _ hi=>?_,by rw [hzc]; exact k1,?_⟩
   ·have:=S.im _ hi; simp at this
   ·rw [k2,← zeroCells_len,← hzc]; simp)
  obtain ⟨i1,i2⟩:=more_new (c:=c) (w':=(c.w.alloc (.cells z.cells T))) (s:=⟨c.w.heap.size,0,0,0⟩) (r:=(tag es (adopt t (zeroN t) (c.n + 1)).2).map fun _=>none)
  refine .inl ⟨_,_,hrun,_,rfl,nx,S',?_⟩
  rw [HVR.cell (by simp) (by simp) rfl]
  refine ⟨?_,rfl⟩
  simp only [HC]
  exact ⟨i1,_,i2,rfl⟩
 ·simp at hk
end ops
end Go.Proofs.YtnhbcpmmdblkjaaDoorAm

namespace Go.Proofs.YtnhbcpmmdblkjaaDoorAm
open Go

theorem fold_set (off : Nat) : ∀ (vs : List Value) (k : Nat) (cells : Array Value), off + k + vs.length ≤ cells.size →
    ((vs.zipIdx k).foldl (fun cs (x : Value × Nat) => cs.setIfInBounds (off + x.2) x.1) cells).toList = cells.toList.take (off + k) ++ vs ++ cells.toList.drop (off + k + vs.length)
  | [], k, cells, h => by simp
  | v :: vs, k, cells, h => by
    simp only [List.zipIdx_cons, List.foldl_cons]
    rw [fold_set off vs (k + 1) _ (by simp at h ⊢; omega)]
    have := list_seg_step cells.toList (off + k) v vs (by simp at h ⊢; omega)
    simp only [Array.toList_setIfInBounds]
    rw [show off + (k + 1) = off + k + 1 by omega, List.length_cons]
    exact this
theorem fill_cons {place:Nat→Option (Nat×Nat)} {cells:Array Value} {i off size:Nat} {v:Value} {rest:List (Nat×Value)} (hp:place i=some (off,size)) (hv:v.cells.size=size) (hf:off + size≤cells.size) :
  ∃ cells',Instr.fill place cells ((i,v)::rest)=Instr.fill place cells' rest∧cells'.toList=cells.toList.take off++v.cells.toList++cells.toList.drop (off + size)∧cells'.size=cells.size:=by
 refine ⟨v.cells.zipIdx.foldl (fun cs (x:Value×Nat)=>cs.setIfInBounds (off + x.2) x.1) cells,?_,?_,?_⟩
 ·have:¬ (v.cells.size ≠ size∨off + v.cells.size > cells.size):=by omega
  simp only [Instr.fill,hp]
  rw [if_neg (by simpa using this)]
 ·rw [← Array.foldl_toList,Array.toList_zipIdx]
  have:=fold_set off v.cells.toList 0 cells (by simp; omega)
  simpa [hv] using this
 ·have h1:(v.cells.zipIdx.foldl (fun cs (x:Value×Nat)=>cs.setIfInBounds (off + x.2) x.1) cells).toList.length=cells.size:=by
   rw [← Array.foldl_toList,Array.toList_zipIdx]
   rw [fold_set off v.cells.toList 0 cells (by simp; omega)]
   simp; omega
  simpa using h1

theorem hszL_take_set : ∀ (ps : List HV) (i j : Nat) (h p : HV), ps[i]? = some p → hsz h = hsz p → hszL ((ps.set i h).take j) = hszL (ps.take j)
  | [], _, _, _, _, hi, _ => by simp at hi
  | q :: ps, 0, j, h, p, hi, hs => by
    simp only [List.getElem?_cons_zero, Option.some.injEq] at hi; subst hi
    cases j <;> simp [hszL, hs]
  | q :: ps, i + 1, j, h, p, hi, hs => by
    simp only [List.getElem?_cons_succ] at hi
    cases j with
    | zero => simp
    | succ j => simp only [List.set_cons_succ, List.take_succ_cons, hszL, hszL_take_set ps i j h p hi hs]
theorem fillP_ok {c : Cx} {place : Nat → Option (Nat × Nat)} : ∀ (ix : List Nat) (hs : List HV) (vals : List Value) (parts parts' : List HV) (cells : Array Value), HCs c parts cells.toList → fillP ix hs parts = some parts' → HVL c hs vals →
    (∀ i p, parts[i]? = some p → place i = some (hszL (parts.take i), hsz p)) → ∃ cells', Instr.fill place cells (ix.zip vals) = some cells' ∧ HCs c parts' cells'.toList ∧ cells'.size = cells.size ∧ parts'.length = parts.length
  | [], [], vals, parts, parts', cells, h, hf, hv, hp => by
    simp only [fillP, Option.some.injEq] at hf; subst hf
    exact ⟨cells, by simp [Instr.fill], h, rfl, rfl⟩
  | i :: ix, h :: hs, vals, parts, parts', cells, hh, hf, hv, hp => by
    simp only [fillP] at hf
    split at hf
    · rename_i p hi
      split at hf
      · rename_i hc
        obtain ⟨v, rest, rfl, h1, h2⟩ := hv.cons
        have hu : h ≠ .undef := by rintro rfl; simp [hsz] at hc
        have ht : ∀ ps, h ≠ .tuple ps := by rintro ps rfl; simp [hsz] at hc
        rw [HVR.eq hu ht] at h1
        have hlen := h1.1.len hc.2
        have hpl := hp i p hi
        have hfit := (HCs.get hh hi).1
        have hl := HCs.len hh
        obtain ⟨cells1, e1, e2, e3⟩ := fill_cons (rest := ix.zip rest) (v := v) (cells := cells) hpl (by simpa using hlen.trans hc.1) (by simp at hl; omega)
        obtain ⟨g1, g2⟩ := HCs.put hh hi h1.1 hlen hc.1
        rw [hlen, hc.1, ← e2] at g1
        obtain ⟨cells', k1, k2, k3, k4⟩ := fillP_ok (place := place) ix hs rest (parts.set i h) parts' cells1 g1 hf h2 (fun j q hj => by
          rw [hszL_take_set parts i j h p hi hc.1]
          rw [List.getElem?_set] at hj
          split at hj
          · rename_i e; subst e
            split at hj
            · cases hj; rw [hc.1]; exact hpl
            · simp at hj
          · exact hp j q hj)
        exact ⟨cells', by rw [List.zip_cons_cons, e1, k1], k2, by omega, by simpa using k4⟩
      · simp at hf
    · simp at hf
  | [], _ :: _, _, _, _, _, _, hf, _, _ => by simp [fillP] at hf
  | _ :: _, [], _, _, _, _, _, hf, _, _ => by simp [fillP] at hf
def plc:Ty→Nat→List (Nat×Nat)
 | .pair a b,off=>(off,a.size)::plc b (off + a.size)
 | _,_=>[]
theorem plc_ok {P : Program} : ∀ (fs : List Field) (t : Ty) (off : Nat), FldOK P fs t off → fs.mapM (fun f => (P.info? f.type).map fun i => (f.offset, i.size)) = some (plc t off)
  | [], .unit, _, _ => rfl
  | f :: fs, .pair a b, off, h => by
    obtain ⟨h1, ⟨i, h2, h3⟩, h4⟩ := h
    have := plc_ok fs b _ h4
    simp [List.mapM_cons, h2, h3, h1, this, plc]
  | [], .pair .., _, h | [], .int _, _, h | [], .bool, _, h | [], .str, _, h | [], .sl _, _, h => by simp [FldOK] at h
  | _ :: _, .unit, _, h | _ :: _, .int _, _, h | _ :: _, .bool, _, h | _ :: _, .str, _, h | _ :: _, .sl _, _, h => by simp [FldOK] at h
theorem zPart_sz (c:Cx) (a b:Ty):hsz (oneOf a (zeroN a))=a.size:=by
 obtain ⟨z1,_⟩:=zeroN_ok c (.pair a b)
 simp only [zeroN,zeroCells,HCs] at z1
 obtain ⟨c1,c2,e,h1,h2,h3⟩:=z1
 have hl:=HCs.len h3
 have hb:=HCs.len (zeroN_ok c b).1
 have:c1.length + c2.length=(zeroCells a).length + (zeroCells b).length:=by rw [← List.length_append,← List.length_append,e]
 rw [zeroCells_len,zeroCells_len] at this
 rw [zeroCells_len] at hb
 omega
theorem plc_zero {P : Program} (c : Cx) : ∀ (fs : List Field) (t : Ty) (off i : Nat) (p : HV), FldOK P fs t off → (zeroN t)[i]? = some p → (plc t off)[i]? = some (off + hszL ((zeroN t).take i), hsz p)
  | f :: fs, .pair a b, off, 0, p, _, h => by
    simp only [zeroN, List.getElem?_cons_zero, Option.some.injEq] at h
    subst h
    simp [plc, hszL, zPart_sz c a b]
  | f :: fs, .pair a b, off, i + 1, p, hf, h => by
    simp only [zeroN, List.getElem?_cons_succ] at h
    obtain ⟨_, _, hf⟩ := hf
    have := plc_zero c fs b (off + a.size) i p hf h
    simp only [plc, List.getElem?_cons_succ, this, zeroN, List.take_succ_cons, hszL, zPart_sz c a b]
    simp [Nat.add_assoc]
  | [], .unit, _, _, _, _, h => by simp [zeroN] at h
  | [], .pair .., _, _, _, h, _ | [], .int _, _, _, _, h, _ | [], .bool, _, _, _, h, _ | [], .str, _, _, _, h, _ | [], .sl _, _, _, _, h, _ => by simp [FldOK] at h
  | _ :: _, .unit, _, _, _, h, _ | _ :: _, .int _, _, _, _, h, _ | _ :: _, .bool, _, _, _, h, _ | _ :: _, .str, _, _, _, h, _ | _ :: _, .sl _, _, _, _, h, _ => by simp [FldOK] at h

section ops
variable {gd:Gd} {P:Program} {E:Env} {α:Type} {r:α} {st:List Blk}
theorem zip_map (ps:List (Nat×Operand)) (ρ:Operand→Value):ps.map (fun x=>(x.1,ρ x.2))=(ps.map (·.1)).zip ((ps.map (·.2)).map ρ):=by
 induction ps with
 | nil=>rfl
 | cons p ps ih=>simp only [List.map_cons,List.zip_cons_cons,ih]
theorem step_build (hE : EnvOK P E) {o : Oper} {T : Nat} {ps : Array (Nat × Operand)} (ho : o.op = .build T ps) {hs : List HV} {K : Bool → HV → List Blk → Option α}
    (hk : (match lk E.ty T with
    | some t => match t.agg, fillP (ps.toList.map (·.1)) hs (zeroN t) with
      | true, some parts => match tag (kindsOf (lk E.zs T)) (adopt t parts st.length).2 with
        | [] => K true (mkAgg (adopt t parts st.length).1) st
        | bs => K false (mkAgg (adopt t parts st.length).1) (st ++ bs)
      | _, _ => none
    | none => none) = some r) : Step gd P o hs st K r := by
  split at hk
  · rename_i t hT
    split at hk
    · rename_i parts hag hfp
      obtain ⟨hty, ⟨i, z, hi, hsize, hz, hzc⟩, hpos⟩ := hE.ty T t hT
      obtain ⟨fs, hu, hfld⟩ : ∃ fs, P.underlying T = some (.struct fs) ∧ FldOK P fs.toList t 0 := by
        cases t <;> simp [Ty.agg] at hag <;> exact hty
      have core : ∀ (c : Cx) (ρ : Operand → Value), HVL c hs (o.op.operands.toList.map ρ) →
          ∃ cells : Array Value, (execOp ρ o).run P c.w = .ok (.value (.agg cells)) c.w ∧ HCs c parts cells.toList ∧ parts.length = (zeroN t).length := by
        intro c ρ hh
        rw [ho] at hh
        have e : (Op.build T ps).operands.toList.map ρ = (ps.toList.map (·.2)).map ρ := by simp [Op.operands]
        rw [e] at hh
        obtain ⟨z1, _⟩ := zeroN_ok c t
        rw [← hzc] at z1
        obtain ⟨cells, k1, k2, k3, k4⟩ := fillP_ok (place := ((plc t 0).toArray[·]?)) _ _ _ _ _ _ z1 hfp hh (fun i p hp => by
          have := plc_zero c fs.toList t 0 i p hfld hp
          simpa using this)
        refine ⟨cells, ?_, k2, k4⟩
        have hb : P.built T (ps.map fun x => (x.1, ρ x.2)).toList = some cells := by
          unfold Program.built
          simp only [hi, hu, hz, plc_ok fs.toList t 0 hfld]
          rw [Array.toList_map, zip_map]
          exact k1
        simp only [execOp, ho]
        rw [Sem.run_bind]
        have := run_build c.w T (ps.map fun x => (x.1, ρ x.2)) cells hb
        rw [this]; rfl
      split at hk
      · rename_i hnb
        refine ⟨true, _, st, hk, fun c ρ S hh => ?_, fun _ => rfl, .refl⟩
        obtain ⟨cells, e1, e2, _⟩ := core c ρ hh
        refine .inl ⟨_, _, e1, c, rfl, .refl c, S, ?_⟩
        obtain ⟨g1, _, _⟩ := adopt_ok (Nx.refl c).le t parts cells.toList st.length e2 (fun i h1 h2 => by
          have := tag_length (kindsOf (lk E.zs T)) (adopt t parts st.length).2
          rw [hnb] at this; simp at this; omega)
        obtain ⟨k1, k2, k3⟩ := mkAgg_ok g1
        have hu2 : mkAgg (adopt t parts st.length).1 ≠ .undef := by intro e; rw [e] at k3; simp [hagg] at k3
        have ht2 : ∀ qs, mkAgg (adopt t parts st.length).1 ≠ .tuple qs := by intro qs e; rw [e] at k3; simp [hagg] at k3
        rw [HVR.eq hu2 ht2]
        exact ⟨k1, by rw [k3]; rfl⟩
      · rename_i hnb
        refine ⟨false, _, _, hk, fun c ρ S hh => ?_, by simp, .app _⟩
        obtain ⟨cells, e1, e2, _⟩ := core c ρ hh
        rw [S.len] at *
        generalize kindsOf (lk E.zs T) = es at *
        have hvs : ∀ x, x ∈ tag es (adopt t parts c.n).2 → ∃ e u, x = .arr e u [] false := by
          have := adopt_ok (c := c) (c' := c.more c.w (List.replicate (adopt t parts c.n).2.length none)) ⟨fun _ h => h, fun _ _ => rfl, fun i j hi e => by cases e; exact ⟨by simp [Cx.more]; omega, by simp [Cx.more, hi]⟩⟩ t parts cells.toList c.n e2 (fun i h1 h2 => ⟨by simp [Cx.more]; omega, by
            simp only [Cx.more]
            rw [if_neg (by omega), List.getElem?_replicate]
            split <;> rfl⟩)
          exact tag_mem es _ fun x hx => ⟨0, this.2.2 x hx⟩
        obtain ⟨nx, S'⟩ := S.virt (tag es (adopt t parts c.n).2) hvs
        refine .inl ⟨_, _, e1, c.more c.w ((tag es (adopt t parts c.n).2).map fun _ => none), rfl, nx, S', ?_⟩
        obtain ⟨g1, _, _⟩ := adopt_ok nx.le t parts cells.toList c.n e2 (fun i h1 h2 => virt_none (c := c) i h1 (by rw [tag_length]; exact h2))
        obtain ⟨k1, k2, k3⟩ := mkAgg_ok g1
        have hu2 : mkAgg (adopt t parts c.n).1 ≠ .undef := by intro e; rw [e] at k3; simp [hagg] at k3
        have ht2 : ∀ qs, mkAgg (adopt t parts c.n).1 ≠ .tuple qs := by intro qs e; rw [e] at k3; simp [hagg] at k3
        rw [HVR.eq hu2 ht2]
        exact ⟨k1, by rw [k3]; rfl⟩
    · simp at hk
  · simp at hk
end ops
end Go.Proofs.YtnhbcpmmdblkjaaDoorAm

namespace Go.Proofs.YtnhbcpmmdblkjaaDoorAm
open Go

theorem range_flat (z : Array Value) : ∀ (n : Nat), 0 < z.size → ((List.range (n * z.size)).map fun i => z[i % z.size]!) = (List.replicate n z.toList).flatten
  | 0, _ => by simp
  | n + 1, h => by
    rw [Nat.add_mul, Nat.one_mul, List.range_add, List.map_append, range_flat z n h, List.replicate_succ', List.flatten_append]
    congr 1
    simp only [List.map_map, List.flatten_cons, List.flatten_nil, List.append_nil]
    apply List.ext_getElem
    · simp
    · intro i h1 h2
      have : i < z.size := by simpa using h1
      simp [Nat.mod_eq_of_lt this, this]
theorem snap_ne {st:List Blk} {h:HV} {t:Ty} {x:t.den} (e:snap st h=some ⟨t,x⟩):h ≠ .undef∧∀ ps,h ≠ .tuple ps :=
 ⟨by rintro rfl; simp [snap] at e,by rintro ps rfl; simp [snap] at e⟩
theorem fillE_ok {gd : Gd} {c : Cx} {st : List Blk} (S : SG gd c st) {t : Ty} {Im' : Nat → Prop} (hi : ∀ b, c.Im b → Im' b) (hpos : 0 < t.size) : ∀ (ix : List Nat) (hs : List HV) (vals : List Value) (xs xs' : List t.den) (cells : Array Value),
    RowR (cellsR c.w Im' t) xs cells.toList → fillE st t ix hs xs = some xs' → HVL c hs vals → (∀ id ∈ idsOfL hs, ∀ s, c.σ id = some s → Im' s.b) →
    ∃ cells', Instr.fill (fun i => some (i * t.size, t.size)) cells (ix.zip vals) = some cells' ∧ RowR (cellsR c.w Im' t) xs' cells'.toList ∧ cells'.size = cells.size ∧ List.length xs' = List.length xs
  | [], [], vals, xs, xs', cells, h, hf, hv, _ => by
    simp only [fillE, Option.some.injEq] at hf; subst hf
    exact ⟨cells, by simp [Instr.fill], h, rfl, rfl⟩
  | i :: ix, h :: hs, vals, xs, xs', cells, hh, hf, hv, hid => by
    simp only [fillE] at hf
    split at hf
    · rename_i t' x hsn
      split at hf
      · rename_i y hy
        obtain ⟨e, hy⟩ := castTo_eq hy
        subst e
        simp only at hy; subst hy
        split at hf
        · rename_i hlt
          obtain ⟨v, rest, rfl, h1, h2⟩ := hv.cons
          obtain ⟨hu, ht⟩ := snap_ne hsn
          rw [HVR.eq hu ht] at h1
          have hc := snap_ok S.toSR hi h1.1 hsn (fun id hm => hid id (by simp [idsOfL, hm]))
          have hlen := hc.length
          have hl : cells.toList.length = List.length xs * t'.size := RowR.length (fun _ _ h => h.length) hh
          have hfit : i * t'.size + t'.size ≤ cells.size := by
            have : i * t'.size + t'.size ≤ List.length xs * t'.size := by rw [← Nat.succ_mul]; exact Nat.mul_le_mul_right _ hlt
            simp at hl; omega
          obtain ⟨cells1, e1, e2, e3⟩ := fill_cons (place := fun i => some (i * t'.size, t'.size)) (rest := ix.zip rest) (v := v) (cells := cells) (i := i) rfl (by simpa using hlen) hfit
          have g1 := hh.set (fun _ _ h => h.length) (i := i) hc hlt
          rw [← e2] at g1
          obtain ⟨cells', k1, k2, k3, k4⟩ := fillE_ok S hi hpos ix hs rest _ xs' cells1 g1 hf h2 (fun id hm => hid id (by simp [idsOfL, hm]))
          exact ⟨cells', by rw [List.zip_cons_cons, e1, k1], k2, by omega, by simpa using k4⟩
        · simp at hf
      · simp at hf
    · simp at hf
  | [], _ :: _, _, _, _, _, _, hf, _, _ => by simp [fillE] at hf
  | _ :: _, [], _, _, _, _, _, hf, _, _ => by simp [fillE] at hf
theorem zero_rows {P:Program} {e:Nat} {t:Ty} (w:World) (Im:Nat→Prop) {z:Value} (hzc:z.cells.toList=zeroCells t) (n:Nat):RowR (cellsR w Im t) (List.replicate n (zeroD t)) (List.replicate n z.cells.toList).flatten:=by
 rw [hzc]; exact RowR.replicate (zero_cellsR w Im t) n

theorem snap_ids {st:List Blk} {h:HV} {t:Ty} {x:t.den} (e:snap st h=some ⟨t,x⟩):∀ id ∈ idsOf h,∃ b,st[id]?=some b∧b ≠ .gone :=
 go h _ e
where
  go : ∀ (h : HV) (s : Sigma Ty.den), snap st h = some s → ∀ id ∈ idsOf h, ∃ b, st[id]? = some b ∧ b ≠ .gone
    | .iv .., _, _, id, hm => by simp [idsOf] at hm
    | .own i, _, e, id, hm => by
      simp only [idsOf, List.mem_singleton] at hm; subst hm
      simp only [snap] at e
      split at e
      · rename_i hb; exact ⟨_, hb, by simp⟩
      · simp at e
    | .sub i _ _, _, e, id, hm => by
      simp only [idsOf, List.mem_singleton] at hm; subst hm
      simp only [snap] at e
      split at e
      · rename_i hb; exact ⟨_, hb, by simp⟩
      · simp at e
    | .agg ps, _, e, id, hm => goL ps _ (by simpa only [snap] using e) id (by simpa only [idsOf] using hm)
    | .undef, _, e, _, _ | .skip, _, e, _, _ | .nn .., _, e, _, _ | .nil, _, e, _, _ | .lp .., _, e, _, _ | .le .., _, e, _, _ | .ip .., _, e, _, _ | .tuple _, _, e, _, _ | .fn .., _, e, _, _ | .er _, _, e, _, _ => by simp [snap] at e
  goL : ∀ (ps : List HV) (s : Sigma Ty.den), snapL st ps = some s → ∀ id ∈ idsOfL ps, ∃ b, st[id]? = some b ∧ b ≠ .gone
    | [], _, _, id, hm => by simp [idsOfL] at hm
    | p :: ps, _, e, id, hm => by
      simp only [snapL] at e
      split at e
      · rename_i a xa b xb ea eb
        simp only [idsOfL, List.mem_append] at hm
        rcases hm with hm | hm
        · exact go p _ ea id hm
        · exact goL ps _ eb id hm
      · simp at e
theorem fillE_ids {st : List Blk} {t : Ty} : ∀ (ix : List Nat) (hs : List HV) (xs xs' : List t.den), fillE st t ix hs xs = some xs' → ∀ id ∈ idsOfL hs, ∃ b, st[id]? = some b ∧ b ≠ .gone
  | [], [], _, _, _, id, hm => by simp [idsOfL] at hm
  | i :: ix, h :: hs, xs, xs', hf, id, hm => by
    simp only [fillE] at hf
    split at hf
    · rename_i t' x hsn
      split at hf
      · split at hf
        · simp only [idsOfL, List.mem_append] at hm
          rcases hm with hm | hm
          · exact snap_ids hsn id hm
          · exact fillE_ids ix hs _ _ hf id hm
        · simp at hf
      · simp at hf
    · simp at hf
  | [], _ :: _, _, _, hf, _, _ => by simp [fillE] at hf
  | _ :: _, [], _, _, hf, _, _ => by simp [fillE] at hf

section ops
variable {gd:Gd} {P:Program} {E:Env} {α:Type} {r:α} {st:List Blk}
theorem newArr {c:Cx} (S:SG gd c st) {t:Ty} (xs:List t.den) (e:Nat) (cells:Array Value) (cap:Nat) (h1:List.length xs≤cap) (h2:cap≤maxLen) (h3:cells.size=cap * t.size) (he:e ≠ 0) {w':World}
  (hw:w'.heap=c.w.heap.push (.cells cells e)) (hos:w'.os=c.w.os) (htape:w'.tape=c.w.tape) (hout:w'.output=c.w.output)
  (hr:RowR (cellsR c.w c.Im t) xs (cells.toList.take (List.length xs * t.size))) :
  ∃ c',c'.w=w'∧Nx c c'∧SG gd c' (st++[.arr e t xs false])∧HVR c' (.own st.length) (.slice (some ⟨c.w.heap.size,0,none⟩) (List.length xs) cap):=by
 obtain ⟨i1,i2⟩:=more_new (c:=c) (w':=w') (s:=⟨c.w.heap.size,List.length xs,cap,t.size⟩) (r:=[])
 obtain ⟨nx,S'⟩:=S.alloc hw hos htape hout ⟨c.w.heap.size,List.length xs,cap,t.size⟩ rfl (.arr e t xs false) [] (by simp) (fun nx=>by
  simp only [BlkR,List.map_nil,i2]
  refine ⟨trivial,trivial,h1,h2,by simp,fun _ hi=>?_,cells,?_,Nat.le_of_eq h3.symm,?_⟩
  ·have:=S.im _ hi; simp at this
  ·simp [Cx.more,hw]
  ·exact ⟨hr.mono fun _ _ h=>h.mono nx.le.im nx.le.heap,he⟩)
 refine ⟨_,rfl,nx,S',?_⟩
 rw [HVR.cell (by simp) (by simp) rfl]
 refine ⟨?_,rfl⟩
 simp only [HC,S.len,List.map_nil,i2]
 exact ⟨i1,trivial⟩
theorem step_buildSlice (hE : EnvOK P E) {o : Oper} {T n : Nat} {ps : Array (Nat × Operand)} (ho : o.op = .buildSlice T n ps) {hs : List HV} {K : Bool → HV → List Blk → Option α}
    (hk : (match lk E.sl T with
    | some (e, t) => match fillE st t (ps.toList.map (·.1)) hs (List.replicate n (zeroD t)) with
      | some xs => if n * t.size ≤ 16777216 then K false (.own st.length) (freezeAt st (idsOfL hs) ++ [.arr e t xs false]) else none
      | none => none
    | none => none) = some r) : Step gd P o hs st K r := by
  split at hk
  · rename_i e t hT
    split at hk
    · rename_i xs hf
      split at hk
      · rename_i hlim
        refine ⟨_, _, _, hk, fun c ρ S hh => ?_, by simp, .none (by simp [wrB, ho])⟩
        obtain ⟨hu, ⟨⟨i, z, hi, hsize, hz, hzc⟩, hpos⟩, he0⟩ := hE.sl T e t hT
        rw [ho] at hh
        have eo : (Op.buildSlice T n ps).operands.toList.map ρ = (ps.toList.map (·.2)).map ρ := by simp [Op.operands]
        rw [eo] at hh
        obtain ⟨nx1, S1⟩ := S.froze (idsOfL hs) (fillE_ids _ _ _ _ hf)
        have hzs : z.cells.size = t.size := by rw [← zeroCells_len, ← hzc]; simp
        have hrows : RowR (cellsR c.w (c.froze (idsOfL hs)).Im t) (List.replicate n (zeroD t)) ((Array.range (n * t.size)).map (z.cells[· % z.cells.size]!)).toList := by
          have : ((Array.range (n * t.size)).map (z.cells[· % z.cells.size]!)).toList = (List.replicate n z.cells.toList).flatten := by
            rw [← range_flat z.cells n (by omega), hzs]
            simp [Array.toList_range]
          rw [this]; exact zero_rows (P := P) (e := e) c.w _ hzc n
        obtain ⟨cells, k1, k2, k3, k4⟩ := fillE_ok S (Im' := (c.froze (idsOfL hs)).Im) nx1.le.im hpos _ _ _ _ xs _ hrows hf hh (fun id hm s hs' => .inr ⟨id, hm, s, hs', rfl⟩)
        have hlx : List.length xs = n := by simpa using k4
        have hcs : cells.size = n * t.size := by simpa using k3
        have hrun : (execOp ρ o).run P c.w = .ok (.value (.slice (some ⟨c.w.heap.size, 0, none⟩) n n)) (c.w.alloc (.cells cells e)) := by
          have hlim' : ¬ n * t.size > 2 ^ 24 := by omega
          have hfill : Instr.fill (fun i => some (i * t.size, t.size)) ((Array.range (n * t.size)).map (z.cells[· % z.cells.size]!)) (List.map (fun x => (x.1, ρ x.2)) ps.toList) = some cells := by
            rw [zip_map]; exact k1
          simp only [execOp, ho]
          by_cases hn : n * t.size = 0
          · have hn0 : n = 0 := by
              rcases Nat.mul_eq_zero.1 hn with h | h
              · exact h
              · omega
            subst hn0
            have hfill0 : Instr.fill (fun i => some (i * t.size, t.size)) #[] (List.map (fun x => (x.1, ρ x.2)) ps.toList) = some cells := by simpa [Array.range_zero'] using hfill
            simp [Instr.buildSlice, run_underlying hu, sizeOf, typeInfo, hi, hsize, newRow, Array.range_zero', hfill0]
          · simp [Instr.buildSlice, run_underlying hu, sizeOf, typeInfo, zeroValue, hi, hsize, hz, newRow, hlim', hn, hfill]
        obtain ⟨c', e1, nx2, S2, hv⟩ := newArr S1 xs e cells n (by omega) (by
          have : n ≤ n * t.size := Nat.le_mul_of_pos_right _ hpos
          simp only [maxLen]; omega) hcs he0 (w' := c.w.alloc (.cells cells e)) rfl rfl rfl rfl (by
            rw [hlx, List.take_of_length_le (by simp [hcs])]; exact k2)
        refine .inl ⟨_, _, hrun, c', e1, nx1.trans nx2, S2, ?_⟩
        rw [freezeAt_length, hlx] at hv
        exact hv
      · simp at hk
    · simp at hk
  · simp at hk
theorem step_makeSlice (hE : EnvOK P E) {o : Oper} {T : Nat} {x y : Operand} (ho : o.op = .makeSlice T x y) {n cp : Int} {K : Bool → HV → List Blk → Option α}
    (hk : (match lk E.sl T with
    | some (e, t) => match lk E.lim e with
      | some l => match decide ((0 : Int) ≤ n) with
        | true => (match decide (n ≤ cp) with
          | true => (match decide (cp ≤ l) with
            | true => K false (.own st.length) (st ++ [.arr e t (List.replicate n.toNat (zeroD t)) false])
            | false => none)
          | false => none)
        | false => none
      | none => none
    | none => none) = some r) : Step gd P o [.iv (.int .i64) n, .iv (.int .i64) cp] st K r := by
  split at hk
  · rename_i e t hT
    split at hk
    · rename_i l hl
      have hk3 : ∃ (h0 : decide ((0 : Int) ≤ n) = true) (h1 : decide (n ≤ cp) = true) (h2 : decide (cp ≤ l) = true), K false (.own st.length) (st ++ [.arr e t (List.replicate n.toNat (zeroD t)) false]) = some r := by
        split at hk
        · rename_i h0
          split at hk
          · rename_i h1
            split at hk
            · rename_i h2; exact ⟨h0, h1, h2, hk⟩
            · simp at hk
          · simp at hk
        · simp at hk
      · obtain ⟨h0, h1, h2, hk⟩ := hk3
        have h0 : 0 ≤ n := by simpa using h0
        have h1 : n ≤ cp := by simpa using h1
        have h2 : cp ≤ l := by simpa using h2
        refine ⟨_, _, _, hk, fun c ρ S hh => ?_, by simp, .none (by simp [wrB, ho])⟩
        obtain ⟨hu, ⟨⟨i, z, hi, hsize, hz, hzc⟩, hpos⟩, he0⟩ := hE.sl T e t hT
        obtain ⟨i', hi', hb, hm⟩ := hE.lim e l hl
        rw [hi] at hi'; cases hi'
        rw [ho] at hh
        obtain ⟨v1, v2⟩ := hh.a2
        rw [HVR.int] at v1 v2
        have hbytes : (i.bytes : Int) * cp ≤ 281474976710656 := by
          have a1 : (cp.toNat * i.bytes : Nat) ≤ l * i.bytes := Nat.mul_le_mul_right _ (by omega)
          have a2 : ((cp.toNat * i.bytes : Nat) : Int) = (i.bytes : Int) * cp := by
            rw [Int.natCast_mul, Int.toNat_of_nonneg (by omega), Int.mul_comm]
          omega
        have hmx : cp ≤ 9223372036854775807 := by simp only [maxLen] at hm; omega
        have hrun := run_make (P := P) c.w T e i z hu hi hz .i64 .i64 n cp h0 h1 hbytes hmx
        have hzs : z.cells.size = t.size := by rw [← zeroCells_len, ← hzc]; simp
        obtain ⟨c', e1, nx, S', hv⟩ := newArr S (List.replicate n.toNat (zeroD t)) e (madeCells z.cells (cp.toNat * i.size)) cp.toNat (by simp; omega) (by omega) (by rw [size_madeCells, hsize]) he0
          (w' := c.w.alloc (.cells (madeCells z.cells (cp.toNat * i.size)) e)) rfl rfl rfl rfl (by
            have : (madeCells z.cells (cp.toNat * i.size)).toList.take (List.length (List.replicate n.toNat (zeroD t)) * t.size) = (List.replicate n.toNat z.cells.toList).flatten := by
              rw [← range_flat z.cells n.toNat (by omega), hzs, List.length_replicate]
              simp only [madeCells, Array.toList_map, Array.toList_range, hzs, hsize]
              rw [← List.map_take, List.take_range, Nat.min_eq_left (Nat.mul_le_mul_right _ (by omega))]
            rw [this]; exact zero_rows (P := P) (e := e) c.w _ hzc _)
        refine .inl ⟨_, _, by simp only [execOp, ho, v1, v2]; rw [Sem.run_bind, hrun]; rfl, c', e1, nx, S', ?_⟩
        simpa using hv
    · simp at hk
  · simp at hk
end ops
end Go.Proofs.YtnhbcpmmdblkjaaDoorAm

namespace Go.Proofs.YtnhbcpmmdblkjaaDoorAm
open Go

section ops
variable {gd:Gd} {P:Program} {E:Env} {α:Type} {r:α} {st:List Blk}

theorem storeVar_run (hE:EnvOK P E) {T n:Nat} {g:Bool} (hl:lk E.lay T=some (n,g)) (w:World) (b off:Nat) (cur:Array Value) (e:Nat) (v:Value)
  (hb:w.heap[b]?=some (.cells cur e (0,0))) (hv:v.cells.size=n) (hf:off + n≤cur.size) (h1:∀ x ∈ v.cells.toList,x.oneCell'=true) :
  (Instr.storeAt T (.pointer (some ⟨b,off,none⟩)) v).run P w=.ok () (w.setRow b (cur.toList.take off++v.cells.toList++cur.toList.drop (off + n)).toArray):=by
 obtain ⟨hpos,⟨i,hi,hin⟩,_⟩:=hE.lay T n g hl
 have hst:=run_storeCells_at P b off e v.cells.toList 0 cur w hb (by simp; omega) h1
 simp only [Nat.add_zero] at hst
 have hlen:v.cells.toList.length=n:=by simpa using hv
 rw [hlen] at hst
 simp only [Instr.storeAt,Instr.sureAddr,Sem.run_bind,Sem.run_pure,Result.andThen_ok,storeVar,sizeOf,typeInfo,run_program,hi,hin,hv,ne_eq,not_true_eq_false,if_false]
 exact hst
theorem splice_take {β:Type} {cur vs:List β} {a n M:Nat} (h:a + n≤M) (hv:vs.length=n) (hM:M≤cur.length) :
  (cur.take a++vs++cur.drop (a + n)).take M=(cur.take M).take a++vs++(cur.take M).drop (a + n):=by
 rw [List.take_append,List.take_of_length_le (l:=cur.take a++vs) (by simp; omega),List.take_take,Nat.min_eq_left (by omega),List.drop_take]
 congr 2
 simp; omega
theorem splice_in {β:Type} {L vs:List β} {b o n sz:Nat} (ho:o + n≤sz) (hb:b + sz≤L.length) :
  L.take b++(((L.drop b).take sz).take o++vs++((L.drop b).take sz).drop (o + n))++L.drop (b + sz)=L.take (b + o)++vs++L.drop (b + o + n):=by
 have h1:L.take (b + o)=L.take b++((L.drop b).take sz).take o:=by
  rw [List.take_add,List.take_take,Nat.min_eq_left (by omega)]
 have h2:L.drop (b + o + n)=((L.drop b).take sz).drop (o + n)++L.drop (b + sz):=by
  rw [List.drop_take,List.drop_drop,← Nat.add_assoc]
  conv=>lhs; rw [← List.take_append_drop (sz - (o + n)) (L.drop (b + o + n))]
  congr 1
  rw [List.drop_drop]
  congr 1; omega
 rw [h1,h2]; simp
theorem putBox {c : Cx} (S : SG gd c st) {id e : Nat} {cont h h' cont' : HV} {path : List Nat} {o : Nat} {vs : List Value} (hb : st[id]? = some (.box e cont false)) {s : Pl} (hs : c.σ id = some s)
    (hg : getP cont path = some h) (ho : offP cont path = some o) (hset : setP cont path h' = some cont') (hv : HC c h' vs) (hvl : vs.length = hsz h') (hz : hsz h' = hsz h) :
    ∃ cur : Array Value, c.w.heap[s.b]? = some (.cells cur e (0, 0)) ∧ o + hsz h ≤ cur.size ∧
      let w' := c.w.setRow s.b (cur.toList.take o ++ vs ++ cur.toList.drop (o + hsz h)).toArray
      Nx c ⟨w', c.Im, c.σ, c.n⟩ ∧ SG gd ⟨w', c.Im, c.σ, c.n⟩ (st.set id (.box e cont' false)) := by
  obtain ⟨s', cur, hs', a1, a2, a3, a4, a5⟩ := by simpa only [BlkR] using S.blk id _ hb
  rw [hs] at hs'; cases hs'
  have hlen : cur.toList.length = hsz cont := by simpa using a5
  obtain ⟨b1, b2⟩ := getP_ok a4 hlen hg ho
  obtain ⟨d1, d2, d3⟩ := setP_ok a4 hlen hg ho hset hv hvl hz
  refine ⟨cur, a1, by omega, ?_⟩
  rw [hvl, hz] at d1
  refine S.put hb rfl hs (fun b hb hne => setRow_other _ _ _ _ hne) (by simp) rfl rfl rfl (a3 trivial) fun nx => ?_
  refine ⟨s, _, hs, setRow_heap c.w s.b cur _ e (0, 0) a1, by simp, fun _ => a3 trivial, ?_, ?_⟩
  · simpa using d1.mono nx.le (mapId_some _)
  · rw [d2]; simp; omega
theorem step_store (hE:EnvOK P E) {o:Oper} {T:Nat} {x0 y':Operand} (ho:o.op=.store T x0 y') {a v:HV} {K:Bool→HV→List Blk→Option α}
  (hk:(storeV E T a v st fun st'=>K false .undef st')=some r):Step gd P o [a,v] st K r:=by
 unfold storeV at hk
 split at hk
 ·rename_i id path off
  split at hk
  ·rename_i e cont hb
   split at hk
   ·rename_i h of n g hgp hop hl
    split at hk
    ·rename_i hc
     obtain ⟨eo,hn,hvn⟩:=hc
     subst eo
     obtain ⟨hpos,_⟩:=hE.lay T n g hl
     have hu:v ≠ .undef:=by rintro rfl; simp [hsz] at hvn; omega
     have ht:∀ ps,v ≠ .tuple ps:=by rintro ps rfl; simp [hsz] at hvn; omega
     split at hk
     ·rename_i e' t' hsl
      split at hk
      ·rename_i cont' hset
       refine ⟨false,.undef,_,hk,fun c ρ S hh=>?_,by simp,fun W hW i hi hn=>by
        simp only [wrB,ho,Option.some.injEq] at hW; subst hW
        rw [List.getElem?_append_left (by simpa using hi),List.getElem?_set_ne (by rintro rfl; simp at hn)]⟩
       rw [ho] at hh
       obtain ⟨h1,h2⟩:=hh.a2
       rw [HVR.nil] at h2
       rw [HVR.cell (by simp) (by simp) rfl] at h1
       obtain ⟨⟨hid,s,hs,e1⟩,_⟩:=by simpa only [HC] using h1
       simp only [List.cons.injEq,and_true] at e1
       obtain ⟨nx1,S1⟩:=S.virt [.arr e' t' [] false] (by simp)
       obtain ⟨j1,j2⟩:=virt_none (c:=c) (w':=c.w) (vs:=[Blk.arr e' t' [] false]) c.n (Nat.le_refl _) (by simp)
       have hw1:(c.more c.w ([Blk.arr e' t' [] false].map fun _=>none)).w=c.w:=rfl
       have hs1:(c.more c.w ([Blk.arr e' t' [] false].map fun _=>none)).σ id=some s:=(nx1.le.ids id id hid rfl).2.trans hs
       generalize c.more c.w ([Blk.arr e' t' [] false].map fun _=>none)=c1 at nx1 S1 j1 j2 hw1 hs1
       have hlt:id < st.length:=by rw [S.len]; exact hid
       simp only [hsz] at hvn
       obtain ⟨cur,k1,k2,nx2,S2⟩:=putBox S1 (h':=.own st.length) (vs:=[.slice none 0 0]) (by rw [List.getElem?_append_left hlt]; exact hb) hs1 hgp hop hset
        (by simp only [HC,S.len,j2]; exact ⟨j1,trivial⟩) (by rfl) (by simp only [hsz]; omega)
       rw [hw1] at k1
       have hrun:=storeVar_run hE hl c.w s.b of cur e (.slice none 0 0) k1 (by simp [Value.cells]; omega) (by omega) (by simp [Value.cells,Value.oneCell'])
       rw [hn,hw1] at nx2 S2
       refine .inr (.inl ⟨_,by simp only [execOp,ho,e1,h2]; rw [Sem.run_bind,hrun]; rfl,_,rfl,nx1.trans nx2,?_,trivial⟩)
       rw [List.set_append_left _ _ hlt] at S2
       exact S2
      ·simp at hk
     ·split at hk
      ·rename_i cont' hset
       refine ⟨false,.undef,_,hk,fun c ρ S hh=>?_,by simp,fun W hW i hi hn=>by
        simp only [wrB,ho,Option.some.injEq] at hW; subst hW
        rw [List.getElem?_set_ne (by rintro rfl; simp at hn)]⟩
       rw [ho] at hh
       obtain ⟨h1,h2⟩:=hh.a2
       rw [HVR.cell (by simp) (by simp) rfl] at h1
       obtain ⟨⟨hid,s,hs,e1⟩,_⟩:=by simpa only [HC] using h1
       simp only [List.cons.injEq,and_true] at e1
       rw [HVR.eq hu ht] at h2
       have hlen:=h2.1.len (by omega)
       obtain ⟨cur,k1,k2,nx2,S2⟩:=putBox S hb hs hgp hop hset h2.1 hlen (by omega)
       have hrun:=storeVar_run hE hl c.w s.b of cur e (ρ y') k1 (by
        have:(ρ y').cells.toList.length=n:=by omega
        simpa using this) (by omega) (h2.1.oneEach hlen)
       rw [hn] at nx2 S2
       exact .inr (.inl ⟨_,by simp only [execOp,ho,e1]; rw [Sem.run_bind,hrun]; rfl,_,rfl,nx2,S2,trivial⟩)
      ·simp at hk
    ·simp at hk
   ·simp at hk
  ·simp at hk
 ·rename_i id i path off
  split at hk
  ·rename_i e t xs hb
   split at hk
   ·simp at hk
   ·rename_i x hx
    split at hk
    ·simp at hk
    rename_i tv xv hsn
    split at hk
    ·rename_i h of n g hgp hop hl
     split at hk
     ·rename_i hc
      obtain ⟨eo,hn,hvn,hnid⟩:=hc
      subst eo
      split at hk
      ·rename_i t' y hset
       split at hk
       ·rename_i yy hy
        obtain ⟨et,hy⟩:=castTo_eq hy
        subst et
        simp only at hy; subst hy
        refine ⟨false,.undef,_,hk,fun c ρ S hh=>?_,by simp,.none (by simp [wrB,ho])⟩
        rw [ho] at hh
        obtain ⟨h1,h2⟩:=hh.a2
        rw [HVR.cell (by simp) (by simp) rfl] at h1
        obtain ⟨⟨hid,s,hs,hi,e1⟩,_⟩:=by simpa only [HC] using h1
        simp only [List.cons.injEq,and_true] at e1
        obtain ⟨hpos,_⟩:=hE.lay T n g hl
        obtain ⟨hu,ht⟩:=snap_ne hsn
        rw [HVR.eq hu ht] at h2
        obtain ⟨nx1,S1⟩:=S.froze (idsOf v) (snap_ids hsn)
        have hcv:=snap_ok S.toSR nx1.le.im h2.1 hsn (fun id hm s hs=>.inr ⟨id,hm,s,hs,rfl⟩)
        have hb1:(freezeAt st (idsOf v))[id]?=some (.arr e t' xs false):=by
         rw [freezeAt_get,if_neg (by simpa using hnid)]; exact hb
        have hvl:=hcv.length
        obtain ⟨a1,a2,a3,a4,cur,a5,a6,a7⟩:=arr_rows S1.toSR hb1 (s:=s) hs
        obtain ⟨b1,b2⟩:=elem_seg (n:=0) a7 hx
        obtain ⟨t2,x2,e2,d1,d2⟩:=ivGet_ok b1 hgp hop
        subst e2
        simp only [hsz] at hn
        have hlt:i < List.length xs:=(List.getElem?_eq_some_iff.1 hx).1
        have hel:((cur.toList.drop (i * t'.size)).take t'.size).length=hsz (.iv t' x):=b1.length
        obtain ⟨f1,f2,_⟩:=setP_ok (c:=c.froze (idsOf v)) (h:=.iv t' x) (g:=.iv t2 x2) (v:=.iv tv xv) (path:=path) (o:=of) (vs:=(ρ y').cells.toList) (by simpa only [HC] using b1) hel
         (by cases path with
          | nil=>simpa [getP,ivGet] using hgp
          | cons p q=>simpa [getP] using hgp)
         (by cases path with
          | nil=>simpa [offP,ivOff] using hop
          | cons p q=>simpa [offP] using hop) hset (by simp only [HC]; exact hcv) (by simpa only [hsz] using hvl) (by simp only [hsz]; omega)
        have hcap:List.length xs * t'.size≤cur.size:=Nat.le_trans (Nat.mul_le_mul_right _ (by omega)) a6
        obtain ⟨hnim,he0⟩:¬ (c.froze (idsOf v)).Im s.b∧e ≠ 0:=by
         have:=S1.blk id _ hb1
         have hs1:(c.froze (idsOf v)).σ id=some s:=hs
         simp only [BlkR,hs1] at this
         obtain ⟨_,_,_,_,_,q,_,_,_,_,q2⟩:=this
         exact ⟨q trivial,q2⟩
        have hvn2:(ρ y').cells.toList.length=n:=by omega
        have hvn3:(ρ y').cells.size=n:=by simpa using hvn2
        have hrun:=storeVar_run hE hl c.w s.b (i * s.sz + of) cur e (ρ y') a5 (by simpa using hvn2) (by rw [a2]; omega) hcv.one
        obtain ⟨nx2,S2⟩:=S1.put (w':=c.w.setRow s.b (cur.toList.take (i * s.sz + of)++(ρ y').cells.toList++cur.toList.drop (i * s.sz + of + n)).toArray) hb1 rfl (s:=s) hs
         (fun b hb hne=>setRow_other _ _ _ _ hne) (setRow_size _ _ _) rfl rfl rfl hnim (x':=.arr e t' (xs.set i y) false) (fun nx=>by
          have hs1:(c.froze (idsOf v)).σ id=some s:=hs
          simp only [BlkR,hs1]
          refine ⟨by simpa using a1,a2,a3,a4,by simp,fun _=>hnim,_,setRow_heap c.w s.b cur _ e (0,0) a5,?_,?_,he0⟩
          ·simp only [List.size_toArray,List.length_append,List.length_take,List.length_drop,Array.length_toList]; rw [a2]; omega
          ·have hrow:=a7.set (fun _ _ h=>h.length) (i:=i) (c:=((cur.toList.drop (i * t'.size)).take t'.size).take of++(ρ y').cells.toList++((cur.toList.drop (i * t'.size)).take t'.size).drop (of + (ρ y').cells.toList.length)) (by simpa only [HC] using f1) hlt
           have:(cur.toList.take (i * s.sz + of)++(ρ y').cells.toList++cur.toList.drop (i * s.sz + of + n)).toArray.toList.take (List.length (xs.set i y) * t'.size) =
             (cur.toList.take (List.length xs * t'.size)).take (i * t'.size)++(((cur.toList.drop (i * t'.size)).take t'.size).take of++(ρ y').cells.toList++((cur.toList.drop (i * t'.size)).take t'.size).drop (of + (ρ y').cells.toList.length)) ++
              (cur.toList.take (List.length xs * t'.size)).drop (i * t'.size + t'.size):=by
            rw [List.length_set,a2,hvn2]
            show List.take (List.length xs * t'.size) (cur.toList.take (i * t'.size + of)++(ρ y').cells.toList++cur.toList.drop (i * t'.size + of + n))=_
            rw [splice_take (by omega) hvn2 (by simpa using hcap)]
            have hseg:(cur.toList.drop (i * t'.size)).take t'.size=((cur.toList.take (List.length xs * t'.size)).drop (i * t'.size)).take t'.size:=by
             rw [List.drop_take,List.take_take,Nat.min_eq_left (by omega)]
            rw [hseg,splice_in (by omega) (by simp; omega)]
           rw [this]
           exact hrow.mono fun _ _ h=>h.mono nx.le.im nx.le.heap)
        exact .inr (.inl ⟨_,by simp only [execOp,ho,e1]; rw [Sem.run_bind,hrun]; rfl,_,rfl,nx1.trans nx2,S2,trivial⟩)
       ·simp at hk
      ·simp at hk
     ·simp at hk
    ·simp at hk
  ·simp at hk
 ·simp at hk
end ops
end Go.Proofs.YtnhbcpmmdblkjaaDoorAm

namespace Go.Proofs.YtnhbcpmmdblkjaaDoorAm
open Go

section ops
variable {gd:Gd} {P:Program} {E:Env} {α:Type} {r:α} {st:List Blk}

theorem source_rows {c : Cx} (S : SG gd c st) {t : Ty} {x : HV} {ys : List t.den} {v : Value} (hx : srcOf st t x = some ys) (hv : HVR c x v) :
    ∃ p cap, v = .slice p (List.length ys) cap ∧ (ys = [] ∨ ∃ b off cur e fr, p = some ⟨b, off, none⟩ ∧ c.w.heap[b]? = some (.cells cur e fr) ∧
      off + List.length ys * t.size ≤ cur.size ∧ RowR (cellsR c.w c.Im t) ys ((cur.toList.drop off).take (List.length ys * t.size))) := by
  unfold srcOf at hx
  split at hx
  · simp only [Option.some.injEq] at hx; subst hx
    rw [HVR.nil] at hv
    exact ⟨none, 0, hv, .inl rfl⟩
  · obtain ⟨e, hy⟩ := castTo_eq hx
    simp only [Ty.sl.injEq] at e; subst e
    simp only at hy; subst hy
    obtain ⟨p, cap, e, _, h2⟩ := hv.nn.sl
    exact ⟨p, cap, e, h2.imp id fun ⟨b, off, cur, el, fr, g1, g2, g3, g4, g5⟩ => ⟨b, off, cur, el, fr, g1, g3, g4, g5⟩⟩
  · rename_i hnn hnn2
    clear hnn hnn2
    split at hx
    · rename_i t' ys' hs
      obtain ⟨e, hy⟩ := castTo_eq hx
      simp only [Ty.sl.injEq] at e; subst e
      simp only at hy; subst hy
      cases x <;> try (simp [snap] at hs; done)
      case iv t0 x0 =>
        simp only [snap, Option.some.injEq, Sigma.mk.injEq] at hs
        obtain ⟨rfl, hs⟩ := hs
        simp only [heq_eq_eq] at hs; subst hs
        obtain ⟨p, cap, e, _, h2⟩ := hv.sl
        exact ⟨p, cap, e, h2.imp id fun ⟨b, off, cur, el, fr, g1, g2, g3, g4, g5⟩ => ⟨b, off, cur, el, fr, g1, g3, g4, g5⟩⟩
      case own id =>
        simp only [snap] at hs
        split at hs
        · rename_i el t2 xs z hb
          simp only [Option.some.injEq, Sigma.mk.injEq, Ty.sl.injEq] at hs
          obtain ⟨rfl, hs⟩ := hs
          simp only [heq_eq_eq] at hs; subst hs
          rw [HVR.cell (by simp) (by simp) rfl] at hv
          simp only [HC] at hv
          obtain ⟨⟨_, hh⟩, _⟩ := hv
          cases hs : c.σ id with
          | none =>
            simp only [hs, List.cons.injEq, and_true] at hh
            have := arr_none S.toSR hb hs
            exact ⟨none, 0, by rw [hh, this]; rfl, .inl this⟩
          | some s =>
            obtain ⟨a1, a2, a3, a4, cur, a5, a6, a7⟩ := arr_rows S.toSR hb hs
            simp only [hs, List.cons.injEq, and_true] at hh
            refine ⟨some ⟨s.b, 0, none⟩, s.cap, by rw [hh, a1], .inr ⟨s.b, 0, cur, el, (0, 0), rfl, a5, ?_, by rw [List.drop_zero]; exact a7⟩⟩
            rw [Nat.zero_add]; exact Nat.le_trans (Nat.mul_le_mul_right _ (by omega)) a6
        · simp at hs
      case sub id off l =>
        simp only [snap] at hs
        split at hs
        · rename_i el t2 xs z hb
          simp only [Option.some.injEq, Sigma.mk.injEq, Ty.sl.injEq] at hs
          obtain ⟨rfl, hs⟩ := hs
          simp only [heq_eq_eq] at hs; subst hs
          rw [HVR.cell (by simp) (by simp) rfl] at hv
          simp only [HC] at hv
          obtain ⟨⟨_, hh⟩, _⟩ := hv
          cases hs : c.σ id with
          | none =>
            simp only [hs, List.cons.injEq, and_true] at hh
            obtain ⟨rfl, rfl, e⟩ := hh
            exact ⟨none, 0, by rw [e]; simp, .inl (by simp)⟩
          | some s =>
            obtain ⟨a1, a2, a3, a4, cur, a5, a6, a7⟩ := arr_rows S.toSR hb hs
            simp only [hs] at hh
            obtain ⟨b1, a, cap, e, b4, b2, b3⟩ := hh
            simp only [List.cons.injEq, and_true] at e
            have hlen : ((xs.drop off).take l).length = l := by simp; omega
            refine ⟨some a, cap, by rw [hlen, e], ?_⟩
            by_cases hl : 0 < l
            · refine .inr ⟨s.b, off * s.sz, cur, el, (0, 0), by rw [b3 hl], a5, ?_, ?_⟩
              · rw [hlen, a2, ← Nat.add_mul]; exact Nat.le_trans (Nat.mul_le_mul_right _ (by omega)) a6
              · rw [hlen, a2]
                have := (a7.drop (fun _ _ h => h.length) off).take (fun _ _ h => h.length) l
                rw [List.drop_take, List.take_take, show min (l * t2.size) (xs.length * t2.size - off * t2.size) = l * t2.size by
                  rw [← Nat.sub_mul]; exact Nat.min_eq_left (Nat.mul_le_mul_right _ (by omega))] at this
                exact this
            · have : l = 0 := by omega
              subst this; exact .inl (by simp)
        · simp at hs
      case agg ps0 =>
        simp only [snap] at hs
        cases ps0 <;> simp only [snapL] at hs
        · simp at hs
        · split at hs <;> simp at hs
    · simp at hx

def BaseOK (c : Cx) (st : List Blk) (e : Nat) (t : Ty) (xs : List t.den) (v : Value) : Prop :=
  (xs = [] ∧ v = .slice none 0 0) ∨
  ∃ g cap cur, v = .slice (some ⟨g, 0, none⟩) (List.length xs) cap ∧ List.length xs ≤ cap ∧ cap ≤ maxLen ∧ c.w.heap[g]? = some (.cells cur e (0, 0)) ∧ cap * t.size ≤ cur.size ∧
    RowR (cellsR c.w c.Im t) xs (cur.toList.take (List.length xs * t.size)) ∧ ¬ c.Im g ∧ (∃ id s, id < c.n ∧ c.σ id = some s ∧ s.b = g) ∧
    (∀ id x s, st[id]? = some x → x ≠ .gone → c.σ id = some s → s.b ≠ g)

theorem RowR.lenC {w:World} {Im:Nat→Prop} {t:Ty} {xs:List t.den} {cs:List Value} (h:RowR (cellsR w Im t) xs cs):cs.length=List.length xs * t.size :=
 RowR.length (fun _ _ h=>h.length) h

theorem takeOver {c : Cx} (S : SG gd c st) {e : Nat} {t : Ty} (xs : List t.den) {g cap : Nat} {w' : World} {cur : Array Value}
    (hold : ∀ b, b < c.w.heap.size → ¬ b = g → w'.heap[b]? = c.w.heap[b]?) (hsize : w'.heap.size = c.w.heap.size) (hos : w'.os = c.w.os) (htape : w'.tape = c.w.tape) (hout : w'.output = c.w.output)
    (h1 : List.length xs ≤ cap) (h2 : cap ≤ maxLen) (h3 : w'.heap[g]? = some (.cells cur e (0, 0))) (h4 : cap * t.size ≤ cur.size) (h5 : RowR (cellsR c.w c.Im t) xs (cur.toList.take (List.length xs * t.size)))
    (h6 : ¬ c.Im g) (h7 : ∃ id s, id < c.n ∧ c.σ id = some s ∧ s.b = g) (h8 : ∀ id x s, st[id]? = some x → x ≠ .gone → c.σ id = some s → s.b ≠ g) (he : e ≠ 0) :
    ∃ c', c'.w = w' ∧ Nx c c' ∧ SG gd c' (st ++ [.arr e t xs false]) ∧ HVR c' (.own st.length) (.slice (some ⟨g, 0, none⟩) (List.length xs) cap) := by
  have hg : g < w'.heap.size := (Array.getElem?_eq_some_iff.1 h3).1
  obtain ⟨i1, i2⟩ := more_new (c := c) (w' := w') (s := ⟨g, List.length xs, cap, t.size⟩) (r := [])
  obtain ⟨nx, S'⟩ := S.grow (w' := w') (fun b => b = g) hold (by omega) hos htape hout (fun b hb => by subst hb; exact ⟨h6, h7, h8⟩) [some ⟨g, List.length xs, cap, t.size⟩] [.arr e t xs false] rfl
    (fun k s hk => by
      cases k with
      | zero => simp at hk; subst hk; exact ⟨.inl rfl, hg⟩
      | succ k => simp at hk)
    (fun i j s s' hne hi hj => by
      cases i <;> cases j <;> simp at hi hj
      exact absurd rfl hne)
    (fun nx k x hk => by
      cases k with
      | succ k => simp at hk
      | zero =>
        simp at hk; subst hk
        simp only [BlkR, Nat.add_zero, i2]
        exact ⟨trivial, trivial, h1, h2, by simp, fun _ => h6, cur, h3, h4, h5.mono fun _ _ h => h.mono nx.le.im nx.le.heap, he⟩)
  refine ⟨_, rfl, nx, S', ?_⟩
  rw [HVR.cell (by simp) (by simp) rfl]
  refine ⟨?_, rfl⟩
  simp only [HC, S.len, i2]
  exact ⟨i1, trivial⟩

theorem append_core (hE:EnvOK P E) {c:Cx} (S:SG gd c st) {T e l:Nat} {t:Ty} (hT:lk E.sl T=some (e,t)) (hl:lk E.lim e=some l) (ty:Nat) {xs ys:List t.den} {v x:Value}
  (hbase:BaseOK c st e t xs v) {p:Option Addr} {cap:Nat} (hx:x=.slice p (List.length ys) cap)
  (hs:ys=[]∨∃ b off cur e fr,p=some ⟨b,off,none⟩∧c.w.heap[b]?=some (.cells cur e fr)∧off + List.length ys * t.size≤cur.size ∧
   RowR (cellsR c.w c.Im t) ys ((cur.toList.drop off).take (List.length ys * t.size)))
  (hlim:List.length xs + List.length ys≤l) :
  ∃ v' w',(Builtin.append_ #[T,T] ty #[v,x]).run P c.w=.ok v' w'∧∃ c',c'.w=w'∧Nx c c'∧SG gd c' (st++[.arr e t (xs++ys) false])∧HVR c' (.own st.length) v':=by
 obtain ⟨hu,⟨⟨i,z,hi,hsize,hz,hzc⟩,hpos⟩,he0⟩:=hE.sl T e t hT
 obtain ⟨i',hi',hb,hm⟩:=hE.lim e l hl
 rw [hi] at hi'; cases hi'
 have hbytes:(List.length xs + List.length ys) * i.bytes≤140737488355328:=Nat.le_trans (Nat.mul_le_mul_right _ hlim) hb
 have hm':List.length xs + List.length ys≤maxLen:=Nat.le_trans hlim hm
 have hmi:((List.length xs + List.length ys:Nat):Int)≤9223372036854775807:=by simp only [maxLen] at hm'; omega
 have hzs:z.cells.size=t.size:=by rw [← zeroCells_len,← hzc]; simp
 subst hx
 by_cases hy:ys=[]
 ·subst hy
  simp only [List.append_nil,List.length_nil]
  rcases hbase with ⟨rfl,rfl⟩ | ⟨g,cp,cur,rfl,h1,h2,h3,h4,h5,h6,h7,h8⟩
  ·refine ⟨.slice none 0 0,c.w,?_,?_⟩
   ·cases p <;> simp [Builtin.append_,run_underlying hu,sizeOf,typeInfo,hi,Builtin.lenOf,Builtin.firstCells,loadCells,loadCellsFrom]
   ·obtain ⟨nx,S'⟩:=S.virt [.arr e t [] false] (by simp)
    refine ⟨c.more c.w ([Blk.arr e t [] false].map fun _=>none),rfl,nx,S',?_⟩
    rw [HVR.cell (by simp) (by simp) rfl]
    obtain ⟨i1,i2⟩:=virt_none (c:=c) (w':=c.w) (vs:=[Blk.arr e t [] false]) c.n (Nat.le_refl _) (by simp)
    refine ⟨?_,rfl⟩
    simp only [HC,S.len,i2]
    exact ⟨i1,trivial⟩
  ·refine ⟨.slice (some ⟨g,0,none⟩) (List.length xs) cp,c.w,?_,?_⟩
   ·cases p <;> simp [Builtin.append_,run_underlying hu,sizeOf,typeInfo,hi,Builtin.lenOf,Builtin.firstCells,loadCells,loadCellsFrom,storeCells,h1]
   ·exact takeOver S xs (fun _ _ _=>rfl) rfl rfl rfl rfl h1 h2 h3 h4 h5 h6 h7 h8 he0
 ·obtain ⟨b,off,scur,se,sfr,rfl,q1,q2,q3⟩:=hs.resolve_left hy
  have hyl:0 < List.length ys:=List.length_pos_iff.2 hy
  have hnl:=q3.lenC
  generalize hnews:(scur.toList.drop off).take (List.length ys * t.size)=news at q3 hnl
  have hcell:∀ j u,news[j]?=some u→c.w.cell? ((⟨b,off,none⟩:Addr).add j)=some u:=by
   intro j u hj
   rw [← hnews,List.getElem?_take] at hj
   split at hj
   ·rw [add_lit]
    simp only [World.cell?,q1]
    simpa using hj
   ·simp at hj
  have hone:∀ u ∈ news,u.oneCell'=true:=RowR.all (fun _ _ h=>h.one) q3
  rcases hbase with ⟨rfl,rfl⟩ | ⟨g,cp,cur,rfl,h1,h2,h3,h4,h5,h6,h7,h8⟩
  ·simp only [List.length_nil,Nat.zero_add,List.nil_append] at hbytes hm' hmi ⊢
   have hr:=run_append_nil (P:=P) c.w T ty e i z hu hi hz ⟨b,off,none⟩ (List.length ys) cap news (by rw [hsize]; exact hnl) hcell hyl hmi (by omega)
   refine ⟨_,_,hr,?_⟩
   refine newArr S ys e (news.toArray++Builtin.zeroCells z.cells (grownCap c.w (List.length ys) 0 e - List.length ys)) (grownCap c.w (List.length ys) 0 e) (grownCap_ge _ _ _ _) (grownCap_le_maxLen _ _ _ _ hm') ?_ he0 rfl rfl rfl rfl ?_
   ·have:=grownCap_ge c.w (List.length ys) 0 e
    simp only [Array.size_append,List.size_toArray,size_zeroCells,hzs,hnl,← Nat.add_mul]
    congr 1
    omega
   ·simp only [Array.toList_append]
    rw [← hnl,List.take_left]
    exact q3
  ·have hlx:=h5.lenC
   by_cases hroom:List.length xs + List.length ys≤cp
   ·have hfit:List.length xs * i.size + news.length≤cur.size:=by rw [hnl,hsize,← Nat.add_mul]; exact Nat.le_trans (Nat.mul_le_mul_right _ hroom) h4
    have hr:=run_append_room (P:=P) c.w T ty e i hu hi g (List.length xs) cp cur h3 ⟨b,off,none⟩ (List.length ys) cap news (by rw [hsize]; exact hnl) hcell hone hroom hfit
    refine ⟨_,_,hr,?_⟩
    have hk:=setRow_heap c.w g cur (cur.toList.take (List.length xs * i.size)++news++cur.toList.drop (List.length xs * i.size + news.length)).toArray e (0,0) h3
    have ht:=takeOver (w':=c.w.setRow g (cur.toList.take (List.length xs * i.size)++news++cur.toList.drop (List.length xs * i.size + news.length)).toArray) S (xs++ys) (cap:=cp) (fun b hb hne=>setRow_other _ _ _ _ hne) (setRow_size _ _ _) rfl rfl rfl (by simpa using hroom) h2 hk ?_ ?_ h6 h7 h8 he0
    ·simpa using ht
    ·simp only [List.size_toArray,List.length_append,List.length_take,List.length_drop,Array.length_toList]
     omega
    ·rw [hsize]
     have:(cur.toList.take (List.length xs * t.size)++news++cur.toList.drop (List.length xs * t.size + news.length)).toArray.toList.take (List.length (xs++ys) * t.size)=cur.toList.take (List.length xs * t.size)++news:=by
      have e1:(cur.toList.take (List.length xs * t.size)++news).length=List.length (xs++ys) * t.size:=by
       rw [List.length_append,List.length_append,hlx,hnl,Nat.add_mul]
      rw [← e1]
      exact List.take_left
     rw [this]
     exact h5.append q3
   ·have holds:∀ j u,(cur.toList.take (List.length xs * t.size))[j]?=some u→c.w.cell? ((⟨g,0,none⟩:Addr).add j)=some u:=by
     intro j u hj
     rw [List.getElem?_take] at hj
     split at hj
     ·rw [add_lit]
      simp only [World.cell?,h3,Nat.zero_add]
      simpa using hj
     ·simp at hj
    have hr:=run_append_grow (P:=P) c.w T ty e i z hu hi hz ⟨g,0,none⟩ (List.length xs) cp _ (by rw [hsize]; exact hlx) holds ⟨b,off,none⟩ (List.length ys) cap news (by rw [hsize]; exact hnl) hcell (by omega) hmi (growslice_fits (by omega) hbytes)
    refine ⟨_,_,hr,?_⟩
    have hge:=grownCap_ge c.w (List.length xs + List.length ys) cp e
    have hn:=newArr (w':=c.w.drew.alloc (.cells ((cur.toList.take (List.length xs * t.size)).toArray++news.toArray++Builtin.zeroCells z.cells (grownCap c.w (List.length xs + List.length ys) cp e - (List.length xs + List.length ys))) e)) S (xs++ys) e
     ((cur.toList.take (List.length xs * t.size)).toArray++news.toArray++Builtin.zeroCells z.cells (grownCap c.w (List.length xs + List.length ys) cp e - (List.length xs + List.length ys))) (grownCap c.w (List.length xs + List.length ys) cp e)
     (by simpa using hge) (grownCap_le_maxLen _ _ _ _ hm') (by
      simp only [Array.size_append,List.size_toArray,size_zeroCells,hzs,hnl,hlx,← Nat.add_mul]
      congr 1
      omega) he0 rfl rfl rfl rfl (by
      have e1:(cur.toList.take (List.length xs * t.size)++news).length=List.length (xs++ys) * t.size:=by
       rw [List.length_append,List.length_append,hlx,hnl,Nat.add_mul]
      simp only [Array.toList_append]
      rw [← e1,List.take_left]
      exact h5.append q3)
    simpa using hn
end ops
end Go.Proofs.YtnhbcpmmdblkjaaDoorAm

namespace Go.Proofs.YtnhbcpmmdblkjaaDoorAm
open Go

theorem SG.drop {gd:Gd} {c:Cx} {st:List Blk} (S:SG gd c st) (id:Nat):SG gd c (st.set id .gone) where
 len:=by simpa using S.len
 im:=S.im
 blk:=fun j y hy=>by
  rw [List.getElem?_set] at hy
  split at hy
  ·split at hy
   ·cases hy; trivial
   ·simp at hy
  ·exact S.blk j y hy
 inj:=fun i j x y s s' hne hx hy lx ly hs hs'=>by
  have key:∀ (i:Nat) (y:Blk),(st.set id .gone)[i]?=some y→y.live=true→st[i]?=some y:=by
   intro i y hy hl
   rw [List.getElem?_set] at hy
   split at hy
   ·split at hy
    ·cases hy; simp [Blk.live] at hl
    ·simp at hy
   ·exact hy
  exact S.inj i j x y s s' hne (key i x hx lx) (key j y hy ly) lx ly hs hs'
 g:=S.g
 low:=S.low
 own:=S.own

section ops
variable {gd:Gd} {P:Program} {E:Env} {α:Type} {r:α} {st:List Blk}

theorem base_ok {c : Cx} (S : SG gd c st) {id e0 e n : Nat} {t : Ty} {xs : List t.den} (hb : st[id]? = some (.arr e0 t xs false)) (he : e0 = e ∨ e0 = 0) {v : Value}
    (hv : HC c (.sub id 0 n) [v]) : BaseOK c (st.set id .gone) e t (xs.take n) v := by
  simp only [HC] at hv
  obtain ⟨hid, hh⟩ := hv
  cases hs : c.σ id with
  | none =>
    have := arr_none S.toSR hb hs
    simp only [hs, List.cons.injEq, and_true] at hh
    exact .inl ⟨by simp [this], hh.2.2⟩
  | some s =>
    have hbl := S.blk id _ hb
    simp only [BlkR, hs] at hbl
    obtain ⟨a1, a2, a3, a4, _, a5, cur, a6, a7, a8, a9⟩ := hbl
    simp only [hs] at hh
    obtain ⟨b1, a, cap, b2, b3, b4, _⟩ := hh
    obtain ⟨rfl, rfl⟩ := b4 trivial
    simp only [List.cons.injEq, and_true] at b2
    have hlen : List.length (xs.take n) = n := by simp; omega
    have hee : e0 = e := he.resolve_right a9
    subst hee
    refine .inr ⟨s.b, s.cap, cur, by rw [hlen]; exact b2, by omega, a4, a6, a7, ?_, a5 trivial, ⟨id, s, hid, hs, rfl⟩, fun j x s' hx hg hs' => ?_⟩
    · have := a8.take (fun _ _ h => h.length) n
      rw [List.take_take, Nat.min_eq_left (Nat.mul_le_mul_right _ (by omega))] at this
      rwa [hlen]
    · rw [List.getElem?_set] at hx
      split at hx
      · split at hx
        · cases hx; exact absurd rfl hg
        · simp at hx
      · rename_i hne
        exact S.other hb rfl hs (a5 trivial) j x s' (Ne.symm hne) hx hg hs'
theorem own_sub {c : Cx} {st : List Blk} (S : SR c st) {id e0 : Nat} {t : Ty} {xs : List t.den} {z : Bool} (hb : st[id]? = some (.arr e0 t xs z)) {cs : List Value} (h : HC c (.own id) cs) : HC c (.sub id 0 (List.length xs)) cs := by
  simp only [HC] at h ⊢
  obtain ⟨hid, hh⟩ := h
  refine ⟨hid, ?_⟩
  cases hs : c.σ id with
  | none =>
    have := arr_none S hb hs
    simp only [hs] at hh
    exact ⟨trivial, by simp [this], hh⟩
  | some s =>
    obtain ⟨a1, a2, a3, a4, cur, a5, a6, a7⟩ := arr_rows S hb hs
    simp only [hs] at hh
    exact ⟨by omega, ⟨s.b, 0, none⟩, s.cap, by rw [hh, a1], by omega, fun _ => ⟨rfl, rfl⟩, fun _ => by simp⟩
theorem toList_two {as:Array Nat} {a b:Nat} (h:as.toList=[a,b]):as=#[a,b]:=by
 rw [← Array.toArray_toList (xs:=as),h]

theorem appendTo_ok (hE:EnvOK P E) {o:Oper} {cl:Call} (ho:o.op=.call cl) (hc:cl.callee=.builtin .append) {T e l:Nat} {t:Ty} (hat:cl.argTypes=#[T,T]) (hT:lk E.sl T=some (e,t)) (hl:lk E.lim e=some l)
  {s x:HV} {xs ys:List t.den} (hx:srcOf st t x=some ys) (st1:List Blk) {K:Bool→HV→List Blk→Option α} (hk:appendTo e t l xs ys st1 K=some r)
  (hb:∀ c v,SG gd c st→HVR c s v→SG gd c st1∧BaseOK c st1 e t xs v):Step gd P o [s,x] st K r:=by
 unfold appendTo at hk
 split at hk
 ·rename_i hlim
  have hlim:List.length xs + List.length ys≤l:=by simpa using hlim
  refine ⟨_,_,_,hk,fun c ρ S hh=>?_,by simp,.none (by simp [wrB,ho])⟩
  rw [bi_ops ho hc] at hh
  obtain ⟨a,b,e1,h1,h2⟩:=hh.is2
  obtain ⟨S1,hbase⟩:=hb c a S h1
  obtain ⟨p,cap,e2,hsrc⟩:=source_rows S hx h2
  obtain ⟨v',w',hr,c',q1,q2,q3,q4⟩:=append_core hE S1 hT hl o.type hbase e2 hsrc hlim
  exact .inl ⟨v',w',by rw [run_append ho hc,arr_map _ _ e1,hat,hr]; rfl,c',q1,q2,q3,q4⟩
 ·simp at hk
theorem step_append (hE : EnvOK P E) {o : Oper} {cl : Call} (ho : o.op = .call cl) (hc : cl.callee = .builtin .append) {hs : List HV} {K : Bool → HV → List Blk → Option α}
    (hk : (match hs, cl.argTypes.toList with
      | [s, x], [T, T'] => match lk E.sl T, decide (T = T') with
        | some (e, t), true => match lk E.lim e, srcOf st t x with
          | some l, some ys => match s with
            | .nil => appendTo e t l [] ys st K
            | .own id => match st[id]? with
              | some (.arr e0 t' xs false) => if e0 = e ∨ e0 = 0 then (match castTo (.sl t') (.sl t) xs with
                | some xs' => appendTo e t l xs' ys (st.set id .gone) K
                | none => none) else none
              | _ => none
            | .sub id 0 n => match st[id]? with
              | some (.arr e0 t' xs false) => if e0 = e ∨ e0 = 0 then (match castTo (.sl t') (.sl t) xs with
                | some xs' => appendTo e t l (List.take n xs') ys (st.set id .gone) K
                | none => none) else none
              | _ => none
            | _ => none
          | _, _ => none
        | _, _ => none
      | _, _ => none) = some r) : Step gd P o hs st K r := by
  split at hk
  · rename_i s x T T' hat
    split at hk
    · rename_i e t hT hTT
      have hTT : T = T' := by simpa using hTT
      subst hTT
      have hat := toList_two hat
      split at hk
      · rename_i l ys hl hx
        split at hk
        · refine appendTo_ok hE ho hc hat hT hl hx _ hk fun c v S hv => ⟨S, .inl ⟨rfl, HVR.nil.1 hv⟩⟩
        · rename_i id
          split at hk
          · rename_i e0 t' xs hb
            split at hk
            · rename_i he
              split at hk
              · rename_i xs' hy
                obtain ⟨et, hy⟩ := castTo_eq hy
                simp only [Ty.sl.injEq] at et; subst et
                simp only at hy; subst hy
                refine appendTo_ok hE ho hc hat hT hl hx _ hk fun c v S hv => ⟨S.drop id, ?_⟩
                rw [HVR.cell (by simp) (by simp) rfl] at hv
                have := base_ok S hb he (own_sub S.toSR hb hv.1)
                rwa [List.take_length] at this
              · simp at hk
            · simp at hk
          · simp at hk
        · rename_i id n
          split at hk
          · rename_i e0 t' xs hb
            split at hk
            · rename_i he
              split at hk
              · rename_i xs' hy
                obtain ⟨et, hy⟩ := castTo_eq hy
                simp only [Ty.sl.injEq] at et; subst et
                simp only at hy; subst hy
                refine appendTo_ok hE ho hc hat hT hl hx _ hk fun c v S hv => ⟨S.drop id, ?_⟩
                rw [HVR.cell (by simp) (by simp) rfl] at hv
                exact base_ok S hb he hv.1
              · simp at hk
            · simp at hk
          · simp at hk
        · simp at hk
      · simp at hk
    · simp at hk
  · simp at hk

theorem step_copy (hE : EnvOK P E) {o : Oper} {cl : Call} (ho : o.op = .call cl) (hc : cl.callee = .builtin .copy) {hs : List HV} {K : Bool → HV → List Blk → Option α}
    (hk : (match hs, cl.argTypes.toList with
      | [.own id, x], [T, T'] => match lk E.sl T, decide (T = T'), st[id]? with
        | some (_, t), true, some (.arr e' t' xs false) => match srcOf st t' x with
          | some ys => if t' = t ∧ (idsOf x).contains id = false then K false (.iv (.int .i64) ((min (List.length ys) (List.length xs) : Nat) : Int))
              (st.set id (.arr e' t' (List.take (min (List.length ys) (List.length xs)) ys ++ List.drop (min (List.length ys) (List.length xs)) xs) false)) else none
          | none => none
        | _, _, _ => none
      | _, _ => none) = some r) : Step gd P o hs st K r := by
  split at hk
  · rename_i id x T T' hat
    split at hk
    · rename_i e t e' t' xs hT hTT hb
      have hTT : T = T' := by simpa using hTT
      subst hTT
      have hat := toList_two hat
      split at hk
      · rename_i ys hx
        split at hk
        · rename_i hcd
          obtain ⟨rfl, hnid⟩ := hcd
          refine ⟨_, _, _, hk, fun c ρ S hh => ?_, by simp, .none (by simp [wrB, ho])⟩
          obtain ⟨hu, ⟨⟨i, z, hi, hsize, hz, hzc⟩, hpos⟩, he0⟩ := hE.sl T e t' hT
          rw [bi_ops ho hc] at hh
          obtain ⟨a, b, e1, h1, h2⟩ := hh.is2
          obtain ⟨p, cap, e2, hsrc⟩ := source_rows S hx h2
          rw [HVR.cell (by simp) (by simp) rfl] at h1
          simp only [HC] at h1
          obtain ⟨⟨hid, q0⟩, _⟩ := h1
          generalize hm : min (List.length ys) (List.length xs) = m at hk ⊢
          have hm1 : m ≤ List.length ys := by omega
          have hm2 : m ≤ List.length xs := by omega
          cases hs : c.σ id with
          | none =>
            have hx0 := arr_none S.toSR hb hs
            simp only [hs, List.cons.injEq, and_true] at q0
            subst hx0; subst q0
            have hm0 : m = 0 := by simpa using hm2
            subst hm0
            refine .inl ⟨.int .i64 0, c.w, ?_, c, rfl, .refl c, ?_, HVR.int.2 rfl⟩
            · rw [run_copy ho hc, arr_map _ _ e1, hat, e2]
              cases p <;> simp [Builtin.copy_, run_underlying hu, sizeOf, typeInfo, hi, Builtin.lenOf, Builtin.firstCells, loadCells, loadCellsFrom, goInt]
            · have : st.set id (.arr e' t' (List.take 0 ys ++ List.drop 0 []) false) = st := by
                apply List.ext_getElem?
                intro k
                rw [List.getElem?_set]
                split
                · rename_i hk; subst hk
                  split
                  · rw [hb]; simp
                  · rename_i h; rw [List.getElem?_eq_none (by omega)]
                · rfl
              rw [this]; exact S
          | some s =>
            have hbl := S.blk id _ hb
            simp only [BlkR, hs] at hbl
            obtain ⟨a1, a2, a3, a4, _, a5, cur, a6, a7, a8, a9⟩ := hbl
            simp only [hs, List.cons.injEq, and_true] at q0
            subst q0
            have hxl := a8.lenC
            obtain ⟨news, hn1, hn2, hn3⟩ : ∃ news : List Value, RowR (cellsR c.w c.Im t') (List.take m ys) news ∧ (Builtin.firstCells t'.size m b).run P c.w = .ok news.toArray c.w ∧ news.length = m * t'.size := by
              rcases hsrc with rfl | ⟨sb, off, scur, se, sfr, rfl, g1, g2, g3⟩
              · have hm0 : m = 0 := by simpa using hm1
                subst hm0
                refine ⟨[], by simp [RowR], ?_, by simp⟩
                rw [e2]
                cases p <;> simp [Builtin.firstCells, loadCells, loadCellsFrom]
              · have g4 := g3.take (fun _ _ h => h.length) m
                rw [List.take_take, Nat.min_eq_left (Nat.mul_le_mul_right _ hm1)] at g4
                have hl : ((scur.toList.drop off).take (m * t'.size)).length = m * t'.size := by
                  have := g4.lenC
                  rwa [show List.length (List.take m ys) = m by rw [List.length_take]; exact Nat.min_eq_left hm1] at this
                refine ⟨_, g4, ?_, hl⟩
                rw [e2]
                refine run_firstCells_some c.w t'.size m _ _ _ _ hl fun j u hj => ?_
                rw [List.getElem?_take] at hj
                split at hj
                · rw [add_lit]
                  simp only [World.cell?, g1]
                  simpa using hj
                · simp at hj
            have hone : ∀ u ∈ news, u.oneCell' = true := RowR.all (fun _ _ h => h.one) hn1
            have hcap : List.length xs * t'.size ≤ cur.size := Nat.le_trans (Nat.mul_le_mul_right _ (by omega)) a7
            have hmx : m * t'.size ≤ List.length xs * t'.size := Nat.mul_le_mul_right _ hm2
            have hst := run_storeCells_at P s.b 0 e' news 0 cur c.w a6 (by omega) hone
            simp only [Nat.add_zero, Nat.zero_add, List.take_zero, List.nil_append] at hst
            have hrun : (execOp ρ o).run P c.w = .ok (.value (.int .i64 m)) (c.w.setRow s.b (news ++ cur.toList.drop news.length).toArray) := by
              rw [run_copy ho hc, arr_map _ _ e1, hat]
              have hmm : Nat.min (List.length ys) s.n = m := by rw [a1]; exact hm
              rw [e2] at hn2 ⊢
              simp [Builtin.copy_, run_underlying hu, sizeOf, typeInfo, hi, Builtin.lenOf, hmm, hsize, hn2, hst, goInt]
            obtain ⟨nx, S'⟩ := S.put (w' := c.w.setRow s.b (news ++ cur.toList.drop news.length).toArray) hb rfl hs (fun b hb hne => setRow_other _ _ _ _ hne) (setRow_size _ _ _) rfl rfl rfl (a5 trivial)
              (x' := .arr e' t' (List.take m ys ++ List.drop m xs) false) (fun nx => by
                simp only [BlkR, hs]
                have hlen : List.length (List.take m ys ++ List.drop m xs) = List.length xs := by
                  rw [List.length_append, List.length_take, List.length_drop]; omega
                refine ⟨by rw [hlen]; exact a1, a2, a3, a4, by simp, fun _ => a5 trivial, _, setRow_heap c.w s.b cur _ e' (0, 0) a6, ?_, ?_, a9⟩
                · simp only [List.size_toArray, List.length_append, List.length_drop, Array.length_toList]; omega
                · rw [hlen]
                  have h1 := hn1.append (a8.drop (fun _ _ h => h.length) m)
                  have : (news ++ cur.toList.drop news.length).toArray.toList.take (List.length xs * t'.size) = news ++ (cur.toList.take (List.length xs * t'.size)).drop (m * t'.size) := by
                    rw [List.take_append, List.take_of_length_le (l := news) (by omega), List.drop_take, hn3]
                  rw [this]
                  exact h1.mono fun _ _ h => h.mono nx.le.im nx.le.heap)
            exact .inl ⟨_, _, hrun, _, rfl, nx, S', HVR.int.2 rfl⟩
        · simp at hk
      · simp at hk
    · simp at hk
  · simp at hk
end ops
end Go.Proofs.YtnhbcpmmdblkjaaDoorAm

namespace Go.Proofs.YtnhbcpmmdblkjaaDoorAm
open Go

section ops
variable {gd:Gd} {P:Program} {E:Env} {α:Type} {r:α} {st:List Blk}
theorem step_clip (hE : EnvOK P E) {o : Oper} {T : Nat} {x0 : Operand} {lo hi mx : Option Operand} (ho : o.op = .slice T x0 lo hi mx) {id : Nat} {rs : List HV} {l h m : Option HV} (hsp : splitOpt lo hi mx rs = some (l, h, m))
    {K : Bool → HV → List Blk → Option α} (hk : clipV E T id l h m st K = some r) : Step gd P o (.own id :: rs) st K r := by
  unfold clipV at hk
  split at hk
  · rename_i e t xs e' te hb hT
    split at hk
    · rename_i et; subst et
      obtain ⟨l', h', e1, e2, e3, e4⟩ := bounds_ok (P := P) hk
      have hl0 : l' = none := by cases l' with
        | none => rfl
        | some _ => simp at e1
      subst hl0
      simp only at e1
      refine ⟨_, _, _, e1, fun c ρ S hh => ?_, by simp, .none (by simp [wrB, ho])⟩
      rw [ho] at hh
      have eo : (Op.slice T x0 lo hi mx).operands.toList.map ρ = ρ x0 :: (lo.toArray ++ hi.toArray ++ mx.toArray).toList.map ρ := by simp [Op.operands]
      rw [eo] at hh
      obtain ⟨v, rest, q1, g0, g2⟩ := hh.cons
      simp only [List.cons.injEq] at q1
      obtain ⟨rfl, rfl⟩ := q1
      obtain ⟨g1, g2, g3⟩ := split_ok hsp g2
      obtain ⟨hu, hi', he0⟩ := hE.sl T e' te hT
      have hlo : lo.map ρ = none := g1.none
      rw [HVR.cell (by simp) (by simp) rfl] at g0
      have g0' := g0.1
      simp only [HC] at g0
      obtain ⟨⟨hid, q0⟩, _⟩ := g0
      cases hs : c.σ id with
      | none =>
        simp only [hs, List.cons.injEq, and_true] at q0
        have := arr_none S.toSR hb hs; subst this
        simp only [List.length_nil] at e2 e3 ⊢
        have z2 : h'.getD 0 = 0 := by omega
        obtain ⟨mm, f1, f2, f3, _⟩ := e4 c true 0 _ _ _ (Nat.le_refl _) g1 g2 g3
        simp only [List.length_nil, Option.getD_none, z2] at f1
        have hm0 : mm = 0 := by omega
        subst hm0
        obtain ⟨nx, S'⟩ := (S.drop id).virt [.arr e te [] false] (by simp)
        refine .inl ⟨.slice none 0 0, c.w, by simp [execOp, ho, q0, Instr.sliceAt, run_underlying hu, Instr.slice, f1, sizeOf_ok hi'], c.more c.w ([Blk.arr e te [] false].map fun _ => none), rfl, nx, ?_, ?_⟩
        · simpa [z2] using S'
        · rw [HVR.cell (by simp) (by simp) rfl]
          obtain ⟨i1, i2⟩ := virt_none (c := c) (w' := c.w) (vs := [Blk.arr e te [] false]) c.n (Nat.le_refl _) (by simp)
          refine ⟨?_, rfl⟩
          simp only [HC, S.len, i2]
          exact ⟨i1, trivial⟩
      | some s =>
        have hbl := S.blk id _ hb
        simp only [BlkR, hs] at hbl
        obtain ⟨a1, a2, a3, a4, _, a5, cur, a6, a7, a8, a9⟩ := hbl
        simp only [hs, List.cons.injEq, and_true] at q0
        obtain ⟨mm, f1, f2, f3, _⟩ := e4 c true s.cap _ _ _ (by omega) g1 g2 g3
        rw [← a1] at f1 e3 f2
        rw [← a1]
        simp only [Option.getD_none] at f1
        have hlen : List.length (xs.take (h'.getD s.n)) = h'.getD s.n := by rw [List.length_take]; omega
        have hrow := a8.take (fun _ _ h => h.length) (h'.getD s.n)
        rw [List.take_take, Nat.min_eq_left (Nat.mul_le_mul_right _ (by omega))] at hrow
        obtain ⟨c', k1, k2, k3, k4⟩ := takeOver (S.drop id) (xs.take (h'.getD s.n)) (g := s.b) (cap := mm) (w' := c.w) (cur := cur) (e := e) (fun _ _ _ => rfl) rfl rfl rfl rfl (by omega) (by omega) a6
          (Nat.le_trans (Nat.mul_le_mul_right _ f3) a7) (by rw [hlen]; exact hrow) (a5 trivial) ⟨id, s, hid, hs, rfl⟩ (fun j x s' hx hg hs' => by
            rw [List.getElem?_set] at hx
            split at hx
            · split at hx
              · cases hx; exact absurd rfl hg
              · simp at hx
            · rename_i hne
              exact S.other hb rfl hs (a5 trivial) j x s' (Ne.symm hne) hx hg hs') a9
        rw [hlen, List.length_set] at k4
        refine .inl ⟨.slice (some ⟨s.b, 0, none⟩) (h'.getD s.n) mm, c.w, ?_, c', k1, k2, k3, k4⟩
        have hz : (⟨s.b, 0, none⟩ : Addr).add 0 = ⟨s.b, 0, none⟩ := by rw [add_lit]
        simp [execOp, ho, q0, Instr.sliceAt, run_underlying hu, Instr.slice, f1, sizeOf_ok hi', hz]
    · simp at hk
  · simp at hk
end ops
end Go.Proofs.YtnhbcpmmdblkjaaDoorAm

namespace Go.Proofs.YtnhbcpmmdblkjaaDoorAm
open Go

section noSl
variable {c c':Cx} {f:Nat→Option Nat}
mutual
theorem HC.noSl (L : ∀ i j, i < c.n → f i = some j → j < c'.n ∧ c'.σ j = c.σ i) : ∀ {h h' : HV} {cs}, hasSlH h = false → HC c h cs → mapId f h = some h' → HC c' h' cs
  | .undef, _, _, _, _, e => by simp only [mapId, Option.some.injEq] at e; subst e; simp [HC]
  | .skip, _, _, _, hh, e => by simp only [mapId, Option.some.injEq] at e; subst e; simpa only [HC] using hh
  | .iv t x, _, _, hn, hh, e => by simp only [mapId, Option.some.injEq] at e; subst e; simp only [HC] at hh ⊢; exact hh.noSl (by simpa [hasSlH] using hn)
  | .nn t xs, _, _, hn, hh, e => by simp [hasSlH] at hn
  | .nil, _, _, _, hh, e => by simp only [mapId, Option.some.injEq] at e; subst e; simpa only [HC] using hh
  | .own id, _, _, _, hh, e => by
    simp only [mapId, Option.map_eq_some_iff] at e; obtain ⟨j, ej, rfl⟩ := e
    simp only [HC] at hh ⊢
    obtain ⟨h1, h2⟩ := L _ _ hh.1 ej
    rw [h2]; exact ⟨h1, hh.2⟩
  | .sub id o l, _, _, _, hh, e => by
    simp only [mapId, Option.map_eq_some_iff] at e; obtain ⟨j, ej, rfl⟩ := e
    simp only [HC] at hh ⊢
    obtain ⟨h1, h2⟩ := L _ _ hh.1 ej
    rw [h2]; exact ⟨h1, hh.2⟩
  | .lp id p o, _, _, _, hh, e => by
    simp only [mapId, Option.map_eq_some_iff] at e; obtain ⟨j, ej, rfl⟩ := e
    simp only [HC] at hh ⊢
    obtain ⟨h1, h2⟩ := L _ _ hh.1 ej
    rw [h2]; exact ⟨h1, hh.2⟩
  | .le id i p o, _, _, _, hh, e => by
    simp only [mapId, Option.map_eq_some_iff] at e; obtain ⟨j, ej, rfl⟩ := e
    simp only [HC] at hh ⊢
    obtain ⟨h1, h2⟩ := L _ _ hh.1 ej
    rw [h2]; exact ⟨h1, hh.2⟩
  | .ip t x, _, _, hn, hh, e => by simp [hasSlH] at hn
  | .er _, _, _, _, hh, e => by simp only [mapId, Option.some.injEq] at e; subst e; simpa only [HC] using hh
  | .agg ps, _, _, hn, hh, e => by
    simp only [mapId, Option.map_eq_some_iff] at e; obtain ⟨j, ej, rfl⟩ := e
    simp only [HC] at hh ⊢; exact HCs.noSl L (by simpa only [hasSlH] using hn) hh ej
  | .tuple ps, _, _, _, hh, e => by simp [HC] at hh
  | .fn g ps, _, _, hn, hh, e => by
    simp only [mapId, Option.map_eq_some_iff] at e; obtain ⟨j, ej, rfl⟩ := e
    simp only [HC] at hh ⊢; obtain ⟨vs, e1, h2⟩ := hh
    exact ⟨vs, e1, HVs.noSl L (by simpa only [hasSlH] using hn) h2 ej⟩
theorem HCs.noSl (L : ∀ i j, i < c.n → f i = some j → j < c'.n ∧ c'.σ j = c.σ i) : ∀ {hs hs' : List HV} {cs}, hasSlHL hs = false → HCs c hs cs → mapIdL f hs = some hs' → HCs c' hs' cs
  | [], _, _, _, hh, e => by simp only [mapIdL, Option.some.injEq] at e; subst e; simpa only [HCs] using hh
  | h :: hs, _, _, hn, hh, e => by
    simp only [mapIdL] at e
    split at e
    · rename_i x xs ex exs
      simp only [Option.some.injEq] at e; subst e
      simp only [hasSlHL, Bool.or_eq_false_iff] at hn
      simp only [HCs] at hh ⊢
      obtain ⟨c1, c2, e1, h1, h3, h4⟩ := hh
      have hz : hsz x = hsz h := hsz_mapId f ex
      exact ⟨c1, c2, e1, by omega, HC.noSl L hn.1 h3 ex, HCs.noSl L hn.2 h4 exs⟩
    · simp at e
theorem HVs.noSl (L : ∀ i j, i < c.n → f i = some j → j < c'.n ∧ c'.σ j = c.σ i) : ∀ {hs hs' : List HV} {cs}, hasSlHL hs = false → HVs c hs cs → mapIdL f hs = some hs' → HVs c' hs' cs
  | [], _, _, _, hh, e => by simp only [mapIdL, Option.some.injEq] at e; subst e; simpa only [HVs] using hh
  | h :: hs, _, _, hn, hh, e => by
    simp only [mapIdL] at e
    split at e
    · rename_i x xs ex exs
      simp only [Option.some.injEq] at e; subst e
      simp only [hasSlHL, Bool.or_eq_false_iff] at hn
      simp only [HVs] at hh ⊢
      obtain ⟨v, r, e1, h1, h3, h4⟩ := hh
      have hz : hagg x = hagg h := hagg_mapId f ex
      exact ⟨v, r, e1, HC.noSl L hn.1 h1 ex, by rw [hz]; exact h3, HVs.noSl L hn.2 h4 exs⟩
    · simp at e
end
theorem HVR.noSl (L:∀ i j,i < c.n→f i=some j→j < c'.n∧c'.σ j=c.σ i) {h h':HV} {v} (hn:hasSlH h=false) (hh:HVR c h v) (e:mapId f h=some h'):HVR c' h' v:=by
 cases h
 case undef=>simp only [mapId,Option.some.injEq] at e; subst e; trivial
 case tuple ps =>
  simp only [mapId,Option.map_eq_some_iff] at e; obtain ⟨j,ej,rfl⟩:=e
  obtain ⟨vs,e1,h2⟩:=hh
  exact ⟨vs,e1,HVs.noSl L (by simpa only [hasSlH] using hn) h2 ej⟩
 all_goals
  have hg:=hagg_mapId f e
  have:=HC.noSl L hn hh.1 e
  have h2:=hh.2
  simp only [mapId,Option.some.injEq,Option.map_eq_some_iff] at e
  first
   | (subst e; exact ⟨this,h2⟩)
   | (obtain ⟨_,_,rfl⟩:=e; exact ⟨this,h2⟩)
end noSl

theorem posOf_some : ∀ {l : List Nat} {a j : Nat}, posOf l a = some j → l[j]? = some a
  | [], _, _, e => by simp [posOf] at e
  | b :: r, a, j, e => by
    simp only [posOf] at e
    split at e
    · rename_i h
      simp only [Option.some.injEq] at e; subst e
      have : b = a := by simpa using h
      simp [this]
    · simp only [Option.map_eq_some_iff] at e
      obtain ⟨k, ek, rfl⟩ := e
      simpa using posOf_some ek
theorem nodupB_inj : ∀ {l : List Nat}, nodupB l = true → ∀ {i j a : Nat}, l[i]? = some a → l[j]? = some a → i = j
  | [], _, i, j, a, h, _ => by simp at h
  | b :: r, hn, i, j, a, h, k => by
    simp only [nodupB, Bool.and_eq_true, Bool.not_eq_true'] at hn
    have hb : ∀ k, r[k]? = some b → False := fun k hk => by
      have := List.mem_of_getElem? hk
      simp [this] at hn
    cases i <;> cases j
    · rfl
    · simp at h k; subst h; exact (hb _ k).elim
    · simp at h k; subst k; exact (hb _ h).elim
    · rename_i i j
      simp at h k
      rw [nodupB_inj hn.2 h k]
theorem blksAt_ok {st : List Blk} : ∀ {ids : List Nat} {bs : List Blk}, blksAt st ids = some bs → bs.length = ids.length ∧ ∀ (k id : Nat), ids[k]? = some id → ∃ b, st[id]? = some b ∧ bs[k]? = some b ∧ b.live = true
  | [], _, e => by simp only [blksAt, Option.some.injEq] at e; subst e; simp
  | i :: r, _, e => by
    simp only [blksAt] at e
    split at e
    · rename_i b bs hb hbs
      split at e
      · rename_i hl
        simp only [Option.some.injEq] at e; subst e
        obtain ⟨h1, h2⟩ := blksAt_ok hbs
        refine ⟨by simp [h1], fun k id hk => ?_⟩
        cases k with
        | zero => simp at hk; subst hk; exact ⟨b, hb, by simp, hl⟩
        | succ k => simp at hk; simpa using h2 k id hk
      · simp at e
    · simp at e
theorem mapIdBs_ok {f : Nat → Option Nat} : ∀ {bs bs' : List Blk}, mapIdBs f bs = some bs' → bs'.length = bs.length ∧ ∀ (k : Nat) b', bs'[k]? = some b' → ∃ b, bs[k]? = some b ∧ mapIdB f b = some b'
  | [], _, e => by simp only [mapIdBs, Option.some.injEq] at e; subst e; simp
  | b :: r, _, e => by
    simp only [mapIdBs] at e
    split at e
    · rename_i x xs hx hxs
      simp only [Option.some.injEq] at e; subst e
      obtain ⟨h1, h2⟩ := mapIdBs_ok hxs
      refine ⟨by simp [h1], fun k b' hk => ?_⟩
      cases k with
      | zero => simp at hk; subst hk; exact ⟨b, by simp, hx⟩
      | succ k => simp at hk; simpa using h2 k b' hk
    · simp at e
theorem writeAt_length:∀ (ids:List Nat) (bs st:List Blk),(writeAt st ids bs).length=st.length
 | [],_,_=>by simp [writeAt]
 | _::_,[],_=>by simp [writeAt]
 | i::r,b::bs,st=>by simp [writeAt,writeAt_length r bs]
theorem writeAt_other {j : Nat} : ∀ (ids : List Nat) (bs st : List Blk), (∀ k : Nat, ids[k]? ≠ some j) → (writeAt st ids bs)[j]? = st[j]?
  | [], _, _, _ => by simp [writeAt]
  | _ :: _, [], _, _ => by simp [writeAt]
  | i :: r, b :: bs, st, h => by
    simp only [writeAt]
    rw [writeAt_other r bs _ fun k => by simpa using h (k + 1), List.getElem?_set_ne]
    rintro rfl
    exact h 0 (by simp)
theorem writeAt_at {j : Nat} : ∀ (ids : List Nat) (bs st : List Blk), nodupB ids = true → bs.length = ids.length → ∀ (k : Nat), ids[k]? = some j → j < st.length → (writeAt st ids bs)[j]? = bs[k]?
  | [], _, _, _, _, k, hk, _ => by simp at hk
  | i :: r, [], _, _, hl, _, _, _ => by simp at hl
  | i :: r, b :: bs, st, hn, hl, k, hk, hj => by
    simp only [writeAt]
    cases k with
    | zero =>
      simp only [List.getElem?_cons_zero, Option.some.injEq] at hk; subst hk
      rw [writeAt_other]
      · simp [hj]
      · intro k hk
        have := nodupB_inj hn (i := 0) (j := k + 1) (a := i) (by simp) (by simpa using hk)
        omega
    | succ k =>
      simp only [nodupB, Bool.and_eq_true] at hn
      rw [writeAt_at r bs _ hn.2 (by simpa using hl) k (by simpa using hk) (by simpa using hj)]
      simp

section pass
variable {gd:Gd} {c:Cx} {st:List Blk} {ids:List Nat}
theorem ofSig_some {s:Option (Sigma Ty.den)} {h:HV} (e:ofSig s=some h):∃ t x,s=some ⟨t,x⟩∧h=.iv t x:=by
 cases s with
 | none=>simp [ofSig] at e
 | some p=>obtain ⟨t,x⟩:=p; simp only [ofSig,Option.some.injEq] at e; exact ⟨t,x,rfl,e.symm⟩
theorem snapL_agg {ps : List HV} {t : Ty} {x : t.den} (h : snapL st ps = some ⟨t, x⟩) : t.agg = true := by
  cases ps with
  | nil =>
    simp only [snapL, Option.some.injEq, Sigma.mk.injEq] at h
    rw [← h.1]; rfl
  | cons p ps =>
    simp only [snapL] at h
    split at h
    · simp only [Option.some.injEq, Sigma.mk.injEq] at h
      rw [← h.1]; rfl
    · simp at h
theorem passCaps_ok (S : SR c st) : ∀ {caps caps' : List HV} {vs : List Value}, HVs c caps vs → passCaps st caps = some caps' → (∀ id ∈ capIds st caps, id ∈ ids) → HVs (c.froze ids) caps' vs
  | [], _, _, hh, e, _ => by simp only [passCaps, Option.some.injEq] at e; subst e; simpa only [HVs] using hh
  | h :: r, _, vs, hh, e, hid => by
    simp only [passCaps] at e
    split at e
    · rename_i x xs ex exs
      simp only [Option.some.injEq] at e; subst e
      simp only [HVs] at hh ⊢
      obtain ⟨v, rest, e1, h1, h2, h3⟩ := hh
      refine ⟨v, rest, e1, ?_, ?_, passCaps_ok S h3 exs fun id hm => hid id (by simp [capIds, hm])⟩
      · cases h <;> simp only [passCap] at ex <;> try (simp at ex; done)
        case ip t y =>
          simp only [Option.some.injEq] at ex; subst ex
          have L : c.Le (c.froze ids) some := ⟨fun _ h => .inl h, fun _ _ => rfl, fun i j hi e => by cases e; exact ⟨hi, rfl⟩⟩
          exact h1.mono L (mapId_some _)
        case lp id path off =>
          split at ex
          · rename_i el cont z hb
            split at ex
            · rename_i g o hg ho
              split at ex
              · rename_i eo; subst eo
                split at ex
                · rename_i t y hsn
                  simp only [Option.some.injEq] at ex; subst ex
                  obtain ⟨s, cur, hs, a1, _, _, a4, a5⟩ := by simpa only [BlkR] using S.blk id _ hb
                  obtain ⟨b1, b2⟩ := getP_ok a4 (by simpa using a5) hg ho
                  simp only [HC] at h1 ⊢
                  obtain ⟨_, s', hs', e2⟩ := h1
                  rw [hs] at hs'; cases hs'
                  have hsz : hsz g = t.size := by
                    have h1 := snap_ok S (Im' := fun _ => True) (fun _ _ => trivial) b2 hsn (fun _ _ _ _ => trivial)
                    have h2 := h1.length
                    rw [List.length_take, List.length_drop, Nat.min_eq_left (by simp; omega)] at h2
                    exact h2
                  refine ⟨s.b, o, cur, el, (0, 0), .inr ⟨id, hid id (by simp [capIds]), s, hs, rfl⟩, a1, by omega, ?_, e2⟩
                  rw [← hsz]
                  exact snap_ok S (fun b h => .inl h) b2 hsn fun id' hm s' hs' => .inr ⟨id', hid id' (by simp [capIds, hb, hg, hm]), s', hs', rfl⟩
                · simp at ex
              · simp at ex
            · simp at ex
          · simp at ex
      · rw [h2]
        cases h <;> simp only [passCap] at ex <;> try (simp at ex; done)
        · split at ex
          · split at ex
            · split at ex
              · split at ex
                · simp only [Option.some.injEq] at ex; subst ex; rfl
                · simp at ex
              · simp at ex
            · simp at ex
          · simp at ex
        · simp only [Option.some.injEq] at ex; subst ex; rfl
    · simp at e
mutual
theorem passA_ok (S : SR c st) {loan : Bool} : ∀ {ty : Option Ty} {h h' : HV} {cs : List Value}, HC c h cs → passA st loan ty h = some h' → (∀ id ∈ snIds st loan h, id ∈ ids) →
    HC (c.froze ids) h' cs ∧ hsz h' = hsz h ∧ hagg h' = hagg h ∧ (∀ ps, h' ≠ .tuple ps) ∧ h' ≠ .undef
  | ty, .iv t x, _, cs, hh, e, _ => by
    simp only [passA, Option.some.injEq] at e; subst e
    refine ⟨?_, rfl, rfl, by simp, by simp⟩
    simp only [HC] at hh ⊢
    exact hh.mono (fun _ h => .inl h) fun _ _ => rfl
  | ty, .ip t x, _, cs, hh, e, _ => by
    simp only [passA, Option.some.injEq] at e; subst e
    have L : c.Le (c.froze ids) some := ⟨fun _ h => .inl h, fun _ _ => rfl, fun i j hi e => by cases e; exact ⟨hi, rfl⟩⟩
    exact ⟨hh.mono L (mapId_some _), rfl, rfl, by simp, by simp⟩
  | ty, .nil, _, cs, hh, e, _ => by
    simp only [passA] at e
    split at e
    · simp only [Option.some.injEq] at e; subst e
      simp only [HC] at hh ⊢
      exact ⟨⟨none, 0, by simpa using hh, by simp, .inl rfl⟩, rfl, rfl, by simp, by simp⟩
    · simp at e
  | ty, .own id, _, cs, hh, e, hid => by
    simp only [passA] at e
    split at e
    · simp only [Option.some.injEq] at e; subst e
      exact ⟨by simpa only [HC, Cx.froze] using hh, rfl, rfl, by simp, by simp⟩
    · obtain ⟨t, x, e1, rfl⟩ := ofSig_some e
      have := snap_ok S (Im' := (c.froze ids).Im) (fun b h => .inl h) hh e1 fun id' hm s' hs' => .inr ⟨id', hid id' (by simpa [snIds, idsOf] using hm), s', hs', rfl⟩
      simp only [snap] at e1
      split at e1
      · simp only [Option.some.injEq, Sigma.mk.injEq] at e1
        exact ⟨by simp only [HC]; exact this, by simp only [hsz, ← e1.1, Ty.size], by simp only [hagg, ← e1.1, Ty.agg], by simp, by simp⟩
      · simp at e1
  | ty, .sub id o l, _, cs, hh, e, hid => by
    simp only [passA] at e
    obtain ⟨t, x, e1, rfl⟩ := ofSig_some e
    have := snap_ok S (Im' := (c.froze ids).Im) (fun b h => .inl h) hh e1 fun id' hm s' hs' => .inr ⟨id', hid id' (by simpa [snIds, idsOf] using hm), s', hs', rfl⟩
    simp only [snap] at e1
    split at e1
    · simp only [Option.some.injEq, Sigma.mk.injEq] at e1
      exact ⟨by simp only [HC]; exact this, by simp only [hsz, ← e1.1, Ty.size], by simp only [hagg, ← e1.1, Ty.agg], by simp, by simp⟩
    · simp at e1
  | ty, .lp id path off, _, cs, hh, e, hid => by
    cases path <;> cases off <;> simp only [passA, Option.some.injEq] at e <;> try (simp at e; done)
    subst e
    exact ⟨by simpa only [HC, Cx.froze] using hh, rfl, rfl, by simp, by simp⟩
  | ty, .agg ps, _, cs, hh, e, hid => by
    simp only [passA] at e
    split at e
    · simp only [Option.map_eq_some_iff] at e
      obtain ⟨ps', e1, rfl⟩ := e
      simp only [HC] at hh ⊢
      obtain ⟨g1, g2⟩ := passAL_ok S hh e1 (by simpa only [snIds] using hid)
      exact ⟨g1, by simpa only [hsz] using g2, rfl, by simp, by simp⟩
    · obtain ⟨t, x, e1, rfl⟩ := ofSig_some e
      simp only [HC] at hh ⊢
      have := snapL_ok S (Im' := (c.froze ids).Im) (fun b h => .inl h) hh e1 fun id' hm s' hs' => .inr ⟨id', hid id' (by simpa [snIds] using hm), s', hs', rfl⟩
      refine ⟨this, ?_, by simp only [hagg]; exact snapL_agg e1, by simp, by simp⟩
      have h1 := this.length
      have h2 := HCs.len hh
      simp only [hsz]; omega
  | ty, .fn f caps, _, cs, hh, e, hid => by
    simp only [passA, Option.map_eq_some_iff] at e
    obtain ⟨caps', e1, rfl⟩ := e
    simp only [HC] at hh ⊢
    obtain ⟨vs, e2, h2⟩ := hh
    exact ⟨⟨vs, e2, passCaps_ok S h2 e1 (by simpa only [snIds] using hid)⟩, rfl, rfl, by simp, by simp⟩
  | _, .undef, _, _, _, e, _ | _, .skip, _, _, _, e, _ | _, .nn .., _, _, _, e, _ | _, .le .., _, _, _, e, _ | _, .tuple _, _, _, _, e, _ => by simp [passA] at e
theorem passAL_ok (S : SR c st) : ∀ {ps ps' : List HV} {cs : List Value}, HCs c ps cs → passAL st ps = some ps' → (∀ id ∈ snIdsL st true ps, id ∈ ids) → HCs (c.froze ids) ps' cs ∧ hszL ps' = hszL ps
  | [], _, _, hh, e, _ => by simp only [passAL, Option.some.injEq] at e; subst e; exact ⟨by simpa only [HCs] using hh, rfl⟩
  | h :: r, _, _, hh, e, hid => by
    simp only [passAL] at e
    split at e
    · rename_i x xs ex exs
      simp only [Option.some.injEq] at e; subst e
      simp only [HCs] at hh ⊢
      obtain ⟨c1, c2, e1, h1, h2, h3⟩ := hh
      obtain ⟨g1, g2, _⟩ := passA_ok S h2 ex fun id hm => hid id (by simp [snIdsL, hm])
      obtain ⟨k1, k2⟩ := passAL_ok S h3 exs fun id hm => hid id (by simp [snIdsL, hm])
      exact ⟨⟨c1, c2, e1, by omega, g1, k1⟩, by simp only [hszL]; omega⟩
    · simp at e
end
theorem passL_ok (S : SR c st) {loan : Bool} : ∀ {ts : List (Option Ty)} {hs hs' : List HV} {vs : List Value}, HVL c hs vs → passL st loan ts hs = some hs' → (∀ id ∈ snIdsL st loan hs, id ∈ ids) → HVL (c.froze ids) hs' vs
  | _, [], _, _, hh, e, _ => by simp only [passL, Option.some.injEq] at e; subst e; simpa only [HVL] using hh
  | ts, h :: r, _, vs, hh, e, hid => by
    simp only [passL] at e
    split at e
    · rename_i x xs ex exs
      simp only [Option.some.injEq] at e; subst e
      obtain ⟨v, rest, e1, h1, h2⟩ := hh.cons
      have hu : h ≠ .undef := by rintro rfl; simp [passA] at ex
      have ht : ∀ ps, h ≠ .tuple ps := by rintro ps rfl; simp [passA] at ex
      rw [HVR.eq hu ht] at h1
      obtain ⟨g1, _, g2, g3, g4⟩ := passA_ok S h1.1 ex fun id hm => hid id (by simp [snIdsL, hm])
      refine ⟨v, rest, e1, ?_, passL_ok S h2 exs fun id hm => hid id (by simp [snIdsL, hm])⟩
      rw [HVR.eq g4 g3]
      exact ⟨g1, h1.2.trans g2.symm⟩
    · simp at e
end pass
end Go.Proofs.YtnhbcpmmdblkjaaDoorAm
