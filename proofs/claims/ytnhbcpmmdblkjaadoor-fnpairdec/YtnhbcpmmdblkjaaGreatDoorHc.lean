/-
  Literals: what the program reads.
-/
import Derived.Test.YtnhbcpmmdblkjaaGreatDoorHb
import Derived.Test.YtnhbcpmmdblkjaaGreatDoorGd
namespace Go.Proofs.YtnhbcpmmdblkjaaGreatDoorAm
open Go
set_option linter.unusedVariables false
set_option linter.unusedSimpArgs false

theorem wqg {α:Type} (N:Nat) (c:UInt8) (l:List UInt8) (k:ByteArray→ByteArray→Bool→Option α) (hl:l.length≤2000000):wek N (BA l) (BA [c]) k=k (BA (wfp c l).1) (BA (wfp c l).2.1) (wfp c l).2.2:=by
 rw [wek.eq]
 unfold wek.b
 rw [wbd.eq]
 unfold wbd.b
 rw [wE.eq]
 unfold wE.b wfp
 simp only [wpS,weh,List.length_cons,List.length_nil,Nat.zero_add]
 rcases wmt c l with ⟨h1,h2⟩ | ⟨u,v,h1,h2,h3⟩
 ·rw [h1,h2]
  have c:¬ (0:Int)≤-1:=by omega
  simp only [c,decide_false,cond_false,wni]
 ·have hlen:l.length=u.length + (v.length + 1):=by rw [h3]; simp
  have c1:(u.length:Int)≤((l.length:Nat):Int):=by omega
  have w1:IntKind.i64.wrap ((u.length:Int) + ((1:Nat):Int))=((u.length + 1:Nat):Int):=by rw [wd (by omega) (by omega)]; omega
  have c2:((u.length + 1:Nat):Int)≤((l.length:Nat):Int):=by omega
  have hf:(BA l).extract (u.length + 1) l.length=BA (l.drop (u.length + 1)):=by have:=wpW l (u.length + 1); rwa [weh] at this
  have e1:l.take u.length=u:=by rw [h3]; simp
  have e2:l.drop (u.length + 1)=v:=by rw [h3]; simp
  rw [h1,h2]
  simp only [weF,cond_true,c1,decide_true,Int.toNat_natCast,w1,c2,wm8,hf,e1,e2]
theorem whN {α:Type} (N:Nat) (l:List UInt8) (k:Bool→Option α) (hb:l.length≤2000000) (hN:2000000 < N):wdA N (BA l) k=k (l.all wff && decide (l ≠ [])):=by
 rw [wdA.eq]
 unfold wdA.b
 simp only [weh]
 refine (wjL N l hb _ _ l.length 0 N (by omega) (by omega)).trans ?_
 rw [List.drop_zero]
 cases l.all wff
 ·simp
 ·simp only [if_true,wni,wp8,Bool.true_and]
  by_cases h:l=[] <;> simp [h]
theorem whu {α : Type} (N : Nat) (l : List UInt8) (k : Bool → Option α) (hb : l.length ≤ 2000000) (hN : 2000000 < N) : wbR N (BA l) k = k (wgR l) := by
  have b48 : (⟨#[48]⟩ : ByteArray) = BA [48] := rfl
  rw [wbR.eq]
  unfold wbR.b wgR
  rw [whN N l _ hb hN]
  cases hd : l.all wff
  · simp
  cases l with
  | nil => simp
  | cons a r =>
    have h48 : ((a.toNat : Nat) : Int) = 48 ↔ a = 48 := by
      constructor
      · intro h
        have : a.toNat = 48 := by omega
        rw [← UInt8.ofNat_toNat (x := a), this]; rfl
      · intro h; rw [h]; rfl
    simp only [ne_eq, reduceCtorEq, not_false_eq_true, decide_true, Bool.and_self, cond_true, b48, wp8, wgD, List.getElem?_cons_zero, Bool.true_and, Option.some.injEq]
    by_cases h : a :: r = [48]
    · simp [h]
    · by_cases h2 : a = 48
      · have h1 := h48.2 h2
        simp only [h, h1, decide_false, decide_true, cond_false, Bool.not_true, Bool.false_or]
        simp only [h2, not_true_eq_false, decide_false]
      · have h3 : ¬ ((a.toNat : Nat) : Int) = 48 := fun q => h2 (h48.1 q)
        simp only [h, h3, h2, decide_false, decide_true, cond_false, Bool.not_false, not_false_eq_true, Bool.false_or]
theorem wnH : ∀ (l : List UInt8) (v i : Nat), l.all wff = true → v < 10 ^ i → i + l.length ≤ 18 → Go.Lib.parseUint10 v l = .ok (l.foldl wgf v)
  | [], v, i, _, _, _ => rfl
  | c :: r, v, i, ha, hv, hi => by
    simp only [List.all_cons, Bool.and_eq_true] at ha
    have hd := whl ha.1
    have hlen : (c :: r).length = r.length + 1 := rfl
    have hp : 10 ^ i ≤ 10 ^ 17 := Nat.pow_le_pow_right (by omega) (by omega)
    have h17 : (10 : Nat) ^ 17 = 100000000000000000 := rfl
    have hv2 : wgf v c < 10 ^ (i + 1) := by unfold wgf; rw [Nat.pow_succ]; omega
    unfold Go.Lib.parseUint10
    rw [if_pos ⟨hd.1, hd.2⟩, if_neg (by omega), if_neg (by omega), List.foldl_cons]
    exact wnH r (wgf v c) (i + 1) ha.2 hv2 (by omega)
theorem wq8 {l : List UInt8} (ha : l.all wff = true) (h0 : l ≠ []) (hl : l.length ≤ 18) : Go.Lib.atoiAll l = .ok ((valT l : Nat) : Int) := by
  have hp := wnH l 0 0 ha (by simp) (by omega)
  have hb := woC l 0 0 ha (by simp)
  rw [Nat.zero_add] at hb
  have h18 : (10 : Nat) ^ l.length ≤ 10 ^ 18 := Nat.pow_le_pow_right (by omega) hl
  have e18 : (10 : Nat) ^ 18 = 1000000000000000000 := rfl
  cases l with
  | nil => exact absurd rfl h0
  | cons c r =>
    have hd := whl (by simp only [List.all_cons, Bool.and_eq_true] at ha; exact ha.1 : wff c = true)
    have n43 : ¬ c.toNat = 43 := by omega
    have n45 : ¬ c.toNat = 45 := by omega
    have hm : Go.Lib.parseMag (c :: r) = .ok ((c :: r).foldl wgf 0) := by
      unfold Go.Lib.parseMag
      rw [if_neg (by simp)]; exact hp
    unfold Go.Lib.atoiAll
    simp only [n43, n45, or_self, if_false, hm, not_false_eq_true, true_and, false_and]
    rw [if_neg (by omega)]
    rfl
theorem wsE {α:Type} (N:Nat) (a b:ByteArray) (m:Bool) (x:Nat) (hx:x≤400) (k:ByteArray→ByteArray→Int→Option α):wbc N a b m (x:Int) k=k a b (if m=true then -(x:Int) else (x:Int)):=by
 rw [wbc.eq]
 unfold wbc.b
 cases m
 ·rfl
 ·have w:IntKind.i64.wrap (0 - (x:Int))=-(x:Int):=by rw [wd (by omega) (by omega)]; omega
  simp only [cond_true,w,if_true]
theorem wsM {α:Type} (N:Nat) (m:Bool) (d:List UInt8) (A B:ByteArray) (K:Int→Option α) (F:Option α) (k:ByteArray→ByteArray→Int→Bool→Option α) (hk:∀ p,k A B p true=K p) (hd:d.length≤2000000) (hN:2000000 < N) :
  wcX N (BA d) (fun x=>wbR N (BA d) (fun b=>bif !b then F else bif decide ((3:Int) < (((BA d).size:Nat):Int)) then F else bif decide ((400:Int) < x) then F else
   bif m then (bif decide (x=(0:Int)) then F else wbc N A B m x (fun a b c=>k a b c true)) else wbc N A B m x (fun a b c=>k a b c true))) (fun _=>F)=match expI m d with
   | some p=>K p
   | none=>F:=by
 have hsz:d.length≤281474976710656:=by omega
 rw [wcX.eq]
 unfold wcX.b
 simp only [hsz,decide_true,cond_true,wpS,weh,whu N d _ hd hN]
 by_cases hw:wgR d=true
 ·have hw2:=hw
  unfold wgR at hw2
  simp only [Bool.and_eq_true,decide_eq_true_eq] at hw2
  obtain ⟨⟨ha,h0⟩,_⟩:=hw2
  by_cases hl:d.length≤3
  ·have hat:=wq8 ha h0 (by omega)
   have c3:¬ (3:Int) < ((d.length:Nat):Int):=by omega
   rw [hat]
   unfold expI
   simp only [hw,Bool.not_true,cond_false,c3,decide_false]
   by_cases h4:valT d≤400
   ·have c4:¬ (400:Int) < ((valT d:Nat):Int):=by omega
    simp only [c4,decide_false,cond_false,wsE N A B m (valT d) h4,hk]
    by_cases hz:valT d=0
    ·cases m <;> simp [hz,hl]
    ·have cz:¬ ((valT d:Nat):Int)=0:=by omega
     cases m <;> simp [hz,hl,h4,cz]
   ·have c4:(400:Int) < ((valT d:Nat):Int):=by omega
    simp [c4,h4]
  ·have c3:(3:Int) < ((d.length:Nat):Int):=by omega
   have e:expI m d=none:=by unfold expI; rw [if_neg]; omega
   rw [e]
   simp only [hw,Bool.not_true,cond_false,c3,decide_true,cond_true]
   cases Go.Lib.atoiAll d <;> rfl
 ·have e:expI m d=none:=by unfold expI; rw [if_neg]; exact fun q=>hw q.1
  have hw:wgR d=false:=by simpa using hw
  rw [e]
  simp only [hw,Bool.not_false,cond_true]
  cases Go.Lib.atoiAll d <;> rfl
theorem wpM (l:List UInt8):(weZ l).2.length≤l.length:=by
 unfold weZ; split <;> simp
theorem wow {α:Type} (N:Nat) (x:List UInt8) (k:ByteArray→Bool→Option α):wb3 N (BA x) (BA [45]) k=k (BA (weZ x).2) (weZ x).1:=by
 rw [woa]
 unfold weZ
 split <;> rfl
theorem wiD {α:Type} (N:Nat) (s:List UInt8) (k:ByteArray→ByteArray→Int→Bool→Option α) (hs:s.length≤2000000) (hN:2000000 < N):wdZ N (BA s) k=match litI s with
  | some (v,e,p)=>k (BA v) (BA e) p true
  | none=>k ByteArray.empty ByteArray.empty 0 false:=by
 have b101:(⟨#[101]⟩:ByteArray)=BA [101]:=rfl
 have b46:(⟨#[46]⟩:ByteArray)=BA [46]:=rfl
 have b45:(⟨#[45]⟩:ByteArray)=BA [45]:=rfl
 obtain ⟨l1,l2⟩:=wnl 101 s
 rw [wdZ.eq]
 unfold wdZ.b litI
 simp only [b101,b46,b45,wqg N 101 s _ hs]
 generalize wfp 101 s=c1 at *
 obtain ⟨e,pw,hp⟩:=c1
 simp only at l1 l2 ⊢
 obtain ⟨l3,l4⟩:=wnl 46 e
 simp only [wqg N 46 e _ (show e.length≤2000000 by omega)]
 generalize wfp 46 e=c2 at *
 obtain ⟨a,b,t⟩:=c2
 simp only at l3 l4 ⊢
 have lm:=wpM pw
 have le:=fun (K:Int→Option α) (F:Option α) (hk:∀ p,k (BA a) (BA b) p true=K p)=>wsM N (weZ pw).1 (weZ pw).2 (BA a) (BA b) K F k hk (by omega) hN
 simp only [whu N a _ (show a.length≤2000000 by omega) hN,whN N b _ (show b.length≤2000000 by omega) hN,wow]
 cases hw:wgR a
 ·simp
 simp only [Bool.not_true,cond_false,true_and]
 have fin:∀ F:Option α,F=k ByteArray.empty ByteArray.empty 0 false→(bif !hp then k (BA a) (BA b) 0 true else wcX N (BA (weZ pw).2) (fun x=>wbR N (BA (weZ pw).2) (fun b1=>bif !b1 then F else bif decide ((3:Int) < (((BA (weZ pw).2).size:Nat):Int)) then F else bif decide ((400:Int) < x) then F else
   bif (weZ pw).1 then (bif decide (x=(0:Int)) then F else wbc N (BA a) (BA b) (weZ pw).1 x (fun a b c=>k a b c true)) else wbc N (BA a) (BA b) (weZ pw).1 x (fun a b c=>k a b c true))) (fun _=>F))=match (if hp=true then (expI (weZ pw).1 (weZ pw).2).map fun p=>(a,b,p) else some (a,b,0)) with
   | some (v,e,p)=>k (BA v) (BA e) p true
   | none=>F:=by
  intro F hF
  cases hp
  ·rfl
  ·simp only [Bool.not_true,cond_false,if_true]
   rw [le (fun p=>k (BA a) (BA b) p true) F fun p=>rfl]
   cases expI (weZ pw).1 (weZ pw).2 <;> rfl
 have fin:=fin _ rfl
 cases t
 ·simp only [cond_false,Bool.false_eq_true,false_implies,if_true]
  exact fin
 ·simp only [cond_true,true_implies]
  cases hb:b.all wff && decide (b ≠ [])
  ·have:¬ (b.all wff=true∧b ≠ []):=by
    rintro ⟨q1,q2⟩
    rw [q1,decide_eq_true q2] at hb
    cases hb
   rw [if_neg this]
   simp
  ·have:b.all wff=true∧b ≠ []:=by simpa using hb
   rw [if_pos this]
   simp only [Bool.not_true,cond_false]
   exact fin
theorem wmU {α : Type} (N : Nat) (s : List UInt8) (k : Bool → Option α) (hs : s.length ≤ 2000000) (hN : 2000000 < N) : we9 N (BA s) k = k ((litI s).isSome && decide (s.length ≤ 60)) := by
  rw [we9.eq]
  unfold we9.b
  rw [wiD N s _ hs hN]
  cases h : litI s with
  | none => simp
  | some p =>
    obtain ⟨v, e, p⟩ := p
    simp only [cond_true, weh, Option.isSome_some, Bool.true_and]
    by_cases h6 : s.length ≤ 60
    · have : ((s.length : Nat) : Int) ≤ 60 := by omega
      simp [h6, this]
    · have : ¬ ((s.length : Nat) : Int) ≤ 60 := by omega
      simp [h6, this]
end Go.Proofs.YtnhbcpmmdblkjaaGreatDoorAm
