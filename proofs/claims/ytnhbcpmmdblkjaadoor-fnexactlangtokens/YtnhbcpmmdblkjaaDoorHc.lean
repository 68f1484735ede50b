/-
  Literals: what the program reads.
-/
import Derived.Test.YtnhbcpmmdblkjaaDoorHb
import Derived.Test.YtnhbcpmmdblkjaaDoorGd
namespace Go.Proofs.YtnhbcpmmdblkjaaDoorAm
open Go
set_option linter.unusedVariables false
set_option linter.unusedSimpArgs false

theorem cutC_eq {α:Type} (N:Nat) (c:UInt8) (l:List UInt8) (k:ByteArray→ByteArray→Bool→Option α) (hl:l.length≤2000000):strings_Cut N (BA l) (BA [c]) k=k (BA (cutL1 c l).1) (BA (cutL1 c l).2.1) (cutL1 c l).2.2:=by
 rw [strings_Cut.eq]
 unfold strings_Cut.b
 rw [internal_stringslite_Cut.eq]
 unfold internal_stringslite_Cut.b
 rw [internal_stringslite_Index.eq]
 unfold internal_stringslite_Index.b cutL1
 simp only [BA_data,BA_size,List.length_cons,List.length_nil,Nat.zero_add]
 rcases splC_index c l with ⟨h1,h2⟩ | ⟨u,v,h1,h2,h3⟩
 ·rw [h1,h2]
  have c:¬ (0:Int)≤-1:=by omega
  simp only [c,decide_false,cond_false,BA_empty]
 ·have hlen:l.length=u.length + (v.length + 1):=by rw [h3]; simp
  have c1:(u.length:Int)≤((l.length:Nat):Int):=by omega
  have w1:IntKind.i64.wrap ((u.length:Int) + ((1:Nat):Int))=((u.length + 1:Nat):Int):=by rw [wrap_i64 (by omega) (by omega)]; omega
  have c2:((u.length + 1:Nat):Int)≤((l.length:Nat):Int):=by omega
  have hf:(BA l).extract (u.length + 1) l.length=BA (l.drop (u.length + 1)):=by have:=BA_from l (u.length + 1); rwa [BA_size] at this
  have e1:l.take u.length=u:=by rw [h3]; simp
  have e2:l.drop (u.length + 1)=v:=by rw [h3]; simp
  rw [h1,h2]
  simp only [cast_nn,cond_true,c1,decide_true,Int.toNat_natCast,w1,c2,BA_upto,hf,e1,e2]
theorem impl_isDigits_eq' {α:Type} (N:Nat) (l:List UInt8) (k:Bool→Option α) (hb:l.length≤2000000) (hN:2000000 < N):impl_isDigits N (BA l) k=k (l.all isDig && decide (l ≠ [])):=by
 rw [impl_isDigits.eq]
 unfold impl_isDigits.b
 simp only [BA_size]
 refine (impl_isDigits_loop N l hb _ _ l.length 0 N (by omega) (by omega)).trans ?_
 rw [List.drop_zero]
 cases l.all isDig
 ·simp
 ·simp only [if_true,BA_empty,eqS_BA,Bool.true_and]
  by_cases h:l=[] <;> simp [h]
theorem impl_wholeDigits_eq {α : Type} (N : Nat) (l : List UInt8) (k : Bool → Option α) (hb : l.length ≤ 2000000) (hN : 2000000 < N) : impl_wholeDigits N (BA l) k = k (wholeD l) := by
  have b48 : (⟨#[48]⟩ : ByteArray) = BA [48] := rfl
  rw [impl_wholeDigits.eq]
  unfold impl_wholeDigits.b wholeD
  rw [impl_isDigits_eq' N l _ hb hN]
  cases hd : l.all isDig
  · simp
  cases l with
  | nil => simp
  | cons a r =>
    have h48 : ((a.toNat : Nat) : Int) = 48 ↔ a = 48 := by
      constructor
      · intro h
        have : a.toNat = 48 := by omega
        rw [← UInt8.ofNat_toNat (x := a), this]; rfl
      · intro h; rw [h]; rfl
    simp only [ne_eq, reduceCtorEq, not_false_eq_true, decide_true, Bool.and_self, cond_true, b48, eqS_BA, BA_get, List.getElem?_cons_zero, Bool.true_and, Option.some.injEq]
    by_cases h : a :: r = [48]
    · simp [h]
    · by_cases h2 : a = 48
      · have h1 := h48.2 h2
        simp only [h, h1, decide_false, decide_true, cond_false, Bool.not_true, Bool.false_or]
        simp only [h2, not_true_eq_false, decide_false]
      · have h3 : ¬ ((a.toNat : Nat) : Int) = 48 := fun q => h2 (h48.1 q)
        simp only [h, h3, h2, decide_false, decide_true, cond_false, Bool.not_false, not_false_eq_true, Bool.false_or]
theorem parse_dig : ∀ (l : List UInt8) (v i : Nat), l.all isDig = true → v < 10 ^ i → i + l.length ≤ 18 → Go.Lib.parseUint10 v l = .ok (l.foldl stepD v)
  | [], v, i, _, _, _ => rfl
  | c :: r, v, i, ha, hv, hi => by
    simp only [List.all_cons, Bool.and_eq_true] at ha
    have hd := isDig_ok ha.1
    have hlen : (c :: r).length = r.length + 1 := rfl
    have hp : 10 ^ i ≤ 10 ^ 17 := Nat.pow_le_pow_right (by omega) (by omega)
    have h17 : (10 : Nat) ^ 17 = 100000000000000000 := rfl
    have hv2 : stepD v c < 10 ^ (i + 1) := by unfold stepD; rw [Nat.pow_succ]; omega
    unfold Go.Lib.parseUint10
    rw [if_pos ⟨hd.1, hd.2⟩, if_neg (by omega), if_neg (by omega), List.foldl_cons]
    exact parse_dig r (stepD v c) (i + 1) ha.2 hv2 (by omega)
theorem atoi_dig {l : List UInt8} (ha : l.all isDig = true) (h0 : l ≠ []) (hl : l.length ≤ 18) : Go.Lib.atoiAll l = .ok ((valT l : Nat) : Int) := by
  have hp := parse_dig l 0 0 ha (by simp) (by omega)
  have hb := fold_lt l 0 0 ha (by simp)
  rw [Nat.zero_add] at hb
  have h18 : (10 : Nat) ^ l.length ≤ 10 ^ 18 := Nat.pow_le_pow_right (by omega) hl
  have e18 : (10 : Nat) ^ 18 = 1000000000000000000 := rfl
  cases l with
  | nil => exact absurd rfl h0
  | cons c r =>
    have hd := isDig_ok (by simp only [List.all_cons, Bool.and_eq_true] at ha; exact ha.1 : isDig c = true)
    have n43 : ¬ c.toNat = 43 := by omega
    have n45 : ¬ c.toNat = 45 := by omega
    have hm : Go.Lib.parseMag (c :: r) = .ok ((c :: r).foldl stepD 0) := by
      unfold Go.Lib.parseMag
      rw [if_neg (by simp)]; exact hp
    unfold Go.Lib.atoiAll
    simp only [n43, n45, or_self, if_false, hm, not_false_eq_true, true_and, false_and]
    rw [if_neg (by omega)]
    rfl
theorem lit_J11 {α:Type} (N:Nat) (a b:ByteArray) (m:Bool) (x:Nat) (hx:x≤400) (k:ByteArray→ByteArray→Int→Option α):impl_literal_J11 N a b m (x:Int) k=k a b (if m=true then -(x:Int) else (x:Int)):=by
 rw [impl_literal_J11.eq]
 unfold impl_literal_J11.b
 cases m
 ·rfl
 ·have w:IntKind.i64.wrap (0 - (x:Int))=-(x:Int):=by rw [wrap_i64 (by omega) (by omega)]; omega
  simp only [cond_true,w,if_true]
theorem lit_exp {α:Type} (N:Nat) (m:Bool) (d:List UInt8) (A B:ByteArray) (K:Int→Option α) (F:Option α) (k:ByteArray→ByteArray→Int→Bool→Option α) (hk:∀ p,k A B p true=K p) (hd:d.length≤2000000) (hN:2000000 < N) :
  strconv_Atoi N (BA d) (fun x=>impl_wholeDigits N (BA d) (fun b=>bif !b then F else bif decide ((3:Int) < (((BA d).size:Nat):Int)) then F else bif decide ((400:Int) < x) then F else
   bif m then (bif decide (x=(0:Int)) then F else impl_literal_J11 N A B m x (fun a b c=>k a b c true)) else impl_literal_J11 N A B m x (fun a b c=>k a b c true))) (fun _=>F)=match expI m d with
   | some p=>K p
   | none=>F:=by
 have hsz:d.length≤281474976710656:=by omega
 rw [strconv_Atoi.eq]
 unfold strconv_Atoi.b
 simp only [hsz,decide_true,cond_true,BA_data,BA_size,impl_wholeDigits_eq N d _ hd hN]
 by_cases hw:wholeD d=true
 ·have hw2:=hw
  unfold wholeD at hw2
  simp only [Bool.and_eq_true,decide_eq_true_eq] at hw2
  obtain ⟨⟨ha,h0⟩,_⟩:=hw2
  by_cases hl:d.length≤3
  ·have hat:=atoi_dig ha h0 (by omega)
   have c3:¬ (3:Int) < ((d.length:Nat):Int):=by omega
   rw [hat]
   unfold expI
   simp only [hw,Bool.not_true,cond_false,c3,decide_false]
   by_cases h4:valT d≤400
   ·have c4:¬ (400:Int) < ((valT d:Nat):Int):=by omega
    simp only [c4,decide_false,cond_false,lit_J11 N A B m (valT d) h4,hk]
    by_cases hz:valT d=0
    ·cases m <;> simp [hz,hl]
    ·have cz:¬ ((valT d:Nat):Int)=0:=by omega
     cases m <;> simp [hz,hl,h4,cz]
   ·have c4:(400:Int) < ((valT d:Nat):Int):=by omega
    simp [c4,h4]
  ·have c3:(3:Int) < ((d.length:Nat):Int):=by omega
   have e:expI m d=none:=by unfold expI; rw [if_neg]; omega
   rw [e]
   simp only [hw,Bool.not_true,cond_false,c3,decide_true,cond_true]
   cases Go.Lib.atoiAll d <;> rfl
 ·have e:expI m d=none:=by unfold expI; rw [if_neg]; exact fun q=>hw q.1
  have hw:wholeD d=false:=by simpa using hw
  rw [e]
  simp only [hw,Bool.not_false,cond_true]
  cases Go.Lib.atoiAll d <;> rfl
theorem minusI_len (l:List UInt8):(minusI l).2.length≤l.length:=by
 unfold minusI; split <;> simp
theorem cutMinus_eq {α:Type} (N:Nat) (x:List UInt8) (k:ByteArray→Bool→Option α):strings_CutPrefix N (BA x) (BA [45]) k=k (BA (minusI x).2) (minusI x).1:=by
 rw [cutPrefix_eq]
 unfold minusI
 split <;> rfl
theorem impl_literal_eq {α:Type} (N:Nat) (s:List UInt8) (k:ByteArray→ByteArray→Int→Bool→Option α) (hs:s.length≤2000000) (hN:2000000 < N):impl_literal N (BA s) k=match litI s with
  | some (v,e,p)=>k (BA v) (BA e) p true
  | none=>k ByteArray.empty ByteArray.empty 0 false:=by
 have b101:(⟨#[101]⟩:ByteArray)=BA [101]:=rfl
 have b46:(⟨#[46]⟩:ByteArray)=BA [46]:=rfl
 have b45:(⟨#[45]⟩:ByteArray)=BA [45]:=rfl
 obtain ⟨l1,l2⟩:=cutL1_len 101 s
 rw [impl_literal.eq]
 unfold impl_literal.b litI
 simp only [b101,b46,b45,cutC_eq N 101 s _ hs]
 generalize cutL1 101 s=c1 at *
 obtain ⟨e,pw,hp⟩:=c1
 simp only at l1 l2 ⊢
 obtain ⟨l3,l4⟩:=cutL1_len 46 e
 simp only [cutC_eq N 46 e _ (show e.length≤2000000 by omega)]
 generalize cutL1 46 e=c2 at *
 obtain ⟨a,b,t⟩:=c2
 simp only at l3 l4 ⊢
 have lm:=minusI_len pw
 have le:=fun (K:Int→Option α) (F:Option α) (hk:∀ p,k (BA a) (BA b) p true=K p)=>lit_exp N (minusI pw).1 (minusI pw).2 (BA a) (BA b) K F k hk (by omega) hN
 simp only [impl_wholeDigits_eq N a _ (show a.length≤2000000 by omega) hN,impl_isDigits_eq' N b _ (show b.length≤2000000 by omega) hN,cutMinus_eq]
 cases hw:wholeD a
 ·simp
 simp only [Bool.not_true,cond_false,true_and]
 have fin:∀ F:Option α,F=k ByteArray.empty ByteArray.empty 0 false→(bif !hp then k (BA a) (BA b) 0 true else strconv_Atoi N (BA (minusI pw).2) (fun x=>impl_wholeDigits N (BA (minusI pw).2) (fun b1=>bif !b1 then F else bif decide ((3:Int) < (((BA (minusI pw).2).size:Nat):Int)) then F else bif decide ((400:Int) < x) then F else
   bif (minusI pw).1 then (bif decide (x=(0:Int)) then F else impl_literal_J11 N (BA a) (BA b) (minusI pw).1 x (fun a b c=>k a b c true)) else impl_literal_J11 N (BA a) (BA b) (minusI pw).1 x (fun a b c=>k a b c true))) (fun _=>F))=match (if hp=true then (expI (minusI pw).1 (minusI pw).2).map fun p=>(a,b,p) else some (a,b,0)) with
   | some (v,e,p)=>k (BA v) (BA e) p true
   | none=>F:=by
  intro F hF
  cases hp
  ·rfl
  ·simp only [Bool.not_true,cond_false,if_true]
   rw [le (fun p=>k (BA a) (BA b) p true) F fun p=>rfl]
   cases expI (minusI pw).1 (minusI pw).2 <;> rfl
 have fin:=fin _ rfl
 cases t
 ·simp only [cond_false,Bool.false_eq_true,false_implies,if_true]
  exact fin
 ·simp only [cond_true,true_implies]
  cases hb:b.all isDig && decide (b ≠ [])
  ·have:¬ (b.all isDig=true∧b ≠ []):=by
    rintro ⟨q1,q2⟩
    rw [q1,decide_eq_true q2] at hb
    cases hb
   rw [if_neg this]
   simp
  ·have:b.all isDig=true∧b ≠ []:=by simpa using hb
   rw [if_pos this]
   simp only [Bool.not_true,cond_false]
   exact fin
theorem impl_DecOk_eq {α : Type} (N : Nat) (s : List UInt8) (k : Bool → Option α) (hs : s.length ≤ 2000000) (hN : 2000000 < N) : impl_DecOk N (BA s) k = k ((litI s).isSome && decide (s.length ≤ 60)) := by
  rw [impl_DecOk.eq]
  unfold impl_DecOk.b
  rw [impl_literal_eq N s _ hs hN]
  cases h : litI s with
  | none => simp
  | some p =>
    obtain ⟨v, e, p⟩ := p
    simp only [cond_true, BA_size, Option.isSome_some, Bool.true_and]
    by_cases h6 : s.length ≤ 60
    · have : ((s.length : Nat) : Int) ≤ 60 := by omega
      simp [h6, this]
    · have : ¬ ((s.length : Nat) : Int) ≤ 60 := by omega
      simp [h6, this]
end Go.Proofs.YtnhbcpmmdblkjaaDoorAm
