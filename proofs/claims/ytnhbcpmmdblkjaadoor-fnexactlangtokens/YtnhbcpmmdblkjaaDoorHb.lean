/-
  Literals: how both texts take a literal apart.
-/
import Derived.Test.YtnhbcpmmdblkjaaDoorGc
namespace Go.Proofs.YtnhbcpmmdblkjaaDoorAm
open Go
set_option linter.unusedVariables false
set_option linter.unusedSimpArgs false

def splC (c:UInt8):List UInt8→Option (List UInt8×List UInt8)
 | []=>none
 | b::r=>if b=c then some ([],r) else (splC c r).map fun p=>(b::p.1,p.2)
theorem splC_hit (c : UInt8) : ∀ (u v : List UInt8), (∀ x ∈ u, x ≠ c) → splC c (u ++ c :: v) = some (u, v)
  | [], v, _ => by simp [splC]
  | b :: u, v, h => by
    have hb : b ≠ c := h b (by simp)
    have := splC_hit c u v fun x hx => h x (by simp [hx])
    simp [splC, hb, this]
theorem splC_no (c : UInt8) : ∀ (u : List UInt8), (∀ x ∈ u, x ≠ c) → splC c u = none
  | [], _ => rfl
  | b :: u, h => by
    have hb : b ≠ c := h b (by simp)
    simp [splC, hb, splC_no c u fun x hx => h x (by simp [hx])]
theorem splC_pre (c : UInt8) : ∀ (u r : List UInt8), (∀ x ∈ u, x ≠ c) → splC c (u ++ r) = (splC c r).map fun p => (u ++ p.1, p.2)
  | [], r, _ => by cases h : splC c r <;> simp [h]
  | b :: u, r, h => by
    have hb : b ≠ c := h b (by simp)
    have := splC_pre c u r fun x hx => h x (by simp [hx])
    simp only [List.cons_append, splC, hb, if_false, this]
    cases splC c r <;> simp
theorem splC_some {c : UInt8} : ∀ {l u v : List UInt8}, splC c l = some (u, v) → l = u ++ c :: v
  | [], u, v, h => by simp [splC] at h
  | b :: r, u, v, h => by
    unfold splC at h
    split at h
    · rename_i hb
      simp only [Option.some.injEq, Prod.mk.injEq] at h
      obtain ⟨rfl, rfl⟩ := h
      simp [hb]
    · cases hs : splC c r with
      | none => rw [hs] at h; cases h
      | some p =>
        obtain ⟨p, q⟩ := p
        rw [hs] at h
        simp only [Option.map_some, Option.some.injEq, Prod.mk.injEq] at h
        obtain ⟨rfl, rfl⟩ := h
        rw [splC_some hs]; rfl
theorem splC_index (c : UInt8) : ∀ l : List UInt8, (splC c l = none ∧ Go.Lib.indexByte l c = -1) ∨ ∃ u v, splC c l = some (u, v) ∧ Go.Lib.indexByte l c = (u.length : Int) ∧ l = u ++ c :: v
  | [] => .inl ⟨rfl, rfl⟩
  | b :: r => by
    by_cases hb : b = c
    · subst hb
      right
      refine ⟨[], r, by simp [splC], ?_, rfl⟩
      simp [Go.Lib.indexByte]
    · have hb2 : (b == c) = false := by simpa using hb
      rcases splC_index c r with ⟨h1, h2⟩ | ⟨u, v, h1, h2, h3⟩
      · left
        refine ⟨by simp [splC, hb, h1], ?_⟩
        unfold Go.Lib.indexByte
        rw [hb2, h2]; rfl
      · right
        refine ⟨b :: u, v, by simp [splC, hb, h1], ?_, by rw [h3]; rfl⟩
        unfold Go.Lib.indexByte
        have hne : (Go.Lib.indexByte r c == -1) = false := by
          rw [h2]
          simp
        rw [hb2, hne, h2]
        simp
def cutL1 (c:UInt8) (l:List UInt8):List UInt8×List UInt8×Bool:=match splC c l with
 | none=>(l,[],false)
 | some (u,v)=>(u,v,true)
theorem cutL1_len (c:UInt8) (l:List UInt8):(cutL1 c l).1.length≤l.length∧(cutL1 c l).2.1.length≤l.length:=by
 unfold cutL1
 split
 ·simp
 ·rename_i u v h
  rw [splC_some h]
  simp; omega
def wholeD (l:List UInt8):Bool:=l.all isDig && decide (l ≠ []) && (decide (l=[48]) || decide (l[0]? ≠ some 48))
def expI (m:Bool) (d:List UInt8):Option Int:=if wholeD d=true∧d.length≤3∧valT d≤400∧¬ (m=true∧valT d=0) then some (if m=true then -(valT d:Int) else (valT d:Int)) else none
def minusI (l:List UInt8):Bool×List UInt8:=if l[0]?=some 45 then (true,l.drop 1) else (false,l)
def litI (s:List UInt8):Option (List UInt8×List UInt8×Int) :=
 if wholeD (cutL1 46 (cutL1 101 s).1).1=true∧((cutL1 46 (cutL1 101 s).1).2.2=true→(cutL1 46 (cutL1 101 s).1).2.1.all isDig=true∧(cutL1 46 (cutL1 101 s).1).2.1 ≠ []) then
  if (cutL1 101 s).2.2=true then (expI (minusI (cutL1 101 s).2.1).1 (minusI (cutL1 101 s).2.1).2).map fun p=>((cutL1 46 (cutL1 101 s).1).1,(cutL1 46 (cutL1 101 s).1).2.1,p)
  else some ((cutL1 46 (cutL1 101 s).1).1,(cutL1 46 (cutL1 101 s).1).2.1,0)
 else none
def digT (l:List UInt8):List UInt8:=l.takeWhile isDig
def digR (l:List UInt8):List UInt8:=l.dropWhile isDig
theorem dig_app (l:List UInt8):digT l++digR l=l:=List.takeWhile_append_dropWhile
theorem digT_all : ∀ l : List UInt8, (digT l).all isDig = true
  | [] => rfl
  | b :: r => by
    unfold digT
    rw [List.takeWhile_cons]
    split
    · rename_i h
      simp only [List.all_cons, h, Bool.true_and]
      exact digT_all r
    · rfl
theorem digR_head : ∀ l : List UInt8, digR l = [] ∨ ∃ c s, digR l = c :: s ∧ isDig c = false
  | [] => .inl rfl
  | b :: r => by
    unfold digR
    rw [List.dropWhile_cons]
    split
    · exact digR_head r
    · rename_i h
      exact .inr ⟨b, r, rfl, by simpa using h⟩
def expS (m:Bool) (l:List UInt8):Option Int :=
 if (digT l).length=0∨3 < (digT l).length∨(1 < (digT l).length∧l[0]?=some 48)∨(m=true∧l[0]?=some 48)∨400 < valT (digT l)∨digR l ≠ [] then none
 else some (if m=true then -(valT (digT l):Int) else (valT (digT l):Int))
def tailS (v e r:List UInt8):Option (List UInt8×List UInt8×Int):=match r with
 | []=>some (v,e,0)
 | c::r=>if c=101 then (expS (minusI r).1 (minusI r).2).map fun p=>(v,e,p) else none
def litS (s:List UInt8):Option (List UInt8×List UInt8×Int) :=
 if (digT s).length=0∨(1 < (digT s).length∧s[0]?=some 48) then none
 else match digR s with
  | []=>some (digT s,[],0)
  | c::r=>if c=46 then (if digT r=[] then none else tailS (digT s) (digT r) (digR r)) else tailS (digT s) [] (c::r)
theorem dig_ne {c x:UInt8} (hx:isDig x=true) (hc:isDig c=false):x ≠ c:=by rintro rfl; rw [hx] at hc; cases hc
theorem all_ne {c:UInt8} {l:List UInt8} (hl:l.all isDig=true) (hc:isDig c=false):∀ x ∈ l,x ≠ c:=fun x hx=>dig_ne (List.all_eq_true.1 hl x hx) hc
theorem wholeD_eq {v r : List UInt8} (hv : v.all isDig = true) (hr : r = [] ∨ ∃ c s, r = c :: s ∧ isDig c = false) : wholeD v = true ↔ ¬ (v.length = 0 ∨ (1 < v.length ∧ (v ++ r)[0]? = some 48)) := by
  unfold wholeD
  cases v with
  | nil => simp
  | cons a v =>
    simp only [hv, Bool.true_and, ne_eq, reduceCtorEq, not_false_eq_true, decide_true, List.cons.injEq, List.getElem?_cons_zero, Option.some.injEq, List.cons_append, List.length_cons, Bool.or_eq_true, decide_eq_true_eq]
    by_cases h : a = 48
    · subst h
      cases v <;> simp
    · simp [h]
theorem all_mid {u w:List UInt8} {c:UInt8} (hc:isDig c=false):(u++c::w).all isDig=false:=by
 rw [List.all_append,List.all_cons,hc]; simp
theorem wholeD_mid {u w:List UInt8} {c:UInt8} (hc:isDig c=false):wholeD (u++c::w)=false:=by
 unfold wholeD
 rw [all_mid hc]; rfl
theorem valT_zero {d : List UInt8} (h : wholeD d = true) : valT d = 0 ↔ d[0]? = some 48 := by
  unfold wholeD at h
  simp only [Bool.and_eq_true, Bool.or_eq_true, decide_eq_true_eq] at h
  obtain ⟨⟨h1, h2⟩, h3⟩ := h
  constructor
  · intro hv
    rcases h3 with rfl | h3
    · rfl
    · exfalso
      cases d with
      | nil => exact h2 rfl
      | cons x r =>
        have hx := isDig_ok (by simp only [List.all_cons, Bool.and_eq_true] at h1; exact h1.1 : isDig x = true)
        have hx2 : x.toNat ≠ 48 := fun q => h3 (by simp only [List.getElem?_cons_zero]; rw [← UInt8.ofNat_toNat (x := x), q]; rfl)
        have := fold_ge r (stepD 0 x)
        unfold valT at hv
        rw [List.foldl_cons] at hv
        unfold stepD at *
        omega
  · intro hd
    rcases h3 with rfl | h3
    · rfl
    · exact absurd hd h3
theorem exp_eq (m:Bool) (l:List UInt8):expI m l=expS m l:=by
 have hl:=dig_app l
 have hd:=digT_all l
 have hr:=digR_head l
 unfold expI expS
 by_cases hr0:digR l=[]
 ·have e:digT l=l:=by rw [hr0,List.append_nil] at hl; exact hl
  rw [e] at hd ⊢
  have hw:=wholeD_eq (v:=l) (r:=[]) hd (.inl rfl)
  rw [List.append_nil] at hw
  by_cases h1:wholeD l=true
  ·have hz:=valT_zero h1
   have h2:=hw.1 h1
   simp only [not_or,not_and] at h2
   by_cases h3:l.length≤3∧valT l≤400∧¬ (m=true∧valT l=0)
   ·have hn:¬ (l.length=0∨3 < l.length∨(1 < l.length∧l[0]?=some 48)∨(m=true∧l[0]?=some 48)∨400 < valT l∨digR l ≠ []):=by
     rintro (q | q | ⟨q,q'⟩ | ⟨q,q'⟩ | q | q)
     ·exact h2.1 q
     ·omega
     ·exact h2.2 q q'
     ·exact h3.2.2 ⟨q,hz.2 q'⟩
     ·omega
     ·exact q hr0
    rw [if_pos ⟨h1,h3⟩,if_neg hn]
   ·rw [if_neg (fun q=>h3 q.2),if_pos]
    by_cases q1:3 < l.length
    ·exact .inr (.inl q1)
    by_cases q2:400 < valT l
    ·exact .inr (.inr (.inr (.inr (.inl q2))))
    by_cases q3:m=true∧valT l=0
    ·exact .inr (.inr (.inr (.inl ⟨q3.1,hz.1 q3.2⟩)))
    ·exact absurd ⟨by omega,by omega,q3⟩ h3
  ·rw [if_neg (fun q=>h1 q.1),if_pos]
   have:l.length=0∨(1 < l.length∧l[0]?=some 48):=Classical.byContradiction fun q=>h1 (hw.2 q)
   rcases this with q | q
   ·exact .inl q
   ·exact .inr (.inr (.inl q))
 ·rw [if_pos (show (digT l).length=0∨3 < (digT l).length∨(1 < (digT l).length∧l[0]?=some 48)∨(m=true∧l[0]?=some 48)∨400 < valT (digT l)∨digR l ≠ [] from .inr (.inr (.inr (.inr (.inr hr0)))))]
  rcases hr with hr | ⟨c,s,hr,hc⟩
  ·exact absurd hr hr0
  ·rw [if_neg]
   intro q
   have:=wholeD_mid (u:=digT l) (w:=s) hc
   rw [← hr,hl] at this
   rw [this] at q
   exact absurd q.1 (by simp)
theorem cut_none {c:UInt8} {l:List UInt8} (h:∀ x ∈ l,x ≠ c):cutL1 c l=(l,[],false):=by unfold cutL1; rw [splC_no c l h]
theorem cut_hit {c:UInt8} {u v:List UInt8} (h:∀ x ∈ u,x ≠ c):cutL1 c (u++c::v)=(u,v,true):=by unfold cutL1; rw [splC_hit c u v h]
theorem cut_pre {c:UInt8} {u r:List UInt8} (h:∀ x ∈ u,x ≠ c):∃ a b t,cutL1 c (u++r)=(u++a,b,t)∧cutL1 c r=(a,b,t):=by
 unfold cutL1
 rw [splC_pre c u r h]
 cases splC c r with
 | none=>exact ⟨r,[],false,rfl,rfl⟩
 | some p=>exact ⟨p.1,p.2,true,rfl,rfl⟩
theorem cut_cons {c x:UInt8} {r:List UInt8} (h:x ≠ c):∃ a b t,cutL1 c (x::r)=(x::a,b,t):=by
 obtain ⟨a,b,t,e,_⟩:=cut_pre (c:=c) (u:=[x]) (r:=r) (by simpa using h)
 exact ⟨a,b,t,e⟩
theorem lit_eq (s:List UInt8):litI s=litS s:=by
 have hs:=dig_app s
 have hv:=digT_all s
 have hr:=digR_head s
 obtain ⟨v,hvd⟩:∃ v,v=digT s:=⟨_,rfl⟩
 obtain ⟨r,hrd⟩:∃ r,r=digR s:=⟨_,rfl⟩
 have hw:=wholeD_eq (v:=v) (r:=r) (by rw [hvd]; exact hv) (by rw [hrd]; exact hr)
 unfold litS
 rw [← hvd,← hrd] at hs ⊢
 rw [← hvd] at hv
 rw [← hrd] at hr
 rw [hs] at hw
 clear hvd hrd
 have nE:∀ x ∈ v,x ≠ (101:UInt8):=all_ne hv rfl
 have nD:∀ x ∈ v,x ≠ (46:UInt8):=all_ne hv rfl
 have key:∀ (e:List UInt8) (hp:Bool) (pw:List UInt8) (a b:List UInt8) (t:Bool),cutL1 101 s=(e,pw,hp)→cutL1 46 e=(a,b,t) →
   litI s=if wholeD a=true∧(t=true→b.all isDig=true∧b ≠ []) then (if hp=true then (expS (minusI pw).1 (minusI pw).2).map fun p=>(a,b,p) else some (a,b,0)) else none:=by
  intro e hp pw a b t h1 h2
  unfold litI
  rw [h1]
  simp only [h2,exp_eq]
 rcases hr with rfl | ⟨c,r1,rfl,hc⟩
 ·rw [List.append_nil] at hs
  subst hs
  rw [key v false [] v [] false (cut_none nE) (cut_none nD)]
  by_cases h1:wholeD v=true
  ·rw [if_pos ⟨h1,by simp⟩,if_neg (by simp),if_neg (hw.1 h1)]
  ·rw [if_neg (fun q=>h1 q.1),if_pos (Classical.byContradiction fun q=>h1 (hw.2 q))]
 ·by_cases h1:¬ wholeD v=true
  ·rw [if_pos (Classical.byContradiction fun q=>h1 (hw.2 q))]
   by_cases hcE:c=101
   ·subst hcE
    have k1:cutL1 101 s=(v,r1,true):=by rw [← hs]; exact cut_hit nE
    rw [key v true r1 v [] false k1 (cut_none nD),if_neg (fun q=>h1 q.1)]
   ·obtain ⟨a,b,t,k0,k0'⟩:=cut_pre (c:=101) (u:=v) (r:=c::r1) nE
    obtain ⟨a',b',t',k1⟩:=cut_cons (r:=r1) hcE
    rw [k1] at k0'
    obtain ⟨rfl,rfl,rfl⟩:c::a'=a∧b'=b∧t'=t:=by simpa using k0'
    rw [hs] at k0
    by_cases hcD:c=46
    ·subst hcD
     rw [key _ _ _ v a' true k0 (cut_hit nD),if_neg (fun q=>h1 q.1)]
    ·obtain ⟨a2,b2,t2,k2,k2'⟩:=cut_pre (c:=46) (u:=v) (r:=c::a') nD
     obtain ⟨a3,b3,t3,k3⟩:=cut_cons (r:=a') hcD
     rw [k3] at k2'
     obtain ⟨rfl,rfl,rfl⟩:c::a3=a2∧b3=b2∧t3=t2:=by simpa using k2'
     rw [key _ _ _ _ _ _ k0 k2,if_neg]
     rw [wholeD_mid hc]
     simp
  have h1:wholeD v=true:=Classical.not_not.1 h1
  rw [if_neg (hw.1 h1)]
  by_cases hcE:c=101
  ·subst hcE
   have k1:cutL1 101 s=(v,r1,true):=by rw [← hs]; exact cut_hit nE
   rw [key v true r1 v [] false k1 (cut_none nD),if_pos ⟨h1,by simp⟩,if_pos rfl]
   simp [tailS]
  ·by_cases hcD:c=46
   ·subst hcD
    simp only [if_true]
    have hs1:=dig_app r1
    have hv1:=digT_all r1
    have hr1:=digR_head r1
    generalize digT r1=e at *
    generalize digR r1=r2 at *
    have mE:∀ x ∈ v++46::e,x ≠ (101:UInt8):=by
     intro x hx
     rcases List.mem_append.1 hx with hx | hx
     ·exact nE x hx
     ·rcases List.mem_cons.1 hx with rfl | hx
      ·decide
      ·exact all_ne hv1 rfl x hx
    have se:s=(v++46::e)++r2:=by rw [← hs,← hs1]; simp
    rcases hr1 with rfl | ⟨c2,r3,rfl,hc2⟩
    ·have k1:cutL1 101 s=(v++46::e,[],false):=by rw [se,List.append_nil]; exact cut_none mE
     rw [key _ _ _ v e true k1 (cut_hit nD)]
     by_cases he:e=[]
     ·subst he; simp
     ·rw [if_pos ⟨h1,fun _=>⟨hv1,he⟩⟩,if_neg (by simp),if_neg he]; rfl
    ·by_cases h2:c2=101
     ·subst h2
      have k1:cutL1 101 s=(v++46::e,r3,true):=by rw [se]; exact cut_hit mE
      rw [key _ _ _ v e true k1 (cut_hit nD)]
      by_cases he:e=[]
      ·subst he; simp
      ·rw [if_pos ⟨h1,fun _=>⟨hv1,he⟩⟩,if_pos rfl,if_neg he]
       simp [tailS]
     ·obtain ⟨a,b,t,k0,k0'⟩:=cut_pre (c:=101) (u:=v++46::e) (r:=c2::r3) mE
      obtain ⟨a',b',t',k1⟩:=cut_cons (r:=r3) h2
      rw [k1] at k0'
      obtain ⟨rfl,rfl,rfl⟩:c2::a'=a∧b'=b∧t'=t:=by simpa using k0'
      rw [← se] at k0
      have k2:cutL1 46 ((v++46::e)++c2::a')=(v,e++c2::a',true):=by
       rw [List.append_assoc,List.cons_append]; exact cut_hit nD
      rw [key _ _ _ _ _ _ k0 k2,if_neg]
      ·simp [tailS,h2]
      ·rintro ⟨_,q⟩
       have:=(q rfl).1
       rw [all_mid hc2] at this
       cases this
   ·obtain ⟨a,b,t,k0,k0'⟩:=cut_pre (c:=101) (u:=v) (r:=c::r1) nE
    obtain ⟨a',b',t',k1⟩:=cut_cons (r:=r1) hcE
    rw [k1] at k0'
    obtain ⟨rfl,rfl,rfl⟩:c::a'=a∧b'=b∧t'=t:=by simpa using k0'
    rw [hs] at k0
    obtain ⟨a2,b2,t2,k2,k2'⟩:=cut_pre (c:=46) (u:=v) (r:=c::a') nD
    obtain ⟨a3,b3,t3,k3⟩:=cut_cons (r:=a') hcD
    rw [k3] at k2'
    obtain ⟨rfl,rfl,rfl⟩:c::a3=a2∧b3=b2∧t3=t2:=by simpa using k2'
    rw [key _ _ _ _ _ _ k0 k2,if_neg]
    ·simp [tailS,hcD,hcE]
    ·rw [wholeD_mid hc]
     simp
end Go.Proofs.YtnhbcpmmdblkjaaDoorAm
