/-
  Literals: how both texts take a literal apart.
-/
import Derived.Test.YtnhbcpmmdblkjaaGreatDoorGc
namespace Go.Proofs.YtnhbcpmmdblkjaaGreatDoorAm
open Go
set_option linter.unusedVariables false
set_option linter.unusedSimpArgs false

def splC (c:UInt8):List UInt8→Option (List UInt8×List UInt8)
 | []=>none
 | b::r=>if b=c then some ([],r) else (splC c r).map fun p=>(b::p.1,p.2)
theorem wo3 (c : UInt8) : ∀ (u v : List UInt8), (∀ x ∈ u, x ≠ c) → splC c (u ++ c :: v) = some (u, v)
  | [], v, _ => by simp [splC]
  | b :: u, v, h => by
    have hb : b ≠ c := h b (by simp)
    have := wo3 c u v fun x hx => h x (by simp [hx])
    simp [splC, hb, this]
theorem wpT (c : UInt8) : ∀ (u : List UInt8), (∀ x ∈ u, x ≠ c) → splC c u = none
  | [], _ => rfl
  | b :: u, h => by
    have hb : b ≠ c := h b (by simp)
    simp [splC, hb, wpT c u fun x hx => h x (by simp [hx])]
theorem woY (c : UInt8) : ∀ (u r : List UInt8), (∀ x ∈ u, x ≠ c) → splC c (u ++ r) = (splC c r).map fun p => (u ++ p.1, p.2)
  | [], r, _ => by cases h : splC c r <;> simp [h]
  | b :: u, r, h => by
    have hb : b ≠ c := h b (by simp)
    have := woY c u r fun x hx => h x (by simp [hx])
    simp only [List.cons_append, splC, hb, if_false, this]
    cases splC c r <;> simp
theorem wnJ {c : UInt8} : ∀ {l u v : List UInt8}, splC c l = some (u, v) → l = u ++ c :: v
  | [], u, v, h => by simp [splC] at h
  | b :: r, u, v, h => by
    unfold splC at h
    split at h
    · rename_i hb
      simp only [Option.some.injEq, Prod.mk.injEq] at h
      obtain ⟨rfl, rfl⟩ := h
      simp [hb]
    · cases hs : splC c r with
      | none => rw [hs] at h; cases h
      | some p =>
        obtain ⟨p, q⟩ := p
        rw [hs] at h
        simp only [Option.map_some, Option.some.injEq, Prod.mk.injEq] at h
        obtain ⟨rfl, rfl⟩ := h
        rw [wnJ hs]; rfl
theorem wmt (c : UInt8) : ∀ l : List UInt8, (splC c l = none ∧ Go.Lib.indexByte l c = -1) ∨ ∃ u v, splC c l = some (u, v) ∧ Go.Lib.indexByte l c = (u.length : Int) ∧ l = u ++ c :: v
  | [] => .inl ⟨rfl, rfl⟩
  | b :: r => by
    by_cases hb : b = c
    · subst hb
      right
      refine ⟨[], r, by simp [splC], ?_, rfl⟩
      simp [Go.Lib.indexByte]
    · have hb2 : (b == c) = false := by simpa using hb
      rcases wmt c r with ⟨h1, h2⟩ | ⟨u, v, h1, h2, h3⟩
      · left
        refine ⟨by simp [splC, hb, h1], ?_⟩
        unfold Go.Lib.indexByte
        rw [hb2, h2]; rfl
      · right
        refine ⟨b :: u, v, by simp [splC, hb, h1], ?_, by rw [h3]; rfl⟩
        unfold Go.Lib.indexByte
        have hne : (Go.Lib.indexByte r c == -1) = false := by
          rw [h2]
          simp
        rw [hb2, hne, h2]
        simp
def wfp (c:UInt8) (l:List UInt8):List UInt8×List UInt8×Bool:=match splC c l with
 | none=>(l,[],false)
 | some (u,v)=>(u,v,true)
theorem wnl (c:UInt8) (l:List UInt8):(wfp c l).1.length≤l.length∧(wfp c l).2.1.length≤l.length:=by
 unfold wfp
 split
 ·simp
 ·rename_i u v h
  rw [wnJ h]
  simp; omega
def wgR (l:List UInt8):Bool:=l.all wff && decide (l ≠ []) && (decide (l=[48]) || decide (l[0]? ≠ some 48))
def expI (m:Bool) (d:List UInt8):Option Int:=if wgR d=true∧d.length≤3∧valT d≤400∧¬ (m=true∧valT d=0) then some (if m=true then -(valT d:Int) else (valT d:Int)) else none
def weZ (l:List UInt8):Bool×List UInt8:=if l[0]?=some 45 then (true,l.drop 1) else (false,l)
def litI (s:List UInt8):Option (List UInt8×List UInt8×Int) :=
 if wgR (wfp 46 (wfp 101 s).1).1=true∧((wfp 46 (wfp 101 s).1).2.2=true→(wfp 46 (wfp 101 s).1).2.1.all wff=true∧(wfp 46 (wfp 101 s).1).2.1 ≠ []) then
  if (wfp 101 s).2.2=true then (expI (weZ (wfp 101 s).2.1).1 (weZ (wfp 101 s).2.1).2).map fun p=>((wfp 46 (wfp 101 s).1).1,(wfp 46 (wfp 101 s).1).2.1,p)
  else some ((wfp 46 (wfp 101 s).1).1,(wfp 46 (wfp 101 s).1).2.1,0)
 else none
def digT (l:List UInt8):List UInt8:=l.takeWhile wff
def digR (l:List UInt8):List UInt8:=l.dropWhile wff
theorem wgA (l:List UInt8):digT l++digR l=l:=List.takeWhile_append_dropWhile
theorem wgT : ∀ l : List UInt8, (digT l).all wff = true
  | [] => rfl
  | b :: r => by
    unfold digT
    rw [List.takeWhile_cons]
    split
    · rename_i h
      simp only [List.all_cons, h, Bool.true_and]
      exact wgT r
    · rfl
theorem wiu : ∀ l : List UInt8, digR l = [] ∨ ∃ c s, digR l = c :: s ∧ wff c = false
  | [] => .inl rfl
  | b :: r => by
    unfold digR
    rw [List.dropWhile_cons]
    split
    · exact wiu r
    · rename_i h
      exact .inr ⟨b, r, rfl, by simpa using h⟩
def expS (m:Bool) (l:List UInt8):Option Int :=
 if (digT l).length=0∨3 < (digT l).length∨(1 < (digT l).length∧l[0]?=some 48)∨(m=true∧l[0]?=some 48)∨400 < valT (digT l)∨digR l ≠ [] then none
 else some (if m=true then -(valT (digT l):Int) else (valT (digT l):Int))
def wis (v e r:List UInt8):Option (List UInt8×List UInt8×Int):=match r with
 | []=>some (v,e,0)
 | c::r=>if c=101 then (expS (weZ r).1 (weZ r).2).map fun p=>(v,e,p) else none
def litS (s:List UInt8):Option (List UInt8×List UInt8×Int) :=
 if (digT s).length=0∨(1 < (digT s).length∧s[0]?=some 48) then none
 else match digR s with
  | []=>some (digT s,[],0)
  | c::r=>if c=46 then (if digT r=[] then none else wis (digT s) (digT r) (digR r)) else wis (digT s) [] (c::r)
theorem wuV {c x:UInt8} (hx:wff x=true) (hc:wff c=false):x ≠ c:=by rintro rfl; rw [hx] at hc; cases hc
theorem wp4 {c:UInt8} {l:List UInt8} (hl:l.all wff=true) (hc:wff c=false):∀ x ∈ l,x ≠ c:=fun x hx=>wuV (List.all_eq_true.1 hl x hx) hc
theorem wnD {v r : List UInt8} (hv : v.all wff = true) (hr : r = [] ∨ ∃ c s, r = c :: s ∧ wff c = false) : wgR v = true ↔ ¬ (v.length = 0 ∨ (1 < v.length ∧ (v ++ r)[0]? = some 48)) := by
  unfold wgR
  cases v with
  | nil => simp
  | cons a v =>
    simp only [hv, Bool.true_and, ne_eq, reduceCtorEq, not_false_eq_true, decide_true, List.cons.injEq, List.getElem?_cons_zero, Option.some.injEq, List.cons_append, List.length_cons, Bool.or_eq_true, decide_eq_true_eq]
    by_cases h : a = 48
    · subst h
      cases v <;> simp
    · simp [h]
theorem wql {u w:List UInt8} {c:UInt8} (hc:wff c=false):(u++c::w).all wff=false:=by
 rw [List.all_append,List.all_cons,hc]; simp
theorem wjT {u w:List UInt8} {c:UInt8} (hc:wff c=false):wgR (u++c::w)=false:=by
 unfold wgR
 rw [wql hc]; rfl
theorem wqk {d : List UInt8} (h : wgR d = true) : valT d = 0 ↔ d[0]? = some 48 := by
  unfold wgR at h
  simp only [Bool.and_eq_true, Bool.or_eq_true, decide_eq_true_eq] at h
  obtain ⟨⟨h1, h2⟩, h3⟩ := h
  constructor
  · intro hv
    rcases h3 with rfl | h3
    · rfl
    · exfalso
      cases d with
      | nil => exact h2 rfl
      | cons x r =>
        have hx := whl (by simp only [List.all_cons, Bool.and_eq_true] at h1; exact h1.1 : wff x = true)
        have hx2 : x.toNat ≠ 48 := fun q => h3 (by simp only [List.getElem?_cons_zero]; rw [← UInt8.ofNat_toNat (x := x), q]; rfl)
        have := wp7 r (wgf 0 x)
        unfold valT at hv
        rw [List.foldl_cons] at hv
        unfold wgf at *
        omega
  · intro hd
    rcases h3 with rfl | h3
    · rfl
    · exact absurd hd h3
theorem wtZ (m:Bool) (l:List UInt8):expI m l=expS m l:=by
 have hl:=wgA l
 have hd:=wgT l
 have hr:=wiu l
 unfold expI expS
 by_cases hr0:digR l=[]
 ·have e:digT l=l:=by rw [hr0,List.append_nil] at hl; exact hl
  rw [e] at hd ⊢
  have hw:=wnD (v:=l) (r:=[]) hd (.inl rfl)
  rw [List.append_nil] at hw
  by_cases h1:wgR l=true
  ·have hz:=wqk h1
   have h2:=hw.1 h1
   simp only [not_or,not_and] at h2
   by_cases h3:l.length≤3∧valT l≤400∧¬ (m=true∧valT l=0)
   ·have hn:¬ (l.length=0∨3 < l.length∨(1 < l.length∧l[0]?=some 48)∨(m=true∧l[0]?=some 48)∨400 < valT l∨digR l ≠ []):=by
     rintro (q | q | ⟨q,q'⟩ | ⟨q,q'⟩ | q | q)
     ·exact h2.1 q
     ·omega
     ·exact h2.2 q q'
     ·exact h3.2.2 ⟨q,hz.2 q'⟩
     ·omega
     ·exact q hr0
    rw [if_pos ⟨h1,h3⟩,if_neg hn]
   ·rw [if_neg (fun q=>h3 q.2),if_pos]
    by_cases q1:3 < l.length
    ·exact .inr (.inl q1)
    by_cases q2:400 < valT l
    ·exact .inr (.inr (.inr (.inr (.inl q2))))
    by_cases q3:m=true∧valT l=0
    ·exact .inr (.inr (.inr (.inl ⟨q3.1,hz.1 q3.2⟩)))
    ·exact absurd ⟨by omega,by omega,q3⟩ h3
  ·rw [if_neg (fun q=>h1 q.1),if_pos]
   have:l.length=0∨(1 < l.length∧l[0]?=some 48):=Classical.byContradiction fun q=>h1 (hw.2 q)
   rcases this with q | q
   ·exact .inl q
   ·exact .inr (.inr (.inl q))
 ·rw [if_pos (show (digT l).length=0∨3 < (digT l).length∨(1 < (digT l).length∧l[0]?=some 48)∨(m=true∧l[0]?=some 48)∨400 < valT (digT l)∨digR l ≠ [] from .inr (.inr (.inr (.inr (.inr hr0)))))]
  rcases hr with hr | ⟨c,s,hr,hc⟩
  ·exact absurd hr hr0
  ·rw [if_neg]
   intro q
   have:=wjT (u:=digT l) (w:=s) hc
   rw [← hr,hl] at this
   rw [this] at q
   exact absurd q.1 (by simp)
theorem wjQ {c:UInt8} {l:List UInt8} (h:∀ x ∈ l,x ≠ c):wfp c l=(l,[],false):=by unfold wfp; rw [wpT c l h]
theorem wjg {c:UInt8} {u v:List UInt8} (h:∀ x ∈ u,x ≠ c):wfp c (u++c::v)=(u,v,true):=by unfold wfp; rw [wo3 c u v h]
theorem wj8 {c:UInt8} {u r:List UInt8} (h:∀ x ∈ u,x ≠ c):∃ a b t,wfp c (u++r)=(u++a,b,t)∧wfp c r=(a,b,t):=by
 unfold wfp
 rw [woY c u r h]
 cases splC c r with
 | none=>exact ⟨r,[],false,rfl,rfl⟩
 | some p=>exact ⟨p.1,p.2,true,rfl,rfl⟩
theorem wjC {c x:UInt8} {r:List UInt8} (h:x ≠ c):∃ a b t,wfp c (x::r)=(x::a,b,t):=by
 obtain ⟨a,b,t,e,_⟩:=wj8 (c:=c) (u:=[x]) (r:=r) (by simpa using h)
 exact ⟨a,b,t,e⟩
theorem wr2 (s:List UInt8):litI s=litS s:=by
 have hs:=wgA s
 have hv:=wgT s
 have hr:=wiu s
 obtain ⟨v,hvd⟩:∃ v,v=digT s:=⟨_,rfl⟩
 obtain ⟨r,hrd⟩:∃ r,r=digR s:=⟨_,rfl⟩
 have hw:=wnD (v:=v) (r:=r) (by rw [hvd]; exact hv) (by rw [hrd]; exact hr)
 unfold litS
 rw [← hvd,← hrd] at hs ⊢
 rw [← hvd] at hv
 rw [← hrd] at hr
 rw [hs] at hw
 clear hvd hrd
 have nE:∀ x ∈ v,x ≠ (101:UInt8):=wp4 hv rfl
 have nD:∀ x ∈ v,x ≠ (46:UInt8):=wp4 hv rfl
 have key:∀ (e:List UInt8) (hp:Bool) (pw:List UInt8) (a b:List UInt8) (t:Bool),wfp 101 s=(e,pw,hp)→wfp 46 e=(a,b,t) →
   litI s=if wgR a=true∧(t=true→b.all wff=true∧b ≠ []) then (if hp=true then (expS (weZ pw).1 (weZ pw).2).map fun p=>(a,b,p) else some (a,b,0)) else none:=by
  intro e hp pw a b t h1 h2
  unfold litI
  rw [h1]
  simp only [h2,wtZ]
 rcases hr with rfl | ⟨c,r1,rfl,hc⟩
 ·rw [List.append_nil] at hs
  subst hs
  rw [key v false [] v [] false (wjQ nE) (wjQ nD)]
  by_cases h1:wgR v=true
  ·rw [if_pos ⟨h1,by simp⟩,if_neg (by simp),if_neg (hw.1 h1)]
  ·rw [if_neg (fun q=>h1 q.1),if_pos (Classical.byContradiction fun q=>h1 (hw.2 q))]
 ·by_cases h1:¬ wgR v=true
  ·rw [if_pos (Classical.byContradiction fun q=>h1 (hw.2 q))]
   by_cases hcE:c=101
   ·subst hcE
    have k1:wfp 101 s=(v,r1,true):=by rw [← hs]; exact wjg nE
    rw [key v true r1 v [] false k1 (wjQ nD),if_neg (fun q=>h1 q.1)]
   ·obtain ⟨a,b,t,k0,k0'⟩:=wj8 (c:=101) (u:=v) (r:=c::r1) nE
    obtain ⟨a',b',t',k1⟩:=wjC (r:=r1) hcE
    rw [k1] at k0'
    obtain ⟨rfl,rfl,rfl⟩:c::a'=a∧b'=b∧t'=t:=by simpa using k0'
    rw [hs] at k0
    by_cases hcD:c=46
    ·subst hcD
     rw [key _ _ _ v a' true k0 (wjg nD),if_neg (fun q=>h1 q.1)]
    ·obtain ⟨a2,b2,t2,k2,k2'⟩:=wj8 (c:=46) (u:=v) (r:=c::a') nD
     obtain ⟨a3,b3,t3,k3⟩:=wjC (r:=a') hcD
     rw [k3] at k2'
     obtain ⟨rfl,rfl,rfl⟩:c::a3=a2∧b3=b2∧t3=t2:=by simpa using k2'
     rw [key _ _ _ _ _ _ k0 k2,if_neg]
     rw [wjT hc]
     simp
  have h1:wgR v=true:=Classical.not_not.1 h1
  rw [if_neg (hw.1 h1)]
  by_cases hcE:c=101
  ·subst hcE
   have k1:wfp 101 s=(v,r1,true):=by rw [← hs]; exact wjg nE
   rw [key v true r1 v [] false k1 (wjQ nD),if_pos ⟨h1,by simp⟩,if_pos rfl]
   simp [wis]
  ·by_cases hcD:c=46
   ·subst hcD
    simp only [if_true]
    have hs1:=wgA r1
    have hv1:=wgT r1
    have hr1:=wiu r1
    generalize digT r1=e at *
    generalize digR r1=r2 at *
    have mE:∀ x ∈ v++46::e,x ≠ (101:UInt8):=by
     intro x hx
     rcases List.mem_append.1 hx with hx | hx
     ·exact nE x hx
     ·rcases List.mem_cons.1 hx with rfl | hx
      ·decide
      ·exact wp4 hv1 rfl x hx
    have se:s=(v++46::e)++r2:=by rw [← hs,← hs1]; simp
    rcases hr1 with rfl | ⟨c2,r3,rfl,hc2⟩
    ·have k1:wfp 101 s=(v++46::e,[],false):=by rw [se,List.append_nil]; exact wjQ mE
     rw [key _ _ _ v e true k1 (wjg nD)]
     by_cases he:e=[]
     ·subst he; simp
     ·rw [if_pos ⟨h1,fun _=>⟨hv1,he⟩⟩,if_neg (by simp),if_neg he]; rfl
    ·by_cases h2:c2=101
     ·subst h2
      have k1:wfp 101 s=(v++46::e,r3,true):=by rw [se]; exact wjg mE
      rw [key _ _ _ v e true k1 (wjg nD)]
      by_cases he:e=[]
      ·subst he; simp
      ·rw [if_pos ⟨h1,fun _=>⟨hv1,he⟩⟩,if_pos rfl,if_neg he]
       simp [wis]
     ·obtain ⟨a,b,t,k0,k0'⟩:=wj8 (c:=101) (u:=v++46::e) (r:=c2::r3) mE
      obtain ⟨a',b',t',k1⟩:=wjC (r:=r3) h2
      rw [k1] at k0'
      obtain ⟨rfl,rfl,rfl⟩:c2::a'=a∧b'=b∧t'=t:=by simpa using k0'
      rw [← se] at k0
      have k2:wfp 46 ((v++46::e)++c2::a')=(v,e++c2::a',true):=by
       rw [List.append_assoc,List.cons_append]; exact wjg nD
      rw [key _ _ _ _ _ _ k0 k2,if_neg]
      ·simp [wis,h2]
      ·rintro ⟨_,q⟩
       have:=(q rfl).1
       rw [wql hc2] at this
       cases this
   ·obtain ⟨a,b,t,k0,k0'⟩:=wj8 (c:=101) (u:=v) (r:=c::r1) nE
    obtain ⟨a',b',t',k1⟩:=wjC (r:=r1) hcE
    rw [k1] at k0'
    obtain ⟨rfl,rfl,rfl⟩:c::a'=a∧b'=b∧t'=t:=by simpa using k0'
    rw [hs] at k0
    obtain ⟨a2,b2,t2,k2,k2'⟩:=wj8 (c:=46) (u:=v) (r:=c::a') nD
    obtain ⟨a3,b3,t3,k3⟩:=wjC (r:=a') hcD
    rw [k3] at k2'
    obtain ⟨rfl,rfl,rfl⟩:c::a3=a2∧b3=b2∧t3=t2:=by simpa using k2'
    rw [key _ _ _ _ _ _ k0 k2,if_neg]
    ·simp [wis,hcD,hcE]
    ·rw [wjT hc]
     simp
end Go.Proofs.YtnhbcpmmdblkjaaGreatDoorAm
