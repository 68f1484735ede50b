/-
  What the functions on fractions compute, in plain words.
-/
import Derived.Test.YtnhbcpmmdblkjaaGreatDoorR
namespace Go.Proofs.YtnhbcpmmdblkjaaGreatDoorAm
open Go
set_option linter.unusedVariables false
set_option linter.unusedSimpArgs false

abbrev R4:=Bool×Bool×List Int×List Int
def bad4:R4:=(false,false,[],[])
def wsL (f:wgh):Int:=if f.1 then -1 else if f.2.1.length=0 then 0 else 1
theorem wj0 {α:Type} (N:Nat) (f:wgh) (k:Int→Option α):wcQ N f k=k (wsL f):=by
 rw [wcQ.eq]
 unfold wcQ.b wsL
 cases f.1
 ·by_cases h2:f.2.1.length=0
  ·simp [h2]
  ·have h3:¬ ((f.2.1.length:Int)=0):=by omega
   simp only [cond_false,h2,h3,decide_false,if_false,Bool.false_eq_true]
 ·simp
def wmB (f:wgh):R4:=if f.2.1.length≤256∧f.2.2.1.length≤256 then (f.1,true,f.2.1,f.2.2.1) else bad4
theorem wjx {α:Type} (N:Nat) (f:wgh) (k:Bool→Bool→List Int→List Int→Option α):weW N f k=k (wmB f).1 (wmB f).2.1 (wmB f).2.2.1 (wmB f).2.2.2:=by
 have hc:∀ (l:List Int) (k1:List Int→Option α),l.length≤256→wdd N l k1=k1 l:=by
  intro l k1 hl
  rw [wdd.eq]
  unfold wdd.b wc7
  have h1:([]:List Int).length + l.length≤8796093022208:=by simp; omega
  simp only [decide_eq_true h1,cond_true]
  rw [wct.eq]
  unfold wct.b
  simp
 rw [weW.eq]
 unfold weW.b wmB bad4
 by_cases h1:f.2.1.length≤256
 ·have c1:¬ ((256:Int) < (f.2.1.length:Int)):=by omega
  by_cases h2:f.2.2.1.length≤256
  ·have c2:¬ ((256:Int) < (f.2.2.1.length:Int)):=by omega
   simp only [c1,c2,decide_false,cond_false,hc _ _ h1,hc _ _ h2,h1,h2,and_self,if_true]
  ·have c2:((256:Int) < (f.2.2.1.length:Int)):=by omega
   simp [c1,c2,h1,h2]
 ·have c1:((256:Int) < (f.2.1.length:Int)):=by omega
  simp [c1,h1]
def mkF (s:Bool) (a b:Nat):R4 :=
 if (digs (a / Nat.gcd a b)).length≤256∧(digs (b / Nat.gcd a b)).length≤256 then (s && decide (a ≠ 0),true,digs (a / Nat.gcd a b),digs (b / Nat.gcd a b)) else bad4
theorem wfQ {α:Type} (N:Nat) (s:Bool) (a b:Nat) (k:Bool→Bool→List Int→List Int→Option α) (ha:a < cap0) (hb:b < cap0) (hb0:b ≠ 0) (hN:cap < N) :
  wdu N s (digs a) (digs b) k=k (mkF s a b).1 (mkF s a b).2.1 (mkF s a b).2.2.1 (mkF s a b).2.2.2:=by
 rw [wdu.eq]
 unfold wdu.b mkF bad4
 by_cases h0:a=0
 ·subst h0
  have h1:b / b=1:=Nat.div_self (by omega)
  simp [wbS,Nat.gcd_zero_left,h1,wmd]
 ·have hg0:Nat.gcd a b ≠ 0:=by
   have:=Nat.gcd_pos_of_pos_right a (Nat.pos_of_ne_zero hb0); omega
  have hgb:=Nat.gcd_le_right a (Nat.pos_of_ne_zero hb0)
  have hgc:Nat.gcd a b < cap0:=Nat.lt_of_le_of_lt hgb hb
  simp only [we3,h0,decide_false,cond_false,wjG N a b _ ha hb hN,wgH N _ _ _ ha hgc hg0 hN,wgH N _ _ _ hb hgc hg0 hN]
  generalize Nat.gcd a b=g at *
  by_cases h1:(digs (a / g)).length≤256
  ·have c1:¬ ((256:Int) < ((digs (a / g)).length:Int)):=by omega
   by_cases h2:(digs (b / g)).length≤256
   ·have c2:¬ ((256:Int) < ((digs (b / g)).length:Int)):=by omega
    simp [c1,c2,h1,h2,h0]
   ·have c2:((256:Int) < ((digs (b / g)).length:Int)):=by omega
    simp [c1,c2,h1,h2]
  ·have c1:((256:Int) < ((digs (a / g)).length:Int)):=by omega
   simp [c1,h1]
theorem wi3 {α:Type} (N:Nat) (s:Bool) (a b:Nat) (k:wgh→Option α) (ha:a < cap0) (hb:b < cap0) (hb0:b ≠ 0) (hN:cap < N) :
  wep N s (digs a) (digs b) k=k (s && decide (a ≠ 0),(digs (a / Nat.gcd a b),(digs (b / Nat.gcd a b),()))):=by
 rw [wep.eq]
 unfold wep.b
 have hg0:Nat.gcd a b ≠ 0:=by
  have:=Nat.gcd_pos_of_pos_right a (Nat.pos_of_ne_zero hb0); omega
 have hgb:=Nat.gcd_le_right a (Nat.pos_of_ne_zero hb0)
 have hgc:Nat.gcd a b < cap0:=Nat.lt_of_le_of_lt hgb hb
 have hga:a ≠ 0→a / Nat.gcd a b ≠ 0:=fun h=>by
  have:=Nat.div_pos (Nat.gcd_le_left b (Nat.pos_of_ne_zero h)) (Nat.pos_of_ne_zero hg0); omega
 have hga2:decide (a / Nat.gcd a b ≠ 0)=decide (a ≠ 0):=by
  by_cases h:a=0
  ·subst h; simp
  ·have:=hga h; simp only [this,h,Ne,not_false_eq_true]
 have h1c:(1:Nat) < cap:=by have:=wii; omega
 have hj:∀ k1:Bool→List Int→List Int→Bool→List Int→List Int→Option α,wdm N s (digs a) (digs b) (digs (Nat.gcd a b)) false [] [] k1=k1 s (digs (a / Nat.gcd a b)) (digs (b / Nat.gcd a b)) false [] []:=by
  intro k1
  rw [wdm.eq]
  unfold wdm.b
  simp only [← wmd,wg3 N _ _ _ (wfg hgc) h1c hN,wqu]
  by_cases h1:Nat.gcd a b=1
  ·simp [h1]
  ·simp only [h1,decide_false,Bool.not_false,cond_true,wfO N _ _ _ ha hgc hg0 hN,wfO N _ _ _ hb hgc hg0 hN]
 simp only [wjd N a b _ ha hb hN,hj,wf7]
 cases s
 ·simp
 ·simp only [cond_true,hga2,Bool.true_and]
theorem wkq (s:Bool) (a b:Nat):wmB (s && decide (a ≠ 0),(digs (a / Nat.gcd a b),(digs (b / Nat.gcd a b),())))=mkF s a b:=rfl
end Go.Proofs.YtnhbcpmmdblkjaaGreatDoorAm
