/-
  What the functions on fractions compute, in plain words: making, order, quotients, floors; and the laws.
-/
import Derived.Test.YtnhbcpmmdblkjaaGreatDoorS
namespace Go.Proofs.YtnhbcpmmdblkjaaGreatDoorAm
open Go
set_option linter.unusedVariables false
set_option linter.unusedSimpArgs false

def wlS (s:Bool) (x y:List Int):R4:=if wfH x=true∧wfH y=true∧y.length ≠ 0 then mkF s (val x).toNat (val y).toNat else bad4
theorem wi7 {α:Type} (N:Nat) (s:Bool) (x y:List Int) (k:Bool→Bool→List Int→List Int→Option α) (hN:cap < N):wer N s x y k=k (wlS s x y).1 (wlS s x y).2.1 (wlS s x y).2.2.1 (wlS s x y).2.2.2:=by
 rw [wer.eq]
 unfold wer.b wlS
 simp only [whk N _ _ hN]
 cases h1:wfH x
 ·simp [bad4]
 cases h2:wfH y
 ·simp [bad4]
 obtain ⟨a,ha,rfl⟩:=wgs h1
 obtain ⟨b,hb,rfl⟩:=wgs h2
 by_cases h3:b=0
 ·subst h3; simp [bad4,wbS]
 ·have h4:(digs b).length ≠ 0:=fun e=>h3 (we5.1 e)
  simp only [Bool.not_true,cond_false,we3,h3,decide_false,wfQ N s a b _ (c256 ha) (c256 hb) h3 hN,h4,Ne,not_false_eq_true,and_self,if_true,wcR,Int.toNat_natCast]
def sgnd (s:Bool) (n:Nat):Int:=if s then -(n:Int) else n
def cmpZ (x y:Int):Int:=if x < y then -1 else if y < x then 1 else 0
theorem mulc {a b:Nat} (ha:a < 65536 ^ 256) (hb:b < 65536 ^ 256):a * b < cap0:=wh9 (wk5 ha hb) (by decide)
def sum4 (s:Bool) (n:Nat) (t:Bool) (m:Nat):Bool×Nat:=if s=t then (s,n + m) else if m≤n then (s,n - m) else (t,m - n)
theorem wmO {α:Type} (N:Nat) (s t:Bool) (a b c d:Nat) (k:Bool→List Int→List Int→Option α) (ha:a < cap) (hb:b < cap) (hc:c < cap) (hd:d < cap) (h1:a * d < cap) (h2:c * b < cap) (hN:cap < N) :
  we7 N (s,(digs a,(digs b,()))) (t,(digs c,(digs d,()))) k=k (sum4 s (a * d) t (c * b)).1 (digs (sum4 s (a * d) t (c * b)).2) (digs (b * d)):=by
 rw [we7.eq]
 unfold we7.b sum4
 simp only [wen N _ _ _ ha hd hN,wen N _ _ _ hc hb hN,wen N _ _ _ hb hd hN]
 generalize a * d=n at *
 generalize c * b=m at *
 by_cases h:s=t
 ·subst h
  simp only [beq_self_eq_true,cond_true,wib N _ _ _ h1 h2 hN,if_true]
 ·have hb':(s == t)=false:=by simpa using h
  simp only [hb',cond_false,wh4 N _ _ _ h1 h2 hN,ws8,if_neg h]
  by_cases hle:m≤n
  ·simp only [hle,decide_true,cond_true,whj N _ _ _ h1 hle hN,if_true]
  ·simp only [hle,decide_false,cond_false,whj N _ _ _ h2 (show n≤m by omega) hN,if_false]
theorem wic {α:Type} (N:Nat) (s t:Bool) (a b c d:Nat) (k:Int→Option α) (ha:a < cap) (hb:b < cap) (hc:c < cap) (hd:d < cap) (h1:a * d < cap) (h2:c * b < cap) (hb0:b ≠ 0) (hd0:d ≠ 0) (hs:s=true→a ≠ 0) (ht:t=true→c ≠ 0) (hN:cap < N) :
  wcV N (s,(digs a,(digs b,()))) (t,(digs c,(digs d,()))) k=k (cmpZ (sgnd s (a * d)) (sgnd t (c * b))):=by
 have z1:a * d=0↔a=0:=by rw [Nat.mul_eq_zero]; exact ⟨fun h=>h.resolve_right hd0,Or.inl⟩
 have z2:c * b=0↔c=0:=by rw [Nat.mul_eq_zero]; exact ⟨fun h=>h.resolve_right hb0,Or.inl⟩
 rw [wcV.eq]
 unfold wcV.b
 simp only [wj0,wsL,we5,wgv N _ _ _ ha hd hN,wgv N _ _ _ hc hb hN]
 generalize a * d=n at *
 generalize c * b=m at *
 simp only [wg3 N _ _ _ h1 h2 hN]
 have key:∀ x y:Int,-1≤x→x≤1→-1≤y→y≤1→maxI (-1) (minI 1 (IntKind.i64.wrap (x - y)))=if x < y then -1 else if y < x then 1 else 0:=by
  intro x y g1 g2 g3 g4
  rw [wd (by omega) (by omega)]
  unfold maxI minI
  split <;> split <;> (try split) <;> omega
 have hc1:IntKind.i64.wrap (0 - cmpN n m)=- cmpN n m:=by
  have:-1≤cmpN n m∧cmpN n m≤1:=by unfold cmpN; split <;> (try split) <;> omega
  rw [wd (by omega) (by omega)]; omega
 clear ha hb hc hd h1 h2
 obtain ⟨S,hS⟩:∃ S:Int,(if s=true then (-1:Int) else if a=0 then 0 else 1)=S:=⟨_,rfl⟩
 obtain ⟨T,hT⟩:∃ T:Int,(if t=true then (-1:Int) else if c=0 then 0 else 1)=T:=⟨_,rfl⟩
 have bS:-1≤S∧S≤1:=by rw [← hS]; split <;> (try split) <;> omega
 have bT:-1≤T∧T≤1:=by rw [← hT]; split <;> (try split) <;> omega
 simp only [hS,hT,key S T bS.1 bS.2 bT.1 bT.2,hc1]
 have hn:a ≠ 0↔n ≠ 0:=by rw [Ne,Ne,z1]
 have hm:c ≠ 0↔m ≠ 0:=by rw [Ne,Ne,z2]
 by_cases he:S=T
 ·simp only [he,decide_true,Bool.not_true,cond_false]
  cases s
  ·cases t
   ·simp only [cond_false]
    congr 1
    unfold cmpN cmpZ sgnd
    simp only [Bool.false_eq_true,if_false]
    split <;> split <;> (try split) <;> (try split) <;> omega
   ·exfalso
    have:=ht rfl
    simp only [Bool.false_eq_true,if_false,if_true] at hS hT
    split at hS <;> omega
  ·cases t
   ·exfalso
    simp only [Bool.false_eq_true,if_false,if_true] at hS hT
    split at hT <;> omega
   ·simp only [cond_true]
    congr 1
    unfold cmpN cmpZ sgnd
    simp only [if_true]
    split <;> split <;> (try split) <;> (try split) <;> omega
 ·simp only [he,decide_false,Bool.not_false,cond_true]
  congr 1
  unfold cmpZ sgnd
  cases s <;> cases t <;> simp only [Bool.false_eq_true,if_false,if_true] at hS hT hs ht ⊢
  ·by_cases ha0:a=0
   ·by_cases hc0:c=0
    ·rw [if_pos ha0] at hS; rw [if_pos hc0] at hT; omega
    ·have:=z1.2 ha0
     have:=hm.1 hc0
     rw [if_pos ha0] at hS; rw [if_neg hc0] at hT
     rw [if_pos (by omega),if_pos (by omega)]
   ·have:=hn.1 ha0
    rw [if_neg ha0] at hS
    by_cases hc0:c=0
    ·have:=z2.2 hc0
     rw [if_pos hc0] at hT
     rw [if_neg (by omega),if_pos (by omega),if_neg (by omega),if_pos (by omega)]
    ·rw [if_neg hc0] at hT; omega
  ·have:=hm.1 (ht trivial)
   have:0≤S:=by rw [← hS]; split <;> omega
   rw [if_neg (by omega),if_pos (by omega),if_neg (by omega),if_pos (by omega)]
  ·have:=hn.1 (hs trivial)
   have:0≤T:=by rw [← hT]; split <;> omega
   rw [if_pos (by omega),if_pos (by omega)]
  ·omega
end Go.Proofs.YtnhbcpmmdblkjaaGreatDoorAm
