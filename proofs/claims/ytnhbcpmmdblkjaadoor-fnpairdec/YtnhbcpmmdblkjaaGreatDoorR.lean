/-
  What the laws' own functions on naturals and fractions compute, and which naturals and fractions are good.
-/
import Derived.Test.YtnhbcpmmdblkjaaGreatDoorQ
namespace Go.Proofs.YtnhbcpmmdblkjaaGreatDoorAm
open Go
set_option linter.unusedVariables false
set_option linter.unusedSimpArgs false

abbrev wgh:=Bool×(List Int)×(List Int)×Unit
theorem wku {α : Type} (N : Nat) (l : List Int) (hb : l.length < 4611686018427387904) (k : Int → Option α) (k1 : Option α) : ∀ (d i n : Nat), i + d = l.length → d < n →
    (l.drop i).all digB = true ∧ we N n l l.length i k k1 = k1 ∨ (l.drop i).all digB = false ∧ ∃ j : Nat, we N n l l.length i k k1 = k j := by
  intro d
  induction d with
  | zero =>
    intro i n h hn
    obtain ⟨m, rfl⟩ : ∃ m, n = m + 1 := ⟨n - 1, by omega⟩
    left
    rw [we.succ]
    unfold wbT
    simp only [wcx (show ¬ i < l.length by omega), cond_false]
    rw [List.drop_of_length_le (by omega)]; simp
  | succ d ih =>
    intro i n h hn
    obtain ⟨m, rfl⟩ : ∃ m, n = m + 1 := ⟨n - 1, by omega⟩
    have hi : i < l.length := by omega
    rw [we.succ]
    unfold wbT
    simp only [wex.eq]
    unfold wex.b
    simp only [wiR, wc1 hi, wF, cond_true, cond_false, Int.toNat_natCast, List.getElem?_eq_getElem hi, wdW (show i < 4611686018427387904 by omega)]
    have e1 := List.drop_eq_getElem_cons hi
    rw [e1, List.all_cons]
    have e2 : (decide (0 ≤ l[i]) && decide (l[i] ≤ 65535)) = digB l[i] := by
      unfold digB
      congr 1
      by_cases hh : l[i] < 65536
      · simp [hh]; omega
      · simp [hh]; omega
    rw [e2]
    cases he : digB l[i]
    · right
      exact ⟨by simp, i, by simp⟩
    · simp only [Bool.not_true, cond_false, Bool.true_and]
      exact ih (i + 1) m (by omega) (by omega)
theorem wmN {α:Type} (N:Nat) (l:List Int) (k:Bool→Option α) (hN:cap < N):wfc N l k=k (wfH l):=by
 have hN:=wfU hN
 rw [wfc.eq]
 unfold wfc.b wfH
 by_cases h:l.length≤256
 ·have h1:((l.length:Int)≤256):=by omega
  have hc:∀ k1:Bool→Option α,wo N l k1=k1 (!l.all digB):=by
   intro k1
   rw [wo.eq]
   unfold wo.b
   rw [wz.eq]
   unfold wz.b
   rcases wku (α:=α) N l (by omega) (fun x=>k1 (decide ((0:Int)≤x))) (k1 (decide ((0:Int)≤-1))) l.length 0 N (by omega) (by omega) with ⟨e1,e2⟩ | ⟨e1,j,e2⟩
   ·rw [List.drop_zero] at e1
    rw [e1]
    refine e2.trans ?_
    simp
   ·rw [List.drop_zero] at e1
    rw [e1]
    refine e2.trans ?_
    simp
  simp only [h1,decide_true,cond_true,h,Bool.true_and,hc,Bool.not_not]
  by_cases h2:l.length=0
  ·have h3:((l.length:Int)=0):=by omega
   simp [h2]
  ·have h3:¬ ((l.length:Int)=0):=by omega
   have h4:IntKind.i64.wrap ((l.length:Int) - 1)=((l.length - 1:Nat):Int):=by rw [wd (by omega) (by omega)]; omega
   have h5:l.length - 1 < l.length:=by omega
   simp only [h3,h4,decide_false,cond_false,wF,Int.toNat_natCast,List.getElem?_eq_getElem h5,wbb h5,h2,Bool.false_or]
   by_cases h6:l.getD (l.length - 1) 0=0
   ·simp only [h6,decide_true,Bool.not_true,cond_false]; simp
   ·simp only [h6,decide_false,Bool.not_false,cond_true,Ne,not_false_eq_true,decide_true,Bool.and_true]
 ·have h1:¬ ((l.length:Int)≤256):=by omega
  simp [h,h1]
theorem wkL {α : Type} (N : Nat) (hN : cap < N) (l : List (List Int)) (hb : l.length < 4611686018427387904) (k : Int → Option α) (k1 : Option α) : ∀ (d i n : Nat), i + d = l.length → d < n →
    (l.drop i).all wfH = true ∧ wg N n l l.length i k k1 = k1 ∨ (l.drop i).all wfH = false ∧ ∃ j : Nat, wg N n l l.length i k k1 = k j := by
  intro d
  induction d with
  | zero =>
    intro i n h hn
    obtain ⟨m, rfl⟩ : ∃ m, n = m + 1 := ⟨n - 1, by omega⟩
    left
    rw [wg.succ]
    unfold wbY
    simp only [wcx (show ¬ i < l.length by omega), cond_false]
    rw [List.drop_of_length_le (by omega)]; simp
  | succ d ih =>
    intro i n h hn
    obtain ⟨m, rfl⟩ : ∃ m, n = m + 1 := ⟨n - 1, by omega⟩
    have hi : i < l.length := by omega
    rw [wg.succ]
    unfold wbY
    simp only [we1.eq]
    unfold we1.b
    simp only [wmN N _ _ hN, wc1 hi, wF, cond_true, cond_false, Int.toNat_natCast, List.getElem?_eq_getElem hi, wdW (show i < 4611686018427387904 by omega)]
    have e1 := List.drop_eq_getElem_cons hi
    rw [e1, List.all_cons]
    cases he : wfH l[i]
    · right
      exact ⟨by simp, i, by simp⟩
    · simp only [Bool.not_true, cond_false, Bool.true_and]
      exact ih (i + 1) m (by omega) (by omega)
theorem wn6 {α:Type} (N:Nat) (l:List (List Int)) (k:Bool→Option α) (hl:l.length < 1000) (hN:cap < N):wfw N l k=k (l.all wfH):=by
 have hN':=wfU hN
 rw [wfw.eq]
 unfold wfw.b
 rw [ww.eq]
 unfold ww.b
 rw [wA.eq]
 unfold wA.b
 rcases wkL (α:=α) N hN l (by omega) (fun x=>k (!decide ((0:Int)≤x))) (k (!decide ((0:Int)≤-1))) l.length 0 N (by omega) (by omega) with ⟨e1,e2⟩ | ⟨e1,j,e2⟩
 ·rw [List.drop_zero] at e1
  rw [e1]
  refine e2.trans ?_
  simp
 ·rw [List.drop_zero] at e1
  rw [e1]
  refine e2.trans ?_
  simp
def wfz (f:wgh):Bool:=wfH f.2.1 && wfH f.2.2.1 && decide (f.2.2.1.length ≠ 0) && (!f.1 || decide (f.2.1.length ≠ 0)) && decide (Nat.gcd (val f.2.1).toNat (val f.2.2.1).toNat=1)
theorem wgg {f:wgh} (h:wfz f=true):∃ s a b,f=(s,(digs a,(digs b,())))∧a < 65536 ^ 256∧b < 65536 ^ 256∧b ≠ 0∧Nat.gcd a b=1∧(s=true→a ≠ 0):=by
 obtain ⟨s,n,d,u⟩:=f
 simp only [wfz,Bool.and_eq_true,decide_eq_true_eq,Bool.or_eq_true] at h
 obtain ⟨⟨⟨⟨h1,h2⟩,h3⟩,h4⟩,h5⟩:=h
 obtain ⟨a,ha,rfl⟩:=wgs h1
 obtain ⟨b,hb,rfl⟩:=wgs h2
 rw [wcR,wcR] at h5
 refine ⟨s,a,b,rfl,ha,hb,fun e=>h3 (we5.2 e),by simpa using h5,fun hs e=>?_⟩
 rcases h4 with h4 | h4
 ·rw [hs] at h4; simp at h4
 ·exact h4 (we5.2 e)
theorem we3 (a:Nat):decide (((digs a).length:Int)=0)=decide (a=0):=by
 by_cases h:a=0
 ·subst h; simp [wbS]
 ·have h2:(digs a).length ≠ 0:=fun e=>h (we5.1 e)
  have:¬ (((digs a).length:Int)=0):=by omega
  simp only [h,this,decide_false]
theorem wf7 (a:Nat):decide ((0:Int) < ((digs a).length:Int))=decide (a ≠ 0):=by
 by_cases h:a=0
 ·subst h; simp [wbS]
 ·have h2:(digs a).length ≠ 0:=fun e=>h (we5.1 e)
  have:(0:Int) < ((digs a).length:Int):=by omega
  simp only [h,this,Ne,not_false_eq_true,decide_true]
theorem c256 {a:Nat} (h:a < 65536 ^ 256):a < cap0:=wh9 h (by omega)
theorem wfg {a:Nat} (h:a < cap0):a < cap:=by have:=wix; omega
theorem wmd:digs 1=[(1:Int)]:=whI (by omega) (by omega)
theorem wg2 {α:Type} (N:Nat) (f:wgh) (k:Bool→Option α) (hN:cap < N):wdw N f k=k (wfz f):=by
 rw [wdw.eq]
 unfold wdw.b wfz
 simp only [whk N _ _ hN]
 cases h1:wfH f.2.1
 ·simp
 cases h2:wfH f.2.2.1
 ·simp
 obtain ⟨a,ha,ea⟩:=wgs h1
 obtain ⟨b,hb,eb⟩:=wgs h2
 rw [ea,eb]
 simp only [Bool.not_true,cond_false,we3,wcR,Int.toNat_natCast,Ne,we5,wjG N a b _ (c256 ha) (c256 hb) hN,wmI]
 by_cases h3:b=0
 ·simp [h3]
 ·by_cases h4:a=0
  ·cases f.1 <;> simp [h3,h4]
  ·simp [h3,h4]
theorem wi0 {α:Type} (N:Nat) (f:wgh) (k:Bool→Option α) (hN:cap < N):wel N f k=k (wfz f):=by
 rw [wel.eq]
 unfold wel.b wfz
 simp only [wn6 N [f.2.1,f.2.2.1] _ (show 2 < 1000 by omega) hN,List.all_cons,List.all_nil,Bool.and_true]
 cases h1:wfH f.2.1
 ·simp
 cases h2:wfH f.2.2.1
 ·simp
 obtain ⟨a,ha,ea⟩:=wgs h1
 obtain ⟨b,hb,eb⟩:=wgs h2
 rw [ea,eb]
 have hg:Nat.gcd a b < cap∨b=0:=by
  by_cases h3:b=0
  ·exact Or.inr h3
  ·exact Or.inl (Nat.lt_of_le_of_lt (Nat.gcd_le_right _ (Nat.pos_of_ne_zero h3)) (wfg (c256 hb)))
 have h1c:(1:Nat) < cap:=by have:=wii; omega
 simp only [Bool.and_self,cond_true,wf7,wcR,Int.toNat_natCast,Ne,we5,wjd N a b _ (c256 ha) (c256 hb) hN,← wmd]
 by_cases h3:b=0
 ·simp [h3]
 ·rcases hg with hg | hg
  ·simp only [wg3 N _ _ _ hg h1c hN,wqu]
   by_cases h4:a=0
   ·cases f.1 <;> simp [h3,h4]
   ·simp [h3,h4]
  ·exact absurd hg h3
end Go.Proofs.YtnhbcpmmdblkjaaGreatDoorAm
