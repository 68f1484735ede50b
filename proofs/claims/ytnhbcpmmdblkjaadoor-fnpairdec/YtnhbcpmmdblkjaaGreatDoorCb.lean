/-
  The floats next to a fraction: what both texts reckon; the laws.
-/
import Derived.Test.YtnhbcpmmdblkjaaGreatDoorCa
namespace Go.Proofs.YtnhbcpmmdblkjaaGreatDoorAm
open Go
set_option linter.unusedVariables false
set_option linter.unusedSimpArgs false

theorem wng {a:Nat} (h:a ≠ 0):∃ k,wd2 a=k + 1∧2 ^ k≤a∧a < 2 ^ (k + 1):=by
 have hlt:=wmD a
 obtain ⟨t0,t1⟩:=whp h
 unfold wd2 at *
 rw [if_neg h] at *
 obtain ⟨j,e,l1,l2⟩:=wjA (a / 65536 ^ ((digs a).length - 1)) (by omega) t0
 refine ⟨16 * ((digs a).length - 1) + j,by rw [e]; omega,?_,?_⟩
 ·rw [Nat.pow_add,Nat.pow_mul]
  have:(2:Nat) ^ 16=65536:=rfl
  rw [this]
  refine Nat.le_trans (Nat.mul_le_mul_left _ l1) ?_
  rw [Nat.mul_comm]
  exact Nat.div_mul_le_self _ _
 ·rw [e] at hlt
  exact hlt
theorem wjw (a i:Nat):i < wd2 a↔2 ^ i≤a:=by
 by_cases h:a=0
 ·subst h
  have:0 < 2 ^ i:=Nat.pow_pos (by omega)
  have e:wd2 0=0:=by simp [wd2]
  rw [e]
  omega
 ·obtain ⟨k,e,l1,l2⟩:=wng h
  rw [e]
  constructor
  ·intro h2
   exact Nat.le_trans (Nat.pow_le_pow_right (by omega) (by omega)) l1
  ·intro h2
   exact whP (Nat.lt_of_le_of_lt h2 l2)
def qS (A B:Nat) (s:Int):Nat:=if 0≤s then A * 2 ^ s.toNat / B else A / (B * 2 ^ (-s).toNat)
def rS (A B:Nat) (s:Int):Nat:=if 0≤s then A * 2 ^ s.toNat % B else A % (B * 2 ^ (-s).toNat)
theorem wm2 {Z Y:Nat} (hY:0 < Y):Z % (Y * 2)=0↔Z % Y=0∧Z / Y % 2=0:=by
 constructor
 ·intro h
  obtain ⟨k,hk⟩:=Nat.dvd_of_mod_eq_zero h
  have e:Z=Y * (2 * k):=by rw [hk,Nat.mul_assoc]
  rw [e]
  refine ⟨Nat.mul_mod_right _ _,?_⟩
  rw [Nat.mul_div_cancel_left _ hY]
  exact Nat.mul_mod_right _ _
 ·intro ⟨h1,h2⟩
  have e1:=Nat.div_add_mod Z Y
  have e2:=Nat.div_add_mod (Z / Y) 2
  rw [h1,Nat.add_zero] at e1
  rw [h2,Nat.add_zero] at e2
  rw [← e1,← e2,← Nat.mul_assoc]
  exact Nat.mul_mod_right _ _
theorem wnF {A B:Nat} (hB:0 < B) (s:Int):qS A B (s - 1)=qS A B s / 2∧(rS A B (s - 1)=0↔rS A B s=0∧qS A B s % 2=0):=by
 unfold qS rS
 by_cases h1:1≤s
 ·obtain ⟨m,rfl⟩:∃ m:Nat,s=(m:Int) + 1:=⟨(s - 1).toNat,by omega⟩
  have e1:((m:Int) + 1 - 1).toNat=m:=by omega
  have e2:((m:Int) + 1).toNat=m + 1:=by omega
  rw [if_pos (by omega),if_pos (by omega),if_pos (by omega),if_pos (by omega),e1,e2]
  have e3:A * 2 ^ (m + 1)=A * 2 ^ m * 2:=by rw [Nat.pow_succ,Nat.mul_assoc]
  rw [e3]
  constructor
  ·rw [Nat.div_div_eq_div_mul,Nat.mul_div_mul_right _ _ (by omega)]
  ·rw [← wm2 hB,Nat.mul_mod_mul_right]
   omega
 ·by_cases h0:s=0
  ·subst h0
   have e1:(-((0:Int) - 1)).toNat=1:=by omega
   have c1:¬ (0:Int)≤0 - 1:=by omega
   have c2:(0:Int)≤0:=by omega
   simp only [c1,c2,if_true,if_false,e1,Int.toNat_zero,Nat.pow_zero,Nat.mul_one,Nat.pow_one]
   exact ⟨(Nat.div_div_eq_div_mul _ _ _).symm,wm2 hB⟩
  ·obtain ⟨m,rfl⟩:∃ m:Nat,s=-(m:Int):=⟨(-s).toNat,by omega⟩
   have e1:(-(-(m:Int) - 1)).toNat=m + 1:=by omega
   have e2:(- -(m:Int)).toNat=m:=by omega
   have hp:0 < B * 2 ^ m:=Nat.mul_pos hB (Nat.pow_pos (by omega))
   rw [if_neg (by omega),if_neg (by omega),if_neg (by omega),if_neg (by omega),e1,e2,Nat.pow_succ,← Nat.mul_assoc]
   exact ⟨(Nat.div_div_eq_div_mul _ _ _).symm,wm2 hp⟩
theorem wu9 {A B a b:Nat} {s:Int} {D:Nat} (hA:A < 2 ^ a) (hB:2 ^ b≤B) (hs:s≤(D:Int) - a + b + 1):qS A B s < 2 ^ (D + 1):=by
 have hB0:0 < B:=Nat.lt_of_lt_of_le (Nat.pow_pos (by omega)) hB
 have hp:∀ i:Nat,0 < 2 ^ i:=fun i=>Nat.pow_pos (by omega)
 unfold qS
 split
 ·obtain ⟨m,rfl⟩:∃ m:Nat,s=(m:Int):=⟨s.toNat,by omega⟩
  rw [Int.toNat_natCast,Nat.div_lt_iff_lt_mul hB0]
  have h1:A * 2 ^ m < 2 ^ (a + m):=by rw [Nat.pow_add]; exact (Nat.mul_lt_mul_right (hp m)).2 hA
  have h2:2 ^ (a + m)≤2 ^ (D + 1 + b):=Nat.pow_le_pow_right (by omega) (by omega)
  have h3:2 ^ (D + 1 + b)≤2 ^ (D + 1) * B:=by rw [Nat.pow_add]; exact Nat.mul_le_mul_left _ hB
  omega
 ·obtain ⟨m,rfl⟩:∃ m:Nat,s=-(m:Int):=⟨(-s).toNat,by omega⟩
  rw [show (- -(m:Int)).toNat=m by omega,Nat.div_lt_iff_lt_mul (Nat.mul_pos hB0 (hp m))]
  have h2:2 ^ a≤2 ^ (D + 1 + (b + m)):=Nat.pow_le_pow_right (by omega) (by omega)
  have h3:2 ^ (D + 1 + (b + m))≤2 ^ (D + 1) * (B * 2 ^ m):=by
   rw [Nat.pow_add 2 (D + 1) (b + m),Nat.pow_add 2 b m]; exact Nat.mul_le_mul_left _ (Nat.mul_le_mul_right _ hB)
  omega
theorem wve {A B a b:Nat} {s:Int} {F:Nat} (hA:2 ^ a≤A) (hB:B < 2 ^ b) (hB0:0 < B) (hs:(F:Int) - a + b≤s):2 ^ F≤qS A B s:=by
 have hp:∀ i:Nat,0 < 2 ^ i:=fun i=>Nat.pow_pos (by omega)
 unfold qS
 split
 ·obtain ⟨m,rfl⟩:∃ m:Nat,s=(m:Int):=⟨s.toNat,by omega⟩
  rw [Int.toNat_natCast,Nat.le_div_iff_mul_le hB0]
  have h1:2 ^ (a + m)≤A * 2 ^ m:=by rw [Nat.pow_add]; exact Nat.mul_le_mul_right _ hA
  have h2:2 ^ (F + b)≤2 ^ (a + m):=Nat.pow_le_pow_right (by omega) (by omega)
  have h3:2 ^ F * B≤2 ^ (F + b):=by rw [Nat.pow_add]; exact Nat.mul_le_mul_left _ (Nat.le_of_lt hB)
  omega
 ·obtain ⟨m,rfl⟩:∃ m:Nat,s=-(m:Int):=⟨(-s).toNat,by omega⟩
  rw [show (- -(m:Int)).toNat=m by omega,Nat.le_div_iff_mul_le (Nat.mul_pos hB0 (hp m))]
  have h2:2 ^ (F + (b + m))≤2 ^ a:=Nat.pow_le_pow_right (by omega) (by omega)
  have h3:2 ^ F * (B * 2 ^ m)≤2 ^ (F + (b + m)):=by
   rw [Nat.pow_add 2 F (b + m),Nat.pow_add 2 b m]; exact Nat.mul_le_mul_left _ (Nat.mul_le_mul_right _ (Nat.le_of_lt hB))
  omega
def whi (w:Int) (q:Nat) (P:Int) (ex:Bool):Int×Bool :=
 if 2 ^ wB w≤q then (if 2 * wdK w < P - wb5 w + 1 then (top w - 1,false) else ((P - wb5 w + 1) * (2 ^ wB w:Nat) + ((q:Int) - (2 ^ wB w:Nat)),ex)) else ((q:Int),ex)
def wU (w:Int) (A B:Nat):Int:=min ((wB w:Int) + 1 - wd2 A + wd2 B) (-wb5 w)
def wh8 (w:Int) (A B:Nat):Int×Bool :=
 if A=0 then (0,true)
 else if 2 ^ (wB w + 1)≤qS A B (wU w A B) then whi w (qS A B (wU w A B) / 2) (1 - wU w A B) (decide (rS A B (wU w A B)=0) && decide (qS A B (wU w A B) % 2=0))
 else whi w (qS A B (wU w A B)) (-wU w A B) (decide (rS A B (wU w A B)=0))
theorem wn1 {a:Nat} (h:a < 65536 ^ 256):wd2 a≤9600:=by
 have:=wrn (weJ h); omega
theorem wht {a:Nat} (h:wd2 a≤9600):a < cap0:=by
 obtain ⟨E,hE⟩:∃ E,E=620:=⟨_,rfl⟩
 exact wh9 (Nat.lt_trans (wmD a) (whJ (E:=E) (by omega))) (by omega)
theorem whT {w:Int} {A B:Nat} (hA0:A ≠ 0) (hB0:B ≠ 0) (hA:wd2 A≤9600) (hB:wd2 B≤9600) :
  -9700≤wU w A B∧wU w A B≤1074∧qS A B (wU w A B) < 2 ^ (wB w + 2)∧(2 ^ wB w≤qS A B (wU w A B)∨wU w A B=-wb5 w):=by
 obtain ⟨g1,g2,g3,g4,g5⟩:=wfa w
 have na:=hA
 have nb:=hB
 obtain ⟨i,ei,a1,a2⟩:=wng hA0
 obtain ⟨j,ej,b1,b2⟩:=wng hB0
 unfold wU
 refine ⟨by omega,by omega,?_,?_⟩
 ·exact wu9 (D:=wB w + 1) a2 b1 (by omega)
 ·by_cases h:(wB w:Int) + 1 - wd2 A + wd2 B≤-wb5 w
  ·left
   exact wve a1 b2 (Nat.pos_of_ne_zero hB0) (by omega)
  ·right; omega
theorem wiI {A:Nat} {i:Nat} (hA:wd2 A≤9600) (hi:i≤9800):A * 2 ^ i < cap0:=by
 obtain ⟨E,hE⟩:∃ E,E=1300:=⟨_,rfl⟩
 have h1:A * 2 ^ i < 2 ^ (wd2 A + i):=by
  rw [Nat.pow_add]; exact (Nat.mul_lt_mul_right (Nat.pow_pos (by omega))).2 (wmD A)
 exact wh9 (Nat.lt_trans h1 (whJ (E:=E) (by omega))) (by omega)
theorem wn4 {i:Nat} (hi:i≤9800):2 ^ i < cap:=by
 obtain ⟨E,hE⟩:∃ E,E=620:=⟨_,rfl⟩
 have hp:2 ^ i < 65536 ^ E:=whJ (by omega)
 exact wo1 hp (by omega)
theorem wif {α:Type} (N:Nat) (sg:Bool) (A B:Nat) (s:Int) (k:Bool→List Int→Option α) (hA:wd2 A≤9600) (hB:wd2 B≤9600) (hB0:B ≠ 0) (h0:-9800≤s) (h1:s≤1100) (hN:cap < N) :
  wdx N (sg,(digs A,(digs B,()))) s k=k (decide (rS A B s ≠ 0)) (digs (qS A B s)):=by
 rw [wdx.eq]
 unfold wdx.b
 rw [wc9.eq]
 unfold wc9.b qS rS
 by_cases h:0≤s
 ·obtain ⟨m,rfl⟩:∃ m:Nat,s=(m:Int):=⟨s.toNat,by omega⟩
  have hc:=wiI (i:=m) hA (by omega)
  simp only [h,decide_true,cond_true,wfN N m _ (show m < 1000000 by omega) hN,wen N A _ _ (wfg (wht hA)) (wn4 (i:=m) (by omega)) hN,wgH N _ B _ hc (wht hB) hB0 hN,wf7,if_true,Int.toNat_natCast]
 ·obtain ⟨m,rfl⟩:∃ m:Nat,s=-(m:Int):=⟨(-s).toNat,by omega⟩
  have w1:IntKind.i64.wrap (0 - -(m:Int))=(m:Int):=by rw [wd (by omega) (by omega)]; omega
  have e1:(- -(m:Int)).toNat=m:=by omega
  have hc:=wiI (i:=m) hB (by omega)
  have hp:B * 2 ^ m ≠ 0:=by
   have:=Nat.mul_pos (Nat.pos_of_ne_zero hB0) (Nat.pow_pos (n:=m) (show 0 < 2 by omega)); omega
  simp only [h,decide_false,cond_false,w1,wfN N m _ (show m < 1000000 by omega) hN,wen N B _ _ (wfg (wht hB)) (wn4 (i:=m) (by omega)) hN,wgH N A _ _ (wht hA) hc hp hN,wf7,if_false,e1]
theorem wjJ {α : Type} (N q : Nat) (hq : q < 18446744073709551616) (k : Int → Option α) : ∀ (i f : Nat), i ≤ (digs q).length → i < f → wX N f (digs q) ((q / 65536 ^ i : Nat) : Int) ((i : Int) - 1) k = k (q : Int) := by
  intro i
  induction i with
  | zero =>
    intro f h hf
    obtain ⟨f, rfl⟩ : ∃ m, f = m + 1 := ⟨f - 1, by omega⟩
    rw [wX.succ]
    unfold wft
    have : ¬ (0 : Int) ≤ ((0 : Nat) : Int) - 1 := by omega
    simp only [this, decide_false, cond_false, Nat.pow_zero, Nat.div_one]
  | succ i ih =>
    intro f h hf
    obtain ⟨f, rfl⟩ : ∃ m, f = m + 1 := ⟨f - 1, by omega⟩
    have hi : i < (digs q).length := by omega
    have e0 : ((i + 1 : Nat) : Int) - 1 = (i : Int) := by omega
    have hd : (digs q)[i] = ((q / 65536 ^ i % 65536 : Nat) : Int) := by rw [wbb hi, wfd]
    have hle : q / 65536 ^ i ≤ q := Nat.div_le_self _ _
    have e1 : q / 65536 ^ (i + 1) = q / 65536 ^ i / 65536 := by rw [Nat.pow_succ, Nat.div_div_eq_div_mul]
    rw [e0, e1]
    rw [wX.succ]
    unfold wft
    simp only [weF, cond_true, wF, cond_false, Int.toNat_natCast, List.getElem?_eq_getElem hi, hd]
    have ih' := ih f (by omega) (by omega)
    generalize q / 65536 ^ i = x at *
    have w1 : IntKind.u64.wrap (((x / 65536 : Nat) : Int) * 65536) = ((x / 65536 * 65536 : Nat) : Int) := by rw [wd0 (by omega) (by omega)]; omega
    have w2 : IntKind.u64.wrap ((x % 65536 : Nat) : Int) = ((x % 65536 : Nat) : Int) := wd0 (by omega) (by omega)
    have w3 : IntKind.u64.wrap (((x / 65536 * 65536 : Nat) : Int) + ((x % 65536 : Nat) : Int)) = (x : Int) := by rw [wd0 (by omega) (by omega)]; omega
    have w4 : IntKind.i64.wrap ((i : Int) - 1) = (i : Int) - 1 := by
      have := hi
      have hq4 : q < 65536 ^ 4 := by omega
      have := weJ hq4
      exact wd (by omega) (by omega)
    simp only [w1, w2, w3, w4]
    exact ih'
theorem wkt {α:Type} (N q:Nat) (k:Int→Bool→Option α) (hq:q < 18446744073709551616) (hN:cap < N):wdy N (digs q) k=k (q:Int) true:=by
 have hNN:=wfU hN
 have hq4:q < 65536 ^ 4:=by omega
 have hl:=weJ hq4
 have hok:wfH (digs q)=true:=wom (Nat.lt_of_lt_of_le hq4 (wjq (by omega)))
 rw [wdy.eq]
 unfold wdy.b
 have c:¬ (4:Int) < (((digs q).length:Nat):Int):=by omega
 have w:IntKind.i64.wrap ((((digs q).length:Nat):Int) - 1)=(((digs q).length:Nat):Int) - 1:=wd (by omega) (by omega)
 simp only [whk N _ _ hN,hok,Bool.not_true,cond_false,c,decide_false,w]
 have:=wjJ (α:=α) N q hq (fun x=>k x true) (digs q).length N (Nat.le_refl _) (by omega)
 have hz:q / 65536 ^ (digs q).length=0:=Nat.div_eq_of_lt (we0 q)
 rw [hz] at this
 exact this
theorem wnz {α:Type} (N:Nat) (w:Int) (q:Nat) (s:Int) (ex:Bool) (k:Int→Bool→Option α) (hw:w=32∨w=64) (hq:q < 2 ^ (wB w + 1)) (hs:-9800≤s∧s≤1074) (hsl:s≤-wb5 w) (hc:2 ^ wB w≤q∨s=-wb5 w) (hN:cap < N) :
  (wdy N (digs q) (fun x546 _=>wdE N (digs q) (fun x548 =>
   bif decide (x548≤(wB w:Int)) then k (IntKind.i64.wrap x546) (!ex)
   else wde N w (fun x552 =>
    wc2 N w (fun x558 =>
     bif (decide (IntKind.u64.wrap (wB w:Int) < (0:Int))) then none
     else bif decide (IntKind.i64.wrap (shrI .i64 x558 (IntKind.u64.wrap (wB w:Int)) - 1) < IntKind.i64.wrap (IntKind.i64.wrap (IntKind.i64.wrap (0 - s) - x552) + 1)) then wc2 N w (fun x563=>k (IntKind.i64.wrap (x563 - 1)) true)
     else bif (decide (IntKind.u64.wrap (wB w:Int) < (0:Int))) then none
     else bif (decide (IntKind.u64.wrap (wB w:Int) < (0:Int))) then none
     else k (IntKind.i64.wrap (IntKind.i64.wrap (shlI .i64 (IntKind.i64.wrap (IntKind.i64.wrap (IntKind.i64.wrap (0 - s) - x552) + 1)) (IntKind.u64.wrap (wB w:Int)) + IntKind.i64.wrap x546) - shlI .i64 (1:Int) (IntKind.u64.wrap (wB w:Int)))) (!ex)))))) =
  k (whi w q (-s) ex).1 (!(whi w q (-s) ex).2):=by
 obtain ⟨g1,g2,g3,g4,g5⟩:=wfa w
 have hG:0≤wdK w∧wdK w≤1023:=by unfold wdK; split <;> omega
 have hpo:=wg7 g2
 have hp0:0 < 2 ^ wB w:=Nat.pow_pos (by omega)
 rw [Nat.pow_succ] at hq
 have hq64:q < 18446744073709551616:=by omega
 have hqc:q < cap:=Nat.lt_of_lt_of_le hq64 wkn
 have hte:=wqt hw
 have hgt:=wjw q (wB w)
 simp only [wkt N q _ hq64 hN,wgo N q _ hqc hN,whA,wgt]
 unfold whi
 by_cases h:2 ^ wB w≤q
 ·have c1:¬ ((wd2 q:Nat):Int)≤(wB w:Int):=by have:=hgt.2 h; omega
  have w0:IntKind.u64.wrap (wB w:Int)=(wB w:Int):=wd0 (by omega) (by omega)
  have w1:IntKind.i64.wrap (0 - s)=-s:=by rw [wd (by omega) (by omega)]; omega
  have w2:IntKind.i64.wrap (-s - wb5 w)=-s - wb5 w:=wd (by omega) (by omega)
  have w3:IntKind.i64.wrap (-s - wb5 w + 1)=-s - wb5 w + 1:=wd (by omega) (by omega)
  have s1:shrI .i64 (top w) (wB w:Int)=2 * wdK w + 1:=by
   rw [hte,shrN (q:=.i64) rfl (by omega),Nat.mul_div_cancel _ hp0]; omega
  have w4:IntKind.i64.wrap (2 * wdK w + 1 - 1)=2 * wdK w:=by rw [wd (by omega) (by omega)]; omega
  have ht:=wgi w
  have w5:IntKind.i64.wrap (top w - 1)=top w - 1:=wd (by omega) (by omega)
  rw [if_pos h]
  simp only [c1,decide_false,cond_false,w0,wF,s1,w1,w2,w3,w4,w5]
  by_cases h2:2 * wdK w < -s - wb5 w + 1
  ·simp [h2]
  ·rw [if_neg h2]
   have he0:0≤-s - wb5 w + 1:=by
    omega
   obtain ⟨e,he⟩:∃ e:Nat,-s - wb5 w + 1=(e:Int):=⟨(-s - wb5 w + 1).toNat,by omega⟩
   have heb:e≤2046:=by omega
   have hm:e * 2 ^ wB w≤2046 * 4503599627370496:=Nat.mul_le_mul heb hpo
   have hme:(e:Int) * ((2 ^ wB w:Nat):Int)=((e * 2 ^ wB w:Nat):Int):=(Int.natCast_mul _ _).symm
   have s2:=shlN (x:=e) (k:=wB w) (by omega) (by omega)
   have s3:shlI .i64 (1:Int) (wB w:Int)=((2 ^ wB w:Nat):Int):=by
    have:=shlN (x:=1) (k:=wB w) (by omega) (by omega)
    rw [Nat.one_mul] at this; exact this
   have w6:IntKind.i64.wrap (q:Int)=(q:Int):=wd (by omega) (by omega)
   have w7:IntKind.i64.wrap (((e * 2 ^ wB w:Nat):Int) + (q:Int))=((e * 2 ^ wB w:Nat):Int) + (q:Int):=wd (by omega) (by omega)
   have w8:IntKind.i64.wrap (((e * 2 ^ wB w:Nat):Int) + (q:Int) - ((2 ^ wB w:Nat):Int))=((e * 2 ^ wB w:Nat):Int) + ((q:Int) - ((2 ^ wB w:Nat):Int)):=by rw [wd (by omega) (by omega)]; omega
   rw [he] at h2
   simp only [he,h2,decide_false,cond_false,s2,s3,w6,w7,w8,hme]
 ·have c1:((wd2 q:Nat):Int)≤(wB w:Int):=by
   have:¬ wB w < wd2 q:=fun h3=>h (hgt.1 h3)
   omega
  have w6:IntKind.i64.wrap (q:Int)=(q:Int):=wd (by omega) (by omega)
  rw [if_neg h]
  simp only [c1,decide_true,cond_true,w6]
theorem wme {α:Type} (N:Nat) (w:Int) (sg:Bool) (A B:Nat) (k:Int→Bool→Option α) (hw:w=32∨w=64) (hA:wd2 A≤9600) (hB:wd2 B≤9600) (hB0:B ≠ 0) (hN:cap < N) :
  weI N w (sg,(digs A,(digs B,()))) k=k (wh8 w A B).1 (!(wh8 w A B).2):=by
 have hNN:=wfU hN
 rw [weI.eq]
 unfold weI.b wh8
 simp only [we3]
 by_cases hA0:A=0
 ·simp [hA0]
 obtain ⟨g1,g2,g3,g4,g5⟩:=wfa w
 obtain ⟨f1,f2,f3,f4⟩:=whT (w:=w) hA0 hB0 hA hB
 have na:=hA
 have nb:=hB
 have w1:IntKind.i64.wrap ((wB w:Int) + 1)=(wB w:Int) + 1:=wd (by omega) (by omega)
 have w2:IntKind.i64.wrap ((wB w:Int) + 1 - (wd2 A:Nat))=(wB w:Int) + 1 - (wd2 A:Nat):=wd (by omega) (by omega)
 have w3:IntKind.i64.wrap ((wB w:Int) + 1 - (wd2 A:Nat) + (wd2 B:Nat))=(wB w:Int) + 1 - (wd2 A:Nat) + (wd2 B:Nat):=wd (by omega) (by omega)
 have w4:IntKind.i64.wrap (0 - wb5 w)=-wb5 w:=by rw [wd (by omega) (by omega)]; omega
 simp only [hA0,decide_false,cond_false,wiY,w1,wgo N A _ (wfg (wht hA)) hN,wgo N B _ (wfg (wht hB)) hN,w2,w3,if_false]
 have hJ:∀ k1:Int→Int→Int→wgh→Option α,wdo N w (wB w:Int) ((wB w:Int) + 1 - (wd2 A:Nat) + (wd2 B:Nat)) (sg,(digs A,(digs B,()))) k1=k1 w (wB w:Int) (wU w A B) (sg,(digs A,(digs B,()))):=by
  intro k1
  rw [wdo.eq]
  unfold wdo.b wU
  simp only [whA,w4]
  by_cases h:-wb5 w < (wB w:Int) + 1 - (wd2 A:Nat) + (wd2 B:Nat)
  ·rw [Int.min_eq_right (by omega)]
   simp only [h,decide_true,cond_true]
  ·rw [Int.min_eq_left (by omega)]
   simp only [h,decide_false,cond_false]
 rw [hJ]
 simp only [wif N sg A B (wU w A B) _ hA hB hB0 (by omega) (by omega) hN]
 obtain ⟨N',rfl⟩:∃ m,N=m + 1:=⟨N - 1,by omega⟩
 have stop:∀ (f:Nat) (s:Int) (q:Nat) (ex:Bool) (K:Int→Int→Int→Bool→List Int→Option α),q < 2 ^ (wB w + 1)→wbN (N' + 1) (f + 1) w (wB w:Int) s (!ex) (sg,(digs A,(digs B,()))) (digs q) K=K w (wB w:Int) s (!ex) (digs q):=by
  intro f s q ex K hq
  rw [wbN.succ]
  unfold wf3
  have hq2:q < 2 ^ 53:=Nat.lt_of_lt_of_le hq (Nat.pow_le_pow_right (by omega) (by omega))
  have hqc:q < cap:=Nat.lt_of_lt_of_le (show q < 18446744073709551616 by omega) wkn
  have c:¬ (wB w:Int) + 1 < ((wd2 q:Nat):Int):=by
   have:=wjw q (wB w + 1)
   have:¬ wB w + 1 < wd2 q:=fun h=>by have:=this.1 h; omega
   omega
  simp only [wgo (N' + 1) q _ hqc hN,w1,c,decide_false,cond_false]
 obtain ⟨M,rfl⟩:∃ m,N'=m + 1:=⟨N' - 1,by omega⟩
 by_cases h:2 ^ (wB w + 1)≤qS A B (wU w A B)
 ·rw [if_pos h]
  obtain ⟨e1,e2⟩:=wnF (A:=A) (Nat.pos_of_ne_zero hB0) (wU w A B)
  have hq3:qS A B (wU w A B) < 2 ^ 54:=Nat.lt_of_lt_of_le f3 (Nat.pow_le_pow_right (by omega) (by omega))
  have hqc:qS A B (wU w A B) < cap:=Nat.lt_of_lt_of_le (show qS A B (wU w A B) < 18446744073709551616 by omega) wkn
  have c:(wB w:Int) + 1 < ((wd2 (qS A B (wU w A B)):Nat):Int):=by
   have:=(wjw (qS A B (wU w A B)) (wB w + 1)).2 h
   omega
  have w5:IntKind.i64.wrap (wU w A B - 1)=wU w A B - 1:=wd (by omega) (by omega)
  have hq2:qS A B (wU w A B) / 2 < 2 ^ (wB w + 1):=by
   rw [Nat.pow_succ] at f3; omega
  have hex:decide (rS A B (wU w A B - 1) ≠ 0) = !(decide (rS A B (wU w A B)=0) && decide (qS A B (wU w A B) % 2=0)):=by
   by_cases h1:rS A B (wU w A B - 1)=0
   ·obtain ⟨h2,h3⟩:=e2.1 h1
    simp [h1,h2,h3]
   ·by_cases h2:rS A B (wU w A B)=0
    ·by_cases h3:qS A B (wU w A B) % 2=0
     ·exact absurd (e2.2 ⟨h2,h3⟩) h1
     ·simp [h1,h2,h3]
    ·simp [h1,h2]
  rw [wbN.succ]
  unfold wf3
  simp only [wgo (M + 1 + 1) _ _ hqc hN,w1,c,decide_true,cond_true,w5,wif (M + 1 + 1) sg A B (wU w A B - 1) _ hA hB hB0 (by omega) (by omega) hN,hex,e1]
  rw [stop M (wU w A B - 1) _ _ _ hq2]
  have:=wnz (M + 1 + 1) w (qS A B (wU w A B) / 2) (wU w A B - 1) (decide (rS A B (wU w A B)=0) && decide (qS A B (wU w A B) % 2=0)) k hw hq2 (by omega) (by unfold wU; omega) (by
   left
   rw [Nat.pow_succ] at h; omega) hN
  rw [show -(wU w A B - 1)=1 - wU w A B by omega] at this
  exact this
 ·rw [if_neg h]
  have hq2:qS A B (wU w A B) < 2 ^ (wB w + 1):=by omega
  have hex:decide (rS A B (wU w A B) ≠ 0) = !decide (rS A B (wU w A B)=0):=by simp
  rw [hex,stop (M + 1) (wU w A B) _ _ _ hq2]
  exact wnz (M + 1 + 1) w (qS A B (wU w A B)) (wU w A B) (decide (rS A B (wU w A B)=0)) k hw hq2 (by omega) (by unfold wU; omega) f4 hN
def whG (w:Int) (s:Bool) (A B:Nat) (up:Bool):Int :=
 if s=true then -((wh8 w A B).1 + if (wh8 w A B).2=false∧up=false then 1 else 0) else (wh8 w A B).1 + if (wh8 w A B).2=false∧up=true then 1 else 0
theorem wkp {w:Int} {q:Nat} {P:Int} {ex:Bool} (hw:w=32∨w=64) (hq:q < 2 ^ (wB w + 1)) (hP:wb5 w≤P):0≤(whi w q P ex).1∧(whi w q P ex).1 < 9218868437227405312:=by
 obtain ⟨g1,g2,g3,g4,g5⟩:=wfa w
 have hG:0≤wdK w∧wdK w≤1023:=by unfold wdK; split <;> omega
 have hpo:=wg7 g2
 have hp0:0 < 2 ^ wB w:=Nat.pow_pos (by omega)
 have ht:=wgi w
 have hte:=wqt hw
 rw [Nat.pow_succ] at hq
 have ht1:1≤top w:=by rcases hw with rfl | rfl <;> simp [top]
 unfold whi
 split
 ·split
  ·simp only; omega
  ·rename_i h1 h2
   obtain ⟨e,he⟩:∃ e:Nat,P - wb5 w + 1=(e:Int):=⟨(P - wb5 w + 1).toNat,by omega⟩
   have hm:e * 2 ^ wB w≤2046 * 4503599627370496:=Nat.mul_le_mul (by omega) hpo
   have hme:(e:Int) * ((2 ^ wB w:Nat):Int)=((e * 2 ^ wB w:Nat):Int):=(Int.natCast_mul _ _).symm
   simp only [he,hme]; omega
 ·simp only; omega
theorem wll {w:Int} {A B:Nat} (hw:w=32∨w=64) (hA:wd2 A≤9600) (hB:wd2 B≤9600) (hB0:B ≠ 0):0≤(wh8 w A B).1∧(wh8 w A B).1 < 9218868437227405312:=by
 unfold wh8
 split
 ·simp
 ·rename_i hA0
  obtain ⟨f1,f2,f3,f4⟩:=whT (w:=w) hA0 hB0 hA hB
  have hs:wU w A B≤-wb5 w:=by unfold wU; omega
  split
  ·refine wkp hw ?_ (by omega)
   rw [Nat.pow_succ] at f3; omega
  ·exact wkp hw (by omega) (by omega)
theorem wiy {α:Type} (N:Nat) (w:Int) (sg:Bool) (A B:Nat) (up:Bool) (k:Int→Option α) (hw:w=32∨w=64) (hA:wd2 A≤9600) (hB:wd2 B≤9600) (hB0:B ≠ 0) (hN:cap < N) :
  wdX N w (sg,(digs A,(digs B,()))) up k=k (whG w sg A B up):=by
 obtain ⟨t0,t1⟩:=wll hw hA hB hB0
 rw [wdX.eq]
 unfold wdX.b whG
 simp only [wme N w sg A B _ hw hA hB hB0 hN]
 generalize wh8 w A B=r at *
 have w1:IntKind.i64.wrap (r.1 + 1)=r.1 + 1:=wd (by omega) (by omega)
 have w2:IntKind.i64.wrap (0 - (r.1 + 1))=-(r.1 + 1):=by rw [wd (by omega) (by omega)]; omega
 have w3:IntKind.i64.wrap (0 - r.1)=-r.1:=by rw [wd (by omega) (by omega)]; omega
 rw [wdj.eq,wdi.eq]
 unfold wdj.b wdi.b
 cases sg <;> cases up <;> cases r.2 <;> simp only [Bool.not_true,Bool.not_false,cond_true,cond_false,w1,w2,w3,if_true,Bool.false_eq_true,if_false,and_self,and_false,and_true,false_and,Int.add_zero,reduceCtorEq]
def whr (w:Int) (f:wgh) (up:Bool):Int×Bool:=if (w=32∨w=64)∧wfz f=true then (whG w f.1 (val f.2.1).toNat (val f.2.2.1).toNat up,true) else (0,false)
theorem wj2 {α:Type} (N:Nat) (w:Int) (f:wgh) (k:Int→Bool→Option α) (hN:cap < N):wdq N w f k=k (whr w f false).1 (whr w f false).2:=by
 rw [wdq.eq]
 unfold wdq.b whr
 simp only [whB,wg2 N _ _ hN]
 by_cases hw:w=32∨w=64
 ·cases hf:wfz f
  ·simp [hw]
  obtain ⟨s,a,b,rfl,ha,hb,hb0,hg,hs⟩:=wgg hf
  simp only [hw,decide_true,Bool.not_true,cond_false,wi1,wiy N w s a b false _ hw (wn1 ha) (wn1 hb) hb0 hN,and_self,if_true,wcR,Int.toNat_natCast]
 ·simp [hw]
theorem wkN {α:Type} (N:Nat) (w:Int) (f:wgh) (k:Int→Bool→Option α) (hN:cap < N):wd8 N w f k=k (whr w f true).1 (whr w f true).2:=by
 rw [wd8.eq]
 unfold wd8.b whr
 simp only [whB,wg2 N _ _ hN]
 by_cases hw:w=32∨w=64
 ·cases hf:wfz f
  ·simp [hw]
  obtain ⟨s,a,b,rfl,ha,hb,hb0,hg,hs⟩:=wgg hf
  simp only [hw,decide_true,Bool.not_true,cond_false,wi1,wiy N w s a b true _ hw (wn1 ha) (wn1 hb) hb0 hN,and_self,if_true,wcR,Int.toNat_natCast]
 ·simp [hw]
theorem borU {x y:Nat} (hx:x < 18446744073709551616) (hy:y < 18446744073709551616):bitI .or .u64 (x:Int) (y:Int)=((x ||| y:Nat):Int):=by
 have h:=Nat.or_lt_two_pow (n:=64) (by simpa using hx) (by simpa using hy)
 show IntKind.u64.wrap (((BitVec.ofInt 64 (x:Int) ||| BitVec.ofInt 64 (y:Int)).toNat:Nat):Int)=_
 rw [BitVec.ofInt_natCast,BitVec.ofInt_natCast,BitVec.toNat_or,BitVec.toNat_ofNat,BitVec.toNat_ofNat]
 rw [Nat.mod_eq_of_lt (by omega),Nat.mod_eq_of_lt (by omega),wd0 (by omega) (by omega)]
theorem wma {α : Type} (N : Nat) (w P : Int) (ex : Bool) (q : Nat) (fm : Int × Int × Int × Int × Unit) (hq : q < 18446744073709551616) (k : Int → Int → Bool → Int → (Int × Int × Int × Int × Unit) → Option α) : ∀ (d i f : Nat), i + d = (digs q).length → d < f →
    wP N f w P ex ((q % 65536 ^ i : Nat) : Int) (digs q) (((digs q).length : Nat) : Int) (i : Int) fm k = k w P ex (q : Int) fm := by
  have hq4 : q < 65536 ^ 4 := by omega
  have hl4 := weJ hq4
  intro d
  induction d with
  | zero =>
    intro i f h hf
    obtain ⟨f, rfl⟩ : ∃ m, f = m + 1 := ⟨f - 1, by omega⟩
    rw [wP.succ]
    unfold wfl
    have hi : i = (digs q).length := by omega
    have : q % 65536 ^ i = q := Nat.mod_eq_of_lt (by rw [hi]; exact we0 q)
    simp only [wcx (show ¬ i < (digs q).length by omega), cond_false, this]
  | succ d ih =>
    intro i f h hf
    obtain ⟨f, rfl⟩ : ∃ m, f = m + 1 := ⟨f - 1, by omega⟩
    have hi : i < (digs q).length := by omega
    have hd : (digs q)[i] = ((q / 65536 ^ i % 65536 : Nat) : Int) := by rw [wbb hi, wfd]
    have hdig : q / 65536 ^ i % 65536 < 65536 := Nat.mod_lt _ (by omega)
    have w1 : IntKind.u64.wrap ((q / 65536 ^ i % 65536 : Nat) : Int) = ((q / 65536 ^ i % 65536 : Nat) : Int) := wd0 (Int.natCast_nonneg _) (by omega)
    have w2 : IntKind.i64.wrap ((16 : Int) * (i : Int)) = ((16 * i : Nat) : Int) := by rw [wd (by omega) (by omega)]; omega
    have hpw : 2 ^ (16 * i) = 65536 ^ i := by rw [Nat.pow_mul]
    have hpb : 65536 ^ (i + 1) ≤ 65536 ^ 4 := wjq (by omega)
    have hm1 : q / 65536 ^ i % 65536 * 65536 ^ i < 65536 ^ (i + 1) := by
      rw [Nat.pow_succ, Nat.mul_comm (65536 ^ i)]
      exact (Nat.mul_lt_mul_right (Nat.pow_pos (by omega))).2 hdig
    have s1 := shlU (x := q / 65536 ^ i % 65536) (k := 16 * i) (by omega) (by rw [hpw]; omega)
    have hm2 : q % 65536 ^ i < 65536 ^ i := Nat.mod_lt _ (Nat.pow_pos (by omega))
    have hple : 65536 ^ i ≤ 65536 ^ (i + 1) := wjq (by omega)
    have o1 : bitI .or .u64 ((q % 65536 ^ i : Nat) : Int) ((q / 65536 ^ i % 65536 * 2 ^ (16 * i) : Nat) : Int) = ((q % 65536 ^ (i + 1) : Nat) : Int) := by
      rw [borU (by omega) (by rw [hpw]; omega), Nat.or_comm, wsN (by rw [hpw]; exact hm2), hpw]
      congr 1
      rw [Nat.pow_succ, Nat.mod_mul, Nat.add_comm, Nat.mul_comm]
    rw [wP.succ]
    unfold wfl
    simp only [wc1 hi, wF, cond_true, cond_false, Int.toNat_natCast, List.getElem?_eq_getElem hi, hd, w1, w2, s1, o1, wdW (show i < 4611686018427387904 by omega)]
    exact ih (i + 1) f (by omega) (by omega)
theorem wpy {w:Int} {q:Nat} {P:Int} {ex:Bool} (hw:w=32∨w=64) (hq:q < 2 ^ (wB w + 1)) (hP:wb5 w≤P) (hP2:P≤9800) (hc:2 ^ wB w≤q∨P=wb5 w) :
  whi w q P ex=if (whe w (false,(q:Int),P,())).2=true then ((whe w (false,(q:Int),P,())).1,ex) else (top w - 1,false):=by
 obtain ⟨g1,g2,g3,g4,g5⟩:=wfa w
 have hG:0≤wdK w∧wdK w≤1023:=by unfold wdK; split <;> omega
 have hpo:=wg7 g2
 have hp0:0 < 2 ^ wB w:=Nat.pow_pos (by omega)
 have hq':=hq
 rw [Nat.pow_succ] at hq'
 by_cases hq0:q=0
 ·subst hq0
  have hPl:P=wb5 w:=by rcases hc with h | h <;> omega
  have:whe w (false,((0:Nat):Int),P,())=(0,true):=by
   unfold whe
   simp only
   rw [if_pos ⟨hw,by omega,by omega⟩]
   simp
  rw [this]
  unfold whi
  rw [if_neg (by omega)]
  simp
 obtain ⟨o,ho1,ho2,ho3,hz,ho4⟩:=wr3 hq0 (show q < 2 ^ 64 by omega)
 have hmk:mkB w q P=mkS w q P:=by
  unfold mkB
  rw [ho4]
  exact (wsQ ho1 ho3 ho2 (by omega) (by omega) (fun h=>by omega) (by omega)).symm
 have hcq:¬ ((q:Int)=0):=by omega
 by_cases h2:P≤2000
 ·have hb:whe w (false,(q:Int),P,())=match mkS w q P with
    | none=>(0,false)
    | some n=>(n,true):=by
   unfold whe
   simp only
   rw [if_pos ⟨hw,by omega,h2⟩,if_neg hcq,Int.toNat_natCast,hmk]
   cases mkS w q P <;> simp
  rw [hb]
  unfold whi mkS
  rw [if_neg (show ¬ (2 * 2 ^ wB w≤q∨P < wb5 w) by omega)]
  by_cases h3:2 ^ wB w≤q
  ·rw [if_pos h3,if_pos h3]
   by_cases h4:2 * wdK w < P - wb5 w + 1
   ·rw [if_pos h4,if_pos h4]; simp
   ·rw [if_neg h4,if_neg h4]; simp
  ·rw [if_neg h3,if_neg h3]; simp
 ·have hb:whe w (false,(q:Int),P,())=(0,false):=by
   unfold whe
   simp only
   rw [if_neg (fun h=>h2 h.2.2)]
  rw [hb]
  unfold whi
  have hq1:2 ^ wB w≤q:=by
   rcases hc with h | h
   ·exact h
   ·omega
  rw [if_pos hq1,if_pos (by omega)]
  simp
theorem wkh {α:Type} (N:Nat) (w:Int) (sg:Bool) (A B:Nat) (k:Int→Bool→Option α) (hw:w=32∨w=64) (hA:wd2 A≤9600) (hB:wd2 B≤9600) (hB0:B ≠ 0) (hN:cap < N) :
  wdr N w (sg,(digs A,(digs B,()))) k=k (wh8 w A B).1 (wh8 w A B).2:=by
 have hNN:=wfU hN
 rw [wdr.eq]
 unfold wdr.b wh8
 simp only [wfj,we3]
 by_cases hA0:A=0
 ·simp [hA0]
 obtain ⟨g1,g2,g3,g4,g5⟩:=wfa w
 obtain ⟨f1,f2,f3,f4⟩:=whT (w:=w) hA0 hB0 hA hB
 have na:=hA
 have nb:=hB
 have hf1:(wiV w).1=(wB w:Int):=by rw [wko hw]
 have hf2:(wiV w).2.1=wb5 w:=by rw [wko hw]
 have hf3:(wiV w).2.2.2.1=top w:=by rw [wko hw]
 have w1:IntKind.i64.wrap ((wB w:Int) + 1)=(wB w:Int) + 1:=wd (by omega) (by omega)
 have w2:IntKind.i64.wrap ((wd2 A:Int) - (wd2 B:Nat))=(wd2 A:Int) - (wd2 B:Nat):=wd (by omega) (by omega)
 have w3:IntKind.i64.wrap ((wd2 A:Int) - (wd2 B:Nat) - ((wB w:Int) + 1))=(wd2 A:Int) - (wd2 B:Nat) - ((wB w:Int) + 1):=wd (by omega) (by omega)
 have hmax:maxI (wb5 w) ((wd2 A:Int) - (wd2 B:Nat) - ((wB w:Int) + 1))=-wU w A B:=by
  rw [wqI]; unfold wU; omega
 simp only [hA0,decide_false,cond_false,hf1,hf2,w1,wgG N A _ (wfg (wht hA)) hN,wgG N B _ (wfg (wht hB)) hN,w2,w3,hmax,if_false]
 have hq64:qS A B (wU w A B) < 2 ^ 54:=Nat.lt_of_lt_of_le f3 (Nat.pow_le_pow_right (by omega) (by omega))
 have hqc:qS A B (wU w A B) < cap:=Nat.lt_of_lt_of_le (show qS A B (wU w A B) < 18446744073709551616 by omega) wkn
 have hdiv:∀ K:Int→Int→Int→(Int×Int×Int×Int×Unit)→List Int→List Int→Option α,wcD N w ((wB w:Int) + 1) (-wU w A B) (digs A) (digs B) (wiV w) (fun x1243 x1244 x1245 x1246 x1247 x1248=>wdI N x1246 x1247 (fun x1249 x1250=>K x1243 x1244 x1245 x1248 x1249 x1250))=K w ((wB w:Int) + 1) (-wU w A B) (wiV w) (digs (qS A B (wU w A B))) (digs (rS A B (wU w A B))):=by
  intro K
  rw [wcD.eq]
  unfold wcD.b qS rS
  by_cases h:0≤wU w A B
  ·obtain ⟨m,hm⟩:∃ m:Nat,wU w A B=(m:Int):=⟨(wU w A B).toNat,by omega⟩
   have hmb:m≤1074:=by omega
   rw [hm]
   have h:(0:Int)≤(m:Int):=by omega
   have hc:=wiI (i:=m) hA (by omega)
   by_cases hm0:m=0
   ·subst hm0
    have c1:¬ (-((0:Nat):Int) < 0):=by omega
    have e:=wdS (α:=α) N B 0
    simp only [c1,decide_false,cond_false]
    rw [show -((0:Nat):Int)=((0:Nat):Int) from rfl,wdS N B 0 _ (wfg (wht hB)) (by omega) hN]
    simp only [Nat.pow_zero,Nat.mul_one,Int.toNat_natCast]
    rw [wfO N A B _ (wht hA) (wht hB) hB0 hN]
    simp
   ·have c1:-(m:Int) < 0:=by omega
    have w5:IntKind.i64.wrap (0 - -(m:Int))=(m:Int):=by rw [wd (by omega) (by omega)]; omega
    simp only [c1,decide_true,cond_true,w5,wdS N A m _ (wfg (wht hA)) (show m < 1000000 by omega) hN,wfO N _ B _ hc (wht hB) hB0 hN,h,if_true,Int.toNat_natCast]
  ·obtain ⟨m,hm⟩:∃ m:Nat,wU w A B=-(m:Int):=⟨(-wU w A B).toNat,by omega⟩
   have hmb:m≤9700:=by omega
   have h:¬ (0:Int)≤-(m:Int):=by omega
   rw [hm]
   have e1:- -(m:Int)=(m:Int):=by omega
   have e2:(- -(m:Int)).toNat=m:=by omega
   have hc:=wiI (i:=m) hB (by omega)
   have hp:B * 2 ^ m ≠ 0:=by
    have:=Nat.mul_pos (Nat.pos_of_ne_zero hB0) (Nat.pow_pos (n:=m) (show 0 < 2 by omega)); omega
   rw [e1]
   simp only [wF,cond_false,wdS N B m _ (wfg (wht hB)) (show m < 1000000 by omega) hN,wfO N A _ _ (wht hA) hc hp hN,h,if_false,Int.toNat_natCast]
 refine (hdiv _).trans ?_
 simp only [we3]
 have fin:∀ (q:Nat) (P:Int) (ex:Bool),q < 2 ^ (wB w + 1)→wb5 w≤P→P≤9800→(2 ^ wB w≤q∨P=wb5 w) →
   wP N N w P ex (0:Int) (digs q) (((digs q).length:Nat):Int) (0:Int) (wiV w) (fun x1289 x1290 x1291 x1292 x1293=>wdH N x1289 (false,(x1292,(x1290,()))) (fun x1338 x1339=>bif !x1339 then k (IntKind.i64.wrap (x1293.2.2.2.1 - (1:Int))) false else k x1338 x1291))=k (whi w q P ex).1 (whi w q P ex).2:=by
  intro q P ex hq hP hP2 hc
  have hq2:q < 2 ^ 53:=Nat.lt_of_lt_of_le hq (Nat.pow_le_pow_right (by omega) (by omega))
  have hl4:(digs q).length≤4:=weJ (show q < 65536 ^ 4 by omega)
  have hL:=wma (α:=α) N w P ex q (wiV w) (by omega) (fun x1289 x1290 x1291 x1292 x1293=>wdH N x1289 (false,(x1292,(x1290,()))) (fun x1338 x1339=>bif !x1339 then k (IntKind.i64.wrap (x1293.2.2.2.1 - (1:Int))) false else k x1338 x1291)) (digs q).length 0 N (by omega) (by omega)
  rw [Nat.pow_zero,Nat.mod_one] at hL
  refine hL.trans ?_
  have ht:=wgi w
  have w5:IntKind.i64.wrap (top w - 1)=top w - 1:=wd (by omega) (by omega)
  simp only [wlD N w (false,((q:Int),(P,()))) _ (show (0:Int)≤(q:Int) by omega) (show (q:Int) < 18446744073709551616 by omega),hf3,w5,wpy (ex:=ex) hw hq hP hP2 hc]
  cases (whe w (false,(q:Int),P,())).2 <;> simp
 have hs:wU w A B≤-wb5 w:=by unfold wU; omega
 rw [wcL.eq]
 unfold wcL.b
 by_cases h:2 ^ (wB w + 1)≤qS A B (wU w A B)
 ·have c:(wB w:Int) + 1 < ((wd2 (qS A B (wU w A B)):Nat):Int):=by
   have:=(wjw (qS A B (wU w A B)) (wB w + 1)).2 h
   omega
  have hne:qS A B (wU w A B) ≠ 0:=by
   have:0 < 2 ^ (wB w + 1):=Nat.pow_pos (by omega)
   omega
  have hl0:0 < (digs (qS A B (wU w A B))).length:=List.length_pos_iff.2 (wfR hne)
  have hd0:(digs (qS A B (wU w A B)))[0]=((qS A B (wU w A B) % 65536:Nat):Int):=by
   rw [wbb hl0,wfd,Nat.pow_zero,Nat.div_one]
  have hsh:=fun K=>whQ (α:=α) N (qS A B (wU w A B)) 1 K hqc (by omega) hN
  rw [show -((1:Nat):Int)=(-1:Int) from rfl] at hsh
  have w6:IntKind.i64.wrap (-wU w A B + 1)=1 - wU w A B:=by rw [wd (by omega) (by omega)]; omega
  have hev:decide (bitI .and .i64 ((qS A B (wU w A B) % 65536:Nat):Int) 1=0)=decide (qS A B (wU w A B) % 2=0):=by
   have:=wth (x:=qS A B (wU w A B) % 65536) (k:=1) (by omega) (by omega)
   rw [show ((2 ^ 1 - 1:Nat):Int)=1 from rfl] at this
   rw [this]
   have e:qS A B (wU w A B) % 65536 % 2 ^ 1=qS A B (wU w A B) % 2:=by
    rw [Nat.pow_one]; omega
   rw [e]
   by_cases h2:qS A B (wU w A B) % 2=0
   ·simp [h2]
   ·have:¬ ((qS A B (wU w A B) % 2:Nat):Int)=0:=by omega
    simp only [h2,this]
  have hq2:qS A B (wU w A B) / 2 < 2 ^ (wB w + 1):=by
   rw [Nat.pow_succ] at f3; omega
  have hc2:2 ^ wB w≤qS A B (wU w A B) / 2:=by
   rw [Nat.pow_succ] at h; omega
  rw [if_pos h]
  simp only [wgG N _ _ hqc hN,c,decide_true,cond_true,List.getElem?_eq_getElem hl0,hd0,hsh,w6,hev,Nat.pow_one]
  by_cases hr:rS A B (wU w A B)=0
  ·simp only [hr,decide_true,cond_true,Bool.true_and]
   exact fin _ _ _ hq2 (by omega) (by omega) (.inl hc2)
  ·simp only [hr,decide_false,cond_false,Bool.false_and]
   exact fin _ _ _ hq2 (by omega) (by omega) (.inl hc2)
 ·have c:¬ (wB w:Int) + 1 < ((wd2 (qS A B (wU w A B)):Nat):Int):=by
   have:¬ wB w + 1 < wd2 (qS A B (wU w A B)):=fun h2=>h ((wjw _ _).1 h2)
   omega
  rw [if_neg h]
  simp only [wgG N _ _ hqc hN,c,decide_false,cond_false]
  have f5:2 ^ wB w≤qS A B (wU w A B)∨-wU w A B=wb5 w:=by
   rcases f4 with h2 | h2
   ·exact .inl h2
   ·exact .inr (by omega)
  exact fin _ _ _ (by omega) (by omega) (by omega) f5
theorem wl1 {α:Type} (N:Nat) (w:Int) (sg:Bool) (A B:Nat) (k:Int→Int→Option α) (hw:w=32∨w=64) (hA:wd2 A≤9600) (hB:wd2 B≤9600) (hB0:B ≠ 0) (hN:cap < N) :
  weH N w (sg,(digs A,(digs B,()))) k=k (whG w sg A B false) (whG w sg A B true):=by
 obtain ⟨t0,t1⟩:=wll hw hA hB hB0
 rw [weH.eq]
 unfold weH.b whG
 simp only [wkh N w sg A B _ hw hA hB hB0 hN]
 generalize wh8 w A B=r at *
 have w1:IntKind.i64.wrap (r.1 + 1)=r.1 + 1:=wd (by omega) (by omega)
 have w2:IntKind.i64.wrap (0 - (r.1 + 1))=-(r.1 + 1):=by rw [wd (by omega) (by omega)]; omega
 have w3:IntKind.i64.wrap (0 - r.1)=-r.1:=by rw [wd (by omega) (by omega)]; omega
 rw [wdP.eq]
 unfold wdP.b
 cases sg <;> cases r.2 <;> simp only [Bool.not_true,Bool.not_false,cond_true,cond_false,w1,w2,w3,if_true,Bool.false_eq_true,if_false,and_self,and_false,and_true,false_and,true_and,Int.add_zero,reduceCtorEq]
theorem wlg {α:Type} (N:Nat) (w:Int) (f:wgh) (k:Bool→Option α) (hN:cap < N):web N w f k=k (decide (w=32∨w=64) && wfz f):=by
 rw [web.eq]
 unfold web.b
 simp only [wfj,wi0 N _ _ hN]
 by_cases hw:w=32∨w=64 <;> simp [hw]
def wc8 (w:Int) (f:wgh):whX×Bool:=(((whr w f false).1,(whr w f true).1,()),(whr w f false).2)
theorem wig {α:Type} (N:Nat) (w:Int) (f:wgh) (k:whX→Bool→Option α) (hN:cap < N):wdg N w f k=k (wc8 w f).1 (wc8 w f).2:=by
 rw [wdg.eq]
 unfold wdg.b wc8
 simp only [wj2 N _ _ _ hN,wkN N _ _ _ hN]
theorem wid {α:Type} (N:Nat) (w:Int) (f:wgh) (k:whX→Bool→Option α) (hN:cap < N):wdh N w f k=k (wc8 w f).1 (wc8 w f).2:=by
 rw [wdh.eq]
 unfold wdh.b wc8 whr
 simp only [wlg N _ _ _ hN]
 by_cases hw:w=32∨w=64
 ·cases hf:wfz f
  ·simp [hw]
  obtain ⟨s,a,b,rfl,ha,hb,hb0,hg,hs⟩:=wgg hf
  simp only [hw,decide_true,Bool.and_self,Bool.not_true,cond_false,wl1 N w s a b _ hw (wn1 ha) (wn1 hb) hb0 hN,and_self,if_true,wcR,Int.toNat_natCast]
 ·simp [hw]
end Go.Proofs.YtnhbcpmmdblkjaaGreatDoorAm
