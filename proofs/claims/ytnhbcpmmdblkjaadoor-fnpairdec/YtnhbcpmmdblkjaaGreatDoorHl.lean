/-
  A fraction lies in the pair of floats around it.
-/
import Derived.Test.YtnhbcpmmdblkjaaGreatDoorCb
import Derived.Test.YtnhbcpmmdblkjaaGreatDoorE
namespace Go.Proofs.YtnhbcpmmdblkjaaGreatDoorAm
open Go
set_option linter.unusedVariables false
set_option linter.unusedSimpArgs false

def vU (w:Int) (n:Nat):Nat:=if n / 2 ^ wB w=0 then n else (n % 2 ^ wB w + 2 ^ wB w) * 2 ^ (n / 2 ^ wB w - 1)
def lB (w:Int):Nat:=(-wb5 w).toNat
theorem wtA (w:Int):wb5 w=-(lB w:Int):=by
 unfold lB wb5; split <;> rfl
theorem wld {w:Int} {e r:Nat} (he:1≤e) (hr:r < 2 ^ wB w):vU w (e * 2 ^ wB w + r)=(r + 2 ^ wB w) * 2 ^ (e - 1):=by
 have hp:0 < 2 ^ wB w:=Nat.pow_pos (by omega)
 have h1:(e * 2 ^ wB w + r) / 2 ^ wB w=e:=by
  rw [Nat.add_comm,Nat.add_mul_div_right _ _ hp,Nat.div_eq_of_lt hr]; omega
 have h2:(e * 2 ^ wB w + r) % 2 ^ wB w=r:=by
  rw [Nat.add_comm,Nat.add_mul_mod_self_right,Nat.mod_eq_of_lt hr]
 unfold vU
 rw [h1,h2,if_neg (by omega)]
theorem wo9 {w:Int} {n:Nat} (h:n < 2 ^ wB w):vU w n=n:=by
 unfold vU; rw [if_pos (Nat.div_eq_of_lt h)]
theorem wrW {w:Int} {q j:Nat} (hq:q < 2 ^ (wB w + 1)) (hc:2 ^ wB w≤q∨j=0) {n:Nat} (hn:n=if 2 ^ wB w≤q then (j + 1) * 2 ^ wB w + (q - 2 ^ wB w) else q) :
  vU w n=q * 2 ^ j∧vU w (n + 1)=(q + 1) * 2 ^ j:=by
 have hp:0 < 2 ^ wB w:=Nat.pow_pos (by omega)
 rw [Nat.pow_succ] at hq
 by_cases h:2 ^ wB w≤q
 ·rw [if_pos h] at hn
  subst hn
  constructor
  ·rw [wld (by omega) (by omega),Nat.add_sub_cancel,Nat.sub_add_cancel h]
  ·by_cases h2:q + 1=2 ^ wB w * 2
   ·have e:(j + 1) * 2 ^ wB w + (q - 2 ^ wB w) + 1=(j + 2) * 2 ^ wB w + 0:=by
     rw [Nat.add_mul j 2,Nat.add_mul j 1]; omega
    rw [e,wld (by omega) hp,show j + 2 - 1=j + 1 by omega,Nat.zero_add,h2,Nat.pow_succ,Nat.mul_assoc,Nat.mul_comm 2]
   ·rw [Nat.add_assoc,wld (by omega) (by omega),Nat.add_sub_cancel,show q - 2 ^ wB w + 1 + 2 ^ wB w=q + 1 by omega]
 ·rw [if_neg h] at hn
  subst hn
  have hj:j=0:=by rcases hc with q' | q'; exact absurd q' h; exact q'
  subst hj
  rw [Nat.pow_zero,Nat.mul_one,Nat.mul_one]
  refine ⟨wo9 (by omega),?_⟩
  by_cases h2:n + 1=2 ^ wB w
  ·have e:n + 1=1 * 2 ^ wB w + 0:=by omega
   rw [e,wld (by omega) hp]; simp
  ·exact wo9 (by omega)
theorem wrP {w:Int} {A B:Nat} {s:Int} (hB:0 < B) (hs:s≤(lB w:Int)):∃ j:Nat,(j:Int)=(lB w:Int) - s∧qS A B s * 2 ^ j * B≤A * 2 ^ lB w∧A * 2 ^ lB w < (qS A B s + 1) * 2 ^ j * B∧(rS A B s=0→A * 2 ^ lB w=qS A B s * 2 ^ j * B):=by
 have hp:∀ i:Nat,0 < 2 ^ i:=fun i=>Nat.pow_pos (by omega)
 refine ⟨((lB w:Int) - s).toNat,by omega,?_⟩
 by_cases h:0≤s
 ·obtain ⟨m,rfl⟩:∃ m:Nat,s=(m:Int):=⟨s.toNat,by omega⟩
  obtain ⟨j,hj⟩:∃ j:Nat,((lB w:Int) - (m:Int)).toNat=j∧lB w=m + j:=⟨_,rfl,by omega⟩
  rw [hj.1,hj.2]
  unfold qS rS
  rw [if_pos h,if_pos h,Int.toNat_natCast,Nat.pow_add,← Nat.mul_assoc]
  have e:=Nat.div_add_mod (A * 2 ^ m) B
  have l:=Nat.mod_lt (A * 2 ^ m) hB
  generalize A * 2 ^ m=X at *
  generalize X / B=q at *
  generalize X % B=r at *
  have hx:X=q * B + r:=by rw [Nat.mul_comm q B]; omega
  refine ⟨?_,?_,fun h0=>?_⟩
  ·rw [Nat.mul_right_comm]; exact Nat.mul_le_mul_right _ (by omega)
  ·rw [Nat.mul_right_comm]
   refine Nat.mul_lt_mul_of_pos_right ?_ (hp j)
   rw [Nat.add_mul]; omega
  ·rw [Nat.mul_right_comm,hx,h0,Nat.add_zero]
 ·obtain ⟨m,rfl⟩:∃ m:Nat,s=-(m:Int):=⟨(-s).toNat,by omega⟩
  have hj:((lB w:Int) - -(m:Int)).toNat=lB w + m:=by omega
  rw [hj]
  unfold qS rS
  rw [if_neg h,if_neg h,show (- -(m:Int)).toNat=m by omega,Nat.pow_add]
  have hBm:=Nat.mul_pos hB (hp m)
  have e:=Nat.div_add_mod A (B * 2 ^ m)
  have l:=Nat.mod_lt A hBm
  generalize A / (B * 2 ^ m)=q at *
  generalize A % (B * 2 ^ m)=r at *
  have ex:∀ y:Nat,y * (2 ^ lB w * 2 ^ m) * B=(B * 2 ^ m * y) * 2 ^ lB w:=fun y=>by
   simp only [Nat.mul_comm,Nat.mul_left_comm,Nat.mul_assoc]
  refine ⟨?_,?_,fun h0=>?_⟩
  ·rw [ex]; exact Nat.mul_le_mul_right _ (by omega)
  ·rw [ex]
   refine Nat.mul_lt_mul_of_pos_right ?_ (hp _)
   rw [Nat.mul_add]; omega
  ·rw [ex]
   have:A=B * 2 ^ m * q:=by omega
   rw [← this]
theorem wqo {w:Int} (hw:w=32∨w=64):∃ G:Nat,1≤G∧2 * wdK w=(G:Int)∧top w=(((G + 1) * 2 ^ wB w:Nat):Int):=by
 rcases hw with rfl | rfl
 ·exact ⟨254,by omega,rfl,rfl⟩
 ·exact ⟨2046,by omega,rfl,rfl⟩
def TrOk (w:Int) (A B:Nat) (t:Int×Bool):Prop:=∃ n:Nat,t.1=(n:Int)∧(n:Int) < top w∧vU w n * B≤A * 2 ^ lB w∧(t.2=true→A * 2 ^ lB w≤vU w n * B)∧((n:Int) + 1 < top w→A * 2 ^ lB w≤vU w (n + 1) * B)
theorem wnp {w:Int} {A B:Nat} {s:Int} (hw:w=32∨w=64) (hB:0 < B) (hs:s≤(lB w:Int)) (hq:qS A B s < 2 ^ (wB w + 1)) (hc:2 ^ wB w≤qS A B s∨s=(lB w:Int)) {ex:Bool} (he:ex=true→rS A B s=0):TrOk w A B (whi w (qS A B s) (-s) ex):=by
 obtain ⟨j,j1,j2,j3,j4⟩:=wrP (w:=w) (A:=A) hB hs
 obtain ⟨G,G1,G2,G3⟩:=wqo hw
 have hl:=wtA w
 have hp:0 < 2 ^ wB w:=Nat.pow_pos (by omega)
 generalize qS A B s=q at *
 have hq2:=hq
 rw [Nat.pow_succ] at hq2
 have hjj:-s - wb5 w + 1=((j + 1:Nat):Int):=by omega
 have V:=fun n hn=>wrW (w:=w) (q:=q) (j:=j) hq (hc.imp id (fun e=>by omega)) (n:=n) hn
 unfold whi
 by_cases h:2 ^ wB w≤q
 ·rw [if_pos h,G2,hjj]
  by_cases ho:(G:Int) < ((j + 1:Nat):Int)
  ·rw [if_pos ho]
   have ht:top w - 1=((G * 2 ^ wB w + (2 ^ wB w - 1):Nat):Int):=by rw [G3,Nat.add_mul]; omega
   refine ⟨G * 2 ^ wB w + (2 ^ wB w - 1),ht,by omega,?_,by simp,fun q'=>by omega⟩
   rw [wld G1 (by omega)]
   have h1:(2 ^ wB w - 1 + 2 ^ wB w) * 2 ^ (G - 1)≤q * 2 ^ j:=by
    have hj:2 ^ (G - 1) * 2≤2 ^ j:=by rw [← Nat.pow_succ]; exact Nat.pow_le_pow_right (by omega) (by omega)
    have h2:(2 ^ wB w - 1 + 2 ^ wB w) * 2 ^ (G - 1)≤(2 ^ wB w * 2) * 2 ^ (G - 1):=Nat.mul_le_mul_right _ (by omega)
    have h3:(2 ^ wB w * 2) * 2 ^ (G - 1)=2 ^ wB w * (2 ^ (G - 1) * 2):=by rw [Nat.mul_assoc,Nat.mul_comm 2]
    have h4:2 ^ wB w * (2 ^ (G - 1) * 2)≤q * 2 ^ j:=Nat.mul_le_mul h hj
    omega
   exact Nat.le_trans (Nat.mul_le_mul_right _ h1) j2
  ·rw [if_neg ho]
   obtain ⟨n,hn⟩:∃ n,n=(j + 1) * 2 ^ wB w + (q - 2 ^ wB w):=⟨_,rfl⟩
   obtain ⟨v1,v2⟩:=V n (by rw [if_pos h]; exact hn)
   have hni:((j + 1:Nat):Int) * ((2 ^ wB w:Nat):Int) + ((q:Int) - ((2 ^ wB w:Nat):Int))=(n:Int):=by
    rw [← Int.natCast_mul,hn]; omega
   have hlt:n < (G + 1) * 2 ^ wB w:=by
    have:(j + 1) * 2 ^ wB w≤G * 2 ^ wB w:=Nat.mul_le_mul_right _ (by omega)
    rw [Nat.add_mul]; omega
   refine ⟨n,hni,by omega,by rw [v1]; exact j2,fun e=>by rw [v1,j4 (he e)]; exact Nat.le_refl _,fun _=>by rw [v2]; exact Nat.le_of_lt j3⟩
 ·rw [if_neg h]
  obtain ⟨v1,v2⟩:=V q (by rw [if_neg h])
  have hlt:q < (G + 1) * 2 ^ wB w:=by
   have:1 * 2 ^ wB w≤(G + 1) * 2 ^ wB w:=Nat.mul_le_mul_right _ (by omega)
   omega
  exact ⟨q,rfl,by omega,by rw [v1]; exact j2,fun e=>by rw [v1,j4 (he e)]; exact Nat.le_refl _,fun _=>by rw [v2]; exact Nat.le_of_lt j3⟩
theorem wrJ {w:Int} {A B:Nat} (hw:w=32∨w=64) (hA:wd2 A≤9600) (hB:wd2 B≤9600) (hB0:B ≠ 0):TrOk w A B (wh8 w A B):=by
 have hBp:=Nat.pos_of_ne_zero hB0
 have ht:1 < top w:=by rcases hw with rfl | rfl <;> simp [top]
 unfold wh8
 by_cases hA0:A=0
 ·rw [if_pos hA0,hA0]
  refine ⟨0,rfl,by omega,?_,fun _=>by simp,fun _=>by simp⟩
  rw [wo9 (Nat.pow_pos (by omega))]; simp
 rw [if_neg hA0]
 obtain ⟨f1,f2,f3,f4⟩:=whT (w:=w) hA0 hB0 hA hB
 have hl:=wtA w
 have hs:wU w A B≤(lB w:Int):=by unfold wU; omega
 rw [hl,Int.neg_neg] at f4
 by_cases h:2 ^ (wB w + 1)≤qS A B (wU w A B)
 ·rw [if_pos h]
  obtain ⟨e1,e2⟩:=wnF (A:=A) hBp (wU w A B)
  have:=wnp (A:=A) (B:=B) (s:=wU w A B - 1) hw hBp (by omega) (by rw [e1]; rw [Nat.pow_succ] at f3; omega) (.inl (by rw [e1]; rw [Nat.pow_succ] at h; omega)) (ex:=decide (rS A B (wU w A B)=0) && decide (qS A B (wU w A B) % 2=0)) (fun q=>e2.2 (by simpa using q))
  rw [e1,show -(wU w A B - 1)=1 - wU w A B by omega] at this
  exact this
 ·rw [if_neg h]
  exact wnp hw hBp hs (by omega) f4 (fun q=>by simpa using q)
theorem wm0 {w:Int} {k:Nat} (hw:w=32∨w=64) (hk:(k:Int) < top w) (o:Int) (ho:o.natAbs=k):vTop w o * 2 ^ lB w=vU w k * vBot w o∧vSgn w o=decide (o < 0):=by
 have ht:=wgi w
 have hb:wiW w o=true∧o ≠ top w∧o ≠ -top w:=by
  refine ⟨?_,by omega,by omega⟩
  unfold wiW
  simp only [hw,decide_true,Bool.true_and,Bool.and_eq_true,decide_eq_true_eq]
  omega
 have hl:=wtA w
 have hpart:weQ w o=if k / 2 ^ wB w=0 then ((decide (o < 0),((k % 2 ^ wB w:Nat):Int),wb5 w,()),true) else ((decide (o < 0),((k % 2 ^ wB w + 2 ^ wB w:Nat):Int),wb5 w + (k / 2 ^ wB w:Nat) - 1,()),true):=by
  unfold weQ
  rw [if_pos hb,ho]
 have main:∀ (m:Nat) (e:Nat),(weQ w o).1.2.1=(m:Int)→(weQ w o).1.2.2.1=wb5 w + (e:Int)→vTop w o * 2 ^ lB w=m * 2 ^ e * vBot w o:=by
  intro m e e1 e2
  unfold vTop vBot
  rw [e1,e2,hl,Int.toNat_natCast]
  by_cases h0:0≤-(lB w:Int) + (e:Int)
  ·rw [if_pos h0,if_pos h0,Nat.mul_one,Nat.mul_assoc,← Nat.pow_add,show (-(lB w:Int) + (e:Int)).toNat + lB w=e by omega]
  ·rw [if_neg h0,if_neg h0,Nat.mul_assoc,← Nat.pow_add,show e + (-(-(lB w:Int) + (e:Int))).toNat=lB w by omega]
 by_cases h:k / 2 ^ wB w=0
 ·rw [if_pos h] at hpart
  have:=main (k % 2 ^ wB w) 0 (by rw [hpart]) (by rw [hpart]; simp)
  refine ⟨?_,by unfold vSgn; rw [hpart]⟩
  rw [this,Nat.pow_zero,Nat.mul_one]
  unfold vU
  rw [if_pos h,Nat.mod_eq_of_lt ((Nat.div_eq_zero_iff_lt (Nat.pow_pos (by omega))).1 h)]
 ·rw [if_neg h] at hpart
  have:=main (k % 2 ^ wB w + 2 ^ wB w) (k / 2 ^ wB w - 1) (by rw [hpart]) (by
   rw [hpart]
   show wb5 w + ((k / 2 ^ wB w:Nat):Int) - 1=wb5 w + ((k / 2 ^ wB w - 1:Nat):Int)
   have:=Nat.pos_of_ne_zero h
   generalize k / 2 ^ wB w=e at *
   omega)
  refine ⟨?_,by unfold vSgn; rw [hpart]⟩
  rw [this]
  unfold vU
  rw [if_neg h]
theorem wpj {V L B A t b:Nat} (h:V * B≤A * 2 ^ L) (e:t * 2 ^ L=V * b):t * B≤A * b:=by
 have hp:0 < 2 ^ L:=Nat.pow_pos (by omega)
 refine Nat.le_of_mul_le_mul_right (c:=2 ^ L) ?_ hp
 have h1:t * B * 2 ^ L=V * B * b:=by rw [Nat.mul_right_comm,e,Nat.mul_right_comm]
 have h2:A * b * 2 ^ L=A * 2 ^ L * b:=Nat.mul_right_comm _ _ _
 rw [h1,h2]
 exact Nat.mul_le_mul_right _ h
theorem wo4 {V L B A t b:Nat} (h:A * 2 ^ L≤V * B) (e:t * 2 ^ L=V * b):A * b≤t * B:=by
 have hp:0 < 2 ^ L:=Nat.pow_pos (by omega)
 refine Nat.le_of_mul_le_mul_right (c:=2 ^ L) ?_ hp
 have h1:t * B * 2 ^ L=V * B * b:=by rw [Nat.mul_right_comm,e,Nat.mul_right_comm]
 have h2:A * b * 2 ^ L=A * 2 ^ L * b:=Nat.mul_right_comm _ _ _
 rw [h1,h2]
 exact Nat.mul_le_mul_right _ h
theorem wmS {x y:Int} (h:x≤y):cmpZ x y≤0:=by
 unfold cmpZ; split
 ·omega
 ·rw [if_neg (by omega)]; omega
theorem wnS {w:Int} {f:wgh} (h:(wc8 w f).2=true):(wc8 w f).1.1≤(wc8 w f).1.2.1∧(wc8 w f).1.2.1 - (wc8 w f).1.1≤1∧wiA w (wc8 w f).1 f=true:=by
 unfold wc8 whr at *
 by_cases hc:¬ ((w=32∨w=64)∧wfz f=true)
 ·rw [if_neg hc] at h; cases h
 have hc:(w=32∨w=64)∧wfz f=true:=Classical.not_not.1 hc
 rw [if_pos hc,if_pos hc]
 obtain ⟨hw,hf⟩:=hc
 obtain ⟨s,a,b,rfl,ha,hb,hb0,hg,hs⟩:=wgg hf
 obtain ⟨n,n1,n2,n3,n4,n5⟩:=wrJ (w:=w) (A:=a) (B:=b) hw (wn1 ha) (wn1 hb) hb0
 have ht:=wgi w
 have ht1:1 < top w:=by rcases hw with rfl | rfl <;> simp [top]
 simp only [wcR,Int.toNat_natCast]
 unfold wiA cmpV wp6
 simp only [wcR,Int.toNat_natCast]
 -- the outer one
 obtain ⟨m,hm,m1,m2,hd⟩:∃ m:Nat,(m:Int)=(n:Int) + (if (wh8 w a b).2=false then 1 else 0)∧(m:Int)≤top w∧((m:Int) < top w→a * 2 ^ lB w≤vU w m * b)∧(m:Int) - (n:Int)≤1∧(n:Int)≤(m:Int):=by
  cases hex:(wh8 w a b).2
  ·exact ⟨n + 1,by simp,by omega,fun q=>n5 (by omega),by omega,by omega⟩
  ·exact ⟨n,by simp,by omega,fun q=>n4 hex,by omega,by omega⟩
 obtain ⟨e1,e2⟩:=wm0 hw n2 (n:Int) (by simp)
 obtain ⟨e3,e4⟩:=wm0 hw n2 (-(n:Int)) (by simp)
 have sg:∀ (x:Nat) (o:Int),vSgn w o=decide (o < 0)→0≤o→sgnd (vSgn w o) x=(x:Int):=fun x o q q2=>by
  rw [q]; unfold sgnd; simp; omega
 have sg2:∀ (k:Nat) (x:Nat),vSgn w (-(k:Int))=decide (-(k:Int) < 0)→(k=0→x=0)→sgnd (vSgn w (-(k:Int))) x=-(x:Int):=fun k x q q2=>by
  rw [q]; unfold sgnd
  by_cases hk:k=0
  ·simp [hk,q2 hk]
  ·simp; omega
 have v0:vU w 0=0:=wo9 (Nat.pow_pos (by omega))
 have vt0:∀ o:Int,vTop w o * 2 ^ lB w=vU w 0 * vBot w o→vTop w o=0:=fun o q=>by
  rw [v0,Nat.zero_mul] at q
  rcases Nat.mul_eq_zero.1 q with q | q
  ·exact q
  ·have:=Nat.pow_pos (n:=lB w) (show 0 < 2 by omega); omega
 cases s
 ·
  have hlo:whG w false a b false=(n:Int):=by unfold whG; rw [n1]; simp
  have hhi:whG w false a b true=(m:Int):=by unfold whG; rw [n1,hm]; simp
  simp only [hlo,hhi]
  refine ⟨hd.2,hd.1,?_⟩
  have hok:wg8 w ((n:Int),(m:Int),())=true:=wnA hw (by omega) (by omega) (by omega) (by omega) hd.2
  simp only [hok,hf,Bool.true_and,Bool.and_eq_true,Bool.or_eq_true,decide_eq_true_eq]
  refine ⟨.inr (wmS ?_),?_⟩
  ·rw [sg _ _ e2 (by omega)]
   show _≤((a * vBot w (n:Int):Nat):Int)
   exact Int.ofNat_le.2 (wpj n3 e1)
  ·by_cases hmt:(m:Int)=top w
   ·exact .inl hmt
   ·obtain ⟨k1,k2⟩:=wm0 hw (k:=m) (by omega) (m:Int) (by simp)
    refine .inr (wmS ?_)
    rw [sg _ _ k2 (by omega)]
    show ((a * vBot w (m:Int):Nat):Int)≤_
    exact Int.ofNat_le.2 (wo4 (m2 (by omega)) k1)
 ·
  have hlo:whG w true a b false=-(m:Int):=by unfold whG; rw [n1,hm]; simp
  have hhi:whG w true a b true=-(n:Int):=by unfold whG; rw [n1]; simp
  simp only [hlo,hhi]
  refine ⟨by omega,by omega,?_⟩
  have hok:wg8 w (-(m:Int),-(n:Int),())=true:=wnA hw (by omega) (by omega) (by omega) (by omega) (by omega)
  simp only [hok,hf,Bool.true_and,Bool.and_eq_true,Bool.or_eq_true,decide_eq_true_eq]
  refine ⟨?_,.inr (wmS ?_)⟩
  ·by_cases hmt:(m:Int)=top w
   ·exact .inl (by omega)
   ·obtain ⟨k1,k2⟩:=wm0 hw (k:=m) (by omega) (-(m:Int)) (by simp)
    refine .inr (wmS ?_)
    rw [sg2 m _ k2 (fun q=>by subst q; rw [vt0 _ k1]; simp)]
    show _≤-((a * vBot w (-(m:Int)):Nat):Int)
    have:=Int.ofNat_le.2 (wo4 (m2 (by omega)) k1)
    omega
  ·rw [sg2 n _ e4 (fun q=>by subst q; rw [vt0 _ e3]; simp)]
   show -((a * vBot w (-(n:Int)):Nat):Int)≤_
   have:=Int.ofNat_le.2 (wpj n3 e3)
   omega
end Go.Proofs.YtnhbcpmmdblkjaaGreatDoorAm
