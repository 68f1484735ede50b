/-
  Literals and points: the readers; the drawn law.
-/
import Derived.Test.YtnhbcpmmdblkjaaGreatDoorHi
import Derived.Test.YtnhbcpmmdblkjaaGreatDoorHl
import Derived.Test.YtnhbcpmmdblkjaaGreatDoorY
import Derived.Test.YtnhbcpmmdblkjaaGreatDoorE
namespace Go.Proofs.YtnhbcpmmdblkjaaGreatDoorAm
open Go
set_option linter.unusedVariables false
set_option linter.unusedSimpArgs false

theorem wpt {α:Type} (N:Nat) (f g:wgh) (hN:cap < N):∃ (a b:Bool) (u v:List Int),∀ k:Bool→Bool→List Int→List Int→Option α,wee N f g k=k a b u v:=by
 rw [wee.eq]
 unfold wee.b
 simp only [wg2 N _ _ hN]
 cases h1:wfz f
 ·exact ⟨false,false,[],[],fun k=>by simp⟩
 cases h2:wfz g
 ·exact ⟨false,false,[],[],fun k=>by simp⟩
 obtain ⟨s,a,b,rfl,ha,hb,hb0,_,_⟩:=wgg h1
 obtain ⟨t,c,d,rfl,hc,hd,hd0,_,_⟩:=wgg h2
 have had:=mulc ha hd
 have hcb:=mulc hc hb
 have hbd:=mulc hb hd
 have hbd0:b * d ≠ 0:=Nat.mul_ne_zero hb0 hd0
 have hsum:(sum4 s (a * d) t (c * b)).2 < cap0:=by
  obtain ⟨E,hE⟩:∃ E,E=600:=⟨_,rfl⟩
  have h1:=wk5 ha hd
  have h2:=wk5 hc hb
  obtain ⟨M,hM⟩:∃ M,M=256 + 256:=⟨_,rfl⟩
  rw [← hM] at h1 h2
  have h3:65536 ^ M + 65536 ^ M≤65536 ^ (M + 1):=by rw [Nat.pow_succ]; omega
  refine wh9 (k:=M + 1) ?_ (by omega)
  unfold sum4
  split
  ·simp only; omega
  ·split <;> (simp only; omega)
 simp only [Bool.not_true,cond_false,wmO N s t a b c d _ (cap2 ha) (cap2 hb) (cap2 hc) (cap2 hd) (wfg had) (wfg hcb) hN,wfQ N _ _ _ _ hsum hbd hbd0 hN]
 exact ⟨_,_,_,_,fun k=>rfl⟩
theorem wpK {α:Type} (N:Nat) (f g:wgh) (hN:cap < N):∃ (a b:Bool) (u v:List Int),∀ k:Bool→Bool→List Int→List Int→Option α,wed N f g k=k a b u v:=by
 rw [wed.eq]
 unfold wed.b
 simp only [wg2 N _ _ hN]
 cases h1:wfz f
 ·exact ⟨false,false,[],[],fun k=>by simp⟩
 cases h2:wfz g
 ·exact ⟨false,false,[],[],fun k=>by simp⟩
 obtain ⟨s,a,b,rfl,ha,hb,hb0,_,_⟩:=wgg h1
 obtain ⟨t,c,d,rfl,hc,hd,hd0,_,_⟩:=wgg h2
 have hac:=mulc ha hc
 have hbd:=mulc hb hd
 have hbd0:b * d ≠ 0:=Nat.mul_ne_zero hb0 hd0
 simp only [Bool.not_true,cond_false,wen N _ _ _ (cap2 ha) (cap2 hc) hN,wen N _ _ _ (cap2 hb) (cap2 hd) hN,wfQ N _ _ _ _ hac hbd hbd0 hN]
 exact ⟨_,_,_,_,fun k=>rfl⟩
theorem wrL {α:Type} (N:Nat) (n:Int) (s:RdD) (x y:Bool) (u v p q:List Int) (c:Nat) (h:RdOk c s) (hc:c≤100000) (hN:cap < N):∃ (s':RdD) (x' y':Bool) (u' v' p' q':List Int),RdOk (c + 100) s'∧∀ k:RdD→Bool→Bool→List Int→List Int→List Int→List Int→Option α,wb4 N n s x y u v p q k=k s' x' y' u' v' p' q':=by
 rw [wb4.eq]
 unfold wb4.b
 by_cases h3:n=3
 ·obtain ⟨r,s1,e1,q1,r0,r1⟩:=wfi N 1200 s c h (by omega)
  have r1:=r1 (by omega)
  obtain ⟨i,rfl⟩:∃ i:Nat,r=i:=⟨r.toNat,by omega⟩
  obtain ⟨a,b,z,t,e2⟩:=wpK (α:=α) N (y,(p,(q,()))) (false,(digs (2 ^ i),([(1:Int)],()))) hN
  simp only [h3,decide_true,cond_true,e1,wfN N i _ (by omega) hN,e2]
  rw [wcr.eq]
  unfold wcr.b
  cases b
  ·exact ⟨_,_,_,_,_,_,_,q1.mono (by omega),fun k=>rfl⟩
  ·exact ⟨_,_,_,_,_,_,_,q1.mono (by omega),fun k=>rfl⟩
 ·simp only [h3,decide_false,cond_false]
  exact ⟨_,_,_,_,_,_,_,h.mono (by omega),fun k=>rfl⟩
theorem wrk {α:Type} (N:Nat) (z:Bool) (s:RdD) (x y t:Bool) (u v p q a b:List Int) (c:Nat) (h:RdOk c s) (hc:c≤100000) (hN:cap < N):∃ (s':RdD) (x' y':Bool) (u' v' p' q':List Int),RdOk (c + 100) s'∧∀ k:RdD→Bool→Bool→List Int→List Int→List Int→List Int→Option α,wb0 N z s x y t u v p q a b k=k s' x' y' u' v' p' q':=by
 rw [wb0.eq]
 unfold wb0.b
 cases z
 ·exact ⟨_,_,_,_,_,_,_,h.mono (by omega),fun k=>rfl⟩
 ·obtain ⟨r,s1,e1,q1,r0,r1⟩:=wfi N 30 s c h (by omega)
  obtain ⟨r2,s2,e2,q2,r20,r21⟩:=wfi N 200 s1 (c + 1) q1 (by omega)
  have r21:=r21 (by omega)
  obtain ⟨i,rfl⟩:∃ i:Nat,r2=i:=⟨r2.toNat,by omega⟩
  simp only [cond_true,e1,e2,wfN N i _ (by omega) hN,wi7 N _ _ _ _ hN]
  generalize wlS false [IntKind.i64.wrap ((1:Int) + IntKind.i64.wrap ((2:Int) * r))] (digs (2 ^ i))=fo
  obtain ⟨a',b',z',t',e3⟩:=wpt (α:=α) N (t,(a,(b,()))) (fo.1,(fo.2.2.1,(fo.2.2.2,()))) hN
  simp only [e3]
  rw [wcw.eq]
  unfold wcw.b
  cases b'
  ·exact ⟨_,_,_,_,_,_,_,q2.mono (by omega),fun k=>rfl⟩
  ·exact ⟨_,_,_,_,_,_,_,q2.mono (by omega),fun k=>rfl⟩
theorem wr0 {α:Type} (N:Nat) (n:Int) (s:RdD) (x y:Bool) (u v p q:List Int) (c:Nat) (h:RdOk c s) (hc:c≤90000) (hN:cap < N):∃ (s':RdD) (x' y':Bool) (u' v' p' q':List Int),RdOk (c + 200) s'∧∀ k:RdD→Bool→Bool→List Int→List Int→List Int→List Int→Option α,wb2 N n s x y u v p q k=k s' x' y' u' v' p' q':=by
 have hNN:=wfU hN
 rw [wb2.eq]
 unfold wb2.b
 by_cases h3:n=2
 ·obtain ⟨o,s1,e1,q1,_,_⟩:=wq1 N 32 s c h (by omega) (by omega)
  simp only [h3,decide_true,cond_true,e1,wgW N _ _ _ hN]
  obtain ⟨s',x',y',u',v',p',q',z1,z2⟩:=wrk (α:=α) N (wf9 32 o).2.1 s1 x y (wf9 32 o).1 u v p q (wf9 32 o).2.2.1 (wf9 32 o).2.2.2 (c + 12) q1 (by omega) hN
  exact ⟨s',x',y',u',v',p',q',z1.mono (by omega),fun k=>z2 _⟩
 ·obtain ⟨s',x',y',u',v',p',q',z1,z2⟩:=wrL (α:=α) N n s x y u v p q c h (by omega) hN
  simp only [h3,decide_false,cond_false]
  exact ⟨s',x',y',u',v',p',q',z1.mono (by omega),fun k=>z2 _⟩
theorem wsS {α:Type} (N:Nat) (n:Int) (s:RdD) (x y:Bool) (u v p q:List Int) (c:Nat) (h:RdOk c s) (hc:c≤80000) (hN:cap < N):∃ (s':RdD) (x' y':Bool) (u' v' p' q':List Int),RdOk (c + 300) s'∧∀ k:RdD→Bool→Bool→List Int→List Int→List Int→List Int→Option α,wcp N n s x y u v p q k=k s' x' y' u' v' p' q':=by
 have hNN:=wfU hN
 rw [wcp.eq]
 unfold wcp.b
 by_cases h3:n=1
 ·obtain ⟨o,s1,e1,q1,_,_⟩:=wq1 N 64 s c h (by omega) (by omega)
  simp only [h3,decide_true,cond_true,e1,wgW N _ _ _ hN]
  rw [wcv.eq]
  unfold wcv.b
  cases (wf9 64 o).2.1
  ·exact ⟨_,_,_,_,_,_,_,q1.mono (by omega),fun k=>rfl⟩
  ·exact ⟨_,_,_,_,_,_,_,q1.mono (by omega),fun k=>rfl⟩
 ·obtain ⟨s',x',y',u',v',p',q',z1,z2⟩:=wr0 (α:=α) N n s x y u v p q c h (by omega) hN
  simp only [h3,decide_false,cond_false]
  exact ⟨s',x',y',u',v',p',q',z1.mono (by omega),fun k=>z2 _⟩
theorem wtt {α:Type} (N:Nat) (n:Int) (s:RdD) (x y:Bool) (u v p q:List Int) (c:Nat) (h:RdOk c s) (hc:c≤70000) (hN:cap < N):∃ (s':RdD) (x' y':Bool) (u' v' p' q':List Int),RdOk (c + 400) s'∧∀ k:RdD→Bool→Bool→List Int→List Int→List Int→List Int→Option α,wck N n s x y u v p q k=k s' x' y' u' v' p' q':=by
 have hNN:=wfU hN
 rw [wck.eq]
 unfold wck.b
 by_cases h3:n=0
 ·obtain ⟨o,s1,e1,q1,_,_⟩:=wq1 N 32 s c h (by omega) (by omega)
  simp only [h3,decide_true,cond_true,e1,wgW N _ _ _ hN]
  rw [wcJ.eq]
  unfold wcJ.b
  cases (wf9 32 o).2.1
  ·exact ⟨_,_,_,_,_,_,_,q1.mono (by omega),fun k=>rfl⟩
  ·exact ⟨_,_,_,_,_,_,_,q1.mono (by omega),fun k=>rfl⟩
 ·obtain ⟨s',x',y',u',v',p',q',z1,z2⟩:=wsS (α:=α) N n s x y u v p q c h (by omega) hN
  simp only [h3,decide_false,cond_false]
  exact ⟨s',x',y',u',v',p',q',z1.mono (by omega),fun k=>z2 _⟩
theorem wqO {α:Type} (N:Nat) (s:RdD) (c:Nat) (h:RdOk c s) (hc:c≤50000) (hN:cap < N):∃ (b:Bool) (s':RdD) (u v:List Int),∀ k:Bool→RdD→List Int→List Int→Option α,wdb N s k=k b s' u v:=by
 have hNN:=wfU hN
 obtain ⟨n,s1,e1,q1,n0,n1⟩:=wfi N 2000 s c h (by omega)
 have n1:=n1 (by omega)
 obtain ⟨i,rfl⟩:∃ i:Nat,n=i:=⟨n.toNat,by omega⟩
 obtain ⟨r,s2,e2,q2,_,_⟩:=wfi N 6 s1 (c + 1) q1 (by omega)
 obtain ⟨t,s3,e3,q3,_,_⟩:=wfi N 2 s2 (c + 2) q2 (by omega)
 obtain ⟨m,s4,e4,q4,_,_⟩:=wfi N 50 s3 (c + 3) q3 (by omega)
 have w1:IntKind.u64.wrap (i:Int)=(i:Int):=wd0 (by omega) (by omega)
 rw [wdb.eq]
 unfold wdb.b
 simp only [e1,e2,e3,w1,wfm N i _ (show i < 18446744073709551616 by omega) hN,e4,wi7 N _ _ _ _ hN]
 generalize wlS (decide (t=0)) (digs i) [IntKind.i64.wrap ((1:Int) + m)]=fo
 obtain ⟨s5,x',y',u',v',p',q',z1,z2⟩:=wtt (α:=α) N r s4 false fo.1 [] [] fo.2.2.1 fo.2.2.2 (c + 4) q4 (by omega) hN
 simp only [z2,wcu.eq]
 unfold wcu.b
 obtain ⟨g,s6,e6,q6,_,_⟩:=wfi N 40 s5 _ z1 (by omega)
 simp only [e6]
 by_cases hg:g=0
 ·simp only [hg,decide_true,cond_true]
  exact ⟨_,_,_,_,fun k=>rfl⟩
 ·simp only [hg,decide_false,cond_false]
  exact ⟨_,_,_,_,fun k=>rfl⟩
theorem wkY {α:Type} (N:Nat) (a:List Int) (ha:∀ x ∈ a,0≤x∧x≤255) (hN:cap < N):∃ (w:Int) (b:Bool) (u v:List Int),∀ k:Int→Bool→List Int→List Int→Option α,wcf N a k=k w b u v:=by
 obtain ⟨s,e,q⟩:=wqR N a ha
 obtain ⟨w,s1,e1,q1⟩:=woH N s 0 q (by omega)
 obtain ⟨b,s2,u,v,e2⟩:=wqO (α:=α) N s1 2 q1 (by omega) hN
 refine ⟨w,b,u,v,fun k=>?_⟩
 rw [wcf.eq]
 unfold wcf.b
 rw [wez.eq]
 unfold wez.b
 simp only [e,e1,e2]
theorem whW (l:List Int):(whL l).size≤1280:=by
 unfold whL
 split
 ·rename_i h
  obtain ⟨a,ha,rfl⟩:=wgs h
  rw [weh,wcR,Int.toNat_natCast]
  by_cases h0:a=0
  ·subst h0; rw [wly (show 0 < 10 by omega)]; simp
  ·have:=wqH ha
   unfold txt at this; rwa [if_neg h0] at this
 ·simp
theorem wiT (a b:ByteArray):(a++b).size=a.size + b.size:=by simp [ByteArray.size_append]
theorem wuE {α:Type} (N:Nat) (x:ByteArray) (s:RdD) (c:Nat) (h:RdOk c s) (hc:c≤100000) (hx:x.size≤2000) (hN:cap < N):∃ (y:ByteArray) (s':RdD),y.size≤2000∧RdOk (c + 700) s'∧∀ k:ByteArray→RdD→Option α,wby N x s k=k y s':=by
 obtain ⟨r,s1,e1,q1,_,_⟩:=wdD N 8 s c h (by omega)
 rw [wby.eq]
 unfold wby.b
 by_cases hr:r=0
 ·obtain ⟨a,s2,e2,ha,q2⟩:=wuv (α:=α) N s1 (c + 1) q1 (by omega) hN
  have:=whW (digs a)
  refine ⟨whL (digs a),s2,by omega,q2.mono (by omega),fun k=>?_⟩
  simp only [e1,hr,decide_true,cond_true,e2,whC N _ _ hN]
 ·refine ⟨x,s1,hx,q1.mono (by omega),fun k=>?_⟩
  simp only [e1,hr,decide_false,cond_false]
theorem wtU {α : Type} (N n : Nat) (hn : n ≤ 60) : ∀ (d i f : Nat) (x : ByteArray) (s : RdD) (c : Nat), i + d = n → d < f → RdOk c s → c + d ≤ 200000 → x.size ≤ 3000 + i →
    ∃ (y : ByteArray) (s' : RdD), y.size ≤ 3000 + n ∧ RdOk (c + d) s' ∧ ∀ k : ByteArray → RdD → Option α, wD N f x (n : Int) (i : Int) s k = k y s' := by
  intro d
  induction d with
  | zero =>
    intro i f x s c h hf hs hc hx
    obtain ⟨f, rfl⟩ : ∃ m, f = m + 1 := ⟨f - 1, by omega⟩
    refine ⟨x, s, by omega, hs, fun k => ?_⟩
    rw [wD.succ]
    unfold weB
    simp only [wcx (show ¬ i < n by omega), cond_false]
  | succ d ih =>
    intro i f x s c h hf hs hc hx
    obtain ⟨f, rfl⟩ : ∃ m, f = m + 1 := ⟨f - 1, by omega⟩
    obtain ⟨r, s1, e1, q1, _, _⟩ := wdD N 10 s c hs (by omega)
    obtain ⟨z, hz⟩ : ∃ z, z = whd [IntKind.u8.wrap (IntKind.i64.wrap ((48 : Int) + r))] := ⟨_, rfl⟩
    have hzs : z.size = 1 := by rw [hz, wmf, weh]; rfl
    obtain ⟨y, s', h1, h2, h3⟩ := ih (i + 1) f (x ++ z) s1 (c + 1) (by omega) (by omega) q1 (by omega) (by rw [wiT]; omega)
    refine ⟨y, s', h1, h2.mono (by omega), fun k => ?_⟩
    rw [wD.succ]
    unfold weB
    simp only [wc1 (show i < n by omega), cond_true, e1, ← hz, hzs, show x.size + 1 ≤ 9223372036854775807 by omega, decide_true, wdW (show i < 4611686018427387904 by omega)]
    exact h3 k
theorem wuO {α:Type} (N:Nat) (x:ByteArray) (s:RdD) (c:Nat) (h:RdOk c s) (hc:c≤100000) (hx:x.size≤2000) (hN:cap < N):∃ (y:ByteArray) (s':RdD),y.size≤4000∧RdOk (c + 700) s'∧∀ k:ByteArray→RdD→Option α,wbv N x s k=k y s':=by
 have hNN:=wfU hN
 obtain ⟨r,s1,e1,q1,_,_⟩:=wdD N 2 s c h (by omega)
 rw [wbv.eq]
 unfold wbv.b
 by_cases hr:r=0
 ·have h1:(⟨#[46]⟩:ByteArray).size=1:=rfl
  obtain ⟨t,s2,e2,q2,t0,t1⟩:=wdD N 5 s1 (c + 1) q1 (by omega)
  have t1:=t1 (by omega)
  obtain ⟨n,s3,hn,q3,e3⟩:∃ (n:Nat) (s3:RdD),n≤60∧RdOk (c + 10) s3∧∀ k:ByteArray→Int→RdD→Option α,wbx N (x++(⟨#[46]⟩:ByteArray)) (IntKind.i64.wrap ((1:Int) + t)) s2 k=k (x++(⟨#[46]⟩:ByteArray)) (n:Int) s3:=by
   obtain ⟨g,s3,e3,q3,_,_⟩:=wdD N 10 s2 (c + 2) q2 (by omega)
   rw [wbx.eq]
   unfold wbx.b
   by_cases hg:g=0
   ·obtain ⟨m,s4,e4,q4,m0,m1⟩:=wdD N 50 s3 (c + 3) q3 (by omega)
    have m1:=m1 (by omega)
    obtain ⟨n,rfl⟩:∃ n:Nat,m=n:=⟨m.toNat,by omega⟩
    exact ⟨n,s4,by omega,q4.mono (by omega),fun k=>by simp only [e3,hg,decide_true,cond_true,e4]⟩
   ·have w:IntKind.i64.wrap ((1:Int) + t)=(((1 + t).toNat:Nat):Int):=by rw [wd (by omega) (by omega)]; omega
    exact ⟨(1 + t).toNat,s3,by omega,q3.mono (by omega),fun k=>by simp only [e3,hg,decide_false,cond_false,w]⟩
  obtain ⟨y,s4,y1,q4,e4⟩:=wtU (α:=α) N n hn n 0 N (x++(⟨#[46]⟩:ByteArray)) s3 (c + 10) (by omega) (by omega) q3 (by omega) (by rw [wiT,h1]; omega)
  simp only [Int.natCast_zero] at e4
  refine ⟨y,s4,by omega,q4.mono (by omega),fun k=>?_⟩
  simp only [e1,hr,decide_true,cond_true,h1,show x.size + 1≤9223372036854775807 by omega,e2,e3]
  exact e4 _
 ·refine ⟨x,s1,by omega,q1.mono (by omega),fun k=>?_⟩
  simp only [e1,hr,decide_false,cond_false]
theorem wnc {β:Type} (l:List β) (r:Int) (h0:0≤r) (h:r < (l.length:Int)):∃ z ∈ l,l[r.toNat]?=some z∧(¬ r < 0)∧r.toNat < l.length:=by
 have hi:r.toNat < l.length:=by omega
 exact ⟨l[r.toNat],List.getElem_mem hi,List.getElem?_eq_getElem hi,by omega,hi⟩
theorem wtk {α:Type} (N:Nat) (x:ByteArray) (s:RdD) (c:Nat) (h:RdOk c s) (hc:c≤100000) (hx:x.size≤4000) (hN:cap < N):∃ (y:ByteArray) (s':RdD),y.size≤6000∧RdOk (c + 10) s'∧∀ k:ByteArray→RdD→Option α,wbj N x s k=k y s':=by
 obtain ⟨r,s1,e1,q1,_,_⟩:=wdD N 3 s c h (by omega)
 rw [wbj.eq]
 unfold wbj.b
 by_cases hr:r=0
 ·obtain ⟨t,s2,e2,q2,t0,t1⟩:=wdD N 2 s1 (c + 1) q1 (by omega)
  have t1:=t1 (by omega)
  obtain ⟨m,s3,e3,q3,m0,m1⟩:=wdD N 8 s2 (c + 2) q2 (by omega)
  have m1:=m1 (by omega)
  obtain ⟨l1,hl1⟩:∃ l1,l1=[(⟨#[101]⟩:ByteArray),(⟨#[101,45]⟩:ByteArray)]:=⟨_,rfl⟩
  obtain ⟨l2,hl2⟩:∃ l2,l2=[(0:Int),(1:Int),(5:Int),(30:Int),(399:Int),(400:Int),(401:Int),(1000:Int)]:=⟨_,rfl⟩
  obtain ⟨z,z1,z2,z3,z4⟩:=wnc l1 t t0 (by rw [hl1]; simp; omega)
  obtain ⟨g,g1,g2,g3,g4⟩:=wnc l2 m m0 (by rw [hl2]; simp; omega)
  have hz:z.size≤2:=by
   rw [hl1] at z1
   simp only [List.mem_cons,List.not_mem_nil,or_false] at z1
   rcases z1 with rfl | rfl <;> decide
  obtain ⟨i,rfl,hi⟩:∃ i:Nat,g=(i:Int)∧i≤1000:=by
   rw [hl2] at g1
   simp only [List.mem_cons,List.not_mem_nil,or_false] at g1
   exact ⟨g.toNat,by omega,by omega⟩
  have w:IntKind.u64.wrap (i:Int)=(i:Int):=wd0 (by omega) (by omega)
  have hnt:=whW (digs i)
  have hxz:(x++z).size=x.size + z.size:=wiT x z
  refine ⟨(x++z)++whL (digs i),s3,by rw [wiT]; omega,q3.mono (by omega),fun k=>?_⟩
  simp only [e1,hr,decide_true,cond_true,← hl1,← hl2,e2,z2,z3,z4,decide_false,cond_false,show x.size + z.size≤9223372036854775807 by omega,e3,g2,g3,g4,w,wfm N i _ (show i < 18446744073709551616 by omega) hN,whC N _ _ hN,show (x++z).size + (whL (digs i)).size≤9223372036854775807 by omega]
 ·refine ⟨x,s1,by omega,q1.mono (by omega),fun k=>?_⟩
  simp only [e1,hr,decide_false,cond_false]
theorem wsH {α:Type} (N:Nat) (x:ByteArray) (r:Int) (s:RdD) (c:Nat) (h:RdOk c s) (hc:c≤100000) (hx:x.size≤6000):∃ (y:ByteArray) (s':RdD),y.size≤7000∧∀ k:ByteArray→RdD→Option α,wbl N x r s k=k y s':=by
 rw [wbl.eq]
 unfold wbl.b
 by_cases hr:r=2
 ·obtain ⟨t,s2,e2,q2,t0,t1⟩:=wdD N 8 s c h (by omega)
  have t1:=t1 (by omega)
  obtain ⟨l1,hl1⟩:∃ l1,l1=[ByteArray.empty,(⟨#[46,53]⟩:ByteArray),(⟨#[49,46]⟩:ByteArray),(⟨#[45,49]⟩:ByteArray),(⟨#[49,101]⟩:ByteArray),(⟨#[49,46,101,53]⟩:ByteArray),(⟨#[101,53]⟩:ByteArray),(⟨#[49,46,46,50]⟩:ByteArray)]:=⟨_,rfl⟩
  obtain ⟨z,z1,z2,z3,z4⟩:=wnc l1 t t0 (by rw [hl1]; simp; omega)
  have hz:z.size≤10:=by
   rw [hl1] at z1
   simp only [List.mem_cons,List.not_mem_nil,or_false] at z1
   rcases z1 with rfl | rfl | rfl | rfl | rfl | rfl | rfl | rfl <;> decide
  refine ⟨z,s2,by omega,fun k=>?_⟩
  simp only [hr,decide_true,cond_true,← hl1,e2,z2,z3,z4,decide_false,cond_false]
 ·refine ⟨x,s,by omega,fun k=>?_⟩
  simp only [hr,decide_false,cond_false]
theorem wsx {α:Type} (N:Nat) (x:ByteArray) (r:Int) (s:RdD) (c:Nat) (h:RdOk c s) (hc:c≤100000) (hx:x.size≤6000):∃ (y:ByteArray) (s':RdD),y.size≤7000∧∀ k:ByteArray→RdD→Option α,wbh N x r s k=k y s':=by
 rw [wbh.eq]
 unfold wbh.b
 by_cases h0:r=0
 ·have h1:(⟨#[48]⟩:ByteArray).size=1:=rfl
  refine ⟨(⟨#[48]⟩:ByteArray)++x,s,by rw [wiT,h1]; omega,fun k=>?_⟩
  simp only [h0,decide_true,cond_true,h1,show 1 + x.size≤9223372036854775807 by omega]
 simp only [h0,decide_false,cond_false]
 rw [wbz.eq]
 unfold wbz.b
 by_cases hr:r=1
 ·obtain ⟨t,s2,e2,q2,t0,t1⟩:=wdD N 8 s c h (by omega)
  have t1:=t1 (by omega)
  obtain ⟨l1,hl1⟩:∃ l1,l1=[(⟨#[46]⟩:ByteArray),(⟨#[101]⟩:ByteArray),(⟨#[120]⟩:ByteArray),(⟨#[32]⟩:ByteArray),(⟨#[46,53]⟩:ByteArray),(⟨#[101,43,49]⟩:ByteArray),(⟨#[101,45,48]⟩:ByteArray),(⟨#[101,48,53]⟩:ByteArray)]:=⟨_,rfl⟩
  obtain ⟨z,z1,z2,z3,z4⟩:=wnc l1 t t0 (by rw [hl1]; simp; omega)
  have hz:z.size≤10:=by
   rw [hl1] at z1
   simp only [List.mem_cons,List.not_mem_nil,or_false] at z1
   rcases z1 with rfl | rfl | rfl | rfl | rfl | rfl | rfl | rfl <;> decide
  refine ⟨x++z,s2,by rw [wiT]; omega,fun k=>?_⟩
  simp only [hr,decide_true,cond_true,← hl1,e2,z2,z3,z4,decide_false,cond_false,show x.size + z.size≤9223372036854775807 by omega]
 ·obtain ⟨y,s',y1,y2⟩:=wsH (α:=α) N x r s c h hc hx
  refine ⟨y,s',y1,fun k=>?_⟩
  simp only [hr,decide_false,cond_false]
  exact y2 _
theorem wpL {α:Type} (N:Nat) (s:RdD) (c:Nat) (h:RdOk c s) (hc:c≤1000) (hN:cap < N):∃ (y:ByteArray) (s':RdD),y.size≤7000∧∀ k:ByteArray→RdD→Option α,wcn N s k=k y s':=by
 obtain ⟨n,s1,e1,q1,n0,n1⟩:=wdD N 2000 s c h (by omega)
 have n1:=n1 (by omega)
 obtain ⟨i,rfl⟩:∃ i:Nat,n=i:=⟨n.toNat,by omega⟩
 have w:IntKind.u64.wrap (i:Int)=(i:Int):=wd0 (by omega) (by omega)
 have hnt:=whW (digs i)
 obtain ⟨y2,s2,b2,q2,e2⟩:=wuE (α:=α) N (whL (digs i)) s1 (c + 1) q1 (by omega) (by omega) hN
 obtain ⟨y3,s3,b3,q3,e3⟩:=wuO (α:=α) N y2 s2 (c + 1 + 700) q2 (by omega) b2 hN
 obtain ⟨y4,s4,b4,q4,e4⟩:=wtk (α:=α) N y3 s3 (c + 1 + 700 + 700) q3 (by omega) b3 hN
 obtain ⟨r,s5,e5,q5,_,_⟩:=wdD N 20 s4 (c + 1 + 700 + 700 + 10) q4 (by omega)
 obtain ⟨y6,s6,b6,e6⟩:=wsx (α:=α) N y4 r s5 _ q5 (by omega) b4
 refine ⟨y6,s6,b6,fun k=>?_⟩
 rw [wcn.eq]
 unfold wcn.b
 simp only [e1,w,wfm N i _ (show i < 18446744073709551616 by omega) hN,whC N _ _ hN,e2,e3,e4,e5]
 exact e6 _
theorem wl2 {α:Type} (N:Nat) (a:List Int) (ha:∀ x ∈ a,0≤x∧x≤255) (hN:cap < N):∃ (w:Int) (s:List UInt8),s.length≤7000∧∀ k:Int→ByteArray→Option α,wcT N a k=k w (BA s):=by
 obtain ⟨s,e,q⟩:=wqR N a ha
 obtain ⟨t,e',q'⟩:=wqa N a ha
 obtain ⟨w,s1,e1,q1⟩:=woH N s 0 q (by omega)
 obtain ⟨y,s2,h2,e2⟩:=wpL (α:=α) N t 0 q' (by omega) hN
 obtain ⟨l,rfl⟩:=wu2 y
 refine ⟨w,l,by rwa [weh] at h2,fun k=>?_⟩
 rw [wcT.eq]
 unfold wcT.b
 simp only [e,e',e1,e2]
theorem pure_FnPairDec (x0:List Int) (x1:List Int) (z0:wfD (.sl (.int .u8)) x0) (z1:wfD (.sl (.int .u8)) x1):∃ N,laws_FnPairDec N x0 x1 some=some true:=by
 refine ⟨cap + 1,?_⟩
 have hN:cap < cap + 1:=by omega
 generalize cap + 1=N at *
 rw [laws_FnPairDec.eq]
 unfold laws_FnPairDec.b
 by_cases h0:(1048576:Int) < ((x0.length:Nat):Int)
 ·simp [h0]
 by_cases h1:(1048576:Int) < ((x1.length:Nat):Int)
 ·simp [h0,h1]
 simp only [h0,h1,decide_false,cond_false]
 obtain ⟨w,s,hs,e⟩:=wl2 (α:=Bool) N x0 (wpr z0) hN
 obtain ⟨w2,b2,u2,v2,e2⟩:=wkY (α:=Bool) N x1 (wpr z1) hN
 simp only [e,wkI N w s _ hN,wk3 N w s _ (show s.length≤2000000 by omega) hN]
 have half:∀ (w:Int) (f:wgh),(wc8 w f).2=true→(¬ (wc8 w f).1.2.1 < (wc8 w f).1.1)∧(¬ (1:Int) < IntKind.i64.wrap ((wc8 w f).1.2.1 - (wc8 w f).1.1))∧wiA w (wc8 w f).1 f=true:=by
  intro w f h
  obtain ⟨a,b,c⟩:=wnS h
  exact ⟨by omega,by rw [wd (by omega) (by omega)]; omega,c⟩
 have J8:∀ (ok:Bool) (p:whX) (k0:Bool→Option Bool) (k1:List Int→Option Bool),(ok=true→p=(wc8 w ((wdU s).1,((wdU s).2.2.1,((wdU s).2.2.2,())))).1∧(wc8 w ((wdU s).1,((wdU s).2.2.1,((wdU s).2.2.2,())))).2=true) →
   wcE N x1 w (BA s) ok p k0 k1=k1 x1:=by
  intro ok p k0 k1 h
  rw [wcE.eq]
  unfold wcE.b
  cases ok
  ·rfl
  ·obtain ⟨rfl,h2⟩:=h rfl
   obtain ⟨a,b,c⟩:=half _ _ h2
   simp only [cond_true,wip N s _ hN,a,b,decide_false,cond_false,whq N _ _ _ _ hN,c,Bool.not_true]
 have rest:wcf N x1 (fun x3225 x3226 x3227 x3228 =>
   wdh N x3225 (x3226,(x3227,(x3228,()))) (fun x3229 x3230 =>
    wdg N x3225 (x3226,(x3227,(x3228,()))) (fun _ x3232 =>
     bif !(x3230 == x3232) then some false else bif !x3230 then some true else bif decide (x3229.2.1 < x3229.1) then some false else bif decide ((1:Int) < IntKind.i64.wrap (x3229.2.1 - x3229.1)) then some false else
      wds N x3225 x3229 (x3226,(x3227,(x3228,()))) (fun x3238=>bif !x3238 then some false else
       wdV N x3225 ([x3229,x3229],()) [(x3226,(x3227,(x3228,()))),(x3226,(x3227,(x3228,())))] (fun x3289=>bif x3289 then
        wdV N x3225 ([x3229,x3229],()) [(x3226,(x3227,(x3228,())))] (fun x3291=>some (!x3291)) else some false)))))=some true:=by
  rw [e2]
  simp only [wid N _ _ _ hN,wig N _ _ _ hN,beq_self_eq_true,Bool.not_true,cond_false]
  cases hok:(wc8 w2 (b2,(u2,(v2,())))).2
  ·rfl
  ·obtain ⟨a,b,c⟩:=half _ _ hok
   have hp:wg8 w2 (wc8 w2 (b2,(u2,(v2,())))).1=true:=by
    unfold wiA at c
    simp only [Bool.and_eq_true] at c
    exact c.1.1.1
   have hbox:wnw w2 [(wc8 w2 (b2,(u2,(v2,())))).1,(wc8 w2 (b2,(u2,(v2,())))).1]=true:=by
    unfold wnw
    simp [hp]
   have b1:wml w2 [(wc8 w2 (b2,(u2,(v2,())))).1,(wc8 w2 (b2,(u2,(v2,())))).1] [(b2,(u2,(v2,()))),(b2,(u2,(v2,())))]=true:=by
    unfold wml
    simp [hbox,wlN,c]
   have b2':wml w2 [(wc8 w2 (b2,(u2,(v2,())))).1,(wc8 w2 (b2,(u2,(v2,())))).1] [(b2,(u2,(v2,())))]=false:=by
    unfold wml
    simp
   simp only [Bool.not_true,cond_false,a,b,decide_false,whq N _ _ _ _ hN,c,wl8 N _ _ _ _ hN,b1,b2',cond_true,Bool.not_false]
 by_cases hd:(wdU s).2.1=true
 ·simp only [if_pos hd,beq_self_eq_true,Bool.not_true,cond_false]
  rw [J8 _ _ _ _ (fun h=>⟨rfl,h⟩)]
  exact rest
 ·simp only [if_neg hd,beq_self_eq_true,Bool.not_true,cond_false]
  rw [J8 _ _ _ _ (fun h=>by cases h)]
  exact rest
end Go.Proofs.YtnhbcpmmdblkjaaGreatDoorAm
