/-
  The readers of codes: they come to an end, and what they tell lies where it may.
-/
import Derived.Test.YtnhbcpmmdblkjaaGreatDoorB
namespace Go.Proofs.YtnhbcpmmdblkjaaGreatDoorAm
open Go
set_option linter.unusedVariables false
set_option linter.unusedSimpArgs false

abbrev RdD:=List Int×Int×Unit
def RdOk (c:Nat) (s:RdD):Prop:=(∀ x ∈ s.1,0≤x∧x≤255)∧0≤s.2.1∧s.2.1≤c
theorem RdOk.mono {c d:Nat} {s:RdD} (h:RdOk c s) (hd:c≤d):RdOk d s:=⟨h.1,h.2.1,by have:=h.2.2; omega⟩
theorem wh0 {x n:Int} (hx:0≤x) (hn:1≤n):0≤x.tmod n∧x.tmod n < n:=by
 rw [Int.tmod_eq_emod_of_nonneg hx]
 exact ⟨Int.emod_nonneg _ (by omega),Int.emod_lt_of_pos _ (by omega)⟩
theorem wmi {x y:Int} (hx:0≤x) (hx2:x < 9223372036854775808) (hy:0≤y) (hy2:y < 9223372036854775808):0≤bitI .xor .i64 x y:=by
 obtain ⟨a,rfl⟩:∃ a:Nat,x=a:=⟨x.toNat,by omega⟩
 obtain ⟨b,rfl⟩:∃ b:Nat,y=b:=⟨y.toNat,by omega⟩
 change 0≤IntKind.i64.wrap ((BitVec.ofInt 64 (a:Int) ^^^ BitVec.ofInt 64 (b:Int)).toNat:Int)
 have h1:(BitVec.ofInt 64 (a:Int) ^^^ BitVec.ofInt 64 (b:Int)).toNat=a ^^^ b:=by
  rw [BitVec.toNat_xor,BitVec.ofInt_natCast,BitVec.ofInt_natCast,BitVec.toNat_ofNat,BitVec.toNat_ofNat,Nat.mod_eq_of_lt (by omega),Nat.mod_eq_of_lt (by omega)]
 have h2:a ^^^ b < 2 ^ 63:=Nat.xor_lt_two_pow (by omega) (by omega)
 rw [h1,wd (by omega) (by omega)]
 omega
theorem wfi (N:Nat) (n:Int) (s:RdD) (c:Nat) (h:RdOk c s) (hc:c≤1000000):∃ r s',(∀ {α:Type} (k:Int→RdD→Option α),wt N n s k=k r s')∧RdOk (c + 1) s'∧0≤r∧(1≤n→r < n):=by
 obtain ⟨hb,hp0,hp1⟩:=h
 obtain ⟨b,p,u⟩:=s
 simp only at hb hp0 hp1
 have hw:IntKind.i64.wrap (p + 1)=p + 1:=wd (by omega) (by omega)
 have hw1:IntKind.i64.wrap (p + 1 - 1)=p:=by rw [wd (by omega) (by omega)]; omega
 have hok:RdOk (c + 1) (b,(p + 1,())):=⟨hb,by simp; omega,by simp; omega⟩
 by_cases hn:n < 1
 ·refine ⟨0,_,fun k=>?_,hok,by omega,by omega⟩
  rw [wt.eq]
  unfold wt.b
  simp only [hw,hn,decide_true,cond_true]
 have hn0:¬ n=0:=by omega
 by_cases hl:b.length=0
 ·refine ⟨0,_,fun k=>?_,hok,by omega,by omega⟩
  rw [wt.eq]
  unfold wt.b
  have:((b.length:Nat):Int)=0:=by omega
  simp only [hw,hn,decide_false,cond_false,this,decide_true,cond_true]
 have hl0:¬ ((b.length:Nat):Int)=0:=by omega
 have hp:¬ p < 0:=by omega
 by_cases hlt:p < (b.length:Int)
 ·have hi:p.toNat < b.length:=by omega
  have hby:=hb b[p.toNat] (List.getElem_mem hi)
  have hwb:IntKind.i64.wrap b[p.toNat]=b[p.toNat]:=wd (by omega) (by omega)
  obtain ⟨t1,t2⟩:=wh0 (x:=b[p.toNat]) (n:=n) (by omega) (by omega)
  refine ⟨(b[p.toNat]).tmod n,_,fun k=>?_,hok,t1,fun _=>t2⟩
  rw [wt.eq]
  unfold wt.b
  simp only [hw,hw1,hn,hn0,hl0,hlt,hp,decide_false,decide_true,cond_false,cond_true,List.getElem?_eq_getElem hi,hwb]
 ·obtain ⟨m1,m2⟩:=wh0 (x:=p) (n:=(b.length:Int)) hp0 (by omega)
  have hw3:IntKind.i64.wrap (IntKind.i64.wrap (p * 7) + 3)=p * 7 + 3:=by
   rw [wd (x:=p * 7) (by omega) (by omega),wd (by omega) (by omega)]
  obtain ⟨m3,m4⟩:=wh0 (x:=p * 7 + 3) (n:=(b.length:Int)) (by omega) (by omega)
  have hi:(p.tmod (b.length:Int)).toNat < b.length:=by omega
  have hj:((p * 7 + 3).tmod (b.length:Int)).toNat < b.length:=by omega
  have hm1:¬ p.tmod (b.length:Int) < 0:=by omega
  have hm3:¬ (p * 7 + 3).tmod (b.length:Int) < 0:=by omega
  have hx:=hb _ (List.getElem_mem hi)
  have hy:=hb _ (List.getElem_mem hj)
  have hdiv0:0≤p.tdiv (b.length:Int)∧p.tdiv (b.length:Int)≤p:=by
   rw [Int.tdiv_eq_ediv_of_nonneg hp0]
   exact ⟨Int.ediv_nonneg hp0 (by omega),Int.ediv_le_self _ hp0⟩
  generalize hxg:b[(p.tmod (b.length:Int)).toNat]=x at hx
  generalize hyg:b[((p * 7 + 3).tmod (b.length:Int)).toNat]=y at hy
  generalize hqg:p.tdiv (b.length:Int)=q at hdiv0
  have hv:IntKind.i64.wrap (IntKind.i64.wrap (IntKind.i64.wrap (IntKind.i64.wrap (IntKind.i64.wrap x * 131) + IntKind.i64.wrap (IntKind.i64.wrap y * 1117)) + IntKind.i64.wrap (p * 29)) + IntKind.i64.wrap (IntKind.i64.wrap q * 53))=x * 131 + y * 1117 + p * 29 + q * 53:=by
   rw [wd (x:=x) (by omega) (by omega),wd (x:=y) (by omega) (by omega),wd (x:=q) (by omega) (by omega),wd (x:=x * 131) (by omega) (by omega),wd (x:=y * 1117) (by omega) (by omega),wd (x:=p * 29) (by omega) (by omega),
    wd (x:=q * 53) (by omega) (by omega),wd (x:=x * 131 + y * 1117) (by omega) (by omega),wd (x:=x * 131 + y * 1117 + p * 29) (by omega) (by omega),wd (by omega) (by omega)]
  have hv0:0≤x * 131 + y * 1117 + p * 29 + q * 53∧x * 131 + y * 1117 + p * 29 + q * 53 < 9223372036854775808:=by omega
  generalize x * 131 + y * 1117 + p * 29 + q * 53=v at hv hv0
  have hd:IntKind.i64.wrap (v.tdiv 64)=v / 64:=by
   rw [Int.tdiv_eq_ediv_of_nonneg hv0.1,wd (by omega) (by omega)]
  have hz:=wmi (x:=v) (y:=v / 64) hv0.1 hv0.2 (by omega) (by omega)
  obtain ⟨t1,t2⟩:=wh0 (x:=bitI .xor .i64 v (v / 64)) (n:=n) hz (by omega)
  refine ⟨(bitI .xor .i64 v (v / 64)).tmod n,_,fun k=>?_,hok,t1,fun _=>t2⟩
  rw [wt.eq]
  unfold wt.b
  simp only [hw,hw1,hw3,hn,hn0,hl0,hlt,hm1,hm3,decide_false,decide_true,cond_false,cond_true,List.getElem?_eq_getElem hi,List.getElem?_eq_getElem hj,hxg,hyg,hqg,hv,hd]
theorem wrE (N : Nat) : ∀ (d n : Nat) (x : Int) (s : RdD) (c : Nat), d ≤ 8 → d < n → RdOk c s → c + d ≤ 1000000 → 0 ≤ x → x < 18446744073709551616 →
    ∃ r s', (∀ {α : Type} (k : Int → RdD → Option α), wR N n x ((8 - d : Nat) : Int) s k = k r s') ∧ RdOk (c + d) s' ∧ 0 ≤ r ∧ r < 18446744073709551616 := by
  intro d
  induction d with
  | zero =>
    intro n x s c hd hn h hc h0 h1
    obtain ⟨m, rfl⟩ : ∃ m, n = m + 1 := ⟨n - 1, by omega⟩
    refine ⟨x, s, fun k => ?_, h, h0, h1⟩
    rw [wR.succ]
    unfold wfo
    simp
  | succ d ih =>
    intro n x s c hd hn h hc h0 h1
    obtain ⟨m, rfl⟩ : ∃ m, n = m + 1 := ⟨n - 1, by omega⟩
    obtain ⟨r, s1, e1, h2, h3, h4⟩ := wfi N 256 s c h (by omega)
    have h4 := h4 (by omega)
    have hb : 0 ≤ IntKind.u64.wrap (IntKind.u64.wrap (x * 256) + IntKind.u64.wrap r) ∧ IntKind.u64.wrap (IntKind.u64.wrap (x * 256) + IntKind.u64.wrap r) < 18446744073709551616 := by
      simp only [u64w]; omega
    obtain ⟨r2, s2, e2, k1, k2, k3⟩ := ih m _ s1 (c + 1) (by omega) (by omega) h2 (by omega) hb.1 hb.2
    refine ⟨r2, s2, fun k => ?_, k1.mono (by omega), k2, k3⟩
    rw [wR.succ]
    unfold wfo
    have hlt : (((8 - (d + 1) : Nat) : Int) < 8) := by omega
    have hw : IntKind.i64.wrap (((8 - (d + 1) : Nat) : Int) + 1) = ((8 - d : Nat) : Int) := by rw [wd (by omega) (by omega)]; omega
    simp only [hlt, decide_true, cond_true, e1, hw]
    exact e2 k
theorem wtX (N:Nat) (s:RdD) (c:Nat) (h:RdOk c s) (hc:c≤999000) (hN:1048576 < N):∃ r s',(∀ {α:Type} (k:Int→RdD→Option α),wdp N s k=k r s')∧RdOk (c + 8) s'∧0≤r∧r < 18446744073709551616:=by
 obtain ⟨r,s',e,h1,h2,h3⟩:=wrE N 8 N 0 s c (by omega) (by omega) h (by omega) (by omega) (by omega)
 refine ⟨r,s',fun k=>?_,h1,h2,h3⟩
 rw [wdp.eq]
 unfold wdp.b
 exact e _
theorem wr9 {x:Int} (k:Nat) (hx:0≤x) (hk:k≤63) (hb:x * 2 ^ k≤9223372036854775807):shlI .i64 x (k:Int)=x * 2 ^ k:=by
 unfold shlI
 rw [Int.toNat_natCast,show (IntKind.i64).bits=64 from rfl,Nat.min_eq_left (by omega)]
 have:0≤x * 2 ^ k:=Int.mul_nonneg hx (Int.le_of_lt (Int.pow_pos (by omega)))
 exact wd (by omega) hb
def OrdV (t v:Int):Prop:=-6≤v∧v≤9223372036854775807
theorem wtg (N:Nat) (t a:Int) (s:RdD) (c:Nat) (h:RdOk c s) (hc:c≤900000) (hN:1048576 < N) (ht0:0≤t) (ht:t≤9218868437227405312) :
  ∃ v s',(∀ {α:Type} (k:Int→Int→RdD→Option α),wbg N t a s k=k t v s')∧RdOk (c + 8) s'∧OrdV t v:=by
 by_cases h1:a=4
 ·obtain ⟨r,s1,e1,h2,h3,h4⟩:=wfi N 1048576 s c h (by omega)
  have h4:=h4 (by omega)
  refine ⟨r,s1,fun k=>?_,h2.mono (by omega),by unfold OrdV; omega⟩
  rw [wbg.eq]
  unfold wbg.b
  simp only [h1,decide_true,cond_true,e1]
 ·obtain ⟨r,s1,e1,h2,h3,h4⟩:=wtX N s c h (by omega) hN
  have hs:shrI .u64 r 1=r / 2:=by
   unfold shrI
   rw [show (min (1:Int).toNat (IntKind.u64).bits)=1 from rfl]
   rw [Int.fdiv_eq_ediv_of_nonneg _ (by omega)]
   rfl
  have hw:IntKind.i64.wrap (r / 2)=r / 2:=wd (by omega) (by omega)
  by_cases h5:0 < t
  ·have hw2:IntKind.i64.wrap (t + 1)=t + 1:=wd (by omega) (by omega)
   have hne:¬ t + 1=0:=by omega
   obtain ⟨m1,m2⟩:=wh0 (x:=r / 2) (n:=t + 1) (by omega) (by omega)
   refine ⟨(r / 2).tmod (t + 1),s1,fun k=>?_,h2,by unfold OrdV; omega⟩
   rw [wbg.eq]
   unfold wbg.b
   simp only [h1,decide_false,cond_false,e1,hs,hw]
   rw [wci.eq]
   unfold wci.b
   simp only [h5,decide_true,cond_true,hw2,hne,decide_false,cond_false]
  ·refine ⟨r / 2,s1,fun k=>?_,h2,by unfold OrdV; omega⟩
   rw [wbg.eq]
   unfold wbg.b
   simp only [h1,decide_false,cond_false,e1,hs,hw]
   rw [wci.eq]
   unfold wci.b
   simp only [h5,decide_false,cond_false]
theorem wtD (N:Nat) (w t v:Int) (s:RdD) (c:Nat) (h:RdOk c s) (hc:c≤900000) (hv:OrdV t v) :
  ∃ v' s',(∀ {α:Type} (k:Int→Int→RdD→Option α),wbr N w t v s k=k t v' s')∧RdOk (c + 2) s'∧OrdV t v':=by
 by_cases h1:w=32
 ·obtain ⟨r,s1,e1,h2,h3,h4⟩:=wfi N 256 s c h (by omega)
  have h4:=h4 (by omega)
  obtain ⟨r2,s2,e2,g2,g3,g4⟩:=wfi N 4 s1 (c + 1) h2 (by omega)
  have g4:=g4 (by omega)
  have hs:shlI .i64 r 23=r * 8388608:=wr9 23 h3 (by omega) (by omega)
  refine ⟨r * 8388608 + r2 - 1,s2,fun k=>?_,g2,by unfold OrdV; omega⟩
  rw [wbr.eq]
  unfold wbr.b
  simp only [h1,decide_true,cond_true,e1,e2,hs]
  rw [wd (x:=r * 8388608 + r2) (by omega) (by omega),wd (by omega) (by omega)]
 ·refine ⟨v,s,fun k=>?_,h.mono (by omega),hv⟩
  rw [wbr.eq]
  unfold wbr.b
  simp only [h1,decide_false,cond_false]
theorem wul (N:Nat) (w t a:Int) (s:RdD) (c:Nat) (h:RdOk c s) (hc:c≤800000) (hN:1048576 < N) (ht0:0≤t) (ht:t≤9218868437227405312) :
  ∃ v s',(∀ {α:Type} (k:Int→Int→RdD→Option α),wbi N w t a s k=k t v s')∧RdOk (c + 8) s'∧OrdV t v:=by
 by_cases h1:a=1
 ·obtain ⟨r,s1,e1,h2,h3,h4⟩:=wfi N 6 s c h (by omega)
  have h4:=h4 (by omega)
  refine ⟨t - r,s1,fun k=>?_,h2.mono (by omega),by unfold OrdV; omega⟩
  rw [wbi.eq]
  unfold wbi.b
  simp only [h1,decide_true,cond_true,e1]
  rw [wd (by omega) (by omega)]
 have big:∀ {α:Type} (k:Int→Int→RdD→Option α),(a=2∨a=3)→wbi N w t a s k=wt N 2048 s (fun x244 x245 =>
       let x246:=(shlI .i64 x244 (52:Int))
       wt N (4:Int) x245
        (fun x247 x248 =>
         let x249:=IntKind.i64.wrap (x246 + x247)
         let x250:=(IntKind.i64.wrap (x249 - (1:Int)))
         wbr N w t x250 x248 (fun a b c=>k a b c))):=by
  intro α k ha
  rw [wbi.eq]
  unfold wbi.b
  rw [wbZ.eq]
  unfold wbZ.b
  rcases ha with rfl | rfl <;> simp
 by_cases h2:a=2∨a=3
 ·obtain ⟨r,s1,e1,g1,g2,g3⟩:=wfi N 2048 s c h (by omega)
  have g3:=g3 (by omega)
  obtain ⟨r2,s2,e2,k1,k2,k3⟩:=wfi N 4 s1 (c + 1) g1 (by omega)
  have k3:=k3 (by omega)
  have hs:shlI .i64 r 52=r * 4503599627370496:=wr9 52 g2 (by omega) (by omega)
  have hv:OrdV t (r * 4503599627370496 + r2 - 1):=by unfold OrdV; omega
  obtain ⟨v,s3,e3,l1,l2⟩:=wtD N w t _ s2 (c + 1 + 1) k1 (by omega) hv
  refine ⟨v,s3,fun k=>?_,l1.mono (by omega),l2⟩
  rw [big k h2,e1]
  simp only [hs]
  rw [e2]
  rw [wd (x:=r * 4503599627370496 + r2) (by omega) (by omega),wd (by omega) (by omega),e3]
 ·obtain ⟨v,s3,e3,l1,l2⟩:=wtg N t a s c h (by omega) hN ht0 ht
  refine ⟨v,s3,fun k=>?_,l1,l2⟩
  rw [wbi.eq]
  unfold wbi.b
  rw [wbZ.eq]
  unfold wbZ.b
  have h3:¬ a=2:=fun h=>h2 (.inl h)
  have h4:¬ a=3:=fun h=>h2 (.inr h)
  simp only [h1,h3,h4,decide_false,cond_false,e3]
theorem wur (N:Nat) (w t a:Int) (s:RdD) (c:Nat) (h:RdOk c s) (hc:c≤700000) (hN:1048576 < N) (ht0:0≤t) (ht:t≤9218868437227405312) :
  ∃ v s',(∀ {α:Type} (k:Int→Int→RdD→Option α),wb1 N w t a s k=k t v s')∧RdOk (c + 8) s'∧OrdV t v:=by
 by_cases h1:a=0
 ·obtain ⟨r,s1,e1,h2,h3,h4⟩:=wfi N 6 s c h (by omega)
  have h4:=h4 (by omega)
  refine ⟨r,s1,fun k=>?_,h2.mono (by omega),by unfold OrdV; omega⟩
  rw [wb1.eq]
  unfold wb1.b
  simp only [h1,decide_true,cond_true,e1]
 ·obtain ⟨v,s3,e3,l1,l2⟩:=wul N w t a s c h (by omega) hN ht0 ht
  refine ⟨v,s3,fun k=>?_,l1,l2⟩
  rw [wb1.eq]
  unfold wb1.b
  simp only [h1,decide_false,cond_false,e3]
theorem wsJ (N:Nat) (t v:Int) (s:RdD) (c:Nat) (h:RdOk c s) (hc:c≤700000) (hv:OrdV t v) (ht0:0≤t) (ht:t≤9218868437227405312) :
  ∃ v' s',(∀ {α:Type} (k:Int→RdD→Option α),wbQ N t v s k=k v' s')∧RdOk (c + 2) s'∧-6≤v'∧v'≤t + 3:=by
 unfold OrdV at hv
 obtain ⟨r,s1,e1,h2,h3,h4⟩:=wfi N 40 s c h (by omega)
 by_cases h0:r=0
 ·obtain ⟨r2,s2,e2,g2,g3,g4⟩:=wfi N 3 s1 (c + 1) h2 (by omega)
  have g4:=g4 (by omega)
  refine ⟨t + 1 + r2,s2,fun k=>?_,g2,by omega,by omega⟩
  rw [wbQ.eq]
  unfold wbQ.b
  rw [e1]
  simp only [h0,decide_true,cond_true,e2]
  rw [wd (x:=t + 1) (by omega) (by omega),wd (by omega) (by omega)]
 ·refine ⟨if t < v then t else v,s1,fun k=>?_,h2.mono (by omega),by split <;> omega,by split <;> omega⟩
  rw [wbQ.eq]
  unfold wbQ.b
  rw [e1]
  simp only [h0,decide_false,cond_false]
  rw [wcI.eq]
  unfold wcI.b
  by_cases h5:t < v <;> simp [h5]
theorem wq1 (N:Nat) (w:Int) (s:RdD) (c:Nat) (h:RdOk c s) (hc:c≤600000) (hN:1048576 < N) :
  ∃ v s',(∀ {α:Type} (k:Int→RdD→Option α),wcB N w s k=k v s')∧RdOk (c + 12) s'∧-(top w + 6)≤v∧v≤top w + 6:=by
 have ht:=wgi w
 obtain ⟨r,s1,e1,h2,h3,h4⟩:=wfi N 10 s c h (by omega)
 obtain ⟨v2,s2,e2,g2,g3⟩:=wur N w (top w) r s1 (c + 1) h2 (by omega) hN ht.1 ht.2
 obtain ⟨v3,s3,e3,k2,k3,k4⟩:=wsJ N (top w) v2 s2 (c + 1 + 8) g2 (by omega) g3 ht.1 ht.2
 obtain ⟨r4,s4,e4,l2,l3,l4⟩:=wfi N 2 s3 (c + 1 + 8 + 2) k2 (by omega)
 by_cases h0:r4=0
 ·refine ⟨-v3,s4,fun k=>?_,l2.mono (by omega),by omega,by omega⟩
  rw [wcB.eq]
  unfold wcB.b
  simp only [wgt,e1,e2,e3,e4,h0,decide_true,cond_true]
  rw [wd (by omega) (by omega),Int.zero_sub]
 ·refine ⟨v3,s4,fun k=>?_,l2.mono (by omega),by omega,by omega⟩
  rw [wcB.eq]
  unfold wcB.b
  simp only [wgt,e1,e2,e3,e4,h0,decide_false,cond_false]
theorem wqR (N:Nat) (a:List Int) (ha:∀ x ∈ a,0≤x∧x≤255):∃ s',(∀ {α:Type} (k:RdD→Option α),wdt N a k=k s')∧RdOk 0 s':=by
 by_cases h:2000 < a.length
 ·refine ⟨(a.take 2000,0,()),fun k=>?_,⟨fun x hx=>ha x (List.mem_of_mem_take hx),by simp,by simp⟩⟩
  rw [wdt.eq]
  unfold wdt.b
  rw [wcU.eq]
  unfold wcU.b
  have h1:(2000:Int) < ((a.length:Nat):Int):=by omega
  have h2:(2000:Int)≤((a.length:Nat):Int):=by omega
  simp only [h1,h2,decide_true,cond_true]
 ·refine ⟨(a,0,()),fun k=>?_,⟨ha,by simp,by simp⟩⟩
  rw [wdt.eq]
  unfold wdt.b
  rw [wcU.eq]
  unfold wcU.b
  have h1:¬ (2000:Int) < ((a.length:Nat):Int):=by omega
  simp only [h1,decide_false,cond_false]
end Go.Proofs.YtnhbcpmmdblkjaaGreatDoorAm
