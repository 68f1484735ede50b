/-
  The readers of naturals and fractions: they come to an end, and what they tell is good.
-/
import Derived.Test.YtnhbcpmmdblkjaaGreatDoorE
import Derived.Test.YtnhbcpmmdblkjaaGreatDoorT
namespace Go.Proofs.YtnhbcpmmdblkjaaGreatDoorAm
open Go
set_option linter.unusedVariables false
set_option linter.unusedSimpArgs false

theorem wdD (N:Nat) (n:Int) (s:RdD) (c:Nat) (h:RdOk c s) (hc:c≤1000000):∃ r s',(∀ {α:Type} (k:Int→RdD→Option α),wu N n s k=k r s')∧RdOk (c + 1) s'∧0≤r∧(1≤n→r < n):=by
 obtain ⟨hb,hp0,hp1⟩:=h
 obtain ⟨b,p,u⟩:=s
 simp only at hb hp0 hp1
 have hw:IntKind.i64.wrap (p + 1)=p + 1:=wd (by omega) (by omega)
 have hw1:IntKind.i64.wrap (p + 1 - 1)=p:=by rw [wd (by omega) (by omega)]; omega
 have hok:RdOk (c + 1) (b,(p + 1,())):=⟨hb,by simp; omega,by simp; omega⟩
 by_cases hn:n < 1
 ·refine ⟨0,_,fun k=>?_,hok,by omega,by omega⟩
  rw [wu.eq]
  unfold wu.b
  simp only [hw,hn,decide_true,cond_true]
 have hn0:¬ n=0:=by omega
 by_cases hl:b.length=0
 ·refine ⟨0,_,fun k=>?_,hok,by omega,by omega⟩
  rw [wu.eq]
  unfold wu.b
  have:((b.length:Nat):Int)=0:=by omega
  simp only [hw,hn,decide_false,cond_false,this,decide_true,cond_true]
 have hl0:¬ ((b.length:Nat):Int)=0:=by omega
 have hp:¬ p < 0:=by omega
 by_cases hlt:p < (b.length:Int)
 ·have hi:p.toNat < b.length:=by omega
  have hby:=hb b[p.toNat] (List.getElem_mem hi)
  have hwb:IntKind.i64.wrap b[p.toNat]=b[p.toNat]:=wd (by omega) (by omega)
  obtain ⟨t1,t2⟩:=wh0 (x:=b[p.toNat]) (n:=n) (by omega) (by omega)
  refine ⟨(b[p.toNat]).tmod n,_,fun k=>?_,hok,t1,fun _=>t2⟩
  rw [wu.eq]
  unfold wu.b
  simp only [hw,hw1,hn,hn0,hl0,hlt,hp,decide_false,decide_true,cond_false,cond_true,List.getElem?_eq_getElem hi,hwb]
 ·obtain ⟨m1,m2⟩:=wh0 (x:=p) (n:=(b.length:Int)) hp0 (by omega)
  have hw3:IntKind.i64.wrap (IntKind.i64.wrap (p * 7) + 3)=p * 7 + 3:=by
   rw [wd (x:=p * 7) (by omega) (by omega),wd (by omega) (by omega)]
  obtain ⟨m3,m4⟩:=wh0 (x:=p * 7 + 3) (n:=(b.length:Int)) (by omega) (by omega)
  have hi:(p.tmod (b.length:Int)).toNat < b.length:=by omega
  have hj:((p * 7 + 3).tmod (b.length:Int)).toNat < b.length:=by omega
  have hm1:¬ p.tmod (b.length:Int) < 0:=by omega
  have hm3:¬ (p * 7 + 3).tmod (b.length:Int) < 0:=by omega
  have hx:=hb _ (List.getElem_mem hi)
  have hy:=hb _ (List.getElem_mem hj)
  have hdiv0:0≤p.tdiv (b.length:Int)∧p.tdiv (b.length:Int)≤p:=by
   rw [Int.tdiv_eq_ediv_of_nonneg hp0]
   exact ⟨Int.ediv_nonneg hp0 (by omega),Int.ediv_le_self _ hp0⟩
  generalize hxg:b[(p.tmod (b.length:Int)).toNat]=x at hx
  generalize hyg:b[((p * 7 + 3).tmod (b.length:Int)).toNat]=y at hy
  generalize hqg:p.tdiv (b.length:Int)=q at hdiv0
  have hv:IntKind.i64.wrap (IntKind.i64.wrap (IntKind.i64.wrap (IntKind.i64.wrap (IntKind.i64.wrap x * 131) + IntKind.i64.wrap (IntKind.i64.wrap y * 1117)) + IntKind.i64.wrap (p * 29)) + IntKind.i64.wrap (IntKind.i64.wrap q * 53))=x * 131 + y * 1117 + p * 29 + q * 53:=by
   rw [wd (x:=x) (by omega) (by omega),wd (x:=y) (by omega) (by omega),wd (x:=q) (by omega) (by omega),wd (x:=x * 131) (by omega) (by omega),wd (x:=y * 1117) (by omega) (by omega),wd (x:=p * 29) (by omega) (by omega),
    wd (x:=q * 53) (by omega) (by omega),wd (x:=x * 131 + y * 1117) (by omega) (by omega),wd (x:=x * 131 + y * 1117 + p * 29) (by omega) (by omega),wd (by omega) (by omega)]
  have hv0:0≤x * 131 + y * 1117 + p * 29 + q * 53∧x * 131 + y * 1117 + p * 29 + q * 53 < 9223372036854775808:=by omega
  generalize x * 131 + y * 1117 + p * 29 + q * 53=v at hv hv0
  have hd:IntKind.i64.wrap (v.tdiv 64)=v / 64:=by
   rw [Int.tdiv_eq_ediv_of_nonneg hv0.1,wd (by omega) (by omega)]
  have hz:=wmi (x:=v) (y:=v / 64) hv0.1 hv0.2 (by omega) (by omega)
  obtain ⟨t1,t2⟩:=wh0 (x:=bitI .xor .i64 v (v / 64)) (n:=n) hz (by omega)
  refine ⟨(bitI .xor .i64 v (v / 64)).tmod n,_,fun k=>?_,hok,t1,fun _=>t2⟩
  rw [wu.eq]
  unfold wu.b
  simp only [hw,hw1,hw3,hn,hn0,hl0,hlt,hm1,hm3,decide_false,decide_true,cond_false,cond_true,List.getElem?_eq_getElem hi,List.getElem?_eq_getElem hj,hxg,hyg,hqg,hv,hd]
theorem wqa (N:Nat) (a:List Int) (ha:∀ x ∈ a,0≤x∧x≤255):∃ s',(∀ {α:Type} (k:RdD→Option α),wdG N a k=k s')∧RdOk 0 s':=by
 by_cases h:2000 < a.length
 ·refine ⟨(a.take 2000,0,()),fun k=>?_,⟨fun x hx=>ha x (List.mem_of_mem_take hx),by simp,by simp⟩⟩
  rw [wdG.eq]
  unfold wdG.b
  rw [wcY.eq]
  unfold wcY.b
  have h1:(2000:Int) < ((a.length:Nat):Int):=by omega
  have h2:(2000:Int)≤((a.length:Nat):Int):=by omega
  simp only [h1,h2,decide_true,cond_true]
 ·refine ⟨(a,0,()),fun k=>?_,⟨ha,by simp,by simp⟩⟩
  rw [wdG.eq]
  unfold wdG.b
  rw [wcY.eq]
  unfold wcY.b
  have h1:¬ (2000:Int) < ((a.length:Nat):Int):=by omega
  simp only [h1,decide_false,cond_false]
theorem wuC {α:Type} (N:Nat) (v m:Int) (s:RdD) (c:Nat) (h:RdOk c s) (hc:c≤900000) (v0:0≤v) (v1:v < 4) (hN:cap < N) :
  (∃ (n:Nat) (s':RdD),(∀ (k:Int→RdD→Option α) (k1:RdD→List Int→Option α),wQ N v m s k k1=k (n:Int) s')∧n≤256∧RdOk (c + 2) s')∨(∃ (x:Nat) (s':RdD),(∀ (k:Int→RdD→Option α) (k1:RdD→List Int→Option α),wQ N v m s k k1=k1 s' (digs x))∧x < 65536∧RdOk (c + 2) s'):=by
 by_cases h0:m=0
 ·left
  obtain ⟨r,s',e,ho,r0,r1⟩:=wdD N 24 s c h (by omega)
  have r1:=r1 (by omega)
  refine ⟨r.toNat,s',fun k k1=>?_,by omega,ho.mono (by omega)⟩
  rw [wQ.eq]
  unfold wQ.b
  simp only [h0,decide_true,cond_true,e,Int.toNat_of_nonneg r0]
 by_cases h1:m=1
 ·left
  obtain ⟨r,s1,e,ho,r0,r1⟩:=wdD N 6 s c h (by omega)
  obtain ⟨r2,s2,e2,ho2,r20,r21⟩:=wdD N 3 s1 (c + 1) ho (by omega)
  have r21:=r21 (by omega)
  by_cases hr:r=0
  ·refine ⟨(256 - r2).toNat,s2,fun k k1=>?_,by omega,ho2.mono (by omega)⟩
   have w:IntKind.i64.wrap (256 - r2)=((256 - r2).toNat:Int):=by rw [wd (by omega) (by omega)]; omega
   rw [wQ.eq]
   unfold wQ.b
   simp only [wbk.eq]
   unfold wbk.b
   simp only [wce.eq]
   unfold wce.b
   simp only [h0,h1,decide_true,decide_false,cond_true,cond_false,e,hr,e2,w]
   rfl
  ·refine ⟨v.toNat,s1,fun k k1=>?_,by omega,ho.mono (by omega)⟩
   rw [wQ.eq]
   unfold wQ.b
   simp only [wbk.eq]
   unfold wbk.b
   simp only [wce.eq]
   unfold wce.b
   simp only [h0,h1,decide_true,decide_false,cond_true,cond_false,e,hr,Int.toNat_of_nonneg v0]
   rfl
 by_cases h2:m=2
 ·right
  obtain ⟨r,s1,e,ho,r0,r1⟩:=wdD N 12 s c h (by omega)
  have r1:=r1 (by omega)
  refine ⟨r.toNat,s1,fun k k1=>?_,by omega,ho.mono (by omega)⟩
  have w:IntKind.u64.wrap r=(r.toNat:Int):=by rw [wd0 (by omega) (by omega)]; omega
  rw [wQ.eq]
  unfold wQ.b
  simp only [wbk.eq]
  unfold wbk.b
  simp only [h0,h1,h2,decide_true,decide_false,cond_true,cond_false,e,w,wfm N r.toNat _ (show r.toNat < 18446744073709551616 by omega) hN]
  rfl
 ·left
  refine ⟨v.toNat,s,fun k k1=>?_,by omega,h.mono (by omega)⟩
  rw [wQ.eq]
  unfold wQ.b
  simp only [wbk.eq]
  unfold wbk.b
  simp only [h0,h1,h2,decide_false,cond_false,Int.toNat_of_nonneg v0]
theorem wpJ {α : Type} (N n : Nat) (st : Int) (hn : n ≤ 256) (hN : 1000000 < N) : ∀ (d i f : Nat) (s : RdD) (o : List Int) (c : Nat), i + d = n → d < f → RdOk c s → c + 2 * d ≤ 900000 → Dig o → o.length = i →
    ∃ (o' : List Int) (s' : RdD), (∀ (k : Int → RdD → List Int → Option α), wN N f (n : Int) st (i : Int) s o k = k (n : Int) s' o') ∧ Dig o' ∧ o'.length = n ∧ RdOk (c + 2 * d) s' := by
  intro d
  induction d with
  | zero =>
    intro i f s o c h hf hs hc ho hl
    obtain ⟨f, rfl⟩ : ∃ m, f = m + 1 := ⟨f - 1, by omega⟩
    refine ⟨o, s, fun k => ?_, ho, by omega, hs⟩
    rw [wN.succ]
    unfold weu
    simp only [wcx (show ¬ i < n by omega), cond_false]
  | succ d ih =>
    intro i f s o c h hf hs hc ho hl
    obtain ⟨f, rfl⟩ : ∃ m, f = m + 1 := ⟨f - 1, by omega⟩
    obtain ⟨r1, s1, e1, q1, p1, p2⟩ := wdD N 256 s c hs (by omega)
    obtain ⟨r2, s2, e2, q2, p3, p4⟩ := wdD N 256 s1 (c + 1) q1 (by omega)
    have p2 := p2 (by omega)
    have p4 := p4 (by omega)
    have w1 : IntKind.i64.wrap (r1 * 256) = r1 * 256 := wd (by omega) (by omega)
    have w2 : IntKind.i64.wrap (r1 * 256 + r2) = r1 * 256 + r2 := wd (by omega) (by omega)
    have key : ∀ x : Int, 0 ≤ x → x < 65536 → ∃ (o' : List Int) (s' : RdD), (∀ (k : Int → RdD → List Int → Option α), wN N f (n : Int) st ((i + 1 : Nat) : Int) s2 (o ++ [x]) k = k (n : Int) s' o') ∧ Dig o' ∧ o'.length = n ∧ RdOk (c + 2 * (d + 1)) s' := by
      intro x h0 h1
      obtain ⟨o', s', a1, a2, a3, a4⟩ := ih (i + 1) f s2 (o ++ [x]) (c + 2) (by omega) (by omega) q2 (by omega) (wgY.2 ⟨ho, wfn.2 ⟨⟨h0, h1⟩, wgz⟩⟩) (by simp [hl])
      exact ⟨o', s', a1, a2, a3, a4.mono (by omega)⟩
    have hlen : ∀ x : Int, o.length + [x].length ≤ 8796093022208 := fun x => by simp; omega
    by_cases hs0 : st = 0
    · obtain ⟨o', s', a1, a2⟩ := key 65535 (by omega) (by omega)
      refine ⟨o', s', fun k => ?_, a2⟩
      rw [wN.succ]
      unfold weu
      simp only [wbt.eq, wbs.eq]
      unfold wbt.b wbs.b
      simp only [wc1 (show i < n by omega), cond_true, e1, e2, w1, w2, hs0, decide_true, show decide ((0 : Int) = 1) = false from rfl, cond_false, decide_eq_true (hlen _), wdW (show i < 4611686018427387904 by omega)]
      rw [← a1 k, hs0]
    · by_cases hs1 : st = 1
      · obtain ⟨o', s', a1, a2⟩ := key 0 (by omega) (by omega)
        refine ⟨o', s', fun k => ?_, a2⟩
        rw [wN.succ]
        unfold weu
        simp only [wbt.eq, wbs.eq]
        unfold wbt.b wbs.b
        simp only [wc1 (show i < n by omega), cond_true, e1, e2, w1, w2, hs1, decide_true, show decide ((1 : Int) = 0) = false from rfl, cond_false, decide_eq_true (hlen _), wdW (show i < 4611686018427387904 by omega)]
        rw [← a1 k, hs1]
      · obtain ⟨o', s', a1, a2⟩ := key (r1 * 256 + r2) (by omega) (by omega)
        refine ⟨o', s', fun k => ?_, a2⟩
        rw [wN.succ]
        unfold weu
        simp only [wbt.eq, wbs.eq]
        unfold wbt.b wbs.b
        simp only [wc1 (show i < n by omega), cond_true, e1, e2, w1, w2, hs0, hs1, decide_false, cond_false, decide_eq_true (hlen _), wdW (show i < 4611686018427387904 by omega)]
        exact a1 k
theorem wpn {l:List Int} (h:Dig l) (h2:l.length=0∨l.getD (l.length - 1) 0 ≠ 0):Nrm l:=by
 refine ⟨h,fun hne=>?_⟩
 have hp:=List.length_pos_iff.2 hne
 rcases h2 with h2 | h2
 ·omega
 ·rw [List.getLast_eq_getElem,wbb (by omega)]; exact h2
theorem wsv {α:Type} (N n:Nat) (s:RdD) (o:List Int) (c:Nat) (hn:n≤256) (h:RdOk c s) (hc:c≤900000) (ho:Dig o) (hl:o.length=n) :
  ∃ (x:Nat) (s':RdD),(∀ (k:RdD→List Int→Option α),wbf N (n:Int) s o k=k s' (digs x))∧x < 65536 ^ 256∧RdOk (c + 1) s':=by
 have fin:∀ {l:List Int},Nrm l→l.length=n→(val l).toNat < 65536 ^ 256∧l=digs (val l).toNat:=fun hl2 hl3=>by
  have e:=wnK hl2
  refine ⟨?_,e⟩
  rw [e] at hl3
  exact wia (by omega)
 by_cases h0:n=0
 ·have:o=[]:=List.length_eq_zero_iff.1 (by omega)
  subst this
  refine ⟨0,s,fun k=>?_,Nat.pow_pos (by omega),h.mono (by omega)⟩
  rw [wbf.eq]
  unfold wbf.b
  simp [h0,wbS]
 ·obtain ⟨m,rfl⟩:∃ m,n=m + 1:=⟨n - 1,by omega⟩
  have hm:m < o.length:=by omega
  by_cases hz:o[m]=0
  ·obtain ⟨r,s1,e,ho1,r0,r1⟩:=wdD N 16 s c h (by omega)
   have r1:=r1 (by omega)
   obtain ⟨t,rfl⟩:∃ t:Nat,r=t:=⟨r.toNat,by omega⟩
   have hp:2 ^ t≤32768:=Nat.pow_le_pow_right (n:=2) (show 2 > 0 by omega) (show t≤15 by omega)
   have hp0:0 < 2 ^ t:=Nat.pow_pos (by omega)
   have w:IntKind.u64.wrap (t:Int)=(t:Int):=wd0 (by omega) (by omega)
   have t3:shlI .i64 (1:Int) (t:Int)=((2 ^ t:Nat):Int):=by
    have:=won (x:=1) (k:=t) (by omega) (by omega)
    rw [Nat.one_mul] at this
    exact this
   obtain ⟨f1,f2⟩:=fin (l:=o.set m ((2 ^ t:Nat):Int)) (wpn (wim ho _ (by omega) (by omega)) (by
    right; rw [wd4,hl,Nat.add_sub_cancel,wfG hm]; omega)) (by rw [wd4,hl])
   refine ⟨_,s1,fun k=>?_,f1,ho1⟩
   rw [wbf.eq]
   unfold wbf.b
   simp only [wkF m,cond_true,wi2 (show m < 4611686018427387904 by omega),wF,cond_false,Int.toNat_natCast,decide_eq_true hm,List.getElem?_eq_getElem hm,hz,decide_true,e,w,t3,← f2]
  ·obtain ⟨f1,f2⟩:=fin (l:=o) (wpn ho (by right; rw [hl,Nat.add_sub_cancel,← wbb hm]; exact hz)) hl
   refine ⟨_,s,fun k=>?_,f1,h.mono (by omega)⟩
   rw [wbf.eq]
   unfold wbf.b
   simp only [wkF m,cond_true,wi2 (show m < 4611686018427387904 by omega),wF,cond_false,Int.toNat_natCast,decide_eq_true hm,List.getElem?_eq_getElem hm,hz,decide_false,← f2]
theorem wuv {α:Type} (N:Nat) (s:RdD) (c:Nat) (h:RdOk c s) (hc:c≤800000) (hN:cap < N) :
  ∃ (x:Nat) (s':RdD),(∀ (k:RdD→List Int→Option α),wc6 N s k=k s' (digs x))∧x < 65536 ^ 256∧RdOk (c + 600) s':=by
 have hNN:=wfU hN
 obtain ⟨v,s1,e1,q1,v0,v1⟩:=wdD N 4 s c h (by omega)
 obtain ⟨m,s2,e2,q2,m0,m1⟩:=wdD N 16 s1 (c + 1) q1 (by omega)
 have v1:=v1 (by omega)
 rcases wuC (α:=α) N v m s2 (c + 2) q2 (by omega) v0 v1 hN with ⟨n,s3,e3,hn,q3⟩ | ⟨x,s3,e3,hx,q3⟩
 ·obtain ⟨st,s4,e4,q4,_,_⟩:=wdD N 5 s3 (c + 4) q3 (by omega)
  obtain ⟨o,s5,e5,ho,hl,q5⟩:=wpJ (α:=α) N n st hn (by omega) n 0 N s4 [] (c + 5) (by omega) (by omega) q4 (by omega) wgz rfl
  rw [show ((0:Nat):Int)=0 from rfl] at e5
  obtain ⟨x,s6,e6,hx,q6⟩:=wsv (α:=α) N n s5 o (c + 5 + 2 * n) hn q5 (by omega) ho hl
  refine ⟨x,s6,fun k=>?_,hx,q6.mono (by omega)⟩
  rw [wc6.eq]
  unfold wc6.b
  simp only [e1,e2,e3,e4,e5,e6]
 ·refine ⟨x,s3,fun k=>?_,Nat.lt_of_lt_of_le (show x < 65536 ^ 1 by omega) (wjq (by omega)),q3.mono (by omega)⟩
  rw [wc6.eq]
  unfold wc6.b
  simp only [e1,e2,e3]
end Go.Proofs.YtnhbcpmmdblkjaaGreatDoorAm
