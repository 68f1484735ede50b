/-
  Floats by their order numbers: the parts of a float, the float of a number times a power of two, as both texts reckon them.
-/
import Derived.Test.YtnhbcpmmdblkjaaGreatDoorBa
namespace Go.Proofs.YtnhbcpmmdblkjaaGreatDoorAm
open Go
set_option linter.unusedVariables false
set_option linter.unusedSimpArgs false

theorem whA {α:Type} (N:Nat) (w:Int) (k:Int→Option α):wde N w k=k (wb5 w):=by
 rw [wde.eq]
 unfold wde.b wb5
 by_cases h:w=32 <;> simp [h]
theorem wiY {α:Type} (N:Nat) (w:Int) (k:Int→Option α):wem N w k=k ((wB w:Nat):Int):=by
 rw [wem.eq]
 unfold wem.b wB
 by_cases h:w=32 <;> simp [h]
theorem wnO {α:Type} (N:Nat) (o:Int) (k:Int→Option α) (h0:-9223372036854775808 < o) (h1:o≤9223372036854775807):wfe N o k=k ((o.natAbs:Nat):Int):=by
 rw [wfe.eq]
 unfold wfe.b
 have e:IntKind.i64.wrap (0 - o)=-o:=by rw [wd (by omega) (by omega)]; omega
 simp only [e,wqI]
 congr 1; omega
theorem wqm {α:Type} (N:Nat) (w o:Int) (a b:wl7) (k:Int→Int→wl7→wl7→Option α) (h0:-9223372036854775808 < o) (h1:o≤9223372036854775807):wcG N w o a b k=k w ((o.natAbs:Nat):Int) a b:=by
 rw [wcG.eq]
 unfold wcG.b
 by_cases h:o < 0
 ·have e:IntKind.i64.wrap (0 - o)=((o.natAbs:Nat):Int):=by rw [wd (by omega) (by omega)]; omega
  simp only [h,decide_true,cond_true,e]
 ·have e:o=((o.natAbs:Nat):Int):=by omega
  simp only [h,decide_false,cond_false]
  rw [← e]
theorem whO {α:Type} (N:Nat) (w o:Int) (k:wl7→Bool→Option α):wdc N w o k=k (weQ w o).1 (weQ w o).2:=by
  rw [wdc.eq]
  unfold wdc.b
  simp only [wm3,wgt,whb,whA,wiY]
  cases hok:wiW w o
  · simp [weQ,hok]
  by_cases h1:o=top w
  · simp [weQ,hok,h1]
  by_cases h2:o=-top w
  · simp [weQ,hok,h1,h2]
  obtain ⟨hw,b1,b2⟩:=wop hok
  have ht:=wgi w
  obtain ⟨g1,g2,g3,g4,g5⟩:=wfa w
  have hpf:weQ w o=(if o.natAbs / 2 ^ wB w=0 then ((decide (o < 0),((o.natAbs % 2 ^ wB w:Nat):Int),wb5 w,()),true)
     else ((decide (o < 0),((o.natAbs % 2 ^ wB w + 2 ^ wB w:Nat):Int),wb5 w + (o.natAbs / 2 ^ wB w:Nat) - 1,()),true)):=by
    unfold weQ; rw [if_pos ⟨hok,h1,h2⟩]
  rw [hpf]
  simp only [h1,h2,decide_false,cond_false,Bool.not_true,wqm N w o _ _ _ (show -9223372036854775808 < o by omega) (show o≤9223372036854775807 by omega)]
  have hn:o.natAbs < 9223372036854775808:=by omega
  generalize hF:wB w=F at *
  generalize wb5 w=A at *
  generalize o.natAbs=n at *
  have hp:=wg7 g2
  have hp0:0 < 2 ^ F:=Nat.pow_pos (by omega)
  have w1:IntKind.u64.wrap (F:Int)=(F:Int):=wd0 (by omega) (by omega)
  have s1:shlI .i64 (1:Int) (F:Int)=((2 ^ F:Nat):Int):=by
    have:=shlN (x:=1) (k:=F) (by omega) (by omega)
    rw [Nat.one_mul] at this; exact this
  have c1:¬ ((2 ^ F:Nat):Int)=0:=by omega
  have hdiv:n / 2 ^ F≤n:=Nat.div_le_self _ _
  have hmod:n % 2 ^ F < 2 ^ F:=Nat.mod_lt _ hp0
  simp only [w1,wF,cond_false,s1,c1,decide_false,wu4,wu6]
  generalize n / 2 ^ F=e at *
  generalize n % 2 ^ F=f at *
  have w2:IntKind.i64.wrap (e:Int)=(e:Int):=wd (by omega) (by omega)
  have w3:IntKind.u64.wrap (f:Int)=(f:Int):=wd0 (by omega) (by omega)
  simp only [w2,w3]
  rw [wcH.eq]
  unfold wcH.b
  by_cases he:e=0
  · subst he
    simp
  · have c2:(0:Int) < (e:Int):=by omega
    have w4:IntKind.u64.wrap ((2 ^ F:Nat):Int)=((2 ^ F:Nat):Int):=wd0 (by omega) (by omega)
    have w5:IntKind.u64.wrap ((f:Int) + ((2 ^ F:Nat):Int))=((f + 2 ^ F:Nat):Int):=by rw [wd0 (by omega) (by omega)]; omega
    have w6:IntKind.i64.wrap (A + (e:Int))=A + (e:Int):=wd (by omega) (by omega)
    have w7:IntKind.i64.wrap (A + (e:Int) - 1)=A + (e:Int) - 1:=wd (by omega) (by omega)
    simp only [c2,decide_true,cond_true,w4,w5,w6,w7,he,if_false]
theorem wjZ {α:Type} (N:Nat) (w o:Int) (k:wl7→Bool→Option α):wdn N w o k=k (weQ w o).1 (weQ w o).2:=by
  rw [wdn.eq]
  unfold wdn.b
  simp only [wfj,wjE]
  cases hok:wiW w o
  · simp [weQ,hok]
  obtain ⟨hw,b1,b2⟩:=wop hok
  have ht:=wgi w
  obtain ⟨g1,g2,g3,g4,g5⟩:=wfa w
  have hn:o.natAbs < 9223372036854775808:=by omega
  simp only [Bool.not_true,cond_false,wnO N o _ (show -9223372036854775808 < o by omega) (show o≤9223372036854775807 by omega),wko hw]
  by_cases h1:o=top w∨o=-top w
  · have c1:((o.natAbs:Nat):Int)=top w:=by omega
    have:¬ (o ≠ top w∧o ≠ -top w):=fun h=>h1.elim h.1 h.2
    simp [weQ,c1,this]
  have c1:¬ ((o.natAbs:Nat):Int)=top w:=by omega
  have hpf:weQ w o=(if o.natAbs / 2 ^ wB w=0 then ((decide (o < 0),((o.natAbs % 2 ^ wB w:Nat):Int),wb5 w,()),true)
     else ((decide (o < 0),((o.natAbs % 2 ^ wB w + 2 ^ wB w:Nat):Int),wb5 w + (o.natAbs / 2 ^ wB w:Nat) - 1,()),true)):=by
    unfold weQ; rw [if_pos ⟨hok,fun h=>h1 (.inl h),fun h=>h1 (.inr h)⟩]
  rw [hpf]
  simp only [c1,decide_false,cond_false,wF]
  generalize hF:wB w=F at *
  generalize wb5 w=A at *
  generalize o.natAbs=n at *
  have hp:=wg7 g2
  have hp0:0 < 2 ^ F:=Nat.pow_pos (by omega)
  have s1:shlI .i64 (1:Int) (F:Int)=((2 ^ F:Nat):Int):=by
    have:=shlN (x:=1) (k:=F) (by omega) (by omega)
    rw [Nat.one_mul] at this; exact this
  have w1:IntKind.i64.wrap (((2 ^ F:Nat):Int) - 1)=((2 ^ F - 1:Nat):Int):=by rw [wd (by omega) (by omega)]; omega
  have a1:=wth (x:=n) (k:=F) hn (by omega)
  have s2:=shrN (q:=.i64) (x:=n) (k:=F) rfl (by omega)
  have hdiv:n / 2 ^ F≤n:=Nat.div_le_self _ _
  have hmod:n % 2 ^ F < 2 ^ F:=Nat.mod_lt _ hp0
  have o1:bitI .or .i64 ((n % 2 ^ F:Nat):Int) ((2 ^ F:Nat):Int)=((n % 2 ^ F + 2 ^ F:Nat):Int):=by
    rw [borI (by omega) (by omega),Nat.or_comm]
    have:=wsN (u:=n % 2 ^ F) (v:=1) (r:=F) hmod
    rw [Nat.one_mul] at this
    rw [this,Nat.add_comm]
  simp only [s1,w1,a1,s2,o1]
  generalize n / 2 ^ F=e at *
  generalize n % 2 ^ F=f at *
  have w3:IntKind.u64.wrap (f:Int)=(f:Int):=wd0 (by omega) (by omega)
  have w5:IntKind.u64.wrap ((f + 2 ^ F:Nat):Int)=((f + 2 ^ F:Nat):Int):=wd0 (by omega) (by omega)
  have w6:IntKind.i64.wrap (A + (e:Int))=A + (e:Int):=wd (by omega) (by omega)
  have w7:IntKind.i64.wrap (A + (e:Int) - 1)=A + (e:Int) - 1:=wd (by omega) (by omega)
  by_cases he:e=0
  · subst he
    simp [w3]
  · have c2:¬ (e:Int)=0:=by omega
    simp only [c2,decide_false,cond_false,w5,w6,w7,he,if_false]
theorem wtn {α:Type} (N:Nat) (w:Int) (o:Nat) (P:Int) (pt:wl7) (k:Int→wl7→Option α) (hw:w=32∨w=64) (ho:o < 2 ^ 64) (ho0:o ≠ 0) (h1:¬ wB w + 1 < blen o) (h2:¬ P < wb5 w) (h3:¬ wdK w < P + blen o - 1) (hP:-2100≤P∧P≤2100) :
  wcS N (o:Int) P (blen o:Int) (P + blen o - 1 + wdK w) pt (wiV w) k=match mkO w o P with
   | none=>none
   | some n=>k n pt:=by
 obtain ⟨g1,g2,g3,g4,g5⟩:=wfa w
 have hG:0≤wdK w∧wdK w≤1023:=by unfold wdK; split <;> omega
 obtain ⟨L,hL,l1,l2⟩:=wjA o ho ho0
 rw [wcS.eq]
 unfold wcS.b mkO
 rw [if_neg (by omega),wko hw]
 simp only [wF,cond_false]
 generalize wB w=F at *
 generalize wb5 w=A at *
 generalize wdK w=G at *
 have hpo:=wg7 g2
 have hp0:0 < 2 ^ F:=Nat.pow_pos (by omega)
 by_cases h4:1≤P + blen o - 1 + G
 ·obtain ⟨e,he⟩:∃ e:Nat,P + blen o - 1 + G=(e:Int):=⟨(P + blen o - 1 + G).toNat,by omega⟩
  have heb:e≤2046:=by omega
  have hm:e * 2 ^ F≤2046 * 4503599627370496:=Nat.mul_le_mul heb hpo
  have hme:(e:Int) * ((2 ^ F:Nat):Int)=((e * 2 ^ F:Nat):Int):=(Int.natCast_mul _ _).symm
  have s1:=shlN (x:=e) (k:=F) (by omega) (by omega)
  have w1:IntKind.i64.wrap ((F:Int) + 1)=(F:Int) + 1:=wd (by omega) (by omega)
  have w2:IntKind.i64.wrap ((F:Int) + 1 - (blen o:Int))=((F + 1 - blen o:Nat):Int):=by rw [wd (by omega) (by omega)]; omega
  have b1:o * 2 ^ (F + 1 - blen o) < 2 ^ (F + 1):=by
   have:=(Nat.mul_lt_mul_right (a:=2 ^ (F + 1 - blen o)) (Nat.pow_pos (by omega))).2 l2
   rw [← Nat.pow_add,show L + 1 + (F + 1 - blen o)=F + 1 by omega] at this
   exact this
  have b2:2 ^ F≤o * 2 ^ (F + 1 - blen o):=by
   have:=Nat.mul_le_mul_right (2 ^ (F + 1 - blen o)) l1
   rw [← Nat.pow_add,show L + (F + 1 - blen o)=F by omega] at this
   exact this
  rw [Nat.pow_succ] at b1
  have s2:=shlU (x:=o) (k:=F + 1 - blen o) (by omega) (by omega)
  have w3:IntKind.i64.wrap ((o * 2 ^ (F + 1 - blen o):Nat):Int)=((o * 2 ^ (F + 1 - blen o):Nat):Int):=wd (by omega) (by omega)
  have s3:shlI .i64 (1:Int) (F:Int)=((2 ^ F:Nat):Int):=by
   have:=shlN (x:=1) (k:=F) (by omega) (by omega)
   rw [Nat.one_mul] at this; exact this
  have w4:IntKind.i64.wrap (((2 ^ F:Nat):Int) - 1)=((2 ^ F - 1:Nat):Int):=by rw [wd (by omega) (by omega)]; omega
  have a1:=wth (x:=o * 2 ^ (F + 1 - blen o)) (k:=F) (by omega) (by omega)
  have hmod:o * 2 ^ (F + 1 - blen o) % 2 ^ F=o * 2 ^ (F + 1 - blen o) - 2 ^ F:=by
   rw [Nat.mod_eq_sub_mod b2,Nat.mod_eq_of_lt (by omega)]
  have o1:bitI .or .i64 ((e * 2 ^ F:Nat):Int) ((o * 2 ^ (F + 1 - blen o) - 2 ^ F:Nat):Int)=((e * 2 ^ F + (o * 2 ^ (F + 1 - blen o) - 2 ^ F):Nat):Int):=by
   rw [borI (by omega) (by omega),wsN (by omega)]
  have c4:(1:Int)≤(e:Int):=by omega
  rw [if_pos h4]
  simp only [he,c4,decide_true,cond_true,s1,w1,w2,wF,cond_false,s2,w3,s3,w4,a1,hmod,o1,hme]
  congr 1
  omega
 ·have w1:IntKind.i64.wrap (P - A)=(((P - A).toNat:Nat):Int):=by rw [wd (by omega) (by omega)]; omega
  have b1:o * 2 ^ (P - A).toNat < 2 ^ F:=by
   have:=(Nat.mul_lt_mul_right (a:=2 ^ (P - A).toNat) (Nat.pow_pos (by omega))).2 l2
   rw [← Nat.pow_add] at this
   exact Nat.lt_of_lt_of_le this (Nat.pow_le_pow_right (by omega) (by omega))
  have s2:=shlU (x:=o) (k:=(P - A).toNat) (by omega) (by omega)
  have w3:IntKind.i64.wrap ((o * 2 ^ (P - A).toNat:Nat):Int)=((o * 2 ^ (P - A).toNat:Nat):Int):=wd (by omega) (by omega)
  rw [if_neg h4]
  simp only [h4,decide_false,cond_false,w1,wF,s2,w3]
theorem wq0 {w:Int} {o:Nat} {P m:Int} (hw:w=32∨w=64) (ho:o < 2 ^ 64) (ho0:o ≠ 0) (h:mkO w o P=some m):-9223372036854775808 < m∧m≤9223372036854775807:=by
 obtain ⟨g1,g2,g3,g4,g5⟩:=wfa w
 have hG:0≤wdK w∧wdK w≤1023:=by unfold wdK; split <;> omega
 obtain ⟨L,hL,l1,l2⟩:=wjA o ho ho0
 unfold mkO at h
 generalize wB w=F at *
 generalize wb5 w=A at *
 generalize wdK w=G at *
 have hpo:=wg7 g2
 split at h
 ·simp at h
 ·split at h
  ·simp only [Option.some.injEq] at h
   obtain ⟨e,he⟩:∃ e:Nat,P + blen o - 1 + G=(e:Int):=⟨(P + blen o - 1 + G).toNat,by omega⟩
   have hm:e * 2 ^ F≤2046 * 4503599627370496:=Nat.mul_le_mul (by omega) hpo
   have hme:(e:Int) * ((2 ^ F:Nat):Int)=((e * 2 ^ F:Nat):Int):=(Int.natCast_mul _ _).symm
   have b1:o * 2 ^ (F + 1 - blen o) < 2 ^ (F + 1):=by
    have:=(Nat.mul_lt_mul_right (a:=2 ^ (F + 1 - blen o)) (Nat.pow_pos (by omega))).2 l2
    rw [← Nat.pow_add,show L + 1 + (F + 1 - blen o)=F + 1 by omega] at this
    exact this
   rw [Nat.pow_succ] at b1
   rw [he,hme] at h
   omega
  ·simp only [Option.some.injEq] at h
   have b1:o * 2 ^ (P - A).toNat < 2 ^ F:=by
    have:=(Nat.mul_lt_mul_right (a:=2 ^ (P - A).toNat) (Nat.pow_pos (by omega))).2 l2
    rw [← Nat.pow_add] at this
    exact Nat.lt_of_lt_of_le this (Nat.pow_le_pow_right (by omega) (by omega))
   omega
theorem wlD {α : Type} (N : Nat) (w : Int) (p : wl7) (k : Int → Bool → Option α) (h0 : 0 ≤ p.2.1) (h1 : p.2.1 < 18446744073709551616) : wdH N w p k = k (whe w p).1 (whe w p).2 := by
  obtain ⟨sg, s, q, un⟩ := p
  simp only at h0 h1
  obtain ⟨n, rfl⟩ : ∃ n : Nat, s = n := ⟨s.toNat, by omega⟩
  rw [wdH.eq]
  unfold wdH.b whe
  simp only [wfj, wiR]
  by_cases hw : w = 32 ∨ w = 64
  · by_cases hq1 : -2000 ≤ q
    · by_cases hq2 : q ≤ 2000
      · by_cases hn : n = 0
        · subst hn
          simp [hw, hq1, hq2]
        obtain ⟨g1, g2, g3, g4, g5⟩ := wfa w
        have hG : 0 ≤ wdK w ∧ wdK w ≤ 1023 := by unfold wdK; split <;> omega
        obtain ⟨o, ho1, ho2, ho3, hz, ho4⟩ := wr3 hn (show n < 2 ^ 64 by omega)
        have hcn : ¬ (n : Int) = 0 := by omega
        have hmk : mkB w n q = mkO w o (q + Go.Lib.ctz 64 n) := by unfold mkB; rw [ho4]
        have c0 : (n : Int) < 18446744073709551616 := by omega
        have s1 := shrN (q := .u64) (x := n) (k := Go.Lib.ctz 64 n) rfl (by omega)
        rw [ho4] at s1
        have hbl := wqT (n := o)
        have w1 : IntKind.i64.wrap (q + (Go.Lib.ctz 64 n : Nat)) = q + (Go.Lib.ctz 64 n : Nat) := wd (by omega) (by omega)
        rw [wC.eq]
        unfold wC.b
        simp only [hw, hq1, hq2, hcn, decide_true, decide_false, Bool.and_self, Bool.not_true, cond_false, weF, cond_true, c0, Int.toNat_natCast, and_self, if_true, if_false, wF, s1, w1, hn, hmk]
        generalize hP : q + ((Go.Lib.ctz 64 n : Nat) : Int) = P at *
        have w2 : IntKind.i64.wrap (P + (blen o : Nat)) = P + (blen o : Nat) := wd (by omega) (by omega)
        have w3 : IntKind.i64.wrap (P + (blen o : Nat) - 1) = P + (blen o : Nat) - 1 := wd (by omega) (by omega)
        have w4 : IntKind.i64.wrap ((wB w : Int) + 1) = (wB w : Int) + 1 := wd (by omega) (by omega)
        have w5 : IntKind.i64.wrap (P + (blen o : Nat) - 1 + wdK w) = P + (blen o : Nat) - 1 + wdK w := wd (by omega) (by omega)
        have hf1 : (wiV w).1 = (wB w : Int) := by rw [wko hw]
        have hf2 : (wiV w).2.1 = wb5 w := by rw [wko hw]
        have hf3 : (wiV w).2.2.1 = wdK w := by rw [wko hw]
        simp only [wgL N o ho3, w2, w3, hf1, hf2, hf3, w4, w5]
        by_cases h1 : wB w + 1 < blen o
        · have c1 : (wB w : Int) + 1 < (blen o : Int) := by omega
          have : mkO w o P = none := by unfold mkO; rw [if_pos (.inl h1)]
          simp [c1, this]
        have c1 : ¬ (wB w : Int) + 1 < (blen o : Int) := by omega
        by_cases h2 : P < wb5 w
        · have : mkO w o P = none := by unfold mkO; rw [if_pos (.inr (.inl h2))]
          simp [c1, h2, this]
        by_cases h3 : wdK w < P + blen o - 1
        · have : mkO w o P = none := by unfold mkO; rw [if_pos (.inr (.inr h3))]
          simp [c1, h2, h3, this]
        simp only [c1, h2, h3, decide_false, cond_false, wtn N w o P _ _ hw ho3 (by omega) h1 h2 h3 (by omega)]
        have hne : mkO w o P ≠ none := by
          unfold mkO
          rw [if_neg (by omega)]
          split <;> simp
        cases hm : mkO w o P with
        | none => exact absurd hm hne
        | some m =>
          have hmb : -9223372036854775808 < m ∧ m ≤ 9223372036854775807 := wq0 hw ho3 (by omega) hm
          have w6 : IntKind.i64.wrap (0 - m) = -m := by rw [wd (by omega) (by omega)]; omega
          simp only []
          rw [wda.eq]
          unfold wda.b
          cases sg
          · simp only [cond_false, Bool.false_eq_true, if_false]
          · simp only [cond_true, w6, if_true]
      · simp [hw, hq1, hq2]
    · simp [hw, hq1]
  · simp [hw]
end Go.Proofs.YtnhbcpmmdblkjaaGreatDoorAm
