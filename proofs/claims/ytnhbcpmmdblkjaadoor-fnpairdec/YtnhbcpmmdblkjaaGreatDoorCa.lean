/-
  The values of floats as fractions; what a pair, a span, a box has; the laws.
-/
import Derived.Test.YtnhbcpmmdblkjaaGreatDoorU
import Derived.Test.YtnhbcpmmdblkjaaGreatDoorK
import Derived.Test.YtnhbcpmmdblkjaaGreatDoorBb
import Derived.Test.YtnhbcpmmdblkjaaGreatDoorB
namespace Go.Proofs.YtnhbcpmmdblkjaaGreatDoorAm
open Go
set_option linter.unusedVariables false
set_option linter.unusedSimpArgs false

theorem wvg {x:Nat} (hx:x < 18446744073709551616):bitI .and .u64 (x:Int) 65535=((x % 65536:Nat):Int):=by
 have e:(65535:Int)=((65535:Nat):Int):=rfl
 have h:x &&& 65535=x % 65536:=Nat.and_two_pow_sub_one_eq_mod x 16
 rw [e]
 show IntKind.u64.wrap (((BitVec.ofInt 64 (x:Int) &&& BitVec.ofInt 64 ((65535:Nat):Int)).toNat:Nat):Int)=_
 rw [BitVec.ofInt_natCast,BitVec.ofInt_natCast,BitVec.toNat_and,BitVec.toNat_ofNat,BitVec.toNat_ofNat]
 rw [Nat.mod_eq_of_lt (by omega),Nat.mod_eq_of_lt (show 65535 < 2 ^ 64 by decide),h,wd0 (by omega) (by omega)]
theorem wlx {α : Type} (N : Nat) (k : List Int → Option α) : ∀ (n v : Nat) (l : List Int), v < n → v < 18446744073709551616 → (digs v).length + l.length < 8796093022208 →
    wcm N n (v : Int) l k = k (l ++ digs v) := by
  intro n
  induction n with
  | zero => intro v l h; omega
  | succ n ih =>
    intro v l h hv hl2
    rw [wcm.succ]
    unfold wgZ
    by_cases h0 : v = 0
    · subst h0; simp [wbS]
    · have c : (0 : Int) < (v : Int) := by omega
      have t1 := wvg (x := v) hv
      have t2 : shrI .u64 (v : Int) 16 = ((v / 65536 : Nat) : Int) := shrN (q := .u64) (x := v) (k := 16) rfl (by omega)
      have w1 : IntKind.i64.wrap ((v % 65536 : Nat) : Int) = ((v % 65536 : Nat) : Int) := wjl (by omega)
      have e := wge h0
      rw [e, List.length_cons] at hl2
      have c2 : l.length + [((v % 65536 : Nat) : Int)].length ≤ 8796093022208 := by simp; omega
      simp only [c, decide_true, cond_true, t1, t2, w1, c2]
      rw [ih _ _ (by omega) (by omega) (by simp; omega), e, List.append_assoc, List.singleton_append]
theorem wjI {α:Type} (N v:Nat) (k:List Int→Option α) (hv:v < 18446744073709551616) (hN:cap < N):weY N (v:Int) k=k (digs v):=by
 have h0:=wkn
 have h1:v < 65536 ^ 4:=by omega
 have h2:=weJ h1
 have h3:v < N:=Nat.lt_trans (Nat.lt_of_lt_of_le hv h0) hN
 rw [weY.eq]
 unfold weY.b
 rw [wlx N _ N v [] h3 hv (by simp; omega)]
 simp
def vTop (w o:Int):Nat:=if 0≤(weQ w o).1.2.2.1 then (weQ w o).1.2.1.toNat * 2 ^ (weQ w o).1.2.2.1.toNat else (weQ w o).1.2.1.toNat
def vBot (w o:Int):Nat:=if 0≤(weQ w o).1.2.2.1 then 1 else 2 ^ (-(weQ w o).1.2.2.1).toNat
def vSgn (w o:Int):Bool:=(weQ w o).1.1
theorem whY (w o:Int):0≤(weQ w o).1.2.1∧(weQ w o).1.2.1 < 18446744073709551616∧-1074≤(weQ w o).1.2.2.1∧(weQ w o).1.2.2.1≤1000:=by
 obtain ⟨g1,g2,g3,g4,g5⟩:=wfa w
 have hp:=wg7 g2
 have hp0:0 < 2 ^ wB w:=Nat.pow_pos (by omega)
 have hmod:o.natAbs % 2 ^ wB w < 2 ^ wB w:=Nat.mod_lt _ hp0
 unfold weQ
 split
 ·rename_i h
  obtain ⟨hw,b1,b2⟩:=wop h.1
  have hq:o.natAbs / 2 ^ wB w≤(2 * wdK w + 1).toNat:=by
   have ht:=wqt hw
   have:o.natAbs≤(2 * wdK w + 1).toNat * 2 ^ wB w:=by omega
   have:=Nat.div_le_div_right (c:=2 ^ wB w) this
   rwa [Nat.mul_div_cancel _ hp0] at this
  have hG:wdK w=127∧wb5 w=-149∨wdK w=1023∧wb5 w=-1074:=by unfold wdK wb5; split <;> simp
  generalize o.natAbs % 2 ^ wB w=f at *
  generalize o.natAbs / 2 ^ wB w=e at *
  split
  ·simp only; omega
  ·simp only; omega
 ·simp only; omega
theorem wo8 (w o:Int):vBot w o ≠ 0:=by
 unfold vBot
 split
 ·omega
 ·have:=Nat.pow_pos (n:=(-(weQ w o).1.2.2.1).toNat) (show 0 < 2 by omega); omega
theorem wrM (w o:Int):vTop w o < 65536 ^ 68∧vBot w o < 65536 ^ 68:=by
 obtain ⟨p1,p2,p3,p4⟩:=whY w o
 unfold vTop vBot
 generalize (weQ w o).1.2.1=s at *
 generalize (weQ w o).1.2.2.1=p at *
 have hs:s.toNat < 65536 ^ 4:=by omega
 constructor
 ·split
  ·have h2:2 ^ p.toNat < 65536 ^ 64:=whJ (by omega)
   exact wk5 hs h2
  ·exact Nat.lt_of_lt_of_le hs (wjq (by omega))
 ·split
  ·exact Nat.lt_of_lt_of_le (show 1 < 65536 ^ 1 by omega) (wjq (by omega))
  ·exact whJ (by omega)
theorem wrd {n:Nat} (h:n < 65536 ^ 68):n < cap0:=wh9 h (by omega)
theorem wno {α:Type} (N:Nat) (w o:Int) (k:Bool→List Int→List Int→Option α) (hN:cap < N):wfx N w o k=k (vSgn w o) (digs (vTop w o)) (digs (vBot w o)):=by
 obtain ⟨p1,p2,p3,p4⟩:=whY w o
 obtain ⟨c1,c2⟩:=wrM w o
 rw [wfx.eq]
 unfold wfx.b
 simp only [whO]
 rw [wey.eq]
 unfold wey.b vTop vBot vSgn at *
 generalize (weQ w o).1=q at *
 obtain ⟨sg,s,p,un⟩:=q
 simp only at *
 obtain ⟨n,rfl⟩:∃ n:Nat,s=n:=⟨s.toNat,by omega⟩
 have hn64:n < 18446744073709551616:=by omega
 have hnc:n < cap:=Nat.lt_of_lt_of_le hn64 wkn
 rw [wfm N n _ hn64 hN]
 by_cases h:0≤p
 ·obtain ⟨i,rfl⟩:∃ i:Nat,p=i:=⟨p.toNat,by omega⟩
  have hp:2 ^ i < cap:=wfg (wk7 (by omega))
  simp only [decide_true,cond_true,wfN N i _ (show i < 1000000 by omega) hN,wen N n (2 ^ i) _ hnc hp hN,if_true,Int.toNat_natCast,wmd,h]
 ·obtain ⟨i,rfl⟩:∃ i:Nat,p=-(i:Int):=⟨p.natAbs,by omega⟩
  have w1:IntKind.i64.wrap (0 - -(i:Int))=(i:Int):=by rw [wd (by omega) (by omega)]; omega
  have e1:(- -(i:Int)).toNat=i:=by omega
  simp only [h,decide_false,cond_false,w1,wfN N i _ (show i < 1000000 by omega) hN,if_false,Int.toNat_natCast,e1]
def valF (w o:Int):wgh:=(vSgn w o && decide (vTop w o ≠ 0),(digs (vTop w o / Nat.gcd (vTop w o) (vBot w o)),(digs (vBot w o / Nat.gcd (vTop w o) (vBot w o)),())))
theorem wra {α:Type} (N:Nat) (s:Bool) (q:Nat) (k:Bool→List Int→List Int→Option α):wea N s (digs q) k=k (s && decide (q ≠ 0)) (digs q) (digs 1):=by
 rw [wea.eq]
 unfold wea.b
 simp only [wf7,← wmd]
 cases s
 ·simp only [cond_false,Bool.false_and]
 ·simp only [cond_true,Bool.true_and]
theorem wmH {α:Type} (N:Nat) (w o:Int) (k:wgh→Option α) (hN:cap < N):weM N w o k=k (valF w o):=by
 obtain ⟨p1,p2,p3,p4⟩:=whY w o
 obtain ⟨c1,c2⟩:=wrM w o
 rw [weM.eq]
 unfold weM.b valF
 simp only [wjZ]
 unfold vTop vBot vSgn at *
 generalize (weQ w o).1=q at *
 obtain ⟨sg,s,p,un⟩:=q
 simp only at *
 obtain ⟨n,rfl⟩:∃ n:Nat,s=n:=⟨s.toNat,by omega⟩
 have hn64:n < 18446744073709551616:=by omega
 have hnc:n < cap:=Nat.lt_of_lt_of_le hn64 wkn
 have hn0:n < cap0:=wh9 (k:=4) (by omega) (by omega)
 rw [wjI N n _ hn64 hN]
 have h1c:(1:Nat) < cap:=by have:=wii; omega
 by_cases h:0≤p
 ·obtain ⟨i,rfl⟩:∃ i:Nat,p=i:=⟨p.toNat,by omega⟩
  simp only [decide_true,cond_true,wdS N n i _ hnc (show i < 1000000 by omega) hN,wra,if_true,Int.toNat_natCast,h,Nat.gcd_one_right,Nat.div_one]
 ·obtain ⟨i,rfl⟩:∃ i:Nat,p=-(i:Int):=⟨p.natAbs,by omega⟩
  have w1:IntKind.i64.wrap (0 - -(i:Int))=(i:Int):=by rw [wd (by omega) (by omega)]; omega
  have e1:(- -(i:Int)).toNat=i:=by omega
  have hp:2 ^ i < cap0:=wk7 (by omega)
  have hp0:2 ^ i ≠ 0:=by have:=Nat.pow_pos (n:=i) (show 0 < 2 by omega); omega
  simp only [h,decide_false,cond_false,w1,← wmd,wdS N 1 i _ h1c (show i < 1000000 by omega) hN,Nat.one_mul,wi3 N sg n (2 ^ i) _ hn0 hp hp0 hN,if_false,Int.toNat_natCast,e1]
def wf9 (w o:Int):R4:=if (weQ w o).2=true then mkF (vSgn w o) (vTop w o) (vBot w o) else bad4
theorem wgW {α:Type} (N:Nat) (w o:Int) (k:Bool→Bool→List Int→List Int→Option α) (hN:cap < N):wc3 N w o k=k (wf9 w o).1 (wf9 w o).2.1 (wf9 w o).2.2.1 (wf9 w o).2.2.2:=by
 obtain ⟨c1,c2⟩:=wrM w o
 rw [wc3.eq]
 unfold wc3.b wf9
 simp only [whO,wno N w o _ hN,wfQ N _ _ _ _ (wrd c1) (wrd c2) (wo8 w o) hN]
 cases h:(weQ w o).2 <;> simp [bad4]
theorem wi1 {α:Type} (N:Nat) (f:wgh) (k:wgh→Option α):weO N f k=k f:=by
 rw [weO.eq]; rfl
theorem wmn {x y g:Int} (hg:0 < g):cmpZ (x * g) (y * g)=cmpZ x y:=by
 unfold cmpZ
 by_cases h1:x < y
 ·rw [if_pos h1,if_pos (Int.mul_lt_mul_of_pos_right h1 hg)]
 ·by_cases h2:y < x
  ·have:=Int.mul_lt_mul_of_pos_right h2 hg
   rw [if_neg h1,if_pos h2,if_neg (by omega),if_pos this]
  ·have:x=y:=by omega
   subst this
   simp
theorem woQ (s:Bool) (n g:Nat):sgnd s (n * g)=sgnd s n * (g:Int):=by
 unfold sgnd
 cases s
 ·simp
 ·simp only [if_true]; rw [Int.natCast_mul,Int.neg_mul]
theorem wrr (s:Bool) (n d:Nat):sgnd (s && decide (n ≠ 0)) (n * d)=sgnd s (n * d):=by
 by_cases h:n=0
 ·subst h; cases s <;> simp [sgnd]
 ·simp [h]
def cmpV (w o:Int) (f:wgh):Int:=cmpZ (sgnd (vSgn w o) (vTop w o * (val f.2.2.1).toNat)) (sgnd f.1 ((val f.2.1).toNat * vBot w o))
def wp6 (w o:Int) (f:wgh):Int:=cmpZ (sgnd f.1 ((val f.2.1).toNat * vBot w o)) (sgnd (vSgn w o) (vTop w o * (val f.2.2.1).toNat))
theorem wpl {a b:Nat} (ha:a < 65536 ^ 68) (hb:b < 65536 ^ 256):a * b < cap:=by
 obtain ⟨E,hE⟩:∃ E,E=324:=⟨_,rfl⟩
 have h:=wk5 ha hb
 rw [show 68 + 256=E from hE.symm] at h
 exact wo1 h (by omega)
theorem wq3 (w o:Int):∃ a b g:Nat,vTop w o=a * g∧vBot w o=b * g∧0 < g∧vTop w o / Nat.gcd (vTop w o) (vBot w o)=a∧vBot w o / Nat.gcd (vTop w o) (vBot w o)=b∧a≤vTop w o∧b≤vBot w o∧b ≠ 0∧(vTop w o ≠ 0↔a ≠ 0):=by
 have hb0:=wo8 w o
 have hg0:0 < Nat.gcd (vTop w o) (vBot w o):=Nat.gcd_pos_of_pos_right _ (Nat.pos_of_ne_zero hb0)
 have e1:=Nat.div_mul_cancel (Nat.gcd_dvd_left (vTop w o) (vBot w o))
 have e2:=Nat.div_mul_cancel (Nat.gcd_dvd_right (vTop w o) (vBot w o))
 have hl1:=Nat.div_le_self (vTop w o) (Nat.gcd (vTop w o) (vBot w o))
 have hl2:=Nat.div_le_self (vBot w o) (Nat.gcd (vTop w o) (vBot w o))
 have hz:vBot w o / Nat.gcd (vTop w o) (vBot w o) ≠ 0:=fun h=>by rw [h,Nat.zero_mul] at e2; exact hb0 e2.symm
 refine ⟨_,_,_,e1.symm,e2.symm,hg0,rfl,rfl,hl1,hl2,hz,⟨fun h h0=>?_,fun h h0=>?_⟩⟩
 ·rw [h0,Nat.zero_mul] at e1; exact h e1.symm
 ·rw [h0,Nat.zero_div] at h; exact h rfl
theorem wjc {α:Type} (N:Nat) (w o:Int) (f:wgh) (k:Int→Option α) (hf:wfz f=true) (hN:cap < N):wcV N (valF w o) f k=k (cmpV w o f)∧wcV N f (valF w o) k=k (wp6 w o f):=by
 obtain ⟨t,c,d,rfl,hc,hd,hd0,hg',ht⟩:=wgg hf
 obtain ⟨v1,v2⟩:=wrM w o
 obtain ⟨a,b,g,e1,e2,hg,e3,e4,l1,l2,hb0,hz⟩:=wq3 w o
 have hsg:(vSgn w o && decide (vTop w o ≠ 0))=(vSgn w o && decide (a ≠ 0)):=by
  by_cases h:a=0
  ·have:vTop w o=0:=Classical.byContradiction fun h2=>hz.1 h2 h
   simp [h,this]
  ·have:=hz.2 h
   simp [h,this]
 have ha68:a < 65536 ^ 68:=Nat.lt_of_le_of_lt l1 v1
 have hb68:b < 65536 ^ 68:=Nat.lt_of_le_of_lt l2 v2
 have ha:=wfg (wrd ha68)
 have hb:=wfg (wrd hb68)
 have hcc:=wfg (c256 hc)
 have hdc:=wfg (c256 hd)
 have m1:a * d < cap:=wpl ha68 hd
 have m2:c * b < cap:=by rw [Nat.mul_comm]; exact wpl hb68 hc
 have hsa:(vSgn w o && decide (a ≠ 0))=true→a ≠ 0:=by
  intro h; simp only [Bool.and_eq_true,decide_eq_true_eq] at h; exact h.2
 have hgi:(0:Int) < (g:Int):=by omega
 have s1:sgnd (vSgn w o) (vTop w o * d)=sgnd (vSgn w o && decide (a ≠ 0)) (a * d) * (g:Int):=by
  rw [wrr,← woQ,e1]; congr 1; rw [Nat.mul_right_comm]
 have s2:sgnd t (c * vBot w o)=sgnd t (c * b) * (g:Int):=by
  rw [← woQ,e2,Nat.mul_assoc]
 unfold valF cmpV wp6
 rw [e3,e4,hsg]
 simp only [wcR,Int.toNat_natCast]
 rw [s1,s2,wmn hgi,wmn hgi]
 exact ⟨wic N _ t a b c d k ha hb hcc hdc m1 m2 hb0 hd0 hsa ht hN,wic N t _ c d a b k hcc hdc ha hb m2 m1 hd0 hb0 ht hsa hN⟩
def wiA (w:Int) (p:whX) (f:wgh):Bool:=wg8 w p && wfz f && (decide (p.1=-top w) || decide (cmpV w p.1 f≤0)) && (decide (p.2.1=top w) || decide (wp6 w p.2.1 f≤0))
theorem whq {α:Type} (N:Nat) (w:Int) (p:whX) (f:wgh) (k:Bool→Option α) (hN:cap < N):wds N w p f k=k (wiA w p f):=by
 rw [wds.eq]
 unfold wds.b wiA
 simp only [wi6,wi0 N _ _ hN,wi5,whb]
 cases h1:wg8 w p
 ·simp
 cases h2:wfz f
 ·simp
 simp only [wmH N _ _ _ hN,(wjc N w _ f _ h2 hN).1,(wjc N w _ f _ h2 hN).2]
 by_cases h3:p.1=-top w <;> by_cases h4:p.2.1=top w <;> by_cases h5:cmpV w p.1 f≤0 <;> by_cases h6:wp6 w p.2.1 f≤0 <;> simp [h3,h4,h5,h6] <;> simp_all
def wlN (w:Int):List whX→List wgh→Bool
 | p::r,f::s=>wiA w p f && wlN w r s
 | _,_=>true
def wml (w:Int) (b:List whX) (l:List wgh):Bool:=wnw w b && decide (l.length=b.length) && wlN w b l
theorem wkv {α : Type} (N : Nat) (w : Int) (b : List whX) (l : List wgh) (hl : l.length = b.length) (hb : l.length ≤ 1048576) (hN : cap < N) (k : Bool → Option α) (k1 : Option α) : ∀ (d i n : Nat), i + d = b.length → d < n →
    wbO N n w l b (b.length : Int) (i : Int) k k1 = if wlN w (b.drop i) (l.drop i) = true then k1 else k false := by
  intro d
  induction d with
  | zero =>
    intro i n h hn
    obtain ⟨n, rfl⟩ : ∃ m, n = m + 1 := ⟨n - 1, by omega⟩
    rw [wbO.succ]
    unfold wf0
    simp only [wcx (show ¬ i < b.length by omega), cond_false]
    rw [List.drop_eq_nil_of_le (by omega), List.drop_eq_nil_of_le (by omega)]; simp [wlN]
  | succ d ih =>
    intro i n h hn
    obtain ⟨n, rfl⟩ : ∃ m, n = m + 1 := ⟨n - 1, by omega⟩
    have hi : i < l.length := by omega
    have hi2 : i < b.length := by omega
    rw [wbO.succ]
    unfold wf0
    simp only [wc1 hi2, wF, cond_true, cond_false, Int.toNat_natCast, List.getElem?_eq_getElem hi, List.getElem?_eq_getElem hi2, whq N _ _ _ _ hN, wdW (show i < 4611686018427387904 by omega)]
    have e1 := List.drop_eq_getElem_cons hi
    have e2 := List.drop_eq_getElem_cons hi2
    rw [ih (i + 1) n (by omega) (by omega), e1, e2, wlN]
    cases he : wiA w b[i] l[i] <;> simp only [Bool.not_true, Bool.not_false, cond_true, cond_false, Bool.true_and, Bool.false_and, Bool.false_eq_true, if_false]
theorem wl8 {α:Type} (N:Nat) (w:Int) (b:BoxD) (l:List wgh) (k:Bool→Option α) (hN:cap < N):wdV N w b l k=k (wml w b.1 l):=by
 have hNN:=wfU hN
 rw [wdV.eq]
 unfold wdV.b wml
 simp only [wm7 N _ _ _ (show 1048576 < N by omega)]
 cases h:wnw w b.1
 ·simp
 obtain ⟨_,h2,_⟩:=wpV h
 by_cases hl:l.length=b.1.length
 ·have c:((l.length:Nat):Int)=((b.1.length:Nat):Int):=by omega
  have e:=wkv N w b.1 l hl (by omega) hN (fun x=>k x) (k true) b.1.length 0 N (by omega) (by omega)
  simp only [c,decide_true,Bool.not_true,cond_false,Bool.true_and,hl]
  refine e.trans ?_
  rw [List.drop_zero,List.drop_zero]
  cases wlN w b.1 l <;> simp
 ·have c:¬ ((l.length:Nat):Int)=((b.1.length:Nat):Int):=by omega
  simp [c,hl]
end Go.Proofs.YtnhbcpmmdblkjaaGreatDoorAm
