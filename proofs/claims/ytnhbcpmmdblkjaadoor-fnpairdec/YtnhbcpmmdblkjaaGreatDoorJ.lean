/-
  What the reference's functions on naturals compute, in plain words: quotients, divisors.
-/
import Derived.Test.YtnhbcpmmdblkjaaGreatDoorI
namespace Go.Proofs.YtnhbcpmmdblkjaaGreatDoorAm
open Go
set_option linter.unusedVariables false
set_option linter.unusedSimpArgs false

theorem wrx {a b:Nat}:decide ((0:Int) < cmpN a b)=decide (b < a):=by
 unfold cmpN
 by_cases h:a < b
 ·have:¬ b < a:=by omega
  simp [h,this]
 ·by_cases h2:b < a <;> simp [h,h2]
theorem wpe {a b:Nat}:decide (cmpN a b < (0:Int))=decide (a < b):=by
 unfold cmpN
 by_cases h:a < b
 ·simp [h]
 ·by_cases h2:b < a <;> simp [h,h2]
theorem ws8 {a b:Nat}:decide ((0:Int)≤cmpN a b)=decide (b≤a):=by
 unfold cmpN
 by_cases h:a < b
 ·have:¬ b≤a:=by omega
  simp [h,this]
 ·have h3:b≤a:=by omega
  by_cases h2:b < a <;> simp [h,h2,h3]
theorem wqu {a b:Nat}:decide (cmpN a b=(0:Int))=decide (a=b):=by
 unfold cmpN
 by_cases h:a < b
 ·have:¬ a=b:=by omega
  simp [h,this]
 ·by_cases h2:b < a
  ·have:¬ a=b:=by omega
   simp [h,h2,this]
  ·have:a=b:=by omega
   simp [h,h2,this]
theorem wrF {c D L:Nat} (hD:D ≠ 0) (hL:L=(digs D).length - 1) (hc:c < D * 65536) :
  c / D≤c / 65536 ^ L / (D / 65536 ^ L)∧c / D < 65536∧c / 65536 ^ L / 65536 < 65536:=by
 have hp:0 < 65536 ^ L:=Nat.pow_pos (by omega)
 have ht:=whp hD
 rw [← hL] at ht
 have h1:c / D * D≤c:=Nat.div_mul_le_self c D
 have h2:D / 65536 ^ L * 65536 ^ L≤D:=Nat.div_mul_le_self D _
 have h3:c / D < 65536:=(Nat.div_lt_iff_lt_mul (by omega)).2 (by rw [Nat.mul_comm]; exact hc)
 refine ⟨?_,h3,?_⟩
 ·rw [Nat.le_div_iff_mul_le (Nat.pos_of_ne_zero ht.1),Nat.le_div_iff_mul_le hp,Nat.mul_assoc]
  exact Nat.le_trans (Nat.mul_le_mul_left _ h2) h1
 ·have h4:=we0 D
  have h5:0 < (digs D).length:=List.length_pos_iff.2 (wfR hD)
  have h6:(digs D).length=L + 1:=by omega
  rw [h6,Nat.pow_succ] at h4
  rw [Nat.div_lt_iff_lt_mul (by omega),Nat.div_lt_iff_lt_mul hp]
  have:65536 * 65536 * 65536 ^ L=65536 ^ L * 65536 * 65536:=by
   rw [Nat.mul_comm (65536 * 65536),Nat.mul_assoc]
  omega
theorem wl5 {α : Type} (N : Nat) (s ld i : Int) (A q : List Int) (c D : Nat) (c2 : c < cap) (hD : 0 < D) (hcap : D * 65536 < cap) (hN : cap < N) (k : Int → Int → Int → Int → List Int → List Int → List Int → List Int → List Int → Option α) : ∀ (n g : Nat), g - c / D < n → c / D ≤ g → g < 65536 →
    wcj N n s ld i (g : Int) A (digs D) q (digs c) (digs (D * g)) k = k s ld i ((c / D : Nat) : Int) A (digs D) q (digs c) (digs (D * (c / D))) := by
  intro n
  have hiff : ∀ g, c < D * g ↔ c / D < g := fun g => by rw [Nat.div_lt_iff_lt_mul hD, Nat.mul_comm]
  generalize c / D = Q at *
  induction n with
  | zero => intro g h; omega
  | succ n ih =>
    intro g h hq hg
    have c1 : D * g < cap := Nat.lt_of_le_of_lt (Nat.mul_le_mul_left D (show g ≤ 65536 by omega)) hcap
    rw [wcj.succ]
    unfold wg4
    simp only [wh4 N _ _ _ c1 c2 hN, wrx]
    by_cases h1 : c < D * g
    · have h2 := (hiff g).1 h1
      have h3 : D ≤ D * g := Nat.le_mul_of_pos_right D (by omega)
      have e : D * g - D = D * (g - 1) := by rw [Nat.mul_sub, Nat.mul_one]
      have w : IntKind.i64.wrap ((g : Int) - 1) = ((g - 1 : Nat) : Int) := by rw [wd (by omega) (by omega)]; omega
      simp only [h1, decide_true, cond_true, whj N _ _ _ c1 h3 hN, w, e]
      exact ih (g - 1) (by omega) (by omega) (by omega)
    · have h2 : ¬ Q < g := fun hh => h1 ((hiff g).2 hh)
      have h3 : g = Q := by omega
      simp only [h1, decide_false, cond_false]
      rw [← h3]
theorem wlk {α : Type} (N : Nat) (s : Int) (A D : Nat) (hD : 65536 ≤ D) (hDc : D * 65536 < cap) (hA : A < cap) (M : Nat) (hM : M ≤ (digs A).length) (hN : cap < N) (k : Int → List Int → List Int → Option α) : ∀ (i n : Nat), i ≤ M → i < n → ∀ (R : Nat) (q : List Int), R < D → Dig q → q.length + i = M → ((A / 65536 ^ i : Nat) : Int) = val q * D + R →
    ∃ q', wb9 N n s ((digs D).length : Int) ((i : Int) - 1) (digs A) (digs D) (List.replicate i 0 ++ q) (digs R) k = k s q' (digs (A % D)) ∧ Dig q' ∧ q'.length = M ∧ val q' = ((A / D : Nat) : Int) := by
  intro i
  induction i with
  | zero =>
    intro n h hn R q hR hq hl hv
    obtain ⟨m, rfl⟩ : ∃ m, n = m + 1 := ⟨n - 1, by omega⟩
    obtain ⟨u1, u2⟩ := wkH (A := A) (D := D) (q := val q) (r := (R : Int)) rfl rfl (by simpa using hv) (by omega) (by omega)
    refine ⟨q, ?_, hq, by omega, u1⟩
    have u3 : R = A % D := by omega
    rw [wb9.succ]
    unfold wgr
    simp [u3]
  | succ i ih =>
    intro n h hn R q hR hq hl hv
    obtain ⟨m, rfl⟩ : ∃ m, n = m + 1 := ⟨n - 1, by omega⟩
    have e : ((i + 1 : Nat) : Int) - 1 = (i : Int) := by omega
    have lA := weT hA
    have lD := weT (show D < cap by omega)
    have e2 : IntKind.i64.wrap ((i : Int) - 1) = (i : Int) - 1 := wd (by omega) (by omega)
    have hi : i < (digs A).length := by omega
    have hD0 : D ≠ 0 := by omega
    have hNN := wfU hN
    have hx : (digs A)[i] = ((A / 65536 ^ i % 65536 : Nat) : Int) := by rw [wbb hi, wfd]
    have hx1 : A / 65536 ^ i % 65536 < 65536 := by omega
    have wx : IntKind.u64.wrap ((A / 65536 ^ i % 65536 : Nat) : Int) = ((A / 65536 ^ i % 65536 : Nat) : Int) := wd0 (by omega) (by omega)
    generalize hxd : A / 65536 ^ i % 65536 = x at *
    obtain ⟨c, hcd⟩ : ∃ c, R * 65536 + x = c := ⟨_, rfl⟩
    have hc : c < D * 65536 := by omega
    have hstep : A / 65536 ^ i = A / 65536 ^ (i + 1) * 65536 + x := by
      rw [Nat.pow_succ, ← Nat.div_div_eq_div_mul]; omega
    obtain ⟨L, hL⟩ : ∃ L, (digs D).length = L + 1 := ⟨(digs D).length - 1, by have := List.length_pos_iff.2 (wfR hD0); omega⟩
    obtain ⟨g1, g2, g3⟩ := wrF (L := L) hD0 (by omega) hc
    have ht := whp hD0
    rw [hL, Nat.add_sub_cancel] at ht
    have wL : IntKind.i64.wrap (((L + 1 : Nat) : Int) - 1) = (L : Int) := wi2 (by omega)
    have hLD : L < (digs D).length := by omega
    have hdL : (digs D)[L] = ((D / 65536 ^ L : Nat) : Int) := by rw [wbb hLD, wfd, Nat.mod_eq_of_lt ht.2]
    have at1 : (digs c).getD (L + 1) 0 = ((c / 65536 ^ L / 65536 : Nat) : Int) := by
      rw [wfd, Nat.pow_succ, ← Nat.div_div_eq_div_mul, Nat.mod_eq_of_lt g3]
    have at2 : (digs c).getD L 0 = ((c / 65536 ^ L % 65536 : Nat) : Int) := wfd c L
    generalize hT : D / 65536 ^ L = T at *
    generalize hU : c / 65536 ^ L = U at *
    have wU1 : IntKind.i64.wrap (((U / 65536 : Nat) : Int) * 65536) = ((U / 65536 * 65536 : Nat) : Int) := by rw [wd (by omega) (by omega)]; omega
    have wU2 : IntKind.i64.wrap (((U / 65536 * 65536 : Nat) : Int) + ((U % 65536 : Nat) : Int)) = (U : Int) := by rw [wd (by omega) (by omega)]; omega
    have tU : Int.tdiv (U : Int) (T : Int) = ((U / T : Nat) : Int) := by rw [Int.tdiv_eq_ediv_of_nonneg (by omega)]; rfl
    have hUT : U / T ≤ U := Nat.div_le_self _ _
    have wU3 : IntKind.i64.wrap ((U / T : Nat) : Int) = ((U / T : Nat) : Int) := wjl (by omega)
    have hT0 : ¬ ((T : Int) = 0) := by omega
    have hJ : ∀ (a b cc : Int) (l1 l2 l3 l4 : List Int) k1, wdl (α := α) N a b cc ((U / T : Nat) : Int) l1 l2 l3 l4 k1 = k1 a b cc ((min (U / T) 65535 : Nat) : Int) l1 l2 l3 l4 := by
      intro a b cc l1 l2 l3 l4 k1
      rw [wdl.eq]
      unfold wdl.b
      by_cases hh : 65536 ≤ U / T
      · have : (65536 : Int) ≤ ((U / T : Nat) : Int) := by omega
        simp only [this, decide_true, cond_true]; rw [Nat.min_eq_right (by omega)]; rfl
      · have : ¬ (65536 : Int) ≤ ((U / T : Nat) : Int) := by omega
        simp only [this, decide_false, cond_false]; rw [Nat.min_eq_left (by omega)]
    have hq1 : c / D < 65536 := g2
    have hmod := Nat.div_add_mod c D
    have hmodlt := Nat.mod_lt c (show 0 < D by omega)
    have hsub : c - D * (c / D) = c % D := by omega
    have hmle : D * (c / D) ≤ c := by omega
    have hc3 : c < cap := by omega
    have low := fun (i : Int) (A q : List Int) k => wl5 (α := α) N s ((L + 1 : Nat) : Int) i A q c D hc3 (show 0 < D by omega) hDc hN k N
    have hgge : c / D ≤ min (U / T) 65535 := by omega
    have hval : ((c / D : Nat) : Int) * D + ((c % D : Nat) : Int) = c := by
      rw [← Int.natCast_mul, ← Int.natCast_add, Nat.mul_comm, hmod]
    generalize hQ : c / D = Q at *
    generalize hP : c % D = P at *
    have hlenq : i < (List.replicate (i + 1) (0 : Int) ++ q).length := by simp; omega
    obtain ⟨q', f1, f2, f3, f4⟩ := ih m (by omega) (by omega) P ((Q : Int) :: q) hmodlt (wfn.2 ⟨by omega, hq⟩) (by simp; omega) (by
      rw [hstep, val, Int.natCast_add, Int.natCast_mul, hv]
      have hc2 : (c : Int) = (R : Int) * 65536 + x := by omega
      grind)
    refine ⟨q', ?_, f2, f3, f4⟩
    have hR1 : R < cap := by omega
    have hR2 : R * 65536 < cap := Nat.lt_of_le_of_lt (Nat.le_trans (Nat.le_add_right _ x) (Nat.le_of_eq hcd)) hc3
    have hx2 : x < cap := by have := wii; omega
    have hDcap : D < cap := by omega
    have shl : ∀ k1 : List Int → Option α, weN N (digs R) 1 k1 = k1 (digs (R * 65536)) := fun k1 => wjF (α := α) N R 1 k1 hR1 (by omega) hN
    have hg65 : min (U / T) 65535 < 65536 := by omega
    rw [wb9.succ, e, hL]
    unfold wgr
    simp only [weF, wF, cond_true, cond_false, Int.toNat_natCast, shl, decide_eq_true hi, List.getElem?_eq_getElem hi, hx, wx, wfm N x _ (show x < 18446744073709551616 by omega) hN, wib N _ _ _ hR2 hx2 hN, hcd, wgb N c _ hc3 hN, whE, wL, at1, at2, wU1, wU2, decide_eq_true hLD, List.getElem?_eq_getElem hLD, hdL, hT0, decide_false, tU, wU3, hJ,
      wgQ N D _ _ hDcap hg65 hN, low _ _ _ _ (min (U / T) 65535) (by omega) hgge hg65, decide_eq_true hlenq, List.getElem?_eq_getElem hlenq, wm6, whj N _ _ _ hc3 hmle hN, hsub, e2]
    rw [hL] at f1
    exact f1
theorem wo2 {a b s:Nat} (hs:0 < s):a * s / (b * s)=a / b∧a * s % (b * s) / s=a % b:=by
 refine ⟨Nat.mul_div_mul_right a b hs,?_⟩
 rw [Nat.mul_mod_mul_right,Nat.mul_div_cancel _ hs]
theorem wgH {α:Type} (N a b:Nat) (k:List Int→List Int→Option α) (h1:a < cap0) (h2:b < cap0) (hb:b ≠ 0) (hN:cap < N):wew N (digs a) (digs b) k=k (digs (a / b)) (digs (a % b)):=by
 have hst:=wix
 have c1:a < cap:=by omega
 have c2:b < cap:=by omega
 have l1:=weT c1
 have l2:=weT c2
 have hNN:=wfU hN
 have ht:=whp hb
 obtain ⟨L,hL⟩:∃ L,(digs b).length=L + 1:=⟨(digs b).length - 1,by have:=List.length_pos_iff.2 (wfR hb); omega⟩
 rw [hL,Nat.add_sub_cancel] at ht
 have hLb:L < (digs b).length:=by omega
 have hbL:(digs b)[L]=((b / 65536 ^ L:Nat):Int):=by rw [wbb hLb,wfd,Nat.mod_eq_of_lt ht.2]
 rw [wew.eq]
 unfold wew.b
 simp only [wh4 N _ _ _ c1 c2 hN,wpe]
 by_cases hlt:a < b
 ·simp only [hlt,decide_true,cond_true,wgb N a _ c1 hN]
  rw [Nat.div_eq_of_lt hlt,Nat.mod_eq_of_lt hlt,wbS]
 ·simp only [hlt,decide_false,cond_false]
  by_cases hL0:L=0
  ·subst hL0
   rw [Nat.pow_zero,Nat.div_one] at ht hbL
   have e1:(((digs b).length:Nat):Int)=1:=by omega
   have hb0:0 < b:=by omega
   have hb1:=ht.2
   have hmod:a % b < b:=Nat.mod_lt a hb0
   have small:=fun k=>wgJ (α:=α) N a b k c1 hb0 ht.2 hN
   generalize a % b=r at *
   have wm:IntKind.u64.wrap (r:Int)=(r:Int):=wd0 (by omega) (by omega)
   simp only [e1,decide_true,cond_true,List.getElem?_eq_getElem hLb,hbL,small,wm,wfm N r _ (show r < 18446744073709551616 by omega) hN]
  ·have e1:¬ (((digs b).length:Nat):Int)=1:=by omega
   have wL:IntKind.i64.wrap (((digs b).length:Int) - 1)=(L:Int):=by rw [hL]; exact wi2 (by omega)
   have h65:65536≤b:=by
    have h3:=wf8 hb
    rw [hL,Nat.add_sub_cancel] at h3
    have h4:65536 ^ 1≤65536 ^ L:=Nat.pow_le_pow_right (by omega) (by omega)
    exact Nat.le_trans h4 h3
   generalize hT:b / 65536 ^ L=T at *
   have wT:IntKind.i64.wrap ((T:Int) + 1)=((T + 1:Nat):Int):=by rw [wd (by omega) (by omega)]; omega
   have hT1:¬ (((T + 1:Nat):Int)=0):=by omega
   have tT:Int.tdiv 65536 ((T + 1:Nat):Int)=((65536 / (T + 1):Nat):Int):=by rw [Int.tdiv_eq_ediv_of_nonneg (by omega)]; rfl
   have hs0:0 < 65536 / (T + 1):=Nat.div_pos (by omega) (by omega)
   have hs1:65536 / (T + 1) < 65536:=Nat.div_lt_self (by omega) (by omega)
   generalize hs:65536 / (T + 1)=s at *
   have ws:IntKind.i64.wrap (s:Int)=(s:Int):=wjl (by omega)
   have hA:a * s < cap:=Nat.lt_of_le_of_lt (Nat.mul_le_mul_left a (show s≤65536 by omega)) (by omega)
   have hB0:b * s≤b * 65536:=Nat.mul_le_mul_left b (by omega)
   have hB:b * s * 65536 < cap:=Nat.lt_of_le_of_lt (Nat.mul_le_mul_right 65536 hB0) (by omega)
   have hBA:b * s≤a * s:=Nat.mul_le_mul_right s (by omega)
   have hBb:b≤b * s:=Nat.le_mul_of_pos_right b hs0
   have sc:=wo2 (a:=a) (b:=b) hs0
   obtain ⟨Q,hQ⟩:∃ Q,a / b=Q:=⟨_,rfl⟩
   obtain ⟨P,hP⟩:∃ P,a % b=P:=⟨_,rfl⟩
   rw [hQ,hP] at sc
   rw [hQ,hP]
   clear hQ hP
   simp only [e1,decide_false,cond_false,wL,wF,Int.toNat_natCast,List.getElem?_eq_getElem hLb,hbL,wT,hT1,tT,ws,wgQ N a s _ c1 hs1 hN,wgQ N b s _ c2 hs1 hN]
   generalize hAd:a * s=A at *
   generalize hDd:b * s=D at *
   obtain ⟨sc1,sc2⟩:=sc
   have lA:=weT hA
   have lD:=weT (show D < cap by omega)
   have hlen:=wgd hBA
   have hDp:0 < (digs D).length:=List.length_pos_iff.2 (wfR (show D ≠ 0 by omega))
   have w1:IntKind.i64.wrap (((digs A).length:Int) - ((digs D).length:Int))=(((digs A).length - (digs D).length:Nat):Int):=wrj hlen (by omega)
   obtain ⟨M,hM⟩:∃ M,(digs A).length - (digs D).length + 1=M:=⟨_,rfl⟩
   have w2:IntKind.i64.wrap ((((digs A).length - (digs D).length:Nat):Int) + 1)=(M:Int):=by rw [wdW (by omega),hM]
   have w3:IntKind.i64.wrap (((digs A).length:Int) - ((digs D).length:Int))=(M:Int) - 1:=by rw [w1]; omega
   have w4:IntKind.i64.wrap ((M:Int) - 1 + 1)=(M:Int):=by rw [wd (by omega) (by omega)]; omega
   have hMle:(M:Int)≤((8796093022208:Nat):Int):=by omega
   have hp:0 < 65536 ^ M:=Nat.pow_pos (by omega)
   have hR:A / 65536 ^ M < D:=by
    rw [Nat.div_lt_iff_lt_mul hp]
    refine Nat.lt_of_lt_of_le (we0 A) ?_
    rw [show (digs A).length=((digs D).length - 1) + M by omega,Nat.pow_add]
    exact Nat.mul_le_mul_right _ (wf8 (by omega))
   obtain ⟨q,f,hq,hql,hqv⟩:=wlk (α:=α) N (s:Int) A D (by omega) hB hA M (by omega) hN (fun x393 x394 x395=>wcz N x395 x393 (fun _ x397=>wcs N x394 (fun x398=>k x398 x397))) M N (Nat.le_refl _) (by omega) (A / 65536 ^ M) [] hR wgz (by simp) (by simp [val])
   rw [List.append_nil] at f
   have hql1:q.length < 4611686018427:=by clear sc1 sc2 hqv hR; omega
   have hql2:q.length < N:=by clear sc1 sc2 hqv hR; omega
   have hD0:0 < D:=by omega
   have hmod:A % D < D:=Nat.mod_lt A hD0
   have hmodc:A % D < cap:=Nat.lt_trans hmod (Nat.lt_of_le_of_lt hBA hA)
   simp only [w3,w4,weF,cond_true,Int.le_refl,decide_true,decide_eq_true hMle,Int.toNat_natCast,wmZ N (digs A) M _ (by omega) (by omega) (by omega),wpU]
   rw [f,wgJ N _ s _ hmodc hs0 hs1 hN,wgm N q _ hql1 hql2,wj9 hq hqv,sc1,sc2]
theorem wlq {α : Type} (N : Nat) (hN : cap < N) (k : List Int → Option α) : ∀ (n a b : Nat), a < cap0 → b < cap0 → b < n → wcl N n (digs a) (digs b) k = k (digs (Nat.gcd a b)) := by
  intro n
  induction n with
  | zero => intro a b h1 h2 h; omega
  | succ n ih =>
    intro a b h1 h2 h
    rw [wcl.succ]
    unfold wg5
    by_cases hb : b = 0
    · subst hb; simp [wbS]
    · have hp : (0 : Int) < ((digs b).length : Int) := by have := List.length_pos_iff.2 (wfR hb); omega
      have hm : a % b < b := Nat.mod_lt a (by omega)
      simp only [hp, decide_true, cond_true, wgH N a b _ h1 h2 hb hN]
      rw [ih b (a % b) h2 (by omega) (by omega), Nat.gcd_comm b (a % b), ← Nat.gcd_rec, Nat.gcd_comm b a]
theorem wjG {α:Type} (N a b:Nat) (k:List Int→Option α) (h1:a < cap0) (h2:b < cap0) (hN:cap < N):weL N (digs a) (digs b) k=k (digs (Nat.gcd a b)):=by
 have hst:=wix
 rw [weL.eq]
 unfold weL.b
 simp only [wgb N a _ (show a < cap by omega) hN,wgb N b _ (show b < cap by omega) hN]
 exact wlq N hN _ N a b h1 h2 (by omega)
theorem wmI {α:Type} (N a:Nat) (k:Bool→Option α):weV N (digs a) k=k (decide (a=1)):=by
 rw [weV.eq]
 unfold weV.b
 by_cases h0:a=0
 ·subst h0; simp [wbS]
 ·by_cases h1:a < 65536
  ·rw [whI h0 h1]
   have:((a:Int)=1)↔a=1:=by omega
   simp [this]
  ·have hl:¬ (((digs a).length:Nat):Int)=1:=by
    intro e
    have:(digs a).length≤1:=by omega
    have:=wia this
    omega
   have h2:¬ a=1:=by omega
   simp only [hl,h2,decide_false,cond_false]
end Go.Proofs.YtnhbcpmmdblkjaaGreatDoorAm
