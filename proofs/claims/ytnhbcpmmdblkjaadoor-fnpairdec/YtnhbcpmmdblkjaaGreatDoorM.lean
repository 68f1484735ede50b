/-
  What the program's functions on naturals compute, in plain words: shifts, sums.
-/
import Derived.Test.YtnhbcpmmdblkjaaGreatDoorL
namespace Go.Proofs.YtnhbcpmmdblkjaaGreatDoorAm
open Go
set_option linter.unusedVariables false
set_option linter.unusedSimpArgs false

theorem wi4 : ∀ {l : List Int} {m : Nat}, (∀ i, i < l.length → l.getD i 0 = ((m / 65536 ^ i % 65536 : Nat) : Int)) → Dig l ∧ val l = ((m % 65536 ^ l.length : Nat) : Int)
  | [], m, h => ⟨wgz, by simp [val, Nat.mod_one]⟩
  | x :: l, m, h => by
    have h0 := h 0 (by simp)
    simp only [List.getD_cons_zero, Nat.pow_zero, Nat.div_one] at h0
    have ht : ∀ i, i < l.length → l.getD i 0 = ((m / 65536 / 65536 ^ i % 65536 : Nat) : Int) := by
      intro i hi
      have := h (i + 1) (by simp; omega)
      rw [List.getD_cons_succ, Nat.pow_succ, Nat.mul_comm, ← Nat.div_div_eq_div_mul] at this
      exact this
    obtain ⟨h1, h2⟩ := wi4 ht
    refine ⟨wfn.2 ⟨by omega, h1⟩, ?_⟩
    rw [val, h2, h0, List.length_cons, Nat.pow_succ, Nat.mul_comm, Nat.mod_mul]
    omega
theorem wqe (x r:Nat) (hr:r≤16):x / 2 ^ r % 65536=x % 65536 / 2 ^ r + x / 65536 % 65536 * 2 ^ (16 - r) % 65536∧x % 65536 / 2 ^ r < 2 ^ (16 - r)∧x / 65536 % 65536 * 2 ^ (16 - r) % 65536=x / 65536 % 2 ^ r * 2 ^ (16 - r):=by
 have e:2 ^ (16 - r) * 2 ^ r=65536:=by rw [← Nat.pow_add,show 16 - r + r=16 by omega]
 have hp:0 < 2 ^ r:=Nat.pow_pos (by omega)
 have hc:0 < 2 ^ (16 - r):=Nat.pow_pos (by omega)
 generalize 2 ^ r=p at *
 generalize 2 ^ (16 - r)=c at *
 have h3:x / 65536 % 65536 * c % 65536=x / 65536 % p * c:=by
  have h:=Nat.mul_mod_mul_right c (x / 65536 % 65536) p
  rw [Nat.mul_comm p c,e] at h
  rw [h,Nat.mod_mod_of_dvd _ ⟨c,by rw [Nat.mul_comm]; exact e.symm⟩]
 have h2:x % 65536 / p < c:=by
  rw [Nat.div_lt_iff_lt_mul hp,e]; omega
 refine ⟨?_,h2,h3⟩
 rw [h3]
 have hx:x=x % 65536 + x / 65536 * c * p:=by rw [Nat.mul_assoc,e]; omega
 have hd:x / p=x % 65536 / p + x / 65536 * c:=by
  conv=>lhs; rw [hx]
  rw [Nat.add_mul_div_right _ _ hp]
 have hy:x / 65536 * c=x / 65536 % p * c + x / 65536 / p * 65536:=by
  have:=Nat.div_add_mod (x / 65536) p
  conv=>lhs; rw [← this]
  rw [← e]; grind
 have hlt:x % 65536 / p + x / 65536 % p * c < 65536:=by
  have h4:x / 65536 % p < p:=Nat.mod_lt _ hp
  have h5:(x / 65536 % p + 1) * c≤p * c:=Nat.mul_le_mul_right c h4
  rw [Nat.mul_comm p c,e] at h5
  rw [Nat.add_mul] at h5; omega
 rw [hd,hy,← Nat.add_assoc,Nat.add_mul_mod_self_right,Nat.mod_eq_of_lt hlt]
theorem wqD (n w i r:Nat):n / 65536 ^ (w + i) / 2 ^ r=n / 2 ^ (16 * w + r) / 65536 ^ i:=by
 rw [Nat.div_div_eq_div_mul,Nat.div_div_eq_div_mul]
 congr 1
 rw [Nat.pow_add,Nat.pow_add,show 2 ^ (16 * w)=65536 ^ w by rw [Nat.pow_mul]]
 grind
theorem wjo {α : Type} (N n w r : Nat) (hr : r < 16) (hn : (digs n).length ≤ 3000) (hw : w < (digs n).length) : ∀ (d i f : Nat), i + d = (digs n).length - w → d < f → ∀ (o : List Int), o.length = (digs n).length - w → (∀ m, m < i → o.getD m 0 = ((n / 2 ^ (16 * w + r) / 65536 ^ m % 65536 : Nat) : Int)) → (∀ m, i ≤ m → o.getD m 0 = ((n / 65536 ^ (w + m) % 65536 : Nat) : Int)) →
    ∃ o', (∀ k : List Int → Option α, w9 N f (digs n) w r (((digs n).length - w : Nat) : Int) i o k = k o') ∧ o'.length = (digs n).length - w ∧ (∀ m, m < o'.length → o'.getD m 0 = ((n / 2 ^ (16 * w + r) / 65536 ^ m % 65536 : Nat) : Int)) := by
  intro d
  induction d with
  | zero =>
    intro i f h hf o hl h1 h2
    obtain ⟨f, rfl⟩ : ∃ m, f = m + 1 := ⟨f - 1, by omega⟩
    refine ⟨o, fun k => ?_, hl, fun m hm => h1 m (by omega)⟩
    rw [w9.succ]
    unfold wfs
    simp only [wcx (show ¬ i < (digs n).length - w by omega), cond_false]
  | succ d ih =>
    intro i f h hf o hl h1 h2
    obtain ⟨f, rfl⟩ : ∃ m, f = m + 1 := ⟨f - 1, by omega⟩
    have hi : i < (digs n).length - w := by omega
    have hio : i < o.length := by omega
    have ho : o[i] = ((n / 65536 ^ (w + i) % 65536 : Nat) : Int) := by rw [wbb hio, h2 i (Nat.le_refl _)]
    obtain ⟨s1, s2, s3⟩ := wqe (n / 65536 ^ (w + i)) r (by omega)
    rw [wqD] at s1
    have hnext : n / 65536 ^ (w + i + 1) = n / 65536 ^ (w + i) / 65536 := by rw [Nat.pow_succ, ← Nat.div_div_eq_div_mul]
    generalize hX : n / 65536 ^ (w + i) = X at *
    have t1 : shrI .i64 ((X % 65536 : Nat) : Int) (r : Int) = ((X % 65536 / 2 ^ r : Nat) : Int) := wpR (by omega)
    have key : ∀ k1 : List Int → Int → Int → Int → Int → List Int → Option α, wcF N (digs n) w r i (((digs n).length - w : Nat) : Int) i (o.set i ((X % 65536 / 2 ^ r : Nat) : Int)) k1 = k1 (digs n) w r (((digs n).length - w : Nat) : Int) i (o.set i ((n / 2 ^ (16 * w + r) / 65536 ^ i % 65536 : Nat) : Int)) := by
      intro k1
      rw [wcF.eq]
      unfold wcF.b
      have w0 : IntKind.i64.wrap ((w : Int) + (i : Int)) = ((w + i : Nat) : Int) := wfk (by omega)
      have w1 : IntKind.i64.wrap (((w + i : Nat) : Int) + 1) = ((w + i + 1 : Nat) : Int) := wdW (by omega)
      have w2 : IntKind.i64.wrap ((16 : Int) - (r : Int)) = ((16 - r : Nat) : Int) := by rw [wd (by omega) (by omega)]; omega
      by_cases hc : w + i + 1 < (digs n).length
      · have hc2 : i < (o.set i ((X % 65536 / 2 ^ r : Nat) : Int)).length := by rw [wd4]; exact hio
        have hx : (digs n)[w + i + 1] = ((X / 65536 % 65536 : Nat) : Int) := by rw [wbb hc, wfd, hnext]
        have hs0 : (o.set i ((X % 65536 / 2 ^ r : Nat) : Int))[i] = ((X % 65536 / 2 ^ r : Nat) : Int) := by rw [List.getElem_set_self]
        have b1 : X / 65536 % 65536 * 2 ^ (16 - r) ≤ 65535 * 65536 := Nat.mul_le_mul (by omega) (show 2 ^ (16 - r) ≤ 2 ^ 16 from Nat.pow_le_pow_right (by omega) (by omega))
        have t2 : shlI .i64 ((X / 65536 % 65536 : Nat) : Int) ((16 - r : Nat) : Int) = ((X / 65536 % 65536 * 2 ^ (16 - r) : Nat) : Int) := won (by omega) (by omega)
        have t3 : bitI .and .i64 ((X / 65536 % 65536 * 2 ^ (16 - r) : Nat) : Int) 65535 = ((X / 65536 % 65536 * 2 ^ (16 - r) % 65536 : Nat) : Int) := wjv (by omega)
        have t4 : bitI .or .i64 ((X % 65536 / 2 ^ r : Nat) : Int) ((X / 65536 % 65536 * 2 ^ (16 - r) % 65536 : Nat) : Int) = ((n / 2 ^ (16 * w + r) / 65536 ^ i % 65536 : Nat) : Int) := by
          have b2 : X % 65536 / 2 ^ r ≤ X % 65536 := Nat.div_le_self _ _
          rw [wkM (by omega) (by omega), s1, s3, wqG s2]
        simp only [w0, w1, wc1 hc, wF, cond_true, cond_false, Int.toNat_natCast, decide_eq_true hc2, List.getElem?_eq_getElem hc2, List.getElem?_eq_getElem hc, hx, w2, hs0, t2, t3, t4, List.set_set]
      · have h0 : X / 65536 = 0 := by
          rw [← hnext, Nat.div_eq_of_lt]
          exact wia (by omega)
        rw [h0] at s1
        simp only [Nat.zero_mod, Nat.zero_mul, Nat.add_zero] at s1
        simp only [w0, w1, wcx hc, cond_false, s1]
    obtain ⟨o', e, e1, e2⟩ := ih (i + 1) f (by omega) (by omega) (o.set i ((n / 2 ^ (16 * w + r) / 65536 ^ i % 65536 : Nat) : Int)) (by rw [wd4]; exact hl) (fun m hm => by
      by_cases hmi : m = i
      · subst hmi; rw [wfG hio]
      · rw [wc5 (by omega), h1 m (by omega)]) (fun m hm => by rw [wc5 (by omega), h2 m (by omega)])
    refine ⟨o', fun k => ?_, e1, e2⟩
    rw [w9.succ]
    unfold wfs
    simp only [wc1 hi, wF, cond_true, cond_false, Int.toNat_natCast, decide_eq_true hio, List.getElem?_eq_getElem hio, ho, t1, key, wdW (show i < 4611686018427387904 by omega)]
    exact e k
theorem wjM {α : Type} (N a w r s : Nat) (hr : r < 16) (hs : s = 16 * w + r) (ha : (digs a).length ≤ 3000) (hw : w < 1000000) : ∀ (d i f : Nat), i + d = (digs a).length → d < f → ∀ (o : List Int), o.length = w + (digs a).length + 1 → Dig o → o.getD (w + i) 0 < 2 ^ r → (∀ m, w + i < m → o.getD m 0 = 0) → val o = 65536 ^ w * 2 ^ r * val ((digs a).take i) →
    ∃ o', (∀ k : List Int → Option α, wba N f (s : Int) (digs a) ((digs a).length : Int) i o k = k o') ∧ o'.length = w + (digs a).length + 1 ∧ Dig o' ∧ val o' = 65536 ^ w * 2 ^ r * (a : Int) := by
  intro d
  induction d with
  | zero =>
    intro i f h hf o hl h1 h2 h3 h4
    obtain ⟨f, rfl⟩ : ∃ m, f = m + 1 := ⟨f - 1, by omega⟩
    refine ⟨o, fun k => ?_, hl, h1, ?_⟩
    · rw [wba.succ]
      unfold wfv
      simp only [wcx (show ¬ i < (digs a).length by omega), cond_false]
    · rw [h4, List.take_of_length_le (by omega), wcR]
  | succ d ih =>
    intro i f h hf o hl h1 h2 h3 h4
    obtain ⟨f, rfl⟩ : ∃ m, f = m + 1 := ⟨f - 1, by omega⟩
    have hi : i < (digs a).length := by omega
    have hi1 : w + i < o.length := by omega
    have x1 := whs (wdY a) hi
    have x2 := whs h1 hi1
    rw [← wbb hi1] at h2
    obtain ⟨x, hx⟩ : ∃ x : Nat, (digs a)[i] = (x : Int) := ⟨(digs a)[i].toNat, by omega⟩
    obtain ⟨u, hu⟩ : ∃ u : Nat, o[w + i] = (u : Int) := ⟨o[w + i].toNat, by omega⟩
    have e : 2 ^ (16 - r) * 2 ^ r = 65536 := by rw [← Nat.pow_add, show 16 - r + r = 16 by omega]
    have hp : 0 < 2 ^ r := Nat.pow_pos (by omega)
    have hp2 : 2 ^ r ≤ 32768 := Nat.pow_le_pow_right (n := 2) (show 2 > 0 by omega) (show r ≤ 15 by omega)
    have ep : ((2 : Int) ^ r) = ((2 ^ r : Nat) : Int) := (Int.natCast_pow 2 r).symm
    have t1 : Int.tmod (s : Int) 16 = (r : Int) := by rw [Int.tmod_eq_emod_of_nonneg (by omega)]; omega
    have t2 : Int.tdiv (s : Int) 16 = (w : Int) := by rw [Int.tdiv_eq_ediv_of_nonneg (by omega)]; omega
    have b1 : x * 2 ^ r ≤ 65535 * 32768 := Nat.mul_le_mul (by omega) hp2
    have t3 : shlI .i64 (x : Int) (r : Int) = ((x * 2 ^ r : Nat) : Int) := won (by omega) (by omega)
    have h3' : x * 2 ^ r % 65536 = x % 2 ^ (16 - r) * 2 ^ r := by rw [← e, Nat.mul_mod_mul_right]
    have h5 : u < 2 ^ r := by rw [hu, ep] at h2; omega
    generalize hpd : 2 ^ r = p at *
    have hor : u ||| x * p % 65536 = u + x * p % 65536 := by
      rw [h3']
      have := wqG (u := u) (v := x % 2 ^ (16 - r)) (r := r) (by rw [hpd]; exact h5)
      rwa [hpd] at this
    have hlt : u + x * p % 65536 < 65536 := by
      rw [h3']
      have h6 : (x % 2 ^ (16 - r) + 1) * p ≤ 2 ^ (16 - r) * p := Nat.mul_le_mul_right p (Nat.mod_lt _ (Nat.pow_pos (by omega)))
      rw [e, Nat.add_mul] at h6; omega
    have hhi : x * p / 65536 < p := by
      rw [Nat.div_lt_iff_lt_mul (by omega)]
      have : x * p ≤ 65535 * p := Nat.mul_le_mul_right p (by omega)
      omega
    generalize hyd : x * p = y at *
    have t4 : bitI .and .i64 (y : Int) 65535 = ((y % 65536 : Nat) : Int) := wjv (by omega)
    have t5 : bitI .or .i64 (u : Int) ((y % 65536 : Nat) : Int) = ((u + y % 65536 : Nat) : Int) := by rw [wkM (by omega) (by omega), hor]
    have t6 : shrI .i64 (y : Int) (16 : Int) = ((y / 65536 : Nat) : Int) := wpR (k := 16) (by omega)
    have w0 : IntKind.i64.wrap (w : Int) = (w : Int) := wjl (by omega)
    have w1 : IntKind.i64.wrap ((w : Int) + (i : Int)) = ((w + i : Nat) : Int) := wfk (by omega)
    have w2 : IntKind.i64.wrap (((w + i : Nat) : Int) + 1) = ((w + i + 1 : Nat) : Int) := wdW (by omega)
    have hl1 : w + i + 1 < (o.set (w + i) ((u + y % 65536 : Nat) : Int)).length := by rw [wd4]; omega
    have hz : (o.set (w + i) ((u + y % 65536 : Nat) : Int)).getD (w + i + 1) 0 = 0 := by rw [wc5 (by omega), h3 _ (by omega)]
    obtain ⟨o', f1, f2, f3, f4⟩ := ih (i + 1) f (by omega) (by omega) ((o.set (w + i) ((u + y % 65536 : Nat) : Int)).set (w + i + 1) ((y / 65536 : Nat) : Int)) (by rw [wd4, wd4]; exact hl) (wim (wim h1 _ (by omega) (by omega)) _ (by omega) (by omega)) (by
      rw [show w + (i + 1) = w + i + 1 by omega, wfG hl1, ep]; omega) (fun m hm => by
      rw [wc5 (by omega), wc5 (by omega), h3 m (by omega)]) (by
      rw [wgF _ _ _ hl1, hz, wgF _ _ _ hi1, ← wbb hi1, hu, h4, weR, ← wbb hi, hx, Int.pow_succ, Int.pow_add, ep]
      have hy2 : (x : Int) * p = y := by rw [← hyd, Int.natCast_mul]
      have hy3 : ((y % 65536 : Nat) : Int) + 65536 * ((y / 65536 : Nat) : Int) = y := by omega
      rw [Int.natCast_add]
      grind)
    refine ⟨o', fun k => ?_, f2, f3, f4⟩
    rw [wba.succ]
    unfold wfv
    simp only [wc1 hi, wF, cond_true, cond_false, Int.toNat_natCast, List.getElem?_eq_getElem hi, hx, t1, t2, t3, w0, w1, w2, decide_eq_true hi1, List.getElem?_eq_getElem hi1, hu, t4, t5, t6, decide_eq_true hl1, List.getElem?_eq_getElem hl1, wdW (show i < 4611686018427387904 by omega)]
    exact f1 k
theorem wdS {α:Type} (N a s:Nat) (k:List Int→Option α) (h1:a < cap) (hs:s < 1000000) (hN:cap < N):wbq N (digs a) (s:Int) k=k (digs (a * 2 ^ s)):=by
 have l1:=weT h1
 have hN:=wfU hN
 rw [wbq.eq]
 unfold wbq.b
 have t2:Int.tdiv (s:Int) 16=((s / 16:Nat):Int):=by rw [Int.tdiv_eq_ediv_of_nonneg (by omega)]; rfl
 have w0:IntKind.i64.wrap ((s / 16:Nat):Int)=((s / 16:Nat):Int):=wjl (by omega)
 have w1:IntKind.i64.wrap (((s / 16:Nat):Int) + ((digs a).length:Int))=((s / 16 + (digs a).length:Nat):Int):=wfk (by omega)
 have w2:IntKind.i64.wrap (((s / 16 + (digs a).length:Nat):Int) + 1)=((s / 16 + (digs a).length + 1:Nat):Int):=wdW (by omega)
 have e1:((s / 16 + (digs a).length + 1:Nat):Int)≤((8796093022208:Nat):Int):=by omega
 have hz:∀ m,(List.replicate (s / 16 + (digs a).length + 1) (0:Int)).getD m 0=0:=fun m=>by
  rw [List.getD_eq_getElem?_getD,List.getElem?_replicate]; split <;> rfl
 obtain ⟨o,e,hl,ho,hv⟩:=wjM (α:=α) N a (s / 16) (s % 16) s (by omega) (by omega) l1 (by omega) (digs a).length 0 N (by omega) (by omega) (List.replicate (s / 16 + (digs a).length + 1) 0) (by simp) (wm4 _) (by rw [hz]; exact Int.pow_pos (by decide)) (fun m _=>hz m) (by rw [wk0]; simp [val])
 rw [show ((0:Nat):Int)=0 from rfl] at e
 simp only [wF,cond_false,t2,w0,w1,w2,weF,cond_true,Int.le_refl,decide_true,decide_eq_true e1,Int.toNat_natCast,e]
 rw [wfB N o _ (by omega) (by omega),wj9 ho (n:=a * 2 ^ s)]
 rw [hv]
 have:a * 2 ^ s=65536 ^ (s / 16) * 2 ^ (s % 16) * a:=by
  rw [show (65536:Nat)=2 ^ 16 by decide,← Nat.pow_mul,← Nat.pow_add,show 16 * (s / 16) + s % 16=s by omega,Nat.mul_comm]
 rw [this,Int.natCast_mul,Int.natCast_mul,Int.natCast_pow,Int.natCast_pow]; rfl
theorem whQ {α:Type} (N a s:Nat) (k:List Int→Option α) (h1:a < cap) (hs:s < 1000000) (hN:cap < N):wbq N (digs a) (-(s:Int)) k=k (digs (a / 2 ^ s)):=by
 by_cases h0:s=0
 ·subst h0
  have:=wdS N a 0 k h1 (by omega) hN
  simpa using this
 have l1:=weT h1
 have hN:=wfU hN
 rw [wbq.eq]
 unfold wbq.b
 have c0:-(s:Int) < 0:=by omega
 have w0:IntKind.i64.wrap (0 - -(s:Int))=(s:Int):=by rw [wd (by omega) (by omega)]; omega
 have t1:Int.tmod (s:Int) 16=((s % 16:Nat):Int):=by rw [Int.tmod_eq_emod_of_nonneg (by omega)]; rfl
 have t2:Int.tdiv (s:Int) 16=((s / 16:Nat):Int):=by rw [Int.tdiv_eq_ediv_of_nonneg (by omega)]; rfl
 have w1:IntKind.i64.wrap ((s / 16:Nat):Int)=((s / 16:Nat):Int):=wjl (by omega)
 have hR:a / 2 ^ s < 65536 ^ ((digs a).length - s / 16):=by
  rw [Nat.div_lt_iff_lt_mul (Nat.pow_pos (by omega))]
  refine Nat.lt_of_lt_of_le (we0 a) ?_
  by_cases hc:(digs a).length≤s / 16
  ·rw [show (digs a).length - s / 16=0 by omega,Nat.pow_zero,Nat.one_mul,show (65536:Nat)=2 ^ 16 by decide,← Nat.pow_mul]
   exact Nat.pow_le_pow_right (by omega) (by omega)
  ·conv=>lhs; rw [show (digs a).length=((digs a).length - s / 16) + s / 16 by omega,Nat.pow_add]
   refine Nat.mul_le_mul_left _ ?_
   rw [show (65536:Nat)=2 ^ 16 by decide,← Nat.pow_mul]
   exact Nat.pow_le_pow_right (by omega) (by omega)
 by_cases hc:(digs a).length≤s / 16
 ·have c1:((digs a).length:Int)≤((s / 16:Nat):Int):=by omega
  simp only [c0,decide_true,cond_true,w0,t2,w1,c1]
  rw [show (digs a).length - s / 16=0 by omega,Nat.pow_zero] at hR
  rw [Nat.lt_one_iff.1 hR,wbS]
 ·have c1:¬ ((digs a).length:Int)≤((s / 16:Nat):Int):=by omega
  have c2:((s / 16:Nat):Int)≤((digs a).length:Int):=by omega
  have hld:((digs a).drop (s / 16)).length=(digs a).length - s / 16:=List.length_drop
  have hcl:∀ k1:List Int→Option α,wc7 N ((digs a).drop (s / 16)) k1=k1 ((digs a).drop (s / 16)):=by
   intro k1
   unfold wc7
   have:([]:List Int).length + ((digs a).drop (s / 16)).length≤8796093022208:=by simp; omega
   simp only [decide_eq_true this,cond_true]
  obtain ⟨o,e,hl,hd⟩:=wjo (α:=α) N a (s / 16) (s % 16) (by omega) l1 (by omega) ((digs a).length - s / 16) 0 N (by omega) (by omega) ((digs a).drop (s / 16)) hld (fun m hm=>by omega) (fun m _=>by
   rw [List.getD_eq_getElem?_getD,List.getElem?_drop,← List.getD_eq_getElem?_getD,wfd])
  rw [show ((0:Nat):Int)=0 from rfl] at e
  simp only [c0,c1,decide_true,decide_false,cond_true,cond_false,w0,t1,t2,w1,weF,decide_eq_true c2,Int.toNat_natCast,hcl,hld,e]
  obtain ⟨h2,h3⟩:=wi4 hd
  rw [show 16 * (s / 16) + s % 16=s by omega,hl,Nat.mod_eq_of_lt hR] at h3
  rw [wfB N o _ (by omega) (by omega),wj9 h2 h3]
theorem wkT {α : Type} (N : Nat) (b : List Int) (hb : Dig b) : ∀ (d i f : Nat), i + d = b.length → d < f → ∀ (o : List Int), b.length < o.length → o.length < 1000000 → (∀ m, 0 ≤ o.getD m 0) → (∀ m, m < i → o.getD m 0 ≤ 131070) → (∀ m, i ≤ m → o.getD m 0 ≤ 65535) →
    ∃ o', (∀ k : List Int → Option α, wbE N f b (b.length : Int) i o k = k o') ∧ o'.length = o.length ∧ (∀ m, 0 ≤ o'.getD m 0) ∧ (∀ m, o'.getD m 0 ≤ 131070) ∧ (∀ m, b.length ≤ m → o'.getD m 0 = o.getD m 0) ∧ val o' = val o + 65536 ^ i * val (b.drop i) := by
  intro d
  induction d with
  | zero =>
    intro i f h hf o hl hl2 h0 h1 h2
    obtain ⟨f, rfl⟩ : ∃ m, f = m + 1 := ⟨f - 1, by omega⟩
    refine ⟨o, fun k => ?_, rfl, h0, fun m => ?_, fun _ _ => rfl, ?_⟩
    · rw [wbE.succ]
      unfold wfV
      simp only [wcx (show ¬ i < b.length by omega), cond_false]
    · by_cases hm : m < i
      · exact h1 m hm
      · have := h2 m (by omega); omega
    · rw [List.drop_of_length_le (by omega)]; simp [val]
  | succ d ih =>
    intro i f h hf o hl hl2 h0 h1 h2
    obtain ⟨f, rfl⟩ : ∃ m, f = m + 1 := ⟨f - 1, by omega⟩
    have hi : i < b.length := by omega
    have hio : i < o.length := by omega
    have x1 := whs hb hi
    have x2 := h0 i
    have x3 := h2 i (Nat.le_refl _)
    rw [← wbb hio] at x2 x3
    have w1 : IntKind.i64.wrap (o[i] + b[i]) = o[i] + b[i] := wd (by omega) (by omega)
    have hget : ∀ m, (o.set i (o[i] + b[i])).getD m 0 = if m = i then o[i] + b[i] else o.getD m 0 := by
      intro m
      by_cases hm : m = i
      · subst hm; rw [wfG hio, if_pos rfl]
      · rw [wc5 (by omega), if_neg hm]
    obtain ⟨o', e, e1, e2, e3, e4, e5⟩ := ih (i + 1) f (by omega) (by omega) (o.set i (o[i] + b[i])) (by rw [wd4]; exact hl) (by rw [wd4]; exact hl2) (fun m => by
      rw [hget]; split
      · omega
      · exact h0 m) (fun m hm => by
      rw [hget]; split
      · omega
      · exact h1 m (by omega)) (fun m hm => by
      rw [hget, if_neg (by omega)]; exact h2 m (by omega))
    refine ⟨o', fun k => ?_, by rw [e1, wd4], e2, e3, fun m hm => by rw [e4 m hm, wc5 (by omega)], ?_⟩
    · rw [wbE.succ]
      unfold wfV
      simp only [wc1 hi, wF, cond_true, cond_false, Int.toNat_natCast, List.getElem?_eq_getElem hi, decide_eq_true hio, List.getElem?_eq_getElem hio, w1, wdW (show i < 4611686018427387904 by omega)]
      exact e k
    · rw [e5, wgF _ _ _ hio, ← wbb hio, wej b i, ← wbb hi, Int.pow_succ]
      grind
theorem wj4 {α : Type} (N t : Nat) (ht : t < 1000000) : ∀ (d i f : Nat), i + d = t → d < f → ∀ (o : List Int), o.length = t + 1 → (∀ m, 0 ≤ o.getD m 0) → (∀ m, m < i → o.getD m 0 ≤ 65535) → (o.getD i 0 ≤ 131071) → (∀ m, i < m → o.getD m 0 ≤ 131070) → (o.getD t 0 ≤ if i = t then 1 else 0) →
    ∃ o', (∀ k : List Int → Option α, wbG N f (t : Int) i o k = k o') ∧ o'.length = t + 1 ∧ Dig o' ∧ val o' = val o := by
  intro d
  induction d with
  | zero =>
    intro i f h hf o hl h0 h1 h2 h3 h4
    obtain ⟨f, rfl⟩ : ∃ m, f = m + 1 := ⟨f - 1, by omega⟩
    have hit : i = t := by omega
    subst hit
    refine ⟨o, fun k => ?_, hl, ?_, rfl⟩
    · rw [wbG.succ]
      unfold wf1
      simp only [wcx (show ¬ i < i by omega), cond_false]
    · intro x hx
      obtain ⟨m, hm, rfl⟩ := List.mem_iff_getElem.1 hx
      rw [wbb hm]
      rw [if_pos rfl] at h4
      have := h0 m
      by_cases hmi : m = i
      · subst hmi; omega
      · have := h1 m (by omega); omega
  | succ d ih =>
    intro i f h hf o hl h0 h1 h2 h3 h4
    obtain ⟨f, rfl⟩ : ∃ m, f = m + 1 := ⟨f - 1, by omega⟩
    have hi : i < t := by omega
    have hio : i < o.length := by omega
    have hi1 : i + 1 < o.length := by omega
    have x0 := h0 i
    have x1 := h0 (i + 1)
    have x2 := h3 (i + 1) (by omega)
    rw [if_neg (by omega)] at h4
    obtain ⟨x, hx⟩ : ∃ x : Nat, o[i] = (x : Int) := ⟨o[i].toNat, by rw [wbb hio]; omega⟩
    obtain ⟨y, hy⟩ : ∃ y : Nat, o[i + 1] = (y : Int) := ⟨o[i + 1].toNat, by rw [wbb hi1]; omega⟩
    rw [← wbb hio, hx] at h2
    rw [← wbb hi1, hy] at x2
    have t1 : shrI .i64 (x : Int) (16 : Int) = ((x / 65536 : Nat) : Int) := wpR (k := 16) (by omega)
    have t2 : bitI .and .i64 (x : Int) 65535 = ((x % 65536 : Nat) : Int) := wjv (by omega)
    have w1 : IntKind.i64.wrap ((y : Int) + ((x / 65536 : Nat) : Int)) = ((y + x / 65536 : Nat) : Int) := wfk (by omega)
    have hs1 : i < (o.set (i + 1) ((y + x / 65536 : Nat) : Int)).length := by rw [wd4]; exact hio
    have hs2 : (o.set (i + 1) ((y + x / 65536 : Nat) : Int))[i] = (x : Int) := by rw [List.getElem_set_ne (by omega), hx]
    have hget : ∀ m, ((o.set (i + 1) ((y + x / 65536 : Nat) : Int)).set i ((x % 65536 : Nat) : Int)).getD m 0 = if m = i then ((x % 65536 : Nat) : Int) else if m = i + 1 then ((y + x / 65536 : Nat) : Int) else o.getD m 0 := by
      intro m
      by_cases hm : m = i
      · subst hm; rw [wfG hs1, if_pos rfl]
      · rw [wc5 (by omega), if_neg hm]
        by_cases hm2 : m = i + 1
        · subst hm2; rw [wfG hi1, if_pos rfl]
        · rw [wc5 (by omega), if_neg hm2]
    have x3 : o.getD (i + 1) 0 = (y : Int) := by rw [← wbb hi1, hy]
    have h4' := h4
    obtain ⟨o', e, e1, e2, e3⟩ := ih (i + 1) f (by omega) (by omega) ((o.set (i + 1) ((y + x / 65536 : Nat) : Int)).set i ((x % 65536 : Nat) : Int)) (by rw [wd4, wd4]; exact hl) (fun m => by
      rw [hget]; split
      · omega
      · split
        · omega
        · exact h0 m) (fun m hm => by
      rw [hget]; split
      · omega
      · rw [if_neg (by omega)]; exact h1 m (by omega)) (by
      rw [hget, if_neg (by omega), if_pos rfl]; omega) (fun m hm => by
      rw [hget, if_neg (by omega), if_neg (by omega)]; exact h3 m (by omega)) (by
      rw [hget, if_neg (by omega)]
      by_cases hm : t = i + 1
      · rw [if_pos hm, if_pos hm.symm]
        rw [hm, x3] at h4'; omega
      · rw [if_neg hm, if_neg (by omega)]; exact h4)
    refine ⟨o', fun k => ?_, e1, e2, ?_⟩
    · rw [wbG.succ]
      unfold wf1
      simp only [wc1 hi, wF, cond_true, cond_false, Int.toNat_natCast, wdW (show i < 4611686018427387904 by omega), decide_eq_true hi1, List.getElem?_eq_getElem hi1, hy, decide_eq_true hio, List.getElem?_eq_getElem hio, hx, t1, w1, decide_eq_true hs1, List.getElem?_eq_getElem hs1, hs2, t2]
      exact e k
    · rw [e3, wgF _ _ _ hs1, ← wbb hs1, hs2, wgF _ _ _ hi1, ← wbb hi1, hy, Int.pow_succ]
      have : ((x % 65536 : Nat) : Int) + 65536 * ((x / 65536 : Nat) : Int) = x := by omega
      rw [Int.natCast_add]
      grind
theorem wmc {α:Type} (N a b:Nat) (k:List Int→Option α) (h1:a < cap) (h2:b < cap) (hN:cap < N):weG N (digs a) (digs b) k=k (digs (a + b)):=by
 have l1:=weT h1
 have l2:=weT h2
 have hN:=wfU hN
 rw [weG.eq]
 unfold weG.b
 obtain ⟨t,ht⟩:∃ t,max (digs a).length (digs b).length=t:=⟨_,rfl⟩
 have m1:maxI ((digs a).length:Int) ((digs b).length:Int)=(t:Int):=by unfold maxI; split <;> omega
 have w1:IntKind.i64.wrap ((t:Int) + 1)=((t + 1:Nat):Int):=wdW (by omega)
 have e1:((t + 1:Nat):Int)≤((8796093022208:Nat):Int):=by omega
 have e2:min (digs a).length (List.replicate (t + 1) (0:Int)).length=(digs a).length:=by rw [List.length_replicate]; omega
 have e3:List.take (digs a).length (digs a)=digs a:=List.take_of_length_le (Nat.le_refl _)
 have e4:List.drop (digs a).length (List.replicate (t + 1) (0:Int))=List.replicate (t + 1 - (digs a).length) 0:=List.drop_replicate
 have hget:∀ m,(digs a++List.replicate (t + 1 - (digs a).length) (0:Int)).getD m 0=(digs a).getD m 0:=by
  intro m
  by_cases hm:m < (digs a).length
  ·rw [List.getD_eq_getElem?_getD,List.getElem?_append_left hm,← List.getD_eq_getElem?_getD]
  ·rw [List.getD_eq_getElem?_getD,List.getElem?_append_right (by omega),List.getElem?_replicate,wlJ (by omega)]; split <;> rfl
 have hd:=fun m=>wg0 (wdY a) m
 obtain ⟨o,f1,f2,f3,f4,f5,f6⟩:=wkT (α:=α) N (digs b) (wdY b) (digs b).length 0 N (by omega) (by omega) (digs a++List.replicate (t + 1 - (digs a).length) 0) (by simp; omega) (by simp; omega) (fun m=>by rw [hget]; exact (hd m).1) (fun m hm=>by omega) (fun m _=>by rw [hget]; have:=hd m; omega)
 have ol:o.length=t + 1:=by rw [f2]; simp; omega
 have w2:IntKind.i64.wrap (((t + 1:Nat):Int) - 1)=(t:Int):=wi2 (by omega)
 obtain ⟨o2,g1,g2,g3,g4⟩:=wj4 (α:=α) N t (by omega) t 0 N (by omega) (by omega) o ol f3 (fun m hm=>by omega) (by have:=f4 0; omega) (fun m _=>f4 m) (by
  rw [f5 t (by omega),hget,wlJ (by omega)]; split <;> omega)
 rw [show ((0:Nat):Int)=0 from rfl] at f1 g1
 simp only [m1,w1,weF,cond_true,Int.le_refl,decide_true,decide_eq_true e1,Int.toNat_natCast,e2,e3,e4,f1,ol,w2,g1]
 rw [wfB N o2 _ (by omega) (by omega),wj9 g3 (n:=a + b)]
 rw [g4,f6,wfA,wk0,List.drop_zero,wcR,wcR]
 simp
end Go.Proofs.YtnhbcpmmdblkjaaGreatDoorAm
