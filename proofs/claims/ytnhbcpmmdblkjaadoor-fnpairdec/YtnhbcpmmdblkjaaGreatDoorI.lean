/-
  What the reference's functions on naturals compute, in plain words: sums, differences, quotients, divisors.
-/
import Derived.Test.YtnhbcpmmdblkjaaGreatDoorH
namespace Go.Proofs.YtnhbcpmmdblkjaaGreatDoorAm
open Go
set_option linter.unusedVariables false
set_option linter.unusedSimpArgs false

theorem wlO (i:Nat):(65536:Int) ^ i=((65536 ^ i:Nat):Int):=(Int.natCast_pow _ _).symm
theorem wsG {a b n:Nat} {l:List Int} (hl:Dig l) (hn:l.length=max (digs a).length (digs b).length) (hv:val l=a + b):l=digs (a + b):=by
 refine woz (wnt hl fun hne=>?_) (by rw [hv]; rfl)
 have hp:=List.length_pos_iff.2 hne
 rw [hv,hn,wlO]
 rcases Nat.le_total (digs a).length (digs b).length with h | h
 ·rw [Nat.max_eq_right h]
  have:b ≠ 0:=by intro e; subst e; simp [wbS] at h; rw [hn,h] at hp; simp [wbS] at hp
  have:=wf8 this; omega
 ·rw [Nat.max_eq_left h]
  have:a ≠ 0:=by intro e; subst e; simp [wbS] at h; rw [hn,h] at hp; simp [wbS] at hp
  have:=wf8 this; omega
theorem wlI {α : Type} (N : Nat) (a b : List Int) (ha : Dig a) (hb : Dig b) (t : Nat) (ht : t < 4611686018427) : ∀ (d i n : Nat), i + d = t → d < n → ∀ (c : Int) (o : List Int), 0 ≤ c → c ≤ 1 → Dig o → o.length = i → val o + c * 65536 ^ i = val (a.take i) + val (b.take i) →
    ∃ c' o', (∀ k : Int → List Int → Option α, wca N n a b t c i o k = k c' o') ∧ 0 ≤ c' ∧ c' ≤ 1 ∧ Dig o' ∧ o'.length = t ∧ val o' + c' * 65536 ^ t = val (a.take t) + val (b.take t) := by
  intro d
  induction d with
  | zero =>
    intro i n h hn c o c0 c1 ho hl hv
    obtain ⟨m, rfl⟩ : ∃ m, n = m + 1 := ⟨n - 1, by omega⟩
    have hit : i = t := by omega
    subst hit
    refine ⟨c, o, fun k => ?_, c0, c1, ho, hl, hv⟩
    rw [wca.succ]
    unfold wgp
    simp only [wcx (show ¬ i < i by omega), cond_false]
  | succ d ih =>
    intro i n h hn c o c0 c1 ho hl hv
    obtain ⟨m, rfl⟩ : ∃ m, n = m + 1 := ⟨n - 1, by omega⟩
    have x1 := wg0 ha i
    have x2 := wg0 hb i
    have w1 : IntKind.i64.wrap (a.getD i 0 + b.getD i 0) = a.getD i 0 + b.getD i 0 := wd (by omega) (by omega)
    have w2 : IntKind.i64.wrap (a.getD i 0 + b.getD i 0 + c) = a.getD i 0 + b.getD i 0 + c := wd (by omega) (by omega)
    have t1 := wpP (x := a.getD i 0 + b.getD i 0 + c) (by omega)
    have t2 := wsg (x := a.getD i 0 + b.getD i 0 + c) (by omega)
    have w4 : IntKind.i64.wrap ((a.getD i 0 + b.getD i 0 + c) / 65536) = (a.getD i 0 + b.getD i 0 + c) / 65536 := wd (by omega) (by omega)
    have hlen : o.length + [(a.getD i 0 + b.getD i 0 + c) % 65536].length ≤ 8796093022208 := by simp; omega
    obtain ⟨c', o', e, e1, e2, e3, e4, e5⟩ := ih (i + 1) m (by omega) (by omega) ((a.getD i 0 + b.getD i 0 + c) / 65536) (o ++ [(a.getD i 0 + b.getD i 0 + c) % 65536]) (by omega) (by omega) (wgY.2 ⟨ho, wfn.2 ⟨by omega, wgz⟩⟩) (by simp [hl]) (by
      rw [wfA, hl, weR, weR, val, val, Int.pow_succ]
      have := Int.mul_ediv_add_emod (a.getD i 0 + b.getD i 0 + c) 65536
      grind)
    refine ⟨c', o', fun k => ?_, e1, e2, e3, e4, e5⟩
    rw [wca.succ]
    unfold wgp
    simp only [wc1 (show i < t by omega), cond_true, whE, w1, w2, t1, t2, w4, decide_eq_true hlen, wdW (show i < 4611686018427387904 by omega)]
    exact e k
theorem wib {α:Type} (N a b:Nat) (k:List Int→Option α) (h1:a < cap) (h2:b < cap) (hN:cap < N):weK N (digs a) (digs b) k=k (digs (a + b)):=by
 have l1:=weT h1
 have l2:=weT h2
 have hN:=wfU hN
 rw [weK.eq]
 unfold weK.b
 have hj:∀ k1:List Int→List Int→Int→Option α,wdR N (digs a) (digs b) ((digs a).length:Int) k1=k1 (digs a) (digs b) ((max (digs a).length (digs b).length:Nat):Int):=by
  intro k1
  rw [wdR.eq]
  unfold wdR.b
  by_cases c:(digs a).length < (digs b).length
  ·simp only [wc1 c,cond_true]; rw [Nat.max_eq_right (by omega)]
  ·simp only [wcx c,cond_false]; rw [Nat.max_eq_left (by omega)]
 obtain ⟨c,o,e,c0,c1,ho,hl,hv⟩:=wlI (α:=α) N (digs a) (digs b) (wdY a) (wdY b) (max (digs a).length (digs b).length) (by omega) (max (digs a).length (digs b).length) 0 N (by omega) (by omega) 0 [] (by omega) (by omega) wgz rfl (by simp [val])
 rw [List.take_of_length_le (by omega),List.take_of_length_le (by omega),wcR,wcR] at hv
 simp only [hj]
 refine (e _).trans ?_
 rw [wdQ.eq]
 unfold wdQ.b
 by_cases h:0 < c
 ·have h3:c=1:=by omega
  subst h3
  have hlen:o.length + [(1:Int)].length≤8796093022208:=by simp; omega
  simp only [show decide ((0:Int) < 1)=true from rfl,cond_true,decide_eq_true hlen]
  congr 1
  refine woz (wnt (wgY.2 ⟨ho,wfn.2 ⟨by omega,wgz⟩⟩) fun hne=>?_) ?_
  ·rw [wfA]
   have:=wgV ho
   simp [val]; omega
  ·rw [wfA,hl,val,val]; omega
 ·simp only [h,decide_false,cond_false]
  congr 1
  have h3:c=0:=by omega
  subst h3
  exact wsG (n:=0) ho hl (by omega)
theorem wlj {α : Type} (N : Nat) (a b : List Int) (ha : Dig a) (hb : Dig b) (ht : a.length < 4611686018427) : ∀ (d i n : Nat), i + d = a.length → d < n → ∀ (c : Int) (o : List Int), 0 ≤ c → c ≤ 1 → Dig o → o.length = i → val o - c * 65536 ^ i = val (a.take i) - val (b.take i) →
    ∃ c' o', (∀ k : List Int → Option α, wbP N n a b c i o k = k o') ∧ 0 ≤ c' ∧ c' ≤ 1 ∧ Dig o' ∧ o'.length = a.length ∧ val o' - c' * 65536 ^ a.length = val a - val (b.take a.length) := by
  intro d
  induction d with
  | zero =>
    intro i n h hn c o c0 c1 ho hl hv
    obtain ⟨m, rfl⟩ : ∃ m, n = m + 1 := ⟨n - 1, by omega⟩
    have hit : i = a.length := by omega
    subst hit
    refine ⟨c, o, fun k => ?_, c0, c1, ho, hl, by rw [hv, List.take_of_length_le (Nat.le_refl _)]⟩
    rw [wbP.succ]
    unfold wfP
    simp only [wcx (show ¬ a.length < a.length by omega), cond_false]
  | succ d ih =>
    intro i n h hn c o c0 c1 ho hl hv
    obtain ⟨m, rfl⟩ : ∃ m, n = m + 1 := ⟨n - 1, by omega⟩
    have hi : i < a.length := by omega
    have x1 := wg0 ha i
    have x2 := wg0 hb i
    have w1 : IntKind.i64.wrap (a.getD i 0 - b.getD i 0) = a.getD i 0 - b.getD i 0 := wd (by omega) (by omega)
    have w2 : IntKind.i64.wrap (a.getD i 0 - b.getD i 0 - c) = a.getD i 0 - b.getD i 0 - c := wd (by omega) (by omega)
    have w3 : IntKind.i64.wrap (a.getD i 0 - b.getD i 0 - c + 65536) = a.getD i 0 - b.getD i 0 - c + 65536 := wd (by omega) (by omega)
    have key : ∀ (c1 x : Int), 0 ≤ c1 → c1 ≤ 1 → 0 ≤ x → x < 65536 → x - c1 * 65536 = a.getD i 0 - b.getD i 0 - c →
        ∃ c' o', (∀ k : List Int → Option α, wbP N m a b c1 ((i + 1 : Nat) : Int) (o ++ [x]) k = k o') ∧ 0 ≤ c' ∧ c' ≤ 1 ∧ Dig o' ∧ o'.length = a.length ∧ val o' - c' * 65536 ^ a.length = val a - val (b.take a.length) := by
      intro c1 x h0 h1 h2 h3 h4
      refine ih (i + 1) m (by omega) (by omega) c1 (o ++ [x]) h0 h1 (wgY.2 ⟨ho, wfn.2 ⟨⟨h2, h3⟩, wgz⟩⟩) (by simp [hl]) ?_
      rw [wfA, hl, weR, weR, val, val, Int.pow_succ]
      grind
    by_cases hb : a.getD i 0 - b.getD i 0 - c < 0
    · have hlen : o.length + [a.getD i 0 - b.getD i 0 - c + 65536].length ≤ 8796093022208 := by simp; omega
      obtain ⟨c', o', e, e2⟩ := key 1 (a.getD i 0 - b.getD i 0 - c + 65536) (by omega) (by omega) (by omega) (by omega) (by omega)
      refine ⟨c', o', fun k => ?_, e2⟩
      rw [wbP.succ]
      unfold wfP
      simp only [wdz.eq]
      unfold wdz.b
      simp only [wc1 hi, wF, cond_true, cond_false, Int.toNat_natCast, List.getElem?_eq_getElem hi, wbb hi, whE, w1, w2, w3, hb, decide_true, decide_eq_true hlen, wdW (show i < 4611686018427387904 by omega)]
      exact e k
    · have hlen : o.length + [a.getD i 0 - b.getD i 0 - c].length ≤ 8796093022208 := by simp; omega
      obtain ⟨c', o', e, e2⟩ := key 0 (a.getD i 0 - b.getD i 0 - c) (by omega) (by omega) (by omega) (by omega) (by omega)
      refine ⟨c', o', fun k => ?_, e2⟩
      rw [wbP.succ]
      unfold wfP
      simp only [wdz.eq]
      unfold wdz.b
      simp only [wc1 hi, wF, cond_true, cond_false, Int.toNat_natCast, List.getElem?_eq_getElem hi, wbb hi, whE, w1, w2, hb, decide_false, decide_eq_true hlen, wdW (show i < 4611686018427387904 by omega)]
      exact e k
theorem whj {α:Type} (N a b:Nat) (k:List Int→Option α) (h1:a < cap) (h2:b≤a) (hN:cap < N):wev N (digs a) (digs b) k=k (digs (a - b)):=by
 have l1:=weT h1
 have hN:=wfU hN
 rw [wev.eq]
 unfold wev.b
 obtain ⟨c,o,e,c0,c1,ho,hl,hv⟩:=wlj (α:=α) N (digs a) (digs b) (wdY a) (wdY b) (by omega) (digs a).length 0 N (by omega) (by omega) 0 [] (by omega) (by omega) wgz rfl (by simp [val])
 rw [List.take_of_length_le (wgd h2),wcR,wcR] at hv
 refine (e _).trans ?_
 have hc:c=0:=by
  have h3:=wkr ho
  rw [hl] at h3
  rcases (show c=0∨c=1 by omega) with h4 | h4
  ·exact h4
  ·subst h4; omega
 subst hc
 rw [wgm N o _ (by omega) (by omega),wj9 ho (n:=a - b) (by omega)]
end Go.Proofs.YtnhbcpmmdblkjaaGreatDoorAm
