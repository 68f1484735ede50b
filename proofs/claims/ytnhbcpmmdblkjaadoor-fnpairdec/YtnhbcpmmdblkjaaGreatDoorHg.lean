/-
  Literals: what the reference reads.
-/
import Derived.Test.YtnhbcpmmdblkjaaGreatDoorHb
import Derived.Test.YtnhbcpmmdblkjaaGreatDoorGf
namespace Go.Proofs.YtnhbcpmmdblkjaaGreatDoorAm
open Go
set_option linter.unusedVariables false
set_option linter.unusedSimpArgs false

def wgK (m:Bool) (l:List UInt8):Option Int :=
 if (digT l).length=0∨3 < (digT l).length∨(1 < (digT l).length∧l[0]?=some 48)∨(m=true∧l[0]?=some 48)∨400 < valT (digT l) then none
 else some (if m=true then -(valT (digT l):Int) else (valT (digT l):Int))
theorem wpC {m:Bool} {l:List UInt8}:expS m l=if digR l=[] then wgK m l else none:=by
 unfold expS wgK
 by_cases h:digR l=[]
 ·rw [if_pos h]
  by_cases h2:(digT l).length=0∨3 < (digT l).length∨(1 < (digT l).length∧l[0]?=some 48)∨(m=true∧l[0]?=some 48)∨400 < valT (digT l)
  ·rw [if_pos h2,if_pos]
   rcases h2 with q | q | q | q | q
   ·exact .inl q
   ·exact .inr (.inl q)
   ·exact .inr (.inr (.inl q))
   ·exact .inr (.inr (.inr (.inl q)))
   ·exact .inr (.inr (.inr (.inr (.inl q))))
  ·have h3:¬ ((digT l).length=0∨3 < (digT l).length∨(1 < (digT l).length∧l[0]?=some 48)∨(m=true∧l[0]?=some 48)∨400 < valT (digT l)∨digR l ≠ []):=by
    rintro (q | q | q | q | q | q)
    ·exact h2 (.inl q)
    ·exact h2 (.inr (.inl q))
    ·exact h2 (.inr (.inr (.inl q)))
    ·exact h2 (.inr (.inr (.inr (.inl q))))
    ·exact h2 (.inr (.inr (.inr (.inr q))))
    ·exact q h
   rw [if_neg h2,if_neg h3]
 ·rw [if_neg h,if_pos (.inr (.inr (.inr (.inr (.inr h)))))]
theorem wj5 {pre l:List UInt8} {j:Nat}:(pre++l)[pre.length + j]?=l[j]?:=by
 rw [List.getElem?_append_right (by omega),Nat.add_sub_cancel_left]
theorem wpD {a:UInt8} {n:Nat} (hn:n < 256):((a.toNat:Nat):Int)=(n:Int)↔a=UInt8.ofNat n:=by
 constructor
 ·intro h
  have:a.toNat=n:=by omega
  rw [← UInt8.ofNat_toNat (x:=a),this]
 ·intro h; rw [h]; simp; omega
theorem win {α:Type} (N:Nat) (s p l:List UInt8) (hs:s=p++l) (hl:s.length≤60) (k:Int→Option α) (hN:1048576 < N):wcA N (BA s) (p.length:Int) k=k ((digT l).length:Int):=by
 have e:=wgA l
 have hb:(p++(digT l++digR l)).length≤100000:=by rw [e,← hs]; omega
 have:=wqS (α:=α) N p (digT l) (digR l) (wgT l) (wiu l) hb k hN
 rwa [e,← hs] at this
theorem wqQ {α : Type} (N : Nat) (s p d r : List UInt8) (hs : s = p ++ (d ++ r)) (hl : s.length ≤ 60) (hd : d.length ≤ 3) (ha : d.all wff = true) (dg : ByteArray) (b : Int) (m : Bool) (K : ByteArray → ByteArray → Int → Int → Int → Bool → Int → Option α) : ∀ (c j f v : Nat), j + c = d.length → c < f → v < 10 ^ j →
    wH N f (BA s) dg b (p.length : Int) (v : Int) m (d.length : Int) ((p.length + j : Nat) : Int) K = K (BA s) dg b (p.length : Int) (((d.drop j).foldl wgf v : Nat) : Int) m (d.length : Int) := by
  have hlen : s.length = p.length + (d.length + r.length) := by rw [hs]; simp
  have w1 : IntKind.i64.wrap ((p.length : Int) + (d.length : Int)) = ((p.length + d.length : Nat) : Int) := by rw [wd (by omega) (by omega)]; omega
  intro c
  induction c with
  | zero =>
    intro j f v h hf hv
    obtain ⟨f, rfl⟩ : ∃ m, f = m + 1 := ⟨f - 1, by omega⟩
    rw [wH.succ]
    unfold wfK
    simp only [w1, wcx (show ¬ p.length + j < p.length + d.length by omega), cond_false, List.drop_of_length_le (show d.length ≤ j by omega), List.foldl_nil]
  | succ c ih =>
    intro j f v h hf hv
    obtain ⟨f, rfl⟩ : ∃ m, f = m + 1 := ⟨f - 1, by omega⟩
    have hj : j < d.length := by omega
    have hg : s[p.length + j]? = some d[j] := by
      rw [hs, wj5, List.getElem?_append_left hj, List.getElem?_eq_getElem hj]
    have hx : wff d[j] = true := List.all_eq_true.1 ha _ (List.getElem_mem hj)
    have hx2 := whl hx
    have hp : 10 ^ j ≤ 10 ^ 2 := Nat.pow_le_pow_right (by omega) (by omega)
    have h100 : (10 : Nat) ^ 2 = 100 := rfl
    have hv2 : wgf v d[j] < 10 ^ (j + 1) := by unfold wgf; rw [Nat.pow_succ]; omega
    have w2 : IntKind.u8.wrap (((d[j].toNat : Nat) : Int) - 48) = ((d[j].toNat - 48 : Nat) : Int) := by
      simp [IntKind.wrap, IntKind.bits, IntKind.signed]; omega
    have w3 : IntKind.i64.wrap ((v : Int) * 10) = ((v * 10 : Nat) : Int) := by rw [wd (by omega) (by omega)]; omega
    have w4 : IntKind.i64.wrap ((d[j].toNat - 48 : Nat) : Int) = ((d[j].toNat - 48 : Nat) : Int) := wd (by omega) (by omega)
    have w5 : IntKind.i64.wrap (((v * 10 : Nat) : Int) + ((d[j].toNat - 48 : Nat) : Int)) = ((wgf v d[j] : Nat) : Int) := by unfold wgf; rw [wd (by omega) (by omega)]; omega
    rw [wH.succ]
    unfold wfK
    simp only [w1, wc1 (show p.length + j < p.length + d.length by omega), cond_true, wF, cond_false, Int.toNat_natCast, wgD, hg, w2, w3, w4, w5, wdW (show p.length + j < 4611686018427387904 by omega), List.drop_eq_getElem_cons hj, List.foldl_cons]
    exact ih (j + 1) f (wgf v d[j]) (by omega) (by omega) hv2
theorem wsf {α:Type} (N:Nat) (a b:ByteArray) (c d:Int) (x:Nat) (hx:x≤400) (m:Bool) (y:Int) (k:ByteArray→ByteArray→Int→Int→Int→Int→Option α):wV N a b c d (x:Int) m y k=k a b c d (if m=true then -(x:Int) else (x:Int)) y:=by
 rw [wV.eq]
 unfold wV.b
 cases m
 ·rfl
 ·have w:IntKind.i64.wrap (0 - (x:Int))=-(x:Int):=by rw [wd (by omega) (by omega)]; omega
  simp only [cond_true,w,if_true]
theorem wqW {α:Type} (N:Nat) (a b:ByteArray) (c:Int) (n:Nat) (hn:n≤100) (e:Int) (m:Bool) (k:ByteArray→ByteArray→Int→Int→Int→Bool→Option α):wcM N a b c (n:Int) e m k=k a b c ((if m=true then n + 1 else n:Nat):Int) e m:=by
 rw [wcM.eq]
 unfold wcM.b
 cases m
 ·rfl
 ·simp only [cond_true,wdW (show n < 4611686018427387904 by omega),if_true]
theorem wt5 {α : Type} (N : Nat) (s pre r2 : List UInt8) (hs : s = pre ++ r2) (hl : s.length ≤ 60) (dg : ByteArray) (b : Int) (k0 : ByteArray → Int → Int → Bool → Option α) (k1 : ByteArray → ByteArray → Int → Int → Int → Option α) (hN : 1048576 < N) :
    wb6 N (BA s) dg b ((pre.length : Nat) : Int) 0 k0 k1 = match (generalizing := false) r2 with
      | [] => k1 (BA s) dg b ((pre.length : Nat) : Int) 0
      | c :: r3 => if c = 101 then (match wgK (weZ r3).1 (weZ r3).2 with
        | none => k0 ByteArray.empty 0 0 false
        | some q => k1 (BA s) dg b ((s.length - (digR (weZ r3).2).length : Nat) : Int) q) else k1 (BA s) dg b ((pre.length : Nat) : Int) 0 := by
  rw [wb6.eq]
  unfold wb6.b
  simp only [weh]
  cases r2 with
  | nil =>
    have hlen : s.length = pre.length := by rw [hs]; simp
    simp only [wcx (show ¬ pre.length < s.length by omega), cond_false]
  | cons c r3 =>
    have hlen : s.length = pre.length + (r3.length + 1) := by rw [hs]; simp
    have hg0 : s[pre.length]? = some c := by
      have := wj5 (pre := pre) (l := c :: r3) (j := 0)
      rw [← hs] at this
      simpa using this
    have h101 : ((c.toNat : Nat) : Int) = 101 ↔ c = 101 := wpD (a := c) (n := 101) (by omega)
    simp only [wc1 (show pre.length < s.length by omega), cond_true, wF, cond_false, Int.toNat_natCast, wgD, hg0]
    by_cases hc : ¬ c = 101
    · have g101 : ¬ ((c.toNat : Nat) : Int) = 101 := fun q => hc (h101.1 q)
      simp only [g101, hc, decide_false, cond_false, if_false]
    have hc : c = 101 := Classical.not_not.1 hc
    have g101 := h101.2 hc
    simp only [g101, decide_true, cond_true, if_pos hc, wdW (show pre.length < 4611686018427387904 by omega)]
    cases r3 with
    | nil =>
      have hm : weZ [] = (false, []) := rfl
      have e : wgK false [] = none := rfl
      have hdig := fun K => win (α := α) N s (pre ++ [c]) [] (by rw [hs]; simp) hl K hN
      have hlen2 : (pre ++ [c]).length = pre.length + 1 := by simp
      rw [hlen2] at hdig
      have hd0 : (digT []).length = 0 := rfl
      have hlen3 : s.length = pre.length + 1 := by rw [hlen]; simp
      simp only [wcx (show ¬ pre.length + 1 < s.length by omega), cond_false, wqW N _ _ _ (pre.length + 1) (show pre.length + 1 ≤ 100 by omega), Bool.false_eq_true, if_false, hdig, hd0, Int.natCast_zero, decide_true, cond_true, hm, e]
    | cons d r4 =>
      have hg1 : s[pre.length + 1]? = some d := by
        have := wj5 (pre := pre) (l := c :: d :: r4) (j := 1)
        rw [← hs] at this
        simpa using this
      have h45 : ((d.toNat : Nat) : Int) = 45 ↔ d = 45 := wpD (a := d) (n := 45) (by omega)
      have hll : (d :: r4).length = r4.length + 1 := rfl
      simp only [wc1 (show pre.length + 1 < s.length by omega), cond_true, wF, cond_false, Int.toNat_natCast, wgD, hg1]
      by_cases hd : d = 45
      · subst hd
        have g45 := h45.2 rfl
        have hm : weZ (45 :: r4) = (true, r4) := rfl
        obtain ⟨P, hPd⟩ : ∃ P, P = pre ++ [c, 45] := ⟨_, rfl⟩
        have hs2 : s = P ++ r4 := by rw [hPd, hs]; simp
        have hP : P.length = pre.length + 1 + 1 := by rw [hPd]; simp
        have hdig := fun K => win (α := α) N s P r4 hs2 hl K hN
        have htl := congrArg List.length (wgA r4)
        rw [List.length_append] at htl
        rw [hP] at hdig
        simp only [g45, decide_true, wqW N _ _ _ (pre.length + 1) (show pre.length + 1 ≤ 100 by omega), if_true, hm, cond_true]
        have main : ∀ K, wcA N (BA s) ((pre.length + 1 + 1 : Nat) : Int) K = K ((digT r4).length : Int) := hdig
        have hD := wgT r4
        by_cases k0' : (digT r4).length = 0
        · have z : (((digT r4).length : Nat) : Int) = 0 := by omega
          have e : wgK true r4 = none := by unfold wgK; rw [if_pos (.inl k0')]
          simp only [main, z, decide_true, cond_true, e]
        have z : ¬ (((digT r4).length : Nat) : Int) = 0 := by omega
        by_cases k3 : 3 < (digT r4).length
        · have z3 : (3 : Int) < (((digT r4).length : Nat) : Int) := by omega
          have e : wgK true r4 = none := by unfold wgK; rw [if_pos (.inr (.inl k3))]
          simp only [main, z, z3, decide_true, decide_false, cond_true, cond_false, e]
        have z3 : ¬ (3 : Int) < (((digT r4).length : Nat) : Int) := by omega
        obtain ⟨ch, hch⟩ : ∃ ch, r4[0]? = some ch := ⟨_, List.getElem?_eq_getElem (show 0 < (r4).length by omega)⟩
        have hg : s[pre.length + 1 + 1]? = some ch := by
          have := wj5 (pre := P) (l := r4) (j := 0)
          rw [← hs2, Nat.add_zero, hP] at this
          rw [this, hch]
        have h48 := wpD (a := ch) (n := 48) (by omega)
        have h48 : ((ch.toNat : Nat) : Int) = 48 ↔ ch = 48 := h48
        have hloop := fun K => wqQ (α := α) N s P (digT r4) (digR r4) (by rw [wgA]; exact hs2) hl (by omega) hD dg b true K (digT r4).length 0 N 0 (by omega) (by omega) (by simp)
        simp only [hP, Nat.add_zero, List.drop_zero, Int.natCast_zero] at hloop
        have hval : (digT r4).foldl wgf 0 = valT (digT r4) := rfl
        have hw : IntKind.i64.wrap (((pre.length + 1 + 1 : Nat) : Int) + (((digT r4).length : Nat) : Int)) = ((s.length - (digR r4).length : Nat) : Int) := by rw [wd (by omega) (by omega)]; omega
        have hfin : (ch = 48 → ¬ 1 < (digT r4).length ∧ ¬ true = true) → ∀ (F : Option α) (k2 : ByteArray → ByteArray → Int → Int → Int → Option α), F = k0 ByteArray.empty 0 0 false → k2 = k1 →
            wH N N (BA s) dg b ((pre.length + 1 + 1 : Nat) : Int) 0 true (((digT r4).length : Nat) : Int) ((pre.length + 1 + 1 : Nat) : Int) (fun x1 x2 x3 x4 x5 x6 x7 => bif decide ((400 : Int) < x5) then F else wV N x1 x2 x3 x4 x5 x6 x7 (fun y1 y2 y3 y4 y5 y6 => k2 y1 y2 y3 (IntKind.i64.wrap (y4 + y6)) y5)) = match wgK true r4 with
            | none => k0 ByteArray.empty 0 0 false
            | some q => k1 (BA s) dg b ((s.length - (digR r4).length : Nat) : Int) q := by
          intro hc F k2 hF hk2
          subst hF; subst hk2
          rw [hloop, hval]
          by_cases h4 : 400 < valT (digT r4)
          · have z4 : (400 : Int) < ((valT (digT r4) : Nat) : Int) := by omega
            have e : wgK true r4 = none := by unfold wgK; rw [if_pos (.inr (.inr (.inr (.inr h4))))]
            simp only [z4, decide_true, cond_true, e]
          · have z4 : ¬ (400 : Int) < ((valT (digT r4) : Nat) : Int) := by omega
            have hn : ¬ ((digT r4).length = 0 ∨ 3 < (digT r4).length ∨ (1 < (digT r4).length ∧ r4[0]? = some 48) ∨ (true = true ∧ r4[0]? = some 48) ∨ 400 < valT (digT r4)) := by
              rintro (q | q | ⟨q, q'⟩ | ⟨q, q'⟩ | q)
              · exact k0' q
              · exact k3 q
              · rw [hch] at q'; simp only [Option.some.injEq] at q'; exact (hc q').1 q
              · rw [hch] at q'; simp only [Option.some.injEq] at q'; exact (hc q').2 q
              · exact h4 q
            have e : wgK true r4 = some (if true = true then -(valT (digT r4) : Int) else (valT (digT r4) : Int)) := by unfold wgK; rw [if_neg hn]
            simp only [z4, decide_false, cond_false, wsf N _ _ _ _ (valT (digT r4)) (show valT (digT r4) ≤ 400 by omega), hw, e]
        by_cases k48 : ch = 48
        · have g48 := h48.2 k48
          by_cases k1' : 1 < (digT r4).length
          · have z1 : (1 : Int) < (((digT r4).length : Nat) : Int) := by omega
            have e : wgK true r4 = none := by unfold wgK; rw [if_pos (.inr (.inr (.inl ⟨k1', by rw [hch, k48]⟩)))]
            simp only [main, z, z3, z1, decide_true, decide_false, cond_true, cond_false, wF, Int.toNat_natCast, wgD, hg, g48, e]
          · have z1 : ¬ (1 : Int) < (((digT r4).length : Nat) : Int) := by omega
            have e : wgK true r4 = none := by unfold wgK; rw [if_pos (.inr (.inr (.inr (.inl ⟨rfl, by rw [hch, k48]⟩))))]
            simp only [main, z, z3, z1, decide_true, decide_false, cond_true, cond_false, wF, Int.toNat_natCast, wgD, hg, g48, e]
        · have g48 : ¬ ((ch.toNat : Nat) : Int) = 48 := fun q => k48 (h48.1 q)
          have hfin := hfin (fun q => absurd q k48) _ _ rfl rfl
          by_cases k1' : 1 < (digT r4).length
          · have z1 : (1 : Int) < (((digT r4).length : Nat) : Int) := by omega
            simp only [main, z, z3, z1, decide_true, decide_false, cond_true, cond_false, wF, Int.toNat_natCast, wgD, hg, g48]
            exact hfin
          · have z1 : ¬ (1 : Int) < (((digT r4).length : Nat) : Int) := by omega
            simp only [main, z, z3, z1, decide_true, decide_false, cond_true, cond_false, wF, Int.toNat_natCast, wgD, hg, g48]
            exact hfin
      · have g45 : ¬ ((d.toNat : Nat) : Int) = 45 := fun q => hd (h45.1 q)
        have hm : weZ (d :: r4) = (false, d :: r4) := by
          unfold weZ; rw [if_neg]; simpa using hd
        obtain ⟨P, hPd⟩ : ∃ P, P = pre ++ [c] := ⟨_, rfl⟩
        have hs2 : s = P ++ d :: r4 := by rw [hPd, hs]; simp
        have hP : P.length = pre.length + 1 := by rw [hPd]; simp
        have hdig := fun K => win (α := α) N s P (d :: r4) hs2 hl K hN
        have htl := congrArg List.length (wgA (d :: r4))
        rw [List.length_append] at htl
        rw [hP] at hdig
        obtain ⟨l, hld⟩ : ∃ l, l = d :: r4 := ⟨_, rfl⟩
        rw [← hld] at hs2 hdig htl hm hll hlen ⊢
        simp only [g45, decide_false, wqW N _ _ _ (pre.length + 1) (show pre.length + 1 ≤ 100 by omega), Bool.false_eq_true, if_false, hm, cond_false]
        have main : ∀ K, wcA N (BA s) ((pre.length + 1 : Nat) : Int) K = K ((digT l).length : Int) := hdig
        have hD := wgT l
        by_cases k0' : (digT l).length = 0
        · have z : (((digT l).length : Nat) : Int) = 0 := by omega
          have e : wgK false l = none := by unfold wgK; rw [if_pos (.inl k0')]
          simp only [main, z, decide_true, cond_true, e]
        have z : ¬ (((digT l).length : Nat) : Int) = 0 := by omega
        by_cases k3 : 3 < (digT l).length
        · have z3 : (3 : Int) < (((digT l).length : Nat) : Int) := by omega
          have e : wgK false l = none := by unfold wgK; rw [if_pos (.inr (.inl k3))]
          simp only [main, z, z3, decide_true, decide_false, cond_true, cond_false, e]
        have z3 : ¬ (3 : Int) < (((digT l).length : Nat) : Int) := by omega
        obtain ⟨ch, hch⟩ : ∃ ch, l[0]? = some ch := ⟨_, List.getElem?_eq_getElem (show 0 < (l).length by omega)⟩
        have hg : s[pre.length + 1]? = some ch := by
          have := wj5 (pre := P) (l := l) (j := 0)
          rw [← hs2, Nat.add_zero, hP] at this
          rw [this, hch]
        have h48 := wpD (a := ch) (n := 48) (by omega)
        have h48 : ((ch.toNat : Nat) : Int) = 48 ↔ ch = 48 := h48
        have hloop := fun K => wqQ (α := α) N s P (digT l) (digR l) (by rw [wgA]; exact hs2) hl (by omega) hD dg b false K (digT l).length 0 N 0 (by omega) (by omega) (by simp)
        simp only [hP, Nat.add_zero, List.drop_zero, Int.natCast_zero] at hloop
        have hval : (digT l).foldl wgf 0 = valT (digT l) := rfl
        have hw : IntKind.i64.wrap (((pre.length + 1 : Nat) : Int) + (((digT l).length : Nat) : Int)) = ((s.length - (digR l).length : Nat) : Int) := by rw [wd (by omega) (by omega)]; omega
        have hfin : (ch = 48 → ¬ 1 < (digT l).length ∧ ¬ false = true) → ∀ (F : Option α) (k2 : ByteArray → ByteArray → Int → Int → Int → Option α), F = k0 ByteArray.empty 0 0 false → k2 = k1 →
            wH N N (BA s) dg b ((pre.length + 1 : Nat) : Int) 0 false (((digT l).length : Nat) : Int) ((pre.length + 1 : Nat) : Int) (fun x1 x2 x3 x4 x5 x6 x7 => bif decide ((400 : Int) < x5) then F else wV N x1 x2 x3 x4 x5 x6 x7 (fun y1 y2 y3 y4 y5 y6 => k2 y1 y2 y3 (IntKind.i64.wrap (y4 + y6)) y5)) = match wgK false l with
            | none => k0 ByteArray.empty 0 0 false
            | some q => k1 (BA s) dg b ((s.length - (digR l).length : Nat) : Int) q := by
          intro hc F k2 hF hk2
          subst hF; subst hk2
          rw [hloop, hval]
          by_cases h4 : 400 < valT (digT l)
          · have z4 : (400 : Int) < ((valT (digT l) : Nat) : Int) := by omega
            have e : wgK false l = none := by unfold wgK; rw [if_pos (.inr (.inr (.inr (.inr h4))))]
            simp only [z4, decide_true, cond_true, e]
          · have z4 : ¬ (400 : Int) < ((valT (digT l) : Nat) : Int) := by omega
            have hn : ¬ ((digT l).length = 0 ∨ 3 < (digT l).length ∨ (1 < (digT l).length ∧ l[0]? = some 48) ∨ (false = true ∧ l[0]? = some 48) ∨ 400 < valT (digT l)) := by
              rintro (q | q | ⟨q, q'⟩ | ⟨q, q'⟩ | q)
              · exact k0' q
              · exact k3 q
              · rw [hch] at q'; simp only [Option.some.injEq] at q'; exact (hc q').1 q
              · rw [hch] at q'; simp only [Option.some.injEq] at q'; exact (hc q').2 q
              · exact h4 q
            have e : wgK false l = some (if false = true then -(valT (digT l) : Int) else (valT (digT l) : Int)) := by unfold wgK; rw [if_neg hn]
            simp only [z4, decide_false, cond_false, wsf N _ _ _ _ (valT (digT l)) (show valT (digT l) ≤ 400 by omega), hw, e]
        by_cases k48 : ch = 48
        · have g48 := h48.2 k48
          by_cases k1' : 1 < (digT l).length
          · have z1 : (1 : Int) < (((digT l).length : Nat) : Int) := by omega
            have e : wgK false l = none := by unfold wgK; rw [if_pos (.inr (.inr (.inl ⟨k1', by rw [hch, k48]⟩)))]
            simp only [main, z, z3, z1, decide_true, decide_false, cond_true, cond_false, wF, Int.toNat_natCast, wgD, hg, g48, e]
          · have z1 : ¬ (1 : Int) < (((digT l).length : Nat) : Int) := by omega
            have hfin := hfin (fun _ => ⟨k1', by simp⟩) _ _ rfl rfl
            simp only [main, z, z3, z1, decide_true, decide_false, cond_true, cond_false, wF, Int.toNat_natCast, wgD, hg, g48]
            exact hfin
        · have g48 : ¬ ((ch.toNat : Nat) : Int) = 48 := fun q => k48 (h48.1 q)
          have hfin := hfin (fun q => absurd q k48) _ _ rfl rfl
          by_cases k1' : 1 < (digT l).length
          · have z1 : (1 : Int) < (((digT l).length : Nat) : Int) := by omega
            simp only [main, z, z3, z1, decide_true, decide_false, cond_true, cond_false, wF, Int.toNat_natCast, wgD, hg, g48]
            exact hfin
          · have z1 : ¬ (1 : Int) < (((digT l).length : Nat) : Int) := by omega
            simp only [main, z, z3, z1, decide_true, decide_false, cond_true, cond_false, wF, Int.toNat_natCast, wgD, hg, g48]
            exact hfin
end Go.Proofs.YtnhbcpmmdblkjaaGreatDoorAm
