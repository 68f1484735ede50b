/-
  Floats by their order numbers: parts, and the float of a number times a power of two: the arithmetic.
-/
import Derived.Test.YtnhbcpmmdblkjaaGreatDoorB
import Derived.Lib.TrailingZeros
namespace Go.Proofs.YtnhbcpmmdblkjaaGreatDoorAm
open Go
set_option linter.unusedVariables false
set_option linter.unusedSimpArgs false

def wB (w:Int):Nat:=if w=32 then 23 else 52
def wb5 (w:Int):Int:=if w=32 then -149 else -1074
def wdK (w:Int):Int:=if w=32 then 127 else 1023
abbrev wl7:=Bool×Int×Int×Unit
theorem wjA : ∀ (n : Nat), n < 2 ^ 64 → n ≠ 0 → ∃ k, blen n = k + 1 ∧ 2 ^ k ≤ n ∧ n < 2 ^ (k + 1) := by
  intro n
  induction n using Nat.strongRecOn with
  | ind n ih =>
    intro h h0
    rw [wjK h h0]
    by_cases h1 : n / 2 = 0
    · refine ⟨0, by rw [h1]; rfl, by omega, by omega⟩
    · obtain ⟨k, e, a, b⟩ := ih (n / 2) (by omega) (by omega) h1
      refine ⟨k + 1, by rw [e], ?_, ?_⟩
      · rw [Nat.pow_succ]; omega
      · rw [Nat.pow_succ]; omega
theorem whP {i j:Nat} (h:2 ^ i < 2 ^ j):i < j:=(Nat.pow_lt_pow_iff_right (show 1 < 2 by omega)).1 h
def mkO (w:Int) (o:Nat) (P:Int):Option Int :=
 if wB w + 1 < blen o∨P < wb5 w∨wdK w < P + blen o - 1 then none
 else if 1≤P + blen o - 1 + wdK w then some ((P + blen o - 1 + wdK w) * (2 ^ wB w:Nat) + ((o * 2 ^ (wB w + 1 - blen o):Nat) - (2 ^ wB w:Nat)))
 else some ((o * 2 ^ (P - wb5 w).toNat:Nat):Int)
def mkS (w:Int) (s:Nat) (p:Int):Option Int :=
 if 2 * 2 ^ wB w≤s∨p < wb5 w then none
 else if 2 ^ wB w≤s then (if 2 * wdK w < p - wb5 w + 1 then none else some ((p - wb5 w + 1) * (2 ^ wB w:Nat) + ((s:Int) - (2 ^ wB w:Nat))))
 else some (s:Int)
theorem wfa (w:Int):wdK w=1 - wb5 w - wB w∧wB w≤52∧1≤wB w∧-1074≤wb5 w∧wb5 w≤-149:=by
 unfold wdK wb5 wB
 split <;> omega
theorem wsQ {w:Int} {o d s:Nat} {P p:Int} (ho:o % 2=1) (ho2:o < 2 ^ 64) (hs:s=o * 2 ^ d) (hs2:s < 2 ^ 64) (hp:p=P - d) (c1:2 * 2 ^ wB w≤s∨p < wb5 w→d=0) (c2:2 ^ wB w≤s∨p≤wb5 w):mkS w s p=mkO w o P:=by
 obtain ⟨g1,g2,g3,g4,g5⟩:=wfa w
 obtain ⟨L,hL,l1,l2⟩:=wjA o ho2 (by omega)
 unfold mkS mkO
 rw [hL]
 generalize hF:wB w=F at *
 generalize wb5 w=A at *
 generalize wdK w=G at *
 by_cases h1:2 * 2 ^ F≤s
 ·have:=c1 (.inl h1)
  subst this
  rw [Nat.pow_zero,Nat.mul_one] at hs
  subst hs
  have:2 ^ (F + 1) < 2 ^ (L + 1):=Nat.lt_of_le_of_lt (by rw [Nat.pow_succ]; omega) l2
  have:=whP this
  have h2:¬ s < 2 ^ (F + 1):=by rw [Nat.pow_succ]; omega
  have h3:F + 1≤L:=by
   have:2 ^ (F + 1) < 2 ^ (L + 1):=by assumption
   have:=whP this
   omega
  rw [if_pos (.inl h1),if_pos (.inl (by omega))]
 by_cases h2:p < A
 ·have:=c1 (.inr h2)
  subst this
  rw [if_pos (.inr h2),if_pos (.inr (.inl (by omega)))]
 have hp0:0 < 2 ^ d:=Nat.pow_pos (by omega)
 have e1:2 ^ (L + d)≤s:=by rw [hs,Nat.pow_add]; exact Nat.mul_le_mul_right _ l1
 have e2:s < 2 ^ (L + d + 1):=by
  rw [hs,show L + d + 1=(L + 1) + d by omega,Nat.pow_add]; exact (Nat.mul_lt_mul_right hp0).2 l2
 have e3:L + d < F + 1:=whP (Nat.lt_of_le_of_lt e1 (by rw [Nat.pow_succ]; omega))
 rw [if_neg (by omega)]
 by_cases h3:2 ^ F≤s
 ·have e4:F < L + d + 1:=whP (Nat.lt_of_le_of_lt h3 e2)
  have e5:F=L + d:=by omega
  have e6:F + 1 - (L + 1)=d:=by omega
  rw [if_pos h3]
  by_cases h4:2 * G < p - A + 1
  ·rw [if_pos h4,if_pos (.inr (.inr (by omega)))]
  ·rw [if_neg h4,if_neg (by omega),if_pos (by omega),e6,← hs]
   have e7:P + ((L + 1:Nat):Int) - 1 + G=p - A + 1:=by omega
   rw [e7]
 ·have hpA:p=A:=by omega
  have e4:L + d < F:=whP (Nat.lt_of_le_of_lt e1 (by omega))
  have e5:(P - A).toNat=d:=by omega
  rw [if_neg h3,if_neg (by omega),if_neg (by omega),e5,hs]
theorem wr3 {s:Nat} (h0:s ≠ 0) (h:s < 2 ^ 64):∃ o,o % 2=1∧s=o * 2 ^ Go.Lib.ctz 64 s∧o < 2 ^ 64∧Go.Lib.ctz 64 s < 64∧s / 2 ^ Go.Lib.ctz 64 s=o:=by
 obtain ⟨m,e1,e2⟩:=Go.Lib.ctzFrom_spec 64 s (Nat.pos_of_ne_zero h0) h
 have hc:Go.Lib.ctz 64 s=Go.Lib.ctzFrom 64 s:=by unfold Go.Lib.ctz; rw [if_neg h0]
 rw [hc]
 have hp:0 < 2 ^ Go.Lib.ctzFrom 64 s:=Nat.pow_pos (by omega)
 have e3:s=(2 * m + 1) * 2 ^ Go.Lib.ctzFrom 64 s:=by rw [Nat.mul_comm]; exact e1
 refine ⟨2 * m + 1,by omega,e3,?_,e2,?_⟩
 ·have:=Nat.le_mul_of_pos_right (2 * m + 1) hp
  rw [← e3] at this
  omega
 ·rw [Nat.div_eq_of_eq_mul_left hp e3]
def mkB (w:Int) (s:Nat) (p:Int):Option Int:=mkO w (s / 2 ^ Go.Lib.ctz 64 s) (p + Go.Lib.ctz 64 s)
def whe (w:Int) (p:wl7):Int×Bool :=
 if (w=32∨w=64)∧-2000≤p.2.2.1∧p.2.2.1≤2000 then
  (if p.2.1=0 then (0,true) else match mkB w p.2.1.toNat p.2.2.1 with
   | none=>(0,false)
   | some n=>(if p.1 then -n else n,true))
 else (0,false)
def weQ (w o:Int):wl7×Bool :=
  if wiW w o=true∧o ≠ top w∧o ≠ -top w then
    (if o.natAbs / 2 ^ wB w=0 then ((decide (o < 0),((o.natAbs % 2 ^ wB w:Nat):Int),wb5 w,()),true)
     else ((decide (o < 0),((o.natAbs % 2 ^ wB w + 2 ^ wB w:Nat):Int),wb5 w + (o.natAbs / 2 ^ wB w:Nat) - 1,()),true))
  else ((false,0,0,()),false)
theorem borI {x y:Nat} (hx:x < 9223372036854775808) (hy:y < 9223372036854775808):bitI .or .i64 (x:Int) (y:Int)=((x ||| y:Nat):Int):=by
 have h:=Nat.or_lt_two_pow (n:=63) (by simpa using hx) (by simpa using hy)
 show IntKind.i64.wrap (((BitVec.ofInt 64 (x:Int) ||| BitVec.ofInt 64 (y:Int)).toNat:Nat):Int)=_
 rw [BitVec.ofInt_natCast,BitVec.ofInt_natCast,BitVec.toNat_or,BitVec.toNat_ofNat,BitVec.toNat_ofNat]
 rw [Nat.mod_eq_of_lt (by omega),Nat.mod_eq_of_lt (by omega),wd (by omega) (by omega)]
theorem wth {x k:Nat} (hx:x < 9223372036854775808) (hk:k≤62):bitI .and .i64 (x:Int) ((2 ^ k - 1:Nat):Int)=((x % 2 ^ k:Nat):Int):=by
 have hp:2 ^ k≤2 ^ 62:=Nat.pow_le_pow_right (by omega) hk
 have h:x &&& (2 ^ k - 1)=x % 2 ^ k:=Nat.and_two_pow_sub_one_eq_mod x k
 have hm:=Nat.mod_le x (2 ^ k)
 show IntKind.i64.wrap (((BitVec.ofInt 64 (x:Int) &&& BitVec.ofInt 64 ((2 ^ k - 1:Nat):Int)).toNat:Nat):Int)=_
 rw [BitVec.ofInt_natCast,BitVec.ofInt_natCast,BitVec.toNat_and,BitVec.toNat_ofNat,BitVec.toNat_ofNat]
 rw [Nat.mod_eq_of_lt (by omega),Nat.mod_eq_of_lt (show 2 ^ k - 1 < 2 ^ 64 by omega),h,wd (by omega) (by omega)]
theorem shrN {q:IntKind} {x k:Nat} (hq:q.bits=64) (hk:k≤64):shrI q (x:Int) (k:Int)=((x / 2 ^ k:Nat):Int):=by
 unfold shrI
 have h1:min (k:Int).toNat (IntKind.bits q)=k:=by rw [hq]; omega
 have h2:(0:Int)≤2 ^ k:=Int.le_of_lt (Int.pow_pos (by decide))
 rw [h1,Int.fdiv_eq_ediv_of_nonneg _ h2,show (2:Int) ^ k=((2 ^ k:Nat):Int) from (Int.natCast_pow 2 k).symm]; rfl
theorem shlN {x k:Nat} (hk:k≤64) (hb:x * 2 ^ k < 9223372036854775808):shlI .i64 (x:Int) (k:Int)=((x * 2 ^ k:Nat):Int):=by
 unfold shlI
 have h1:min (k:Int).toNat (IntKind.bits .i64)=k:=by simp [IntKind.bits]; omega
 rw [h1,show (2:Int) ^ k=((2 ^ k:Nat):Int) from (Int.natCast_pow 2 k).symm,← Int.natCast_mul,wd (by omega) (by omega)]
theorem shlU {x k:Nat} (hk:k≤64) (hb:x * 2 ^ k < 18446744073709551616):shlI .u64 (x:Int) (k:Int)=((x * 2 ^ k:Nat):Int):=by
 unfold shlI
 have h1:min (k:Int).toNat (IntKind.bits .u64)=k:=by simp [IntKind.bits]; omega
 rw [h1,show (2:Int) ^ k=((2 ^ k:Nat):Int) from (Int.natCast_pow 2 k).symm,← Int.natCast_mul,wd0 (by omega) (by omega)]
theorem wsN {u v r:Nat} (h:u < 2 ^ r):v * 2 ^ r ||| u=v * 2 ^ r + u:=by
 have:=Nat.shiftLeft_add_eq_or_of_lt h v
 rw [Nat.shiftLeft_eq] at this
 exact this.symm
theorem wu4 (a b:Nat):Int.tdiv (a:Int) (b:Int)=((a / b:Nat):Int):=rfl
theorem wu6 (a b:Nat):Int.tmod (a:Int) (b:Int)=((a % b:Nat):Int):=rfl
theorem wg7 {F:Nat} (h:F≤52):2 ^ F≤4503599627370496:=Nat.pow_le_pow_right (n:=2) (by omega) h
theorem wko {w:Int} (h:w=32∨w=64):wiV w=((wB w:Int),wb5 w,wdK w,top w,()):=by rcases h with rfl | rfl <;> rfl
theorem wqt {w:Int} (h:w=32∨w=64):top w=(((2 * wdK w + 1).toNat * 2 ^ wB w:Nat):Int):=by rcases h with rfl | rfl <;> rfl
theorem wop {w o:Int} (h:wiW w o=true):(w=32∨w=64)∧-top w≤o∧o≤top w:=by
 simp only [wiW,Bool.and_eq_true,decide_eq_true_eq] at h
 exact ⟨h.1.1,h.1.2,h.2⟩
end Go.Proofs.YtnhbcpmmdblkjaaGreatDoorAm
