/-
  Floats by their order numbers: the parts of a float, the float of a number times a power of two, as both texts reckon them.
-/
import Derived.Test.YtnhbcpmmdblkjaaGreatDoorBa
namespace Go.Proofs.YtnhbcpmmdblkjaaGreatDoorAm
open Go
set_option linter.unusedVariables false
set_option linter.unusedSimpArgs false

theorem spec_l1Least_eq {α : Type} (N : Nat) (w : Int) (k : Int → Option α) : spec_l1Least N w k = k (leastB w) := by
 rw [spec_l1Least.eq]
 unfold spec_l1Least.b leastB
 by_cases h : w = 32 <;> simp [h]
theorem spec_l1Frac_eq {α : Type} (N : Nat) (w : Int) (k : Int → Option α) : spec_l1Frac N w k = k ((fracB w : Nat) : Int) := by
 rw [spec_l1Frac.eq]
 unfold spec_l1Frac.b fracB
 by_cases h : w = 32 <;> simp [h]
theorem mkO_J14 {α : Type} (N : Nat) (w : Int) (o : Nat) (P : Int) (pt : PartD) (k : Int → PartD → Option α) (hw : w = 32 ∨ w = 64) (ho : o < 2 ^ 64) (ho0 : o ≠ 0) (h1 : ¬ fracB w + 1 < blen o) (h2 : ¬ P < leastB w) (h3 : ¬ greatB w < P + blen o - 1) (hP : -2100 ≤ P ∧ P ≤ 2100) :
  impl_BitMake_J14 N (o : Int) P (blen o : Int) (P + blen o - 1 + greatB w) pt (fmtOf w) k = match mkO w o P with
   | none => none
   | some n => k n pt := by
 obtain ⟨g1, g2, g3, g4, g5⟩ := frac_great w
 have hG : 0 ≤ greatB w ∧ greatB w ≤ 1023 := by unfold greatB; split <;> omega
 obtain ⟨L, hL, l1, l2⟩ := blen_spec o ho ho0
 rw [impl_BitMake_J14.eq]
 unfold impl_BitMake_J14.b mkO
 rw [if_neg (by omega), fmt_eq hw]
 simp only [cast_neg, cond_false]
 generalize fracB w = F at *
 generalize leastB w = A at *
 generalize greatB w = G at *
 have hpo := pow_le_52 g2
 have hp0 : 0 < 2 ^ F := Nat.pow_pos (by omega)
 by_cases h4 : 1 ≤ P + blen o - 1 + G
 ·obtain ⟨e, he⟩ : ∃ e : Nat, P + blen o - 1 + G = (e : Int) := ⟨(P + blen o - 1 + G).toNat, by omega⟩
  have heb : e ≤ 2046 := by omega
  have hm : e * 2 ^ F ≤ 2046 * 4503599627370496 := Nat.mul_le_mul heb hpo
  have hme : (e : Int) * ((2 ^ F : Nat) : Int) = ((e * 2 ^ F : Nat) : Int) := (Int.natCast_mul _ _).symm
  have s1 := shlN (x := e) (k := F) (by omega) (by omega)
  have w1 : IntKind.i64.wrap ((F : Int) + 1) = (F : Int) + 1 := wrap_i64 (by omega) (by omega)
  have w2 : IntKind.i64.wrap ((F : Int) + 1 - (blen o : Int)) = ((F + 1 - blen o : Nat) : Int) := by rw [wrap_i64 (by omega) (by omega)]; omega
  have b1 : o * 2 ^ (F + 1 - blen o) < 2 ^ (F + 1) := by
   have := (Nat.mul_lt_mul_right (a := 2 ^ (F + 1 - blen o)) (Nat.pow_pos (by omega))).2 l2
   rw [← Nat.pow_add, show L + 1 + (F + 1 - blen o) = F + 1 by omega] at this
   exact this
  have b2 : 2 ^ F ≤ o * 2 ^ (F + 1 - blen o) := by
   have := Nat.mul_le_mul_right (2 ^ (F + 1 - blen o)) l1
   rw [← Nat.pow_add, show L + (F + 1 - blen o) = F by omega] at this
   exact this
  rw [Nat.pow_succ] at b1
  have s2 := shlU (x := o) (k := F + 1 - blen o) (by omega) (by omega)
  have w3 : IntKind.i64.wrap ((o * 2 ^ (F + 1 - blen o) : Nat) : Int) = ((o * 2 ^ (F + 1 - blen o) : Nat) : Int) := wrap_i64 (by omega) (by omega)
  have s3 : shlI .i64 (1 : Int) (F : Int) = ((2 ^ F : Nat) : Int) := by
   have := shlN (x := 1) (k := F) (by omega) (by omega)
   rw [Nat.one_mul] at this; exact this
  have w4 : IntKind.i64.wrap (((2 ^ F : Nat) : Int) - 1) = ((2 ^ F - 1 : Nat) : Int) := by rw [wrap_i64 (by omega) (by omega)]; omega
  have a1 := bandI (x := o * 2 ^ (F + 1 - blen o)) (k := F) (by omega) (by omega)
  have hmod : o * 2 ^ (F + 1 - blen o) % 2 ^ F = o * 2 ^ (F + 1 - blen o) - 2 ^ F := by
   rw [Nat.mod_eq_sub_mod b2, Nat.mod_eq_of_lt (by omega)]
  have o1 : bitI .or .i64 ((e * 2 ^ F : Nat) : Int) ((o * 2 ^ (F + 1 - blen o) - 2 ^ F : Nat) : Int) = ((e * 2 ^ F + (o * 2 ^ (F + 1 - blen o) - 2 ^ F) : Nat) : Int) := by
   rw [borI (by omega) (by omega), orAdd (by omega)]
  have c4 : (1 : Int) ≤ (e : Int) := by omega
  rw [if_pos h4]
  simp only [he, c4, decide_true, cond_true, s1, w1, w2, cast_neg, cond_false, s2, w3, s3, w4, a1, hmod, o1, hme]
  congr 1
  omega
 ·have w1 : IntKind.i64.wrap (P - A) = (((P - A).toNat : Nat) : Int) := by rw [wrap_i64 (by omega) (by omega)]; omega
  have b1 : o * 2 ^ (P - A).toNat < 2 ^ F := by
   have := (Nat.mul_lt_mul_right (a := 2 ^ (P - A).toNat) (Nat.pow_pos (by omega))).2 l2
   rw [← Nat.pow_add] at this
   exact Nat.lt_of_lt_of_le this (Nat.pow_le_pow_right (by omega) (by omega))
  have s2 := shlU (x := o) (k := (P - A).toNat) (by omega) (by omega)
  have w3 : IntKind.i64.wrap ((o * 2 ^ (P - A).toNat : Nat) : Int) = ((o * 2 ^ (P - A).toNat : Nat) : Int) := wrap_i64 (by omega) (by omega)
  rw [if_neg h4]
  simp only [h4, decide_false, cond_false, w1, cast_neg, s2, w3]
theorem mkO_bound {w : Int} {o : Nat} {P m : Int} (hw : w = 32 ∨ w = 64) (ho : o < 2 ^ 64) (ho0 : o ≠ 0) (h : mkO w o P = some m) : -9223372036854775808 < m ∧ m ≤ 9223372036854775807 := by
 obtain ⟨g1, g2, g3, g4, g5⟩ := frac_great w
 have hG : 0 ≤ greatB w ∧ greatB w ≤ 1023 := by unfold greatB; split <;> omega
 obtain ⟨L, hL, l1, l2⟩ := blen_spec o ho ho0
 unfold mkO at h
 generalize fracB w = F at *
 generalize leastB w = A at *
 generalize greatB w = G at *
 have hpo := pow_le_52 g2
 split at h
 ·simp at h
 ·split at h
  ·simp only [Option.some.injEq] at h
   obtain ⟨e, he⟩ : ∃ e : Nat, P + blen o - 1 + G = (e : Int) := ⟨(P + blen o - 1 + G).toNat, by omega⟩
   have hm : e * 2 ^ F ≤ 2046 * 4503599627370496 := Nat.mul_le_mul (by omega) hpo
   have hme : (e : Int) * ((2 ^ F : Nat) : Int) = ((e * 2 ^ F : Nat) : Int) := (Int.natCast_mul _ _).symm
   have b1 : o * 2 ^ (F + 1 - blen o) < 2 ^ (F + 1) := by
    have := (Nat.mul_lt_mul_right (a := 2 ^ (F + 1 - blen o)) (Nat.pow_pos (by omega))).2 l2
    rw [← Nat.pow_add, show L + 1 + (F + 1 - blen o) = F + 1 by omega] at this
    exact this
   rw [Nat.pow_succ] at b1
   rw [he, hme] at h
   omega
  ·simp only [Option.some.injEq] at h
   have b1 : o * 2 ^ (P - A).toNat < 2 ^ F := by
    have := (Nat.mul_lt_mul_right (a := 2 ^ (P - A).toNat) (Nat.pow_pos (by omega))).2 l2
    rw [← Nat.pow_add] at this
    exact Nat.lt_of_lt_of_le this (Nat.pow_le_pow_right (by omega) (by omega))
   omega
theorem impl_BitMake_eq {α : Type} (N : Nat) (w : Int) (p : PartD) (k : Int → Bool → Option α) (h0 : 0 ≤ p.2.1) (h1 : p.2.1 < 18446744073709551616) : impl_BitMake N w p k = k (bitMake w p).1 (bitMake w p).2 := by
  obtain ⟨sg, s, q, un⟩ := p
  simp only at h0 h1
  obtain ⟨n, rfl⟩ : ∃ n : Nat, s = n := ⟨s.toNat, by omega⟩
  rw [impl_BitMake.eq]
  unfold impl_BitMake.b bitMake
  simp only [impl_formatOf_eq, impl_in_eq]
  by_cases hw : w = 32 ∨ w = 64
  · by_cases hq1 : -2000 ≤ q
    · by_cases hq2 : q ≤ 2000
      · by_cases hn : n = 0
        · subst hn
          simp [hw, hq1, hq2]
        obtain ⟨g1, g2, g3, g4, g5⟩ := frac_great w
        have hG : 0 ≤ greatB w ∧ greatB w ≤ 1023 := by unfold greatB; split <;> omega
        obtain ⟨o, ho1, ho2, ho3, hz, ho4⟩ := odd_of hn (show n < 2 ^ 64 by omega)
        have hcn : ¬ (n : Int) = 0 := by omega
        have hmk : mkB w n q = mkO w o (q + Go.Lib.ctz 64 n) := by unfold mkB; rw [ho4]
        have c0 : (n : Int) < 18446744073709551616 := by omega
        have s1 := shrN (q := .u64) (x := n) (k := Go.Lib.ctz 64 n) rfl (by omega)
        rw [ho4] at s1
        have hbl := blen_le (n := o)
        have w1 : IntKind.i64.wrap (q + (Go.Lib.ctz 64 n : Nat)) = q + (Go.Lib.ctz 64 n : Nat) := wrap_i64 (by omega) (by omega)
        rw [math_bits_TrailingZeros64.eq]
        unfold math_bits_TrailingZeros64.b
        simp only [hw, hq1, hq2, hcn, decide_true, decide_false, Bool.and_self, Bool.not_true, cond_false, cast_nn, cond_true, c0, Int.toNat_natCast, and_self, if_true, if_false, cast_neg, s1, w1, hn, hmk]
        generalize hP : q + ((Go.Lib.ctz 64 n : Nat) : Int) = P at *
        have w2 : IntKind.i64.wrap (P + (blen o : Nat)) = P + (blen o : Nat) := wrap_i64 (by omega) (by omega)
        have w3 : IntKind.i64.wrap (P + (blen o : Nat) - 1) = P + (blen o : Nat) - 1 := wrap_i64 (by omega) (by omega)
        have w4 : IntKind.i64.wrap ((fracB w : Int) + 1) = (fracB w : Int) + 1 := wrap_i64 (by omega) (by omega)
        have w5 : IntKind.i64.wrap (P + (blen o : Nat) - 1 + greatB w) = P + (blen o : Nat) - 1 + greatB w := wrap_i64 (by omega) (by omega)
        have hf1 : (fmtOf w).1 = (fracB w : Int) := by rw [fmt_eq hw]
        have hf2 : (fmtOf w).2.1 = leastB w := by rw [fmt_eq hw]
        have hf3 : (fmtOf w).2.2.1 = greatB w := by rw [fmt_eq hw]
        simp only [math_bits_Len64_eq N o ho3, w2, w3, hf1, hf2, hf3, w4, w5]
        by_cases h1 : fracB w + 1 < blen o
        · have c1 : (fracB w : Int) + 1 < (blen o : Int) := by omega
          have : mkO w o P = none := by unfold mkO; rw [if_pos (.inl h1)]
          simp [c1, this]
        have c1 : ¬ (fracB w : Int) + 1 < (blen o : Int) := by omega
        by_cases h2 : P < leastB w
        · have : mkO w o P = none := by unfold mkO; rw [if_pos (.inr (.inl h2))]
          simp [c1, h2, this]
        by_cases h3 : greatB w < P + blen o - 1
        · have : mkO w o P = none := by unfold mkO; rw [if_pos (.inr (.inr h3))]
          simp [c1, h2, h3, this]
        simp only [c1, h2, h3, decide_false, cond_false, mkO_J14 N w o P _ _ hw ho3 (by omega) h1 h2 h3 (by omega)]
        have hne : mkO w o P ≠ none := by
          unfold mkO
          rw [if_neg (by omega)]
          split <;> simp
        cases hm : mkO w o P with
        | none => exact absurd hm hne
        | some m =>
          have hmb : -9223372036854775808 < m ∧ m ≤ 9223372036854775807 := mkO_bound hw ho3 (by omega) hm
          have w6 : IntKind.i64.wrap (0 - m) = -m := by rw [wrap_i64 (by omega) (by omega)]; omega
          simp only []
          rw [impl_BitMake_J17.eq]
          unfold impl_BitMake_J17.b
          cases sg
          · simp only [cond_false, Bool.false_eq_true, if_false]
          · simp only [cond_true, w6, if_true]
      · simp [hw, hq1, hq2]
    · simp [hw, hq1]
  · simp [hw]
end Go.Proofs.YtnhbcpmmdblkjaaGreatDoorAm
