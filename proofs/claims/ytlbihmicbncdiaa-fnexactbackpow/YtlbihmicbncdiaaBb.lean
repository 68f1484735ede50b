/-
  Floats by their order numbers: the parts of a float, the float of a number times a power of two, as both texts reckon them.
-/
import Derived.Test.YtlbihmicbncdiaaBa
namespace Go.Proofs.YtlbihmicbncdiaaAm
open Go
set_option linter.unusedVariables false
set_option linter.unusedSimpArgs false

theorem spec_l1Least_eq {α : Type} (N : Nat) (w : Int) (k : Int → Option α) : spec_l1Least N w k = k (leastB w) := by
  rw [spec_l1Least.eq]
  unfold spec_l1Least.b leastB
  by_cases h : w = 32 <;> simp [h]
theorem spec_l1Frac_eq {α : Type} (N : Nat) (w : Int) (k : Int → Option α) : spec_l1Frac N w k = k ((fracB w : Nat) : Int) := by
  rw [spec_l1Frac.eq]
  unfold spec_l1Frac.b fracB
  by_cases h : w = 32 <;> simp [h]
theorem impl_size_eq {α : Type} (N : Nat) (o : Int) (k : Int → Option α) (h0 : -9223372036854775808 < o) (h1 : o ≤ 9223372036854775807) : impl_size N o k = k ((o.natAbs : Nat) : Int) := by
  rw [impl_size.eq]
  unfold impl_size.b
  have e : IntKind.i64.wrap (0 - o) = -o := by rw [wrap_i64 (by omega) (by omega)]; omega
  simp only [e, maxI_eq]
  congr 1; omega
theorem partOf_J5 {α : Type} (N : Nat) (w o : Int) (a b : PartD) (k : Int → Int → PartD → PartD → Option α) (h0 : -9223372036854775808 < o) (h1 : o ≤ 9223372036854775807) : spec_BitPartOf_J5 N w o a b k = k w ((o.natAbs : Nat) : Int) a b := by
  rw [spec_BitPartOf_J5.eq]
  unfold spec_BitPartOf_J5.b
  by_cases h : o < 0
  · have e : IntKind.i64.wrap (0 - o) = ((o.natAbs : Nat) : Int) := by rw [wrap_i64 (by omega) (by omega)]; omega
    simp only [h, decide_true, cond_true, e]
  · have e : o = ((o.natAbs : Nat) : Int) := by omega
    simp only [h, decide_false, cond_false]
    rw [← e]
theorem spec_BitPartOf_eq {α : Type} (N : Nat) (w o : Int) (k : PartD → Bool → Option α) : spec_BitPartOf N w o k = k (partOf w o).1 (partOf w o).2 := by
  rw [spec_BitPartOf.eq]
  unfold spec_BitPartOf.b
  simp only [spec_BitOk_eq, spec_BitTop_eq, wrap_neg_top, spec_l1Least_eq, spec_l1Frac_eq]
  cases hok : bitOk w o
  · simp [partOf, hok]
  by_cases h1 : o = top w
  · simp [partOf, hok, h1]
  by_cases h2 : o = -top w
  · simp [partOf, hok, h1, h2]
  obtain ⟨hw, b1, b2⟩ := bitOk_w hok
  have ht := top_nonneg w
  obtain ⟨g1, g2, g3, g4, g5⟩ := frac_great w
  have hpf : partOf w o = (if o.natAbs / 2 ^ fracB w = 0 then ((decide (o < 0), ((o.natAbs % 2 ^ fracB w : Nat) : Int), leastB w, ()), true)
     else ((decide (o < 0), ((o.natAbs % 2 ^ fracB w + 2 ^ fracB w : Nat) : Int), leastB w + (o.natAbs / 2 ^ fracB w : Nat) - 1, ()), true)) := by
    unfold partOf; rw [if_pos ⟨hok, h1, h2⟩]
  rw [hpf]
  simp only [h1, h2, decide_false, cond_false, Bool.not_true, partOf_J5 N w o _ _ _ (show -9223372036854775808 < o by omega) (show o ≤ 9223372036854775807 by omega)]
  have hn : o.natAbs < 9223372036854775808 := by omega
  generalize hF : fracB w = F at *
  generalize leastB w = A at *
  generalize o.natAbs = n at *
  have hp := pow_le_52 g2
  have hp0 : 0 < 2 ^ F := Nat.pow_pos (by omega)
  have w1 : IntKind.u64.wrap (F : Int) = (F : Int) := wrap_u64 (by omega) (by omega)
  have s1 : shlI .i64 (1 : Int) (F : Int) = ((2 ^ F : Nat) : Int) := by
    have := shlN (x := 1) (k := F) (by omega) (by omega)
    rw [Nat.one_mul] at this; exact this
  have c1 : ¬ ((2 ^ F : Nat) : Int) = 0 := by omega
  have hdiv : n / 2 ^ F ≤ n := Nat.div_le_self _ _
  have hmod : n % 2 ^ F < 2 ^ F := Nat.mod_lt _ hp0
  simp only [w1, cast_neg, cond_false, s1, c1, decide_false, tdivN, tmodN]
  generalize n / 2 ^ F = e at *
  generalize n % 2 ^ F = f at *
  have w2 : IntKind.i64.wrap (e : Int) = (e : Int) := wrap_i64 (by omega) (by omega)
  have w3 : IntKind.u64.wrap (f : Int) = (f : Int) := wrap_u64 (by omega) (by omega)
  simp only [w2, w3]
  rw [spec_BitPartOf_J10.eq]
  unfold spec_BitPartOf_J10.b
  by_cases he : e = 0
  · subst he
    simp
  · have c2 : (0 : Int) < (e : Int) := by omega
    have w4 : IntKind.u64.wrap ((2 ^ F : Nat) : Int) = ((2 ^ F : Nat) : Int) := wrap_u64 (by omega) (by omega)
    have w5 : IntKind.u64.wrap ((f : Int) + ((2 ^ F : Nat) : Int)) = ((f + 2 ^ F : Nat) : Int) := by rw [wrap_u64 (by omega) (by omega)]; omega
    have w6 : IntKind.i64.wrap (A + (e : Int)) = A + (e : Int) := wrap_i64 (by omega) (by omega)
    have w7 : IntKind.i64.wrap (A + (e : Int) - 1) = A + (e : Int) - 1 := wrap_i64 (by omega) (by omega)
    simp only [c2, decide_true, cond_true, w4, w5, w6, w7, he, if_false]
theorem impl_BitPartOf_eq {α : Type} (N : Nat) (w o : Int) (k : PartD → Bool → Option α) : impl_BitPartOf N w o k = k (partOf w o).1 (partOf w o).2 := by
  rw [impl_BitPartOf.eq]
  unfold impl_BitPartOf.b
  simp only [impl_formatOf_eq, impl_BitOk_eq]
  cases hok : bitOk w o
  · simp [partOf, hok]
  obtain ⟨hw, b1, b2⟩ := bitOk_w hok
  have ht := top_nonneg w
  obtain ⟨g1, g2, g3, g4, g5⟩ := frac_great w
  have hn : o.natAbs < 9223372036854775808 := by omega
  simp only [Bool.not_true, cond_false, impl_size_eq N o _ (show -9223372036854775808 < o by omega) (show o ≤ 9223372036854775807 by omega), fmt_eq hw]
  by_cases h1 : o = top w ∨ o = -top w
  · have c1 : ((o.natAbs : Nat) : Int) = top w := by omega
    have : ¬ (o ≠ top w ∧ o ≠ -top w) := fun h => h1.elim h.1 h.2
    simp [partOf, c1, this]
  have c1 : ¬ ((o.natAbs : Nat) : Int) = top w := by omega
  have hpf : partOf w o = (if o.natAbs / 2 ^ fracB w = 0 then ((decide (o < 0), ((o.natAbs % 2 ^ fracB w : Nat) : Int), leastB w, ()), true)
     else ((decide (o < 0), ((o.natAbs % 2 ^ fracB w + 2 ^ fracB w : Nat) : Int), leastB w + (o.natAbs / 2 ^ fracB w : Nat) - 1, ()), true)) := by
    unfold partOf; rw [if_pos ⟨hok, fun h => h1 (.inl h), fun h => h1 (.inr h)⟩]
  rw [hpf]
  simp only [c1, decide_false, cond_false, cast_neg]
  generalize hF : fracB w = F at *
  generalize leastB w = A at *
  generalize o.natAbs = n at *
  have hp := pow_le_52 g2
  have hp0 : 0 < 2 ^ F := Nat.pow_pos (by omega)
  have s1 : shlI .i64 (1 : Int) (F : Int) = ((2 ^ F : Nat) : Int) := by
    have := shlN (x := 1) (k := F) (by omega) (by omega)
    rw [Nat.one_mul] at this; exact this
  have w1 : IntKind.i64.wrap (((2 ^ F : Nat) : Int) - 1) = ((2 ^ F - 1 : Nat) : Int) := by rw [wrap_i64 (by omega) (by omega)]; omega
  have a1 := bandI (x := n) (k := F) hn (by omega)
  have s2 := shrN (q := .i64) (x := n) (k := F) rfl (by omega)
  have hdiv : n / 2 ^ F ≤ n := Nat.div_le_self _ _
  have hmod : n % 2 ^ F < 2 ^ F := Nat.mod_lt _ hp0
  have o1 : bitI .or .i64 ((n % 2 ^ F : Nat) : Int) ((2 ^ F : Nat) : Int) = ((n % 2 ^ F + 2 ^ F : Nat) : Int) := by
    rw [borI (by omega) (by omega), Nat.or_comm]
    have := orAdd (u := n % 2 ^ F) (v := 1) (r := F) hmod
    rw [Nat.one_mul] at this
    rw [this, Nat.add_comm]
  simp only [s1, w1, a1, s2, o1]
  generalize n / 2 ^ F = e at *
  generalize n % 2 ^ F = f at *
  have w3 : IntKind.u64.wrap (f : Int) = (f : Int) := wrap_u64 (by omega) (by omega)
  have w5 : IntKind.u64.wrap ((f + 2 ^ F : Nat) : Int) = ((f + 2 ^ F : Nat) : Int) := wrap_u64 (by omega) (by omega)
  have w6 : IntKind.i64.wrap (A + (e : Int)) = A + (e : Int) := wrap_i64 (by omega) (by omega)
  have w7 : IntKind.i64.wrap (A + (e : Int) - 1) = A + (e : Int) - 1 := wrap_i64 (by omega) (by omega)
  by_cases he : e = 0
  · subst he
    simp [w3]
  · have c2 : ¬ (e : Int) = 0 := by omega
    simp only [c2, decide_false, cond_false, w5, w6, w7, he, if_false]
end Go.Proofs.YtlbihmicbncdiaaAm
