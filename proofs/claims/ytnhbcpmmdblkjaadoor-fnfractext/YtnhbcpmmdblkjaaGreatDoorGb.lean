/-
  Texts of fractions: what both texts write; the law.
-/
import Derived.Test.YtnhbcpmmdblkjaaGreatDoorGa
import Derived.Test.YtnhbcpmmdblkjaaGreatDoorT
namespace Go.Proofs.YtnhbcpmmdblkjaaGreatDoorAm
open Go
set_option linter.unusedVariables false
set_option linter.unusedSimpArgs false

theorem dec_len {a : Nat} (h : a < 65536 ^ 256) : (Go.Lib.decDigits a).length ≤ 1280 := by
  by_cases h0 : a = 0
  · subst h0; rw [dec_small (show 0 < 10 by omega)]; simp
  · have := txt_len h
    unfold txt at this
    rw [if_neg h0] at this
    exact this
def fracTextL (s : Bool) (a b : Nat) : List UInt8 := (if s = true then [45] else []) ++ (Go.Lib.decDigits a ++ if b = 1 then [] else 47 :: Go.Lib.decDigits b)
def fracText (f : FracD) : ByteArray := if fracOkB f = true then BA (fracTextL f.1 (val f.2.1).toNat (val f.2.2.1).toNat) else ByteArray.empty
theorem minus_BA : (⟨#[45]⟩ : ByteArray) = BA [45] := rfl
theorem slash_BA : (⟨#[47]⟩ : ByteArray) = BA [47] := rfl
theorem spec_FracText_eq {α : Type} (N : Nat) (f : FracD) (k : ByteArray → Option α) (hN : cap < N) : spec_FracText N f k = k (fracText f) := by
  rw [spec_FracText.eq]
  unfold spec_FracText.b fracText
  simp only [spec_FracOk_eq N _ _ hN]
  cases hf : fracOkB f
  · simp
  obtain ⟨s, a, b, rfl, ha, hb, hb0, hg, hs⟩ := fracOkB_ex hf
  have la := dec_len ha
  have lb := dec_len hb
  have e1 : natTextB (digs a) = BA (Go.Lib.decDigits a) := by
    unfold natTextB; rw [natOkB_digs ha, if_pos rfl, val_digs]; rfl
  have e2 : natTextB (digs b) = BA (Go.Lib.decDigits b) := by
    unfold natTextB; rw [natOkB_digs hb, if_pos rfl, val_digs]; rfl
  simp only [Bool.not_true, cond_false, spec_NatText_eq N _ _ hN, e1, val_digs, Int.toNat_natCast, if_true, minus_BA, spec_FracText_J4.eq]
  unfold spec_FracText_J4.b fracTextL
  have h6 : ∀ (l : List UInt8), l.length ≤ 1300 → ∀ K : ByteArray → Option α, spec_FracText_J6 N (BA l) (s, (digs a, (digs b, ()))) K = K (BA (l ++ if b = 1 then [] else 47 :: Go.Lib.decDigits b)) := by
    intro l hl K
    rw [spec_FracText_J6.eq]
    unfold spec_FracText_J6.b
    have c1 : (BA l).size + (BA [47]).size ≤ 9223372036854775807 := by rw [BA_size, BA_size]; simp; omega
    have c2 : (BA (l ++ [47])).size + (BA (Go.Lib.decDigits b)).size ≤ 9223372036854775807 := by rw [BA_size, BA_size]; simp; omega
    simp only [spec_l6One_eq N b _, slash_BA, c1, decide_true, cond_true, spec_NatText_eq N _ _ hN, e2, BA_append, c2]
    by_cases hb1 : b = 1
    · simp [hb1]
    · simp [hb1]
  cases s
  · simp only [cond_false, Bool.false_eq_true, if_false, List.nil_append]
    exact h6 _ (by omega) _
  · have c1 : (BA [45]).size + (BA (Go.Lib.decDigits a)).size ≤ 9223372036854775807 := by rw [BA_size, BA_size]; simp; omega
    simp only [cond_true, minus_BA, c1, decide_true, BA_append, if_true]
    refine (h6 ([45] ++ Go.Lib.decDigits a) (by simp; omega) _).trans ?_
    simp
theorem impl_FracText_eq {α : Type} (N : Nat) (f : FracD) (k : ByteArray → Option α) (hN : cap < N) : impl_FracText N f k = k (fracText f) := by
  rw [impl_FracText.eq]
  unfold impl_FracText.b fracText
  simp only [impl_FracOk_eq N _ _ hN]
  cases hf : fracOkB f
  · simp
  obtain ⟨s, a, b, rfl, ha, hb, hb0, hg, hs⟩ := fracOkB_ex hf
  have la := dec_len ha
  have lb := dec_len hb
  simp only [Bool.not_true, cond_false, impl_natText_eq N a _ ha hN, val_digs, Int.toNat_natCast, if_true, minus_BA, impl_FracText_J4.eq]
  unfold impl_FracText_J4.b fracTextL
  have h6 : ∀ (l : List UInt8), l.length ≤ 1300 → ∀ K : ByteArray → Option α, impl_FracText_J6 N (BA l) (s, (digs a, (digs b, ()))) K = K (BA (l ++ if b = 1 then [] else 47 :: Go.Lib.decDigits b)) := by
    intro l hl K
    rw [impl_FracText_J6.eq]
    unfold impl_FracText_J6.b
    have h1c : (1 : Nat) < cap := by have := cap_ge; omega
    have c1 : (BA [47]).size + (BA (Go.Lib.decDigits b)).size ≤ 9223372036854775807 := by rw [BA_size, BA_size]; simp; omega
    have c2 : (BA l).size + (BA ([47] ++ Go.Lib.decDigits b)).size ≤ 9223372036854775807 := by rw [BA_size, BA_size]; simp; omega
    simp only [← digs1, impl_natCmp_eq N b 1 _ (cap0_lt (c256 hb)) h1c hN, slash_BA, impl_natText_eq N b _ hb hN, c1, decide_true, cond_true, BA_append, c2]
    by_cases hb1 : b = 1
    · subst hb1
      have : cmpN 1 1 = 0 := by decide
      simp [this]
    · have : ¬ cmpN b 1 = 0 := by
        unfold cmpN
        split
        · omega
        · split <;> omega
      simp [hb1, this]
  cases s
  · simp only [cond_false, Bool.false_eq_true, if_false, List.nil_append]
    exact h6 _ (by omega) _
  · have c1 : (BA [45]).size + (BA (Go.Lib.decDigits a)).size ≤ 9223372036854775807 := by rw [BA_size, BA_size]; simp; omega
    simp only [cond_true, minus_BA, c1, decide_true, BA_append, if_true]
    refine (h6 ([45] ++ Go.Lib.decDigits a) (by simp; omega) _).trans ?_
    simp
end Go.Proofs.YtnhbcpmmdblkjaaGreatDoorAm
