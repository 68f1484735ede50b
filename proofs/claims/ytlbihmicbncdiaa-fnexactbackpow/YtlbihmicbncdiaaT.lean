/-
  What the functions on fractions compute, in plain words: making, order, quotients, floors; and the laws.
-/
import Derived.Test.YtlbihmicbncdiaaS
namespace Go.Proofs.YtlbihmicbncdiaaAm
open Go
set_option linter.unusedVariables false
set_option linter.unusedSimpArgs false

def sgnd (s : Bool) (n : Nat) : Int := if s then -(n : Int) else n
def cmpZ (x y : Int) : Int := if x < y then -1 else if y < x then 1 else 0
theorem impl_Frac_cmp_eq {α : Type} (N : Nat) (s t : Bool) (a b c d : Nat) (k : Int → Option α) (ha : a < cap) (hb : b < cap) (hc : c < cap) (hd : d < cap) (h1 : a * d < cap) (h2 : c * b < cap) (hb0 : b ≠ 0) (hd0 : d ≠ 0) (hs : s = true → a ≠ 0) (ht : t = true → c ≠ 0) (hN : cap < N) :
    impl_Frac_cmp N (s, (digs a, (digs b, ()))) (t, (digs c, (digs d, ()))) k = k (cmpZ (sgnd s (a * d)) (sgnd t (c * b))) := by
  have z1 : a * d = 0 ↔ a = 0 := by rw [Nat.mul_eq_zero]; exact ⟨fun h => h.resolve_right hd0, Or.inl⟩
  have z2 : c * b = 0 ↔ c = 0 := by rw [Nat.mul_eq_zero]; exact ⟨fun h => h.resolve_right hb0, Or.inl⟩
  rw [impl_Frac_cmp.eq]
  unfold impl_Frac_cmp.b
  simp only [impl_Frac_sign_eq, signF, digs_len_zero, impl_natMul_eq N _ _ _ ha hd hN, impl_natMul_eq N _ _ _ hc hb hN]
  generalize a * d = n at *
  generalize c * b = m at *
  simp only [impl_natCmp_eq N _ _ _ h1 h2 hN]
  have key : ∀ x y : Int, -1 ≤ x → x ≤ 1 → -1 ≤ y → y ≤ 1 → maxI (-1) (minI 1 (IntKind.i64.wrap (x - y))) = if x < y then -1 else if y < x then 1 else 0 := by
    intro x y g1 g2 g3 g4
    rw [wrap_i64 (by omega) (by omega)]
    unfold maxI minI
    split <;> split <;> (try split) <;> omega
  have hc1 : IntKind.i64.wrap (0 - cmpN n m) = - cmpN n m := by
    have : -1 ≤ cmpN n m ∧ cmpN n m ≤ 1 := by unfold cmpN; split <;> (try split) <;> omega
    rw [wrap_i64 (by omega) (by omega)]; omega
  clear ha hb hc hd h1 h2
  obtain ⟨S, hS⟩ : ∃ S : Int, (if s = true then (-1 : Int) else if a = 0 then 0 else 1) = S := ⟨_, rfl⟩
  obtain ⟨T, hT⟩ : ∃ T : Int, (if t = true then (-1 : Int) else if c = 0 then 0 else 1) = T := ⟨_, rfl⟩
  have bS : -1 ≤ S ∧ S ≤ 1 := by rw [← hS]; split <;> (try split) <;> omega
  have bT : -1 ≤ T ∧ T ≤ 1 := by rw [← hT]; split <;> (try split) <;> omega
  simp only [hS, hT, key S T bS.1 bS.2 bT.1 bT.2, hc1]
  have hn : a ≠ 0 ↔ n ≠ 0 := by rw [Ne, Ne, z1]
  have hm : c ≠ 0 ↔ m ≠ 0 := by rw [Ne, Ne, z2]
  by_cases he : S = T
  · simp only [he, decide_true, Bool.not_true, cond_false]
    cases s
    · cases t
      · simp only [cond_false]
        congr 1
        unfold cmpN cmpZ sgnd
        simp only [Bool.false_eq_true, if_false]
        split <;> split <;> (try split) <;> (try split) <;> omega
      · exfalso
        have := ht rfl
        simp only [Bool.false_eq_true, if_false, if_true] at hS hT
        split at hS <;> omega
    · cases t
      · exfalso
        simp only [Bool.false_eq_true, if_false, if_true] at hS hT
        split at hT <;> omega
      · simp only [cond_true]
        congr 1
        unfold cmpN cmpZ sgnd
        simp only [if_true]
        split <;> split <;> (try split) <;> (try split) <;> omega
  · simp only [he, decide_false, Bool.not_false, cond_true]
    congr 1
    unfold cmpZ sgnd
    cases s <;> cases t <;> simp only [Bool.false_eq_true, if_false, if_true] at hS hT hs ht ⊢
    · by_cases ha0 : a = 0
      · by_cases hc0 : c = 0
        · rw [if_pos ha0] at hS; rw [if_pos hc0] at hT; omega
        · have := z1.2 ha0
          have := hm.1 hc0
          rw [if_pos ha0] at hS; rw [if_neg hc0] at hT
          rw [if_pos (by omega), if_pos (by omega)]
      · have := hn.1 ha0
        rw [if_neg ha0] at hS
        by_cases hc0 : c = 0
        · have := z2.2 hc0
          rw [if_pos hc0] at hT
          rw [if_neg (by omega), if_pos (by omega), if_neg (by omega), if_pos (by omega)]
        · rw [if_neg hc0] at hT; omega
    · have := hm.1 (ht trivial)
      have : 0 ≤ S := by rw [← hS]; split <;> omega
      rw [if_neg (by omega), if_pos (by omega), if_neg (by omega), if_pos (by omega)]
    · have := hn.1 (hs trivial)
      have : 0 ≤ T := by rw [← hT]; split <;> omega
      rw [if_pos (by omega), if_pos (by omega)]
    · omega
end Go.Proofs.YtlbihmicbncdiaaAm
