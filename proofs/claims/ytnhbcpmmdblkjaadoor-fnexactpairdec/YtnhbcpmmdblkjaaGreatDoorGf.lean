/-
  Decimals of fractions: what both texts write; the law.
-/
import Derived.Test.YtnhbcpmmdblkjaaGreatDoorGd
namespace Go.Proofs.YtnhbcpmmdblkjaaGreatDoorAm
open Go
set_option linter.unusedVariables false
set_option linter.unusedSimpArgs false

theorem digits_loop {α : Type} (N : Nat) (p v r : List UInt8) (hv : v.all isDig = true) (hr : r = [] ∨ ∃ c s, r = c :: s ∧ isDig c = false) (hb : (p ++ (v ++ r)).length ≤ 100000) (k : Int → Option α) : ∀ (d n f : Nat), n + d = v.length → d < f →
    spec_l7Digits_L0 N f (BA (p ++ (v ++ r))) (p.length : Int) (n : Int) k = k (v.length : Int) := by
  have hl : (p ++ (v ++ r)).length = p.length + (v.length + r.length) := by simp
  intro d
  induction d with
  | zero =>
    intro n f h hf
    obtain ⟨f, rfl⟩ : ∃ m, f = m + 1 := ⟨f - 1, by omega⟩
    have hn : n = v.length := by omega
    subst hn
    have w1 : IntKind.i64.wrap ((p.length : Int) + (v.length : Int)) = ((p.length + v.length : Nat) : Int) := by rw [wrap_i64 (by omega) (by omega)]; omega
    rw [spec_l7Digits_L0.succ]
    unfold spec_l7Digits_L0r
    simp only [w1, BA_size, cast_neg, cond_false, Int.toNat_natCast, BA_get]
    rcases hr with rfl | ⟨c, s, rfl, hc⟩
    · have : ¬ p.length + v.length < (p ++ (v ++ [])).length := by simp
      simp only [cast_nlt this, cond_false]
    · have hi : p.length + v.length < (p ++ (v ++ c :: s)).length := by simp
      have hg : (p ++ (v ++ c :: s))[p.length + v.length]? = some c := by
        rw [List.getElem?_append_right (by omega), List.getElem?_append_right (by omega)]
        simp
      simp only [cast_lt hi, cond_true, hg]
      rcases dig_not hc with q | ⟨q, q'⟩
      · have : ¬ (48 : Int) ≤ ((c.toNat : Nat) : Int) := by omega
        simp only [this, decide_false, cond_false]
      · have a1 : (48 : Int) ≤ ((c.toNat : Nat) : Int) := by omega
        have a2 : ¬ ((c.toNat : Nat) : Int) ≤ 57 := by omega
        simp only [a1, a2, decide_true, decide_false, cond_true, cond_false]
  | succ d ih =>
    intro n f h hf
    obtain ⟨f, rfl⟩ : ∃ m, f = m + 1 := ⟨f - 1, by omega⟩
    have hn : n < v.length := by omega
    have w1 : IntKind.i64.wrap ((p.length : Int) + (n : Int)) = ((p.length + n : Nat) : Int) := by rw [wrap_i64 (by omega) (by omega)]; omega
    have hi : p.length + n < (p ++ (v ++ r)).length := by omega
    have hg : (p ++ (v ++ r))[p.length + n]? = some v[n] := by
      rw [List.getElem?_append_right (by omega), List.getElem?_append_left (by omega), show p.length + n - p.length = n by omega, List.getElem?_eq_getElem hn]
    have hd := isDig_ok (List.all_eq_true.1 hv _ (List.getElem_mem hn))
    have a1 : (48 : Int) ≤ ((v[n].toNat : Nat) : Int) := by omega
    have a2 : ((v[n].toNat : Nat) : Int) ≤ 57 := by omega
    rw [spec_l7Digits_L0.succ]
    unfold spec_l7Digits_L0r
    simp only [w1, BA_size, cast_neg, cond_false, Int.toNat_natCast, BA_get, cast_lt hi, cond_true, hg, a1, a2, decide_true, succ_i (show n < 4611686018427387904 by omega)]
    exact ih (n + 1) f (by omega) (by omega)
theorem digits_eq {α : Type} (N : Nat) (p v r : List UInt8) (hv : v.all isDig = true) (hr : r = [] ∨ ∃ c s, r = c :: s ∧ isDig c = false) (hb : (p ++ (v ++ r)).length ≤ 100000) (k : Int → Option α) (hN : 1048576 < N) :
  spec_l7Digits N (BA (p ++ (v ++ r))) (p.length : Int) k = k (v.length : Int) := by
 have hl : (p ++ (v ++ r)).length = p.length + (v.length + r.length) := by simp
 rw [spec_l7Digits.eq]
 unfold spec_l7Digits.b
 exact digits_loop N p v r hv hr hb (fun x => k x) v.length 0 N (by omega) (by omega)
end Go.Proofs.YtnhbcpmmdblkjaaGreatDoorAm
