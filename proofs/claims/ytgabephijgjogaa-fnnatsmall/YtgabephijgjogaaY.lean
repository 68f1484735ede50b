/-
  The readers of naturals and fractions: they come to an end, and what they tell is good.
-/
import Derived.Test.YtgabephijgjogaaE
import Derived.Test.YtgabephijgjogaaR
namespace Go.Proofs.YtgabephijgjogaaAm
open Go
set_option linter.unusedVariables false
set_option linter.unusedSimpArgs false

theorem pick32_ok (N : Nat) (n : Int) (s : RdD) (c : Nat) (h : RdOk c s) (hc : c ≤ 1000000) : ∃ r s', (∀ {α : Type} (k : Int → RdD → Option α), spec_l32Rd_pick N n s k = k r s') ∧ RdOk (c + 1) s' ∧ 0 ≤ r ∧ (1 ≤ n → r < n) := by
  obtain ⟨hb, hp0, hp1⟩ := h
  obtain ⟨b, p, u⟩ := s
  simp only at hb hp0 hp1
  have hw : IntKind.i64.wrap (p + 1) = p + 1 := wrap_i64 (by omega) (by omega)
  have hw1 : IntKind.i64.wrap (p + 1 - 1) = p := by rw [wrap_i64 (by omega) (by omega)]; omega
  have hok : RdOk (c + 1) (b, (p + 1, ())) := ⟨hb, by simp; omega, by simp; omega⟩
  by_cases hn : n < 1
  · refine ⟨0, _, fun k => ?_, hok, by omega, by omega⟩
    rw [spec_l32Rd_pick.eq]
    unfold spec_l32Rd_pick.b
    simp only [hw, hn, decide_true, cond_true]
  have hn0 : ¬ n = 0 := by omega
  by_cases hl : b.length = 0
  · refine ⟨0, _, fun k => ?_, hok, by omega, by omega⟩
    rw [spec_l32Rd_pick.eq]
    unfold spec_l32Rd_pick.b
    have : ((b.length : Nat) : Int) = 0 := by omega
    simp only [hw, hn, decide_false, cond_false, this, decide_true, cond_true]
  have hl0 : ¬ ((b.length : Nat) : Int) = 0 := by omega
  have hp : ¬ p < 0 := by omega
  by_cases hlt : p < (b.length : Int)
  · have hi : p.toNat < b.length := by omega
    have hby := hb b[p.toNat] (List.getElem_mem hi)
    have hwb : IntKind.i64.wrap b[p.toNat] = b[p.toNat] := wrap_i64 (by omega) (by omega)
    obtain ⟨t1, t2⟩ := tmod_lt (x := b[p.toNat]) (n := n) (by omega) (by omega)
    refine ⟨(b[p.toNat]).tmod n, _, fun k => ?_, hok, t1, fun _ => t2⟩
    rw [spec_l32Rd_pick.eq]
    unfold spec_l32Rd_pick.b
    simp only [hw, hw1, hn, hn0, hl0, hlt, hp, decide_false, decide_true, cond_false, cond_true, List.getElem?_eq_getElem hi, hwb]
  · obtain ⟨m1, m2⟩ := tmod_lt (x := p) (n := (b.length : Int)) hp0 (by omega)
    have hw3 : IntKind.i64.wrap (IntKind.i64.wrap (p * 7) + 3) = p * 7 + 3 := by
      rw [wrap_i64 (x := p * 7) (by omega) (by omega), wrap_i64 (by omega) (by omega)]
    obtain ⟨m3, m4⟩ := tmod_lt (x := p * 7 + 3) (n := (b.length : Int)) (by omega) (by omega)
    have hi : (p.tmod (b.length : Int)).toNat < b.length := by omega
    have hj : ((p * 7 + 3).tmod (b.length : Int)).toNat < b.length := by omega
    have hm1 : ¬ p.tmod (b.length : Int) < 0 := by omega
    have hm3 : ¬ (p * 7 + 3).tmod (b.length : Int) < 0 := by omega
    have hx := hb _ (List.getElem_mem hi)
    have hy := hb _ (List.getElem_mem hj)
    have hdiv0 : 0 ≤ p.tdiv (b.length : Int) ∧ p.tdiv (b.length : Int) ≤ p := by
      rw [Int.tdiv_eq_ediv_of_nonneg hp0]
      exact ⟨Int.ediv_nonneg hp0 (by omega), Int.ediv_le_self _ hp0⟩
    generalize hxg : b[(p.tmod (b.length : Int)).toNat] = x at hx
    generalize hyg : b[((p * 7 + 3).tmod (b.length : Int)).toNat] = y at hy
    generalize hqg : p.tdiv (b.length : Int) = q at hdiv0
    have hv : IntKind.i64.wrap (IntKind.i64.wrap (IntKind.i64.wrap (IntKind.i64.wrap (IntKind.i64.wrap x * 131) + IntKind.i64.wrap (IntKind.i64.wrap y * 1117)) + IntKind.i64.wrap (p * 29)) + IntKind.i64.wrap (IntKind.i64.wrap q * 53)) = x * 131 + y * 1117 + p * 29 + q * 53 := by
      rw [wrap_i64 (x := x) (by omega) (by omega), wrap_i64 (x := y) (by omega) (by omega), wrap_i64 (x := q) (by omega) (by omega), wrap_i64 (x := x * 131) (by omega) (by omega), wrap_i64 (x := y * 1117) (by omega) (by omega), wrap_i64 (x := p * 29) (by omega) (by omega),
        wrap_i64 (x := q * 53) (by omega) (by omega), wrap_i64 (x := x * 131 + y * 1117) (by omega) (by omega), wrap_i64 (x := x * 131 + y * 1117 + p * 29) (by omega) (by omega), wrap_i64 (by omega) (by omega)]
    have hv0 : 0 ≤ x * 131 + y * 1117 + p * 29 + q * 53 ∧ x * 131 + y * 1117 + p * 29 + q * 53 < 9223372036854775808 := by omega
    generalize x * 131 + y * 1117 + p * 29 + q * 53 = v at hv hv0
    have hd : IntKind.i64.wrap (v.tdiv 64) = v / 64 := by
      rw [Int.tdiv_eq_ediv_of_nonneg hv0.1, wrap_i64 (by omega) (by omega)]
    have hz := xor_nonneg (x := v) (y := v / 64) hv0.1 hv0.2 (by omega) (by omega)
    obtain ⟨t1, t2⟩ := tmod_lt (x := bitI .xor .i64 v (v / 64)) (n := n) hz (by omega)
    refine ⟨(bitI .xor .i64 v (v / 64)).tmod n, _, fun k => ?_, hok, t1, fun _ => t2⟩
    rw [spec_l32Rd_pick.eq]
    unfold spec_l32Rd_pick.b
    simp only [hw, hw1, hw3, hn, hn0, hl0, hlt, hm1, hm3, decide_false, decide_true, cond_false, cond_true, List.getElem?_eq_getElem hi, List.getElem?_eq_getElem hj, hxg, hyg, hqg, hv, hd]
theorem open32_ok (N : Nat) (a : List Int) (ha : ∀ x ∈ a, 0 ≤ x ∧ x ≤ 255) : ∃ s', (∀ {α : Type} (k : RdD → Option α), spec_l32Open N a k = k s') ∧ RdOk 0 s' := by
  by_cases h : 2000 < a.length
  · refine ⟨(a.take 2000, 0, ()), fun k => ?_, ⟨fun x hx => ha x (List.mem_of_mem_take hx), by simp, by simp⟩⟩
    rw [spec_l32Open.eq]
    unfold spec_l32Open.b
    rw [spec_l32Open_J1.eq]
    unfold spec_l32Open_J1.b
    have h1 : (2000 : Int) < ((a.length : Nat) : Int) := by omega
    have h2 : (2000 : Int) ≤ ((a.length : Nat) : Int) := by omega
    simp only [h1, h2, decide_true, cond_true]
  · refine ⟨(a, 0, ()), fun k => ?_, ⟨ha, by simp, by simp⟩⟩
    rw [spec_l32Open.eq]
    unfold spec_l32Open.b
    rw [spec_l32Open_J1.eq]
    unfold spec_l32Open_J1.b
    have h1 : ¬ (2000 : Int) < ((a.length : Nat) : Int) := by omega
    simp only [h1, decide_false, cond_false]
end Go.Proofs.YtgabephijgjogaaAm
