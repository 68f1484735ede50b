/-
  The laws on narrow and wide floats that are drawn.
-/
import Derived.Test.YtbaeipjjijdgiaaDoorBd
import Derived.Test.YtbaeipjjijdgiaaDoorE
namespace Go.Proofs.YtbaeipjjijdgiaaDoorAm
open Go
set_option linter.unusedVariables false
set_option linter.unusedSimpArgs false

theorem impl_BitWiden_eq {α : Type} (N : Nat) (o : Int) (k : Int → Bool → Option α) : impl_BitWiden N o k = k (if bitOk 32 o = true then widenP o else 0) (bitOk 32 o) := by
  rw [impl_BitWiden.eq]
  unfold impl_BitWiden.b
  simp only [impl_BitOk_eq, impl_widen_eq]
  cases bitOk 32 o <;> simp
theorem wide_ok (N : Nat) (s : RdD) (c : Nat) (h : RdOk c s) (hc : c ≤ 500000) (hN : 1048576 < N) :
    ∃ v s', (∀ {α : Type} (k : Int → RdD → Option α), spec_l31Rd_wide N s k = k v s') ∧ RdOk (c + 20) s' ∧ -9218868437227406000 ≤ v ∧ v ≤ 9218868437227406000 := by
  obtain ⟨r, s1, e1, q1, r0, r1⟩ := pick_ok N 3 s c h (by omega)
  by_cases h1 : 0 < r
  · obtain ⟨o, s2, e2, q2, o0, o1⟩ := ord_ok N 32 s1 (c + 1) q1 (by omega) hN
    obtain ⟨p, s3, e3, q3, p0, p1⟩ := pick_ok N 5 s2 (c + 1 + 12) q2 (by omega)
    have p1 := p1 (by omega)
    have hv : -9218868437227405312 ≤ (if bitOk 32 o = true then widenP o else 0) ∧ (if bitOk 32 o = true then widenP o else 0) ≤ 9218868437227405312 := by
      split
      · rename_i hok
        obtain ⟨a, b⟩ := ok32_iff.1 hok
        exact widenP_range a b
      · omega
    refine ⟨(if bitOk 32 o = true then widenP o else 0) + p - 2, s3, fun k => ?_, q3.mono (by omega), by omega, by omega⟩
    rw [spec_l31Rd_wide.eq]
    unfold spec_l31Rd_wide.b
    simp only [e1, h1, decide_true, cond_true, e2]
    obtain ⟨b, eb⟩ := spec_BitWiden_eq N o (fun x545 _ => spec_l31Rd_pick N (5 : Int) s2 (fun x547 x548 => k (IntKind.i64.wrap (IntKind.i64.wrap (x545 + x547) - (2 : Int))) x548)) hN
    refine eb.trans ?_
    generalize (if bitOk 32 o = true then widenP o else 0) = v at *
    have w1 : IntKind.i64.wrap (v + p) = v + p := wrap_i64 (by omega) (by omega)
    have w2 : IntKind.i64.wrap (v + p - 2) = v + p - 2 := wrap_i64 (by omega) (by omega)
    simp only [e3, w1, w2]
  · obtain ⟨o, s2, e2, q2, o0, o1⟩ := ord_ok N 64 s1 (c + 1) q1 (by omega) hN
    rw [show top 64 = 9218868437227405312 from rfl] at o0 o1
    refine ⟨o, s2, fun k => ?_, q2.mono (by omega), by omega, by omega⟩
    rw [spec_l31Rd_wide.eq]
    unfold spec_l31Rd_wide.b
    simp only [e1, h1, decide_false, cond_false, e2]
theorem drawBitBelow_ok (N : Nat) (a : List Int) (ha : ∀ x ∈ a, 0 ≤ x ∧ x ≤ 255) (hN : 1048576 < N) :
    ∃ v, (∀ {α : Type} (k : Int → Option α), spec_DrawBitBelow N a k = k v) ∧ -9218868437227406000 ≤ v ∧ v ≤ 9218868437227406000 := by
  obtain ⟨s, e, q⟩ := open_ok N a ha
  obtain ⟨v, s1, e1, q1, v0, v1⟩ := wide_ok N s 0 q (by omega) hN
  refine ⟨v, fun k => ?_, v0, v1⟩
  rw [spec_DrawBitBelow.eq]
  unfold spec_DrawBitBelow.b
  simp only [e, e1]
theorem drawBitWiden_ok (N : Nat) (a : List Int) (ha : ∀ x ∈ a, 0 ≤ x ∧ x ≤ 255) (hN : 1048576 < N) :
    ∃ v, (∀ {α : Type} (k : Int → Option α), spec_DrawBitWiden N a k = k v) := by
  obtain ⟨s, e, q⟩ := open_ok N a ha
  obtain ⟨v, s1, e1, q1, v0, v1⟩ := ord_ok N 32 s 0 q (by omega) hN
  refine ⟨v, fun k => ?_⟩
  rw [spec_DrawBitWiden.eq]
  unfold spec_DrawBitWiden.b
  simp only [e, e1]
theorem above_flag {N : Nat} {n : Int} (h0 : -9218868437227406000 ≤ n) (h1 : n ≤ 9218868437227406000) : (bitAbove N n).2 = bitOk 64 n ∧ (bitBelow N n).2 = bitOk 64 n := by
  have w : IntKind.i64.wrap (0 - n) = -n := by rw [wrap_i64 (by omega) (by omega)]; omega
  have hneg : bitOk 64 (-n) = bitOk 64 n := by
    rw [Bool.eq_iff_iff, ok64_iff, ok64_iff]; omega
  unfold bitAbove bitBelow
  rw [w, hneg]
  cases bitOk 64 n <;> simp
theorem cross_J8 {α : Type} (N : Nat) (x y : List Int) (n : Int) (k : Bool → Option α) (k1 : List Int → List Int → Option α) (hN : 1099511627776 < N) (h0 : -9218868437227406000 ≤ n) (h1 : n ≤ 9218868437227406000) :
    laws_FnBitCross_J8 N x y n (bitBelow N n).1 (bitBelow N n).2 (bitAbove N n).1 k k1 = k1 x y := by
  rw [laws_FnBitCross_J8.eq]
  unfold laws_FnBitCross_J8.b
  cases hok : bitOk 64 n
  · simp only [(above_flag h0 h1).2, hok, cond_false]
  obtain ⟨n0, n1⟩ := ok64_iff.1 hok
  obtain ⟨r, e, a, b, c, d⟩ := below_ok (N := N) hN n0 n1
  obtain ⟨q, e', a', b', c', d'⟩ := above_ok (N := N) hN n0 n1
  have hr : bitOk 32 r = true := ok32 a b
  have hq : bitOk 32 q = true := ok32 a' b'
  have l1 : r ≤ q := Classical.byContradiction fun h => by have := widenP_lt (a := q) (b := r) a' b (by omega); omega
  have l2 : q ≤ r + 1 := Classical.byContradiction fun h => by
    rcases d' with d' | d'
    · omega
    · rcases d with d | d
      · omega
      · have := widenP_le (a := r + 1) (b := q - 1) (by omega) (by omega) (by omega); omega
  have l3 : widenP r = n → r = q := fun h => Classical.byContradiction fun hne => by
    rcases d' with d' | d'
    · omega
    · have := widenP_le (a := r) (b := q - 1) a (by omega) (by omega); omega
  have c1 : ¬ n < widenP r := by omega
  have c2 : ¬ widenP q < n := by omega
  have w : IntKind.i64.wrap (q - r) = q - r := wrap_i64 (by omega) (by omega)
  have c3 : ¬ 1 < q - r := by omega
  have c4 : ¬ q < r := by omega
  rw [e, e']
  simp only [cond_true, impl_BitWiden_eq, hr, hq, if_true, Bool.not_true, cond_false, c1, c2, decide_false, w, c3, c4]
  by_cases h : widenP r = n
  · have := l3 h
    simp [h, this]
  · simp [h]
theorem pure_FnBitCross (x0 x1 : List Int) (z0 : wfD (.sl (.int .u8)) x0) (z1 : wfD (.sl (.int .u8)) x1) : ∃ N, laws_FnBitCross N x0 x1 some = some true := by
  refine ⟨1099511627777, ?_⟩
  have hN : 1099511627776 < 1099511627777 := by omega
  generalize 1099511627777 = N at *
  have hN' : 1048576 < N := by omega
  obtain ⟨n, e1, n0, n1⟩ := drawBitBelow_ok N x0 (bytes_wf z0) hN'
  obtain ⟨s, e2⟩ := drawBitWiden_ok N x0 (bytes_wf z0) hN'
  obtain ⟨t, e3⟩ := drawBitWiden_ok N x1 (bytes_wf z1) hN'
  rw [laws_FnBitCross.eq]
  unfold laws_FnBitCross.b
  by_cases h0 : (1048576 : Int) < ((x0.length : Nat) : Int)
  · simp [h0]
  by_cases h1 : (1048576 : Int) < ((x1.length : Nat) : Int)
  · simp [h0, h1]
  obtain ⟨f1, f2⟩ := above_flag (N := N) n0 n1
  simp only [h0, h1, decide_false, cond_false, e1, impl_BitBelow_eq N _ _ hN, impl_BitAbove_eq N _ _ hN, spec_BitOk_eq]
  rw [f1]
  have : ((bitBelow N n).2 == bitOk 64 n) = true := by rw [f2]; simp
  have h3 : (bitOk 64 n == (bitBelow N n).2) = true := by rw [f2]; simp
  simp only [this, h3, Bool.not_true, cond_false, cross_J8 N x0 x1 n _ _ hN n0 n1, e2, e3, impl_BitWiden_eq, beq_self_eq_true]
  rw [laws_FnBitCross_J19.eq]
  unfold laws_FnBitCross_J19.b
  cases hs : bitOk 32 s
  · simp
  obtain ⟨s0, s1⟩ := ok32_iff.1 hs
  obtain ⟨b1, b2⟩ := below_back (N := N) hN s0 s1
  simp only [if_true, cond_true, impl_BitBelow_eq N _ _ hN, impl_BitAbove_eq N _ _ hN, b1, b2, Bool.not_true, cond_false, decide_true]
  cases ht : bitOk 32 t
  · simp
  obtain ⟨t0, t1⟩ := ok32_iff.1 ht
  have : decide (widenP s < widenP t) = decide (s < t) := by
    by_cases h : s < t
    · have := widenP_lt s0 t1 h
      simp [h, this]
    · have := widenP_le (a := t) (b := s) t0 s1 (by omega)
      have : ¬ widenP s < widenP t := by omega
      simp [h, this]
  simp [this]
theorem pairLess_ok {N : Nat} {p : PairD} (hN : 1099511627776 < N) (h : pairOk 64 p = true) : pairOk 32 (pairLess N p).1 = true ∧ pairIs p (pairMore (pairLess N p).1).1 = true := by
  obtain ⟨_, a1, a2, a3, a4, a5, _⟩ := pairOk_ok h
  rw [show top 64 = 9218868437227405312 from rfl] at a1 a2 a3 a4
  obtain ⟨r, e, a, b, c, d⟩ := below_ok (N := N) (x := p.1) hN (by omega) (by omega)
  obtain ⟨q, e', a', b', c', d'⟩ := above_ok (N := N) (x := p.2.1) hN (by omega) (by omega)
  have hl : (pairLess N p).1 = (r, q, ()) := by unfold pairLess; rw [if_pos h, e, e']
  have l1 : r ≤ q := Classical.byContradiction fun h => by have := widenP_lt (a := q) (b := r) a' b (by omega); omega
  have l2 : r ≠ 2139095040 := fun h => by rw [h, widenP_top] at c; omega
  have l3 : q ≠ -2139095040 := fun h => by rw [h, widenP_bot] at c'; omega
  have hok : pairOk 32 (r, q, ()) = true := pairOk_mk (.inl rfl) (by rw [show top 32 = 2139095040 from rfl]; omega) (by rw [show top 32 = 2139095040 from rfl]; omega) (by rw [show top 32 = 2139095040 from rfl]; omega) (by rw [show top 32 = 2139095040 from rfl]; omega) l1
  rw [hl]
  refine ⟨hok, ?_⟩
  unfold pairMore
  rw [if_pos hok]
  simp only [pairIs, Bool.and_eq_true, decide_eq_true_eq]
  exact ⟨c, c'⟩
theorem pairMore_ok {N : Nat} {p : PairD} (hN : 1099511627776 < N) (h : pairOk 32 p = true) : pairOk 64 (pairMore p).1 = true ∧ (pairLess N (pairMore p).1).1 = p := by
  obtain ⟨_, a1, a2, a3, a4, a5, _⟩ := pairOk_ok h
  rw [show top 32 = 2139095040 from rfl] at a1 a2 a3 a4
  have hl : (pairMore p).1 = (widenP p.1, widenP p.2.1, ()) := by unfold pairMore; rw [if_pos h]
  have b1 := widenP_range (a := p.1) (by omega) (by omega)
  have b2 := widenP_range (a := p.2.1) (by omega) (by omega)
  have b3 := widenP_lt (a := p.1) (b := 2139095040) (by omega) (by omega) (by omega)
  have b4 := widenP_lt (a := -2139095040) (b := p.2.1) (by omega) (by omega) (by omega)
  have b5 := widenP_le (a := p.1) (b := p.2.1) (by omega) (by omega) a5
  rw [widenP_top] at b3
  rw [widenP_bot] at b4
  have hok : pairOk 64 (widenP p.1, widenP p.2.1, ()) = true := pairOk_mk (.inr rfl) (by rw [show top 64 = 9218868437227405312 from rfl]; omega) (by rw [show top 64 = 9218868437227405312 from rfl]; omega) (by rw [show top 64 = 9218868437227405312 from rfl]; omega) (by rw [show top 64 = 9218868437227405312 from rfl]; omega) b5
  rw [hl]
  refine ⟨hok, ?_⟩
  unfold pairLess
  rw [if_pos hok]
  simp only [(below_back (N := N) (s := p.1) hN (by omega) (by omega)).1, (below_back (N := N) (s := p.2.1) hN (by omega) (by omega)).2]
theorem boxIs_map {f : PairD → PairD} : ∀ {b : List PairD}, (∀ p ∈ b, pairIs p (f p) = true) → boxIs b (b.map f) = true
  | [], _ => rfl
  | p :: r, h => by
    simp only [List.map_cons, boxIs, Bool.and_eq_true]
    exact ⟨h p (List.mem_cons_self ..), boxIs_map fun q hq => h q (List.mem_cons_of_mem _ hq)⟩
theorem boxIs_self : ∀ (b : List PairD), boxIs b b = true
  | [] => rfl
  | p :: r => by
    simp only [boxIs, Bool.and_eq_true]
    exact ⟨by simp [pairIs], boxIs_self r⟩
theorem boxOk_map {w v : Int} {f : PairD → PairD} {b : List PairD} (h : boxOk w b = true) (hf : ∀ p ∈ b, pairOk v (f p) = true) : boxOk v (b.map f) = true := by
  obtain ⟨h1, h2, _⟩ := boxOk_len h
  simp only [boxOk, Bool.and_eq_true, decide_eq_true_eq, List.length_map, List.all_map, List.all_eq_true, Function.comp_apply]
  exact ⟨⟨h1, h2⟩, hf⟩
end Go.Proofs.YtbaeipjjijdgiaaDoorAm
