/-
  The laws on narrow and wide floats that are drawn.
-/
import Derived.Test.YtbaeipjjijdgiaaBd
import Derived.Test.YtbaeipjjijdgiaaE
namespace Go.Proofs.YtbaeipjjijdgiaaAm
open Go
set_option linter.unusedVariables false
set_option linter.unusedSimpArgs false

theorem above_flag {N : Nat} {n : Int} (h0 : -9218868437227406000 ≤ n) (h1 : n ≤ 9218868437227406000) : (bitAbove N n).2 = bitOk 64 n ∧ (bitBelow N n).2 = bitOk 64 n := by
  have w : IntKind.i64.wrap (0 - n) = -n := by rw [wrap_i64 (by omega) (by omega)]; omega
  have hneg : bitOk 64 (-n) = bitOk 64 n := by
    rw [Bool.eq_iff_iff, ok64_iff, ok64_iff]; omega
  unfold bitAbove bitBelow
  rw [w, hneg]
  cases bitOk 64 n <;> simp
theorem box_J8 {α : Type} (N : Nat) (w n i : Int) (s : RdD) (u o : List PairD) (c : Nat) (h : RdOk c s) (hc : c ≤ 200000) (hN : 1048576 < N) (ho : o.length ≤ 100) :
    ∃ (p : PairD) (s' : RdD), (∀ (k : Int → Int → Int → RdD → List PairD → List PairD → Option α), spec_l31Rd_box_J8 N w n i s u o k = k w n i s' u (o ++ [p])) ∧ RdOk (c + 200) s' := by
  have hlen : ∀ p : PairD, decide (o.length + [p].length ≤ 8796093022208) = true := fun p => by simp; omega
  obtain ⟨r, s1, e1, q1, _, _⟩ := pick_ok N 24 s c h (by omega)
  by_cases h1 : r = 0
  · obtain ⟨p, s2, e2, q2, _⟩ := pair_ok N w s1 (c + 1) q1 (by omega) hN
    refine ⟨p, s2, fun k => ?_, q2.mono (by omega)⟩
    rw [spec_l31Rd_box_J8.eq]
    unfold spec_l31Rd_box_J8.b
    simp only [e1, h1, decide_true, cond_true, e2, hlen]
  · obtain ⟨p, s2, e2, q2, _⟩ := good_ok N w s1 (c + 1) q1 (by omega) hN
    refine ⟨p, s2, fun k => ?_, q2.mono (by omega)⟩
    rw [spec_l31Rd_box_J8.eq]
    unfold spec_l31Rd_box_J8.b
    simp only [e1, h1, decide_false, cond_false, e2, hlen, cond_true]
theorem box_loop {α : Type} (N : Nat) (w : Int) (n : Nat) (u : List PairD) (hN : 1048576 < N) (hn : n ≤ 8) : ∀ (d i f : Nat) (s : RdD) (c : Nat) (o : List PairD), i + d = n → d < f → RdOk c s → c + 200 * d ≤ 100000 → o.length = i →
    ∃ (o' : List PairD) (s' : RdD), (∀ (k : RdD → List PairD → List PairD → Option α), spec_l31Rd_box_L0 N f w (n : Int) (i : Int) s u o k = k s' u o') ∧ o'.length ≤ 8 ∧ RdOk (c + 200 * d) s' := by
  intro d
  induction d with
  | zero =>
    intro i f s c o h hf hs hc ho
    obtain ⟨f, rfl⟩ : ∃ m, f = m + 1 := ⟨f - 1, by omega⟩
    refine ⟨o, s, fun k => ?_, by omega, hs⟩
    rw [spec_l31Rd_box_L0.succ]
    unfold spec_l31Rd_box_L0r
    simp only [cast_nlt (show ¬ i < n by omega), cond_false]
  | succ d ih =>
    intro i f s c o h hf hs hc ho
    obtain ⟨f, rfl⟩ : ∃ m, f = m + 1 := ⟨f - 1, by omega⟩
    obtain ⟨p, s1, e1, q1⟩ := box_J8 (α := α) N w (n : Int) (i : Int) s u o c hs (by omega) hN (by omega)
    obtain ⟨o', s2, e2, h2, q2⟩ := ih (i + 1) f s1 (c + 200) (o ++ [p]) (by omega) (by omega) q1 (by omega) (by simp [ho])
    refine ⟨o', s2, fun k => ?_, h2, q2.mono (by omega)⟩
    rw [spec_l31Rd_box_L0.succ]
    unfold spec_l31Rd_box_L0r
    simp only [cast_lt (show i < n by omega), cond_true, e1, succ_i (show i < 4611686018427387904 by omega)]
    exact e2 k
theorem box_ok {α : Type} (N : Nat) (w : Int) (s : RdD) (c : Nat) (h : RdOk c s) (hc : c ≤ 50000) (hN : 1048576 < N) :
    ∃ (o : List PairD) (s' : RdD), (∀ (k : RdD → List PairD → Option α), spec_l31Rd_box N w s k = k s' o) ∧ o.length ≤ 8 ∧ RdOk (c + 2000) s' := by
  obtain ⟨r, s1, e1, q1, r0, r1⟩ := pick_ok N 3 s c h (by omega)
  have r1 := r1 (by omega)
  obtain ⟨r2, s2, e2, q2, _, _⟩ := pick_ok N 12 s1 (c + 1) q1 (by omega)
  have key : ∃ (m : Nat) (s3 : RdD), (∀ (k : Int → Int → RdD → List PairD → List PairD → Option α), spec_l31Rd_box_J3 N w (IntKind.i64.wrap (1 + r)) s1 [] [] k = k w (m : Int) s3 [] []) ∧ m ≤ 8 ∧ RdOk (c + 3) s3 := by
    by_cases h1 : r2 = 0
    · obtain ⟨r3, s3, e3, q3, p0, p1⟩ := pick_ok N 8 s2 (c + 1 + 1) q2 (by omega)
      have p1 := p1 (by omega)
      refine ⟨r3.toNat, s3, fun k => ?_, by omega, q3.mono (by omega)⟩
      rw [spec_l31Rd_box_J3.eq]
      unfold spec_l31Rd_box_J3.b
      simp only [e2, h1, decide_true, cond_true, e3, Int.toNat_of_nonneg p0]
    · have w1 : IntKind.i64.wrap (1 + r) = (((1 + r).toNat : Nat) : Int) := by rw [wrap_i64 (by omega) (by omega)]; omega
      refine ⟨(1 + r).toNat, s2, fun k => ?_, by omega, q2.mono (by omega)⟩
      rw [spec_l31Rd_box_J3.eq]
      unfold spec_l31Rd_box_J3.b
      simp only [e2, h1, decide_false, cond_false, w1]
  obtain ⟨m, s3, e3, hm, q3⟩ := key
  obtain ⟨o, s4, e4, ho, q4⟩ := box_loop (α := α) N w m [] hN hm m 0 N s3 (c + 3) [] (by omega) (by omega) q3 (by omega) rfl
  rw [show ((0 : Nat) : Int) = 0 from rfl] at e4
  refine ⟨o, s4, fun k => ?_, ho, q4.mono (by omega)⟩
  rw [spec_l31Rd_box.eq]
  unfold spec_l31Rd_box.b
  simp only [e1, e3, e4]
theorem pairLess_ok {N : Nat} {p : PairD} (hN : 1099511627776 < N) (h : pairOk 64 p = true) : pairOk 32 (pairLess N p).1 = true ∧ pairIs p (pairMore (pairLess N p).1).1 = true := by
  obtain ⟨_, a1, a2, a3, a4, a5, _⟩ := pairOk_ok h
  rw [show top 64 = 9218868437227405312 from rfl] at a1 a2 a3 a4
  obtain ⟨r, e, a, b, c, d⟩ := below_ok (N := N) (x := p.1) hN (by omega) (by omega)
  obtain ⟨q, e', a', b', c', d'⟩ := above_ok (N := N) (x := p.2.1) hN (by omega) (by omega)
  have hl : (pairLess N p).1 = (r, q, ()) := by unfold pairLess; rw [if_pos h, e, e']
  have l1 : r ≤ q := Classical.byContradiction fun h => by have := widenP_lt (a := q) (b := r) a' b (by omega); omega
  have l2 : r ≠ 2139095040 := fun h => by rw [h, widenP_top] at c; omega
  have l3 : q ≠ -2139095040 := fun h => by rw [h, widenP_bot] at c'; omega
  have hok : pairOk 32 (r, q, ()) = true := pairOk_mk (.inl rfl) (by rw [show top 32 = 2139095040 from rfl]; omega) (by rw [show top 32 = 2139095040 from rfl]; omega) (by rw [show top 32 = 2139095040 from rfl]; omega) (by rw [show top 32 = 2139095040 from rfl]; omega) l1
  rw [hl]
  refine ⟨hok, ?_⟩
  unfold pairMore
  rw [if_pos hok]
  simp only [pairIs, Bool.and_eq_true, decide_eq_true_eq]
  exact ⟨c, c'⟩
theorem pairMore_ok {N : Nat} {p : PairD} (hN : 1099511627776 < N) (h : pairOk 32 p = true) : pairOk 64 (pairMore p).1 = true ∧ (pairLess N (pairMore p).1).1 = p := by
  obtain ⟨_, a1, a2, a3, a4, a5, _⟩ := pairOk_ok h
  rw [show top 32 = 2139095040 from rfl] at a1 a2 a3 a4
  have hl : (pairMore p).1 = (widenP p.1, widenP p.2.1, ()) := by unfold pairMore; rw [if_pos h]
  have b1 := widenP_range (a := p.1) (by omega) (by omega)
  have b2 := widenP_range (a := p.2.1) (by omega) (by omega)
  have b3 := widenP_lt (a := p.1) (b := 2139095040) (by omega) (by omega) (by omega)
  have b4 := widenP_lt (a := -2139095040) (b := p.2.1) (by omega) (by omega) (by omega)
  have b5 := widenP_le (a := p.1) (b := p.2.1) (by omega) (by omega) a5
  rw [widenP_top] at b3
  rw [widenP_bot] at b4
  have hok : pairOk 64 (widenP p.1, widenP p.2.1, ()) = true := pairOk_mk (.inr rfl) (by rw [show top 64 = 9218868437227405312 from rfl]; omega) (by rw [show top 64 = 9218868437227405312 from rfl]; omega) (by rw [show top 64 = 9218868437227405312 from rfl]; omega) (by rw [show top 64 = 9218868437227405312 from rfl]; omega) b5
  rw [hl]
  refine ⟨hok, ?_⟩
  unfold pairLess
  rw [if_pos hok]
  simp only [(below_back (N := N) (s := p.1) hN (by omega) (by omega)).1, (below_back (N := N) (s := p.2.1) hN (by omega) (by omega)).2]
theorem boxIs_map {f : PairD → PairD} : ∀ {b : List PairD}, (∀ p ∈ b, pairIs p (f p) = true) → boxIs b (b.map f) = true
  | [], _ => rfl
  | p :: r, h => by
    simp only [List.map_cons, boxIs, Bool.and_eq_true]
    exact ⟨h p (List.mem_cons_self ..), boxIs_map fun q hq => h q (List.mem_cons_of_mem _ hq)⟩
theorem boxIs_self : ∀ (b : List PairD), boxIs b b = true
  | [] => rfl
  | p :: r => by
    simp only [boxIs, Bool.and_eq_true]
    exact ⟨by simp [pairIs], boxIs_self r⟩
theorem boxOk_map {w v : Int} {f : PairD → PairD} {b : List PairD} (h : boxOk w b = true) (hf : ∀ p ∈ b, pairOk v (f p) = true) : boxOk v (b.map f) = true := by
  obtain ⟨h1, h2, _⟩ := boxOk_len h
  simp only [boxOk, Bool.and_eq_true, decide_eq_true_eq, List.length_map, List.all_map, List.all_eq_true, Function.comp_apply]
  exact ⟨⟨h1, h2⟩, hf⟩
end Go.Proofs.YtbaeipjjijdgiaaAm
