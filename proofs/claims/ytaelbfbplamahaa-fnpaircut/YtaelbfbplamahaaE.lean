/-
  The laws on pairs that are drawn.
-/
import Derived.Test.YtaelbfbplamahaaD
namespace Go.Proofs.YtaelbfbplamahaaAm
open Go
set_option linter.unusedVariables false
set_option linter.unusedSimpArgs false

theorem u8_wf {n : Int} (h : (Lit.int .u8 n).wf = true) : 0 ≤ n ∧ n ≤ 255 := by
  simp only [Lit.wf, decide_eq_true_eq, IntKind.has, IntKind.min, IntKind.max, IntKind.signed, IntKind.bits] at h
  simp at h
  omega
theorem i64_wf {n : Int} (h : (Lit.int .i64 n).wf = true) : -9223372036854775808 ≤ n ∧ n ≤ 9223372036854775807 := by
  simp only [Lit.wf, decide_eq_true_eq, IntKind.has, IntKind.min, IntKind.max, IntKind.signed, IntKind.bits] at h
  simp at h
  omega
theorem bytes_wf {a : List Int} (h : wfD (.sl (.int .u8)) a) : ∀ x ∈ a, 0 ≤ x ∧ x ≤ 255 := fun x hx => u8_wf (h.2 x hx)
/-- A pair that is ok: where it lies, and its steps. -/
theorem pairOk_ok {w : Int} {p : PairD} (h : pairOk w p = true) : (w = 32 ∨ w = 64) ∧ -top w ≤ p.1 ∧ p.1 < top w ∧ -top w < p.2.1 ∧ p.2.1 ≤ top w ∧ p.1 ≤ p.2.1 ∧ gapP p = p.2.1 - p.1 := by
  simp only [pairOk, bitOk, Bool.and_eq_true, decide_eq_true_eq] at h
  have ht := top_nonneg w
  refine ⟨h.1.1.1.1.1.1, by omega, by omega, by omega, by omega, by omega, ?_⟩
  unfold gapP gap
  rw [if_neg (by omega), wrap_u64 (by omega) (by omega)]
theorem pairOk_mk {w : Int} {a b : Int} (hw : w = 32 ∨ w = 64) (h1 : -top w ≤ a) (h2 : a < top w) (h3 : -top w < b) (h4 : b ≤ top w) (h5 : a ≤ b) : pairOk w (a, b, ()) = true := by
  simp only [pairOk, bitOk, Bool.and_eq_true, decide_eq_true_eq]
  omega
theorem middle_eq {w : Int} {p : PairD} (h : pairOk w p = true) : middle p.1 p.2.1 = p.1 + (p.2.1 - p.1) / 2 := by
  obtain ⟨_, h1, h2, h3, h4, h5, h6⟩ := pairOk_ok h
  have ht := top_nonneg w
  unfold middle
  have : gap p.1 p.2.1 = p.2.1 - p.1 := h6
  rw [this, Int.tdiv_eq_ediv_of_nonneg (by omega), wrap_i64 (by omega) (by omega)]
theorem gap_of {a b : Int} (h1 : a ≤ b) (h2 : b - a < 18446744073709551616) : gap a b = b - a := by
  unfold gap
  rw [if_neg (by omega), wrap_u64 (by omega) (by omega)]
theorem width_ok (N : Nat) (s : RdD) (c : Nat) (h : RdOk c s) (hc : c ≤ 600000) :
    ∃ w s', (∀ {α : Type} (k : Int → RdD → Option α), spec_l31Rd_width N s k = k w s') ∧ RdOk (c + 2) s' := by
  obtain ⟨r, s1, e1, h1, r0, r1⟩ := pick_ok N 32 s c h (by omega)
  by_cases h2 : r < 15
  · refine ⟨32, s1, fun k => ?_, h1.mono (by omega)⟩
    rw [spec_l31Rd_width.eq]
    unfold spec_l31Rd_width.b
    simp only [e1, h2, decide_true, cond_true]
  by_cases h3 : r < 30
  · refine ⟨64, s1, fun k => ?_, h1.mono (by omega)⟩
    rw [spec_l31Rd_width.eq]
    unfold spec_l31Rd_width.b
    simp only [e1, h2, h3, decide_true, decide_false, cond_true, cond_false]
  · obtain ⟨x, s2, e2, g1, x0, x1⟩ := pick_ok N 4 s1 _ h1 (by omega)
    have x1 := x1 (by omega)
    have hx : ¬ x < 0 := by omega
    have hlen : x.toNat < [(0 : Int), 63, 16, -64].length := by simp; omega
    refine ⟨[(0 : Int), 63, 16, -64][x.toNat], s2, fun k => ?_, g1⟩
    rw [spec_l31Rd_width.eq]
    unfold spec_l31Rd_width.b
    simp only [e1, e2, h2, h3, hx, decide_false, cond_false, decide_eq_true hlen, cond_true, List.getElem?_eq_getElem hlen]
theorem within_J7 (N : Nat) (g x y a : Int) (s : RdD) (p q : PairD) (c : Nat) (h : RdOk c s) (hc : c ≤ 600000) (hg0 : 0 ≤ g) (hg : g < 18446744073709551615) :
    ∃ x' y' s', (∀ {α : Type} (k : Int → Int → RdD → PairD → PairD → Option α), spec_l31Rd_within_J7 N g x y a s p q k = k x' y' s' p q) ∧ RdOk (c + 1) s' := by
  have hw : IntKind.u64.wrap (g + 1) = g + 1 := wrap_u64 (by omega) (by omega)
  have hne : ¬ g + 1 = 0 := by omega
  by_cases a0 : a = 0
  · obtain ⟨r, s1, e1, h1, _, _⟩ := pick_ok N 3 s c h (by omega)
    refine ⟨(IntKind.u64.wrap r).tmod (g + 1), y, s1, fun k => ?_, h1⟩
    rw [spec_l31Rd_within_J7.eq]
    unfold spec_l31Rd_within_J7.b
    simp only [a0, decide_true, cond_true, e1, hw, hne, decide_false, cond_false]
  by_cases a1 : a = 1
  · obtain ⟨r, s1, e1, h1, _, _⟩ := pick_ok N 3 s c h (by omega)
    refine ⟨x, IntKind.u64.wrap (g - (IntKind.u64.wrap r).tmod (g + 1)), s1, fun k => ?_, h1⟩
    rw [spec_l31Rd_within_J7.eq]
    unfold spec_l31Rd_within_J7.b
    rw [spec_l31Rd_within_J9.eq]
    unfold spec_l31Rd_within_J9.b
    simp only [a1, decide_true, cond_true, e1, hw, hne, decide_false, cond_false]
    simp only [show decide ((1 : Int) = 0) = false from rfl, cond_false]
  by_cases a2 : a = 2
  · refine ⟨x, IntKind.u64.wrap (x + 1), s, fun k => ?_, h.mono (by omega)⟩
    rw [spec_l31Rd_within_J7.eq]
    unfold spec_l31Rd_within_J7.b
    rw [spec_l31Rd_within_J9.eq]
    unfold spec_l31Rd_within_J9.b
    rw [spec_l31Rd_within_J11.eq]
    unfold spec_l31Rd_within_J11.b
    simp only [a2, decide_true, cond_true]
    simp only [show decide ((2 : Int) = 0) = false from rfl, show decide ((2 : Int) = 1) = false from rfl, cond_false]
  · refine ⟨x, y, s, fun k => ?_, h.mono (by omega)⟩
    rw [spec_l31Rd_within_J7.eq]
    unfold spec_l31Rd_within_J7.b
    rw [spec_l31Rd_within_J9.eq]
    unfold spec_l31Rd_within_J9.b
    rw [spec_l31Rd_within_J11.eq]
    unfold spec_l31Rd_within_J11.b
    simp only [a0, a1, a2, decide_false, cond_false]
theorem within_J13 (N : Nat) (x y : Int) (s : RdD) (p q : PairD) (c : Nat) (h : RdOk c s) (hc : c ≤ 600000) :
    ∃ x' y' s', (∀ {α : Type} (k : Int → Int → RdD → PairD → PairD → Option α), spec_l31Rd_within_J13 N x y s p q k = k x' y' s' p q) ∧ RdOk (c + 1) s' := by
  by_cases h1 : y < x
  · obtain ⟨r, s1, e1, g1, _, _⟩ := pick_ok N 12 s c h (by omega)
    by_cases h2 : 0 < r
    · refine ⟨y, x, s1, fun k => ?_, g1⟩
      rw [spec_l31Rd_within_J13.eq]
      unfold spec_l31Rd_within_J13.b
      simp only [h1, h2, decide_true, cond_true, e1]
    · refine ⟨x, y, s1, fun k => ?_, g1⟩
      rw [spec_l31Rd_within_J13.eq]
      unfold spec_l31Rd_within_J13.b
      simp only [h1, h2, decide_true, decide_false, cond_true, cond_false, e1]
  · refine ⟨x, y, s, fun k => ?_, h.mono (by omega)⟩
    rw [spec_l31Rd_within_J13.eq]
    unfold spec_l31Rd_within_J13.b
    simp only [h1, decide_false, cond_false]
theorem within_ok (N : Nat) (w : Int) (p : PairD) (s : RdD) (c : Nat) (h : RdOk c s) (hc : c ≤ 200000) (hp : PairV w p) (hN : 1048576 < N) :
    ∃ q s', (∀ {α : Type} (k : PairD → RdD → Option α), spec_l31Rd_within N w p s k = k q s') ∧ RdOk (c + 100) s' := by
  have ht := top_nonneg w
  unfold PairV at hp
  have hg : 0 ≤ gap p.1 p.2.1 ∧ gap p.1 p.2.1 < 18446744073709551615 := by
    unfold gap
    split
    · omega
    · rw [wrap_u64 (by omega) (by omega)]; omega
  by_cases h0 : gap p.1 p.2.1 = 0
  · obtain ⟨q, s1, e1, h1, _⟩ := pair_ok N w s c h (by omega) hN
    refine ⟨q, s1, fun k => ?_, h1.mono (by omega)⟩
    rw [spec_l31Rd_within.eq]
    unfold spec_l31Rd_within.b
    simp only [spec_BitGap_eq, h0, decide_true, cond_true, e1]
  obtain ⟨r, s1, e1, h1, _, _⟩ := pick_ok N 16 s c h (by omega)
  by_cases r0 : r = 0
  · obtain ⟨q, s2, e2, h2, _⟩ := pair_ok N w s1 _ h1 (by omega) hN
    refine ⟨q, s2, fun k => ?_, h2.mono (by omega)⟩
    rw [spec_l31Rd_within.eq]
    unfold spec_l31Rd_within.b
    simp only [spec_BitGap_eq, h0, r0, decide_true, decide_false, cond_true, cond_false, e1, e2]
  obtain ⟨x, s2, e2, h2, _, _⟩ := big_ok N s1 _ h1 (by omega) hN
  obtain ⟨y, s3, e3, h3, _, _⟩ := big_ok N s2 _ h2 (by omega) hN
  obtain ⟨a, s4, e4, h4, _, _⟩ := pick_ok N 5 s3 _ h3 (by omega)
  have hw : IntKind.u64.wrap (gap p.1 p.2.1 + 1) = gap p.1 p.2.1 + 1 := wrap_u64 (by omega) (by omega)
  have hne : ¬ gap p.1 p.2.1 + 1 = 0 := by omega
  obtain ⟨x1, y1, s5, e5, h5⟩ := within_J7 N (gap p.1 p.2.1) (x.tmod (gap p.1 p.2.1 + 1)) (y.tmod (gap p.1 p.2.1 + 1)) a s4 p (0, 0, ()) _ h4 (by omega) hg.1 hg.2
  obtain ⟨x2, y2, s6, e6, h6⟩ := within_J13 N x1 y1 s5 p (0, 0, ()) _ h5 (by omega)
  refine ⟨(IntKind.i64.wrap (IntKind.u64.wrap (IntKind.u64.wrap p.1 + x2)), IntKind.i64.wrap (IntKind.u64.wrap (IntKind.u64.wrap p.1 + y2)), ()), s6, fun k => ?_, h6.mono (by omega)⟩
  rw [spec_l31Rd_within.eq]
  unfold spec_l31Rd_within.b
  simp only [spec_BitGap_eq, h0, r0, decide_false, cond_false, e1, e2, e3, e4, hw, hne, e5, e6]
theorem drawPairCut_ok (N : Nat) (a : List Int) (ha : ∀ x ∈ a, 0 ≤ x ∧ x ≤ 255) (hN : 1048576 < N) :
    ∃ w p g, ∀ {α : Type} (k : Int → PairD → PairD → Option α), spec_DrawPairCut N a k = k w p g := by
  obtain ⟨s0, e0, h0⟩ := open_ok N a ha
  obtain ⟨w, s1, e1, h1⟩ := width_ok N s0 0 h0 (by omega)
  obtain ⟨p, s2, e2, h2, hp⟩ := good_ok N w s1 _ h1 (by omega) hN
  obtain ⟨r, s3, e3, h3, _, _⟩ := pick_ok N 2 s2 _ h2 (by omega)
  by_cases r0 : r = 0
  · obtain ⟨q, s4, e4, h4⟩ := within_ok N w p s3 _ h3 (by omega) hp hN
    refine ⟨w, p, q, fun k => ?_⟩
    rw [spec_DrawPairCut.eq]
    unfold spec_DrawPairCut.b
    rw [spec_l31Pairs.eq]
    unfold spec_l31Pairs.b
    simp only [e0, e1, e2, e3, r0, decide_true, cond_true, e4]
  · obtain ⟨q, s4, e4, h4, _⟩ := good_ok N w s3 _ h3 (by omega) hN
    refine ⟨w, q, p, fun k => ?_⟩
    rw [spec_DrawPairCut.eq]
    unfold spec_DrawPairCut.b
    rw [spec_l31Pairs.eq]
    unfold spec_l31Pairs.b
    simp only [e0, e1, e2, e3, r0, decide_false, cond_false, e4]
theorem pairCut_loop (N : Nat) (g p on wt q : PairD) (k : Bool → Option Bool) (k1 : Option Bool)
    (key : ∀ n : Int, (pairIs (n, n, ()) on || pairIs (n, n, ()) wt) = (pairIs (n, n, ()) p && (decide (n ≤ g.1) || decide (g.2.1 ≤ n)))) :
    ∀ (d n : Nat), d ≤ 3 → d < n → laws_FnPairCut_L0 N n ((3 - d : Nat) : Int) p g on wt q k k1 = k1 := by
  intro d
  induction d with
  | zero =>
    intro n hd hn
    obtain ⟨m, rfl⟩ : ∃ m, n = m + 1 := ⟨n - 1, by omega⟩
    rw [laws_FnPairCut_L0.succ]
    unfold laws_FnPairCut_L0r
    simp
  | succ d ih =>
    intro n hd hn
    obtain ⟨m, rfl⟩ : ∃ m, n = m + 1 := ⟨n - 1, by omega⟩
    have hlt : (((3 - (d + 1) : Nat) : Int) < 3) := by omega
    have hw : IntKind.i64.wrap (((3 - (d + 1) : Nat) : Int) + 1) = ((3 - d : Nat) : Int) := by rw [wrap_i64 (by omega) (by omega)]; omega
    have ih := ih m (by omega) (by omega)
    rw [laws_FnPairCut_L0.succ]
    unfold laws_FnPairCut_L0r
    simp only [hlt, decide_true, cond_true]
    obtain ⟨z, hz⟩ : ∃ z : Int, ∀ (k : Int → Int → PairD → PairD → PairD → PairD → PairD → Option Bool), laws_FnPairCut_J20 N ((3 - (d + 1) : Nat) : Int) q.1 p g on wt q k = k ((3 - (d + 1) : Nat) : Int) z p g on wt q := by
      by_cases h1 : (((3 - (d + 1) : Nat) : Int) = 1)
      · exact ⟨g.1, fun k => by rw [laws_FnPairCut_J20.eq]; unfold laws_FnPairCut_J20.b; simp only [h1, decide_true, cond_true]⟩
      · exact ⟨q.1, fun k => by rw [laws_FnPairCut_J20.eq]; unfold laws_FnPairCut_J20.b; simp only [h1, decide_false, cond_false]⟩
    rw [hz]
    obtain ⟨y, hy⟩ : ∃ y : Int, ∀ (k : Int → Int → PairD → PairD → PairD → PairD → PairD → Option Bool), laws_FnPairCut_J22 N ((3 - (d + 1) : Nat) : Int) z p g on wt q k = k ((3 - (d + 1) : Nat) : Int) y p g on wt q := by
      by_cases h1 : (((3 - (d + 1) : Nat) : Int) = 2)
      · exact ⟨g.2.1, fun k => by rw [laws_FnPairCut_J22.eq]; unfold laws_FnPairCut_J22.b; simp only [h1, decide_true, cond_true]⟩
      · exact ⟨z, fun k => by rw [laws_FnPairCut_J22.eq]; unfold laws_FnPairCut_J22.b; simp only [h1, decide_false, cond_false]⟩
    rw [hy]
    have hkey := key y
    simp only [impl_PairIs_eq, hw]
    cases h1 : pairIs (y, y, ()) on <;> cases h2 : pairIs (y, y, ()) wt <;> cases h3 : pairIs (y, y, ()) p <;> by_cases h4 : y ≤ g.1 <;> by_cases h5 : g.2.1 ≤ y <;> simp only [h1, h2, h3, h4, h5, decide_true, decide_false, Bool.or_true, Bool.or_false, Bool.or_self, Bool.and_true, Bool.and_false, Bool.and_self, Bool.true_eq_false, Bool.false_eq_true] at hkey <;>
      simp only [h4, h5, decide_true, decide_false, cond_true, cond_false, beq_self_eq_true, Bool.not_true, ih]
theorem pure_FnPairCut (x0 : List Int) (x1 : List Int) (z0 : wfD (.sl (.int .u8)) x0) (z1 : wfD (.sl (.int .u8)) x1) : ∃ N, laws_FnPairCut N x0 x1 some = some true := by
  refine ⟨1048577, ?_⟩
  have hN : 1048576 < 1048577 := by omega
  rw [laws_FnPairCut.eq]
  unfold laws_FnPairCut.b
  by_cases h0 : (1048576 : Int) < ((x0.length : Nat) : Int)
  · simp [h0]
  by_cases h1 : (1048576 : Int) < ((x1.length : Nat) : Int)
  · simp [h0, h1]
  obtain ⟨w, p, g, e1⟩ := drawPairCut_ok 1048577 x0 (bytes_wf z0) hN
  obtain ⟨w2, q, e2, hw2, hq⟩ := goodPair_ok 1048577 x1 (bytes_wf z1) hN
  have ht := top_nonneg w
  simp only [h0, h1, decide_false, cond_false, e1, impl_PairCut_eq, spec_PairCut_eq, impl_BitGap_eq, beq_self_eq_true, Bool.not_true]
  by_cases hc : pairOk w p = true ∧ ¬ g.2.1 ≤ g.1 ∧ pairOk w (p.1, g.1, ()) = true ∧ pairOk w (g.2.1, p.2.1, ()) = true
  · obtain ⟨c1, c2, c3, c4⟩ := hc
    obtain ⟨_, a1, a2, a3, a4, a5, a6⟩ := pairOk_ok c1
    obtain ⟨_, b1, b2, b3, b4, b5, b6⟩ := pairOk_ok c3
    obtain ⟨_, d1, d2, d3, d4, d5, d6⟩ := pairOk_ok c4
    unfold gapP at a6 b6 d6
    simp only at b1 b2 b3 b4 b5 b6 d1 d2 d3 d4 d5 d6
    have key : ∀ (on wt : PairD), (on = (p.1, g.1, ()) ∧ wt = (g.2.1, p.2.1, ())) ∨ (on = (g.2.1, p.2.1, ()) ∧ wt = (p.1, g.1, ())) →
        ∀ n : Int, (pairIs (n, n, ()) on || pairIs (n, n, ()) wt) = (pairIs (n, n, ()) p && (decide (n ≤ g.1) || decide (g.2.1 ≤ n))) := by
      intro on wt h n
      rw [Bool.eq_iff_iff]
      rcases h with ⟨rfl, rfl⟩ | ⟨rfl, rfl⟩ <;> simp only [pairIs, Bool.and_eq_true, Bool.or_eq_true, decide_eq_true_eq] <;> omega
    have i1 : pairIs (p.1, g.1, ()) p = true := by simp only [pairIs, Bool.and_eq_true, decide_eq_true_eq]; omega
    have i2 : pairIs (g.2.1, p.2.1, ()) p = true := by simp only [pairIs, Bool.and_eq_true, decide_eq_true_eq]; omega
    by_cases hlt : gap g.2.1 p.2.1 < gap p.1 g.1
    · have hs : pairCut w p g = ((g.2.1, p.2.1, ()), (p.1, g.1, ()), true) := by
        unfold pairCut; rw [if_pos ⟨c1, c2, c3, c4⟩, if_pos hlt]
      have k1 := pairCut_loop 1048577 g p (g.2.1, p.2.1, ()) (p.1, g.1, ()) q (fun x => some x) (some true) (key _ _ (.inr ⟨rfl, rfl⟩)) 3 1048577 (by omega) (by omega)
      rw [b6, d6] at hlt
      have n1 : ¬ (g.1 - p.1 < p.2.1 - g.2.1) := by omega
      have n2 : ¬ (p.2.1 - p.1 ≤ p.2.1 - g.2.1) := by omega
      have n3 : ¬ (p.2.1 - p.1 ≤ g.1 - p.1) := by omega
      simp only [hs, Bool.not_true, cond_false, impl_PairOk_eq, c3, c4, impl_PairIs_eq, i1, i2, a6, b6, d6, n1, n2, n3, decide_false, e2]
      exact k1
    · have hs : pairCut w p g = ((p.1, g.1, ()), (g.2.1, p.2.1, ()), true) := by
        unfold pairCut; rw [if_pos ⟨c1, c2, c3, c4⟩, if_neg hlt]
      have k1 := pairCut_loop 1048577 g p (p.1, g.1, ()) (g.2.1, p.2.1, ()) q (fun x => some x) (some true) (key _ _ (.inl ⟨rfl, rfl⟩)) 3 1048577 (by omega) (by omega)
      rw [b6, d6] at hlt
      have n1 : ¬ (p.2.1 - g.2.1 < g.1 - p.1) := by omega
      have n2 : ¬ (p.2.1 - p.1 ≤ g.1 - p.1) := by omega
      have n3 : ¬ (p.2.1 - p.1 ≤ p.2.1 - g.2.1) := by omega
      simp only [hs, Bool.not_true, cond_false, impl_PairOk_eq, c3, c4, impl_PairIs_eq, i1, i2, a6, b6, d6, n1, n2, n3, decide_false, e2]
      exact k1
  · have hs : pairCut w p g = (p0, p0, false) := by
      unfold pairCut; rw [if_neg hc]
    simp [hs, p0]
end Go.Proofs.YtaelbfbplamahaaAm
