/-
  Drawn boxes and drawn patterns; the law of patterns and back.
-/
import Derived.Test.YtbaeipjjijdgiaaDb
namespace Go.Proofs.YtbaeipjjijdgiaaAm
open Go
set_option linter.unusedVariables false
set_option linter.unusedSimpArgs false

theorem few_loop {α : Type} (N : Nat) (w : Int) (n : Nat) (u : List PairD) (hN : 1048576 < N) (hn : n ≤ 8) : ∀ (d i f : Nat) (s : RdD) (c : Nat) (o : List PairD), i + d = n → d < f → RdOk c s → c + 20 * d ≤ 100000 → o.length = i →
    ∃ (o' : List PairD) (s' : RdD), (∀ (k : RdD → List PairD → List PairD → Option α), spec_l31Rd_few_L0 N f w (n : Int) (i : Int) s u o k = k s' u o') ∧ o'.length ≤ 8 ∧ RdOk (c + 20 * d) s' := by
  intro d
  induction d with
  | zero =>
    intro i f s c o h hf hs hc ho
    obtain ⟨f, rfl⟩ : ∃ m, f = m + 1 := ⟨f - 1, by omega⟩
    refine ⟨o, s, fun k => ?_, by omega, hs⟩
    rw [spec_l31Rd_few_L0.succ]
    unfold spec_l31Rd_few_L0r
    simp only [cast_nlt (show ¬ i < n by omega), cond_false]
  | succ d ih =>
    intro i f s c o h hf hs hc ho
    obtain ⟨f, rfl⟩ : ∃ m, f = m + 1 := ⟨f - 1, by omega⟩
    obtain ⟨v, s1, e1, q1, _, _⟩ := ord_ok N w s c hs (by omega) hN
    have j7 : ∃ v', ∀ (s : RdD) (k : Int → Int → Int → Int → RdD → List PairD → List PairD → Option α), spec_l31Rd_few_J7 N w (n : Int) (i : Int) v s u o k = k w (n : Int) (i : Int) v' s u o := by
      by_cases h1 : IntKind.i64.wrap (top w - 20) ≤ v
      · refine ⟨IntKind.i64.wrap (top w - 20), fun s k => ?_⟩
        rw [spec_l31Rd_few_J7.eq]
        unfold spec_l31Rd_few_J7.b
        simp only [spec_BitTop_eq, h1, decide_true, cond_true]
      · refine ⟨v, fun s k => ?_⟩
        rw [spec_l31Rd_few_J7.eq]
        unfold spec_l31Rd_few_J7.b
        simp only [spec_BitTop_eq, h1, decide_false, cond_false]
    obtain ⟨v1, e7⟩ := j7
    have j9 : ∃ v', ∀ (s : RdD) (k : Int → Int → Int → Int → RdD → List PairD → List PairD → Option α), spec_l31Rd_few_J9 N w (n : Int) (i : Int) v1 s u o k = k w (n : Int) (i : Int) v' s u o := by
      by_cases h1 : v1 < IntKind.i64.wrap (0 - top w)
      · refine ⟨IntKind.i64.wrap (0 - top w), fun s k => ?_⟩
        rw [spec_l31Rd_few_J9.eq]
        unfold spec_l31Rd_few_J9.b
        simp only [spec_BitTop_eq, h1, decide_true, cond_true]
      · refine ⟨v1, fun s k => ?_⟩
        rw [spec_l31Rd_few_J9.eq]
        unfold spec_l31Rd_few_J9.b
        simp only [spec_BitTop_eq, h1, decide_false, cond_false]
    obtain ⟨v2, e9⟩ := j9
    obtain ⟨r, s2, e2, q2, _, _⟩ := pick_ok N 9 s1 (c + 12) q1 (by omega)
    have j12 : ∀ q : PairD, ∃ q' : PairD, ∀ (s : RdD) (k : Int → Int → Int → RdD → PairD → List PairD → List PairD → Option α), spec_l31Rd_few_J12 N w (n : Int) (i : Int) v2 s q u o k = k w (n : Int) (i : Int) s q' u o := by
      intro q
      by_cases h1 : pairOk w q = true
      · refine ⟨q, fun s k => ?_⟩
        rw [spec_l31Rd_few_J12.eq]
        unfold spec_l31Rd_few_J12.b
        simp only [spec_PairOk_eq, h1, Bool.not_true, cond_false]
      · refine ⟨(q.1, (IntKind.i64.wrap (v2 + 1), ())), fun s k => ?_⟩
        rw [spec_l31Rd_few_J12.eq]
        unfold spec_l31Rd_few_J12.b
        simp only [spec_PairOk_eq, h1, Bool.not_false, cond_true]
    obtain ⟨q, e12⟩ := j12 (v2, (IntKind.i64.wrap (v2 + r), ()))
    obtain ⟨o', s3, e3, h3, q3⟩ := ih (i + 1) f s2 (c + 13) (o ++ [q]) (by omega) (by omega) q2 (by omega) (by simp [ho])
    have hlen : decide (o.length + [q].length ≤ 8796093022208) = true := by simp; omega
    refine ⟨o', s3, fun k => ?_, h3, q3.mono (by omega)⟩
    rw [spec_l31Rd_few_L0.succ]
    unfold spec_l31Rd_few_L0r
    simp only [cast_lt (show i < n by omega), cond_true, e1, e7, e9, e2, e12, hlen, succ_i (show i < 4611686018427387904 by omega)]
    exact e3 k
theorem few_ok {α : Type} (N : Nat) (w : Int) (s : RdD) (c : Nat) (h : RdOk c s) (hc : c ≤ 50000) (hN : 1048576 < N) :
    ∃ (o : List PairD) (s' : RdD), (∀ (k : RdD → List PairD → Option α), spec_l31Rd_few N w s k = k s' o) ∧ o.length ≤ 8 ∧ RdOk (c + 2000) s' := by
  obtain ⟨r, s1, e1, q1, r0, r1⟩ := pick_ok N 3 s c h (by omega)
  have r1 := r1 (by omega)
  have w1 : IntKind.i64.wrap (1 + r) = (((1 + r).toNat : Nat) : Int) := by rw [wrap_i64 (by omega) (by omega)]; omega
  obtain ⟨o, s2, e2, ho, q2⟩ := few_loop (α := α) N w (1 + r).toNat [] hN (by omega) (1 + r).toNat 0 N s1 (c + 1) [] (by omega) (by omega) q1 (by omega) rfl
  refine ⟨o, s2, fun k => ?_, ho, q2.mono (by omega)⟩
  rw [spec_l31Rd_few.eq]
  unfold spec_l31Rd_few.b
  simp only [e1, w1]
  exact e2 _
theorem l31Box_ok {α : Type} (N : Nat) (a : List Int) (ha : ∀ x ∈ a, 0 ≤ x ∧ x ≤ 255) (hN : 1048576 < N) :
    ∃ (w : Int) (o : List PairD), (∀ (k : Int → List PairD → Option α), spec_l31Box N a k = k w o) ∧ o.length ≤ 8 := by
  obtain ⟨s, e, q⟩ := open_ok N a ha
  obtain ⟨w, s1, e1, q1⟩ := width_ok N s 0 q (by omega)
  obtain ⟨r, s2, e2, q2, _, _⟩ := pick_ok N 4 s1 (0 + 2) q1 (by omega)
  by_cases h : r = 0
  · obtain ⟨o, s3, e3, ho, _⟩ := few_ok (α := α) N w s2 (0 + 2 + 1) q2 (by omega) hN
    refine ⟨w, o, fun k => ?_, ho⟩
    rw [spec_l31Box.eq]
    unfold spec_l31Box.b
    simp only [e, e1, e2, h, decide_true, cond_true, e3]
  · obtain ⟨o, s3, e3, ho, _⟩ := box_ok (α := α) N w s2 (0 + 2 + 1) q2 (by omega) hN
    refine ⟨w, o, fun k => ?_, ho⟩
    rw [spec_l31Box.eq]
    unfold spec_l31Box.b
    simp only [e, e1, e2, h, decide_false, cond_false, e3]
theorem drawBoxBits_ok {α : Type} (N : Nat) (a : List Int) (ha : ∀ x ∈ a, 0 ≤ x ∧ x ≤ 255) (hN : 1048576 < N) :
    ∃ (w : Int) (o : List PairD), (∀ (k : Int → List PairD → Option α), spec_DrawBoxBits N a k = k w o) ∧ o.length ≤ 8 := by
  obtain ⟨w, o, e, ho⟩ := l31Box_ok (α := α) N a ha hN
  refine ⟨w, o, fun k => ?_, ho⟩
  rw [spec_DrawBoxBits.eq]
  unfold spec_DrawBoxBits.b
  simp only [e]
theorem wrapU_range (x : Int) : 0 ≤ IntKind.u64.wrap x ∧ IntKind.u64.wrap x < 18446744073709551616 := by
  rw [u64w]; omega
theorem U64s.set {l : List Int} (h : U64s l) (i : Nat) {x : Int} (h0 : 0 ≤ x) (h1 : x < 18446744073709551616) : U64s (l.set i x) := by
  intro y hy
  rcases List.mem_or_eq_of_mem_set hy with h2 | h2
  · exact h y h2
  · exact h2 ▸ ⟨h0, h1⟩
theorem drawBoxOf_J4 {α : Type} (N : Nat) (w : Int) (s : RdD) (l : List Int) (c : Nat) (h : RdOk c s) (hc : c ≤ 50000) (hl : U64s l) (hlen : l.length ≤ 12) (hN : 1048576 < N) :
    ∃ (s' : RdD) (l' : List Int), (∀ (k : Int → RdD → List Int → Option α), spec_DrawBoxOf_J4 N w s l k = k w s' l') ∧ U64s l' ∧ l'.length = l.length ∧ RdOk (c + 20) s' := by
  by_cases h0 : l.length = 0
  · have c0 : ¬ (0 : Int) < ((l.length : Nat) : Int) := by omega
    refine ⟨s, l, fun k => ?_, hl, rfl, h.mono (by omega)⟩
    rw [spec_DrawBoxOf_J4.eq]
    unfold spec_DrawBoxOf_J4.b
    simp only [c0, decide_false, cond_false]
  have c0 : (0 : Int) < ((l.length : Nat) : Int) := by omega
  obtain ⟨r, s1, e1, q1, _, _⟩ := pick_ok N 6 s c h (by omega)
  by_cases h1 : r = 0
  · obtain ⟨i, s2, e2, q2, i0, i1⟩ := pick_ok N ((l.length : Nat) : Int) s1 (c + 1) q1 (by omega)
    have i1 := i1 (by omega)
    obtain ⟨x, s3, e3, q3, x0, x1⟩ := big_ok N s2 (c + 1 + 1) q2 (by omega) hN
    have c1 : ¬ i < 0 := by omega
    have c2 : i.toNat < l.length := by omega
    refine ⟨s3, l.set i.toNat x, fun k => ?_, hl.set _ x0 x1, List.length_set .., q3.mono (by omega)⟩
    rw [spec_DrawBoxOf_J4.eq]
    unfold spec_DrawBoxOf_J4.b
    simp only [c0, e1, h1, decide_true, cond_true, e2, e3, c1, decide_false, cond_false, decide_eq_true c2, List.getElem?_eq_getElem c2]
  · refine ⟨s1, l, fun k => ?_, hl, rfl, q1.mono (by omega)⟩
    rw [spec_DrawBoxOf_J4.eq]
    unfold spec_DrawBoxOf_J4.b
    simp only [c0, decide_true, cond_true, e1, h1, decide_false, cond_false]
theorem drawBoxOf_J6 {α : Type} (N : Nat) (w : Int) (s : RdD) (l : List Int) (c : Nat) (h : RdOk c s) (hc : c ≤ 50000) (hl : U64s l) (hlen : l.length ≤ 12) (hN : 1048576 < N) :
    ∃ (s' : RdD) (l' : List Int), (∀ (k : Int → RdD → List Int → Option α), spec_DrawBoxOf_J6 N w s l k = k w s' l') ∧ U64s l' ∧ l'.length = l.length ∧ RdOk (c + 20) s' := by
  by_cases h0 : l.length = 0
  · have c0 : ¬ (0 : Int) < ((l.length : Nat) : Int) := by omega
    refine ⟨s, l, fun k => ?_, hl, rfl, h.mono (by omega)⟩
    rw [spec_DrawBoxOf_J6.eq]
    unfold spec_DrawBoxOf_J6.b
    simp only [c0, decide_false, cond_false]
  have c0 : (0 : Int) < ((l.length : Nat) : Int) := by omega
  obtain ⟨r, s1, e1, q1, _, _⟩ := pick_ok N 8 s c h (by omega)
  by_cases h1 : r = 0
  · obtain ⟨i, s2, e2, q2, i0, i1⟩ := pick_ok N ((l.length : Nat) : Int) s1 (c + 1) q1 (by omega)
    have i1 := i1 (by omega)
    obtain ⟨x, s3, e3, q3, x0, x1⟩ := pick_ok N 64 s2 (c + 1 + 1) q2 (by omega)
    have x1 := x1 (by omega)
    have c1 : ¬ i < 0 := by omega
    have c2 : i.toNat < l.length := by omega
    have w1 : IntKind.u64.wrap x = x := wrap_u64 x0 (by omega)
    have c3 : ¬ x < 0 := by omega
    have hr := wrapU_range (l[i.toNat] + shlI .u64 (1 : Int) x)
    refine ⟨s3, l.set i.toNat (IntKind.u64.wrap (l[i.toNat] + shlI .u64 (1 : Int) x)), fun k => ?_, hl.set _ hr.1 hr.2, List.length_set .., q3.mono (by omega)⟩
    rw [spec_DrawBoxOf_J6.eq]
    unfold spec_DrawBoxOf_J6.b
    simp only [c0, e1, h1, decide_true, cond_true, e2, e3, c1, decide_false, cond_false, decide_eq_true c2, List.getElem?_eq_getElem c2, w1, c3]
  · refine ⟨s1, l, fun k => ?_, hl, rfl, q1.mono (by omega)⟩
    rw [spec_DrawBoxOf_J6.eq]
    unfold spec_DrawBoxOf_J6.b
    simp only [c0, decide_true, cond_true, e1, h1, decide_false, cond_false]
theorem drawBoxOf_ok {α : Type} (N : Nat) (a : List Int) (ha : ∀ x ∈ a, 0 ≤ x ∧ x ≤ 255) (hN : 1048576 < N) :
    ∃ (w : Int) (l : List Int), (∀ (k : Int → List Int → Option α), spec_DrawBoxOf N a k = k w l) ∧ U64s l ∧ l.length ≤ 13 := by
  obtain ⟨s, e, q⟩ := open_ok N a ha
  obtain ⟨w, s1, e1, q1⟩ := width_ok N s 0 q (by omega)
  obtain ⟨o, s2, e2, ho, q2⟩ := box_ok (α := α) N w s1 (0 + 2) q1 (by omega) hN
  obtain ⟨s3, l3, e3, u3, n3, q3⟩ := drawBoxOf_J4 (α := α) N w s2 (boxBits w o) (0 + 2 + 2000) q2 (by omega) (boxBits_u64 w o) (boxBits_len w o) hN
  have hb := boxBits_len w o
  obtain ⟨s4, l4, e4, u4, n4, q4⟩ := drawBoxOf_J6 (α := α) N w s3 l3 _ q3 (by omega) u3 (by omega) hN
  obtain ⟨r, s5, e5, _, _, _⟩ := pick_ok N 20 s4 _ q4 (by omega)
  have hlen : decide (l4.length + [(0 : Int)].length ≤ 8796093022208) = true := by simp; omega
  by_cases h : r = 0
  · refine ⟨w, l4 ++ [0], fun k => ?_, ?_, by simp; omega⟩
    · rw [spec_DrawBoxOf.eq]
      unfold spec_DrawBoxOf.b
      simp only [e, e1, e2, spec_BoxBits_eq N w (o, ()) _ (show o.length ≤ 1048576 by omega) hN, e3, e4]
      rw [spec_DrawBoxOf_J9.eq]
      unfold spec_DrawBoxOf_J9.b
      simp only [e5, h, decide_true, cond_true, hlen]
    · intro x hx
      rcases List.mem_append.1 hx with h1 | h1
      · exact u4 x h1
      · simp only [List.mem_cons, List.not_mem_nil, or_false] at h1
        subst h1; omega
  · refine ⟨w, l4, fun k => ?_, u4, by omega⟩
    rw [spec_DrawBoxOf.eq]
    unfold spec_DrawBoxOf.b
    simp only [e, e1, e2, spec_BoxBits_eq N w (o, ()) _ (show o.length ≤ 1048576 by omega) hN, e3, e4]
    rw [spec_DrawBoxOf_J9.eq]
    unfold spec_DrawBoxOf_J9.b
    simp only [e5, h, decide_false, cond_false]
theorem boxBits_J6 {α : Type} (N : Nat) (a : List Int) (w : Int) (b : List PairD) (k : Bool → Option α) (k1 : List Int → Option α) (hb : b.length ≤ 8) (hN : 1048576 < N) :
    laws_FnBoxBits_J6 N a w (boxOf w (boxBits w b)).1 (boxBits w b) b (boxOf w (boxBits w b)).2 k k1 = k1 a := by
  rw [laws_FnBoxBits_J6.eq]
  unfold laws_FnBoxBits_J6.b
  simp only [spec_BoxOk_eq N w (b, ()) _ hN]
  by_cases h : boxOk w b = true
  · have hl : ((boxBits w b).length : Int) = IntKind.i64.wrap ((2 : Int) * ((b.length : Nat) : Int)) := by
      unfold boxBits
      rw [if_pos h, flat_len, wrap_i64 (by omega) (by omega)]; omega
    rw [boxOf_bits h]
    simp only [h, cond_true, decide_true, Bool.not_true, cond_false, hl, impl_BoxIs_eq N (b, ()) (b, ()) _ (show b.length ≤ 1048576 by omega) hN, boxIs_self]
  · have hb0 : boxBits w b = [] := by unfold boxBits; rw [if_neg h]
    have ho : boxOf w [] = (1, []) := by unfold boxOf; rw [if_pos (by simp)]
    simp only [h, cond_false, hb0, ho, List.length_nil, Int.natCast_zero, decide_true, Bool.not_true]
theorem boxBits_loop {α : Type} (N : Nat) (w : Int) (l : List Int) (hl : U64s l) (ha : (l.all fun x => (bitOrd w x).2) = true) (h2 : l.length % 2 = 0) (hn : l.length ≤ 12) (k0 : Bool → Option α) (k1 : Option α) : ∀ (d i n : Nat), i + d = l.length → d < n →
    laws_FnBoxBits_L0 N n w (i : Int) l (boxPairs w l) k0 k1 = k1 := by
  intro d
  induction d with
  | zero =>
    intro i n h hn
    obtain ⟨n, rfl⟩ : ∃ m, n = m + 1 := ⟨n - 1, by omega⟩
    rw [laws_FnBoxBits_L0.succ]
    unfold laws_FnBoxBits_L0r
    simp only [cast_nlt (show ¬ i < l.length by omega), cond_false]
  | succ d ih =>
    intro i n h hn
    obtain ⟨n, rfl⟩ : ∃ m, n = m + 1 := ⟨n - 1, by omega⟩
    have hi : i < l.length := by omega
    have r1 := hl _ (List.getElem_mem hi)
    have hok : (bitOrd w l[i]).2 = true := List.all_eq_true.1 ha _ (List.getElem_mem hi)
    have hj : i / 2 < (boxPairs w l).length := by unfold boxPairs; simp; omega
    have hg : (boxPairs w l)[i / 2]? = some (ordP w l (i / 2)) := by
      unfold boxPairs
      rw [List.getElem?_map, List.getElem?_range (by omega)]; rfl
    have w1 : IntKind.i64.wrap ((i / 2 : Nat) : Int) = ((i / 2 : Nat) : Int) := wrap_i64 (by omega) (by omega)
    rw [laws_FnBoxBits_L0.succ]
    unfold laws_FnBoxBits_L0r
    simp only [cast_lt hi, cast_neg, cond_true, cond_false, Int.toNat_natCast, decide_eq_true hi, List.getElem?_eq_getElem hi, impl_BitOrd_eq N w _ _ r1.1 r1.2, tdiv2, tmod2, w1, decide_eq_true hj, hg, hok, Bool.not_true, succ_i (show i < 4611686018427387904 by omega)]
    by_cases hp : i % 2 = 0
    · have e : ordN w l (2 * (i / 2)) = (bitOrd w l[i]).1 := by
        rw [← ordN_at hi]; congr 1; omega
      have c1 : ((i % 2 : Nat) : Int) = 0 := by omega
      have c2 : ¬ (0 : Int) = 1 := by omega
      simp only [c1, ordP, e, decide_true, cond_true, Bool.not_true, cond_false, c2, decide_false]
      exact ih (i + 1) n (by omega) (by omega)
    · have e : ordN w l (2 * (i / 2) + 1) = (bitOrd w l[i]).1 := by
        rw [← ordN_at hi]; congr 1; omega
      have c1 : ((i % 2 : Nat) : Int) = 1 := by omega
      have c2 : ¬ (1 : Int) = 0 := by omega
      simp only [c1, ordP, e, decide_true, cond_true, Bool.not_true, cond_false, c2, decide_false]
      exact ih (i + 1) n (by omega) (by omega)
theorem pure_FnBoxBits (x0 x1 : List Int) (z0 : wfD (.sl (.int .u8)) x0) (z1 : wfD (.sl (.int .u8)) x1) : ∃ N, laws_FnBoxBits N x0 x1 some = some true := by
  refine ⟨1099511627777, ?_⟩
  have hN : 1048576 < 1099511627777 := by omega
  generalize 1099511627777 = N at *
  rw [laws_FnBoxBits.eq]
  unfold laws_FnBoxBits.b
  by_cases h1 : (1048576 : Int) < ((x0.length : Nat) : Int)
  · simp [h1]
  by_cases h2 : (1048576 : Int) < ((x1.length : Nat) : Int)
  · simp [h1, h2]
  obtain ⟨w, b, e1, hb⟩ := drawBoxBits_ok (α := Bool) N x0 (bytes_wf z0) hN
  obtain ⟨v, l, e2, hl, hn⟩ := drawBoxOf_ok (α := Bool) N x1 (bytes_wf z1) hN
  simp only [h1, h2, decide_false, cond_false, e1, impl_BoxBits_eq N w (b, ()) _ (show b.length ≤ 1048576 by omega) hN, impl_BoxOf_eq N w _ _ (boxBits_u64 w b) hN, boxBits_J6 N x1 w b _ _ hb hN, e2, impl_BoxOf_eq N v l _ hl hN, spec_BoxOf_eq N v l _ hl hN, decide_true, Bool.not_true]
  by_cases h3 : (boxOf v l).1 = 0
  · obtain ⟨g1, g2, g3, g4⟩ := boxOf_some h3
    simp only [h3, decide_true, Bool.not_true, cond_false, g1]
    exact boxBits_loop N v l hl g2 g3 g4 _ _ l.length 0 N (by omega) (by omega)
  · simp only [h3, decide_false, Bool.not_false, cond_true, boxOf_none h3, List.length_nil, Int.natCast_zero, decide_true]
end Go.Proofs.YtbaeipjjijdgiaaAm
