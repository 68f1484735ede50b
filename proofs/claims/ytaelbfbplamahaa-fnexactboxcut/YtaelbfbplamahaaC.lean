/-
  What the functions on boxes compute, in plain words: halves, parts, marks.
-/
import Derived.Test.YtaelbfbplamahaaB
namespace Go.Proofs.YtaelbfbplamahaaAm
open Go
set_option linter.unusedVariables false
set_option linter.unusedSimpArgs false

def pairIs (a b : PairD) : Bool := decide (b.1 ≤ a.1) && decide (a.2.1 ≤ b.2.1)
def boxIs : List PairD → List PairD → Bool
  | [], [] => true
  | a :: r, b :: s => pairIs a b && boxIs r s
  | _, _ => false
theorem boxIs_len : ∀ {a b : List PairD}, boxIs a b = true → a.length = b.length
  | [], [], _ => rfl
  | a :: r, b :: s, h => by
    simp only [boxIs, Bool.and_eq_true] at h
    simp [boxIs_len h.2]
  | [], _ :: _, h => by simp [boxIs] at h
  | _ :: _, [], h => by simp [boxIs] at h
theorem boxIs_ne {a b : List PairD} (h : a.length ≠ b.length) : boxIs a b = false := by
  cases e : boxIs a b
  · rfl
  · exact absurd (boxIs_len e) h
def halvedAny : List PairD → List PairD → Bool
  | a :: r, b :: s => (decide (0 < gapP a) && decide (gapP b ≤ (gapP a).tdiv 2)) || halvedAny r s
  | _, _ => false
def boxHalved (w : Int) (a b : List PairD) : Bool := boxOk w a && boxOk w b && boxIs b a && halvedAny a b
theorem half_wrap (p : PairD) : IntKind.u64.wrap ((gapP p).tdiv 2) = (gapP p).tdiv 2 := by
  have := gapP_nonneg p
  rw [Int.tdiv_eq_ediv_of_nonneg (by omega)]
  rw [wrap_u64 (by omega) (by omega)]
theorem laws_szPairS_eq' {α : Type} (N : Nat) (a : List PairD) (n : Nat) (hn : n ≤ 1048576) (k : Int → Option α) (h : a.length ≤ maxLen) : laws_szPairS N a n k = if a.length ≤ n then k ((n - a.length : Nat)) else k (-1) := by
  rw [laws_szPairS.eq]
  unfold laws_szPairS.b
  unfold maxLen at h
  simp only []
  rw [wrap_i64 (by omega) (by omega)]
  by_cases h1 : a.length ≤ n
  · have : ¬ ((n : Int) - (a.length : Int) < 0) := by omega
    simp only [h1, this, decide_false, cond_false, if_true]
    congr 1; omega
  · have : ((n : Int) - (a.length : Int) < 0) := by omega
    simp [h1, this]
theorem laws_szBox_eq' {α : Type} (N : Nat) (a : BoxD) (n : Nat) (hn : n ≤ 1048576) (k : Int → Option α) (h : a.1.length ≤ maxLen) : laws_szBox N a n k = if a.1.length ≤ n then k ((n - a.1.length : Nat)) else k (-1) := by
  rw [laws_szBox.eq]
  unfold laws_szBox.b
  rw [laws_szPairS_eq' _ _ _ hn _ h]
  split
  · simp [cast_neg]
  · simp
theorem spec_l4With_loop {α : Type} (N : Nat) (b : BoxD) (hb : b.1.length ≤ 6) (at' : Nat) (p : PairD) (k : List PairD → List PairD → Option α) : ∀ (d i n : Nat), i + d = b.1.length → d < n →
    spec_l4With_L0 N n at' i b p [] ((b.1.set at' p).take i) k = k [] (b.1.set at' p) := by
  intro d
  induction d with
  | zero =>
    intro i n h hn
    obtain ⟨m, rfl⟩ : ∃ m, n = m + 1 := ⟨n - 1, by omega⟩
    rw [spec_l4With_L0.succ]
    unfold spec_l4With_L0r
    simp only [cast_nlt (show ¬ i < b.1.length by omega), cond_false]
    rw [List.take_of_length_le (by simp; omega)]
  | succ d ih =>
    intro i n h hn
    obtain ⟨m, rfl⟩ : ∃ m, n = m + 1 := ⟨n - 1, by omega⟩
    have hi : i < b.1.length := by omega
    have hi2 : i < (b.1.set at' p).length := by simp; omega
    rw [spec_l4With_L0.succ]
    unfold spec_l4With_L0r
    simp only [cast_lt hi, cond_true]
    rw [spec_l4With_J5.eq]
    unfold spec_l4With_J5.b
    have ht : ∀ q : PairD, decide (((b.1.set at' p).take i).length + [q].length ≤ 8796093022208) = true := by
      intro q
      simp only [List.length_take, List.length_set, List.length_singleton, decide_eq_true_eq]; omega
    simp only [cast_neg, cond_false, Int.toNat_natCast, List.getElem?_eq_getElem hi, ht, cond_true, succ_i (show i < 4611686018427387904 by omega)]
    have e : (b.1.set at' p).take i ++ [(b.1.set at' p)[i]] = (b.1.set at' p).take (i + 1) := (List.take_succ_eq_append_getElem hi2).symm
    rw [List.getElem_set] at e
    by_cases hat : i = at'
    · subst hat
      simp only [if_true] at e
      simp only [decide_true, cond_true, e]
      exact ih (i + 1) m (by omega) (by omega)
    · have hat' : ¬ ((i : Int) = (at' : Int)) := by omega
      rw [if_neg (Ne.symm hat)] at e
      simp only [hat', decide_false, cond_false, e]
      exact ih (i + 1) m (by omega) (by omega)
theorem spec_l4With_eq {α : Type} (N : Nat) (b : BoxD) (at' : Nat) (p : PairD) (k : BoxD → Option α) (hb : b.1.length ≤ 6) (hN : 1048576 < N) : spec_l4With N b at' p k = k (b.1.set at' p, ()) := by
  rw [spec_l4With.eq]
  unfold spec_l4With.b
  have := spec_l4With_loop N b hb at' p (fun _ x => k (x, ())) b.1.length 0 N (by omega) (by omega)
  simpa using this
/-- Both parts of a box. -/
def boxParts (w : Int) (b : List PairD) (i : Int) (f : PairD → PairD × PairD × Bool) : List PairD × List PairD × Bool :=
  if boxOk w b = true ∧ 0 ≤ i ∧ i < b.length ∧ (f (b.getD i.toNat p0)).2.2 = true then (b.set i.toNat (f (b.getD i.toNat p0)).1, b.set i.toNat (f (b.getD i.toNat p0)).2.1, true) else ([], [], false)
theorem boxParts_len (w : Int) (b : List PairD) (i : Int) (f : PairD → PairD × PairD × Bool) : (boxParts w b i f).1.length ≤ 6 ∧ (boxParts w b i f).2.1.length ≤ 6 := by
  unfold boxParts
  split
  · rename_i h
    have := (boxOk_len h.1).2.1
    simp only [List.length_set]; omega
  · simp
theorem impl_clone_Pair_eq {α : Type} (N : Nat) (a : List PairD) (k : List PairD → Option α) (h : a.length ≤ 1048576) : impl_clone_impl_Pair N a k = k a := by
  rw [impl_clone_impl_Pair.eq]
  unfold impl_clone_impl_Pair.b slices_Clone_impl_Pair_impl_Pair
  have h1 : decide (([] : List PairD).length + a.length ≤ 8796093022208) = true := by simp; omega
  rw [h1]
  simp only [cond_true]
  rw [slices_Clip_impl_Pair_impl_Pair.eq]
  unfold slices_Clip_impl_Pair_impl_Pair.b
  simp [cast_nn]
theorem impl_Box_with_eq {α : Type} (N : Nat) (b : BoxD) (i : Nat) (p : PairD) (k : List PairD → Option α) (h : b.1.length ≤ 1048576) (hi : i < b.1.length) : impl_Box_with N b i p k = k (b.1.set i p) := by
  rw [impl_Box_with.eq]
  unfold impl_Box_with.b
  rw [impl_clone_Pair_eq _ _ _ h]
  simp only [cast_neg, cond_false, Int.toNat_natCast, decide_eq_true hi, cond_true, List.getElem?_eq_getElem hi]
/-- A list marked with numbers from k on. -/
def marked : Int → List PairD → List PairD
  | _, [] => []
  | k, _ :: r => (k, k + 1, ()) :: marked (k + 2) r
theorem marked_len : ∀ (k : Int) (a : List PairD), (marked k a).length = a.length
  | _, [] => rfl
  | k, _ :: r => by simp [marked, marked_len]
theorem laws_markPairS_loop {α : Type} (N : Nat) (k : Int → List PairD → Option α) : ∀ (d i n : Nat) (c : Int) (pre rest : List PairD), pre.length = i → rest.length = d → i + d ≤ 1048576 → d < n → 0 ≤ c → c ≤ 1073741824 + 2 * i →
    laws_markPairS_L0 N n c i (pre ++ rest) k = k (c + 2 * d) (pre ++ marked c rest) := by
  intro d
  induction d with
  | zero =>
    intro i n c pre rest h1 h2 h3 h5 h6 h7
    obtain ⟨m, rfl⟩ : ∃ m, n = m + 1 := ⟨n - 1, by omega⟩
    have : rest = [] := List.length_eq_zero_iff.1 h2
    subst this
    rw [laws_markPairS_L0.succ]
    unfold laws_markPairS_L0r
    simp only [List.append_nil, cast_nlt (show ¬ i < pre.length by omega), cond_false]
    simp [marked]
  | succ d ih =>
    intro i n c pre rest h1 h2 h3 h5 h6 h7
    obtain ⟨m, rfl⟩ : ∃ m, n = m + 1 := ⟨n - 1, by omega⟩
    obtain ⟨p, r, rfl⟩ : ∃ p r, rest = p :: r := by
      cases rest with
      | nil => simp at h2
      | cons p r => exact ⟨p, r, rfl⟩
    have hi : i < (pre ++ p :: r).length := by simp; omega
    have hget : (pre ++ p :: r)[i]? = some p := by rw [List.getElem?_append_right (by omega), h1]; simp
    have hset : ∀ q : PairD, (pre ++ p :: r).set i q = pre ++ q :: r := by
      intro q
      rw [List.set_append_right _ _ (by omega), h1]; simp
    have hget2 : ∀ q : PairD, (pre ++ q :: r)[i]? = some q := by
      intro q
      rw [List.getElem?_append_right (by omega), h1]; simp
    have hset2 : ∀ q q2 : PairD, (pre ++ q :: r).set i q2 = pre ++ q2 :: r := by
      intro q q2
      rw [List.set_append_right _ _ (by omega), h1]; simp
    have hi2 : ∀ q : PairD, decide (i < (pre ++ q :: r).length) = true := by
      intro q
      simp only [decide_eq_true_eq, List.length_append, List.length_cons]; omega
    have hw1 : IntKind.i64.wrap (c + 1) = c + 1 := wrap_i64 (by omega) (by omega)
    have hw2 : IntKind.i64.wrap (c + 1 + 1) = c + 2 := by rw [wrap_i64 (by omega) (by omega)]; omega
    rw [laws_markPairS_L0.succ]
    unfold laws_markPairS_L0r
    simp only [cast_lt hi, cast_neg, cond_true, cond_false, Int.toNat_natCast, decide_eq_true hi, hget, hset, hw1, hi2, hget2, hset2, hw2, succ_i (show i < 4611686018427387904 by omega)]
    have := ih (i + 1) m (c + 2) (pre ++ [(c, c + 1, ())]) r (by simp [h1]) (by simpa using h2) (by omega) (by omega) (by omega) (by omega)
    simp only [List.append_assoc, List.singleton_append] at this
    rw [this, marked]
    congr 1; omega
theorem laws_markBox_eq {α : Type} (N : Nat) (c : Int) (a : List PairD) (k : Int → List PairD → Option α) (ha : a.length ≤ 1048576) (h0 : 0 ≤ c) (h1 : c ≤ 1073741824) (hN : 1048576 < N) : laws_markBox N c a k = k (c + 2 * a.length) (marked c a) := by
  rw [laws_markBox.eq]
  unfold laws_markBox.b
  rw [laws_markPairS.eq]
  unfold laws_markPairS.b
  have := laws_markPairS_loop N k a.length 0 N c [] a rfl rfl (by omega) (by omega) h0 (by omega)
  simpa using this
theorem laws_heldPairS_loop {α : Type} (N : Nat) (k k1 : Int → Option α) : ∀ (d i n : Nat) (c : Int) (pre rest : List PairD), pre.length = i → rest.length = d → i + d ≤ 1048576 → d < n → 0 ≤ c → c ≤ 1073741824 + 2 * i →
    laws_heldPairS_L0 N n (pre ++ marked c rest) c i k k1 = k1 (c + 2 * d) := by
  intro d
  induction d with
  | zero =>
    intro i n c pre rest h1 h2 h3 h5 h6 h7
    obtain ⟨m, rfl⟩ : ∃ m, n = m + 1 := ⟨n - 1, by omega⟩
    have : rest = [] := List.length_eq_zero_iff.1 h2
    subst this
    rw [laws_heldPairS_L0.succ]
    unfold laws_heldPairS_L0r
    simp only [marked, List.append_nil, cast_nlt (show ¬ i < pre.length by omega), cond_false]
    simp
  | succ d ih =>
    intro i n c pre rest h1 h2 h3 h5 h6 h7
    obtain ⟨m, rfl⟩ : ∃ m, n = m + 1 := ⟨n - 1, by omega⟩
    obtain ⟨p, r, rfl⟩ : ∃ p r, rest = p :: r := by
      cases rest with
      | nil => simp at h2
      | cons p r => exact ⟨p, r, rfl⟩
    rw [marked]
    have hi : i < (pre ++ (c, c + 1, ()) :: marked (c + 2) r).length := by simp; omega
    have hget : (pre ++ (c, c + 1, ()) :: marked (c + 2) r)[i]? = some (c, c + 1, ()) := by rw [List.getElem?_append_right (by omega), h1]; simp
    have hw1 : IntKind.i64.wrap (c + 1) = c + 1 := wrap_i64 (by omega) (by omega)
    have hw2 : IntKind.i64.wrap (c + 1 + 1) = c + 2 := by rw [wrap_i64 (by omega) (by omega)]; omega
    rw [laws_heldPairS_L0.succ]
    unfold laws_heldPairS_L0r
    simp only [cast_lt hi, cast_neg, cond_true, cond_false, Int.toNat_natCast, hget, decide_true, Bool.not_true, hw1, hw2, succ_i (show i < 4611686018427387904 by omega)]
    have := ih (i + 1) m (c + 2) (pre ++ [(c, c + 1, ())]) r (by simp [h1]) (by simpa using h2) (by omega) (by omega) (by omega) (by omega)
    simp only [List.append_assoc, List.singleton_append] at this
    rw [this]
    congr 1; omega
theorem laws_heldBox_eq {α : Type} (N : Nat) (c : Int) (a : List PairD) (k : Int → Option α) (ha : a.length ≤ 1048576) (h0 : 0 ≤ c) (h1 : c ≤ 1073741824) (hN : 1048576 < N) : laws_heldBox N (marked c a, ()) c k = k (c + 2 * a.length) := by
  rw [laws_heldBox.eq]
  unfold laws_heldBox.b
  rw [laws_heldPairS.eq]
  unfold laws_heldPairS.b
  have this : ∀ k1 : Int → Option α, laws_heldPairS_L0 N N (marked c a) c 0 k1 k1 = k1 (c + 2 * a.length) := fun k1 => by
    simpa using laws_heldPairS_loop (α := α) N k1 k1 a.length 0 N c [] a rfl rfl (by omega) (by omega) h0 (by omega)
  have hp : ¬ (c + 2 * (a.length : Int) < 0) := by omega
  simp only [this, hp, decide_false, cond_false]
theorem spec_BoxCut_eq {α : Type} (N : Nat) (w : Int) (b : BoxD) (i : Int) (g : PairD) (k : BoxD → BoxD → Bool → Option α) (hN : 1048576 < N) :
    spec_BoxCut N w b i g k = k ((boxParts w b.1 i (fun p => pairCut w p g)).1, ()) ((boxParts w b.1 i (fun p => pairCut w p g)).2.1, ()) (boxParts w b.1 i (fun p => pairCut w p g)).2.2 := by
  rw [spec_BoxCut.eq]
  unfold spec_BoxCut.b boxParts
  rw [spec_BoxOk_eq _ _ _ _ hN]
  cases h : boxOk w b.1
  · simp
  obtain ⟨h1, h2, _⟩ := boxOk_len h
  by_cases hi : i < 0
  · have : ¬ 0 ≤ i := by omega
    simp [hi, this]
  by_cases hi2 : (b.1.length : Int) ≤ i
  · have : ¬ i < (b.1.length : Int) := by omega
    simp [hi, hi2, this]
  obtain ⟨j, rfl⟩ : ∃ j : Nat, i = j := ⟨i.toNat, by omega⟩
  have hj : j < b.1.length := by omega
  have hj' : (j : Int) < (b.1.length : Int) := by omega
  have hg : b.1.getD j p0 = b.1[j] := by simp [List.getD, hj]
  simp only [Bool.not_true, cond_false, hi, hi2, decide_false, Int.toNat_natCast, List.getElem?_eq_getElem hj, spec_PairCut_eq, spec_l4With_eq N b j _ _ h2 hN, hg]
  cases he : (pairCut w b.1[j] g).2.2
  · simp
  · simp [hj]
theorem impl_BoxCut_1_eq {α : Type} (N : Nat) (p : PairD) (w : Int) (g : PairD) (k : PairD → PairD → Bool → Option α) : impl_BoxCut_1 N p w g k = k (pairCut w p g).1 (pairCut w p g).2.1 (pairCut w p g).2.2 := by
  rw [impl_BoxCut_1.eq]
  unfold impl_BoxCut_1.b
  rw [impl_PairCut_eq]
theorem impl_BoxCut_eq {α : Type} (N : Nat) (w : Int) (b : BoxD) (i : Int) (g : PairD) (k : Bool → List PairD → List PairD → Option α) (hN : 1048576 < N) :
    impl_BoxCut N w b i g k = k (boxParts w b.1 i (fun p => pairCut w p g)).2.2 (boxParts w b.1 i (fun p => pairCut w p g)).1 (boxParts w b.1 i (fun p => pairCut w p g)).2.1 := by
  rw [impl_BoxCut.eq]
  unfold impl_BoxCut.b
  rw [impl_Box_parts__impl_BoxCut_1.eq]
  unfold impl_Box_parts__impl_BoxCut_1.b boxParts
  rw [impl_BoxOk_eq _ _ _ _ hN]
  cases h : boxOk w b.1
  · simp
  obtain ⟨h1, h2, _⟩ := boxOk_len h
  have hw : IntKind.i64.wrap ((b.1.length : Int) - 1) = (b.1.length : Int) - 1 := wrap_i64 (by omega) (by omega)
  simp only [Bool.not_true, cond_false, hw, impl_in_eq]
  by_cases hi : 0 ≤ i
  · by_cases hi2 : i ≤ (b.1.length : Int) - 1
    · obtain ⟨j, rfl⟩ : ∃ j : Nat, i = j := ⟨i.toNat, by omega⟩
      have hj : j < b.1.length := by omega
      have hj' : (j : Int) < (b.1.length : Int) := by omega
      have hg : b.1.getD j p0 = b.1[j] := by simp [List.getD, hj]
      simp only [hi, hi2, decide_true, Bool.and_self, Bool.not_true, cond_false, cast_neg, Int.toNat_natCast, List.getElem?_eq_getElem hj, impl_BoxCut_1_eq, impl_Box_with_eq N b j _ _ (show b.1.length ≤ 1048576 by omega) hj, hg]
      cases he : (pairCut w b.1[j] g).2.2
      · simp
      · simp [hj]
    · have : ¬ i < (b.1.length : Int) := by omega
      simp [hi, hi2, this]
  · simp [hi]
theorem pure_FnExactBoxCut (x0 : Int) (x1 : BoxD) (x2 : Int) (x3 : PairD) (z0 : wfD (.int .i64) x0) (z1 : wfD (.pair (.sl (.pair (.int .i64) (.pair (.int .i64) .unit))) .unit) x1) (z2 : wfD (.int .i64) x2) (z3 : wfD (.pair (.int .i64) (.pair (.int .i64) .unit)) x3) : ∃ N, laws_FnExactBoxCut N x0 x1 x2 x3 some = some true := by
  refine ⟨1048577, ?_⟩
  have hl : x1.1.length ≤ maxLen := z1.1.1
  rw [laws_FnExactBoxCut.eq]
  unfold laws_FnExactBoxCut.b
  rw [laws_szBox_eq _ _ _ hl]
  by_cases h : x1.1.length ≤ 1048576
  · have g : ¬ (1048576 - (x1.1.length : Int) < 0) := by omega
    have hN : 1048576 < 1048577 := by omega
    obtain ⟨l1, l2⟩ := boxParts_len x0 x1.1 x2 (fun p => pairCut x0 p x3)
    simp only [h, if_true, g, decide_false, cond_false, laws_toBox_eq _ x1 _ h hN, laws_toPair_eq, spec_BoxCut_eq _ _ _ _ _ _ hN, impl_BoxCut_eq _ _ _ _ _ _ hN]
    generalize (boxParts x0 x1.1 x2 (fun p => pairCut x0 p x3)).1 = b1 at *
    generalize (boxParts x0 x1.1 x2 (fun p => pairCut x0 p x3)).2.1 = b2 at *
    generalize (boxParts x0 x1.1 x2 (fun p => pairCut x0 p x3)).2.2 = t at *
    have q1 : ¬ (1 + 2 * (x1.1.length : Int) < 0) := by omega
    have q2 : ¬ (1 + 2 * (b1.length : Int) < 0) := by omega
    have q3 : ¬ (1 + 2 * (b1.length : Int) + 2 * (b2.length : Int) < 0) := by omega
    simp only [laws_eqBox_eq _ (b1, ()) _ _ (show b1.length ≤ 1048576 by omega) hN, laws_eqBox_eq _ (b2, ()) _ _ (show b2.length ≤ 1048576 by omega) hN, laws_eqBox_eq _ (x1.1, ()) _ _ h hN, laws_markBox_eq _ _ x1.1 _ h (show (0 : Int) ≤ 1 by omega) (show (1 : Int) ≤ 1073741824 by omega) hN,
      laws_markBox_eq _ _ b1 _ (show b1.length ≤ 1048576 by omega) (show (0 : Int) ≤ 1 by omega) (show (1 : Int) ≤ 1073741824 by omega) hN, laws_markBox_eq _ _ b2 _ (show b2.length ≤ 1048576 by omega) (show (0 : Int) ≤ 1 + 2 * b1.length by omega) (show (1 : Int) + 2 * b1.length ≤ 1073741824 by omega) hN,
      laws_heldBox_eq _ _ b1 _ (show b1.length ≤ 1048576 by omega) (show (0 : Int) ≤ 1 by omega) (show (1 : Int) ≤ 1073741824 by omega) hN, laws_heldBox_eq _ _ b2 _ (show b2.length ≤ 1048576 by omega) (show (0 : Int) ≤ 1 + 2 * b1.length by omega) (show (1 : Int) + 2 * b1.length ≤ 1073741824 by omega) hN,
      q1, q2, q3, decide_true, decide_false, Bool.not_true, cond_false, beq_self_eq_true]
  · simp [h]
end Go.Proofs.YtaelbfbplamahaaAm
