/-
  What the functions on boxes compute, in plain words: halves, parts, marks.
-/
import Derived.Test.YtaelbfbplamahaaB
namespace Go.Proofs.YtaelbfbplamahaaAm
open Go
set_option linter.unusedVariables false
set_option linter.unusedSimpArgs false

def pairIs (a b : PairD) : Bool := decide (b.1 ≤ a.1) && decide (a.2.1 ≤ b.2.1)
theorem spec_PairIs_eq {α : Type} (N : Nat) (a b : PairD) (k : Bool → Option α) : spec_PairIs N a b k = k (pairIs a b) := by
  rw [spec_PairIs.eq]
  unfold spec_PairIs.b pairIs
  by_cases h : b.1 ≤ a.1 <;> simp [h]
theorem impl_PairIs_eq {α : Type} (N : Nat) (a b : PairD) (k : Bool → Option α) : impl_PairIs N a b k = k (pairIs a b) := by
  rw [impl_PairIs.eq]
  unfold impl_PairIs.b pairIs
  by_cases h : b.1 ≤ a.1 <;> simp [h]
def boxIs : List PairD → List PairD → Bool
  | [], [] => true
  | a :: r, b :: s => pairIs a b && boxIs r s
  | _, _ => false
theorem boxIs_len : ∀ {a b : List PairD}, boxIs a b = true → a.length = b.length
  | [], [], _ => rfl
  | a :: r, b :: s, h => by
    simp only [boxIs, Bool.and_eq_true] at h
    simp [boxIs_len h.2]
  | [], _ :: _, h => by simp [boxIs] at h
  | _ :: _, [], h => by simp [boxIs] at h
theorem boxIs_ne {a b : List PairD} (h : a.length ≠ b.length) : boxIs a b = false := by
  cases e : boxIs a b
  · rfl
  · exact absurd (boxIs_len e) h
theorem spec_BoxIs_loop {α : Type} (N : Nat) (a b : BoxD) (hl : a.1.length = b.1.length) (hb : a.1.length < 4611686018427387904) (k : Bool → Option α) (k1 : Option α) : ∀ (d i n : Nat), i + d = a.1.length → d < n →
    spec_BoxIs_L0 N n i a b k k1 = if boxIs (a.1.drop i) (b.1.drop i) = true then k1 else k false := by
  intro d
  induction d with
  | zero =>
    intro i n h hn
    obtain ⟨m, rfl⟩ : ∃ m, n = m + 1 := ⟨n - 1, by omega⟩
    rw [spec_BoxIs_L0.succ]
    unfold spec_BoxIs_L0r
    simp only [cast_nlt (show ¬ i < a.1.length by omega), cond_false]
    rw [List.drop_of_length_le (by omega), List.drop_of_length_le (by omega)]; simp [boxIs]
  | succ d ih =>
    intro i n h hn
    obtain ⟨m, rfl⟩ : ∃ m, n = m + 1 := ⟨n - 1, by omega⟩
    have hi : i < a.1.length := by omega
    have hi2 : i < b.1.length := by omega
    rw [spec_BoxIs_L0.succ]
    unfold spec_BoxIs_L0r
    simp only [cast_lt hi, cast_neg, cond_true, cond_false, Int.toNat_natCast, List.getElem?_eq_getElem hi, List.getElem?_eq_getElem hi2, spec_PairIs_eq, succ_i (show i < 4611686018427387904 by omega)]
    have e1 := List.drop_eq_getElem_cons hi
    have e2 := List.drop_eq_getElem_cons hi2
    rw [ih (i + 1) m (by omega) (by omega), e1, e2, boxIs]
    cases he : pairIs a.1[i] b.1[i] <;> simp only [Bool.not_true, Bool.not_false, cond_true, cond_false, Bool.true_and, Bool.false_and, Bool.false_eq_true, if_false]
theorem spec_BoxIs_eq {α : Type} (N : Nat) (a b : BoxD) (k : Bool → Option α) (h : a.1.length ≤ 1048576) (hN : 1048576 < N) : spec_BoxIs N a b k = k (boxIs a.1 b.1) := by
  rw [spec_BoxIs.eq]
  unfold spec_BoxIs.b
  by_cases hl : a.1.length = b.1.length
  · have := spec_BoxIs_loop N a b hl (by omega) (fun x => k x) (k true) a.1.length 0 N (by omega) (by omega)
    simp only [List.drop_zero] at this
    simp only [hl, decide_true, Bool.not_true, cond_false]
    rw [show ((0 : Int)) = ((0 : Nat) : Int) from rfl, this]
    cases he : boxIs a.1 b.1 <;> simp
  · have h2 : ¬ ((a.1.length : Int) = b.1.length) := by omega
    simp [boxIs_ne hl, h2]
theorem equalIs_loop {α : Type} (N : Nat) (a b : List PairD) (hl : a.length = b.length) (hb : a.length < 4611686018427387904) (k : Bool → Option α) (k1 : Option α) : ∀ (d i n : Nat), i + d = a.length → d < n →
    slices_EqualFunc_impl_Pair_impl_Pair_impl_Pair_impl_Pair__impl_PairIs_L0 N n b a a.length i k k1 = if boxIs (a.drop i) (b.drop i) = true then k1 else k false := by
  intro d
  induction d with
  | zero =>
    intro i n h hn
    obtain ⟨m, rfl⟩ : ∃ m, n = m + 1 := ⟨n - 1, by omega⟩
    rw [slices_EqualFunc_impl_Pair_impl_Pair_impl_Pair_impl_Pair__impl_PairIs_L0.succ]
    unfold slices_EqualFunc_impl_Pair_impl_Pair_impl_Pair_impl_Pair__impl_PairIs_L0r
    simp only [cast_nlt (show ¬ i < a.length by omega), cond_false]
    rw [List.drop_of_length_le (by omega), List.drop_of_length_le (by omega)]; simp [boxIs]
  | succ d ih =>
    intro i n h hn
    obtain ⟨m, rfl⟩ : ∃ m, n = m + 1 := ⟨n - 1, by omega⟩
    have hi : i < a.length := by omega
    have hi2 : i < b.length := by omega
    rw [slices_EqualFunc_impl_Pair_impl_Pair_impl_Pair_impl_Pair__impl_PairIs_L0.succ]
    unfold slices_EqualFunc_impl_Pair_impl_Pair_impl_Pair_impl_Pair__impl_PairIs_L0r
    simp only [cast_lt hi, cast_neg, cond_true, cond_false, Int.toNat_natCast, List.getElem?_eq_getElem hi, List.getElem?_eq_getElem hi2, impl_PairIs_eq, succ_i (show i < 4611686018427387904 by omega)]
    have e1 := List.drop_eq_getElem_cons hi
    have e2 := List.drop_eq_getElem_cons hi2
    rw [ih (i + 1) m (by omega) (by omega), e1, e2, boxIs]
    cases he : pairIs a[i] b[i] <;> simp only [Bool.not_true, Bool.not_false, cond_true, cond_false, Bool.true_and, Bool.false_and, Bool.false_eq_true, if_false]
theorem impl_BoxIs_eq {α : Type} (N : Nat) (a b : BoxD) (k : Bool → Option α) (h : a.1.length ≤ 1048576) (hN : 1048576 < N) : impl_BoxIs N a b k = k (boxIs a.1 b.1) := by
  rw [impl_BoxIs.eq]
  unfold impl_BoxIs.b
  rw [slices_EqualFunc_impl_Pair_impl_Pair_impl_Pair_impl_Pair__impl_PairIs.eq]
  unfold slices_EqualFunc_impl_Pair_impl_Pair_impl_Pair_impl_Pair__impl_PairIs.b
  by_cases hl : a.1.length = b.1.length
  · have := equalIs_loop N a.1 b.1 hl (by omega) (fun x => k x) (k true) a.1.length 0 N (by omega) (by omega)
    simp only [List.drop_zero] at this
    have h2 : ((a.1.length : Int) = b.1.length) := by omega
    simp only [h2, decide_true, Bool.not_true, cond_false]
    rw [← h2, show ((0 : Int)) = ((0 : Nat) : Int) from rfl, this]
    cases he : boxIs a.1 b.1 <;> simp
  · have h2 : ¬ ((a.1.length : Int) = b.1.length) := by omega
    simp [boxIs_ne hl, h2]
def halvedAny : List PairD → List PairD → Bool
  | a :: r, b :: s => (decide (0 < gapP a) && decide (gapP b ≤ (gapP a).tdiv 2)) || halvedAny r s
  | _, _ => false
def boxHalved (w : Int) (a b : List PairD) : Bool := boxOk w a && boxOk w b && boxIs b a && halvedAny a b
theorem half_wrap (p : PairD) : IntKind.u64.wrap ((gapP p).tdiv 2) = (gapP p).tdiv 2 := by
  have := gapP_nonneg p
  rw [Int.tdiv_eq_ediv_of_nonneg (by omega)]
  rw [wrap_u64 (by omega) (by omega)]
theorem spec_BoxHalved_loop {α : Type} (N : Nat) (a b : BoxD) (hl : a.1.length = b.1.length) (hb : a.1.length < 4611686018427387904) (k : Bool → Option α) (k1 : Option α) : ∀ (d i n : Nat), i + d = a.1.length → d < n →
    spec_BoxHalved_L0 N n i a b k k1 = if halvedAny (a.1.drop i) (b.1.drop i) = true then k true else k1 := by
  intro d
  induction d with
  | zero =>
    intro i n h hn
    obtain ⟨m, rfl⟩ : ∃ m, n = m + 1 := ⟨n - 1, by omega⟩
    rw [spec_BoxHalved_L0.succ]
    unfold spec_BoxHalved_L0r
    simp only [cast_nlt (show ¬ i < a.1.length by omega), cond_false]
    rw [List.drop_of_length_le (by omega), List.drop_of_length_le (by omega)]; simp [halvedAny]
  | succ d ih =>
    intro i n h hn
    obtain ⟨m, rfl⟩ : ∃ m, n = m + 1 := ⟨n - 1, by omega⟩
    have hi : i < a.1.length := by omega
    have hi2 : i < b.1.length := by omega
    have f1 : gap a.1[i].1 a.1[i].2.1 = gapP a.1[i] := rfl
    have f2 : gap b.1[i].1 b.1[i].2.1 = gapP b.1[i] := rfl
    rw [spec_BoxHalved_L0.succ]
    unfold spec_BoxHalved_L0r
    simp only [cast_lt hi, cast_neg, cond_true, cond_false, Int.toNat_natCast, List.getElem?_eq_getElem hi, List.getElem?_eq_getElem hi2, spec_l3Gap_eq, f1, f2, half_wrap, succ_i (show i < 4611686018427387904 by omega)]
    have e1 := List.drop_eq_getElem_cons hi
    have e2 := List.drop_eq_getElem_cons hi2
    rw [ih (i + 1) m (by omega) (by omega), e1, e2, halvedAny]
    by_cases h1 : 0 < gapP a.1[i]
    · by_cases h2 : gapP b.1[i] ≤ (gapP a.1[i]).tdiv 2 <;> simp only [h1, h2, decide_true, decide_false, cond_true, cond_false, Bool.and_self, Bool.and_false, Bool.true_or, Bool.false_or, if_true]
    · simp only [h1, decide_false, cond_false, Bool.false_and, Bool.false_or]
theorem spec_BoxHalved_eq {α : Type} (N : Nat) (w : Int) (a b : BoxD) (k : Bool → Option α) (hN : 1048576 < N) : spec_BoxHalved N w a b k = k (boxHalved w a.1 b.1) := by
  rw [spec_BoxHalved.eq]
  unfold spec_BoxHalved.b boxHalved
  simp only [spec_BoxOk_eq _ _ _ _ hN]
  cases h : boxOk w a.1
  · simp
  cases g : boxOk w b.1
  · simp
  obtain ⟨h1, h2, _⟩ := boxOk_len h
  obtain ⟨g1, g2, _⟩ := boxOk_len g
  simp only [Bool.not_true, cond_false, spec_BoxIs_eq N b a _ (by omega) hN]
  cases e : boxIs b.1 a.1
  · simp
  · have := spec_BoxHalved_loop N a b (boxIs_len e).symm (by omega) (fun x => k x) (k false) a.1.length 0 N (by omega) (by omega)
    simp only [List.drop_zero] at this
    simp only [Bool.not_true, cond_false]
    rw [show ((0 : Int)) = ((0 : Nat) : Int) from rfl, this]
    cases he : halvedAny a.1 b.1 <;> simp
theorem impl_BoxHalved_loop {α : Type} (N : Nat) (a : List PairD) (b : BoxD) (hl : a.length = b.1.length) (hb : a.length < 4611686018427387904) (k : Bool → Option α) (k1 : Option α) : ∀ (d i n : Nat), i + d = a.length → d < n →
    impl_BoxHalved_L0 N n a a.length i b k k1 = if halvedAny (a.drop i) (b.1.drop i) = true then k true else k1 := by
  intro d
  induction d with
  | zero =>
    intro i n h hn
    obtain ⟨m, rfl⟩ : ∃ m, n = m + 1 := ⟨n - 1, by omega⟩
    rw [impl_BoxHalved_L0.succ]
    unfold impl_BoxHalved_L0r
    simp only [cast_nlt (show ¬ i < a.length by omega), cond_false]
    rw [List.drop_of_length_le (by omega), List.drop_of_length_le (by omega)]; simp [halvedAny]
  | succ d ih =>
    intro i n h hn
    obtain ⟨m, rfl⟩ : ∃ m, n = m + 1 := ⟨n - 1, by omega⟩
    have hi : i < a.length := by omega
    have hi2 : i < b.1.length := by omega
    have f1 : gap a[i].1 a[i].2.1 = gapP a[i] := rfl
    have f2 : gap b.1[i].1 b.1[i].2.1 = gapP b.1[i] := rfl
    rw [impl_BoxHalved_L0.succ]
    unfold impl_BoxHalved_L0r
    simp only [cast_lt hi, cast_neg, cond_true, cond_false, Int.toNat_natCast, List.getElem?_eq_getElem hi, List.getElem?_eq_getElem hi2, impl_Pair_steps_eq, f1, f2, half_wrap, succ_i (show i < 4611686018427387904 by omega)]
    have e1 := List.drop_eq_getElem_cons hi
    have e2 := List.drop_eq_getElem_cons hi2
    rw [ih (i + 1) m (by omega) (by omega), e1, e2, halvedAny]
    by_cases h1 : 0 < gapP a[i]
    · by_cases h2 : gapP b.1[i] ≤ (gapP a[i]).tdiv 2 <;> simp only [h1, h2, decide_true, decide_false, cond_true, cond_false, Bool.and_self, Bool.and_false, Bool.true_or, Bool.false_or, if_true]
    · simp only [h1, decide_false, cond_false, Bool.false_and, Bool.false_or]
theorem impl_BoxHalved_eq {α : Type} (N : Nat) (w : Int) (a b : BoxD) (k : Bool → Option α) (hN : 1048576 < N) : impl_BoxHalved N w a b k = k (boxHalved w a.1 b.1) := by
  rw [impl_BoxHalved.eq]
  unfold impl_BoxHalved.b boxHalved
  simp only [impl_BoxOk_eq _ _ _ _ hN]
  cases h : boxOk w a.1
  · simp
  cases g : boxOk w b.1
  · simp
  obtain ⟨h1, h2, _⟩ := boxOk_len h
  obtain ⟨g1, g2, _⟩ := boxOk_len g
  simp only [Bool.not_true, cond_false, impl_BoxIs_eq N b a _ (by omega) hN]
  cases e : boxIs b.1 a.1
  · simp
  · have := impl_BoxHalved_loop N a.1 b (boxIs_len e).symm (by omega) (fun x => k x) (k false) a.1.length 0 N (by omega) (by omega)
    simp only [List.drop_zero] at this
    simp only [Bool.not_true, cond_false]
    rw [show ((0 : Int)) = ((0 : Nat) : Int) from rfl, this]
    cases he : halvedAny a.1 b.1 <;> simp
theorem laws_szPairS_eq' {α : Type} (N : Nat) (a : List PairD) (n : Nat) (hn : n ≤ 1048576) (k : Int → Option α) (h : a.length ≤ maxLen) : laws_szPairS N a n k = if a.length ≤ n then k ((n - a.length : Nat)) else k (-1) := by
  rw [laws_szPairS.eq]
  unfold laws_szPairS.b
  unfold maxLen at h
  simp only []
  rw [wrap_i64 (by omega) (by omega)]
  by_cases h1 : a.length ≤ n
  · have : ¬ ((n : Int) - (a.length : Int) < 0) := by omega
    simp only [h1, this, decide_false, cond_false, if_true]
    congr 1; omega
  · have : ((n : Int) - (a.length : Int) < 0) := by omega
    simp [h1, this]
theorem laws_szBox_eq' {α : Type} (N : Nat) (a : BoxD) (n : Nat) (hn : n ≤ 1048576) (k : Int → Option α) (h : a.1.length ≤ maxLen) : laws_szBox N a n k = if a.1.length ≤ n then k ((n - a.1.length : Nat)) else k (-1) := by
  rw [laws_szBox.eq]
  unfold laws_szBox.b
  rw [laws_szPairS_eq' _ _ _ hn _ h]
  split
  · simp [cast_neg]
  · simp
theorem pure_FnExactBoxHalved (x0 : Int) (x1 x2 : BoxD) (z0 : wfD (.int .i64) x0) (z1 : wfD (.pair (.sl (.pair (.int .i64) (.pair (.int .i64) .unit))) .unit) x1) (z2 : wfD (.pair (.sl (.pair (.int .i64) (.pair (.int .i64) .unit))) .unit) x2) : ∃ N, laws_FnExactBoxHalved N x0 x1 x2 some = some true := by
  refine ⟨1048577, ?_⟩
  have hl : x1.1.length ≤ maxLen := z1.1.1
  have hl2 : x2.1.length ≤ maxLen := z2.1.1
  rw [laws_FnExactBoxHalved.eq]
  unfold laws_FnExactBoxHalved.b
  rw [show (1048576 : Int) = ((1048576 : Nat) : Int) from rfl, laws_szBox_eq' _ _ _ (by omega) _ hl]
  by_cases h : x1.1.length ≤ 1048576
  · simp only [h, if_true, laws_szBox_eq' _ x2 (1048576 - x1.1.length) (by omega) _ hl2, cast_neg, cond_false]
    by_cases h2 : x2.1.length ≤ 1048576 - x1.1.length
    · have h2' : x2.1.length ≤ 1048576 := by omega
      have hN : 1048576 < 1048577 := by omega
      simp only [h2, if_true, cast_neg, cond_false, laws_toBox_eq _ x1 _ h hN, laws_toBox_eq _ x2 _ h2' hN, spec_BoxHalved_eq _ _ _ _ _ hN, impl_BoxHalved_eq _ _ _ _ _ hN, laws_eqBox_eq _ (x1.1, ()) _ _ h hN, laws_eqBox_eq _ (x2.1, ()) _ _ h2' hN]
      simp
    · simp [h2]
  · simp [h]
/-- Both parts of a box. -/
def boxParts (w : Int) (b : List PairD) (i : Int) (f : PairD → PairD × PairD × Bool) : List PairD × List PairD × Bool :=
  if boxOk w b = true ∧ 0 ≤ i ∧ i < b.length ∧ (f (b.getD i.toNat p0)).2.2 = true then (b.set i.toNat (f (b.getD i.toNat p0)).1, b.set i.toNat (f (b.getD i.toNat p0)).2.1, true) else ([], [], false)
theorem boxParts_len (w : Int) (b : List PairD) (i : Int) (f : PairD → PairD × PairD × Bool) : (boxParts w b i f).1.length ≤ 6 ∧ (boxParts w b i f).2.1.length ≤ 6 := by
  unfold boxParts
  split
  · rename_i h
    have := (boxOk_len h.1).2.1
    simp only [List.length_set]; omega
  · simp
/-- A list marked with numbers from k on. -/
def marked : Int → List PairD → List PairD
  | _, [] => []
  | k, _ :: r => (k, k + 1, ()) :: marked (k + 2) r
theorem marked_len : ∀ (k : Int) (a : List PairD), (marked k a).length = a.length
  | _, [] => rfl
  | k, _ :: r => by simp [marked, marked_len]
end Go.Proofs.YtaelbfbplamahaaAm
