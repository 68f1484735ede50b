/-
  What the functions on boxes compute, in plain words: halves, parts, marks.
-/
import Derived.Test.YtbaeipjjijdgiaaDoorB
namespace Go.Proofs.YtbaeipjjijdgiaaDoorAm
open Go
set_option linter.unusedVariables false
set_option linter.unusedSimpArgs false

def pairIs (a b : PairD) : Bool := decide (b.1 ≤ a.1) && decide (a.2.1 ≤ b.2.1)
def boxIs : List PairD → List PairD → Bool
  | [], [] => true
  | a :: r, b :: s => pairIs a b && boxIs r s
  | _, _ => false
theorem boxIs_len : ∀ {a b : List PairD}, boxIs a b = true → a.length = b.length
  | [], [], _ => rfl
  | a :: r, b :: s, h => by
    simp only [boxIs, Bool.and_eq_true] at h
    simp [boxIs_len h.2]
  | [], _ :: _, h => by simp [boxIs] at h
  | _ :: _, [], h => by simp [boxIs] at h
theorem boxIs_ne {a b : List PairD} (h : a.length ≠ b.length) : boxIs a b = false := by
  cases e : boxIs a b
  · rfl
  · exact absurd (boxIs_len e) h
def halvedAny : List PairD → List PairD → Bool
  | a :: r, b :: s => (decide (0 < gapP a) && decide (gapP b ≤ (gapP a).tdiv 2)) || halvedAny r s
  | _, _ => false
def boxHalved (w : Int) (a b : List PairD) : Bool := boxOk w a && boxOk w b && boxIs b a && halvedAny a b
theorem half_wrap (p : PairD) : IntKind.u64.wrap ((gapP p).tdiv 2) = (gapP p).tdiv 2 := by
  have := gapP_nonneg p
  rw [Int.tdiv_eq_ediv_of_nonneg (by omega)]
  rw [wrap_u64 (by omega) (by omega)]
theorem laws_szPairS_eq' {α : Type} (N : Nat) (a : List PairD) (n : Nat) (hn : n ≤ 1048576) (k : Int → Option α) (h : a.length ≤ maxLen) : laws_szPairS N a n k = if a.length ≤ n then k ((n - a.length : Nat)) else k (-1) := by
  rw [laws_szPairS.eq]
  unfold laws_szPairS.b
  unfold maxLen at h
  simp only []
  rw [wrap_i64 (by omega) (by omega)]
  by_cases h1 : a.length ≤ n
  · have : ¬ ((n : Int) - (a.length : Int) < 0) := by omega
    simp only [h1, this, decide_false, cond_false, if_true]
    congr 1; omega
  · have : ((n : Int) - (a.length : Int) < 0) := by omega
    simp [h1, this]
theorem laws_szBox_eq' {α : Type} (N : Nat) (a : BoxD) (n : Nat) (hn : n ≤ 1048576) (k : Int → Option α) (h : a.1.length ≤ maxLen) : laws_szBox N a n k = if a.1.length ≤ n then k ((n - a.1.length : Nat)) else k (-1) := by
  rw [laws_szBox.eq]
  unfold laws_szBox.b
  rw [laws_szPairS_eq' _ _ _ hn _ h]
  split
  · simp [cast_neg]
  · simp
/-- Both parts of a box. -/
def boxParts (w : Int) (b : List PairD) (i : Int) (f : PairD → PairD × PairD × Bool) : List PairD × List PairD × Bool :=
  if boxOk w b = true ∧ 0 ≤ i ∧ i < b.length ∧ (f (b.getD i.toNat p0)).2.2 = true then (b.set i.toNat (f (b.getD i.toNat p0)).1, b.set i.toNat (f (b.getD i.toNat p0)).2.1, true) else ([], [], false)
theorem boxParts_len (w : Int) (b : List PairD) (i : Int) (f : PairD → PairD × PairD × Bool) : (boxParts w b i f).1.length ≤ 6 ∧ (boxParts w b i f).2.1.length ≤ 6 := by
  unfold boxParts
  split
  · rename_i h
    have := (boxOk_len h.1).2.1
    simp only [List.length_set]; omega
  · simp
/-- A list marked with numbers from k on. -/
def marked : Int → List PairD → List PairD
  | _, [] => []
  | k, _ :: r => (k, k + 1, ()) :: marked (k + 2) r
theorem marked_len : ∀ (k : Int) (a : List PairD), (marked k a).length = a.length
  | _, [] => rfl
  | k, _ :: r => by simp [marked, marked_len]
theorem laws_markPairS_loop {α : Type} (N : Nat) (k : Int → List PairD → Option α) : ∀ (d i n : Nat) (c : Int) (pre rest : List PairD), pre.length = i → rest.length = d → i + d ≤ 1048576 → d < n → 0 ≤ c → c ≤ 1073741824 + 2 * i →
    laws_markPairS_L0 N n c i (pre ++ rest) k = k (c + 2 * d) (pre ++ marked c rest) := by
  intro d
  induction d with
  | zero =>
    intro i n c pre rest h1 h2 h3 h5 h6 h7
    obtain ⟨m, rfl⟩ : ∃ m, n = m + 1 := ⟨n - 1, by omega⟩
    have : rest = [] := List.length_eq_zero_iff.1 h2
    subst this
    rw [laws_markPairS_L0.succ]
    unfold laws_markPairS_L0r
    simp only [List.append_nil, cast_nlt (show ¬ i < pre.length by omega), cond_false]
    simp [marked]
  | succ d ih =>
    intro i n c pre rest h1 h2 h3 h5 h6 h7
    obtain ⟨m, rfl⟩ : ∃ m, n = m + 1 := ⟨n - 1, by omega⟩
    obtain ⟨p, r, rfl⟩ : ∃ p r, rest = p :: r := by
      cases rest with
      | nil => simp at h2
      | cons p r => exact ⟨p, r, rfl⟩
    have hi : i < (pre ++ p :: r).length := by simp; omega
    have hget : (pre ++ p :: r)[i]? = some p := by rw [List.getElem?_append_right (by omega), h1]; simp
    have hset : ∀ q : PairD, (pre ++ p :: r).set i q = pre ++ q :: r := by
      intro q
      rw [List.set_append_right _ _ (by omega), h1]; simp
    have hget2 : ∀ q : PairD, (pre ++ q :: r)[i]? = some q := by
      intro q
      rw [List.getElem?_append_right (by omega), h1]; simp
    have hset2 : ∀ q q2 : PairD, (pre ++ q :: r).set i q2 = pre ++ q2 :: r := by
      intro q q2
      rw [List.set_append_right _ _ (by omega), h1]; simp
    have hi2 : ∀ q : PairD, decide (i < (pre ++ q :: r).length) = true := by
      intro q
      simp only [decide_eq_true_eq, List.length_append, List.length_cons]; omega
    have hw1 : IntKind.i64.wrap (c + 1) = c + 1 := wrap_i64 (by omega) (by omega)
    have hw2 : IntKind.i64.wrap (c + 1 + 1) = c + 2 := by rw [wrap_i64 (by omega) (by omega)]; omega
    rw [laws_markPairS_L0.succ]
    unfold laws_markPairS_L0r
    simp only [cast_lt hi, cast_neg, cond_true, cond_false, Int.toNat_natCast, decide_eq_true hi, hget, hset, hw1, hi2, hget2, hset2, hw2, succ_i (show i < 4611686018427387904 by omega)]
    have := ih (i + 1) m (c + 2) (pre ++ [(c, c + 1, ())]) r (by simp [h1]) (by simpa using h2) (by omega) (by omega) (by omega) (by omega)
    simp only [List.append_assoc, List.singleton_append] at this
    rw [this, marked]
    congr 1; omega
theorem laws_markBox_eq {α : Type} (N : Nat) (c : Int) (a : List PairD) (k : Int → List PairD → Option α) (ha : a.length ≤ 1048576) (h0 : 0 ≤ c) (h1 : c ≤ 1073741824) (hN : 1048576 < N) : laws_markBox N c a k = k (c + 2 * a.length) (marked c a) := by
  rw [laws_markBox.eq]
  unfold laws_markBox.b
  rw [laws_markPairS.eq]
  unfold laws_markPairS.b
  have := laws_markPairS_loop N k a.length 0 N c [] a rfl rfl (by omega) (by omega) h0 (by omega)
  simpa using this
theorem laws_heldPairS_loop {α : Type} (N : Nat) (k k1 : Int → Option α) : ∀ (d i n : Nat) (c : Int) (pre rest : List PairD), pre.length = i → rest.length = d → i + d ≤ 1048576 → d < n → 0 ≤ c → c ≤ 1073741824 + 2 * i →
    laws_heldPairS_L0 N n (pre ++ marked c rest) c i k k1 = k1 (c + 2 * d) := by
  intro d
  induction d with
  | zero =>
    intro i n c pre rest h1 h2 h3 h5 h6 h7
    obtain ⟨m, rfl⟩ : ∃ m, n = m + 1 := ⟨n - 1, by omega⟩
    have : rest = [] := List.length_eq_zero_iff.1 h2
    subst this
    rw [laws_heldPairS_L0.succ]
    unfold laws_heldPairS_L0r
    simp only [marked, List.append_nil, cast_nlt (show ¬ i < pre.length by omega), cond_false]
    simp
  | succ d ih =>
    intro i n c pre rest h1 h2 h3 h5 h6 h7
    obtain ⟨m, rfl⟩ : ∃ m, n = m + 1 := ⟨n - 1, by omega⟩
    obtain ⟨p, r, rfl⟩ : ∃ p r, rest = p :: r := by
      cases rest with
      | nil => simp at h2
      | cons p r => exact ⟨p, r, rfl⟩
    rw [marked]
    have hi : i < (pre ++ (c, c + 1, ()) :: marked (c + 2) r).length := by simp; omega
    have hget : (pre ++ (c, c + 1, ()) :: marked (c + 2) r)[i]? = some (c, c + 1, ()) := by rw [List.getElem?_append_right (by omega), h1]; simp
    have hw1 : IntKind.i64.wrap (c + 1) = c + 1 := wrap_i64 (by omega) (by omega)
    have hw2 : IntKind.i64.wrap (c + 1 + 1) = c + 2 := by rw [wrap_i64 (by omega) (by omega)]; omega
    rw [laws_heldPairS_L0.succ]
    unfold laws_heldPairS_L0r
    simp only [cast_lt hi, cast_neg, cond_true, cond_false, Int.toNat_natCast, hget, decide_true, Bool.not_true, hw1, hw2, succ_i (show i < 4611686018427387904 by omega)]
    have := ih (i + 1) m (c + 2) (pre ++ [(c, c + 1, ())]) r (by simp [h1]) (by simpa using h2) (by omega) (by omega) (by omega) (by omega)
    simp only [List.append_assoc, List.singleton_append] at this
    rw [this]
    congr 1; omega
theorem laws_heldBox_eq {α : Type} (N : Nat) (c : Int) (a : List PairD) (k : Int → Option α) (ha : a.length ≤ 1048576) (h0 : 0 ≤ c) (h1 : c ≤ 1073741824) (hN : 1048576 < N) : laws_heldBox N (marked c a, ()) c k = k (c + 2 * a.length) := by
  rw [laws_heldBox.eq]
  unfold laws_heldBox.b
  rw [laws_heldPairS.eq]
  unfold laws_heldPairS.b
  have this : ∀ k1 : Int → Option α, laws_heldPairS_L0 N N (marked c a) c 0 k1 k1 = k1 (c + 2 * a.length) := fun k1 => by
    simpa using laws_heldPairS_loop (α := α) N k1 k1 a.length 0 N c [] a rfl rfl (by omega) (by omega) h0 (by omega)
  have hp : ¬ (c + 2 * (a.length : Int) < 0) := by omega
  simp only [this, hp, decide_false, cond_false]
end Go.Proofs.YtbaeipjjijdgiaaDoorAm
