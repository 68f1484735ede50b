/-
  What the laws' own functions on naturals and fractions compute, and which naturals and fractions are good.
-/
import Derived.Test.YtlbihmicbncdiaaQ
namespace Go.Proofs.YtlbihmicbncdiaaAm
open Go
set_option linter.unusedVariables false
set_option linter.unusedSimpArgs false

abbrev FracD := Bool × (List Int) × (List Int) × Unit
def markI : Int → List Int → List Int
  | _, [] => []
  | c, _ :: r => c :: markI (c + 1) r
theorem markI_len : ∀ (c : Int) (l : List Int), (markI c l).length = l.length
  | _, [] => rfl
  | c, _ :: r => by simp [markI, markI_len]
theorem laws_eqIntS_loop {α : Type} (N : Nat) (a : List Int) (hb : a.length < 4611686018427387904) (k : Bool → Option α) (k1 : Option α) : ∀ (d i n : Nat), i + d = a.length → d < n →
    laws_eqIntS_L0 N n a a i k k1 = k1 := by
  intro d
  induction d with
  | zero =>
    intro i n h hn
    obtain ⟨m, rfl⟩ : ∃ m, n = m + 1 := ⟨n - 1, by omega⟩
    rw [laws_eqIntS_L0.succ]
    unfold laws_eqIntS_L0r
    simp only [cast_nlt (show ¬ i < a.length by omega), cond_false]
  | succ d ih =>
    intro i n h hn
    obtain ⟨m, rfl⟩ : ∃ m, n = m + 1 := ⟨n - 1, by omega⟩
    have hi : i < a.length := by omega
    rw [laws_eqIntS_L0.succ]
    unfold laws_eqIntS_L0r
    simp only [cast_lt hi, cast_neg, cond_true, cond_false, Int.toNat_natCast, List.getElem?_eq_getElem hi, decide_true, Bool.not_true, succ_i (show i < 4611686018427387904 by omega)]
    exact ih (i + 1) m (by omega) (by omega)
theorem laws_eqIntS_eq {α : Type} (N : Nat) (a : List Int) (k : Bool → Option α) (h : a.length ≤ 1048576) (hN : cap < N) : laws_eqIntS N a a k = k true := by
  have hN := cap_N hN
  rw [laws_eqIntS.eq]
  unfold laws_eqIntS.b
  have := laws_eqIntS_loop N a (by omega) (fun x => k x) (k true) a.length 0 N (by omega) (by omega)
  simp only [decide_true, Bool.not_true, cond_false]
  exact this
theorem laws_eqFrac_eq {α : Type} (N : Nat) (s : Bool) (a b : List Int) (k : Bool → Option α) (h : a.length + b.length ≤ 1048576) (hN : cap < N) : laws_eqFrac N (s, (a, (b, ()))) (s, (a, (b, ()))) k = k true := by
  rw [laws_eqFrac.eq]
  unfold laws_eqFrac.b
  simp only [beq_self_eq_true, Bool.not_true, cond_false, laws_eqIntS_eq N a _ (show a.length ≤ 1048576 by omega) hN, laws_eqIntS_eq N b _ (show b.length ≤ 1048576 by omega) hN]
theorem laws_markIntS_loop {α : Type} (N : Nat) (k : Int → List Int → Option α) : ∀ (d i n : Nat) (c : Int) (pre rest : List Int), pre.length = i → rest.length = d → i + d ≤ 1048576 → d < n → 0 ≤ c → c ≤ 1073741824 + i →
    laws_markIntS_L0 N n c i (pre ++ rest) k = k (c + d) (pre ++ markI c rest) := by
  intro d
  induction d with
  | zero =>
    intro i n c pre rest h1 h2 h3 h5 h6 h7
    obtain ⟨m, rfl⟩ : ∃ m, n = m + 1 := ⟨n - 1, by omega⟩
    have : rest = [] := List.length_eq_zero_iff.1 h2
    subst this
    rw [laws_markIntS_L0.succ]
    unfold laws_markIntS_L0r
    simp only [List.append_nil, cast_nlt (show ¬ i < pre.length by omega), cond_false]
    simp [markI]
  | succ d ih =>
    intro i n c pre rest h1 h2 h3 h5 h6 h7
    obtain ⟨m, rfl⟩ : ∃ m, n = m + 1 := ⟨n - 1, by omega⟩
    obtain ⟨p, r, rfl⟩ : ∃ p r, rest = p :: r := by
      cases rest with
      | nil => simp at h2
      | cons p r => exact ⟨p, r, rfl⟩
    have hi : i < (pre ++ p :: r).length := by simp; omega
    have hget : (pre ++ p :: r)[i]? = some p := by rw [List.getElem?_append_right (by omega), h1]; simp
    have hset : (pre ++ p :: r).set i c = pre ++ c :: r := by
      rw [List.set_append_right _ _ (by omega), h1]; simp
    have hw1 : IntKind.i64.wrap (c + 1) = c + 1 := wrap_i64 (by omega) (by omega)
    rw [laws_markIntS_L0.succ]
    unfold laws_markIntS_L0r
    simp only [cast_lt hi, cast_neg, cond_true, cond_false, Int.toNat_natCast, decide_eq_true hi, hget, hset, hw1, succ_i (show i < 4611686018427387904 by omega)]
    have := ih (i + 1) m (c + 1) (pre ++ [c]) r (by simp [h1]) (by simpa using h2) (by omega) (by omega) (by omega) (by omega)
    simp only [List.append_assoc, List.singleton_append] at this
    rw [this, markI]
    congr 1; omega
theorem laws_markIntS_eq {α : Type} (N : Nat) (c : Int) (a : List Int) (k : Int → List Int → Option α) (ha : a.length ≤ 1048576) (h0 : 0 ≤ c) (h1 : c ≤ 1073741824) (hN : cap < N) : laws_markIntS N c a k = k (c + a.length) (markI c a) := by
  have hN := cap_N hN
  rw [laws_markIntS.eq]
  unfold laws_markIntS.b
  have := laws_markIntS_loop N k a.length 0 N c [] a rfl rfl (by omega) (by omega) h0 (by omega)
  simpa using this
theorem laws_heldIntS_loop {α : Type} (N : Nat) (k k1 : Int → Option α) : ∀ (d i n : Nat) (c : Int) (pre rest : List Int), pre.length = i → rest.length = d → i + d ≤ 1048576 → d < n → 0 ≤ c → c ≤ 1073741824 + i →
    laws_heldIntS_L0 N n (pre ++ markI c rest) c i k k1 = k1 (c + d) := by
  intro d
  induction d with
  | zero =>
    intro i n c pre rest h1 h2 h3 h5 h6 h7
    obtain ⟨m, rfl⟩ : ∃ m, n = m + 1 := ⟨n - 1, by omega⟩
    have : rest = [] := List.length_eq_zero_iff.1 h2
    subst this
    rw [laws_heldIntS_L0.succ]
    unfold laws_heldIntS_L0r
    simp only [markI, List.append_nil, cast_nlt (show ¬ i < pre.length by omega), cond_false]
    simp
  | succ d ih =>
    intro i n c pre rest h1 h2 h3 h5 h6 h7
    obtain ⟨m, rfl⟩ : ∃ m, n = m + 1 := ⟨n - 1, by omega⟩
    obtain ⟨p, r, rfl⟩ : ∃ p r, rest = p :: r := by
      cases rest with
      | nil => simp at h2
      | cons p r => exact ⟨p, r, rfl⟩
    rw [markI]
    have hi : i < (pre ++ c :: markI (c + 1) r).length := by simp; omega
    have hget : (pre ++ c :: markI (c + 1) r)[i]? = some c := by rw [List.getElem?_append_right (by omega), h1]; simp
    have hw1 : IntKind.i64.wrap (c + 1) = c + 1 := wrap_i64 (by omega) (by omega)
    rw [laws_heldIntS_L0.succ]
    unfold laws_heldIntS_L0r
    simp only [cast_lt hi, cast_neg, cond_true, cond_false, Int.toNat_natCast, hget, decide_true, Bool.not_true, hw1, succ_i (show i < 4611686018427387904 by omega)]
    have := ih (i + 1) m (c + 1) (pre ++ [c]) r (by simp [h1]) (by simpa using h2) (by omega) (by omega) (by omega) (by omega)
    simp only [List.append_assoc, List.singleton_append] at this
    rw [this]
    congr 1; omega
theorem laws_heldIntS_eq {α : Type} (N : Nat) (c : Int) (a : List Int) (k : Int → Option α) (ha : a.length ≤ 1048576) (h0 : 0 ≤ c) (h1 : c ≤ 1073741824) (hN : cap < N) : laws_heldIntS N (markI c a) c k = k (c + a.length) := by
  have hN := cap_N hN
  rw [laws_heldIntS.eq]
  unfold laws_heldIntS.b
  simpa using laws_heldIntS_loop (α := α) N k k a.length 0 N c [] a rfl rfl (by omega) (by omega) h0 (by omega)
theorem laws_markFrac_eq {α : Type} (N : Nat) (s : Bool) (a b : List Int) (k : Int → List Int → List Int → Option α) (h : a.length + b.length ≤ 1048576) (hN : cap < N) : laws_markFrac N s 1 a b k = k (1 + a.length + b.length) (markI 1 a) (markI (1 + a.length) b) := by
  rw [laws_markFrac.eq]
  unfold laws_markFrac.b
  rw [laws_markIntS_eq N _ _ _ (by omega) (by omega) (by omega) hN, laws_markIntS_eq N _ _ _ (by omega) (by omega) (by omega) hN]
theorem laws_heldFrac_eq {α : Type} (N : Nat) (s : Bool) (a b : List Int) (k : Int → Option α) (h : a.length + b.length ≤ 1048576) (hN : cap < N) : laws_heldFrac N (s, (markI 1 a, (markI (1 + a.length) b, ()))) 1 k = k (1 + a.length + b.length) := by
  rw [laws_heldFrac.eq]
  unfold laws_heldFrac.b
  have h1 : ¬ (1 + (a.length : Int) < 0) := by omega
  have h2 : ¬ (1 + (a.length : Int) + (b.length : Int) < 0) := by omega
  simp only [laws_heldIntS_eq N 1 a _ (show a.length ≤ 1048576 by omega) (by omega) (by omega) hN, h1, decide_false, cond_false, laws_heldIntS_eq N (1 + (a.length : Int)) b _ (show b.length ≤ 1048576 by omega) (by omega) (by omega) hN, h2]
def fracOkB (f : FracD) : Bool := natOkB f.2.1 && natOkB f.2.2.1 && decide (f.2.2.1.length ≠ 0) && (!f.1 || decide (f.2.1.length ≠ 0)) && decide (Nat.gcd (val f.2.1).toNat (val f.2.2.1).toNat = 1)
theorem fracOkB_ex {f : FracD} (h : fracOkB f = true) : ∃ s a b, f = (s, (digs a, (digs b, ()))) ∧ a < 65536 ^ 256 ∧ b < 65536 ^ 256 ∧ b ≠ 0 ∧ Nat.gcd a b = 1 ∧ (s = true → a ≠ 0) := by
  obtain ⟨s, n, d, u⟩ := f
  simp only [fracOkB, Bool.and_eq_true, decide_eq_true_eq, Bool.or_eq_true] at h
  obtain ⟨⟨⟨⟨h1, h2⟩, h3⟩, h4⟩, h5⟩ := h
  obtain ⟨a, ha, rfl⟩ := natOkB_ex h1
  obtain ⟨b, hb, rfl⟩ := natOkB_ex h2
  rw [val_digs, val_digs] at h5
  refine ⟨s, a, b, rfl, ha, hb, fun e => h3 (digs_len_zero.2 e), by simpa using h5, fun hs e => ?_⟩
  rcases h4 with h4 | h4
  · rw [hs] at h4; simp at h4
  · exact h4 (digs_len_zero.2 e)
theorem len_cast_zero (a : Nat) : decide (((digs a).length : Int) = 0) = decide (a = 0) := by
  by_cases h : a = 0
  · subst h; simp [digs_zero]
  · have h2 : (digs a).length ≠ 0 := fun e => h (digs_len_zero.1 e)
    have : ¬ (((digs a).length : Int) = 0) := by omega
    simp only [h, this, decide_false]
theorem len_cast_pos (a : Nat) : decide ((0 : Int) < ((digs a).length : Int)) = decide (a ≠ 0) := by
  by_cases h : a = 0
  · subst h; simp [digs_zero]
  · have h2 : (digs a).length ≠ 0 := fun e => h (digs_len_zero.1 e)
    have : (0 : Int) < ((digs a).length : Int) := by omega
    simp only [h, this, Ne, not_false_eq_true, decide_true]
theorem c256 {a : Nat} (h : a < 65536 ^ 256) : a < cap0 := lt_cap0 h (by omega)
theorem cap0_lt {a : Nat} (h : a < cap0) : a < cap := by have := cap0_step; omega
theorem digs1 : digs 1 = [(1 : Int)] := digs_one (by omega) (by omega)
end Go.Proofs.YtlbihmicbncdiaaAm
