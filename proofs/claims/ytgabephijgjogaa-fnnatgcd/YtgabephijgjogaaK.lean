/-
  What the functions on whole numbers compute, in plain words: quotients, divisors, roots, shifts; and the laws.
-/
import Derived.Test.YtgabephijgjogaaW
namespace Go.Proofs.YtgabephijgjogaaAm
open Go
set_option linter.unusedVariables false
set_option linter.unusedSimpArgs false

/-- A number, if it has no more digits than may be. -/
def fits (n : Nat) : List Int × Bool := if (digs n).length ≤ 256 then (digs n, true) else ([], false)
theorem fits_len (n : Nat) : (fits n).1.length ≤ 256 := by
  unfold fits
  split
  · assumption
  · exact Nat.zero_le _
theorem natOkB_len {l : List Int} (h : natOkB l = true) : l.length ≤ 256 := by
  obtain ⟨n, hn, rfl⟩ := natOkB_ex h
  exact digs_len_le hn
theorem impl_clone_int_eq {α : Type} (N : Nat) (l : List Int) (k1 : List Int → Option α) (h : l.length ≤ 1048576) : impl_clone_int N l k1 = k1 l := by
  rw [impl_clone_int.eq]
  unfold impl_clone_int.b slices_Clone_int_int
  have h1 : decide (List.length ([] : List Int) + List.length l ≤ 8796093022208) = true := by simp; omega
  simp only [h1, cond_true]
  rw [slices_Clip_int_int.eq]
  unfold slices_Clip_int_int.b
  simp [cast_nn]
theorem natRoot_len (l : List Int) : (natRoot l).2.2.length ≤ 256 := by
  unfold natRoot
  split
  next h =>
    obtain ⟨a, ha, rfl⟩ := natOkB_ex h
    simp only [val_digs, Int.toNat_natCast]
    exact digs_len_le (rt_cap ha)
  next h => exact Nat.zero_le _
def natDiv (x y : List Int) : Bool × List Int × List Int :=
  if natOkB x = true ∧ natOkB y = true ∧ y.length ≠ 0 then (true, digs ((val x).toNat / (val y).toNat), digs ((val x).toNat % (val y).toNat)) else (false, [], [])
theorem natDiv_digs {a b : Nat} (ha : a < 65536 ^ 256) (hb : b < 65536 ^ 256) (h : b ≠ 0) : natDiv (digs a) (digs b) = (true, digs (a / b), digs (a % b)) := by
  unfold natDiv
  rw [if_pos ⟨natOkB_digs ha, natOkB_digs hb, fun e => h (digs_len_zero.1 e)⟩]
  simp only [val_digs, Int.toNat_natCast]
theorem div_cap {a : Nat} (b : Nat) (ha : a < 65536 ^ 256) : a / b < 65536 ^ 256 := Nat.lt_of_le_of_lt (Nat.div_le_self a b) ha
theorem mod_cap {a : Nat} (b : Nat) (ha : a < 65536 ^ 256) : a % b < 65536 ^ 256 := Nat.lt_of_le_of_lt (Nat.mod_le a b) ha
theorem natDiv_len (x y : List Int) : (natDiv x y).2.1.length ≤ 256 ∧ (natDiv x y).2.2.length ≤ 256 := by
  unfold natDiv
  split
  next h =>
    obtain ⟨a, ha, rfl⟩ := natOkB_ex h.1
    obtain ⟨b, hb, rfl⟩ := natOkB_ex h.2.1
    simp only [val_digs, Int.toNat_natCast]
    exact ⟨digs_len_le (div_cap b ha), digs_len_le (mod_cap b ha)⟩
  next h => exact ⟨Nat.zero_le _, Nat.zero_le _⟩
theorem impl_NatDiv_eq {α : Type} (N : Nat) (x y : List Int) (k : Bool → List Int → List Int → Option α) (hN : cap < N) : impl_NatDiv N x y k = k (natDiv x y).1 (natDiv x y).2.1 (natDiv x y).2.2 := by
  rw [impl_NatDiv.eq]
  unfold impl_NatDiv.b
  simp only [impl_nats_eq N [x, y] _ (show 2 < 1000 by omega) hN, List.all_cons, List.all_nil, Bool.and_true]
  cases h1 : natOkB x
  · simp [natDiv, h1]
  cases h2 : natOkB y
  · simp [natDiv, h1, h2]
  obtain ⟨a, ha, rfl⟩ := natOkB_ex h1
  obtain ⟨b, hb, rfl⟩ := natOkB_ex h2
  by_cases h3 : b = 0
  · subst h3; simp [natDiv, digs_zero]
  · have l1 := digs_len_le (div_cap b ha)
    have l2 := digs_len_le (mod_cap b ha)
    simp only [natDiv_digs ha hb h3, Bool.and_self, Bool.not_true, cond_false, len_cast_zero, h3, decide_false, impl_natDiv_eq N a b _ (c256 ha) (c256 hb) h3 hN,
      impl_clone_int_eq N (digs (a / b)) _ (show (digs (a / b)).length ≤ 1048576 by omega), impl_clone_int_eq N (digs (a % b)) _ (show (digs (a % b)).length ≤ 1048576 by omega)]
def natGcd (x y : List Int) : Bool × List Int := if natOkB x = true ∧ natOkB y = true then (true, digs (Nat.gcd (val x).toNat (val y).toNat)) else (false, [])
theorem natGcd_digs {a b : Nat} (ha : a < 65536 ^ 256) (hb : b < 65536 ^ 256) : natGcd (digs a) (digs b) = (true, digs (Nat.gcd a b)) := by
  unfold natGcd
  rw [if_pos ⟨natOkB_digs ha, natOkB_digs hb⟩]
  simp only [val_digs, Int.toNat_natCast]
theorem gcd_cap {a b : Nat} (ha : a < 65536 ^ 256) (hb : b < 65536 ^ 256) : Nat.gcd a b < 65536 ^ 256 := by
  by_cases h : a = 0
  · rw [h, Nat.gcd_zero_left]; exact hb
  · exact Nat.lt_of_le_of_lt (Nat.gcd_le_left b (Nat.pos_of_ne_zero h)) ha
theorem natGcd_len (x y : List Int) : (natGcd x y).2.length ≤ 256 := by
  unfold natGcd
  split
  next h =>
    obtain ⟨a, ha, rfl⟩ := natOkB_ex h.1
    obtain ⟨b, hb, rfl⟩ := natOkB_ex h.2
    simp only [val_digs, Int.toNat_natCast]
    exact digs_len_le (gcd_cap ha hb)
  next h => exact Nat.zero_le _
theorem spec_NatGcd_eq {α : Type} (N : Nat) (x y : List Int) (k : Bool → List Int → Option α) (hN : cap < N) : spec_NatGcd N x y k = k (natGcd x y).1 (natGcd x y).2 := by
  rw [spec_NatGcd.eq]
  unfold spec_NatGcd.b
  simp only [spec_NatOk_eq N _ _ hN]
  cases h1 : natOkB x
  · simp [natGcd, h1]
  cases h2 : natOkB y
  · simp [natGcd, h1, h2]
  obtain ⟨a, ha, rfl⟩ := natOkB_ex h1
  obtain ⟨b, hb, rfl⟩ := natOkB_ex h2
  simp only [natGcd_digs ha hb, Bool.not_true, cond_false, spec_l5Gcd_eq N a b _ (c256 ha) (c256 hb) hN]
theorem impl_NatGcd_eq {α : Type} (N : Nat) (x y : List Int) (k : Bool → List Int → Option α) (hN : cap < N) : impl_NatGcd N x y k = k (natGcd x y).1 (natGcd x y).2 := by
  rw [impl_NatGcd.eq]
  unfold impl_NatGcd.b
  simp only [impl_nats_eq N [x, y] _ (show 2 < 1000 by omega) hN, List.all_cons, List.all_nil, Bool.and_true]
  cases h1 : natOkB x
  · simp [natGcd, h1]
  cases h2 : natOkB y
  · simp [natGcd, h1, h2]
  obtain ⟨a, ha, rfl⟩ := natOkB_ex h1
  obtain ⟨b, hb, rfl⟩ := natOkB_ex h2
  have l1 := digs_len_le (gcd_cap ha hb)
  simp only [natGcd_digs ha hb, Bool.and_self, Bool.not_true, cond_false, impl_natGcd_eq N a b _ (c256 ha) (c256 hb) hN, impl_clone_int_eq N (digs (Nat.gcd a b)) _ (show (digs (Nat.gcd a b)).length ≤ 1048576 by omega)]
def shN (a : Nat) (k : Int) : Nat := if k < 0 then a / 2 ^ (-k).toNat else a * 2 ^ k.toNat
def natShift (x : List Int) (k : Int) : List Int × Bool := if natOkB x = true ∧ -4096 ≤ k ∧ k ≤ 4096 then fits (shN (val x).toNat k) else ([], false)
theorem natShift_len (x : List Int) (k : Int) : (natShift x k).1.length ≤ 256 := by
  unfold natShift
  split
  · exact fits_len _
  · exact Nat.zero_le _
theorem pow_lt_cap0 {i : Nat} (h : i ≤ 4096) : 2 ^ i < cap0 := by
  obtain ⟨E, hE⟩ : ∃ E, E = 257 := ⟨_, rfl⟩
  exact lt_cap0 (pow2_cap (E := E) (by omega)) (by omega)
theorem shN_cap {a : Nat} {k : Int} (ha : a < 65536 ^ 256) (h1 : k ≤ 4096) : shN a k < cap0 := by
  obtain ⟨E, hE⟩ : ∃ E, E = 257 := ⟨_, rfl⟩
  unfold shN
  split
  · exact Nat.lt_of_le_of_lt (Nat.div_le_self _ _) (c256 ha)
  · have hp : 2 ^ k.toNat < 65536 ^ E := pow2_cap (by omega)
    have := mul_cap ha hp
    exact lt_cap0 this (by omega)
theorem laws_pwSame_loop {α : Type} (N : Nat) (a b : List Int) (hl : a.length = b.length) (hb : a.length < 4611686018427387904) (k : Bool → Option α) (k1 : Option α) : ∀ (d i n : Nat), i + d = a.length → d < n →
    laws_pwSame_L0 N n a b (i : Int) k k1 = if a.drop i = b.drop i then k1 else k false := by
  intro d
  induction d with
  | zero =>
    intro i n h hn
    obtain ⟨n, rfl⟩ : ∃ m, n = m + 1 := ⟨n - 1, by omega⟩
    rw [laws_pwSame_L0.succ]
    unfold laws_pwSame_L0r
    simp only [cast_nlt (show ¬ i < a.length by omega), cond_false]
    rw [List.drop_eq_nil_of_le (by omega), List.drop_eq_nil_of_le (by omega), if_pos rfl]
  | succ d ih =>
    intro i n h hn
    obtain ⟨n, rfl⟩ : ∃ m, n = m + 1 := ⟨n - 1, by omega⟩
    have hi : i < a.length := by omega
    have hj : i < b.length := by omega
    rw [laws_pwSame_L0.succ]
    unfold laws_pwSame_L0r
    simp only [cast_lt hi, cond_true, cast_neg, cond_false, Int.toNat_natCast, List.getElem?_eq_getElem hi, List.getElem?_eq_getElem hj, succ_i (show i < 4611686018427387904 by omega)]
    have e1 := List.drop_eq_getElem_cons hi
    have e2 := List.drop_eq_getElem_cons hj
    rw [e1, e2]
    by_cases he : a[i] = b[i]
    · simp only [he, decide_true, Bool.not_true, cond_false, List.cons.injEq, true_and]
      exact ih (i + 1) n (by omega) (by omega)
    · simp only [he, decide_false, Bool.not_false, cond_true, List.cons.injEq, false_and, if_false]
theorem laws_pwSame_eq {α : Type} (N : Nat) (a b : List Int) (k : Bool → Option α) (h : a.length ≤ 1048576) (hN : cap < N) : laws_pwSame N a b k = k (decide (a = b)) := by
  have hNN := cap_N hN
  rw [laws_pwSame.eq]
  unfold laws_pwSame.b
  by_cases hl : a.length = b.length
  · have hl2 : ((a.length : Nat) : Int) = ((b.length : Nat) : Int) := by omega
    have e := laws_pwSame_loop N a b hl (by omega) k (k true) a.length 0 N (by omega) (by omega)
    simp only [hl2, decide_true, Bool.not_true, cond_false]
    refine e.trans ?_
    by_cases he : a = b
    · simp [he]
    · simp [he]
  · have hl2 : ¬ ((a.length : Nat) : Int) = ((b.length : Nat) : Int) := by omega
    have he : ¬ a = b := fun e => hl (by rw [e])
    simp only [hl2, he, decide_false, Bool.not_false, cond_true]
end Go.Proofs.YtgabephijgjogaaAm
