/-
  What the functions on boxes compute, in plain words: halves, parts, marks.
-/
import Derived.Test.YtbaeipjjijdgiaaB
namespace Go.Proofs.YtbaeipjjijdgiaaAm
open Go
set_option linter.unusedVariables false
set_option linter.unusedSimpArgs false

def pairIs (a b : PairD) : Bool := decide (b.1 ≤ a.1) && decide (a.2.1 ≤ b.2.1)
theorem impl_PairIs_eq {α : Type} (N : Nat) (a b : PairD) (k : Bool → Option α) : impl_PairIs N a b k = k (pairIs a b) := by
 rw [impl_PairIs.eq]
 unfold impl_PairIs.b pairIs
 by_cases h : b.1 ≤ a.1 <;> simp [h]
def boxIs : List PairD → List PairD → Bool
 | [], [] => true
 | a :: r, b :: s => pairIs a b && boxIs r s
 | _, _ => false
theorem boxIs_len : ∀ {a b : List PairD}, boxIs a b = true → a.length = b.length
  | [], [], _ => rfl
  | a :: r, b :: s, h => by
    simp only [boxIs, Bool.and_eq_true] at h
    simp [boxIs_len h.2]
  | [], _ :: _, h => by simp [boxIs] at h
  | _ :: _, [], h => by simp [boxIs] at h
theorem boxIs_ne {a b : List PairD} (h : a.length ≠ b.length) : boxIs a b = false := by
 cases e : boxIs a b
 ·rfl
 ·exact absurd (boxIs_len e) h
theorem equalIs_loop {α : Type} (N : Nat) (a b : List PairD) (hl : a.length = b.length) (hb : a.length < 4611686018427387904) (k : Bool → Option α) (k1 : Option α) : ∀ (d i n : Nat), i + d = a.length → d < n →
    slices_EqualFunc_impl_Pair_impl_Pair_impl_Pair_impl_Pair__impl_PairIs_L0 N n b a a.length i k k1 = if boxIs (a.drop i) (b.drop i) = true then k1 else k false := by
  intro d
  induction d with
  | zero =>
    intro i n h hn
    obtain ⟨m, rfl⟩ : ∃ m, n = m + 1 := ⟨n - 1, by omega⟩
    rw [slices_EqualFunc_impl_Pair_impl_Pair_impl_Pair_impl_Pair__impl_PairIs_L0.succ]
    unfold slices_EqualFunc_impl_Pair_impl_Pair_impl_Pair_impl_Pair__impl_PairIs_L0r
    simp only [cast_nlt (show ¬ i < a.length by omega), cond_false]
    rw [List.drop_of_length_le (by omega), List.drop_of_length_le (by omega)]; simp [boxIs]
  | succ d ih =>
    intro i n h hn
    obtain ⟨m, rfl⟩ : ∃ m, n = m + 1 := ⟨n - 1, by omega⟩
    have hi : i < a.length := by omega
    have hi2 : i < b.length := by omega
    rw [slices_EqualFunc_impl_Pair_impl_Pair_impl_Pair_impl_Pair__impl_PairIs_L0.succ]
    unfold slices_EqualFunc_impl_Pair_impl_Pair_impl_Pair_impl_Pair__impl_PairIs_L0r
    simp only [cast_lt hi, cast_neg, cond_true, cond_false, Int.toNat_natCast, List.getElem?_eq_getElem hi, List.getElem?_eq_getElem hi2, impl_PairIs_eq, succ_i (show i < 4611686018427387904 by omega)]
    have e1 := List.drop_eq_getElem_cons hi
    have e2 := List.drop_eq_getElem_cons hi2
    rw [ih (i + 1) m (by omega) (by omega), e1, e2, boxIs]
    cases he : pairIs a[i] b[i] <;> simp only [Bool.not_true, Bool.not_false, cond_true, cond_false, Bool.true_and, Bool.false_and, Bool.false_eq_true, if_false]
theorem impl_BoxIs_eq {α : Type} (N : Nat) (a b : BoxD) (k : Bool → Option α) (h : a.1.length ≤ 1048576) (hN : 1048576 < N) : impl_BoxIs N a b k = k (boxIs a.1 b.1) := by
 rw [impl_BoxIs.eq]
 unfold impl_BoxIs.b
 rw [slices_EqualFunc_impl_Pair_impl_Pair_impl_Pair_impl_Pair__impl_PairIs.eq]
 unfold slices_EqualFunc_impl_Pair_impl_Pair_impl_Pair_impl_Pair__impl_PairIs.b
 by_cases hl : a.1.length = b.1.length
 ·have := equalIs_loop N a.1 b.1 hl (by omega) (fun x => k x) (k true) a.1.length 0 N (by omega) (by omega)
  simp only [List.drop_zero] at this
  have h2 : ((a.1.length : Int) = b.1.length) := by omega
  simp only [h2, decide_true, Bool.not_true, cond_false]
  rw [← h2, show ((0 : Int)) = ((0 : Nat) : Int) from rfl, this]
  cases he : boxIs a.1 b.1 <;> simp
 ·have h2 : ¬ ((a.1.length : Int) = b.1.length) := by omega
  simp [boxIs_ne hl, h2]
def boxParts (w : Int) (b : List PairD) (i : Int) (f : PairD → PairD × PairD × Bool) : List PairD × List PairD × Bool :=
 if boxOk w b = true ∧ 0 ≤ i ∧ i < b.length ∧ (f (b.getD i.toNat p0)).2.2 = true then (b.set i.toNat (f (b.getD i.toNat p0)).1, b.set i.toNat (f (b.getD i.toNat p0)).2.1, true) else ([], [], false)
theorem impl_clone_Pair_eq {α : Type} (N : Nat) (a : List PairD) (k : List PairD → Option α) (h : a.length ≤ 1048576) : impl_clone_impl_Pair N a k = k a := by
 rw [impl_clone_impl_Pair.eq]
 unfold impl_clone_impl_Pair.b slices_Clone_impl_Pair_impl_Pair
 have h1 : decide (([] : List PairD).length + a.length ≤ 8796093022208) = true := by simp; omega
 rw [h1]
 simp only [cond_true]
 rw [slices_Clip_impl_Pair_impl_Pair.eq]
 unfold slices_Clip_impl_Pair_impl_Pair.b
 simp [cast_nn]
theorem impl_Box_with_eq {α : Type} (N : Nat) (b : BoxD) (i : Nat) (p : PairD) (k : List PairD → Option α) (h : b.1.length ≤ 1048576) (hi : i < b.1.length) : impl_Box_with N b i p k = k (b.1.set i p) := by
 rw [impl_Box_with.eq]
 unfold impl_Box_with.b
 rw [impl_clone_Pair_eq _ _ _ h]
 simp only [cast_neg, cond_false, Int.toNat_natCast, decide_eq_true hi, cond_true, List.getElem?_eq_getElem hi]
theorem impl_BoxSplit_1_eq {α : Type} (N : Nat) (p : PairD) (w : Int) (k : PairD → PairD → Bool → Option α) : impl_BoxSplit_1 N p w k = k (pairSplit w p).1 (pairSplit w p).2.1 (pairSplit w p).2.2 := by
 rw [impl_BoxSplit_1.eq]
 unfold impl_BoxSplit_1.b
 rw [impl_PairSplit_eq]
theorem impl_BoxSplit_eq {α : Type} (N : Nat) (w : Int) (b : BoxD) (i : Int) (k : Bool → List PairD → List PairD → Option α) (hN : 1048576 < N) :
  impl_BoxSplit N w b i k = k (boxParts w b.1 i (pairSplit w)).2.2 (boxParts w b.1 i (pairSplit w)).1 (boxParts w b.1 i (pairSplit w)).2.1 := by
 rw [impl_BoxSplit.eq]
 unfold impl_BoxSplit.b
 rw [impl_Box_parts__impl_BoxSplit_1.eq]
 unfold impl_Box_parts__impl_BoxSplit_1.b boxParts
 rw [impl_BoxOk_eq _ _ _ _ hN]
 cases h : boxOk w b.1
 ·simp
 obtain ⟨h1, h2, _⟩ := boxOk_len h
 have hw : IntKind.i64.wrap ((b.1.length : Int) - 1) = (b.1.length : Int) - 1 := wrap_i64 (by omega) (by omega)
 simp only [Bool.not_true, cond_false, hw, impl_in_eq]
 by_cases hi : 0 ≤ i
 ·by_cases hi2 : i ≤ (b.1.length : Int) - 1
  ·obtain ⟨j, rfl⟩ : ∃ j : Nat, i = j := ⟨i.toNat, by omega⟩
   have hj : j < b.1.length := by omega
   have hj' : (j : Int) < (b.1.length : Int) := by omega
   have hg : b.1.getD j p0 = b.1[j] := by simp [List.getD, hj]
   simp only [hi, hi2, decide_true, Bool.and_self, Bool.not_true, cond_false, cast_neg, Int.toNat_natCast, List.getElem?_eq_getElem hj, impl_BoxSplit_1_eq, impl_Box_with_eq N b j _ _ (show b.1.length ≤ 1048576 by omega) hj, hg]
   cases he : (pairSplit w b.1[j]).2.2
   ·simp
   ·simp [hj]
  ·have : ¬ i < (b.1.length : Int) := by omega
   simp [hi, hi2, this]
 ·simp [hi]
end Go.Proofs.YtbaeipjjijdgiaaAm
