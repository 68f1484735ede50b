/-
  What the functions on boxes compute, in plain words: halves, parts, marks.
-/
import Derived.Test.YtlbihmicbncdiaaDoorB
namespace Go.Proofs.YtlbihmicbncdiaaDoorAm
open Go
set_option linter.unusedVariables false
set_option linter.unusedSimpArgs false

def pairIs (a b : PairD) : Bool := decide (b.1 ≤ a.1) && decide (a.2.1 ≤ b.2.1)
def boxIs : List PairD → List PairD → Bool
  | [], [] => true
  | a :: r, b :: s => pairIs a b && boxIs r s
  | _, _ => false
theorem boxIs_len : ∀ {a b : List PairD}, boxIs a b = true → a.length = b.length
  | [], [], _ => rfl
  | a :: r, b :: s, h => by
    simp only [boxIs, Bool.and_eq_true] at h
    simp [boxIs_len h.2]
  | [], _ :: _, h => by simp [boxIs] at h
  | _ :: _, [], h => by simp [boxIs] at h
theorem boxIs_ne {a b : List PairD} (h : a.length ≠ b.length) : boxIs a b = false := by
  cases e : boxIs a b
  · rfl
  · exact absurd (boxIs_len e) h
def halvedAny : List PairD → List PairD → Bool
  | a :: r, b :: s => (decide (0 < gapP a) && decide (gapP b ≤ (gapP a).tdiv 2)) || halvedAny r s
  | _, _ => false
def boxHalved (w : Int) (a b : List PairD) : Bool := boxOk w a && boxOk w b && boxIs b a && halvedAny a b
theorem half_wrap (p : PairD) : IntKind.u64.wrap ((gapP p).tdiv 2) = (gapP p).tdiv 2 := by
  have := gapP_nonneg p
  rw [Int.tdiv_eq_ediv_of_nonneg (by omega)]
  rw [wrap_u64 (by omega) (by omega)]
/-- Both parts of a box. -/
def boxParts (w : Int) (b : List PairD) (i : Int) (f : PairD → PairD × PairD × Bool) : List PairD × List PairD × Bool :=
  if boxOk w b = true ∧ 0 ≤ i ∧ i < b.length ∧ (f (b.getD i.toNat p0)).2.2 = true then (b.set i.toNat (f (b.getD i.toNat p0)).1, b.set i.toNat (f (b.getD i.toNat p0)).2.1, true) else ([], [], false)
theorem boxParts_len (w : Int) (b : List PairD) (i : Int) (f : PairD → PairD × PairD × Bool) : (boxParts w b i f).1.length ≤ 6 ∧ (boxParts w b i f).2.1.length ≤ 6 := by
  unfold boxParts
  split
  · rename_i h
    have := (boxOk_len h.1).2.1
    simp only [List.length_set]; omega
  · simp
/-- A list marked with numbers from k on. -/
def marked : Int → List PairD → List PairD
  | _, [] => []
  | k, _ :: r => (k, k + 1, ()) :: marked (k + 2) r
theorem marked_len : ∀ (k : Int) (a : List PairD), (marked k a).length = a.length
  | _, [] => rfl
  | k, _ :: r => by simp [marked, marked_len]
end Go.Proofs.YtlbihmicbncdiaaDoorAm
