/-
  From narrow floats to wide ones and back: what both texts compute; pairs and boxes; the laws.
-/
import Derived.Test.YtbaeipjjijdgiaaBb
import Derived.Test.YtbaeipjjijdgiaaC
namespace Go.Proofs.YtbaeipjjijdgiaaAm
open Go
set_option linter.unusedVariables false
set_option linter.unusedSimpArgs false

theorem partOf_size (w o : Int) : 0 ≤ (partOf w o).1.2.1 ∧ (partOf w o).1.2.1 < 18446744073709551616 := by
  obtain ⟨g1, g2, g3, g4, g5⟩ := frac_great w
  have hp := pow_le_52 g2
  have hp0 : 0 < 2 ^ fracB w := Nat.pow_pos (by omega)
  have hmod : o.natAbs % 2 ^ fracB w < 2 ^ fracB w := Nat.mod_lt _ hp0
  unfold partOf
  generalize o.natAbs % 2 ^ fracB w = f at *
  split
  · split
    · simp only; omega
    · simp only; omega
  · simp only; omega
/-- The wide float with the value of a narrow one. -/
def widenP (o : Int) : Int := if (partOf 32 o).2 = true then (bitMake 64 (partOf 32 o).1).1 else if o < 0 then -top 64 else top 64
theorem ok32 {m : Int} (h0 : -2139095040 ≤ m) (h1 : m ≤ 2139095040) : bitOk 32 m = true := by
  simp only [bitOk, Bool.and_eq_true, decide_eq_true_eq, show top 32 = 2139095040 from rfl]
  exact ⟨⟨by simp, by omega⟩, by omega⟩
/-- The greatest narrow float in a range that is not above a wide one. -/
def belowF (x : Int) : Nat → Int → Int → Int
  | 0, lo, _ => lo
  | n + 1, lo, hi => if lo < hi then (if widenP (lo + (hi - lo + 1) / 2) ≤ x then belowF x n (lo + (hi - lo + 1) / 2) hi else belowF x n lo (lo + (hi - lo + 1) / 2 - 1)) else lo
def bitBelow (N : Nat) (x : Int) : Int × Bool := if bitOk 64 x = true then (belowF x N (-2139095040) 2139095040, true) else (0, false)
def bitAbove (N : Nat) (x : Int) : Int × Bool := (IntKind.i64.wrap (0 - (bitBelow N (IntKind.i64.wrap (0 - x))).1), (bitBelow N (IntKind.i64.wrap (0 - x))).2)
def pairLess (N : Nat) (p : PairD) : PairD × Bool := if pairOk 64 p = true then (((bitBelow N p.1).1, (bitAbove N p.2.1).1, ()), true) else (p0, false)
def pairMore (p : PairD) : PairD × Bool := if pairOk 32 p = true then ((widenP p.1, widenP p.2.1, ()), true) else (p0, false)
theorem pairOk_32 {p : PairD} (h : pairOk 32 p = true) : bitOk 32 p.1 = true ∧ bitOk 32 p.2.1 = true := by
  simp only [pairOk, Bool.and_eq_true] at h
  exact ⟨h.1.1.1.1, h.1.1.1.2⟩
theorem take_map_snoc {f : PairD → PairD} {a : List PairD} {i : Nat} (hi : i < a.length) : (a.take i).map f ++ [f a[i]] = (a.take (i + 1)).map f := by
  rw [List.take_succ_eq_append_getElem hi, List.map_append]; rfl
theorem set_map {f : PairD → PairD} {a : List PairD} {i d : Nat} (hi : i < a.length) (q : PairD) : ((a.take i).map f ++ List.replicate (d + 1) q).set i (f a[i]) = (a.take (i + 1)).map f ++ List.replicate d q := by
  have hl : ((a.take i).map f).length = i := by simp; omega
  rw [List.set_append_right _ _ (by omega), hl, Nat.sub_self, List.replicate_succ, List.set_cons_zero, ← take_map_snoc hi, List.append_assoc]; rfl
def boxLess (N : Nat) (b : List PairD) : Bool × List PairD := if boxOk 64 b = true then (true, b.map fun p => (pairLess N p).1) else (false, [])
theorem boxLess_len (N : Nat) (b : List PairD) : (boxLess N b).2.length ≤ 6 := by
  unfold boxLess
  split
  · rename_i h; obtain ⟨_, h2, _⟩ := boxOk_len h; simpa using h2
  · simp
def boxMore (b : List PairD) : Bool × List PairD := if boxOk 32 b = true then (true, b.map fun p => (pairMore p).1) else (false, [])
theorem boxMore_len (b : List PairD) : (boxMore b).2.length ≤ 6 := by
  unfold boxMore
  split
  · rename_i h; obtain ⟨_, h2, _⟩ := boxOk_len h; simpa using h2
  · simp
end Go.Proofs.YtbaeipjjijdgiaaAm
