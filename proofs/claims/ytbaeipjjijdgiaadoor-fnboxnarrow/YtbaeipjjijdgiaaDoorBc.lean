/-
  From narrow floats to wide ones and back: what both texts compute; pairs and boxes; the laws.
-/
import Derived.Test.YtbaeipjjijdgiaaDoorBb
import Derived.Test.YtbaeipjjijdgiaaDoorC
namespace Go.Proofs.YtbaeipjjijdgiaaDoorAm
open Go
set_option linter.unusedVariables false
set_option linter.unusedSimpArgs false

theorem partOf_size (w o : Int) : 0 ≤ (partOf w o).1.2.1 ∧ (partOf w o).1.2.1 < 18446744073709551616 := by
  obtain ⟨g1, g2, g3, g4, g5⟩ := frac_great w
  have hp := pow_le_52 g2
  have hp0 : 0 < 2 ^ fracB w := Nat.pow_pos (by omega)
  have hmod : o.natAbs % 2 ^ fracB w < 2 ^ fracB w := Nat.mod_lt _ hp0
  unfold partOf
  generalize o.natAbs % 2 ^ fracB w = f at *
  split
  · split
    · simp only; omega
    · simp only; omega
  · simp only; omega
/-- The wide float with the value of a narrow one. -/
def widenP (o : Int) : Int := if (partOf 32 o).2 = true then (bitMake 64 (partOf 32 o).1).1 else if o < 0 then -top 64 else top 64
theorem impl_widen_eq {α : Type} (N : Nat) (o : Int) (k : Int → Option α) : impl_widen N o k = k (widenP o) := by
  obtain ⟨s0, s1⟩ := partOf_size 32 o
  rw [impl_widen.eq]
  unfold impl_widen.b widenP
  simp only [impl_BitPartOf_eq, impl_BitMake_eq N 64 _ _ s0 s1, impl_BitTop_eq, wrap_neg_top]
  cases h : (partOf 32 o).2
  · by_cases h1 : o < 0 <;> simp [h1]
  · simp
theorem spec_BitWiden_eq {α : Type} (N : Nat) (o : Int) (k : Int → Bool → Option α) (hN : 1048576 < N) : ∃ b, spec_BitWiden N o k = k (if bitOk 32 o = true then widenP o else 0) b := by
  obtain ⟨s0, s1⟩ := partOf_size 32 o
  rw [spec_BitWiden.eq]
  unfold spec_BitWiden.b widenP
  simp only [spec_BitOk_eq, spec_BitPartOf_eq, spec_BitMake_eq N 64 _ _ s0 s1 hN, spec_BitTop_eq, wrap_neg_top]
  cases hb : bitOk 32 o
  · exact ⟨false, by simp⟩
  cases h : (partOf 32 o).2
  · by_cases h1 : o < 0
    · exact ⟨true, by simp [h1]⟩
    · exact ⟨true, by simp [h1]⟩
  · exact ⟨_, by simp; rfl⟩
theorem ok32 {m : Int} (h0 : -2139095040 ≤ m) (h1 : m ≤ 2139095040) : bitOk 32 m = true := by
  simp only [bitOk, Bool.and_eq_true, decide_eq_true_eq, show top 32 = 2139095040 from rfl]
  exact ⟨⟨by simp, by omega⟩, by omega⟩
/-- The greatest narrow float in a range that is not above a wide one. -/
def belowF (x : Int) : Nat → Int → Int → Int
  | 0, lo, _ => lo
  | n + 1, lo, hi => if lo < hi then (if widenP (lo + (hi - lo + 1) / 2) ≤ x then belowF x n (lo + (hi - lo + 1) / 2) hi else belowF x n lo (lo + (hi - lo + 1) / 2 - 1)) else lo
theorem impl_BitBelow_loop {α : Type} (N : Nat) (x : Int) (k : Int → Option α) : ∀ (n : Nat) (lo hi : Int), -2139095040 ≤ lo → hi ≤ 2139095040 → lo ≤ 2139095040 → -2139095041 ≤ hi → hi - lo < n → 0 < n → impl_BitBelow_L0 N n x lo hi k = k (belowF x n lo hi) := by
  intro n
  induction n with
  | zero => intro lo hi _ _ _ _ _ h; omega
  | succ n ih =>
    intro lo hi h0 h1 h2 h3 h4 _
    rw [impl_BitBelow_L0.succ]
    unfold impl_BitBelow_L0r
    rw [belowF]
    by_cases h : lo < hi
    · have w1 : IntKind.i64.wrap (hi - lo) = hi - lo := wrap_i64 (by omega) (by omega)
      have w0 : IntKind.i64.wrap (hi - lo + 1) = hi - lo + 1 := wrap_i64 (by omega) (by omega)
      have t1 : Int.tdiv (hi - lo + 1) 2 = (hi - lo + 1) / 2 := Int.tdiv_eq_ediv_of_nonneg (by omega)
      have w2 : IntKind.i64.wrap ((hi - lo + 1) / 2) = (hi - lo + 1) / 2 := wrap_i64 (by omega) (by omega)
      have w3 : IntKind.i64.wrap (lo + (hi - lo + 1) / 2) = lo + (hi - lo + 1) / 2 := wrap_i64 (by omega) (by omega)
      simp only [h, decide_true, cond_true, w1, w0, t1, w2, w3, if_true]
      rw [impl_BitBelow_J6.eq]
      unfold impl_BitBelow_J6.b
      have w4 : IntKind.i64.wrap (lo + (hi - lo + 1) / 2 - 1) = lo + (hi - lo + 1) / 2 - 1 := wrap_i64 (by omega) (by omega)
      simp only [impl_widen_eq, w4]
      by_cases hc : widenP (lo + (hi - lo + 1) / 2) ≤ x
      · simp only [hc, decide_true, cond_true, if_true]
        exact ih _ _ (by omega) (by omega) (by omega) (by omega) (by omega) (by omega)
      · simp only [hc, decide_false, cond_false, if_false]
        exact ih _ _ (by omega) (by omega) (by omega) (by omega) (by omega) (by omega)
    · simp only [h, decide_false, cond_false, if_false]
def bitBelow (N : Nat) (x : Int) : Int × Bool := if bitOk 64 x = true then (belowF x N (-2139095040) 2139095040, true) else (0, false)
def bitAbove (N : Nat) (x : Int) : Int × Bool := (IntKind.i64.wrap (0 - (bitBelow N (IntKind.i64.wrap (0 - x))).1), (bitBelow N (IntKind.i64.wrap (0 - x))).2)
theorem impl_BitBelow_eq {α : Type} (N : Nat) (x : Int) (k : Int → Bool → Option α) (hN : 1099511627776 < N) : impl_BitBelow N x k = k (bitBelow N x).1 (bitBelow N x).2 := by
  rw [impl_BitBelow.eq]
  unfold impl_BitBelow.b bitBelow
  have hw : IntKind.i64.wrap (0 - 2139095040) = -2139095040 := by rw [wrap_i64 (by omega) (by omega)]; omega
  simp only [impl_BitOk_eq, impl_BitTop_eq, show top 32 = 2139095040 from rfl, hw]
  cases h : bitOk 64 x
  · simp
  simp only [Bool.not_true, cond_false, if_true]
  exact impl_BitBelow_loop N x (fun y => k y true) N _ _ (by omega) (by omega) (by omega) (by omega) (by omega) (by omega)
theorem impl_BitAbove_eq {α : Type} (N : Nat) (x : Int) (k : Int → Bool → Option α) (hN : 1099511627776 < N) : impl_BitAbove N x k = k (bitAbove N x).1 (bitAbove N x).2 := by
  rw [impl_BitAbove.eq]
  unfold impl_BitAbove.b bitAbove
  simp only [impl_BitBelow_eq N _ _ hN]
def pairLess (N : Nat) (p : PairD) : PairD × Bool := if pairOk 64 p = true then (((bitBelow N p.1).1, (bitAbove N p.2.1).1, ()), true) else (p0, false)
def pairMore (p : PairD) : PairD × Bool := if pairOk 32 p = true then ((widenP p.1, widenP p.2.1, ()), true) else (p0, false)
theorem impl_PairLess_eq {α : Type} (N : Nat) (p : PairD) (k : PairD → Bool → Option α) (hN : 1099511627776 < N) : impl_PairLess N p k = k (pairLess N p).1 (pairLess N p).2 := by
  rw [impl_PairLess.eq]
  unfold impl_PairLess.b pairLess p0
  simp only [impl_PairOk_eq, impl_BitBelow_eq N _ _ hN, impl_BitAbove_eq N _ _ hN]
  cases h : pairOk 64 p <;> simp
theorem pairOk_32 {p : PairD} (h : pairOk 32 p = true) : bitOk 32 p.1 = true ∧ bitOk 32 p.2.1 = true := by
  simp only [pairOk, Bool.and_eq_true] at h
  exact ⟨h.1.1.1.1, h.1.1.1.2⟩
theorem impl_PairMore_eq {α : Type} (N : Nat) (p : PairD) (k : PairD → Bool → Option α) : impl_PairMore N p k = k (pairMore p).1 (pairMore p).2 := by
  rw [impl_PairMore.eq]
  unfold impl_PairMore.b pairMore p0
  simp only [impl_PairOk_eq, impl_widen_eq]
  cases h : pairOk 32 p <;> simp
theorem take_map_snoc {f : PairD → PairD} {a : List PairD} {i : Nat} (hi : i < a.length) : (a.take i).map f ++ [f a[i]] = (a.take (i + 1)).map f := by
  rw [List.take_succ_eq_append_getElem hi, List.map_append]; rfl
theorem set_map {f : PairD → PairD} {a : List PairD} {i d : Nat} (hi : i < a.length) (q : PairD) : ((a.take i).map f ++ List.replicate (d + 1) q).set i (f a[i]) = (a.take (i + 1)).map f ++ List.replicate d q := by
  have hl : ((a.take i).map f).length = i := by simp; omega
  rw [List.set_append_right _ _ (by omega), hl, Nat.sub_self, List.replicate_succ, List.set_cons_zero, ← take_map_snoc hi, List.append_assoc]; rfl
def boxLess (N : Nat) (b : List PairD) : Bool × List PairD := if boxOk 64 b = true then (true, b.map fun p => (pairLess N p).1) else (false, [])
theorem boxLess_len (N : Nat) (b : List PairD) : (boxLess N b).2.length ≤ 6 := by
  unfold boxLess
  split
  · rename_i h; obtain ⟨_, h2, _⟩ := boxOk_len h; simpa using h2
  · simp
theorem impl_mappedLess_loop {α : Type} (N : Nat) (a : List PairD) (u : List PairD) (hb : a.length ≤ 1048576) (hN : 1099511627776 < N) (k : List PairD → List PairD → Option α) : ∀ (d i n : Nat), i + d = a.length → d < n →
    impl_Box_mapped__impl_PairLess_L0 N n a (a.length : Int) (i : Int) u ((a.take i).map (fun p => (pairLess N p).1) ++ List.replicate d (0, 0, ())) k = k u (a.map fun p => (pairLess N p).1) := by
  intro d
  induction d with
  | zero =>
    intro i n h hn
    obtain ⟨m, rfl⟩ : ∃ m, n = m + 1 := ⟨n - 1, by omega⟩
    rw [impl_Box_mapped__impl_PairLess_L0.succ]
    unfold impl_Box_mapped__impl_PairLess_L0r
    simp only [cast_nlt (show ¬ i < a.length by omega), cond_false]
    rw [List.take_of_length_le (by omega)]; simp
  | succ d ih =>
    intro i n h hn
    obtain ⟨m, rfl⟩ : ∃ m, n = m + 1 := ⟨n - 1, by omega⟩
    have hi : i < a.length := by omega
    have hi2 : i < ((a.take i).map (fun p => (pairLess N p).1) ++ List.replicate (d + 1) (((0 : Int), (0 : Int), ()) : PairD)).length := by simp; omega
    rw [impl_Box_mapped__impl_PairLess_L0.succ]
    unfold impl_Box_mapped__impl_PairLess_L0r
    simp only [cast_lt hi, cast_neg, cond_true, cond_false, Int.toNat_natCast, List.getElem?_eq_getElem hi, impl_PairLess_eq N _ _ hN, decide_eq_true hi2, List.getElem?_eq_getElem hi2, succ_i (show i < 4611686018427387904 by omega)]
    rw [set_map (f := fun p => (pairLess N p).1) hi]
    exact ih (i + 1) m (by omega) (by omega)
theorem impl_BoxLess_eq {α : Type} (N : Nat) (b : BoxD) (k : Bool → List PairD → Option α) (hN : 1099511627776 < N) : impl_BoxLess N b k = k (boxLess N b.1).1 (boxLess N b.1).2 := by
  rw [impl_BoxLess.eq]
  unfold impl_BoxLess.b boxLess
  simp only [impl_BoxOk_eq N _ _ _ (show 1048576 < N by omega)]
  cases h : boxOk 64 b.1
  · simp
  obtain ⟨_, h2, _⟩ := boxOk_len h
  rw [impl_Box_mapped__impl_PairLess.eq]
  unfold impl_Box_mapped__impl_PairLess.b
  have := impl_mappedLess_loop N b.1 [] (by omega) hN (fun _ x => k true x) b.1.length 0 N (by omega) (by omega)
  have c1 : ((b.1.length : Nat) : Int) ≤ ((8796093022208 : Nat) : Int) := by omega
  simp only [Bool.not_true, cond_false, cast_nn, cond_true, Int.le_refl, decide_true, c1, Int.toNat_natCast, if_true]
  exact this
def boxMore (b : List PairD) : Bool × List PairD := if boxOk 32 b = true then (true, b.map fun p => (pairMore p).1) else (false, [])
theorem boxMore_len (b : List PairD) : (boxMore b).2.length ≤ 6 := by
  unfold boxMore
  split
  · rename_i h; obtain ⟨_, h2, _⟩ := boxOk_len h; simpa using h2
  · simp
theorem impl_mappedMore_loop {α : Type} (N : Nat) (a : List PairD) (u : List PairD) (hb : a.length ≤ 1048576) (hN : 1099511627776 < N) (k : List PairD → List PairD → Option α) : ∀ (d i n : Nat), i + d = a.length → d < n →
    impl_Box_mapped__impl_PairMore_L0 N n a (a.length : Int) (i : Int) u ((a.take i).map (fun p => (pairMore p).1) ++ List.replicate d (0, 0, ())) k = k u (a.map fun p => (pairMore p).1) := by
  intro d
  induction d with
  | zero =>
    intro i n h hn
    obtain ⟨m, rfl⟩ : ∃ m, n = m + 1 := ⟨n - 1, by omega⟩
    rw [impl_Box_mapped__impl_PairMore_L0.succ]
    unfold impl_Box_mapped__impl_PairMore_L0r
    simp only [cast_nlt (show ¬ i < a.length by omega), cond_false]
    rw [List.take_of_length_le (by omega)]; simp
  | succ d ih =>
    intro i n h hn
    obtain ⟨m, rfl⟩ : ∃ m, n = m + 1 := ⟨n - 1, by omega⟩
    have hi : i < a.length := by omega
    have hi2 : i < ((a.take i).map (fun p => (pairMore p).1) ++ List.replicate (d + 1) (((0 : Int), (0 : Int), ()) : PairD)).length := by simp; omega
    rw [impl_Box_mapped__impl_PairMore_L0.succ]
    unfold impl_Box_mapped__impl_PairMore_L0r
    simp only [cast_lt hi, cast_neg, cond_true, cond_false, Int.toNat_natCast, List.getElem?_eq_getElem hi, impl_PairMore_eq, decide_eq_true hi2, List.getElem?_eq_getElem hi2, succ_i (show i < 4611686018427387904 by omega)]
    rw [set_map (f := fun p => (pairMore p).1) hi]
    exact ih (i + 1) m (by omega) (by omega)
theorem impl_BoxMore_eq {α : Type} (N : Nat) (b : BoxD) (k : Bool → List PairD → Option α) (hN : 1099511627776 < N) : impl_BoxMore N b k = k (boxMore b.1).1 (boxMore b.1).2 := by
  rw [impl_BoxMore.eq]
  unfold impl_BoxMore.b boxMore
  simp only [impl_BoxOk_eq N _ _ _ (show 1048576 < N by omega)]
  cases h : boxOk 32 b.1
  · simp
  obtain ⟨_, h2, _⟩ := boxOk_len h
  rw [impl_Box_mapped__impl_PairMore.eq]
  unfold impl_Box_mapped__impl_PairMore.b
  have := impl_mappedMore_loop N b.1 [] (by omega) hN (fun _ x => k true x) b.1.length 0 N (by omega) (by omega)
  have c1 : ((b.1.length : Nat) : Int) ≤ ((8796093022208 : Nat) : Int) := by omega
  simp only [Bool.not_true, cond_false, cast_nn, cond_true, Int.le_refl, decide_true, c1, Int.toNat_natCast, if_true]
  exact this
end Go.Proofs.YtbaeipjjijdgiaaDoorAm
