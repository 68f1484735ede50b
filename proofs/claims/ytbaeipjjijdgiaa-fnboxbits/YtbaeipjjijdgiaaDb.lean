/-
  Boxes from patterns, and patterns from boxes; the law.
-/
import Derived.Test.YtbaeipjjijdgiaaDa
namespace Go.Proofs.YtbaeipjjijdgiaaAm
open Go
set_option linter.unusedVariables false
set_option linter.unusedSimpArgs false

def bits2 (w : Int) (p : PairD) : List Int := [bitBits w p.1, bitBits w p.2.1]
def boxBits (w : Int) (b : List PairD) : List Int := if boxOk w b = true then b.flatMap (bits2 w) else []
def ordN (w : Int) (l : List Int) (i : Nat) : Int := (bitOrd w (l[i]?.getD 0)).1
def ordP (w : Int) (l : List Int) (j : Nat) : PairD := (ordN w l (2 * j), (ordN w l (2 * j + 1), ()))
def boxPairs (w : Int) (l : List Int) : List PairD := (List.range (l.length / 2)).map (ordP w l)
def boxOf (w : Int) (l : List Int) : Int × List PairD :=
  if ¬ (w = 32 ∨ w = 64) ∨ l.length < 2 ∨ 12 < l.length ∨ l.length % 2 = 1 then (1, [])
  else if (l.all fun x => (bitOrd w x).2) = true then (if boxOk w (boxPairs w l) = true then (0, boxPairs w l) else (3, []))
  else (2, [])
def U64s (l : List Int) : Prop := ∀ x ∈ l, 0 ≤ x ∧ x < 18446744073709551616
theorem ordN_at {w : Int} {l : List Int} {i : Nat} (h : i < l.length) : ordN w l i = (bitOrd w l[i]).1 := by
  unfold ordN; rw [List.getElem?_eq_getElem h]; rfl
theorem flat_len (w : Int) : ∀ b : List PairD, (b.flatMap (bits2 w)).length = 2 * b.length
  | [] => rfl
  | p :: r => by
    have := flat_len w r
    simp only [List.flatMap_cons, List.length_append, this, bits2, List.length_cons, List.length_nil]; omega
theorem flat_u64 (w : Int) (b : List PairD) : U64s (b.flatMap (bits2 w)) := by
  intro x hx
  obtain ⟨p, _, hp⟩ := List.mem_flatMap.1 hx
  simp only [bits2, List.mem_cons, List.not_mem_nil, or_false] at hp
  rcases hp with rfl | rfl
  · exact bitBits_range _ _
  · exact bitBits_range _ _
theorem boxBits_u64 (w : Int) (b : List PairD) : U64s (boxBits w b) := by
  unfold boxBits
  split
  · exact flat_u64 w b
  · intro x hx; cases hx
theorem boxBits_len (w : Int) (b : List PairD) : (boxBits w b).length ≤ 12 := by
  unfold boxBits
  split
  · next h => have := boxOk_len h; rw [flat_len]; omega
  · simp
theorem boxPairs_cons (w x y : Int) (r : List Int) : boxPairs w (x :: y :: r) = ((bitOrd w x).1, ((bitOrd w y).1, ())) :: boxPairs w r := by
  unfold boxPairs
  have e : (x :: y :: r).length / 2 = r.length / 2 + 1 := by simp only [List.length_cons]; omega
  rw [e, List.range_succ_eq_map, List.map_cons, List.map_map]
  rfl
theorem boxPairs_bits {w : Int} : ∀ {b : List PairD}, (∀ p ∈ b, pairOk w p = true) → boxPairs w (b.flatMap (bits2 w)) = b
  | [], _ => by simp [boxPairs]
  | p :: r, h => by
    have h1 := h p (List.mem_cons_self ..)
    simp only [pairOk, Bool.and_eq_true] at h1
    have ih := boxPairs_bits (w := w) (b := r) fun q hq => h q (List.mem_cons_of_mem _ hq)
    rw [List.flatMap_cons]
    show boxPairs w (bitBits w p.1 :: bitBits w p.2.1 :: r.flatMap (bits2 w)) = _
    rw [boxPairs_cons, ih, bitOrd_bits h1.1.1.1.1, bitOrd_bits h1.1.1.1.2]
theorem boxOf_bits {w : Int} {b : List PairD} (h : boxOk w b = true) : boxOf w (boxBits w b) = (0, b) := by
  obtain ⟨h1, h2, h3⟩ := boxOk_len h
  have hw : w = 32 ∨ w = 64 := by
    cases b with
    | nil => simp at h1
    | cons p r => exact (pairOk_ok (h3 p (List.mem_cons_self ..))).1
  have hp := boxPairs_bits h3
  have hl := flat_len w b
  have ha : ((b.flatMap (bits2 w)).all fun x => (bitOrd w x).2) = true := by
    rw [List.all_eq_true]
    intro x hx
    obtain ⟨p, hm, hq⟩ := List.mem_flatMap.1 hx
    have h4 := h3 p hm
    simp only [pairOk, Bool.and_eq_true] at h4
    simp only [bits2, List.mem_cons, List.not_mem_nil, or_false] at hq
    rcases hq with rfl | rfl
    · rw [bitOrd_bits h4.1.1.1.1]
    · rw [bitOrd_bits h4.1.1.1.2]
  unfold boxOf boxBits
  rw [if_pos h, if_neg (by omega), if_pos ha, hp, if_pos h]
theorem boxOf_none {w : Int} {l : List Int} (h : (boxOf w l).1 ≠ 0) : (boxOf w l).2 = [] := by
  unfold boxOf at *
  split
  · rfl
  · split
    · split
      · next h1 h2 h3 => rw [if_neg h1, if_pos h2, if_pos h3] at h; exact absurd rfl h
      · rfl
    · rfl
theorem boxOf_some {w : Int} {l : List Int} (h : (boxOf w l).1 = 0) : (boxOf w l).2 = boxPairs w l ∧ (l.all fun x => (bitOrd w x).2) = true ∧ l.length % 2 = 0 ∧ l.length ≤ 12 := by
  unfold boxOf at *
  split
  · next h1 => rw [if_pos h1] at h; simp at h
  · next h1 =>
    rw [if_neg h1] at h
    split
    · next h2 =>
      rw [if_pos h2] at h
      split
      · exact ⟨rfl, h2, by omega, by omega⟩
      · next h3 => rw [if_neg h3] at h; simp at h
    · next h2 => rw [if_neg h2] at h; simp at h
theorem set_range {f : Nat → PairD} {j d : Nat} (q : PairD) : ((List.range j).map f ++ List.replicate (d + 1) q).set j (f j) = (List.range (j + 1)).map f ++ List.replicate d q := by
  have hl : ((List.range j).map f).length = j := by simp
  rw [List.set_append_right _ _ (by omega), hl, Nat.sub_self, List.replicate_succ, List.set_cons_zero, List.range_succ, List.map_append, List.append_assoc]; rfl
theorem tdiv2 (i : Nat) : Int.tdiv (i : Int) 2 = ((i / 2 : Nat) : Int) := rfl
theorem tmod2 (i : Nat) : Int.tmod (i : Int) 2 = ((i % 2 : Nat) : Int) := rfl
theorem spec_BoxBits_loop {α : Type} (N : Nat) (w : Int) (b : BoxD) (hb : b.1.length ≤ 1048576) (k : List Int → Option α) : ∀ (d i n : Nat), i + d = b.1.length → d < n →
    spec_BoxBits_L0 N n w (i : Int) b ((b.1.take i).flatMap (bits2 w)) k = k (b.1.flatMap (bits2 w)) := by
  intro d
  induction d with
  | zero =>
    intro i n h hn
    obtain ⟨m, rfl⟩ : ∃ m, n = m + 1 := ⟨n - 1, by omega⟩
    rw [spec_BoxBits_L0.succ]
    unfold spec_BoxBits_L0r
    simp only [cast_nlt (show ¬ i < b.1.length by omega), cond_false]
    rw [List.take_of_length_le (by omega)]
  | succ d ih =>
    intro i n h hn
    obtain ⟨m, rfl⟩ : ∃ m, n = m + 1 := ⟨n - 1, by omega⟩
    have hi : i < b.1.length := by omega
    have hlen : ∀ x y : Int, decide (((b.1.take i).flatMap (bits2 w)).length + [x, y].length ≤ 8796093022208) = true := fun x y => by
      rw [flat_len]; simp; omega
    rw [spec_BoxBits_L0.succ]
    unfold spec_BoxBits_L0r
    simp only [cast_lt hi, cast_neg, cond_true, cond_false, Int.toNat_natCast, List.getElem?_eq_getElem hi, spec_BitBits_eq, hlen, succ_i (show i < 4611686018427387904 by omega)]
    have := ih (i + 1) m (by omega) (by omega)
    rw [List.take_succ_eq_append_getElem hi, List.flatMap_append] at this
    simpa [bits2] using this
theorem spec_BoxBits_eq {α : Type} (N : Nat) (w : Int) (b : BoxD) (k : List Int → Option α) (hb : b.1.length ≤ 1048576) (hN : 1048576 < N) : spec_BoxBits N w b k = k (boxBits w b.1) := by
  rw [spec_BoxBits.eq]
  unfold spec_BoxBits.b boxBits
  simp only [spec_BoxOk_eq N w b _ hN]
  by_cases h : boxOk w b.1 = true
  · simp only [h, Bool.not_true, cond_false, if_true]
    have := spec_BoxBits_loop N w b hb (fun x => k x) b.1.length 0 N (by omega) (by omega)
    exact this
  · simp [h]
theorem impl_BoxBits_loop {α : Type} (N : Nat) (w : Int) (b : List PairD) (hb : b.length ≤ 1048576) (k : List Int → Option α) : ∀ (d i n : Nat), i + d = b.length → d < n →
    impl_BoxBits_L0 N n w b ((b.length : Nat) : Int) (i : Int) ((b.take i).flatMap (bits2 w)) k = k (b.flatMap (bits2 w)) := by
  intro d
  induction d with
  | zero =>
    intro i n h hn
    obtain ⟨m, rfl⟩ : ∃ m, n = m + 1 := ⟨n - 1, by omega⟩
    rw [impl_BoxBits_L0.succ]
    unfold impl_BoxBits_L0r
    simp only [cast_nlt (show ¬ i < b.length by omega), cond_false]
    rw [List.take_of_length_le (by omega)]
  | succ d ih =>
    intro i n h hn
    obtain ⟨m, rfl⟩ : ∃ m, n = m + 1 := ⟨n - 1, by omega⟩
    have hi : i < b.length := by omega
    have hlen : ∀ x y : Int, decide (((b.take i).flatMap (bits2 w)).length + [x, y].length ≤ 8796093022208) = true := fun x y => by
      rw [flat_len]; simp; omega
    rw [impl_BoxBits_L0.succ]
    unfold impl_BoxBits_L0r
    simp only [cast_lt hi, cast_neg, cond_true, cond_false, Int.toNat_natCast, List.getElem?_eq_getElem hi, impl_BitBits_eq, hlen, succ_i (show i < 4611686018427387904 by omega)]
    have := ih (i + 1) m (by omega) (by omega)
    rw [List.take_succ_eq_append_getElem hi, List.flatMap_append] at this
    simpa [bits2] using this
theorem impl_BoxBits_eq {α : Type} (N : Nat) (w : Int) (b : BoxD) (k : List Int → Option α) (hb : b.1.length ≤ 1048576) (hN : 1048576 < N) : impl_BoxBits N w b k = k (boxBits w b.1) := by
  rw [impl_BoxBits.eq]
  unfold impl_BoxBits.b boxBits
  simp only [impl_BoxOk_eq N w b _ hN]
  by_cases h : boxOk w b.1 = true
  · have w1 : IntKind.i64.wrap ((2 : Int) * ((b.1.length : Nat) : Int)) = ((2 * b.1.length : Nat) : Int) := by rw [wrap_i64 (by omega) (by omega)]; omega
    have c : ((2 * b.1.length : Nat) : Int) ≤ ((8796093022208 : Nat) : Int) := by omega
    simp only [h, Bool.not_true, cond_false, if_true, w1, cast_nn, cond_true, decide_eq_true c, List.replicate_zero]
    have := impl_BoxBits_loop N w b.1 hb (fun x => k x) b.1.length 0 N (by omega) (by omega)
    exact this
  · simp [h]
theorem spec_BoxOf_loop {α : Type} (N : Nat) (w : Int) (l : List Int) (u : List PairD) (m : Nat) (hm : l.length = 2 * m) (hb : m ≤ 1000) (hl : U64s l) (k0 : Int → List PairD → Option α) (k1 : Int → List PairD → List PairD → Option α) : ∀ (d j n : Nat), j + d = m → d < n →
    spec_BoxOf_L0 N n w l ((2 * j : Nat) : Int) u ((List.range j).map (ordP w l)) k0 k1 = if ((l.drop (2 * j)).all fun x => (bitOrd w x).2) = true then k1 w u (boxPairs w l) else k0 2 [] := by
  intro d
  induction d with
  | zero =>
    intro j n h hn
    obtain ⟨n, rfl⟩ : ∃ m, n = m + 1 := ⟨n - 1, by omega⟩
    rw [spec_BoxOf_L0.succ]
    unfold spec_BoxOf_L0r boxPairs
    have e : l.length / 2 = j := by omega
    simp only [cast_nlt (show ¬ 2 * j < l.length by omega), cond_false, List.drop_of_length_le (show l.length ≤ 2 * j by omega), List.all_nil, if_true, e]
  | succ d ih =>
    intro j n h hn
    obtain ⟨n, rfl⟩ : ∃ m, n = m + 1 := ⟨n - 1, by omega⟩
    have h1 : 2 * j < l.length := by omega
    have h2 : 2 * j + 1 < l.length := by omega
    have r1 := hl _ (List.getElem_mem h1)
    have r2 := hl _ (List.getElem_mem h2)
    have w1 : IntKind.i64.wrap (((2 * j : Nat) : Int) + 1) = ((2 * j + 1 : Nat) : Int) := succ_i (by omega)
    have w2 : IntKind.i64.wrap (((2 * j : Nat) : Int) + 2) = ((2 * (j + 1) : Nat) : Int) := by rw [wrap_i64 (by omega) (by omega)]; omega
    have hlen : ∀ q : PairD, decide (((List.range j).map (ordP w l)).length + [q].length ≤ 8796093022208) = true := fun q => by simp; omega
    have e1 : l.drop (2 * j) = l[2 * j] :: l[2 * j + 1] :: l.drop (2 * (j + 1)) := by
      rw [List.drop_eq_getElem_cons h1, List.drop_eq_getElem_cons h2]; rfl
    rw [spec_BoxOf_L0.succ]
    unfold spec_BoxOf_L0r
    simp only [cast_lt h1, cast_neg, cond_true, cond_false, Int.toNat_natCast, List.getElem?_eq_getElem h1, w1, List.getElem?_eq_getElem h2, spec_BitOrd_eq N w _ _ r1.1 r1.2, spec_BitOrd_eq N w _ _ r2.1 r2.2, hlen, w2, e1, List.all_cons]
    cases b1 : (bitOrd w l[2 * j]).2
    · simp
    cases b2 : (bitOrd w l[2 * j + 1]).2
    · simp
    simp only [Bool.not_true, cond_false, Bool.true_and]
    have := ih (j + 1) n (by omega) (by omega)
    rw [List.range_succ, List.map_append] at this
    rw [← ordN_at h1, ← ordN_at h2]
    exact this
theorem spec_BoxOf_eq {α : Type} (N : Nat) (w : Int) (l : List Int) (k : Int → List PairD → Option α) (hl : U64s l) (hN : 1048576 < N) : spec_BoxOf N w l k = k (boxOf w l).1 (boxOf w l).2 := by
  rw [spec_BoxOf.eq]
  unfold spec_BoxOf.b boxOf
  simp only [spec_l1Width_eq]
  by_cases hw : w = 32 ∨ w = 64
  · by_cases h1 : l.length < 2
    · have c : ((l.length : Nat) : Int) < 2 := by omega
      simp [hw, h1, c]
    by_cases h2 : 12 < l.length
    · have c : ¬ ((l.length : Nat) : Int) < 2 := by omega
      have c2 : (12 : Int) < ((l.length : Nat) : Int) := by omega
      simp [hw, h2, c, c2]
    by_cases h3 : l.length % 2 = 1
    · have c : ¬ ((l.length : Nat) : Int) < 2 := by omega
      have c2 : ¬ (12 : Int) < ((l.length : Nat) : Int) := by omega
      have c3 : ((l.length % 2 : Nat) : Int) = 1 := by omega
      simp only [hw, decide_true, Bool.not_true, cond_false, c, c2, decide_false, tmod2, c3, h3, or_true, if_true]
      rfl
    · have c : ¬ ((l.length : Nat) : Int) < 2 := by omega
      have c2 : ¬ (12 : Int) < ((l.length : Nat) : Int) := by omega
      have c3 : ¬ ((l.length % 2 : Nat) : Int) = 1 := by omega
      have c4 : ¬ (¬ (w = 32 ∨ w = 64) ∨ l.length < 2 ∨ 12 < l.length ∨ l.length % 2 = 1) := by omega
      rw [if_neg c4]
      simp only [hw, decide_true, Bool.not_true, cond_false, c, c2, decide_false, tmod2, c3]
      have := spec_BoxOf_loop N w l [] (l.length / 2) (by omega) (by omega) hl (fun x y => k x y) (fun x801 _ x803 => spec_BoxOk N x801 (x803, ()) (fun x804 => bif !x804 then k 3 [] else k 0 x803)) (l.length / 2) 0 N (by omega) (by omega)
      refine this.trans ?_
      rw [Nat.mul_zero, List.drop_zero]
      by_cases h5 : (l.all fun x => (bitOrd w x).2) = true
      · rw [if_pos h5, if_pos h5, spec_BoxOk_eq N w (boxPairs w l, ()) _ hN]
        by_cases h6 : boxOk w (boxPairs w l) = true
        · simp [h6]
        · simp [h6]
      · rw [if_neg h5, if_neg h5]
  · simp [hw]
theorem impl_BoxOf_loop {α : Type} (N : Nat) (w : Int) (l : List Int) (u : List PairD) (hb : l.length ≤ 1000) (hl : U64s l) (k0 : Int → List PairD → Option α) (k1 : Int → List Int → List PairD → Option α) : ∀ (d j n : Nat), j + d = l.length → d < n →
    impl_BoxOf_L0 N n w l ((l.length : Nat) : Int) (j : Int) ((List.range j).map (ordN w l)) u k0 k1 = if ((l.drop j).all fun x => (bitOrd w x).2) = true then k1 w ((List.range l.length).map (ordN w l)) u else k0 2 [] := by
  intro d
  induction d with
  | zero =>
    intro j n h hn
    obtain ⟨n, rfl⟩ : ∃ m, n = m + 1 := ⟨n - 1, by omega⟩
    obtain rfl : j = l.length := by omega
    rw [impl_BoxOf_L0.succ]
    unfold impl_BoxOf_L0r
    simp only [cast_nlt (show ¬ l.length < l.length by omega), cond_false, List.drop_length, List.all_nil, if_true]
  | succ d ih =>
    intro j n h hn
    obtain ⟨n, rfl⟩ : ∃ m, n = m + 1 := ⟨n - 1, by omega⟩
    have h1 : j < l.length := by omega
    have r1 := hl _ (List.getElem_mem h1)
    have hlen : ∀ q : Int, decide (((List.range j).map (ordN w l)).length + [q].length ≤ 8796093022208) = true := fun q => by simp; omega
    rw [impl_BoxOf_L0.succ]
    unfold impl_BoxOf_L0r
    simp only [cast_lt h1, cast_neg, cond_true, cond_false, Int.toNat_natCast, List.getElem?_eq_getElem h1, impl_BitOrd_eq N w _ _ r1.1 r1.2, hlen, succ_i (show j < 4611686018427387904 by omega), List.drop_eq_getElem_cons h1, List.all_cons]
    cases b1 : (bitOrd w l[j]).2
    · simp
    simp only [Bool.not_true, cond_false, Bool.true_and]
    have := ih (j + 1) n (by omega) (by omega)
    rw [List.range_succ, List.map_append] at this
    rw [← ordN_at h1]
    exact this
theorem impl_BoxOf_fill {α : Type} (N : Nat) (w : Int) (l : List Int) (u : List PairD) (m : Nat) (hm : l.length = 2 * m) (hb : m ≤ 1000) (k0 : Int → List PairD → List PairD → Option α) : ∀ (d j n : Nat), j + d = m → d < n →
    impl_BoxOf_L2 N n w (m : Int) (j : Int) ((List.range l.length).map (ordN w l)) u ((List.range j).map (ordP w l) ++ List.replicate d ((0 : Int), ((0 : Int), ()))) k0 = k0 w u (boxPairs w l) := by
  intro d
  induction d with
  | zero =>
    intro j n h hn
    obtain ⟨n, rfl⟩ : ∃ m, n = m + 1 := ⟨n - 1, by omega⟩
    obtain rfl : j = m := by omega
    rw [impl_BoxOf_L2.succ]
    unfold impl_BoxOf_L2r boxPairs
    have e : l.length / 2 = j := by omega
    simp only [cast_nlt (show ¬ j < j by omega), cond_false, List.replicate_zero, List.append_nil, e]
  | succ d ih =>
    intro j n h hn
    obtain ⟨n, rfl⟩ : ∃ m, n = m + 1 := ⟨n - 1, by omega⟩
    have w1 : IntKind.i64.wrap ((2 : Int) * (j : Int)) = ((2 * j : Nat) : Int) := by rw [wrap_i64 (by omega) (by omega)]; omega
    have w2 : IntKind.i64.wrap (((2 * j : Nat) : Int) + 1) = ((2 * j + 1 : Nat) : Int) := succ_i (by omega)
    have hL : ((List.range l.length).map (ordN w l)).length = l.length := by simp
    have h1 : 2 * j < ((List.range l.length).map (ordN w l)).length := by omega
    have h2 : 2 * j + 1 < ((List.range l.length).map (ordN w l)).length := by omega
    have g1 : ((List.range l.length).map (ordN w l))[2 * j] = ordN w l (2 * j) := by simp
    have g2 : ((List.range l.length).map (ordN w l))[2 * j + 1] = ordN w l (2 * j + 1) := by simp
    have h3 : j < ((List.range j).map (ordP w l) ++ List.replicate (d + 1) ((0 : Int), ((0 : Int), ()))).length := by simp
    rw [impl_BoxOf_L2.succ]
    unfold impl_BoxOf_L2r
    simp only [cast_lt (show j < m by omega), w1, w2, cast_neg, cond_true, cond_false, Int.toNat_natCast, decide_eq_true h1, decide_eq_true h2, decide_eq_true h3, List.getElem?_eq_getElem h1, List.getElem?_eq_getElem h2, List.getElem?_eq_getElem h3, g1, g2, succ_i (show j < 4611686018427387904 by omega)]
    have := ih (j + 1) n (by omega) (by omega)
    rw [← set_range] at this
    exact this
theorem impl_BoxOf_eq {α : Type} (N : Nat) (w : Int) (l : List Int) (k : Int → List PairD → Option α) (hl : U64s l) (hN : 1048576 < N) : impl_BoxOf N w l k = k (boxOf w l).1 (boxOf w l).2 := by
  rw [impl_BoxOf.eq]
  unfold impl_BoxOf.b boxOf
  simp only [impl_formatOf_eq, impl_in_eq]
  by_cases hw : w = 32 ∨ w = 64
  · by_cases h12 : 2 ≤ l.length ∧ l.length ≤ 12
    · have c : decide ((2 : Int) ≤ ((l.length : Nat) : Int)) = true := by simp; omega
      have c2 : decide (((l.length : Nat) : Int) ≤ (12 : Int)) = true := by simp; omega
      by_cases h3 : l.length % 2 = 1
      · have c3 : ¬ ((l.length % 2 : Nat) : Int) = 0 := by omega
        simp only [hw, decide_true, Bool.not_true, Bool.not_false, cond_false, c, c2, Bool.and_self, decide_false, tmod2, c3, cond_true, h3, or_true, if_true]
        rfl
      · have c3 : ((l.length % 2 : Nat) : Int) = 0 := by omega
        have c4 : ¬ (¬ (w = 32 ∨ w = 64) ∨ l.length < 2 ∨ 12 < l.length ∨ l.length % 2 = 1) := by omega
        rw [if_neg c4]
        simp only [hw, decide_true, Bool.not_true, cond_false, c, c2, Bool.and_self, tmod2, c3]
        refine (impl_BoxOf_loop N w l [] (by omega) hl _ _ l.length 0 N (by omega) (by omega)).trans ?_
        rw [List.drop_zero]
        by_cases h5 : (l.all fun x => (bitOrd w x).2) = true
        · rw [if_pos h5, if_pos h5]
          have hL : ((List.range l.length).map (ordN w l)).length = l.length := by simp
          have w1 : IntKind.i64.wrap ((l.length / 2 : Nat) : Int) = ((l.length / 2 : Nat) : Int) := wrap_i64 (by omega) (by omega)
          have c5 : ((l.length / 2 : Nat) : Int) ≤ ((8796093022208 : Nat) : Int) := by omega
          simp only [hL, tdiv2, w1, cast_nn, cond_true, Int.le_refl, decide_true, decide_eq_true c5, Int.toNat_natCast, List.length_replicate]
          refine (impl_BoxOf_fill N w l [] (l.length / 2) (by omega) (by omega) _ (l.length / 2) 0 N (by omega) (by omega)).trans ?_
          rw [impl_BoxOk_eq N w (boxPairs w l, ()) _ hN]
          by_cases h6 : boxOk w (boxPairs w l) = true
          · simp [h6]
          · simp [h6]
        · rw [if_neg h5, if_neg h5]
    · have c : (decide ((2 : Int) ≤ ((l.length : Nat) : Int)) && decide (((l.length : Nat) : Int) ≤ (12 : Int))) = false := by
        rw [Bool.and_eq_false_iff]; simp; omega
      have c4 : (¬ (w = 32 ∨ w = 64) ∨ l.length < 2 ∨ 12 < l.length ∨ l.length % 2 = 1) := by omega
      rw [if_pos c4]
      simp only [hw, decide_true, Bool.not_true, cond_false, c, Bool.not_false, cond_true]
  · simp [hw]
end Go.Proofs.YtbaeipjjijdgiaaAm
