/-
  What the functions on fractions compute, in plain words: making, order, quotients, floors; and the laws.
-/
import Derived.Test.YthjjaddhcdekjaaS
namespace Go.Proofs.YthjjaddhcdekjaaAm
open Go
set_option linter.unusedVariables false
set_option linter.unusedSimpArgs false

def fracOf (s : Bool) (x y : List Int) : R4 := if natOkB x = true ∧ natOkB y = true ∧ y.length ≠ 0 then mkF s (val x).toNat (val y).toNat else bad4
theorem fracOf_len (s : Bool) (x y : List Int) : (fracOf s x y).2.2.1.length ≤ 256 ∧ (fracOf s x y).2.2.2.length ≤ 256 := by
  unfold fracOf
  split
  · exact mkF_len _ _ _
  · exact ⟨Nat.zero_le _, Nat.zero_le _⟩
def fracAbs (f : FracD) : R4 := if fracOkB f = true then (false, true, f.2.1, f.2.2.1) else bad4
theorem okB_len {f : FracD} (h : fracOkB f = true) : f.2.1.length ≤ 256 ∧ f.2.2.1.length ≤ 256 := by
  obtain ⟨s, a, b, rfl, ha, hb, _⟩ := fracOkB_ex h
  exact ⟨digs_len_le ha, digs_len_le hb⟩
theorem fracAbs_len (f : FracD) : (fracAbs f).2.2.1.length ≤ 256 ∧ (fracAbs f).2.2.2.length ≤ 256 := by
  unfold fracAbs
  split
  next h => exact okB_len h
  next h => exact ⟨Nat.zero_le _, Nat.zero_le _⟩
def sgnd (s : Bool) (n : Nat) : Int := if s then -(n : Int) else n
def cmpZ (x y : Int) : Int := if x < y then -1 else if y < x then 1 else 0
def fracCmp (f g : FracD) : Int := if fracOkB f = true ∧ fracOkB g = true then cmpZ (sgnd f.1 ((val f.2.1).toNat * (val g.2.2.1).toNat)) (sgnd g.1 ((val g.2.1).toNat * (val f.2.2.1).toNat)) else 2
theorem mulc {a b : Nat} (ha : a < 65536 ^ 256) (hb : b < 65536 ^ 256) : a * b < cap0 := lt_cap0 (mul_cap ha hb) (by decide)
def sum4 (s : Bool) (n : Nat) (t : Bool) (m : Nat) : Bool × Nat := if s = t then (s, n + m) else if m ≤ n then (s, n - m) else (t, m - n)
theorem sum4_val (s : Bool) (n : Nat) (t : Bool) (m : Nat) : sgnd (sum4 s n t m).1 (sum4 s n t m).2 = sgnd s n + sgnd t m := by
  unfold sum4
  by_cases h : s = t
  · subst h
    rw [if_pos rfl]
    cases s <;> simp only [sgnd, if_true, if_false, Bool.false_eq_true] <;> omega
  · rw [if_neg h]
    by_cases h2 : m ≤ n
    · rw [if_pos h2]
      cases s <;> cases t <;> simp only [sgnd, if_true, if_false, Bool.false_eq_true] <;> first | omega | exact absurd rfl h
    · rw [if_neg h2]
      cases s <;> cases t <;> simp only [sgnd, if_true, if_false, Bool.false_eq_true] <;> first | omega | exact absurd rfl h
theorem sign_of {α : Type} {r : Bool × Nat} {X Y : Int} (h : sgnd r.1 r.2 = X - Y) (k : Int → Option α) : (bif decide (r.2 = 0) then k 0 else bif r.1 then k (-1) else k 1) = k (cmpZ X Y) := by
  obtain ⟨b, n⟩ := r
  unfold cmpZ
  by_cases h0 : n = 0
  · subst h0
    have e : X = Y := by cases b <;> simp only [sgnd, if_true, if_false, Bool.false_eq_true] at h <;> omega
    subst e
    simp
  · cases b
    · simp only [sgnd, if_false, Bool.false_eq_true] at h
      simp only [h0, decide_false, cond_false, if_neg (show ¬ X < Y by omega), if_pos (show Y < X by omega)]
    · simp only [sgnd, if_true] at h
      simp only [h0, decide_false, cond_false, cond_true, if_pos (show X < Y by omega)]
theorem sgnd_neg (t : Bool) (c b : Nat) : sgnd (!t && decide (c ≠ 0)) (c * b) = - sgnd t (c * b) := by
  by_cases h : c = 0
  · subst h; cases t <;> simp [sgnd]
  · cases t <;> simp [sgnd, h]
theorem spec_l6Sum_eq {α : Type} (N : Nat) (s t : Bool) (a b c d : Nat) (k : Bool → List Int → List Int → Option α) (ha : a < cap) (hb : b < cap) (hc : c < cap) (hd : d < cap) (h1 : a * d < cap) (h2 : c * b < cap) (hN : cap < N) :
    spec_l6Sum N (s, (digs a, (digs b, ()))) (t, (digs c, (digs d, ()))) k = k (sum4 s (a * d) t (c * b)).1 (digs (sum4 s (a * d) t (c * b)).2) (digs (b * d)) := by
  rw [spec_l6Sum.eq]
  unfold spec_l6Sum.b sum4
  simp only [spec_l5Mul_eq N _ _ _ ha hd hN, spec_l5Mul_eq N _ _ _ hc hb hN, spec_l5Mul_eq N _ _ _ hb hd hN]
  generalize a * d = n at *
  generalize c * b = m at *
  by_cases h : s = t
  · subst h
    simp only [beq_self_eq_true, cond_true, spec_l5Add_eq N _ _ _ h1 h2 hN, if_true]
  · have hb' : (s == t) = false := by simpa using h
    simp only [hb', cond_false, spec_l5Cmp_eq N _ _ _ h1 h2 hN, cmpN_ge, if_neg h]
    by_cases hle : m ≤ n
    · simp only [hle, decide_true, cond_true, spec_l5Sub_eq N _ _ _ h1 hle hN, if_true]
    · simp only [hle, decide_false, cond_false, spec_l5Sub_eq N _ _ _ h2 (show n ≤ m by omega) hN, if_false]
theorem spec_l6Neg_eq {α : Type} (N : Nat) (t : Bool) (c d : Nat) (k : Bool → List Int → List Int → Option α) (hc : c < cap) (hd : d < cap) (hN : cap < N) : spec_l6Neg N (t, (digs c, (digs d, ()))) k = k (!t && decide (c ≠ 0)) (digs c) (digs d) := by
  rw [spec_l6Neg.eq]
  unfold spec_l6Neg.b
  simp only [spec_l5Trim_dig N c _ hc hN, spec_l5Trim_dig N d _ hd hN, len_cast_pos]
  cases t
  · simp only [Bool.not_false, cond_true, Bool.true_and]
  · simp only [Bool.not_true, cond_false, Bool.false_and]
theorem spec_FracCmp_eq {α : Type} (N : Nat) (f g : FracD) (k : Int → Option α) (hN : cap < N) : spec_FracCmp N f g k = k (fracCmp f g) := by
  rw [spec_FracCmp.eq]
  unfold spec_FracCmp.b fracCmp
  simp only [spec_FracOk_eq N _ _ hN]
  cases h : fracOkB f
  · simp
  cases h' : fracOkB g
  · simp
  obtain ⟨s, a, b, rfl, ha, hb, hb0, hg, hs⟩ := fracOkB_ex h
  obtain ⟨t, c, d, rfl, hc, hd, hd0, hg', ht⟩ := fracOkB_ex h'
  have hca : ∀ {x}, x < 65536 ^ 256 → x < cap := fun hx => cap0_lt (c256 hx)
  have m1 := cap0_lt (mulc ha hd)
  have m2 := cap0_lt (mulc hc hb)
  simp only [Bool.not_true, cond_false, spec_l6Neg_eq N t c d _ (hca hc) (hca hd) hN, spec_l6Sum_eq N _ _ a b c d _ (hca ha) (hca hb) (hca hc) (hca hd) m1 m2 hN, len_cast_zero, val_digs, Int.toNat_natCast, and_self, if_true]
  refine sign_of ?_ k
  rw [sum4_val, sgnd_neg]; omega
theorem impl_fracs_loop {α : Type} (N : Nat) (hN : cap < N) (l : List FracD) (hb : l.length < 4611686018427387904) (k : Bool → Option α) (k1 : Option α) : ∀ (d i n : Nat), i + d = l.length → d < n →
    impl_fracs_L0 N n l l.length i k k1 = if (l.drop i).all fracOkB = true then k1 else k false := by
  intro d
  induction d with
  | zero =>
    intro i n h hn
    obtain ⟨m, rfl⟩ : ∃ m, n = m + 1 := ⟨n - 1, by omega⟩
    rw [impl_fracs_L0.succ]
    unfold impl_fracs_L0r
    simp only [cast_nlt (show ¬ i < l.length by omega), cond_false]
    rw [List.drop_of_length_le (by omega)]; simp
  | succ d ih =>
    intro i n h hn
    obtain ⟨m, rfl⟩ : ∃ m, n = m + 1 := ⟨n - 1, by omega⟩
    have hi : i < l.length := by omega
    rw [impl_fracs_L0.succ]
    unfold impl_fracs_L0r
    simp only [cast_lt hi, cast_neg, cond_true, cond_false, Int.toNat_natCast, List.getElem?_eq_getElem hi, impl_FracOk_eq N _ _ hN, succ_i (show i < 4611686018427387904 by omega)]
    have e1 := List.drop_eq_getElem_cons hi
    rw [ih (i + 1) m (by omega) (by omega), e1, List.all_cons]
    cases he : fracOkB l[i] <;> simp only [Bool.not_true, Bool.not_false, cond_true, cond_false, Bool.true_and, Bool.false_and, Bool.false_eq_true, if_false]
theorem impl_fracs_eq {α : Type} (N : Nat) (l : List FracD) (k : Bool → Option α) (hl : l.length < 1000) (hN : cap < N) : impl_fracs N l k = k (l.all fracOkB) := by
  have hN' := cap_N hN
  rw [impl_fracs.eq]
  unfold impl_fracs.b
  refine (impl_fracs_loop N hN l (by omega) _ _ l.length 0 N (by omega) (by omega)).trans ?_
  rw [List.drop_zero]
  cases l.all fracOkB <;> simp
theorem impl_Frac_cmp_eq {α : Type} (N : Nat) (s t : Bool) (a b c d : Nat) (k : Int → Option α) (ha : a < cap) (hb : b < cap) (hc : c < cap) (hd : d < cap) (h1 : a * d < cap) (h2 : c * b < cap) (hb0 : b ≠ 0) (hd0 : d ≠ 0) (hs : s = true → a ≠ 0) (ht : t = true → c ≠ 0) (hN : cap < N) :
    impl_Frac_cmp N (s, (digs a, (digs b, ()))) (t, (digs c, (digs d, ()))) k = k (cmpZ (sgnd s (a * d)) (sgnd t (c * b))) := by
  have z1 : a * d = 0 ↔ a = 0 := by rw [Nat.mul_eq_zero]; exact ⟨fun h => h.resolve_right hd0, Or.inl⟩
  have z2 : c * b = 0 ↔ c = 0 := by rw [Nat.mul_eq_zero]; exact ⟨fun h => h.resolve_right hb0, Or.inl⟩
  rw [impl_Frac_cmp.eq]
  unfold impl_Frac_cmp.b
  simp only [impl_Frac_sign_eq, signF, digs_len_zero, impl_natMul_eq N _ _ _ ha hd hN, impl_natMul_eq N _ _ _ hc hb hN]
  generalize a * d = n at *
  generalize c * b = m at *
  simp only [impl_natCmp_eq N _ _ _ h1 h2 hN]
  have key : ∀ x y : Int, -1 ≤ x → x ≤ 1 → -1 ≤ y → y ≤ 1 → maxI (-1) (minI 1 (IntKind.i64.wrap (x - y))) = if x < y then -1 else if y < x then 1 else 0 := by
    intro x y g1 g2 g3 g4
    rw [wrap_i64 (by omega) (by omega)]
    unfold maxI minI
    split <;> split <;> (try split) <;> omega
  have hc1 : IntKind.i64.wrap (0 - cmpN n m) = - cmpN n m := by
    have : -1 ≤ cmpN n m ∧ cmpN n m ≤ 1 := by unfold cmpN; split <;> (try split) <;> omega
    rw [wrap_i64 (by omega) (by omega)]; omega
  clear ha hb hc hd h1 h2
  obtain ⟨S, hS⟩ : ∃ S : Int, (if s = true then (-1 : Int) else if a = 0 then 0 else 1) = S := ⟨_, rfl⟩
  obtain ⟨T, hT⟩ : ∃ T : Int, (if t = true then (-1 : Int) else if c = 0 then 0 else 1) = T := ⟨_, rfl⟩
  have bS : -1 ≤ S ∧ S ≤ 1 := by rw [← hS]; split <;> (try split) <;> omega
  have bT : -1 ≤ T ∧ T ≤ 1 := by rw [← hT]; split <;> (try split) <;> omega
  simp only [hS, hT, key S T bS.1 bS.2 bT.1 bT.2, hc1]
  have hn : a ≠ 0 ↔ n ≠ 0 := by rw [Ne, Ne, z1]
  have hm : c ≠ 0 ↔ m ≠ 0 := by rw [Ne, Ne, z2]
  by_cases he : S = T
  · simp only [he, decide_true, Bool.not_true, cond_false]
    cases s
    · cases t
      · simp only [cond_false]
        congr 1
        unfold cmpN cmpZ sgnd
        simp only [Bool.false_eq_true, if_false]
        split <;> split <;> (try split) <;> (try split) <;> omega
      · exfalso
        have := ht rfl
        simp only [Bool.false_eq_true, if_false, if_true] at hS hT
        split at hS <;> omega
    · cases t
      · exfalso
        simp only [Bool.false_eq_true, if_false, if_true] at hS hT
        split at hT <;> omega
      · simp only [cond_true]
        congr 1
        unfold cmpN cmpZ sgnd
        simp only [if_true]
        split <;> split <;> (try split) <;> (try split) <;> omega
  · simp only [he, decide_false, Bool.not_false, cond_true]
    congr 1
    unfold cmpZ sgnd
    cases s <;> cases t <;> simp only [Bool.false_eq_true, if_false, if_true] at hS hT hs ht ⊢
    · by_cases ha0 : a = 0
      · by_cases hc0 : c = 0
        · rw [if_pos ha0] at hS; rw [if_pos hc0] at hT; omega
        · have := z1.2 ha0
          have := hm.1 hc0
          rw [if_pos ha0] at hS; rw [if_neg hc0] at hT
          rw [if_pos (by omega), if_pos (by omega)]
      · have := hn.1 ha0
        rw [if_neg ha0] at hS
        by_cases hc0 : c = 0
        · have := z2.2 hc0
          rw [if_pos hc0] at hT
          rw [if_neg (by omega), if_pos (by omega), if_neg (by omega), if_pos (by omega)]
        · rw [if_neg hc0] at hT; omega
    · have := hm.1 (ht trivial)
      have : 0 ≤ S := by rw [← hS]; split <;> omega
      rw [if_neg (by omega), if_pos (by omega), if_neg (by omega), if_pos (by omega)]
    · have := hn.1 (hs trivial)
      have : 0 ≤ T := by rw [← hT]; split <;> omega
      rw [if_pos (by omega), if_pos (by omega)]
    · omega
