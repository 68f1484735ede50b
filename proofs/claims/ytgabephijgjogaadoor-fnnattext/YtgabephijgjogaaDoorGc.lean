/-
  Reading decimals; the law of texts and back.
-/
import Derived.Test.YtgabephijgjogaaDoorGa
import Derived.Test.YtgabephijgjogaaDoorN
import Derived.Test.YtgabephijgjogaaDoorCa
namespace Go.Proofs.YtgabephijgjogaaDoorAm
open Go
set_option linter.unusedVariables false
set_option linter.unusedSimpArgs false

theorem toListLoop (l : List UInt8) : ∀ (d i : Nat) (r : List UInt8), i + d = l.length → ByteArray.toList.loop (BA l) i r = r.reverse ++ l.drop i := by
  intro d
  induction d with
  | zero =>
    intro i r h
    rw [ByteArray.toList.loop, if_neg (by rw [BA_size]; omega), List.drop_of_length_le (by omega)]; simp
  | succ d ih =>
    intro i r h
    have hi : i < l.length := by omega
    rw [ByteArray.toList.loop, if_pos (by rw [BA_size]; omega), ih (i + 1) _ (by omega), List.drop_eq_getElem_cons hi]
    have : ByteArray.get! (BA l) i = l[i] := by simp [ByteArray.get!, BA, hi]
    simp [this]
theorem BA_toList (l : List UInt8) : (BA l).toList = l := by
  have := toListLoop l l.length 0 [] (by omega)
  simpa [ByteArray.toList] using this
theorem eqS_BA (l m : List UInt8) : eqS (BA l) (BA m) = decide (l = m) := by
  unfold eqS
  rw [BA_toList, BA_toList]
  by_cases h : l = m <;> simp [h]
theorem BA_get (l : List UInt8) (i : Nat) : ((BA l)[i]? : Option UInt8) = l[i]? := by
  by_cases h : i < l.length
  · have h2 : i < (BA l).size := by rw [BA_size]; exact h
    rw [getElem?_pos (BA l) i h2, List.getElem?_eq_getElem h]; rfl
  · have h2 : ¬ i < (BA l).size := by rw [BA_size]; omega
    rw [getElem?_neg (BA l) i h2, List.getElem?_eq_none (by omega)]
def isDig (d : UInt8) : Bool := decide (48 ≤ d.toNat) && decide (d.toNat ≤ 57)
def stepD (v : Nat) (d : UInt8) : Nat := v * 10 + (d.toNat - 48)
def valT (l : List UInt8) : Nat := l.foldl stepD 0
def natReadB (l : List UInt8) : List Int × Bool :=
  if l.length = 0 ∨ 1300 < l.length ∨ l.all isDig = false ∨ (1 < l.length ∧ l[0]? = some 48) then ([], false) else fits (valT l)
theorem isDig_ok {d : UInt8} (h : isDig d = true) : 48 ≤ d.toNat ∧ d.toNat ≤ 57 := by
  simpa [isDig] using h
theorem fold_lt : ∀ (l : List UInt8) (v i : Nat), l.all isDig = true → v < 10 ^ i → l.foldl stepD v < 10 ^ (i + l.length)
  | [], v, i, _, h => h
  | d :: r, v, i, ha, h => by
    simp only [List.all_cons, Bool.and_eq_true] at ha
    have hd := isDig_ok ha.1
    have h1 : stepD v d < 10 ^ (i + 1) := by unfold stepD; rw [Nat.pow_succ]; omega
    have := fold_lt r (stepD v d) (i + 1) ha.2 h1
    rw [List.foldl_cons, List.length_cons, show i + (r.length + 1) = i + 1 + r.length by omega]
    exact this
theorem ten_cap {i : Nat} (h : i ≤ 1302) : 10 ^ i < cap := by
  obtain ⟨E, hE⟩ : ∃ E, E = 330 := ⟨_, rfl⟩
  have h1 : 10 ^ i ≤ (2 ^ 4) ^ i := Nat.pow_le_pow_left (by decide) i
  rw [← Nat.pow_mul] at h1
  exact lt_cap (Nat.lt_of_le_of_lt h1 (pow2_cap (E := E) (by omega))) (by omega)
theorem fold_ge : ∀ (l : List UInt8) (v : Nat), v ≤ l.foldl stepD v
  | [], v => Nat.le_refl _
  | d :: r, v => by
    rw [List.foldl_cons]
    refine Nat.le_trans ?_ (fold_ge r (stepD v d))
    unfold stepD; omega
theorem digit_u8 {r : Nat} (h : r < 10) : (UInt8.ofNat (48 + r)).toNat = 48 + r := by
  simp; omega
theorem dec_read (a : Nat) : valT (Go.Lib.decDigits a) = a ∧ (Go.Lib.decDigits a).all isDig = true ∧ (a ≠ 0 → (Go.Lib.decDigits a)[0]? ≠ some 48) ∧ 0 < (Go.Lib.decDigits a).length := by
  induction a using Nat.strongRecOn with
  | _ a ih =>
    by_cases h1 : a < 10
    · rw [dec_small h1]
      have hd := digit_u8 h1
      refine ⟨?_, ?_, ?_, by simp⟩
      · unfold valT
        simp only [List.foldl_cons, List.foldl_nil, stepD, hd]; omega
      · simp only [List.all_cons, List.all_nil, Bool.and_true, isDig, hd, Bool.and_eq_true, decide_eq_true_eq]; omega
      · intro h0 h
        simp only [List.getElem?_cons_zero, Option.some.injEq] at h
        have := congrArg UInt8.toNat h
        rw [hd] at this
        have e : (48 : UInt8).toNat = 48 := rfl
        rw [e] at this; omega
    · obtain ⟨e1, e2, e3, e4⟩ := ih (a / 10) (by omega)
      rw [dec_big h1]
      have hd := digit_u8 (r := a % 10) (by omega)
      refine ⟨?_, ?_, ?_, by simp⟩
      · unfold valT at *
        rw [List.foldl_append, e1]
        simp only [List.foldl_cons, List.foldl_nil, stepD, hd]; omega
      · rw [List.all_append, e2]
        simp only [List.all_cons, List.all_nil, Bool.and_true, isDig, hd, Bool.true_and, Bool.and_eq_true, decide_eq_true_eq]; omega
      · intro _
        rw [List.getElem?_append_left e4]
        exact e3 (by omega)
theorem natRead_dec {a : Nat} (h : a < 65536 ^ 256) : natReadB (Go.Lib.decDigits a) = (digs a, true) := by
  obtain ⟨e1, e2, e3, e4⟩ := dec_read a
  have hl := txt_len h
  have hl2 : (Go.Lib.decDigits a).length ≤ 1280 := by
    by_cases h0 : a = 0
    · subst h0; rw [dec_small (show 0 < 10 by omega)]; simp
    · unfold txt at hl; rw [if_neg h0] at hl; exact hl
  unfold natReadB
  rw [if_neg, e1, fits_of h]
  rintro (q | q | q | ⟨q, q'⟩)
  · omega
  · omega
  · rw [e2] at q; cases q
  · by_cases h0 : a = 0
    · subst h0; rw [dec_small (show 0 < 10 by omega)] at q; simp at q
    · exact e3 h0 q'
theorem read_dec : ∀ (n : Nat) (l : List UInt8), l.length = n + 1 → l.all isDig = true → (1 < l.length → l[0]? ≠ some 48) → Go.Lib.decDigits (valT l) = l := by
  intro n
  induction n with
  | zero =>
    intro l hl ha _
    obtain ⟨d, rfl⟩ := List.length_eq_one_iff.1 (by omega : l.length = 1)
    simp only [List.all_cons, List.all_nil, Bool.and_true] at ha
    have hd := isDig_ok ha
    have e : valT [d] = d.toNat - 48 := by unfold valT; simp [stepD]
    rw [e, dec_small (by omega), show 48 + (d.toNat - 48) = d.toNat by omega, UInt8.ofNat_toNat]
  | succ n ih =>
    intro l hl ha hh
    obtain ⟨m, d, rfl⟩ : ∃ m d, l = m ++ [d] := by
      rcases List.eq_nil_or_concat l with h | ⟨m, d, h⟩
      · subst h; simp at hl
      · exact ⟨m, d, by simpa using h⟩
    have hm : m.length = n + 1 := by simp at hl; omega
    rw [List.all_append, Bool.and_eq_true] at ha
    simp only [List.all_cons, List.all_nil, Bool.and_true] at ha
    have hd := isDig_ok ha.2
    have h0 : m[0]? ≠ some 48 := by
      have := hh (by simp; omega)
      rwa [List.getElem?_append_left (by omega)] at this
    have e := ih m hm ha.1 fun _ => h0
    have ev : valT (m ++ [d]) = valT m * 10 + (d.toNat - 48) := by unfold valT; rw [List.foldl_append]; rfl
    have hpos : 1 ≤ valT m := by
      cases m with
      | nil => simp at hm
      | cons x r =>
        simp only [List.getElem?_cons_zero, ne_eq, Option.some.injEq] at h0
        have hx := isDig_ok (by simp only [List.all_cons, Bool.and_eq_true] at ha; exact ha.1.1 : isDig x = true)
        have hx2 : x.toNat ≠ 48 := fun q => h0 (by rw [← UInt8.ofNat_toNat (x := x), q]; rfl)
        have := fold_ge r (stepD 0 x)
        unfold valT
        rw [List.foldl_cons]
        unfold stepD at *
        omega
    rw [ev, dec_big (by omega), show (valT m * 10 + (d.toNat - 48)) / 10 = valT m by omega, show (valT m * 10 + (d.toNat - 48)) % 10 = d.toNat - 48 by omega, e, show 48 + (d.toNat - 48) = d.toNat by omega, UInt8.ofNat_toNat]
theorem dig_wraps {d : UInt8} (h : isDig d = true) : IntKind.u64.wrap (IntKind.u8.wrap (((d.toNat : Nat) : Int) - 48)) = ((d.toNat - 48 : Nat) : Int) ∧ ¬ ((d.toNat : Nat) : Int) < 48 ∧ ¬ (57 : Int) < ((d.toNat : Nat) : Int) := by
  have hd := isDig_ok h
  have w1 : IntKind.u8.wrap (((d.toNat : Nat) : Int) - 48) = ((d.toNat - 48 : Nat) : Int) := by
    simp [IntKind.wrap, IntKind.bits, IntKind.signed]; omega
  rw [w1]
  exact ⟨wrap_u64 (by omega) (by omega), by omega, by omega⟩
theorem dig_not {d : UInt8} (h : isDig d = false) : ((d.toNat : Nat) : Int) < 48 ∨ (¬ ((d.toNat : Nat) : Int) < 48 ∧ (57 : Int) < ((d.toNat : Nat) : Int)) := by
  simp only [isDig, Bool.and_eq_false_iff, decide_eq_false_iff_not] at h
  omega
theorem impl_isDigits_loop {α : Type} (N : Nat) (l : List UInt8) (hb : l.length ≤ 100000) (k0 : Bool → Option α) (k1 : ByteArray → Option α) : ∀ (d i n : Nat), i + d = l.length → d < n →
    impl_isDigits_L0 N n (BA l) ((l.length : Nat) : Int) (i : Int) k0 k1 = if (l.drop i).all isDig = true then k1 (BA l) else k0 false := by
  intro d
  induction d with
  | zero =>
    intro i n h hn
    obtain ⟨n, rfl⟩ : ∃ m, n = m + 1 := ⟨n - 1, by omega⟩
    rw [impl_isDigits_L0.succ]
    unfold impl_isDigits_L0r
    simp only [cast_nlt (show ¬ i < l.length by omega), cond_false, List.drop_of_length_le (show l.length ≤ i by omega), List.all_nil, if_true]
  | succ d ih =>
    intro i n h hn
    obtain ⟨n, rfl⟩ : ∃ m, n = m + 1 := ⟨n - 1, by omega⟩
    have hi : i < l.length := by omega
    rw [impl_isDigits_L0.succ]
    unfold impl_isDigits_L0r
    simp only [cast_lt hi, cast_neg, cond_true, cond_false, Int.toNat_natCast, BA_get, List.getElem?_eq_getElem hi, List.drop_eq_getElem_cons hi, List.all_cons, succ_i (show i < 4611686018427387904 by omega)]
    cases hd : isDig l[i]
    · rcases dig_not hd with c | ⟨c, c'⟩
      · simp [c]
      · simp [c, c']
    · obtain ⟨_, c1, c2⟩ := dig_wraps hd
      simp only [c1, c2, decide_false, cond_false, Bool.true_and]
      exact ih (i + 1) n (by omega) (by omega)
theorem impl_isDigits_eq {α : Type} (N : Nat) (l : List UInt8) (k : Bool → Option α) (hb : l.length ≤ 100000) (hN : 1048576 < N) : impl_isDigits N (BA l) k = k (l.all isDig && decide (l ≠ [])) := by
  rw [impl_isDigits.eq]
  unfold impl_isDigits.b
  simp only [BA_size]
  refine (impl_isDigits_loop N l hb _ _ l.length 0 N (by omega) (by omega)).trans ?_
  rw [List.drop_zero]
  cases l.all isDig
  · simp
  · simp only [if_true, BA_empty, eqS_BA, Bool.true_and]
    by_cases h : l = [] <;> simp [h]
theorem impl_natRead_loop {α : Type} (N : Nat) (l : List UInt8) (hb : l.length ≤ 1300) (ha : l.all isDig = true) (hN : cap < N) (k : List Int → Option α) : ∀ (d i n v : Nat), i + d = l.length → d < n → v < 10 ^ i →
    impl_natRead_L0 N n (BA l) (digs v) ((l.length : Nat) : Int) (i : Int) k = k (digs ((l.drop i).foldl stepD v)) := by
  intro d
  induction d with
  | zero =>
    intro i n v h hn hv
    obtain ⟨n, rfl⟩ : ∃ m, n = m + 1 := ⟨n - 1, by omega⟩
    rw [impl_natRead_L0.succ]
    unfold impl_natRead_L0r
    simp only [cast_nlt (show ¬ i < l.length by omega), cond_false, List.drop_of_length_le (show l.length ≤ i by omega), List.foldl_nil]
  | succ d ih =>
    intro i n v h hn hv
    obtain ⟨n, rfl⟩ : ∃ m, n = m + 1 := ⟨n - 1, by omega⟩
    have hi : i < l.length := by omega
    have hd : isDig l[i] = true := List.all_eq_true.1 ha _ (List.getElem_mem hi)
    obtain ⟨w1, c1, c2⟩ := dig_wraps hd
    have hd2 := isDig_ok hd
    have e10 : [(10 : Int)] = digs 10 := (digs_one (n := 10) (by omega) (by omega)).symm
    have v1 : v < cap := Nat.lt_trans hv (ten_cap (by omega))
    have h10 : 10 < cap := by have := cap_ge; omega
    have hx : l[i].toNat - 48 < cap := by have := cap_ge; omega
    have hv2 : stepD v l[i] < 10 ^ (i + 1) := by unfold stepD; rw [Nat.pow_succ]; omega
    have v2 : v * 10 < cap := by
      have := ten_cap (i := i + 1) (by omega)
      rw [Nat.pow_succ] at this; omega
    rw [impl_natRead_L0.succ]
    unfold impl_natRead_L0r
    simp only [cast_lt hi, cast_neg, cond_true, cond_false, Int.toNat_natCast, BA_get, List.getElem?_eq_getElem hi, e10, impl_natMul_eq N v 10 _ v1 h10 hN, w1, impl_natOf_eq N _ _ (show l[i].toNat - 48 < 18446744073709551616 by omega) hN, impl_natAdd_eq N _ _ _ v2 hx hN, succ_i (show i < 4611686018427387904 by omega), List.drop_eq_getElem_cons hi, List.foldl_cons]
    exact ih (i + 1) n (stepD v l[i]) (by omega) (by omega) hv2
theorem impl_natRead_eq {α : Type} (N : Nat) (l : List UInt8) (k : List Int → Option α) (hb : l.length ≤ 1300) (ha : l.all isDig = true) (hN : cap < N) : impl_natRead N (BA l) k = k (digs (valT l)) := by
  have hNN := cap_N hN
  rw [impl_natRead.eq]
  unfold impl_natRead.b
  simp only [BA_size]
  have := impl_natRead_loop N l hb ha hN (fun x => k x) l.length 0 N 0 (by omega) (by omega) (by simp)
  rw [digs_zero, List.drop_zero] at this
  exact this
theorem valT_cap {l : List UInt8} (hb : l.length ≤ 1300) (ha : l.all isDig = true) : valT l < cap := by
  have := fold_lt l 0 0 ha (by simp)
  rw [Nat.zero_add] at this
  exact Nat.lt_trans this (ten_cap (by omega))
theorem impl_NatRead_eq {α : Type} (N : Nat) (l : List UInt8) (k : Bool → List Int → Option α) (hl : l.length ≤ 100000) (hN : cap < N) : impl_NatRead N (BA l) k = k (natReadB l).2 (natReadB l).1 := by
  have hNN := cap_N hN
  rw [impl_NatRead.eq]
  unfold impl_NatRead.b natReadB
  simp only [BA_size]
  by_cases h1 : 1300 < l.length
  · have c : (1300 : Int) < ((l.length : Nat) : Int) := by omega
    rw [if_pos (.inr (.inl h1))]
    simp [c]
  have c : ¬ (1300 : Int) < ((l.length : Nat) : Int) := by omega
  simp only [c, decide_false, cond_false, impl_isDigits_eq N l _ hl (show 1048576 < N by omega)]
  by_cases h0 : l.length = 0
  · have : l = [] := List.eq_nil_of_length_eq_zero h0
    subst this
    simp
  have hne : l ≠ [] := by rintro rfl; simp at h0
  cases ha : l.all isDig
  · rw [if_pos (.inr (.inr (.inl rfl)))]
    simp
  simp only [hne, ne_eq, not_false_eq_true, decide_true, Bool.and_self, Bool.not_true, cond_false]
  have hi : 0 < l.length := by omega
  have hg : ((BA l)[0]? : Option UInt8) = some l[0] := by rw [BA_get, List.getElem?_eq_getElem hi]
  have hr : ∀ K : Bool → List Int → Option α, impl_natRead N (BA l) (fun x => impl_told N x true (fun a b => K a b)) = K (fits (valT l)).2 (fits (valT l)).1 := by
    intro K
    rw [impl_natRead_eq N l _ (by omega) ha hN, impl_told_eq N _ _ (valT_cap (by omega) ha) hN]
  rw [hg]
  simp only [hr]
  have h48 : ((l[0].toNat : Nat) : Int) = 48 ↔ l[0]? = some 48 := by
    rw [List.getElem?_eq_getElem hi, Option.some.injEq]
    constructor
    · intro h
      have : l[0].toNat = 48 := by omega
      rw [← UInt8.ofNat_toNat (x := l[0]), this]; rfl
    · intro h; rw [h]; rfl
  by_cases hz : l[0]? = some 48
  · have := h48.2 hz
    by_cases h2 : 1 < l.length
    · have c2 : (1 : Int) < ((l.length : Nat) : Int) := by omega
      rw [if_pos (.inr (.inr (.inr ⟨h2, hz⟩)))]
      simp [this, c2]
    · have c2 : ¬ (1 : Int) < ((l.length : Nat) : Int) := by omega
      rw [if_neg (by rintro (q | q | q | ⟨q, _⟩); omega; omega; cases q; omega)]
      simp only [this, decide_true, cond_true, c2, decide_false, cond_false]
  · have : ¬ ((l[0].toNat : Nat) : Int) = 48 := fun q => hz (h48.1 q)
    rw [if_neg (by rintro (q | q | q | ⟨_, q⟩); omega; omega; cases q; exact hz q)]
    simp only [this, decide_false, cond_false]
theorem spec_NatRead_loop {α : Type} (N : Nat) (l : List UInt8) (hb : l.length ≤ 1300) (hN : cap < N) (k0 : List Int → Bool → Option α) (k1 : List Int → Option α) : ∀ (d i n v : Nat), i + d = l.length → d < n → v < 10 ^ i →
    spec_NatRead_L0 N n (BA l) (i : Int) (digs v) k0 k1 = if (l.drop i).all isDig = true then k1 (digs ((l.drop i).foldl stepD v)) else k0 [] false := by
  intro d
  induction d with
  | zero =>
    intro i n v h hn hv
    obtain ⟨n, rfl⟩ : ∃ m, n = m + 1 := ⟨n - 1, by omega⟩
    rw [spec_NatRead_L0.succ]
    unfold spec_NatRead_L0r
    simp only [BA_size, cast_nlt (show ¬ i < l.length by omega), cond_false, List.drop_of_length_le (show l.length ≤ i by omega), List.foldl_nil, List.all_nil, if_true]
  | succ d ih =>
    intro i n v h hn hv
    obtain ⟨n, rfl⟩ : ∃ m, n = m + 1 := ⟨n - 1, by omega⟩
    have hi : i < l.length := by omega
    rw [spec_NatRead_L0.succ]
    unfold spec_NatRead_L0r
    simp only [BA_size, cast_lt hi, cast_neg, cond_true, cond_false, Int.toNat_natCast, BA_get, List.getElem?_eq_getElem hi, List.drop_eq_getElem_cons hi, List.all_cons, List.foldl_cons, succ_i (show i < 4611686018427387904 by omega)]
    cases hd : isDig l[i]
    · rcases dig_not hd with c | ⟨c, c'⟩
      · simp [c]
      · simp [c, c']
    · obtain ⟨w1, c1, c2⟩ := dig_wraps hd
      have hd2 := isDig_ok hd
      have e10 : [(10 : Int)] = digs 10 := (digs_one (n := 10) (by omega) (by omega)).symm
      have v1 : v < cap := Nat.lt_trans hv (ten_cap (by omega))
      have h10 : 10 < cap := by have := cap_ge; omega
      have hx : l[i].toNat - 48 < cap := by have := cap_ge; omega
      have hv2 : stepD v l[i] < 10 ^ (i + 1) := by unfold stepD; rw [Nat.pow_succ]; omega
      have v3 : v * 10 + (l[i].toNat - 48) < cap := Nat.lt_trans hv2 (ten_cap (by omega))
      have v2 : v * 10 < cap := by omega
      have l3 := len_cap v3
      have hNN := cap_N hN
      have ht : ∀ K : List Int → Option α, spec_l5Times N (digs v) 10 K = K (digs (v * 10)) := by
        intro K
        rw [spec_l5Times.eq]
        unfold spec_l5Times.b
        have c : ¬ (10 : Int) = 0 := by omega
        simp only [c, decide_false, cond_false, e10, spec_l5Mul_eq N v 10 _ v1 h10 hN]
      simp only [c1, c2, decide_false, cond_false, Bool.true_and, ht, w1, spec_NatOf_eq N _ _ (show l[i].toNat - 48 < 18446744073709551616 by omega) hN, spec_l5Add_eq N _ _ _ v2 hx hN, spec_l5Trim_eq N _ _ (show (digs (v * 10 + (l[i].toNat - 48))).length < 4611686018427 by omega) (show (digs (v * 10 + (l[i].toNat - 48))).length < N by omega), tl_digs]
      exact ih (i + 1) n (stepD v l[i]) (by omega) (by omega) hv2
theorem spec_NatRead_eq {α : Type} (N : Nat) (l : List UInt8) (k : List Int → Bool → Option α) (hN : cap < N) : spec_NatRead N (BA l) k = k (natReadB l).1 (natReadB l).2 := by
  have hNN := cap_N hN
  rw [spec_NatRead.eq]
  unfold spec_NatRead.b
  simp only [BA_size]
  by_cases h0 : l.length = 0
  · have c : ((l.length : Nat) : Int) = 0 := by omega
    have hv : natReadB l = ([], false) := by unfold natReadB; rw [if_pos (.inl h0)]
    rw [hv]
    simp only [c, decide_true, cond_true]
  by_cases h1 : 1300 < l.length
  · have c0 : ¬ ((l.length : Nat) : Int) = 0 := by omega
    have c : (1300 : Int) < ((l.length : Nat) : Int) := by omega
    have hv : natReadB l = ([], false) := by unfold natReadB; rw [if_pos (.inr (.inl h1))]
    rw [hv]
    simp only [c0, c, decide_true, decide_false, cond_true, cond_false]
  have c0 : ¬ ((l.length : Nat) : Int) = 0 := by omega
  have c1 : ¬ (1300 : Int) < ((l.length : Nat) : Int) := by omega
  have hi : 0 < l.length := by omega
  have hg : ((BA l)[0]? : Option UInt8) = some l[0] := by rw [BA_get, List.getElem?_eq_getElem hi]
  have hloop : ∀ (K0 : List Int → Bool → Option α), spec_NatRead_L0 N N (BA l) 0 [] (fun a b => K0 a b) (fun x => spec_l5Fits N x (fun a b => K0 a b)) = if l.all isDig = true then K0 (fits (valT l)).1 (fits (valT l)).2 else K0 [] false := by
    intro K0
    have := spec_NatRead_loop N l (by omega) hN (fun a b => K0 a b) (fun x => spec_l5Fits N x (fun a b => K0 a b)) l.length 0 N 0 (by omega) (by omega) (by simp)
    rw [digs_zero, List.drop_zero] at this
    refine this.trans ?_
    simp only [spec_l5Fits_eq]
    rfl
  have h48 : ((l[0].toNat : Nat) : Int) = 48 ↔ l[0]? = some 48 := by
    rw [List.getElem?_eq_getElem hi, Option.some.injEq]
    constructor
    · intro h
      have : l[0].toNat = 48 := by omega
      rw [← UInt8.ofNat_toNat (x := l[0]), this]; rfl
    · intro h; rw [h]; rfl
  simp only [c0, c1, decide_false, cond_false, hg, hloop]
  by_cases h2 : 1 < l.length
  · have c2 : (1 : Int) < ((l.length : Nat) : Int) := by omega
    simp only [c2, decide_true, cond_true]
    by_cases hz : l[0]? = some 48
    · have hv : natReadB l = ([], false) := by unfold natReadB; rw [if_pos (.inr (.inr (.inr ⟨h2, hz⟩)))]
      rw [hv]
      simp only [h48.2 hz, decide_true, cond_true]
    · have : ¬ ((l[0].toNat : Nat) : Int) = 48 := fun q => hz (h48.1 q)
      simp only [this, decide_false, cond_false]
      cases ha : l.all isDig
      · have hv : natReadB l = ([], false) := by unfold natReadB; rw [if_pos (.inr (.inr (.inl ha)))]
        rw [hv]; simp
      · have hv : natReadB l = fits (valT l) := by unfold natReadB; rw [if_neg (by rintro (q | q | q | ⟨_, q⟩); omega; omega; (rw [ha] at q; cases q); exact hz q)]
        rw [hv]; simp
  · have c2 : ¬ (1 : Int) < ((l.length : Nat) : Int) := by omega
    simp only [c2, decide_false, cond_false]
    cases ha : l.all isDig
    · have hv : natReadB l = ([], false) := by unfold natReadB; rw [if_pos (.inr (.inr (.inl ha)))]
      rw [hv]; simp
    · have hv : natReadB l = fits (valT l) := by unfold natReadB; rw [if_neg (by rintro (q | q | q | ⟨q, _⟩); omega; omega; (rw [ha] at q; cases q); omega)]
      rw [hv]; simp
theorem many_loop {α : Type} (N : Nat) : ∀ (f n : Nat) (s o : List UInt8), n < f → n ≤ 1000000 → s.length * n + o.length ≤ 4000 → s.length ≤ 8000 → ∃ r : List UInt8, r.length ≤ 4000 ∧ ∀ k : ByteArray → Option α, spec_l32Many_L0 N f (BA s) (n : Int) (BA o) k = k (BA r) := by
  intro f
  induction f with
  | zero => intro n s o h; omega
  | succ f ih =>
    intro n s o h hn hb hs
    by_cases h0 : n = 0
    · subst h0
      refine ⟨o, by omega, fun k => ?_⟩
      rw [spec_l32Many_L0.succ]
      unfold spec_l32Many_L0r
      have c : ¬ (0 : Int) < ((0 : Nat) : Int) := by omega
      simp only [c, decide_false, cond_false]
    · have c : (0 : Int) < (n : Int) := by omega
      have ht : Int.tmod (n : Int) 2 = ((n % 2 : Nat) : Int) := rfl
      have htd : Int.tdiv (n : Int) 2 = ((n / 2 : Nat) : Int) := rfl
      have hsn : s.length ≤ s.length * n := Nat.le_mul_of_pos_right _ (by omega)
      have e2 : (s ++ s).length * (n / 2) = s.length * (2 * (n / 2)) := by
        rw [List.length_append, show s.length + s.length = s.length * 2 by omega, Nat.mul_assoc]
      have l2 : (s ++ s).length ≤ 8000 := by rw [List.length_append]; omega
      have c3 : (BA s).size + (BA s).size ≤ 9223372036854775807 := by rw [BA_size]; omega
      have w1 : IntKind.i64.wrap ((n / 2 : Nat) : Int) = ((n / 2 : Nat) : Int) := wrap_i64 (by omega) (by omega)
      by_cases hodd : n % 2 = 1
      · have c2 : ((n % 2 : Nat) : Int) = 1 := by omega
        have c4 : (BA o).size + (BA s).size ≤ 9223372036854775807 := by rw [BA_size, BA_size]; omega
        have e3 : s.length * n = s.length * (2 * (n / 2)) + s.length := by
          have : n = 2 * (n / 2) + 1 := by omega
          conv => lhs; rw [this]
          rw [Nat.mul_add, Nat.mul_one]
        obtain ⟨r, hr, e⟩ := ih (n / 2) (s ++ s) (o ++ s) (by omega) (by omega) (by rw [e2, List.length_append]; omega) l2
        refine ⟨r, hr, fun k => ?_⟩
        rw [spec_l32Many_L0.succ]
        unfold spec_l32Many_L0r
        simp only [c, decide_true, cond_true, spec_l32Many_J3.eq]
        unfold spec_l32Many_J3.b
        simp only [ht, c2, decide_true, cond_true, c4, c3, htd, w1, BA_append]
        exact e k
      · have c2 : ¬ ((n % 2 : Nat) : Int) = 1 := by omega
        have e3 : s.length * n = s.length * (2 * (n / 2)) := by
          have : n = 2 * (n / 2) := by omega
          conv => lhs; rw [this]
        obtain ⟨r, hr, e⟩ := ih (n / 2) (s ++ s) o (by omega) (by omega) (by rw [e2]; omega) l2
        refine ⟨r, hr, fun k => ?_⟩
        rw [spec_l32Many_L0.succ]
        unfold spec_l32Many_L0r
        simp only [c, decide_true, cond_true, spec_l32Many_J3.eq]
        unfold spec_l32Many_J3.b
        simp only [ht, c2, decide_true, decide_false, cond_true, cond_false, c3, htd, w1, BA_append]
        exact e k
theorem many_ok {α : Type} (N : Nat) (s : List UInt8) (n : Nat) (hs : s.length * n ≤ 4000) (hs2 : s.length ≤ 8000) (hn : n ≤ 1000000) (hN : n < N) : ∃ r : List UInt8, r.length ≤ 4000 ∧ ∀ k : ByteArray → Option α, spec_l32Many N (BA s) (n : Int) k = k (BA r) := by
  obtain ⟨r, hr, e⟩ := many_loop (α := α) N N n s [] hN hn (by simpa using hs) hs2
  refine ⟨r, hr, fun k => ?_⟩
  rw [spec_l32Many.eq]
  unfold spec_l32Many.b
  exact e k
theorem drawNatRead_ok {α : Type} (N : Nat) (a : List Int) (ha : ∀ x ∈ a, 0 ≤ x ∧ x ≤ 255) (hN : cap < N) : ∃ l : List UInt8, l.length ≤ 100000 ∧ ∀ k : ByteArray → Option α, spec_DrawNatRead N a k = k (BA l) := by
  have hNN := cap_N hN
  obtain ⟨s, e, q⟩ := open32_ok N a ha
  obtain ⟨x, s1, e1, hx, q1⟩ := nat_ok (α := α) N s 0 q (by omega) hN
  have et : natTextB (digs x) = BA (Go.Lib.decDigits x) := by
    unfold natTextB; rw [natOkB_digs hx, if_pos rfl, val_digs]; rfl
  have hl : (Go.Lib.decDigits x).length ≤ 1280 := by
    have := txt_len hx
    by_cases h0 : x = 0
    · subst h0; rw [dec_small (show 0 < 10 by omega)]; simp
    · unfold txt at this; rw [if_neg h0] at this; exact this
  generalize Go.Lib.decDigits x = t at *
  obtain ⟨r, s2, e2, q2, _, _⟩ := pick32_ok N 12 s1 _ q1 (by omega)
  have b48 : (⟨#[48]⟩ : ByteArray) = BA [48] := rfl
  have b97 : (⟨#[97]⟩ : ByteArray) = BA [97] := rfl
  have b45 : (⟨#[45]⟩ : ByteArray) = BA [45] := rfl
  have b49 : (⟨#[49]⟩ : ByteArray) = BA [49] := rfl
  have z : ∀ u : UInt8, (BA [u]).size + (BA t).size ≤ 9223372036854775807 ∧ (BA t).size + (BA [u]).size ≤ 9223372036854775807 := fun u => by
    rw [BA_size, BA_size]; simp; omega
  have j4 : ∃ l : List UInt8, l.length ≤ 100000 ∧ ∀ k : ByteArray → Option α, spec_DrawNatRead_J4 N (BA t) r s2 k = k (BA l) := by
    by_cases h0 : r = 0
    · refine ⟨[48] ++ t, by simp; omega, fun k => ?_⟩
      rw [spec_DrawNatRead_J4.eq]
      unfold spec_DrawNatRead_J4.b
      simp only [h0, b48, (z 48).1, decide_true, cond_true, BA_append]
    by_cases h1 : r = 1
    · refine ⟨t ++ [97], by simp; omega, fun k => ?_⟩
      rw [spec_DrawNatRead_J4.eq]
      unfold spec_DrawNatRead_J4.b
      simp only [h0, decide_false, cond_false, spec_DrawNatRead_J6.eq]
      unfold spec_DrawNatRead_J6.b
      simp only [h1, b97, (z 97).2, decide_true, cond_true, BA_append]
    by_cases h2 : r = 2
    · refine ⟨[], by simp, fun k => ?_⟩
      rw [spec_DrawNatRead_J4.eq]
      unfold spec_DrawNatRead_J4.b
      simp only [h0, decide_false, cond_false, spec_DrawNatRead_J6.eq]
      unfold spec_DrawNatRead_J6.b
      simp only [h1, decide_false, cond_false, spec_DrawNatRead_J8.eq]
      unfold spec_DrawNatRead_J8.b
      simp only [h2, decide_true, cond_true, BA_empty]
    by_cases h3 : r = 3
    · refine ⟨[45] ++ t, by simp; omega, fun k => ?_⟩
      rw [spec_DrawNatRead_J4.eq]
      unfold spec_DrawNatRead_J4.b
      simp only [h0, decide_false, cond_false, spec_DrawNatRead_J6.eq]
      unfold spec_DrawNatRead_J6.b
      simp only [h1, decide_false, cond_false, spec_DrawNatRead_J8.eq]
      unfold spec_DrawNatRead_J8.b
      simp only [h2, decide_false, cond_false, spec_DrawNatRead_J10.eq]
      unfold spec_DrawNatRead_J10.b
      simp only [h3, b45, (z 45).1, decide_true, cond_true, BA_append]
    by_cases h4 : r = 4
    · obtain ⟨u, s3, e3, q3, _, _⟩ := pick32_ok N 6 s2 _ q2 (by omega)
      by_cases h5 : u = 0
      · obtain ⟨v, s4, e4, _, v0, v1⟩ := pick32_ok N 75 s3 _ q3 (by omega)
        have v1 := v1 (by omega)
        have w1 : IntKind.i64.wrap (1228 + v) = (((1228 + v).toNat : Nat) : Int) := by rw [wrap_i64 (by omega) (by omega)]; omega
        obtain ⟨m, hm, em⟩ := many_ok (α := α) N [48] (1228 + v).toNat (by simp; omega) (by simp) (by omega) (by omega)
        have c1 : (BA [49]).size + (BA m).size ≤ 9223372036854775807 := by rw [BA_size, BA_size]; simp; omega
        refine ⟨[49] ++ m, by simp; omega, fun k => ?_⟩
        rw [spec_DrawNatRead_J4.eq]
        unfold spec_DrawNatRead_J4.b
        simp only [h0, decide_false, cond_false, spec_DrawNatRead_J6.eq]
        unfold spec_DrawNatRead_J6.b
        simp only [h1, decide_false, cond_false, spec_DrawNatRead_J8.eq]
        unfold spec_DrawNatRead_J8.b
        simp only [h2, decide_false, cond_false, spec_DrawNatRead_J10.eq]
        unfold spec_DrawNatRead_J10.b
        simp only [h3, decide_false, cond_false, spec_DrawNatRead_J12.eq]
        unfold spec_DrawNatRead_J12.b
        simp only [h4, decide_true, cond_true, spec_DrawNatRead_J13.eq]
        unfold spec_DrawNatRead_J13.b
        simp only [e3, h5, decide_true, cond_true, e4, w1, b48, em, b49, c1, BA_append]
      · refine ⟨t, by omega, fun k => ?_⟩
        rw [spec_DrawNatRead_J4.eq]
        unfold spec_DrawNatRead_J4.b
        simp only [h0, decide_false, cond_false, spec_DrawNatRead_J6.eq]
        unfold spec_DrawNatRead_J6.b
        simp only [h1, decide_false, cond_false, spec_DrawNatRead_J8.eq]
        unfold spec_DrawNatRead_J8.b
        simp only [h2, decide_false, cond_false, spec_DrawNatRead_J10.eq]
        unfold spec_DrawNatRead_J10.b
        simp only [h3, decide_false, cond_false, spec_DrawNatRead_J12.eq]
        unfold spec_DrawNatRead_J12.b
        simp only [h4, decide_true, cond_true, spec_DrawNatRead_J13.eq]
        unfold spec_DrawNatRead_J13.b
        simp only [e3, h5, decide_false, cond_false]
    · refine ⟨t, by omega, fun k => ?_⟩
      rw [spec_DrawNatRead_J4.eq]
      unfold spec_DrawNatRead_J4.b
      simp only [h0, decide_false, cond_false, spec_DrawNatRead_J6.eq]
      unfold spec_DrawNatRead_J6.b
      simp only [h1, decide_false, cond_false, spec_DrawNatRead_J8.eq]
      unfold spec_DrawNatRead_J8.b
      simp only [h2, decide_false, cond_false, spec_DrawNatRead_J10.eq]
      unfold spec_DrawNatRead_J10.b
      simp only [h3, decide_false, cond_false, spec_DrawNatRead_J12.eq]
      unfold spec_DrawNatRead_J12.b
      simp only [h4, decide_false, cond_false]
  obtain ⟨l, hl2, e3⟩ := j4
  refine ⟨l, hl2, fun k => ?_⟩
  rw [spec_DrawNatRead.eq]
  unfold spec_DrawNatRead.b
  simp only [e, e1, spec_NatText_eq N _ _ hN, et, e2, e3]
theorem natText_law_J7 {α : Type} (N : Nat) (x : List Int) (r : List Int) (hr : r.length ≤ 1000) (k : Bool → Option α) (k1 : List Int → Option α) (hN : cap < N) : laws_FnNatText_J7 N x (natTextB r) r k k1 = k1 x := by
  rw [laws_FnNatText_J7.eq]
  unfold laws_FnNatText_J7.b natTextB
  cases hok : natOkB r
  · simp [BA_empty, eqS_BA]
  · obtain ⟨a, ha, rfl⟩ := natOkB_ex hok
    obtain ⟨d1, d2, d3, d4⟩ := dec_read a
    have hl : (Go.Lib.decDigits a).length ≤ 100000 := by
      have := txt_len ha
      by_cases h0 : a = 0
      · subst h0; rw [dec_small (show 0 < 10 by omega)]; simp
      · unfold txt at this; rw [if_neg h0] at this; omega
    have hne : ¬ Go.Lib.decDigits a = [] := fun h => by rw [h] at d4; simp at d4
    simp only [if_true, val_digs, Int.toNat_natCast, BA_empty, eqS_BA, hne, decide_false, Bool.not_false, cond_true, impl_NatRead_eq N _ _ hl hN, natRead_dec ha, Bool.not_true, cond_false, laws_pwSame_eq N (digs a) (digs a) _ (show (digs a).length ≤ 1048576 by omega) hN, decide_true]
theorem pure_FnNatText (x0 : List Int) (z0 : wfD (.sl (.int .u8)) x0) : ∃ N, laws_FnNatText N x0 some = some true := by
  refine ⟨cap + 1, ?_⟩
  have hN : cap < cap + 1 := by omega
  generalize cap + 1 = N at *
  rw [laws_FnNatText.eq]
  unfold laws_FnNatText.b
  by_cases h1 : (1048576 : Int) < ((x0.length : Nat) : Int)
  · simp [h1]
  obtain ⟨s, e, q⟩ := open32_ok N x0 (bytes_wf z0)
  obtain ⟨r, s1, e1, hr, _⟩ := raw_ok (α := Bool) N s 0 q (by omega) hN
  obtain ⟨l, hl, e2⟩ := drawNatRead_ok (α := Bool) N x0 (bytes_wf z0) hN
  have ed : ∀ k : List Int → Option Bool, spec_DrawNatText N x0 k = k r := by
    intro k
    rw [spec_DrawNatText.eq]
    unfold spec_DrawNatText.b
    simp only [e, e1]
  have hsame : (!(natOkB r == !eqS (natTextB r) ByteArray.empty)) = false := by
    unfold natTextB
    cases hok : natOkB r
    · simp [BA_empty, eqS_BA]
    · obtain ⟨a, ha, rfl⟩ := natOkB_ex hok
      obtain ⟨d1, d2, d3, d4⟩ := dec_read a
      have hne : ¬ Go.Lib.decDigits a = [] := fun h => by rw [h] at d4; simp at d4
      simp [val_digs, BA_empty, eqS_BA, hne]
  simp only [h1, decide_false, cond_false, ed, impl_NatText_eq N _ _ hN, spec_NatOk_eq N _ _ hN, hsame, natText_law_J7 N x0 r (by omega) _ _ hN, e2, impl_NatRead_eq N l _ hl hN, spec_NatRead_eq N l _ hN, beq_self_eq_true, Bool.not_true]
  cases hb : (natReadB l).2
  · simp
  · have hrd : natReadB l = (digs (valT l), true) ∧ valT l < 65536 ^ 256 ∧ l.length ≠ 0 ∧ l.all isDig = true ∧ (1 < l.length → l[0]? ≠ some 48) := by
      unfold natReadB at *
      by_cases hc : l.length = 0 ∨ 1300 < l.length ∨ l.all isDig = false ∨ (1 < l.length ∧ l[0]? = some 48)
      · rw [if_pos hc] at hb; cases hb
      · rw [if_neg hc] at hb ⊢
        rcases fits_cases (valT l) with ⟨h2, h3⟩ | h2
        · refine ⟨h2, h3, fun q => hc (.inl q), ?_, fun q q' => hc (.inr (.inr (.inr ⟨q, q'⟩)))⟩
          cases hq : l.all isDig with
          | true => rfl
          | false => exact absurd (.inr (.inr (.inl hq))) hc
        · rw [h2] at hb; cases hb
    obtain ⟨g1, g2, g3, g4, g5⟩ := hrd
    have hd := read_dec (l.length - 1) l (by omega) g4 g5
    have ht : natTextB (digs (valT l)) = BA l := by
      unfold natTextB
      rw [natOkB_digs g2, if_pos rfl, val_digs]
      show BA (Go.Lib.decDigits (valT l)) = BA l
      rw [hd]
    simp only [g1, Bool.not_true, cond_false, ht, eqS_BA, decide_true]
end Go.Proofs.YtgabephijgjogaaDoorAm
