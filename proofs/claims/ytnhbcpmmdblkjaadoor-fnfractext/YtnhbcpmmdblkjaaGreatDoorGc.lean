/-
  Reading decimals; the law of texts and back.
-/
import Derived.Test.YtnhbcpmmdblkjaaGreatDoorGa
import Derived.Test.YtnhbcpmmdblkjaaGreatDoorN
import Derived.Test.YtnhbcpmmdblkjaaGreatDoorCa
namespace Go.Proofs.YtnhbcpmmdblkjaaGreatDoorAm
open Go
set_option linter.unusedVariables false
set_option linter.unusedSimpArgs false

theorem toListLoop (l : List UInt8) : ∀ (d i : Nat) (r : List UInt8), i + d = l.length → ByteArray.toList.loop (BA l) i r = r.reverse ++ l.drop i := by
  intro d
  induction d with
  | zero =>
    intro i r h
    rw [ByteArray.toList.loop, if_neg (by rw [BA_size]; omega), List.drop_of_length_le (by omega)]; simp
  | succ d ih =>
    intro i r h
    have hi : i < l.length := by omega
    rw [ByteArray.toList.loop, if_pos (by rw [BA_size]; omega), ih (i + 1) _ (by omega), List.drop_eq_getElem_cons hi]
    have : ByteArray.get! (BA l) i = l[i] := by simp [ByteArray.get!, BA, hi]
    simp [this]
theorem BA_toList (l : List UInt8) : (BA l).toList = l := by
  have := toListLoop l l.length 0 [] (by omega)
  simpa [ByteArray.toList] using this
theorem eqS_BA (l m : List UInt8) : eqS (BA l) (BA m) = decide (l = m) := by
  unfold eqS
  rw [BA_toList, BA_toList]
  by_cases h : l = m <;> simp [h]
theorem BA_get (l : List UInt8) (i : Nat) : ((BA l)[i]? : Option UInt8) = l[i]? := by
  by_cases h : i < l.length
  · have h2 : i < (BA l).size := by rw [BA_size]; exact h
    rw [getElem?_pos (BA l) i h2, List.getElem?_eq_getElem h]; rfl
  · have h2 : ¬ i < (BA l).size := by rw [BA_size]; omega
    rw [getElem?_neg (BA l) i h2, List.getElem?_eq_none (by omega)]
theorem BA_of (s : ByteArray) : ∃ l, s = BA l := ⟨s.data.toList, by apply ByteArray.ext; simp [BA]⟩
def isDig (d : UInt8) : Bool := decide (48 ≤ d.toNat) && decide (d.toNat ≤ 57)
def stepD (v : Nat) (d : UInt8) : Nat := v * 10 + (d.toNat - 48)
def valT (l : List UInt8) : Nat := l.foldl stepD 0
def natReadB (l : List UInt8) : List Int × Bool :=
  if l.length = 0 ∨ 1300 < l.length ∨ l.all isDig = false ∨ (1 < l.length ∧ l[0]? = some 48) then ([], false) else fits (valT l)
theorem isDig_ok {d : UInt8} (h : isDig d = true) : 48 ≤ d.toNat ∧ d.toNat ≤ 57 := by
  simpa [isDig] using h
theorem fold_lt : ∀ (l : List UInt8) (v i : Nat), l.all isDig = true → v < 10 ^ i → l.foldl stepD v < 10 ^ (i + l.length)
  | [], v, i, _, h => h
  | d :: r, v, i, ha, h => by
    simp only [List.all_cons, Bool.and_eq_true] at ha
    have hd := isDig_ok ha.1
    have h1 : stepD v d < 10 ^ (i + 1) := by unfold stepD; rw [Nat.pow_succ]; omega
    have := fold_lt r (stepD v d) (i + 1) ha.2 h1
    rw [List.foldl_cons, List.length_cons, show i + (r.length + 1) = i + 1 + r.length by omega]
    exact this
theorem ten_cap {i : Nat} (h : i ≤ 1302) : 10 ^ i < cap := by
  obtain ⟨E, hE⟩ : ∃ E, E = 330 := ⟨_, rfl⟩
  have h1 : 10 ^ i ≤ (2 ^ 4) ^ i := Nat.pow_le_pow_left (by decide) i
  rw [← Nat.pow_mul] at h1
  exact lt_cap (Nat.lt_of_le_of_lt h1 (pow2_cap (E := E) (by omega))) (by omega)
theorem fold_ge : ∀ (l : List UInt8) (v : Nat), v ≤ l.foldl stepD v
  | [], v => Nat.le_refl _
  | d :: r, v => by
    rw [List.foldl_cons]
    refine Nat.le_trans ?_ (fold_ge r (stepD v d))
    unfold stepD; omega
theorem digit_u8 {r : Nat} (h : r < 10) : (UInt8.ofNat (48 + r)).toNat = 48 + r := by
  simp; omega
theorem dec_read (a : Nat) : valT (Go.Lib.decDigits a) = a ∧ (Go.Lib.decDigits a).all isDig = true ∧ (a ≠ 0 → (Go.Lib.decDigits a)[0]? ≠ some 48) ∧ 0 < (Go.Lib.decDigits a).length := by
  induction a using Nat.strongRecOn with
  | _ a ih =>
    by_cases h1 : a < 10
    · rw [dec_small h1]
      have hd := digit_u8 h1
      refine ⟨?_, ?_, ?_, by simp⟩
      · unfold valT
        simp only [List.foldl_cons, List.foldl_nil, stepD, hd]; omega
      · simp only [List.all_cons, List.all_nil, Bool.and_true, isDig, hd, Bool.and_eq_true, decide_eq_true_eq]; omega
      · intro h0 h
        simp only [List.getElem?_cons_zero, Option.some.injEq] at h
        have := congrArg UInt8.toNat h
        rw [hd] at this
        have e : (48 : UInt8).toNat = 48 := rfl
        rw [e] at this; omega
    · obtain ⟨e1, e2, e3, e4⟩ := ih (a / 10) (by omega)
      rw [dec_big h1]
      have hd := digit_u8 (r := a % 10) (by omega)
      refine ⟨?_, ?_, ?_, by simp⟩
      · unfold valT at *
        rw [List.foldl_append, e1]
        simp only [List.foldl_cons, List.foldl_nil, stepD, hd]; omega
      · rw [List.all_append, e2]
        simp only [List.all_cons, List.all_nil, Bool.and_true, isDig, hd, Bool.true_and, Bool.and_eq_true, decide_eq_true_eq]; omega
      · intro _
        rw [List.getElem?_append_left e4]
        exact e3 (by omega)
theorem natRead_dec {a : Nat} (h : a < 65536 ^ 256) : natReadB (Go.Lib.decDigits a) = (digs a, true) := by
  obtain ⟨e1, e2, e3, e4⟩ := dec_read a
  have hl := txt_len h
  have hl2 : (Go.Lib.decDigits a).length ≤ 1280 := by
    by_cases h0 : a = 0
    · subst h0; rw [dec_small (show 0 < 10 by omega)]; simp
    · unfold txt at hl; rw [if_neg h0] at hl; exact hl
  unfold natReadB
  rw [if_neg, e1, fits_of h]
  rintro (q | q | q | ⟨q, q'⟩)
  · omega
  · omega
  · rw [e2] at q; cases q
  · by_cases h0 : a = 0
    · subst h0; rw [dec_small (show 0 < 10 by omega)] at q; simp at q
    · exact e3 h0 q'
theorem read_dec : ∀ (n : Nat) (l : List UInt8), l.length = n + 1 → l.all isDig = true → (1 < l.length → l[0]? ≠ some 48) → Go.Lib.decDigits (valT l) = l := by
  intro n
  induction n with
  | zero =>
    intro l hl ha _
    obtain ⟨d, rfl⟩ := List.length_eq_one_iff.1 (by omega : l.length = 1)
    simp only [List.all_cons, List.all_nil, Bool.and_true] at ha
    have hd := isDig_ok ha
    have e : valT [d] = d.toNat - 48 := by unfold valT; simp [stepD]
    rw [e, dec_small (by omega), show 48 + (d.toNat - 48) = d.toNat by omega, UInt8.ofNat_toNat]
  | succ n ih =>
    intro l hl ha hh
    obtain ⟨m, d, rfl⟩ : ∃ m d, l = m ++ [d] := by
      rcases List.eq_nil_or_concat l with h | ⟨m, d, h⟩
      · subst h; simp at hl
      · exact ⟨m, d, by simpa using h⟩
    have hm : m.length = n + 1 := by simp at hl; omega
    rw [List.all_append, Bool.and_eq_true] at ha
    simp only [List.all_cons, List.all_nil, Bool.and_true] at ha
    have hd := isDig_ok ha.2
    have h0 : m[0]? ≠ some 48 := by
      have := hh (by simp; omega)
      rwa [List.getElem?_append_left (by omega)] at this
    have e := ih m hm ha.1 fun _ => h0
    have ev : valT (m ++ [d]) = valT m * 10 + (d.toNat - 48) := by unfold valT; rw [List.foldl_append]; rfl
    have hpos : 1 ≤ valT m := by
      cases m with
      | nil => simp at hm
      | cons x r =>
        simp only [List.getElem?_cons_zero, ne_eq, Option.some.injEq] at h0
        have hx := isDig_ok (by simp only [List.all_cons, Bool.and_eq_true] at ha; exact ha.1.1 : isDig x = true)
        have hx2 : x.toNat ≠ 48 := fun q => h0 (by rw [← UInt8.ofNat_toNat (x := x), q]; rfl)
        have := fold_ge r (stepD 0 x)
        unfold valT
        rw [List.foldl_cons]
        unfold stepD at *
        omega
    rw [ev, dec_big (by omega), show (valT m * 10 + (d.toNat - 48)) / 10 = valT m by omega, show (valT m * 10 + (d.toNat - 48)) % 10 = d.toNat - 48 by omega, e, show 48 + (d.toNat - 48) = d.toNat by omega, UInt8.ofNat_toNat]
theorem dig_wraps {d : UInt8} (h : isDig d = true) : IntKind.u64.wrap (IntKind.u8.wrap (((d.toNat : Nat) : Int) - 48)) = ((d.toNat - 48 : Nat) : Int) ∧ ¬ ((d.toNat : Nat) : Int) < 48 ∧ ¬ (57 : Int) < ((d.toNat : Nat) : Int) := by
  have hd := isDig_ok h
  have w1 : IntKind.u8.wrap (((d.toNat : Nat) : Int) - 48) = ((d.toNat - 48 : Nat) : Int) := by
    simp [IntKind.wrap, IntKind.bits, IntKind.signed]; omega
  rw [w1]
  exact ⟨wrap_u64 (by omega) (by omega), by omega, by omega⟩
theorem dig_not {d : UInt8} (h : isDig d = false) : ((d.toNat : Nat) : Int) < 48 ∨ (¬ ((d.toNat : Nat) : Int) < 48 ∧ (57 : Int) < ((d.toNat : Nat) : Int)) := by
  simp only [isDig, Bool.and_eq_false_iff, decide_eq_false_iff_not] at h
  omega
theorem impl_isDigits_loop {α : Type} (N : Nat) (l : List UInt8) (hb : l.length ≤ 100000) (k0 : Bool → Option α) (k1 : ByteArray → Option α) : ∀ (d i n : Nat), i + d = l.length → d < n →
    impl_isDigits_L0 N n (BA l) ((l.length : Nat) : Int) (i : Int) k0 k1 = if (l.drop i).all isDig = true then k1 (BA l) else k0 false := by
  intro d
  induction d with
  | zero =>
    intro i n h hn
    obtain ⟨n, rfl⟩ : ∃ m, n = m + 1 := ⟨n - 1, by omega⟩
    rw [impl_isDigits_L0.succ]
    unfold impl_isDigits_L0r
    simp only [cast_nlt (show ¬ i < l.length by omega), cond_false, List.drop_of_length_le (show l.length ≤ i by omega), List.all_nil, if_true]
  | succ d ih =>
    intro i n h hn
    obtain ⟨n, rfl⟩ : ∃ m, n = m + 1 := ⟨n - 1, by omega⟩
    have hi : i < l.length := by omega
    rw [impl_isDigits_L0.succ]
    unfold impl_isDigits_L0r
    simp only [cast_lt hi, cast_neg, cond_true, cond_false, Int.toNat_natCast, BA_get, List.getElem?_eq_getElem hi, List.drop_eq_getElem_cons hi, List.all_cons, succ_i (show i < 4611686018427387904 by omega)]
    cases hd : isDig l[i]
    · rcases dig_not hd with c | ⟨c, c'⟩
      · simp [c]
      · simp [c, c']
    · obtain ⟨_, c1, c2⟩ := dig_wraps hd
      simp only [c1, c2, decide_false, cond_false, Bool.true_and]
      exact ih (i + 1) n (by omega) (by omega)
theorem impl_isDigits_eq {α : Type} (N : Nat) (l : List UInt8) (k : Bool → Option α) (hb : l.length ≤ 100000) (hN : 1048576 < N) : impl_isDigits N (BA l) k = k (l.all isDig && decide (l ≠ [])) := by
  rw [impl_isDigits.eq]
  unfold impl_isDigits.b
  simp only [BA_size]
  refine (impl_isDigits_loop N l hb _ _ l.length 0 N (by omega) (by omega)).trans ?_
  rw [List.drop_zero]
  cases l.all isDig
  · simp
  · simp only [if_true, BA_empty, eqS_BA, Bool.true_and]
    by_cases h : l = [] <;> simp [h]
theorem impl_natRead_loop {α : Type} (N : Nat) (l : List UInt8) (hb : l.length ≤ 1300) (ha : l.all isDig = true) (hN : cap < N) (k : List Int → Option α) : ∀ (d i n v : Nat), i + d = l.length → d < n → v < 10 ^ i →
    impl_natRead_L0 N n (BA l) (digs v) ((l.length : Nat) : Int) (i : Int) k = k (digs ((l.drop i).foldl stepD v)) := by
  intro d
  induction d with
  | zero =>
    intro i n v h hn hv
    obtain ⟨n, rfl⟩ : ∃ m, n = m + 1 := ⟨n - 1, by omega⟩
    rw [impl_natRead_L0.succ]
    unfold impl_natRead_L0r
    simp only [cast_nlt (show ¬ i < l.length by omega), cond_false, List.drop_of_length_le (show l.length ≤ i by omega), List.foldl_nil]
  | succ d ih =>
    intro i n v h hn hv
    obtain ⟨n, rfl⟩ : ∃ m, n = m + 1 := ⟨n - 1, by omega⟩
    have hi : i < l.length := by omega
    have hd : isDig l[i] = true := List.all_eq_true.1 ha _ (List.getElem_mem hi)
    obtain ⟨w1, c1, c2⟩ := dig_wraps hd
    have hd2 := isDig_ok hd
    have e10 : [(10 : Int)] = digs 10 := (digs_one (n := 10) (by omega) (by omega)).symm
    have v1 : v < cap := Nat.lt_trans hv (ten_cap (by omega))
    have h10 : 10 < cap := by have := cap_ge; omega
    have hx : l[i].toNat - 48 < cap := by have := cap_ge; omega
    have hv2 : stepD v l[i] < 10 ^ (i + 1) := by unfold stepD; rw [Nat.pow_succ]; omega
    have v2 : v * 10 < cap := by
      have := ten_cap (i := i + 1) (by omega)
      rw [Nat.pow_succ] at this; omega
    rw [impl_natRead_L0.succ]
    unfold impl_natRead_L0r
    simp only [cast_lt hi, cast_neg, cond_true, cond_false, Int.toNat_natCast, BA_get, List.getElem?_eq_getElem hi, e10, impl_natMul_eq N v 10 _ v1 h10 hN, w1, impl_natOf_eq N _ _ (show l[i].toNat - 48 < 18446744073709551616 by omega) hN, impl_natAdd_eq N _ _ _ v2 hx hN, succ_i (show i < 4611686018427387904 by omega), List.drop_eq_getElem_cons hi, List.foldl_cons]
    exact ih (i + 1) n (stepD v l[i]) (by omega) (by omega) hv2
theorem impl_natRead_eq {α : Type} (N : Nat) (l : List UInt8) (k : List Int → Option α) (hb : l.length ≤ 1300) (ha : l.all isDig = true) (hN : cap < N) : impl_natRead N (BA l) k = k (digs (valT l)) := by
  have hNN := cap_N hN
  rw [impl_natRead.eq]
  unfold impl_natRead.b
  simp only [BA_size]
  have := impl_natRead_loop N l hb ha hN (fun x => k x) l.length 0 N 0 (by omega) (by omega) (by simp)
  rw [digs_zero, List.drop_zero] at this
  exact this
theorem valT_cap {l : List UInt8} (hb : l.length ≤ 1300) (ha : l.all isDig = true) : valT l < cap := by
  have := fold_lt l 0 0 ha (by simp)
  rw [Nat.zero_add] at this
  exact Nat.lt_trans this (ten_cap (by omega))
theorem impl_NatRead_eq {α : Type} (N : Nat) (l : List UInt8) (k : Bool → List Int → Option α) (hl : l.length ≤ 2000000) (hN : cap < N) : impl_NatRead N (BA l) k = k (natReadB l).2 (natReadB l).1 := by
  have hNN := cap_N hN
  rw [impl_NatRead.eq]
  unfold impl_NatRead.b natReadB
  simp only [BA_size]
  by_cases h1 : 1300 < l.length
  · have c : (1300 : Int) < ((l.length : Nat) : Int) := by omega
    rw [if_pos (.inr (.inl h1))]
    simp [c]
  have c : ¬ (1300 : Int) < ((l.length : Nat) : Int) := by omega
  simp only [c, decide_false, cond_false, impl_isDigits_eq N l _ (show l.length ≤ 100000 by omega) (show 1048576 < N by omega)]
  by_cases h0 : l.length = 0
  · have : l = [] := List.eq_nil_of_length_eq_zero h0
    subst this
    simp
  have hne : l ≠ [] := by rintro rfl; simp at h0
  cases ha : l.all isDig
  · rw [if_pos (.inr (.inr (.inl rfl)))]
    simp
  simp only [hne, ne_eq, not_false_eq_true, decide_true, Bool.and_self, Bool.not_true, cond_false]
  have hi : 0 < l.length := by omega
  have hg : ((BA l)[0]? : Option UInt8) = some l[0] := by rw [BA_get, List.getElem?_eq_getElem hi]
  have hr : ∀ K : Bool → List Int → Option α, impl_natRead N (BA l) (fun x => impl_told N x true (fun a b => K a b)) = K (fits (valT l)).2 (fits (valT l)).1 := by
    intro K
    rw [impl_natRead_eq N l _ (by omega) ha hN, impl_told_eq N _ _ (valT_cap (by omega) ha) hN]
  rw [hg]
  simp only [hr]
  have h48 : ((l[0].toNat : Nat) : Int) = 48 ↔ l[0]? = some 48 := by
    rw [List.getElem?_eq_getElem hi, Option.some.injEq]
    constructor
    · intro h
      have : l[0].toNat = 48 := by omega
      rw [← UInt8.ofNat_toNat (x := l[0]), this]; rfl
    · intro h; rw [h]; rfl
  by_cases hz : l[0]? = some 48
  · have := h48.2 hz
    by_cases h2 : 1 < l.length
    · have c2 : (1 : Int) < ((l.length : Nat) : Int) := by omega
      rw [if_pos (.inr (.inr (.inr ⟨h2, hz⟩)))]
      simp [this, c2]
    · have c2 : ¬ (1 : Int) < ((l.length : Nat) : Int) := by omega
      rw [if_neg (by rintro (q | q | q | ⟨q, _⟩); omega; omega; cases q; omega)]
      simp only [this, decide_true, cond_true, c2, decide_false, cond_false]
  · have : ¬ ((l[0].toNat : Nat) : Int) = 48 := fun q => hz (h48.1 q)
    rw [if_neg (by rintro (q | q | q | ⟨_, q⟩); omega; omega; cases q; exact hz q)]
    simp only [this, decide_false, cond_false]
theorem spec_NatRead_loop {α : Type} (N : Nat) (l : List UInt8) (hb : l.length ≤ 1300) (hN : cap < N) (k0 : List Int → Bool → Option α) (k1 : List Int → Option α) : ∀ (d i n v : Nat), i + d = l.length → d < n → v < 10 ^ i →
    spec_NatRead_L0 N n (BA l) (i : Int) (digs v) k0 k1 = if (l.drop i).all isDig = true then k1 (digs ((l.drop i).foldl stepD v)) else k0 [] false := by
  intro d
  induction d with
  | zero =>
    intro i n v h hn hv
    obtain ⟨n, rfl⟩ : ∃ m, n = m + 1 := ⟨n - 1, by omega⟩
    rw [spec_NatRead_L0.succ]
    unfold spec_NatRead_L0r
    simp only [BA_size, cast_nlt (show ¬ i < l.length by omega), cond_false, List.drop_of_length_le (show l.length ≤ i by omega), List.foldl_nil, List.all_nil, if_true]
  | succ d ih =>
    intro i n v h hn hv
    obtain ⟨n, rfl⟩ : ∃ m, n = m + 1 := ⟨n - 1, by omega⟩
    have hi : i < l.length := by omega
    rw [spec_NatRead_L0.succ]
    unfold spec_NatRead_L0r
    simp only [BA_size, cast_lt hi, cast_neg, cond_true, cond_false, Int.toNat_natCast, BA_get, List.getElem?_eq_getElem hi, List.drop_eq_getElem_cons hi, List.all_cons, List.foldl_cons, succ_i (show i < 4611686018427387904 by omega)]
    cases hd : isDig l[i]
    · rcases dig_not hd with c | ⟨c, c'⟩
      · simp [c]
      · simp [c, c']
    · obtain ⟨w1, c1, c2⟩ := dig_wraps hd
      have hd2 := isDig_ok hd
      have e10 : [(10 : Int)] = digs 10 := (digs_one (n := 10) (by omega) (by omega)).symm
      have v1 : v < cap := Nat.lt_trans hv (ten_cap (by omega))
      have h10 : 10 < cap := by have := cap_ge; omega
      have hx : l[i].toNat - 48 < cap := by have := cap_ge; omega
      have hv2 : stepD v l[i] < 10 ^ (i + 1) := by unfold stepD; rw [Nat.pow_succ]; omega
      have v3 : v * 10 + (l[i].toNat - 48) < cap := Nat.lt_trans hv2 (ten_cap (by omega))
      have v2 : v * 10 < cap := by omega
      have l3 := len_cap v3
      have hNN := cap_N hN
      have ht : ∀ K : List Int → Option α, spec_l5Times N (digs v) 10 K = K (digs (v * 10)) := by
        intro K
        rw [spec_l5Times.eq]
        unfold spec_l5Times.b
        have c : ¬ (10 : Int) = 0 := by omega
        simp only [c, decide_false, cond_false, e10, spec_l5Mul_eq N v 10 _ v1 h10 hN]
      simp only [c1, c2, decide_false, cond_false, Bool.true_and, ht, w1, spec_NatOf_eq N _ _ (show l[i].toNat - 48 < 18446744073709551616 by omega) hN, spec_l5Add_eq N _ _ _ v2 hx hN, spec_l5Trim_eq N _ _ (show (digs (v * 10 + (l[i].toNat - 48))).length < 4611686018427 by omega) (show (digs (v * 10 + (l[i].toNat - 48))).length < N by omega), tl_digs]
      exact ih (i + 1) n (stepD v l[i]) (by omega) (by omega) hv2
theorem spec_NatRead_eq {α : Type} (N : Nat) (l : List UInt8) (k : List Int → Bool → Option α) (hN : cap < N) : spec_NatRead N (BA l) k = k (natReadB l).1 (natReadB l).2 := by
  have hNN := cap_N hN
  rw [spec_NatRead.eq]
  unfold spec_NatRead.b
  simp only [BA_size]
  by_cases h0 : l.length = 0
  · have c : ((l.length : Nat) : Int) = 0 := by omega
    have hv : natReadB l = ([], false) := by unfold natReadB; rw [if_pos (.inl h0)]
    rw [hv]
    simp only [c, decide_true, cond_true]
  by_cases h1 : 1300 < l.length
  · have c0 : ¬ ((l.length : Nat) : Int) = 0 := by omega
    have c : (1300 : Int) < ((l.length : Nat) : Int) := by omega
    have hv : natReadB l = ([], false) := by unfold natReadB; rw [if_pos (.inr (.inl h1))]
    rw [hv]
    simp only [c0, c, decide_true, decide_false, cond_true, cond_false]
  have c0 : ¬ ((l.length : Nat) : Int) = 0 := by omega
  have c1 : ¬ (1300 : Int) < ((l.length : Nat) : Int) := by omega
  have hi : 0 < l.length := by omega
  have hg : ((BA l)[0]? : Option UInt8) = some l[0] := by rw [BA_get, List.getElem?_eq_getElem hi]
  have hloop : ∀ (K0 : List Int → Bool → Option α), spec_NatRead_L0 N N (BA l) 0 [] (fun a b => K0 a b) (fun x => spec_l5Fits N x (fun a b => K0 a b)) = if l.all isDig = true then K0 (fits (valT l)).1 (fits (valT l)).2 else K0 [] false := by
    intro K0
    have := spec_NatRead_loop N l (by omega) hN (fun a b => K0 a b) (fun x => spec_l5Fits N x (fun a b => K0 a b)) l.length 0 N 0 (by omega) (by omega) (by simp)
    rw [digs_zero, List.drop_zero] at this
    refine this.trans ?_
    simp only [spec_l5Fits_eq]
    rfl
  have h48 : ((l[0].toNat : Nat) : Int) = 48 ↔ l[0]? = some 48 := by
    rw [List.getElem?_eq_getElem hi, Option.some.injEq]
    constructor
    · intro h
      have : l[0].toNat = 48 := by omega
      rw [← UInt8.ofNat_toNat (x := l[0]), this]; rfl
    · intro h; rw [h]; rfl
  simp only [c0, c1, decide_false, cond_false, hg, hloop]
  by_cases h2 : 1 < l.length
  · have c2 : (1 : Int) < ((l.length : Nat) : Int) := by omega
    simp only [c2, decide_true, cond_true]
    by_cases hz : l[0]? = some 48
    · have hv : natReadB l = ([], false) := by unfold natReadB; rw [if_pos (.inr (.inr (.inr ⟨h2, hz⟩)))]
      rw [hv]
      simp only [h48.2 hz, decide_true, cond_true]
    · have : ¬ ((l[0].toNat : Nat) : Int) = 48 := fun q => hz (h48.1 q)
      simp only [this, decide_false, cond_false]
      cases ha : l.all isDig
      · have hv : natReadB l = ([], false) := by unfold natReadB; rw [if_pos (.inr (.inr (.inl ha)))]
        rw [hv]; simp
      · have hv : natReadB l = fits (valT l) := by unfold natReadB; rw [if_neg (by rintro (q | q | q | ⟨_, q⟩); omega; omega; (rw [ha] at q; cases q); exact hz q)]
        rw [hv]; simp
  · have c2 : ¬ (1 : Int) < ((l.length : Nat) : Int) := by omega
    simp only [c2, decide_false, cond_false]
    cases ha : l.all isDig
    · have hv : natReadB l = ([], false) := by unfold natReadB; rw [if_pos (.inr (.inr (.inl ha)))]
      rw [hv]; simp
    · have hv : natReadB l = fits (valT l) := by unfold natReadB; rw [if_neg (by rintro (q | q | q | ⟨q, _⟩); omega; omega; (rw [ha] at q; cases q); omega)]
      rw [hv]; simp
end Go.Proofs.YtnhbcpmmdblkjaaGreatDoorAm
