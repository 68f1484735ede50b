/-
  What the program's functions on naturals compute, in plain words.
-/
import Derived.Test.YtgabephijgjogaaJ
namespace Go.Proofs.YtgabephijgjogaaAm
open Go
set_option linter.unusedVariables false
set_option linter.unusedSimpArgs false

theorem bitI_or {x y : Nat} (hx : x < 9223372036854775808) (hy : y < 9223372036854775808) : bitI .or .i64 (x : Int) (y : Int) = ((x ||| y : Nat) : Int) := by
  have h := Nat.or_lt_two_pow (n := 63) (by simpa using hx) (by simpa using hy)
  show IntKind.i64.wrap (((BitVec.ofInt 64 (x : Int) ||| BitVec.ofInt 64 (y : Int)).toNat : Nat) : Int) = _
  rw [BitVec.ofInt_natCast, BitVec.ofInt_natCast, BitVec.toNat_or, BitVec.toNat_ofNat, BitVec.toNat_ofNat]
  rw [Nat.mod_eq_of_lt (by omega), Nat.mod_eq_of_lt (by omega), wrap_i64 (by omega) (by omega)]
theorem bitI_and {x : Nat} (hx : x < 9223372036854775808) : bitI .and .i64 (x : Int) 65535 = ((x % 65536 : Nat) : Int) := by
  have e : (65535 : Int) = ((65535 : Nat) : Int) := rfl
  have h : x &&& 65535 = x % 65536 := Nat.and_two_pow_sub_one_eq_mod x 16
  rw [e]
  show IntKind.i64.wrap (((BitVec.ofInt 64 (x : Int) &&& BitVec.ofInt 64 ((65535 : Nat) : Int)).toNat : Nat) : Int) = _
  rw [BitVec.ofInt_natCast, BitVec.ofInt_natCast, BitVec.toNat_and, BitVec.toNat_ofNat, BitVec.toNat_ofNat]
  rw [Nat.mod_eq_of_lt (by omega), Nat.mod_eq_of_lt (show 65535 < 2 ^ 64 by decide), h, wrap_i64 (by omega) (by omega)]
theorem shr_i {x k : Nat} (hk : k ≤ 64) : shrI .i64 (x : Int) (k : Int) = ((x / 2 ^ k : Nat) : Int) := by
  unfold shrI
  have h1 : min (k : Int).toNat (IntKind.bits .i64) = k := by simp [IntKind.bits]; omega
  have h2 : (0 : Int) ≤ 2 ^ k := Int.le_of_lt (Int.pow_pos (by decide))
  rw [h1, Int.fdiv_eq_ediv_of_nonneg _ h2, show (2 : Int) ^ k = ((2 ^ k : Nat) : Int) from (Int.natCast_pow 2 k).symm]; rfl
theorem shl_i {x k : Nat} (hk : k ≤ 64) (hb : x * 2 ^ k < 9223372036854775808) : shlI .i64 (x : Int) (k : Int) = ((x * 2 ^ k : Nat) : Int) := by
  unfold shlI
  have h1 : min (k : Int).toNat (IntKind.bits .i64) = k := by simp [IntKind.bits]; omega
  rw [h1, show (2 : Int) ^ k = ((2 ^ k : Nat) : Int) from (Int.natCast_pow 2 k).symm, ← Int.natCast_mul, wrapn hb]
theorem or_add {u v r : Nat} (h : u < 2 ^ r) : v * 2 ^ r ||| u = v * 2 ^ r + u := by
  have := Nat.shiftLeft_add_eq_or_of_lt h v
  rw [Nat.shiftLeft_eq] at this
  exact this.symm
theorem or_add' {u v r : Nat} (h : u < 2 ^ r) : u ||| v * 2 ^ r = u + v * 2 ^ r := by
  rw [Nat.or_comm, or_add h, Nat.add_comm]
theorem impl_trim_loop {α : Type} (N : Nat) (l : List Int) (hb : l.length < 4611686018427387904) (k : List Int → Option α) : ∀ (i n : Nat), i ≤ l.length → i < n →
    impl_trim_L0 N n (l.take i) k = k (l.take (tlen l i)) := by
  intro i
  induction i with
  | zero =>
    intro n h hn
    obtain ⟨m, rfl⟩ : ∃ m, n = m + 1 := ⟨n - 1, by omega⟩
    rw [impl_trim_L0.succ]
    unfold impl_trim_L0r
    simp [tlen]
  | succ i ih =>
    intro n h hn
    obtain ⟨m, rfl⟩ : ∃ m, n = m + 1 := ⟨n - 1, by omega⟩
    have hi : i < l.length := by omega
    have hlen : (l.take (i + 1)).length = i + 1 := by rw [List.length_take]; omega
    have hi2 : i < (l.take (i + 1)).length := by omega
    have hx : (l.take (i + 1))[i] = l.getD i 0 := by rw [List.getElem_take, getD_at hi]
    have ht : (l.take (i + 1)).take i = l.take i := by rw [List.take_take, Nat.min_eq_left (by omega)]
    have hle : (i : Int) ≤ ((i + 1 : Nat) : Int) := by omega
    rw [impl_trim_L0.succ]
    unfold impl_trim_L0r
    simp only [hlen, cast_pos i, cond_true, pred_i (show i < 4611686018427387904 by omega), cast_neg, cond_false, Int.toNat_natCast, List.getElem?_eq_getElem hi2, hx, cast_nn, decide_eq_true hle, ht]
    rw [tlen]
    by_cases h0 : l.getD i 0 = 0
    · simp only [h0, decide_true, cond_true, if_true]; exact ih m (by omega) (by omega)
    · simp only [h0, decide_false, cond_false, if_false]
theorem impl_trim_eq {α : Type} (N : Nat) (l : List Int) (k : List Int → Option α) (hb : l.length < 4611686018427) (hN : l.length < N) : impl_trim N l k = k (tl l) := by
  rw [impl_trim.eq]
  unfold impl_trim.b
  have := impl_trim_loop N l (by omega) (fun x => k x) l.length N (by omega) (by omega)
  rw [List.take_of_length_le (Nat.le_refl _)] at this
  exact this
theorem sgn_lt {x y : Int} (hx : 0 ≤ x ∧ x < 65536) (hy : 0 ≤ y ∧ y < 65536) : maxI (-1) (minI 1 (IntKind.i64.wrap (x - y))) = if x < y then -1 else if y < x then 1 else 0 := by
  rw [wrap_i64 (by omega) (by omega)]
  unfold maxI minI
  split <;> split <;> (try split) <;> omega
theorem impl_natCmp_loop {α : Type} (N : Nat) (a b : List Int) (ha : Dig a) (hb : Dig b) (hl : a.length = b.length) (hm : a.length < 4611686018427387904) (k : Int → Option α) (k1 : Option α) : ∀ (i n : Nat), i ≤ a.length → i < n →
    impl_natCmp_L0 N n a b ((i : Int) - 1) k k1 = if val (a.take i) < val (b.take i) then k (-1) else if val (b.take i) < val (a.take i) then k 1 else k1 := by
  intro i
  induction i with
  | zero =>
    intro n h hn
    obtain ⟨m, rfl⟩ : ∃ m, n = m + 1 := ⟨n - 1, by omega⟩
    rw [impl_natCmp_L0.succ]
    unfold impl_natCmp_L0r
    simp
  | succ i ih =>
    intro n h hn
    obtain ⟨m, rfl⟩ : ∃ m, n = m + 1 := ⟨n - 1, by omega⟩
    have hi : i < a.length := by omega
    have hi2 : i < b.length := by omega
    have e : ((i + 1 : Nat) : Int) - 1 = (i : Int) := by omega
    have e2 : IntKind.i64.wrap ((i : Int) - 1) = (i : Int) - 1 := wrap_i64 (by omega) (by omega)
    rw [impl_natCmp_L0.succ, e]
    unfold impl_natCmp_L0r
    simp only [cast_nn, cast_neg, cond_true, cond_false, Int.toNat_natCast, List.getElem?_eq_getElem hi, List.getElem?_eq_getElem hi2, e2, getD_at hi, getD_at hi2, sgn_lt (dig_getD ha i) (dig_getD hb i)]
    rw [ih m (by omega) (by omega)]
    by_cases h1 : a.getD i 0 < b.getD i 0
    · have h0 : ¬ a.getD i 0 = b.getD i 0 := by omega
      simp only [h0, h1, decide_false, Bool.not_false, cond_true, take_lt_of ha hb h1, if_true]
    · by_cases h2 : b.getD i 0 < a.getD i 0
      · have := take_lt_of hb ha h2
        have h0 : ¬ a.getD i 0 = b.getD i 0 := by omega
        simp only [h0, h1, h2, decide_false, Bool.not_false, cond_true, this, show ¬ val (a.take (i + 1)) < val (b.take (i + 1)) by omega, if_true, if_false]
      · have h0 : a.getD i 0 = b.getD i 0 := by omega
        have := take_eq_of h0
        simp only [h0, decide_true, Bool.not_true, cond_false]
        by_cases h3 : val (a.take i) < val (b.take i)
        · simp only [h3, if_true, show val (a.take (i + 1)) < val (b.take (i + 1)) by omega]
        · by_cases h4 : val (b.take i) < val (a.take i)
          · simp only [h3, h4, if_true, if_false, show val (b.take (i + 1)) < val (a.take (i + 1)) by omega, show ¬ val (a.take (i + 1)) < val (b.take (i + 1)) by omega]
          · simp only [h3, h4, if_false, show ¬ val (b.take (i + 1)) < val (a.take (i + 1)) by omega, show ¬ val (a.take (i + 1)) < val (b.take (i + 1)) by omega]
theorem impl_natCmp_eq {α : Type} (N a b : Nat) (k : Int → Option α) (h1 : a < cap) (h2 : b < cap) (hN : cap < N) : impl_natCmp N (digs a) (digs b) k = k (cmpN a b) := by
  have l1 := len_cap h1
  have l2 := len_cap h2
  have hN := cap_N hN
  rw [impl_natCmp.eq]
  unfold impl_natCmp.b cmpN
  by_cases c1 : (digs a).length = (digs b).length
  · have c2 : (((digs a).length : Nat) : Int) = ((digs b).length : Int) := by omega
    simp only [c2, decide_true, Bool.not_true, cond_false]
    rw [wrap_i64 (by omega) (by omega), impl_natCmp_loop N _ _ (dig_digs a) (dig_digs b) (by omega) (by omega) _ _ (digs b).length N (by omega) (by omega)]
    rw [List.take_of_length_le (by omega), List.take_of_length_le (by omega), val_digs, val_digs]
    by_cases c3 : a < b
    · simp only [c3, if_true, show (a : Int) < b by omega]
    · by_cases c4 : b < a
      · simp only [c3, c4, if_true, if_false, show (b : Int) < a by omega, show ¬ (a : Int) < b by omega]
      · simp only [c3, c4, if_false, show ¬ (b : Int) < a by omega, show ¬ (a : Int) < b by omega]
  · have c2 : ¬ (((digs a).length : Nat) : Int) = ((digs b).length : Int) := by omega
    have sg := sgn_lt (x := ((digs a).length : Int)) (y := ((digs b).length : Int)) (by omega) (by omega)
    simp only [c2, decide_false, Bool.not_false, cond_true, sg]
    by_cases c3 : (digs a).length < (digs b).length
    · simp only [digs_len_lt c3, if_true, show (((digs a).length : Nat) : Int) < ((digs b).length : Int) by omega]
    · have c4 : (digs b).length < (digs a).length := by omega
      have := digs_len_lt c4
      simp only [this, if_true, if_false, show ¬ a < b by omega, show (((digs b).length : Nat) : Int) < ((digs a).length : Int) by omega, show ¬ (((digs a).length : Nat) : Int) < ((digs b).length : Int) by omega]
end Go.Proofs.YtgabephijgjogaaAm
