/-
  Patterns of bits and the floats' numbers: there and back; boxes from patterns.
-/
import Derived.Test.YtaelbfbplamahaaDoorBb
import Derived.Test.YtaelbfbplamahaaDoorB
import Derived.Test.YtaelbfbplamahaaDoorE
namespace Go.Proofs.YtaelbfbplamahaaDoorAm
open Go
set_option linter.unusedVariables false
set_option linter.unusedSimpArgs false

def half (w : Int) : Nat := if w = 32 then 2147483648 else 9223372036854775808
def bitBits (w o : Int) : Int := if bitOk w o = true then (if o < 0 then (half w : Int) - o else o) else 0
def bitOrd (w x : Int) : Int × Bool :=
  if w = 32 ∨ w = 64 then
    if w = 32 ∧ 4294967296 ≤ x then (0, false)
    else if top w < x % half w then (0, false)
    else if (half w : Int) ≤ x then (-(x % half w), true) else (x % half w, true)
  else (0, false)
theorem half_shl {w : Int} (hw : w = 32 ∨ w = 64) : shlI .u64 (1 : Int) (IntKind.i64.wrap (w - 1)) = (half w : Int) := by
  rcases hw with rfl | rfl <;> rfl
theorem half_shl2 {w : Int} (hw : w = 32 ∨ w = 64) : shlI .u64 (1 : Int) (IntKind.u64.wrap (IntKind.i64.wrap (w - 1))) = (half w : Int) := by
  rcases hw with rfl | rfl <;> rfl
theorem half_in {w : Int} (hw : w = 32 ∨ w = 64) : ¬ IntKind.i64.wrap (w - 1) < 0 ∧ ¬ IntKind.u64.wrap (IntKind.i64.wrap (w - 1)) < 0 ∧ top w < half w ∧ 0 < half w ∧ (half w : Int) ≤ 9223372036854775808 := by
  rcases hw with rfl | rfl <;> decide
theorem half_pow {w : Int} (hw : w = 32 ∨ w = 64) : ∃ k, k ≤ 63 ∧ half w = 2 ^ k ∧ (w = 32 → k = 31) ∧ (w = 64 → k = 63) := by
  rcases hw with rfl | rfl
  · exact ⟨31, by decide, by decide, by decide, by decide⟩
  · exact ⟨63, by decide, by decide, by decide, by decide⟩
theorem borW {x k : Nat} (hx : x < 2 ^ k) (hk : k ≤ 63) : bitI .or .u64 (x : Int) ((2 ^ k : Nat) : Int) = ((2 ^ k + x : Nat) : Int) := by
  have hp : 2 ^ k ≤ 2 ^ 63 := Nat.pow_le_pow_right (by omega) hk
  have e : x ||| 2 ^ k = 2 ^ k + x := by
    rw [Nat.or_comm]
    have := orAdd (v := 1) hx
    rw [Nat.one_mul] at this
    exact this
  show IntKind.u64.wrap (((BitVec.ofInt 64 (x : Int) ||| BitVec.ofInt 64 ((2 ^ k : Nat) : Int)).toNat : Nat) : Int) = _
  rw [BitVec.ofInt_natCast, BitVec.ofInt_natCast, BitVec.toNat_or, BitVec.toNat_ofNat, BitVec.toNat_ofNat]
  rw [Nat.mod_eq_of_lt (by omega), Nat.mod_eq_of_lt (by omega), e, wrap_u64 (by omega) (by omega)]
theorem andNotW {x k : Nat} (hx : x < 2 ^ (k + 1)) (hk : k ≤ 63) : bitI .andNot .u64 (x : Int) ((2 ^ k : Nat) : Int) = ((x % 2 ^ k : Nat) : Int) := by
  have hp : 2 ^ k ≤ 2 ^ 63 := Nat.pow_le_pow_right (by omega) hk
  have hm : x % 2 ^ k < 2 ^ k := Nat.mod_lt _ (Nat.pow_pos (by omega))
  have e : BitVec.ofNat 64 x &&& ~~~ BitVec.ofNat 64 (2 ^ k) = BitVec.ofNat 64 (x % 2 ^ k) := by
    apply BitVec.eq_of_getLsbD_eq
    intro i hi
    simp only [BitVec.getLsbD_and, BitVec.getLsbD_not, BitVec.getLsbD_ofNat, Nat.testBit_two_pow, Nat.testBit_mod_two_pow, hi, decide_true, Bool.true_and]
    by_cases h1 : i < k
    · have : ¬ k = i := by omega
      simp [h1, this]
    · by_cases h2 : k = i
      · simp [h1, h2]
      · have : x.testBit i = false := Nat.testBit_lt_two_pow (Nat.lt_of_lt_of_le hx (Nat.pow_le_pow_right (by omega) (by omega)))
        simp [this]
  show IntKind.u64.wrap (((BitVec.ofInt 64 (x : Int) &&& ~~~ BitVec.ofInt 64 ((2 ^ k : Nat) : Int)).toNat : Nat) : Int) = _
  rw [BitVec.ofInt_natCast, BitVec.ofInt_natCast, e, BitVec.toNat_ofNat, Nat.mod_eq_of_lt (by omega), wrap_u64 (by omega) (by omega)]
theorem bandW {x k : Nat} (hx : x < 2 ^ (k + 1)) (hk : k ≤ 63) : bitI .and .u64 (x : Int) ((2 ^ k : Nat) : Int) = ((if 2 ^ k ≤ x then 2 ^ k else 0 : Nat) : Int) := by
  have hp : 2 ^ k ≤ 2 ^ 63 := Nat.pow_le_pow_right (by omega) hk
  have e : BitVec.ofNat 64 x &&& BitVec.ofNat 64 (2 ^ k) = BitVec.ofNat 64 (if 2 ^ k ≤ x then 2 ^ k else 0) := by
    apply BitVec.eq_of_getLsbD_eq
    intro i hi
    have hz : (0 : Nat).testBit i = false := Nat.zero_testBit i
    by_cases h3 : 2 ^ k ≤ x
    · have hb : x.testBit k = true := Nat.testBit_of_two_pow_le_and_two_pow_add_one_gt h3 hx
      simp only [BitVec.getLsbD_and, BitVec.getLsbD_ofNat, Nat.testBit_two_pow, hi, decide_true, Bool.true_and, h3, if_true]
      by_cases h2 : k = i
      · subst h2; simp [hb]
      · simp [h2]
    · have hb : x.testBit k = false := Nat.testBit_lt_two_pow (by omega)
      simp only [BitVec.getLsbD_and, BitVec.getLsbD_ofNat, Nat.testBit_two_pow, hi, decide_true, Bool.true_and, h3, if_false, hz]
      by_cases h2 : k = i
      · subst h2; simp [hb]
      · simp [h2]
  have hl : (if 2 ^ k ≤ x then 2 ^ k else 0 : Nat) ≤ 2 ^ 63 := by split <;> omega
  show IntKind.u64.wrap (((BitVec.ofInt 64 (x : Int) &&& BitVec.ofInt 64 ((2 ^ k : Nat) : Int)).toNat : Nat) : Int) = _
  rw [BitVec.ofInt_natCast, BitVec.ofInt_natCast, e, BitVec.toNat_ofNat, Nat.mod_eq_of_lt (by omega), wrap_u64 (by omega) (by omega)]
theorem bitBits_range (w o : Int) : 0 ≤ bitBits w o ∧ bitBits w o < 18446744073709551616 := by
  unfold bitBits
  by_cases h : bitOk w o = true
  · obtain ⟨hw, h1, h2⟩ := bitOk_w h
    have hh : (half w : Int) ≤ 9223372036854775808 := by rcases hw with rfl | rfl <;> decide
    have ht := top_nonneg w
    rw [if_pos h]
    split <;> omega
  · rw [if_neg h]; omega
theorem bitOrd_bits {w o : Int} (h : bitOk w o = true) : bitOrd w (bitBits w o) = (o, true) := by
  obtain ⟨hw, h1, h2⟩ := bitOk_w h
  obtain ⟨_, _, h3, h4, h5⟩ := half_in hw
  have h6 : w = 32 → (half w : Int) = 2147483648 := by rintro rfl; rfl
  unfold bitOrd bitBits
  rw [if_pos hw, if_pos h]
  by_cases h0 : o < 0
  · have e : ((half w : Int) - o) % (half w : Int) = -o := by
      rw [show (half w : Int) - o = -o + half w by omega, Int.add_emod_right, Int.emod_eq_of_lt (by omega) (by omega)]
    rw [if_pos h0, e, if_neg (by rintro ⟨a, b⟩; have := h6 a; omega), if_neg (by omega), if_pos (by omega), Int.neg_neg]
  · have e : o % (half w : Int) = o := Int.emod_eq_of_lt (by omega) (by omega)
    rw [if_neg h0, e, if_neg (by rintro ⟨a, b⟩; have := h6 a; omega), if_neg (by omega), if_neg (by omega)]
theorem spec_BitBits_eq {α : Type} (N : Nat) (w o : Int) (k : Int → Option α) : spec_BitBits N w o k = k (bitBits w o) := by
  rw [spec_BitBits.eq]
  unfold spec_BitBits.b bitBits
  simp only [spec_BitOk_eq]
  by_cases h : bitOk w o = true
  · obtain ⟨hw, h1, h2⟩ := bitOk_w h
    obtain ⟨c1, c2, h3, h4, h5⟩ := half_in hw
    have ht := top_nonneg w
    simp only [h, Bool.not_true, cond_false, if_true, c2, decide_false, half_shl2 hw]
    by_cases h0 : o < 0
    · have w1 : IntKind.i64.wrap (0 - o) = -o := by rw [wrap_i64 (by omega) (by omega)]; omega
      have w2 : IntKind.u64.wrap (-o) = -o := wrap_u64 (by omega) (by omega)
      have w3 : IntKind.u64.wrap ((half w : Int) + -o) = (half w : Int) - o := by rw [wrap_u64 (by omega) (by omega)]; omega
      simp only [h0, decide_true, cond_true, w1, w2, w3, if_true]
    · have w2 : IntKind.u64.wrap o = o := wrap_u64 (by omega) (by omega)
      simp only [h0, decide_false, cond_false, w2, if_false]
  · simp [h]
theorem impl_BitBits_eq {α : Type} (N : Nat) (w o : Int) (k : Int → Option α) : impl_BitBits N w o k = k (bitBits w o) := by
  rw [impl_BitBits.eq]
  unfold impl_BitBits.b bitBits
  simp only [impl_BitOk_eq]
  by_cases h : bitOk w o = true
  · obtain ⟨hw, h1, h2⟩ := bitOk_w h
    obtain ⟨c1, c2, h3, h4, h5⟩ := half_in hw
    obtain ⟨p, hp, hh, _⟩ := half_pow hw
    have ht := top_nonneg w
    simp only [h, Bool.not_true, cond_false, if_true, c1, decide_false, half_shl hw]
    by_cases h0 : o < 0
    · obtain ⟨n, rfl⟩ : ∃ n : Nat, o = -(n : Int) := ⟨(-o).toNat, by omega⟩
      have w1 : IntKind.i64.wrap (0 - -(n : Int)) = (n : Int) := by rw [wrap_i64 (by omega) (by omega)]; omega
      have w2 : IntKind.u64.wrap (n : Int) = (n : Int) := wrap_u64 (by omega) (by omega)
      have hb := borW (x := n) (k := p) (by omega) hp
      rw [← hh] at hb
      have e : ((half w + n : Nat) : Int) = (half w : Int) - -(n : Int) := by omega
      simp only [h0, decide_true, cond_true, w1, w2, hb, if_true, e]
    · have w2 : IntKind.u64.wrap o = o := wrap_u64 (by omega) (by omega)
      simp only [h0, decide_false, cond_false, w2, if_false]
  · simp [h]
theorem spec_BitOrd_eq {α : Type} (N : Nat) (w x : Int) (k : Int → Bool → Option α) (hx0 : 0 ≤ x) (hx1 : x < 18446744073709551616) : spec_BitOrd N w x k = k (bitOrd w x).1 (bitOrd w x).2 := by
  rw [spec_BitOrd.eq]
  unfold spec_BitOrd.b bitOrd
  simp only [spec_l1Width_eq, spec_BitTop_eq]
  by_cases hw : w = 32 ∨ w = 64
  · obtain ⟨c1, c2, h3, h4, h5⟩ := half_in hw
    have ht := top_nonneg w
    obtain ⟨n, rfl⟩ : ∃ n : Nat, x = (n : Int) := ⟨x.toNat, by omega⟩
    have s1 : shrI .u64 (n : Int) (32 : Int) = ((n / 2 ^ 32 : Nat) : Int) := shrN (k := 32) rfl (by omega)
    have w1 : IntKind.u64.wrap (top w) = top w := wrap_u64 (by omega) (by omega)
    have c3 : ¬ (half w : Int) = 0 := by omega
    have hm : n % half w < half w := Nat.mod_lt _ h4
    have w2 : top w < ((n % half w : Nat) : Int) ∨ IntKind.i64.wrap ((n % half w : Nat) : Int) = ((n % half w : Nat) : Int) := by
      by_cases h : top w < ((n % half w : Nat) : Int)
      · exact .inl h
      · exact .inr (wrap_i64 (by omega) (by omega))
    have w3 : top w < ((n % half w : Nat) : Int) ∨ IntKind.i64.wrap (0 - ((n % half w : Nat) : Int)) = -((n % half w : Nat) : Int) := by
      by_cases h : top w < ((n % half w : Nat) : Int)
      · exact .inl h
      · exact .inr (by rw [wrap_i64 (by omega) (by omega)]; omega)
    have e : ((n : Int) % (half w : Int)) = ((n % half w : Nat) : Int) := rfl
    have key : (bif (decide (top w < ((n % half w : Nat) : Int))) then k 0 false else bif decide ((half w : Int) ≤ (n : Int)) then k (IntKind.i64.wrap (0 - IntKind.i64.wrap ((n % half w : Nat) : Int))) true else k (IntKind.i64.wrap ((n % half w : Nat) : Int)) true) =
        k (if top w < ((n % half w : Nat) : Int) then ((0, false) : Int × Bool) else if (half w : Int) ≤ (n : Int) then (-((n % half w : Nat) : Int), true) else (((n % half w : Nat) : Int), true)).1 (if top w < ((n % half w : Nat) : Int) then ((0, false) : Int × Bool) else if (half w : Int) ≤ (n : Int) then (-((n % half w : Nat) : Int), true) else (((n % half w : Nat) : Int), true)).2 := by
      by_cases h : top w < ((n % half w : Nat) : Int)
      · simp only [h, decide_true, cond_true, if_true]
      · have w2 := w2.resolve_left h
        have w3 := w3.resolve_left h
        by_cases h2 : (half w : Int) ≤ (n : Int)
        · simp only [h, h2, decide_true, decide_false, cond_true, cond_false, if_true, if_false, w2, w3]
        · simp only [h, h2, decide_false, cond_false, if_false, w2]
    simp only [hw, decide_true, Bool.not_true, cond_false, if_true, c2, decide_false, half_shl2 hw, s1, c3, tmodN, w1, e]
    by_cases h32 : w = 32
    · by_cases hb : 4294967296 ≤ (n : Int)
      · have : (0 : Int) < ((n / 2 ^ 32 : Nat) : Int) := by omega
        simp only [h32, this, hb, decide_true, cond_true, and_self, if_true]
      · have c4 : ¬ (0 : Int) < ((n / 2 ^ 32 : Nat) : Int) := by omega
        simp only [h32, c4, hb, decide_true, decide_false, cond_true, cond_false, and_false, if_false]
        rw [h32] at key
        exact key
    · simp only [h32, decide_false, cond_false, false_and, if_false]
      exact key
  · simp [hw]
theorem impl_BitOrd_eq {α : Type} (N : Nat) (w x : Int) (k : Int → Bool → Option α) (hx0 : 0 ≤ x) (hx1 : x < 18446744073709551616) : impl_BitOrd N w x k = k (bitOrd w x).1 (bitOrd w x).2 := by
  rw [impl_BitOrd.eq]
  unfold impl_BitOrd.b bitOrd
  simp only [impl_formatOf_eq, fmtOf_top]
  by_cases hw : w = 32 ∨ w = 64
  · obtain ⟨c1, c2, h3, h4, h5⟩ := half_in hw
    obtain ⟨p, hp, hh, hp1, hp2⟩ := half_pow hw
    have ht := top_nonneg w
    obtain ⟨n, rfl⟩ : ∃ n : Nat, x = (n : Int) := ⟨x.toNat, by omega⟩
    have w1 : IntKind.u64.wrap (top w) = top w := wrap_u64 (by omega) (by omega)
    have hm : n % half w < half w := Nat.mod_lt _ h4
    have w2 : top w < ((n % half w : Nat) : Int) ∨ IntKind.i64.wrap ((n % half w : Nat) : Int) = ((n % half w : Nat) : Int) := by
      by_cases h : top w < ((n % half w : Nat) : Int)
      · exact .inl h
      · exact .inr (wrap_i64 (by omega) (by omega))
    have w3 : top w < ((n % half w : Nat) : Int) ∨ IntKind.i64.wrap (0 - ((n % half w : Nat) : Int)) = -((n % half w : Nat) : Int) := by
      by_cases h : top w < ((n % half w : Nat) : Int)
      · exact .inl h
      · exact .inr (by rw [wrap_i64 (by omega) (by omega)]; omega)
    have e : ((n : Int) % (half w : Int)) = ((n % half w : Nat) : Int) := rfl
    have key : n < 2 ^ (p + 1) → (bif (decide (top w < bitI .andNot .u64 (n : Int) (half w : Int))) then k 0 false else bif !(decide (bitI .and .u64 (n : Int) (half w : Int) = 0)) then k (IntKind.i64.wrap (0 - IntKind.i64.wrap (bitI .andNot .u64 (n : Int) (half w : Int)))) true else k (IntKind.i64.wrap (bitI .andNot .u64 (n : Int) (half w : Int))) true) =
        k (if top w < ((n % half w : Nat) : Int) then ((0, false) : Int × Bool) else if (half w : Int) ≤ (n : Int) then (-((n % half w : Nat) : Int), true) else (((n % half w : Nat) : Int), true)).1 (if top w < ((n % half w : Nat) : Int) then ((0, false) : Int × Bool) else if (half w : Int) ≤ (n : Int) then (-((n % half w : Nat) : Int), true) else (((n % half w : Nat) : Int), true)).2 := by
      intro hn
      have a1 := andNotW hn hp
      have a2 := bandW hn hp
      rw [← hh] at a1 a2
      rw [a1, a2]
      by_cases h : top w < ((n % half w : Nat) : Int)
      · simp only [h, decide_true, cond_true, if_true]
      · have w2 := w2.resolve_left h
        have w3 := w3.resolve_left h
        by_cases h2 : half w ≤ n
        · have h2' : (half w : Int) ≤ (n : Int) := by omega
          have h2'' : ¬ (half w : Int) = 0 := by omega
          simp only [h, h2, h2', h2'', decide_true, decide_false, cond_true, cond_false, if_true, if_false, w2, w3, Bool.not_false]
        · have h2' : ¬ (half w : Int) ≤ (n : Int) := by omega
          simp only [h, h2, h2', decide_true, decide_false, cond_false, if_false, w2, Int.natCast_zero, Bool.not_true]
    simp only [hw, decide_true, Bool.not_true, cond_false, if_true, c1, decide_false, half_shl hw, w1, e]
    by_cases h32 : w = 32
    · by_cases hb : 4294967296 ≤ (n : Int)
      · simp only [h32, hb, decide_true, cond_true, and_self, if_true]
      · have := key (by rw [hp1 h32]; omega)
        simp only [h32, hb, decide_true, decide_false, cond_true, cond_false, and_false, if_false]
        rw [h32] at this
        exact this
    · have := key (by rw [hp2 (hw.resolve_left h32)]; omega)
      simp only [h32, decide_false, cond_false, false_and, if_false]
      exact this
  · simp [hw]
end Go.Proofs.YtaelbfbplamahaaDoorAm
