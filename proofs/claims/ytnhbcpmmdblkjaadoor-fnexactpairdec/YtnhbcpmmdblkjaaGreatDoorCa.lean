/-
  The values of floats as fractions; what a pair, a span, a box has; the laws.
-/
import Derived.Test.YtnhbcpmmdblkjaaGreatDoorU
import Derived.Test.YtnhbcpmmdblkjaaGreatDoorW
import Derived.Test.YtnhbcpmmdblkjaaGreatDoorBb
import Derived.Test.YtnhbcpmmdblkjaaGreatDoorB
namespace Go.Proofs.YtnhbcpmmdblkjaaGreatDoorAm
open Go
set_option linter.unusedVariables false
set_option linter.unusedSimpArgs false

theorem bandU {x : Nat} (hx : x < 18446744073709551616) : bitI .and .u64 (x : Int) 65535 = ((x % 65536 : Nat) : Int) := by
 have e : (65535 : Int) = ((65535 : Nat) : Int) := rfl
 have h : x &&& 65535 = x % 65536 := Nat.and_two_pow_sub_one_eq_mod x 16
 rw [e]
 show IntKind.u64.wrap (((BitVec.ofInt 64 (x : Int) &&& BitVec.ofInt 64 ((65535 : Nat) : Int)).toNat : Nat) : Int) = _
 rw [BitVec.ofInt_natCast, BitVec.ofInt_natCast, BitVec.toNat_and, BitVec.toNat_ofNat, BitVec.toNat_ofNat]
 rw [Nat.mod_eq_of_lt (by omega), Nat.mod_eq_of_lt (show 65535 < 2 ^ 64 by decide), h, wrap_u64 (by omega) (by omega)]
theorem impl_natOf_loop {α : Type} (N : Nat) (k : List Int → Option α) : ∀ (n v : Nat) (l : List Int), v < n → v < 18446744073709551616 → (digs v).length + l.length < 8796093022208 →
    impl_natOf_L0 N n (v : Int) l k = k (l ++ digs v) := by
  intro n
  induction n with
  | zero => intro v l h; omega
  | succ n ih =>
    intro v l h hv hl2
    rw [impl_natOf_L0.succ]
    unfold impl_natOf_L0r
    by_cases h0 : v = 0
    · subst h0; simp [digs_zero]
    · have c : (0 : Int) < (v : Int) := by omega
      have t1 := bandU (x := v) hv
      have t2 : shrI .u64 (v : Int) 16 = ((v / 65536 : Nat) : Int) := shrN (q := .u64) (x := v) (k := 16) rfl (by omega)
      have w1 : IntKind.i64.wrap ((v % 65536 : Nat) : Int) = ((v % 65536 : Nat) : Int) := wrapn (by omega)
      have e := digs_pos h0
      rw [e, List.length_cons] at hl2
      have c2 : l.length + [((v % 65536 : Nat) : Int)].length ≤ 8796093022208 := by simp; omega
      simp only [c, decide_true, cond_true, t1, t2, w1, c2]
      rw [ih _ _ (by omega) (by omega) (by simp; omega), e, List.append_assoc, List.singleton_append]
theorem impl_natOf_eq {α : Type} (N v : Nat) (k : List Int → Option α) (hv : v < 18446744073709551616) (hN : cap < N) : impl_natOf N (v : Int) k = k (digs v) := by
 have h0 := cap_64
 have h1 : v < 65536 ^ 4 := by omega
 have h2 := digs_len_le h1
 have h3 : v < N := Nat.lt_trans (Nat.lt_of_lt_of_le hv h0) hN
 rw [impl_natOf.eq]
 unfold impl_natOf.b
 rw [impl_natOf_loop N _ N v [] h3 hv (by simp; omega)]
 simp
theorem spec_l8Frac_eq {α : Type} (N : Nat) (f : FracD) (k : FracD → Option α) : spec_l8Frac N f k = k f := by
 rw [spec_l8Frac.eq]; rfl
end Go.Proofs.YtnhbcpmmdblkjaaGreatDoorAm
