/-
  What the functions on boxes compute, in plain words.
-/
import Derived.Test.YtnhbcpmmdblkjaaGreatDoorA
namespace Go.Proofs.YtnhbcpmmdblkjaaGreatDoorAm
open Go
set_option linter.unusedVariables false
set_option linter.unusedSimpArgs false

theorem cast_lt {i n : Nat} (h : i < n) : decide ((i : Int) < (n : Int)) = true := by simpa using h
theorem cast_nlt {i n : Nat} (h : ¬ i < n) : decide ((i : Int) < (n : Int)) = false := by simpa using h
theorem cast_neg (i : Nat) : decide ((i : Int) < 0) = false := by simp
theorem cast_nn (i : Nat) : decide ((0 : Int) ≤ (i : Int)) = true := by simp
theorem succ_i {i : Nat} (h : i < 4611686018427387904) : IntKind.i64.wrap ((i : Int) + 1) = ((i + 1 : Nat) : Int) := by
 rw [wrap_i64 (by omega) (by omega)]; rfl
theorem maxI_eq (a b : Int) : maxI a b = max a b := by unfold maxI; omega
def blenF : Nat → Nat → Nat
 | 0, _ => 0
 | f + 1, n => if n = 0 then 0 else blenF f (n / 2) + 1
def blen (n : Nat) : Nat := blenF 64 n
theorem blenF_more : ∀ (f n : Nat), n < 2 ^ f → ∀ g, f ≤ g → blenF g n = blenF f n
  | 0, n, h, g, _ => by
    have : n = 0 := by simp at h; exact h
    subst this
    cases g <;> simp [blenF]
  | f + 1, n, h, g, hg => by
    obtain ⟨g, rfl⟩ : ∃ m, g = m + 1 := ⟨g - 1, by omega⟩
    unfold blenF
    split
    · rfl
    · rw [blenF_more f (n / 2) (by rw [Nat.pow_succ] at h; omega) g (by omega)]
theorem blen_step {n : Nat} (h : n < 2 ^ 64) (h0 : n ≠ 0) : blen n = blen (n / 2) + 1 := by
 unfold blen
 rw [show blenF 64 n = if n = 0 then 0 else blenF 63 (n / 2) + 1 from rfl, if_neg h0]
 rw [blenF_more 63 (n / 2) (by omega) 64 (by omega)]
theorem blen_shift {n : Nat} (h : n < 2 ^ 64) : ∀ k, 2 ^ k ≤ n → blen n = blen (n / 2 ^ k) + k
  | 0, _ => by simp
  | k + 1, hk => by
    have h2 : 2 ^ (k + 1) = 2 ^ k * 2 := Nat.pow_succ ..
    have h1 : 2 ^ k ≤ n := by omega
    rw [blen_shift h k h1]
    have h3 : n / 2 ^ k < 2 ^ 64 := Nat.lt_of_le_of_lt (Nat.div_le_self _ _) h
    have h4 : n / 2 ^ k ≠ 0 := by
      have := Nat.div_pos h1 (Nat.two_pow_pos k)
      omega
    rw [blen_step h3 h4, Nat.div_div_eq_div_mul, h2]; omega
theorem blen_le {n : Nat} : blen n ≤ 64 := by
  unfold blen
  have : ∀ f n, blenF f n ≤ f := by
    intro f
    induction f with
    | zero => intro n; simp [blenF]
    | succ f ih =>
      intro n
      unfold blenF
      split
      · omega
      · have := ih (n / 2); omega
  exact this 64 n
theorem len8_ok : ∀ n : Nat, n < 256 → (⟨#[0, 1, 2, 2, 3, 3, 3, 3, 4, 4, 4, 4, 4, 4, 4, 4, 5, 5, 5, 5, 5, 5, 5, 5, 5, 5, 5, 5, 5, 5, 5, 5, 6, 6, 6, 6, 6, 6, 6, 6, 6, 6, 6, 6, 6, 6, 6, 6, 6, 6, 6, 6, 6, 6, 6, 6, 6, 6, 6, 6, 6, 6, 6, 6, 7, 7, 7, 7, 7, 7, 7, 7, 7, 7, 7, 7, 7, 7, 7, 7, 7, 7, 7, 7, 7, 7, 7, 7, 7, 7, 7, 7, 7, 7, 7, 7, 7, 7, 7, 7, 7, 7, 7, 7, 7, 7, 7, 7, 7, 7, 7, 7, 7, 7, 7, 7, 7, 7, 7, 7, 7, 7, 7, 7, 7, 7, 7, 7, 8, 8, 8, 8, 8, 8, 8, 8, 8, 8, 8, 8, 8, 8, 8, 8, 8, 8, 8, 8, 8, 8, 8, 8, 8, 8, 8, 8, 8, 8, 8, 8, 8, 8, 8, 8, 8, 8, 8, 8, 8, 8, 8, 8, 8, 8, 8, 8, 8, 8, 8, 8, 8, 8, 8, 8, 8, 8, 8, 8, 8, 8, 8, 8, 8, 8, 8, 8, 8, 8, 8, 8, 8, 8, 8, 8, 8, 8, 8, 8, 8, 8, 8, 8, 8, 8, 8, 8, 8, 8, 8, 8, 8, 8, 8, 8, 8, 8, 8, 8, 8, 8, 8, 8, 8, 8, 8, 8, 8, 8, 8, 8, 8, 8, 8, 8, 8, 8, 8, 8, 8, 8, 8, 8, 8, 8, 8, 8]⟩ : ByteArray)[n]? = some (UInt8.ofNat (blenF 64 n)) := by decide +kernel
theorem shr_nat {x k : Nat} (hk : k ≤ 64) : shrI .u64 (x : Int) (k : Int) = ((x / 2 ^ k : Nat) : Int) := by
 unfold shrI
 rw [Int.toNat_natCast, show (IntKind.u64).bits = 64 from rfl, Nat.min_eq_left hk, Int.fdiv_eq_ediv_of_nonneg _ (by exact Int.le_of_lt (Int.pow_pos (by omega)))]
 rw [Int.natCast_ediv, Int.natCast_pow]; rfl
set_option maxRecDepth 100000 in
theorem math_bits_Len64_eq {α : Type} (N : Nat) (x : Nat) (hx : x < 2 ^ 64) (k : Int → Option α) : math_bits_Len64 N x k = k (blen x : Nat) := by
 rw [math_bits_Len64.eq]
 unfold math_bits_Len64.b
 -- the first step
 have j1 : ∀ (k : Int → Int → Option α), math_bits_Len64_J1 N x 0 k = k ((if 4294967296 ≤ x then x / 2 ^ 32 else x : Nat)) ((if 4294967296 ≤ x then 32 else 0 : Nat)) := by
  intro k
  rw [math_bits_Len64_J1.eq]
  unfold math_bits_Len64_J1.b
  by_cases h : 4294967296 ≤ x
  ·have h' : (4294967296 : Int) ≤ (x : Int) := by omega
   have := shr_nat (x := x) (k := 32) (by omega)
   simp only [h, h', decide_true, cond_true, if_true]
   rw [show (32 : Int) = ((32 : Nat) : Int) from rfl, this]
  ·have h' : ¬ (4294967296 : Int) ≤ (x : Int) := by omega
   simp [h, h']
 have j4 : ∀ (y c : Nat) (k : Int → Int → Option α), c ≤ 64 → math_bits_Len64_J4 N y c k = k ((if 65536 ≤ y then y / 2 ^ 16 else y : Nat)) ((if 65536 ≤ y then c + 16 else c : Nat)) := by
  intro y c k hc
  rw [math_bits_Len64_J4.eq]
  unfold math_bits_Len64_J4.b
  by_cases h : 65536 ≤ y
  ·have h' : (65536 : Int) ≤ (y : Int) := by omega
   have := shr_nat (x := y) (k := 16) (by omega)
   simp only [h, h', decide_true, cond_true, if_true]
   rw [show (16 : Int) = ((16 : Nat) : Int) from rfl, this, wrap_i64 (by omega) (by omega)]
   rfl
  ·have h' : ¬ (65536 : Int) ≤ (y : Int) := by omega
   simp [h, h']
 have j7 : ∀ (y c : Nat) (k : Int → Int → Option α), c ≤ 64 → math_bits_Len64_J7 N y c k = k ((if 256 ≤ y then y / 2 ^ 8 else y : Nat)) ((if 256 ≤ y then c + 8 else c : Nat)) := by
  intro y c k hc
  rw [math_bits_Len64_J7.eq]
  unfold math_bits_Len64_J7.b
  by_cases h : 256 ≤ y
  ·have h' : (256 : Int) ≤ (y : Int) := by omega
   have := shr_nat (x := y) (k := 8) (by omega)
   simp only [h, h', decide_true, cond_true, if_true]
   rw [show (8 : Int) = ((8 : Nat) : Int) from rfl, this, wrap_i64 (by omega) (by omega)]
   rfl
  ·have h' : ¬ (256 : Int) ≤ (y : Int) := by omega
   simp [h, h']
 -- what the steps keep
 have keep : ∀ (y c t b : Nat), blen x = blen y + c → y < 2 ^ 64 → t = 2 ^ b → blen x = blen (if t ≤ y then y / 2 ^ b else y) + (if t ≤ y then c + b else c) := by
  intro y c t b h hy ht
  by_cases hle : t ≤ y
  ·rw [if_pos hle, if_pos hle, h, blen_shift hy b (by omega)]; omega
  ·rw [if_neg hle, if_neg hle, h]
 have k1 := keep x 0 4294967296 32 (by simp) hx (by decide)
 simp only [Nat.zero_add] at k1
 rw [j1]
 generalize hy1 : (if 4294967296 ≤ x then x / 2 ^ 32 else x) = y1 at *
 generalize hc1 : (if 4294967296 ≤ x then 32 else 0) = c1 at *
 have b1 : y1 < 4294967296 := by
  subst hy1; split <;> omega
 have cc1 : c1 ≤ 32 := by subst hc1; split <;> omega
 have k2 := keep y1 c1 65536 16 k1 (by omega) (by decide)
 simp only [j4 y1 c1 _ (by omega)]
 generalize hy2 : (if 65536 ≤ y1 then y1 / 2 ^ 16 else y1) = y2 at *
 generalize hc2 : (if 65536 ≤ y1 then c1 + 16 else c1) = c2 at *
 have b2 : y2 < 65536 := by
  subst hy2; split <;> omega
 have cc2 : c2 ≤ 48 := by subst hc2; split <;> omega
 have k3 := keep y2 c2 256 8 k2 (by omega) (by decide)
 simp only [j7 y2 c2 _ (by omega)]
 generalize hy3 : (if 256 ≤ y2 then y2 / 2 ^ 8 else y2) = y3 at *
 generalize hc3 : (if 256 ≤ y2 then c2 + 8 else c2) = c3 at *
 have b3 : y3 < 256 := by
  subst hy3; split <;> omega
 have cc3 : c3 ≤ 56 := by subst hc3; split <;> omega
 have hw : IntKind.u8.wrap (y3 : Int) = (y3 : Int) := by
  have : IntKind.u8.wrap (y3 : Int) = (y3 : Int) % 256 := by simp [IntKind.wrap, IntKind.bits, IntKind.signed]
  rw [this]; omega
 simp only [hw, cast_neg, cond_false, Int.toNat_natCast, len8_ok y3 b3]
 have hb := @blen_le y3
 have hu : (UInt8.ofNat (blenF 64 y3)).toNat = blen y3 := by
  rw [UInt8.toNat_ofNat']
  unfold blen at hb
  unfold blen; omega
 rw [hu, wrap_i64 (x := ((blen y3 : Nat) : Int)) (by omega) (by omega), wrap_i64 (by omega) (by omega), k3]
 congr 1; omega
end Go.Proofs.YtnhbcpmmdblkjaaGreatDoorAm
