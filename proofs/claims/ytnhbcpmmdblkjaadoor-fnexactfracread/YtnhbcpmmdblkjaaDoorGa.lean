/-
  Decimals of naturals: what both texts write; the law.
-/
import Derived.Test.YtnhbcpmmdblkjaaDoorK
namespace Go.Proofs.YtnhbcpmmdblkjaaDoorAm
open Go
set_option linter.unusedVariables false
set_option linter.unusedSimpArgs false

def BA (l : List UInt8) : ByteArray := ⟨l.toArray⟩
theorem BA_append (l m : List UInt8) : BA l ++ BA m = BA (l ++ m) := by
  apply ByteArray.ext
  rw [ByteArray.data_append]
  simp [BA]
theorem BA_size (l : List UInt8) : (BA l).size = l.length := by simp [BA, ByteArray.size]
theorem BA_data (l : List UInt8) : (BA l).data.toList = l := by simp [BA]
theorem BA_empty : ByteArray.empty = BA [] := rfl
theorem eqS_self (x : ByteArray) : eqS x x = true := by simp [eqS]
def txt (a : Nat) : List UInt8 := if a = 0 then [] else Go.Lib.decDigits a
theorem dec_small {u : Nat} (h : u < 10) : Go.Lib.decDigits u = [UInt8.ofNat (48 + u)] := by rw [Go.Lib.decDigits, dif_pos h]
theorem dec_big {u : Nat} (h : ¬ u < 10) : Go.Lib.decDigits u = Go.Lib.decDigits (u / 10) ++ [UInt8.ofNat (48 + u % 10)] := by rw [Go.Lib.decDigits, dif_neg h]
theorem nDigits_le : ∀ (k : Nat) {u : Nat}, u < 10 ^ (k + 1) → Go.Lib.nDigits u ≤ k + 1
  | 0, u, h => by rw [Go.Lib.nDigits_small (by simpa using h)]; omega
  | k + 1, u, h => by
    by_cases h1 : u < 10
    · rw [Go.Lib.nDigits_small h1]; omega
    · rw [Go.Lib.nDigits_big h1]
      have := nDigits_le k (u := u / 10) (by rw [Nat.pow_succ] at h; omega)
      omega
theorem txt_len {a : Nat} (h : a < 65536 ^ 256) : (txt a).length ≤ 1280 := by
  obtain ⟨E, hE⟩ : ∃ E, E + 1 = 1280 := ⟨1279, rfl⟩
  have h1 : 65536 ^ 256 ≤ (10 ^ 5) ^ 256 := Nat.pow_le_pow_left (by decide) 256
  rw [← Nat.pow_mul, show 5 * 256 = E + 1 from hE.symm] at h1
  have h2 := nDigits_le E (Nat.lt_of_lt_of_le h h1)
  unfold txt
  split
  · simp
  · rw [Go.Lib.decDigits_length]; omega
/-- Four digits, noughts ahead. -/
def pad4 (r : Nat) : List UInt8 := List.replicate (4 - Go.Lib.nDigits r) 48 ++ Go.Lib.decDigits r
theorem dec_four {r : Nat} (h : r < 10000) : Go.Lib.nDigits r ≤ 4 := nDigits_le 3 (by omega)
theorem pad4_eq {r : Nat} (h : r < 10000) : pad4 r = [UInt8.ofNat (48 + r / 1000), UInt8.ofNat (48 + r / 100 % 10), UInt8.ofNat (48 + r / 10 % 10), UInt8.ofNat (48 + r % 10)] := by
  unfold pad4
  by_cases h1 : r < 10
  · rw [Go.Lib.nDigits_small h1, dec_small h1, show r / 1000 = 0 by omega, show r / 100 % 10 = 0 by omega, show r / 10 % 10 = 0 by omega, show r % 10 = r by omega]
    rfl
  by_cases h2 : r / 10 < 10
  · rw [Go.Lib.nDigits_big h1, Go.Lib.nDigits_small h2, dec_big h1, dec_small h2, show r / 1000 = 0 by omega, show r / 100 % 10 = 0 by omega, show r / 10 % 10 = r / 10 by omega]
    rfl
  by_cases h3 : r / 10 / 10 < 10
  · rw [Go.Lib.nDigits_big h1, Go.Lib.nDigits_big h2, Go.Lib.nDigits_small h3, dec_big h1, dec_big h2, dec_small h3, show r / 1000 = 0 by omega, show r / 10 / 10 = r / 100 % 10 by omega]
    rfl
  · have h4 : r / 10 / 10 / 10 < 10 := by omega
    rw [Go.Lib.nDigits_big h1, Go.Lib.nDigits_big h2, Go.Lib.nDigits_big h3, Go.Lib.nDigits_small h4, dec_big h1, dec_big h2, dec_big h3, dec_small h4, show r / 10 / 10 / 10 = r / 1000 by omega, show r / 10 / 10 % 10 = r / 100 % 10 by omega]
    rfl
theorem txt_step {a : Nat} (h : a ≠ 0) : txt a = txt (a / 10000) ++ if a / 10000 = 0 then Go.Lib.decDigits (a % 10000) else pad4 (a % 10000) := by
  unfold txt
  rw [if_neg h]
  by_cases hq : a / 10000 = 0
  · rw [if_pos hq, if_pos hq, show a % 10000 = a by omega, List.nil_append]
  · rw [if_neg hq, if_neg hq, pad4_eq (by omega), dec_big (show ¬ a < 10 by omega), dec_big (show ¬ a / 10 < 10 by omega), dec_big (show ¬ a / 10 / 10 < 10 by omega), dec_big (show ¬ a / 10 / 10 / 10 < 10 by omega),
      show a / 10 / 10 / 10 / 10 = a / 10000 by omega, show a / 10 / 10 / 10 % 10 = a % 10000 / 1000 by omega, show a / 10 / 10 % 10 = a % 10000 / 100 % 10 by omega, show a / 10 % 10 = a % 10000 / 10 % 10 by omega, show a % 10 = a % 10000 % 10 by omega]
    simp
theorem natText_J7 {α : Type} (N r : Nat) (o : ByteArray) (q : List Int) (k : ByteArray → List Int → Int → Option α) (h : r < 10000) : impl_natText_J7 N o q (digs r) 0 k = k o q (r : Int) := by
  rw [impl_natText_J7.eq]
  unfold impl_natText_J7.b
  by_cases h0 : r = 0
  · subst h0; rw [digs_zero]; simp
  · rw [digs_one h0 (by omega)]; simp
theorem natText_J10 {α : Type} (N q r : Nat) (o : ByteArray) (k : ByteArray → List Int → ByteArray → Option α) (h : r < 10000) : impl_natText_J10 N o (digs q) (BA (Go.Lib.decDigits r)) k = k o (digs q) (BA (if q = 0 then Go.Lib.decDigits r else pad4 r)) := by
  have h4 := dec_four h
  have hp := Go.Lib.nDigits_pos r
  rw [impl_natText_J10.eq]
  unfold impl_natText_J10.b
  simp only [len_cast_pos, BA_size, Go.Lib.decDigits_length]
  by_cases h0 : q = 0
  · simp [h0]
  · have w1 : IntKind.i64.wrap (4 - ((Go.Lib.nDigits r : Nat) : Int)) = ((4 - Go.Lib.nDigits r : Nat) : Int) := by rw [wrap_i64 (by omega) (by omega)]; omega
    have hr : ∀ K : ByteArray → Option α, strings_Repeat N (⟨#[48]⟩ : ByteArray) ((4 - Go.Lib.nDigits r : Nat) : Int) K = K (BA (List.replicate (4 - Go.Lib.nDigits r) 48)) := by
      intro K
      rw [strings_Repeat.eq]
      unfold strings_Repeat.b
      have c1 : ((4 - Go.Lib.nDigits r : Nat) : Int) ≤ 9223372036854775807 := by omega
      have c2 : (⟨#[48]⟩ : ByteArray).size * (4 - Go.Lib.nDigits r) ≤ 140737488355328 := by
        have : (⟨#[48]⟩ : ByteArray).size = 1 := rfl
        rw [this]; omega
      have e2 : Go.Lib.repeatL [48] (4 - Go.Lib.nDigits r) = List.replicate (4 - Go.Lib.nDigits r) 48 := by
        have := Go.Lib.repeatL_replicate 48 1 (4 - Go.Lib.nDigits r)
        simpa using this
      simp only [cast_nn, cond_true, c1, decide_true, Int.toNat_natCast, c2]
      show K ⟨(Go.Lib.repeatL [48] (4 - Go.Lib.nDigits r)).toArray⟩ = _
      rw [e2]
      rfl
    have c3 : decide ((List.replicate (4 - Go.Lib.nDigits r) (48 : UInt8)).length + Go.Lib.nDigits r ≤ 9223372036854775807) = true := by simp; omega
    simp only [h0, ne_eq, not_false_eq_true, decide_true, cond_true, w1, hr, BA_size, c3, BA_append, if_false]
    rfl
theorem impl_natText_loop {α : Type} (N : Nat) (hN : cap < N) (k : ByteArray → Option α) : ∀ (f a : Nat) (o : List UInt8), a < cap0 → a < f → o.length + (txt a).length ≤ 4000 → impl_natText_L0 N f (digs a) (BA o) k = k (BA (txt a ++ o)) := by
  intro f
  induction f with
  | zero => intro a o _ h; omega
  | succ f ih =>
    intro a o ha hf ho
    rw [impl_natText_L0.succ]
    unfold impl_natText_L0r
    simp only [len_cast_pos]
    by_cases h0 : a = 0
    · subst h0
      simp [txt]
    · have e1 : [(10000 : Int)] = digs 10000 := (digs_one (n := 10000) (by omega) (by omega)).symm
      have hc : 10000 < cap0 := by have := cap0_pos; omega
      have hr : a % 10000 < 10000 := Nat.mod_lt _ (by omega)
      have hi : ∀ K : ByteArray → Option α, strconv_Itoa N ((a % 10000 : Nat) : Int) K = K (BA (Go.Lib.decDigits (a % 10000))) := by
        intro K
        rw [strconv_Itoa.eq]
        unfold strconv_Itoa.b
        have c1 : -9223372036854775808 ≤ ((a % 10000 : Nat) : Int) := by omega
        have c2 : ((a % 10000 : Nat) : Int) ≤ 9223372036854775807 := by omega
        simp only [c1, c2, decide_true, cond_true, Go.Lib.itoa_nonneg]
        rfl
      have hst := txt_step h0
      generalize hp : (if a / 10000 = 0 then Go.Lib.decDigits (a % 10000) else pad4 (a % 10000)) = p at *
      have hlen : (txt a).length = (txt (a / 10000)).length + p.length := by rw [hst]; simp
      have c3 : decide (p.length + o.length ≤ 9223372036854775807) = true := by simp; omega
      simp only [ne_eq, h0, not_false_eq_true, decide_true, cond_true, e1, impl_natDiv_eq N a 10000 _ ha hc (show 10000 ≠ 0 by omega) hN, natText_J7 N _ _ _ _ hr, hi, natText_J10 N _ _ _ _ hr, hp, BA_size, c3, BA_append]
      have := ih (a / 10000) (p ++ o) (by omega) (by omega) (by simp; omega)
      rw [this, hst, List.append_assoc]
theorem impl_natText_eq {α : Type} (N a : Nat) (k : ByteArray → Option α) (ha : a < 65536 ^ 256) (hN : cap < N) : impl_natText N (digs a) k = k (BA (Go.Lib.decDigits a)) := by
  rw [impl_natText.eq]
  unfold impl_natText.b
  simp only [len_cast_zero]
  by_cases h0 : a = 0
  · subst h0
    simp only [decide_true, cond_true]
    rw [dec_small (show 0 < 10 by omega)]; rfl
  · have hl := txt_len ha
    simp only [h0, decide_false, cond_false]
    have := impl_natText_loop N hN (fun x => k x) N a [] (c256 ha) (Nat.lt_trans (cap0_lt (c256 ha)) hN) (by simp; omega)
    rw [List.append_nil] at this
    refine this.trans ?_
    unfold txt
    rw [if_neg h0]
end Go.Proofs.YtnhbcpmmdblkjaaDoorAm
