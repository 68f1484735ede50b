/-
  Decimals of naturals: what both texts write; the law.
-/
import Derived.Test.YtnhbcpmmdblkjaaDoorW
namespace Go.Proofs.YtnhbcpmmdblkjaaDoorAm
open Go
set_option linter.unusedVariables false
set_option linter.unusedSimpArgs false

def BA (l : List UInt8) : ByteArray := ⟨l.toArray⟩
theorem BA_append (l m : List UInt8) : BA l ++ BA m = BA (l ++ m) := by
  apply ByteArray.ext
  rw [ByteArray.data_append]
  simp [BA]
theorem BA_size (l : List UInt8) : (BA l).size = l.length := by simp [BA, ByteArray.size]
theorem BA_empty : ByteArray.empty = BA [] := rfl
def byteOf (n : Int) : UInt8 := UInt8.ofNat n.toNat
theorem bytesOf_eq (l : List Int) : bytesOf l = BA (l.map byteOf) := by
  have key : ∀ (l : List Int) (m : List UInt8), l.foldl (fun r n => r.push (UInt8.ofNat n.toNat)) (BA m) = BA (m ++ l.map byteOf) := by
    intro l
    induction l with
    | nil => intro m; simp
    | cons x r ih =>
      intro m
      have : (BA m).push (UInt8.ofNat x.toNat) = BA (m ++ [byteOf x]) := by
        apply ByteArray.ext
        simp [BA, ByteArray.push, byteOf]
      rw [List.foldl_cons, this, ih]
      simp
  have := key l []
  simpa [bytesOf, BA_empty] using this
theorem eqS_self (x : ByteArray) : eqS x x = true := by simp [eqS]
def txt (a : Nat) : List UInt8 := if a = 0 then [] else Go.Lib.decDigits a
def revD (u : Nat) : List Int := if h : u = 0 then [] else ((48 + u % 10 : Nat) : Int) :: revD (u / 10)
termination_by u
decreasing_by omega
theorem revD_zero : revD 0 = [] := by rw [revD, dif_pos rfl]
theorem revD_pos {u : Nat} (h : u ≠ 0) : revD u = ((48 + u % 10 : Nat) : Int) :: revD (u / 10) := by rw [revD, dif_neg h]
theorem dec_small {u : Nat} (h : u < 10) : Go.Lib.decDigits u = [UInt8.ofNat (48 + u)] := by rw [Go.Lib.decDigits, dif_pos h]
theorem dec_big {u : Nat} (h : ¬ u < 10) : Go.Lib.decDigits u = Go.Lib.decDigits (u / 10) ++ [UInt8.ofNat (48 + u % 10)] := by rw [Go.Lib.decDigits, dif_neg h]
theorem revD_txt (u : Nat) : (revD u).reverse.map byteOf = txt u := by
  induction u using Nat.strongRecOn with
  | _ u ih =>
    by_cases h0 : u = 0
    · subst h0; rw [revD_zero]; rfl
    · have e := ih (u / 10) (by omega)
      rw [revD_pos h0, List.reverse_cons, List.map_append, e]
      unfold txt
      rw [if_neg h0]
      by_cases h1 : u < 10
      · rw [if_pos (by omega), dec_small h1, Nat.mod_eq_of_lt h1]
        simp only [List.map_cons, List.map_nil, byteOf, Int.toNat_natCast, List.nil_append]
      · rw [if_neg (by omega), dec_big h1]
        simp only [List.map_cons, List.map_nil, byteOf, Int.toNat_natCast]
theorem revD_len (u : Nat) : (revD u).length = (txt u).length := by
  rw [← revD_txt u]; simp
theorem nDigits_le : ∀ (k : Nat) {u : Nat}, u < 10 ^ (k + 1) → Go.Lib.nDigits u ≤ k + 1
  | 0, u, h => by rw [Go.Lib.nDigits_small (by simpa using h)]; omega
  | k + 1, u, h => by
    by_cases h1 : u < 10
    · rw [Go.Lib.nDigits_small h1]; omega
    · rw [Go.Lib.nDigits_big h1]
      have := nDigits_le k (u := u / 10) (by rw [Nat.pow_succ] at h; omega)
      omega
theorem txt_len {a : Nat} (h : a < 65536 ^ 256) : (txt a).length ≤ 1280 := by
  obtain ⟨E, hE⟩ : ∃ E, E + 1 = 1280 := ⟨1279, rfl⟩
  have h1 : 65536 ^ 256 ≤ (10 ^ 5) ^ 256 := Nat.pow_le_pow_left (by decide) 256
  rw [← Nat.pow_mul, show 5 * 256 = E + 1 from hE.symm] at h1
  have h2 := nDigits_le E (Nat.lt_of_lt_of_le h h1)
  unfold txt
  split
  · simp
  · rw [Go.Lib.decDigits_length]; omega
/-- Four digits, noughts ahead. -/
def pad4 (r : Nat) : List UInt8 := List.replicate (4 - Go.Lib.nDigits r) 48 ++ Go.Lib.decDigits r
theorem dec_four {r : Nat} (h : r < 10000) : Go.Lib.nDigits r ≤ 4 := nDigits_le 3 (by omega)
theorem pad4_eq {r : Nat} (h : r < 10000) : pad4 r = [UInt8.ofNat (48 + r / 1000), UInt8.ofNat (48 + r / 100 % 10), UInt8.ofNat (48 + r / 10 % 10), UInt8.ofNat (48 + r % 10)] := by
  unfold pad4
  by_cases h1 : r < 10
  · rw [Go.Lib.nDigits_small h1, dec_small h1, show r / 1000 = 0 by omega, show r / 100 % 10 = 0 by omega, show r / 10 % 10 = 0 by omega, show r % 10 = r by omega]
    rfl
  by_cases h2 : r / 10 < 10
  · rw [Go.Lib.nDigits_big h1, Go.Lib.nDigits_small h2, dec_big h1, dec_small h2, show r / 1000 = 0 by omega, show r / 100 % 10 = 0 by omega, show r / 10 % 10 = r / 10 by omega]
    rfl
  by_cases h3 : r / 10 / 10 < 10
  · rw [Go.Lib.nDigits_big h1, Go.Lib.nDigits_big h2, Go.Lib.nDigits_small h3, dec_big h1, dec_big h2, dec_small h3, show r / 1000 = 0 by omega, show r / 10 / 10 = r / 100 % 10 by omega]
    rfl
  · have h4 : r / 10 / 10 / 10 < 10 := by omega
    rw [Go.Lib.nDigits_big h1, Go.Lib.nDigits_big h2, Go.Lib.nDigits_big h3, Go.Lib.nDigits_small h4, dec_big h1, dec_big h2, dec_big h3, dec_small h4, show r / 10 / 10 / 10 = r / 1000 by omega, show r / 10 / 10 % 10 = r / 100 % 10 by omega]
    rfl
theorem txt_step {a : Nat} (h : a ≠ 0) : txt a = txt (a / 10000) ++ if a / 10000 = 0 then Go.Lib.decDigits (a % 10000) else pad4 (a % 10000) := by
  unfold txt
  rw [if_neg h]
  by_cases hq : a / 10000 = 0
  · rw [if_pos hq, if_pos hq, show a % 10000 = a by omega, List.nil_append]
  · rw [if_neg hq, if_neg hq, pad4_eq (by omega), dec_big (show ¬ a < 10 by omega), dec_big (show ¬ a / 10 < 10 by omega), dec_big (show ¬ a / 10 / 10 < 10 by omega), dec_big (show ¬ a / 10 / 10 / 10 < 10 by omega),
      show a / 10 / 10 / 10 / 10 = a / 10000 by omega, show a / 10 / 10 / 10 % 10 = a % 10000 / 1000 by omega, show a / 10 / 10 % 10 = a % 10000 / 100 % 10 by omega, show a / 10 % 10 = a % 10000 / 10 % 10 by omega, show a % 10 = a % 10000 % 10 by omega]
    simp
def natTextB (l : List Int) : ByteArray := if natOkB l = true then BA (Go.Lib.decDigits (val l).toNat) else ByteArray.empty
theorem spec_NatText_loop {α : Type} (N : Nat) (hN : cap < N) (k : List Int → Option α) : ∀ (f a : Nat) (o : List Int), a < cap → a < f → o.length + (txt a).length ≤ 4000 → spec_NatText_L0 N f (digs a) o k = k (o ++ revD a) := by
  intro f
  induction f with
  | zero => intro a o _ h; omega
  | succ f ih =>
    intro a o ha hf ho
    rw [spec_NatText_L0.succ]
    unfold spec_NatText_L0r
    simp only [len_cast_pos]
    by_cases h0 : a = 0
    · subst h0
      simp only [ne_eq, not_true_eq_false, decide_false, cond_false, revD_zero, List.append_nil]
    · have hl : (txt a).length = (txt (a / 10)).length + 1 := by rw [← revD_len, ← revD_len, revD_pos h0]; simp
      have w1 : IntKind.i64.wrap (48 + ((a % 10 : Nat) : Int)) = ((48 + a % 10 : Nat) : Int) := by rw [wrap_i64 (by omega) (by omega)]; omega
      have w2 : IntKind.u8.wrap ((48 + a % 10 : Nat) : Int) = ((48 + a % 10 : Nat) : Int) := by
        have : (48 + a % 10 : Nat) < 256 := by omega
        simp [IntKind.wrap, IntKind.bits, IntKind.signed]; omega
      have hlen : ∀ x : Int, decide (o.length + [x].length ≤ 8796093022208) = true := fun x => by simp; omega
      have hd := spec_l5DivSmall_eq (α := α) N a 10
      rw [show ((10 : Nat) : Int) = 10 from rfl] at hd
      simp only [ne_eq, h0, not_false_eq_true, decide_true, cond_true, hd _ ha (show 0 < 10 by omega) (show 10 < 65536 by omega) hN, w1, w2, hlen]
      have := ih (a / 10) (o ++ [((48 + a % 10 : Nat) : Int)]) (by omega) (by omega) (by simp; omega)
      rw [this, revD_pos h0]
      simp
theorem spec_NatText_back {α : Type} (N : Nat) (l : List Int) (hl : l.length ≤ 4000) (k : List Int → Option α) : ∀ (i f : Nat), i ≤ l.length → i < f → spec_NatText_L2 N f ((i : Int) - 1) l ((l.drop i).reverse) k = k l.reverse := by
  intro i
  induction i with
  | zero =>
    intro f h hf
    obtain ⟨f, rfl⟩ : ∃ m, f = m + 1 := ⟨f - 1, by omega⟩
    rw [spec_NatText_L2.succ]
    unfold spec_NatText_L2r
    have c : ¬ (0 : Int) ≤ ((0 : Nat) : Int) - 1 := by omega
    simp only [c, decide_false, cond_false, List.drop_zero]
  | succ i ih =>
    intro f h hf
    obtain ⟨f, rfl⟩ : ∃ m, f = m + 1 := ⟨f - 1, by omega⟩
    have hi : i < l.length := by omega
    have e0 : ((i + 1 : Nat) : Int) - 1 = (i : Int) := by omega
    have hlen : ∀ x : Int, decide ((l.drop (i + 1)).reverse.length + [x].length ≤ 8796093022208) = true := fun x => by simp; omega
    have w1 : IntKind.i64.wrap ((i : Int) - 1) = (i : Int) - 1 := wrap_i64 (by omega) (by omega)
    rw [e0, spec_NatText_L2.succ]
    unfold spec_NatText_L2r
    simp only [cast_nn, cond_true, cast_neg, cond_false, Int.toNat_natCast, decide_eq_true hi, List.getElem?_eq_getElem hi, hlen, w1]
    have := ih f (by omega) (by omega)
    rw [List.drop_eq_getElem_cons hi, List.reverse_cons] at this
    exact this
theorem spec_NatText_eq {α : Type} (N : Nat) (l : List Int) (k : ByteArray → Option α) (hN : cap < N) : spec_NatText N l k = k (natTextB l) := by
  have hNN := cap_N hN
  rw [spec_NatText.eq]
  unfold spec_NatText.b natTextB
  simp only [spec_NatOk_eq N l _ hN]
  cases hok : natOkB l
  · simp
  obtain ⟨a, ha, rfl⟩ := natOkB_ex hok
  simp only [Bool.not_true, cond_false, len_cast_zero, val_digs, Int.toNat_natCast, if_true]
  by_cases h0 : a = 0
  · subst h0
    simp only [decide_true, cond_true]
    rw [dec_small (show 0 < 10 by omega)]; rfl
  · have hl := txt_len ha
    have hrl := revD_len a
    simp only [h0, decide_false, cond_false]
    refine (spec_NatText_loop N hN _ N a [] (cap0_lt (c256 ha)) (Nat.lt_trans (cap0_lt (c256 ha)) hN) (by simp; omega)).trans ?_
    rw [List.nil_append]
    have w1 : IntKind.i64.wrap ((((revD a).length : Nat) : Int) - 1) = (((revD a).length : Nat) : Int) - 1 := wrap_i64 (by omega) (by omega)
    rw [w1]
    have := spec_NatText_back (α := α) N (revD a) (by omega) (fun x => k (bytesOf x)) (revD a).length N (Nat.le_refl _) (by omega)
    rw [List.drop_length, List.reverse_nil] at this
    refine this.trans ?_
    rw [bytesOf_eq, revD_txt]
    unfold txt
    rw [if_neg h0]
theorem natText_J7 {α : Type} (N r : Nat) (o : ByteArray) (q : List Int) (k : ByteArray → List Int → Int → Option α) (h : r < 10000) : impl_natText_J7 N o q (digs r) 0 k = k o q (r : Int) := by
  rw [impl_natText_J7.eq]
  unfold impl_natText_J7.b
  by_cases h0 : r = 0
  · subst h0; rw [digs_zero]; simp
  · rw [digs_one h0 (by omega)]; simp
theorem natText_J10 {α : Type} (N q r : Nat) (o : ByteArray) (k : ByteArray → List Int → ByteArray → Option α) (h : r < 10000) : impl_natText_J10 N o (digs q) (BA (Go.Lib.decDigits r)) k = k o (digs q) (BA (if q = 0 then Go.Lib.decDigits r else pad4 r)) := by
  have h4 := dec_four h
  have hp := Go.Lib.nDigits_pos r
  rw [impl_natText_J10.eq]
  unfold impl_natText_J10.b
  simp only [len_cast_pos, BA_size, Go.Lib.decDigits_length]
  by_cases h0 : q = 0
  · simp [h0]
  · have w1 : IntKind.i64.wrap (4 - ((Go.Lib.nDigits r : Nat) : Int)) = ((4 - Go.Lib.nDigits r : Nat) : Int) := by rw [wrap_i64 (by omega) (by omega)]; omega
    have hr : ∀ K : ByteArray → Option α, strings_Repeat N (⟨#[48]⟩ : ByteArray) ((4 - Go.Lib.nDigits r : Nat) : Int) K = K (BA (List.replicate (4 - Go.Lib.nDigits r) 48)) := by
      intro K
      rw [strings_Repeat.eq]
      unfold strings_Repeat.b
      have c1 : ((4 - Go.Lib.nDigits r : Nat) : Int) ≤ 9223372036854775807 := by omega
      have c2 : (⟨#[48]⟩ : ByteArray).size * (4 - Go.Lib.nDigits r) ≤ 140737488355328 := by
        have : (⟨#[48]⟩ : ByteArray).size = 1 := rfl
        rw [this]; omega
      have e2 : Go.Lib.repeatL [48] (4 - Go.Lib.nDigits r) = List.replicate (4 - Go.Lib.nDigits r) 48 := by
        have := Go.Lib.repeatL_replicate 48 1 (4 - Go.Lib.nDigits r)
        simpa using this
      simp only [cast_nn, cond_true, c1, decide_true, Int.toNat_natCast, c2]
      show K ⟨(Go.Lib.repeatL [48] (4 - Go.Lib.nDigits r)).toArray⟩ = _
      rw [e2]
      rfl
    have c3 : decide ((List.replicate (4 - Go.Lib.nDigits r) (48 : UInt8)).length + Go.Lib.nDigits r ≤ 9223372036854775807) = true := by simp; omega
    simp only [h0, ne_eq, not_false_eq_true, decide_true, cond_true, w1, hr, BA_size, c3, BA_append, if_false]
    rfl
theorem impl_natText_loop {α : Type} (N : Nat) (hN : cap < N) (k : ByteArray → Option α) : ∀ (f a : Nat) (o : List UInt8), a < cap0 → a < f → o.length + (txt a).length ≤ 4000 → impl_natText_L0 N f (digs a) (BA o) k = k (BA (txt a ++ o)) := by
  intro f
  induction f with
  | zero => intro a o _ h; omega
  | succ f ih =>
    intro a o ha hf ho
    rw [impl_natText_L0.succ]
    unfold impl_natText_L0r
    simp only [len_cast_pos]
    by_cases h0 : a = 0
    · subst h0
      simp [txt]
    · have e1 : [(10000 : Int)] = digs 10000 := (digs_one (n := 10000) (by omega) (by omega)).symm
      have hc : 10000 < cap0 := by have := cap0_pos; omega
      have hr : a % 10000 < 10000 := Nat.mod_lt _ (by omega)
      have hi : ∀ K : ByteArray → Option α, strconv_Itoa N ((a % 10000 : Nat) : Int) K = K (BA (Go.Lib.decDigits (a % 10000))) := by
        intro K
        rw [strconv_Itoa.eq]
        unfold strconv_Itoa.b
        have c1 : -9223372036854775808 ≤ ((a % 10000 : Nat) : Int) := by omega
        have c2 : ((a % 10000 : Nat) : Int) ≤ 9223372036854775807 := by omega
        simp only [c1, c2, decide_true, cond_true, Go.Lib.itoa_nonneg]
        rfl
      have hst := txt_step h0
      generalize hp : (if a / 10000 = 0 then Go.Lib.decDigits (a % 10000) else pad4 (a % 10000)) = p at *
      have hlen : (txt a).length = (txt (a / 10000)).length + p.length := by rw [hst]; simp
      have c3 : decide (p.length + o.length ≤ 9223372036854775807) = true := by simp; omega
      simp only [ne_eq, h0, not_false_eq_true, decide_true, cond_true, e1, impl_natDiv_eq N a 10000 _ ha hc (show 10000 ≠ 0 by omega) hN, natText_J7 N _ _ _ _ hr, hi, natText_J10 N _ _ _ _ hr, hp, BA_size, c3, BA_append]
      have := ih (a / 10000) (p ++ o) (by omega) (by omega) (by simp; omega)
      rw [this, hst, List.append_assoc]
end Go.Proofs.YtnhbcpmmdblkjaaDoorAm
