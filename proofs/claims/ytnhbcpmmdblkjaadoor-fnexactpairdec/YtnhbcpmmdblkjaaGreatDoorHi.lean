/-
  Literals: their values; the law of pairs around literals.
-/
import Derived.Test.YtnhbcpmmdblkjaaGreatDoorHc
import Derived.Test.YtnhbcpmmdblkjaaGreatDoorHg
import Derived.Test.YtnhbcpmmdblkjaaGreatDoorCb
namespace Go.Proofs.YtnhbcpmmdblkjaaGreatDoorAm
open Go
set_option linter.unusedVariables false
set_option linter.unusedSimpArgs false

theorem take_dig (s : List UInt8) : s.take (digT s).length = digT s := by
 have h := dig_app s
 generalize digT s = a at *
 generalize digR s = b at *
 rw [← h]; simp
theorem l7_J9 {α : Type} (N : Nat) (s v r : List UInt8) (hs : s = v ++ r) (hl : s.length ≤ 60) (k0 : ByteArray → Int → Int → Bool → Option α) (k1 : ByteArray → ByteArray → Int → Int → Option α) (hN : 1048576 < N) :
    spec_l7Parts_J9 N (BA s) (BA v) 0 ((v.length : Nat) : Int) k0 k1 = match (generalizing := false) r with
      | [] => k1 (BA s) (BA v) 0 ((v.length : Nat) : Int)
      | c :: r1 => if c = 46 then (if digT r1 = [] then k0 ByteArray.empty 0 0 false else k1 (BA s) (BA (v ++ digT r1)) (((digT r1).length : Nat) : Int) ((v.length + 1 + (digT r1).length : Nat) : Int)) else k1 (BA s) (BA v) 0 ((v.length : Nat) : Int) := by
  rw [spec_l7Parts_J9.eq]
  unfold spec_l7Parts_J9.b
  simp only [BA_size]
  cases r with
  | nil =>
    have hlen : s.length = v.length := by rw [hs]; simp
    simp only [cast_nlt (show ¬ v.length < s.length by omega), cond_false]
  | cons c r1 =>
    have hlen : s.length = v.length + (r1.length + 1) := by rw [hs]; simp
    have hg0 : s[v.length]? = some c := by
      have := app_get (pre := v) (l := c :: r1) (j := 0)
      rw [← hs] at this
      simpa using this
    have h46 : ((c.toNat : Nat) : Int) = 46 ↔ c = 46 := u8_eq (a := c) (n := 46) (by omega)
    simp only [cast_lt (show v.length < s.length by omega), cond_true, cast_neg, cond_false, Int.toNat_natCast, BA_get, hg0]
    by_cases hc : c = 46
    · have g46 := h46.2 hc
      obtain ⟨P, hPd⟩ : ∃ P, P = v ++ [c] := ⟨_, rfl⟩
      have hs2 : s = P ++ r1 := by rw [hPd, hs]; simp
      have hP : P.length = v.length + 1 := by rw [hPd]; simp
      have hdig := fun K => l7_digits (α := α) N s P r1 hs2 hl K hN
      have htl := congrArg List.length (dig_app r1)
      rw [List.length_append] at htl
      rw [hP] at hdig
      rw [if_pos hc]
      simp only [g46, decide_true, cond_true, succ_i (show v.length < 4611686018427387904 by omega), hdig]
      by_cases h0 : digT r1 = []
      · rw [if_pos h0]
        have z0 : (digT r1).length = 0 := by rw [h0]; rfl
        simp only [z0, Int.natCast_zero, decide_true, cond_true]
      · have hn : 0 < (digT r1).length := List.length_pos_iff.2 h0
        have z : ¬ (((digT r1).length : Nat) : Int) = 0 := by omega
        have w : IntKind.i64.wrap (((v.length + 1 : Nat) : Int) + (((digT r1).length : Nat) : Int)) = ((v.length + 1 + (digT r1).length : Nat) : Int) := by rw [wrap_i64 (by omega) (by omega)]; omega
        have c1 : ((v.length + 1 + (digT r1).length : Nat) : Int) ≤ ((s.length : Nat) : Int) := by omega
        have c2 : ((v.length + 1 : Nat) : Int) ≤ ((v.length + 1 + (digT r1).length : Nat) : Int) := by omega
        have he : ((s.drop (v.length + 1)).take (v.length + 1 + (digT r1).length - (v.length + 1))) = digT r1 := by
          have e1 : s.drop (v.length + 1) = r1 := by rw [hs2, ← hP]; simp
          rw [e1, show v.length + 1 + (digT r1).length - (v.length + 1) = (digT r1).length by omega]
          exact take_dig r1
        have c3 : v.length + ((digT r1).length) ≤ 9223372036854775807 := by omega
        rw [if_neg h0]
        simp only [z, decide_false, cond_false, w, cast_nn, cond_true, c1, c2, decide_true, Int.toNat_natCast, BA_extract, he, BA_size, c3, BA_append]
    · have g46 : ¬ ((c.toNat : Nat) : Int) = 46 := fun q => hc (h46.1 q)
      rw [if_neg hc]
      simp only [g46, decide_false, cond_false]
theorem l7_tail {α : Type} (N : Nat) (s pre r2 v e : List UInt8) (hs : s = pre ++ r2) (hl : s.length ≤ 60) (hN : 1048576 < N) : ∃ (D : ByteArray) (b p : Int), (∀ k : ByteArray → Int → Int → Bool → Option α,
      spec_l7Parts_J16 N (BA s) (BA (v ++ e)) ((e.length : Nat) : Int) ((pre.length : Nat) : Int) 0 (fun a b c d => k a b c d) (fun a b c d f => k b c f (decide (d = ((a.size : Nat) : Int)))) = k D b p (tailS v e r2).isSome) ∧
      ∀ v' e' q, tailS v e r2 = some (v', e', q) → D = BA (v' ++ e') ∧ b = ((e'.length : Nat) : Int) ∧ p = q := by
  have J := fun k0 k1 => l7_J16 (α := α) N s pre r2 hs hl (BA (v ++ e)) ((e.length : Nat) : Int) k0 k1 hN
  simp only [J]
  have hlen : s.length = pre.length + r2.length := by rw [hs]; simp
  cases r2 with
  | nil =>
    have c : ((pre.length : Nat) : Int) = ((s.length : Nat) : Int) := by simp at hlen; omega
    refine ⟨BA (v ++ e), ((e.length : Nat) : Int), 0, fun k => ?_, ?_⟩
    · simp only [BA_size, c, decide_true, tailS, Option.isSome_some]
    · intro v' e' q h
      simp only [tailS, Option.some.injEq, Prod.mk.injEq] at h
      obtain ⟨rfl, rfl, rfl⟩ := h
      exact ⟨rfl, rfl, rfl⟩
  | cons c r3 =>
    have hlen : s.length = pre.length + (r3.length + 1) := hlen
    by_cases hc : c = 101
    · simp only [hc, if_true, tailS]
      generalize hm : minusI r3 = mi
      have hml : mi.2.length ≤ r3.length := by
        rw [← hm]; unfold minusI; split <;> simp
      obtain ⟨m, l⟩ := mi
      simp only at hml ⊢
      have htl := congrArg List.length (dig_app l)
      rw [List.length_append] at htl
      rw [expS0_some]
      cases he : expS0 m l with
      | none =>
        refine ⟨ByteArray.empty, 0, 0, fun k => ?_, ?_⟩
        · simp only [ite_self, Option.map_none, Option.isSome_none]
        · intro v' e' q h; simp at h
      | some q =>
        by_cases h0 : digR l = []
        · have c : ((s.length - (digR l).length : Nat) : Int) = ((s.length : Nat) : Int) := by rw [h0]; simp
          refine ⟨BA (v ++ e), ((e.length : Nat) : Int), q, fun k => ?_, ?_⟩
          · simp only [BA_size, c, decide_true, if_pos h0, Option.map_some, Option.isSome_some]
          · intro v' e' q' h
            rw [if_pos h0] at h
            simp only [Option.map_some, Option.some.injEq, Prod.mk.injEq] at h
            obtain ⟨rfl, rfl, rfl⟩ := h
            exact ⟨rfl, rfl, rfl⟩
        · have hn : 0 < (digR l).length := List.length_pos_iff.2 h0
          have c : ¬ ((s.length - (digR l).length : Nat) : Int) = ((s.length : Nat) : Int) := by omega
          refine ⟨BA (v ++ e), ((e.length : Nat) : Int), q, fun k => ?_, ?_⟩
          · simp only [BA_size, c, decide_false, if_neg h0, Option.map_none, Option.isSome_none]
          · intro v' e' q' h
            rw [if_neg h0] at h
            simp at h
    · have c2 : ¬ ((pre.length : Nat) : Int) = ((s.length : Nat) : Int) := by omega
      refine ⟨BA (v ++ e), ((e.length : Nat) : Int), 0, fun k => ?_, ?_⟩
      · simp only [hc, if_false, tailS, BA_size, c2, decide_false, Option.isSome_none]
      · intro v' e' q' h
        simp [tailS, hc] at h
theorem l7_parts {α : Type} (N : Nat) (s : List UInt8) (hl : s.length ≤ 60) (hN : 1048576 < N) : ∃ (D : ByteArray) (b p : Int), (∀ k : ByteArray → Int → Int → Bool → Option α, spec_l7Parts N (BA s) k = k D b p (litS s).isSome) ∧
      ∀ v e q, litS s = some (v, e, q) → D = BA (v ++ e) ∧ b = ((e.length : Nat) : Int) ∧ p = q := by
  have hs := dig_app s
  have hlen := congrArg List.length hs
  rw [List.length_append] at hlen
  have c60 : ¬ (60 : Int) < ((s.length : Nat) : Int) := by omega
  have hdig := fun K => l7_digits (α := α) N s [] s rfl hl K hN
  simp only [List.length_nil, Int.natCast_zero] at hdig
  rw [spec_l7Parts.eq]
  unfold spec_l7Parts.b
  simp only [BA_size, c60, decide_false, cond_false, hdig]
  by_cases h0 : (digT s).length = 0
  · have z : (((digT s).length : Nat) : Int) = 0 := by omega
    have e : litS s = none := by unfold litS; rw [if_pos (.inl h0)]
    refine ⟨ByteArray.empty, 0, 0, fun k => ?_, ?_⟩
    · simp only [z, decide_true, cond_true, e, Option.isSome_none]
    · intro v e' q h; rw [e] at h; cases h
  have z : ¬ (((digT s).length : Nat) : Int) = 0 := by omega
  obtain ⟨ch, hch⟩ : ∃ ch, s[0]? = some ch := ⟨_, List.getElem?_eq_getElem (show 0 < s.length by omega)⟩
  have h48 : ((ch.toNat : Nat) : Int) = 48 ↔ ch = 48 := u8_eq (a := ch) (n := 48) (by omega)
  by_cases hbad : 1 < (digT s).length ∧ ch = 48
  · have z1 : (1 : Int) < (((digT s).length : Nat) : Int) := by omega
    have g48 := h48.2 hbad.2
    have e : litS s = none := by unfold litS; rw [if_pos (.inr ⟨hbad.1, by rw [hch, hbad.2]⟩)]
    refine ⟨ByteArray.empty, 0, 0, fun k => ?_, ?_⟩
    · simp only [z, decide_false, cond_false, z1, decide_true, cond_true, BA_get, hch, g48, e, Option.isSome_none]
    · intro v e' q h; rw [e] at h; cases h
  have cl : (((digT s).length : Nat) : Int) ≤ ((s.length : Nat) : Int) := by omega
  have ht := take_dig s
  have elit : litS s = match digR s with
      | [] => some (digT s, [], 0)
      | c :: r => if c = 46 then (if digT r = [] then none else tailS (digT s) (digT r) (digR r)) else tailS (digT s) [] (c :: r) := by
    unfold litS
    have hcn : ¬ ((digT s).length = 0 ∨ (1 < (digT s).length ∧ s[0]? = some 48)) := by
      rintro (q | ⟨q, q'⟩)
      · exact h0 q
      · rw [hch] at q'; simp only [Option.some.injEq] at q'; exact hbad ⟨q, q'⟩
    rw [if_neg hcn]
    rfl
  have J := fun k0 k1 => l7_J9 (α := α) N s (digT s) (digR s) hs.symm hl k0 k1 hN
  have main : ∃ (D : ByteArray) (b p : Int), (∀ k : ByteArray → Int → Int → Bool → Option α, spec_l7Parts_J9 N (BA s) (BA (digT s)) 0 (((digT s).length : Nat) : Int) (fun a b c d => k a b c d) (fun x59 x60 x61 x62 => spec_l7Parts_J16 N x59 x60 x61 x62 0 (fun a b c d => k a b c d) (fun a b c d f => k b c f (decide (d = ((a.size : Nat) : Int))))) = k D b p (litS s).isSome) ∧
      ∀ v e q, litS s = some (v, e, q) → D = BA (v ++ e) ∧ b = ((e.length : Nat) : Int) ∧ p = q := by
    simp only [J, elit]
    generalize hr : digR s = r at *
    cases r with
    | nil =>
      obtain ⟨D, b, p, e1, e2⟩ := l7_tail (α := α) N s (digT s) [] (digT s) [] (by rw [hs]) hl hN
      rw [List.append_nil] at e1
      exact ⟨D, b, p, e1, e2⟩
    | cons c r1 =>
      by_cases hc : c = 46
      · subst hc
        by_cases h1 : digT r1 = []
        · refine ⟨ByteArray.empty, 0, 0, fun k => ?_, ?_⟩
          · simp only [h1, if_true, Option.isSome_none]
          · intro v e' q h; simp [h1] at h
        · have hs3 : s = (digT s ++ 46 :: digT r1) ++ digR r1 := by
            have := dig_app r1
            conv => lhs; rw [← hs, ← this]
            simp
          obtain ⟨D, b, p, e1, e2⟩ := l7_tail (α := α) N s _ (digR r1) (digT s) (digT r1) hs3 hl hN
          have hll : (digT s ++ 46 :: digT r1).length = (digT s).length + 1 + (digT r1).length := by simp; omega
          rw [hll] at e1
          refine ⟨D, b, p, fun k => ?_, fun v e' q h => ?_⟩
          · simp only [if_true, if_neg h1]; exact e1 k
          · simp only [if_true, if_neg h1] at h; exact e2 v e' q h
      · obtain ⟨D, b, p, e1, e2⟩ := l7_tail (α := α) N s (digT s) (c :: r1) (digT s) [] hs.symm hl hN
        rw [List.append_nil] at e1
        refine ⟨D, b, p, fun k => ?_, fun v e' q h => ?_⟩
        · simp only [if_neg hc]; exact e1 k
        · simp only [if_neg hc] at h; exact e2 v e' q h
  obtain ⟨D, b, p, e1, e2⟩ := main
  refine ⟨D, b, p, fun k => ?_, e2⟩
  rw [← e1 k]
  by_cases h1 : 1 < (digT s).length
  · have z1 : (1 : Int) < (((digT s).length : Nat) : Int) := by omega
    have g48 : ¬ ((ch.toNat : Nat) : Int) = 48 := fun q => hbad ⟨h1, h48.1 q⟩
    simp only [z, decide_false, cond_false, z1, decide_true, cond_true, BA_get, hch, g48, cast_nn, cl, BA_upto, Int.toNat_natCast, ht]
  · have z1 : ¬ (1 : Int) < (((digT s).length : Nat) : Int) := by omega
    simp only [z, decide_false, cond_false, z1, decide_true, cond_true, cast_nn, cl, BA_upto, Int.toNat_natCast, ht]
theorem exp_bounds {m : Bool} {l : List UInt8} {q : Int} (h : expS m l = some q) : -400 ≤ q ∧ q ≤ 400 := by
 unfold expS at h
 split at h
 ·cases h
 ·rename_i hn
  have h4 : valT (digT l) ≤ 400 := Classical.byContradiction fun q => hn (.inr (.inr (.inr (.inr (.inl (by omega))))))
  cases m <;> simp at h <;> omega
theorem tail_bounds {v e r : List UInt8} {v' e' : List UInt8} {q : Int} (h : tailS v e r = some (v', e', q)) : v' = v ∧ e' = e ∧ -400 ≤ q ∧ q ≤ 400 := by
  unfold tailS at h
  split at h
  · simp only [Option.some.injEq, Prod.mk.injEq] at h
    obtain ⟨rfl, rfl, rfl⟩ := h
    exact ⟨rfl, rfl, by omega, by omega⟩
  · split at h
    · cases he : expS (minusI _).1 (minusI _).2 with
      | none => rw [he] at h; cases h
      | some p =>
        rw [he] at h
        simp only [Option.map_some, Option.some.injEq, Prod.mk.injEq] at h
        obtain ⟨rfl, rfl, rfl⟩ := h
        exact ⟨rfl, rfl, exp_bounds he⟩
    · cases h
theorem lit_bounds {s v e : List UInt8} {q : Int} (h : litS s = some (v, e, q)) : (v ++ e).all isDig = true ∧ (v ++ e).length ≤ s.length ∧ -400 ≤ q ∧ q ≤ 400 ∧ v ≠ [] := by
 have hs := dig_app s
 have hlen := congrArg List.length hs
 rw [List.length_append] at hlen
 unfold litS at h
 split at h
 ·cases h
 ·rename_i hn
  have h0 : digT s ≠ [] := fun q => hn (.inl (by rw [q]; rfl))
  split at h
  ·simp only [Option.some.injEq, Prod.mk.injEq] at h
   obtain ⟨rfl, rfl, rfl⟩ := h
   exact ⟨by simpa using digT_all s, by simp; omega, by omega, by omega, h0⟩
  ·rename_i c r hr
   have hr2 : (digR s).length = r.length + 1 := by rw [hr]; rfl
   split at h
   ·split at h
    ·cases h
    ·have hlr := congrArg List.length (dig_app r)
     rw [List.length_append] at hlr
     obtain ⟨rfl, rfl, h1, h2⟩ := tail_bounds h
     exact ⟨by rw [List.all_append, digT_all, digT_all]; rfl, by simp; omega, h1, h2, h0⟩
   ·obtain ⟨rfl, rfl, h1, h2⟩ := tail_bounds h
    exact ⟨by simpa using digT_all s, by simp; omega, h1, h2, h0⟩
def decFrac (s : List UInt8) : R4 := if s.length ≤ 60 then (match litS s with
 | none => bad4
 | some (v, e, p) => if 0 ≤ p - (e.length : Int) then mkF false (valT (v ++ e) * 10 ^ (p - (e.length : Int)).toNat) 1 else mkF false (valT (v ++ e)) (10 ^ ((e.length : Int) - p).toNat)) else bad4
theorem ten_cap0 {i : Nat} (h : i ≤ 1302) : 10 ^ i < cap0 := by
 obtain ⟨E, hE⟩ : ∃ E, E = 330 := ⟨_, rfl⟩
 have h1 : 10 ^ i ≤ (2 ^ 4) ^ i := Nat.pow_le_pow_left (by decide) i
 rw [← Nat.pow_mul] at h1
 exact lt_cap0 (Nat.lt_of_le_of_lt h1 (pow2_cap (E := E) (by omega))) (by omega)
theorem val_ten {l : List UInt8} (ha : l.all isDig = true) (hl : l.length ≤ 60) (i : Nat) (hi : i ≤ 500) : valT l * 10 ^ i < cap0 := by
 have h1 := fold_lt l 0 0 ha (by simp)
 have h2 : valT l * 10 ^ i < 10 ^ (0 + l.length) * 10 ^ i := Nat.mul_lt_mul_of_pos_right h1 (Nat.pow_pos (by omega))
 rw [← Nat.pow_add] at h2
 exact Nat.lt_trans h2 (ten_cap0 (by omega))
theorem tens_loop' {α : Type} (N m : Nat) (hm : m ≤ 1000) (hN : cap < N) (k : List Int → Option α) : ∀ (d i n : Nat), i + d = m → d < n → spec_l7Tens_L0 N n (m : Int) (i : Int) (digs (10 ^ i)) k = k (digs (10 ^ m)) := by
  intro d
  induction d with
  | zero =>
    intro i n h hn
    obtain ⟨n, rfl⟩ : ∃ x, n = x + 1 := ⟨n - 1, by omega⟩
    obtain rfl : i = m := by omega
    rw [spec_l7Tens_L0.succ]
    unfold spec_l7Tens_L0r
    simp only [cast_nlt (show ¬ i < i by omega), cond_false]
  | succ d ih =>
    intro i n h hn
    obtain ⟨n, rfl⟩ : ∃ x, n = x + 1 := ⟨n - 1, by omega⟩
    have e10 : [(10 : Int)] = digs 10 := (digs_one (n := 10) (by omega) (by omega)).symm
    have h10 : 10 < cap := by have := cap_ge; omega
    have c : ¬ (10 : Int) = 0 := by omega
    rw [spec_l7Tens_L0.succ]
    unfold spec_l7Tens_L0r
    simp only [cast_lt (show i < m by omega), cond_true, spec_l5Times.eq]
    unfold spec_l5Times.b
    simp only [c, decide_false, cond_false, e10, spec_l5Mul_eq N _ 10 _ (ten_cap (i := i) (by omega)) h10 hN, ← Nat.pow_succ, succ_i (show i < 4611686018427387904 by omega)]
    exact ih (i + 1) n (by omega) (by omega)
theorem tens_eq' {α : Type} (N m : Nat) (hm : m ≤ 1000) (hN : cap < N) (k : List Int → Option α) : spec_l7Tens N (m : Int) k = k (digs (10 ^ m)) := by
 have hNN := cap_N hN
 rw [spec_l7Tens.eq]
 unfold spec_l7Tens.b
 have := tens_loop' N m hm hN (fun x => k x) m 0 N (by omega) (by omega)
 rw [Nat.pow_zero, digs1] at this
 exact this
theorem spec_DecFrac_loop {α : Type} (N : Nat) (l : List UInt8) (hb : l.length ≤ 60) (ha : l.all isDig = true) (hN : cap < N) (b p : Int) (k : Int → Int → Bool → List Int → List Int → List Int → Option α) : ∀ (d i n v : Nat), i + d = l.length → d < n → v < 10 ^ i →
    spec_DecFrac_L0 N n (BA l) b p (i : Int) false (digs v) [] [] k = k b p false (digs ((l.drop i).foldl stepD v)) [] [] := by
  intro d
  induction d with
  | zero =>
    intro i n v h hn hv
    obtain ⟨n, rfl⟩ : ∃ m, n = m + 1 := ⟨n - 1, by omega⟩
    rw [spec_DecFrac_L0.succ]
    unfold spec_DecFrac_L0r
    simp only [BA_size, cast_nlt (show ¬ i < l.length by omega), cond_false, List.drop_of_length_le (show l.length ≤ i by omega), List.foldl_nil]
  | succ d ih =>
    intro i n v h hn hv
    obtain ⟨n, rfl⟩ : ∃ m, n = m + 1 := ⟨n - 1, by omega⟩
    have hi : i < l.length := by omega
    have hd : isDig l[i] = true := List.all_eq_true.1 ha _ (List.getElem_mem hi)
    obtain ⟨w1, c1, c2⟩ := dig_wraps hd
    have hd2 := isDig_ok hd
    have v1 : v < cap := Nat.lt_trans hv (ten_cap (by omega))
    have hv2 : stepD v l[i] < 10 ^ (i + 1) := by unfold stepD; rw [Nat.pow_succ]; omega
    have v2 : v * 10 < cap := by
      have := ten_cap (i := i + 1) (by omega)
      rw [Nat.pow_succ] at this; omega
    have v3 : stepD v l[i] < cap := Nat.lt_trans hv2 (ten_cap (by omega))
    have hx : l[i].toNat - 48 < cap := by have := cap_ge; omega
    have h10 : (10 : Int) = ((10 : Nat) : Int) := rfl
    have hst : v * 10 + (l[i].toNat - 48) = stepD v l[i] := rfl
    rw [spec_DecFrac_L0.succ]
    unfold spec_DecFrac_L0r
    simp only [BA_size, cast_lt hi, cast_neg, cond_true, cond_false, Int.toNat_natCast, BA_get, List.getElem?_eq_getElem hi, h10, spec_l5Times_eq N v 10 _ v1 (show 10 < 65536 by omega) hN, w1, spec_NatOf_eq N _ _ (show l[i].toNat - 48 < 18446744073709551616 by omega) hN, spec_l5Add_eq N _ _ _ v2 hx hN, hst, spec_l5Trim_dig N _ _ v3 hN, succ_i (show i < 4611686018427387904 by omega), List.drop_eq_getElem_cons hi, List.foldl_cons]
    exact ih (i + 1) n (stepD v l[i]) (by omega) (by omega) hv2
theorem spec_DecFrac_eq {α : Type} (N : Nat) (s : List UInt8) (k : Bool → Bool → List Int → List Int → Option α) (hN : cap < N) : spec_DecFrac N (BA s) k = k (decFrac s).1 (decFrac s).2.1 (decFrac s).2.2.1 (decFrac s).2.2.2 := by
  have hNN := cap_N hN
  rw [spec_DecFrac.eq]
  unfold spec_DecFrac.b decFrac
  by_cases h6 : s.length ≤ 60
  · rw [if_pos h6]
    obtain ⟨D, b, p, e1, e2⟩ := l7_parts (α := α) N s h6 (by omega)
    rw [e1]
    cases hl : litS s with
    | none => simp [bad4]
    | some t =>
      obtain ⟨v, e, q⟩ := t
      obtain ⟨rfl, rfl, rfl⟩ := e2 v e q hl
      obtain ⟨b1, b2, b3, b4, _⟩ := lit_bounds hl
      have hel : e.length ≤ 60 := by simp at b2; omega
      simp only [Option.isSome_some, Bool.not_true, cond_false]
      have L := spec_DecFrac_loop (α := α) N (v ++ e) (by omega) b1 hN ((e.length : Nat) : Int) p
      have L2 := fun K => L K (v ++ e).length 0 N 0 (by omega) (by omega) (by simp)
      simp only [digs_zero, List.drop_zero, Int.natCast_zero] at L2
      rw [L2]
      have hval : (v ++ e).foldl stepD 0 = valT (v ++ e) := rfl
      have w : IntKind.i64.wrap (p - ((e.length : Nat) : Int)) = p - ((e.length : Nat) : Int) := wrap_i64 (by omega) (by omega)
      have hc1 : (1 : Nat) < cap0 := by have := ten_cap0 (i := 1) (by omega); omega
      have hv0 := val_ten b1 (by omega) 0 (by omega)
      rw [Nat.pow_zero, Nat.mul_one] at hv0
      rw [hval, w]
      by_cases hp : 0 ≤ p - ((e.length : Nat) : Int)
      · obtain ⟨n, hn⟩ : ∃ n : Nat, p - ((e.length : Nat) : Int) = n := ⟨(p - ((e.length : Nat) : Int)).toNat, by omega⟩
        rw [if_pos hp]
        have hn2 : n ≤ 500 := by omega
        have hvt := val_ten b1 (by omega) n hn2
        rw [hn, Int.toNat_natCast]
        simp only [cast_nn, cond_true, tens_eq' N n (by omega) hN, spec_l5Mul_eq N _ _ _ (cap0_lt hv0) (ten_cap (i := n) (by omega)) hN, ← digs1, spec_l6Make_eq N false _ 1 _ hvt hc1 (by omega) hN]
      · obtain ⟨n, hn⟩ : ∃ n : Nat, ((e.length : Nat) : Int) - p = n := ⟨(((e.length : Nat) : Int) - p).toNat, by omega⟩
        rw [if_neg hp]
        have hn2 : n ≤ 500 := by omega
        have w2 : IntKind.i64.wrap (0 - (p - ((e.length : Nat) : Int))) = (n : Int) := by rw [wrap_i64 (by omega) (by omega)]; omega
        have h10 : 10 ^ n ≠ 0 := Nat.pos_iff_ne_zero.1 (Nat.pow_pos (by omega))
        rw [hn, Int.toNat_natCast]
        simp only [hp, decide_false, cond_false, w2, tens_eq' N n (by omega) hN, spec_l6Make_eq N false _ _ _ hv0 (ten_cap0 (i := n) (by omega)) h10 hN]
  · rw [if_neg h6, spec_l7Parts.eq]
    unfold spec_l7Parts.b
    have c60 : (60 : Int) < ((s.length : Nat) : Int) := by omega
    simp only [BA_size, c60, decide_true, cond_true, Bool.not_false, bad4]
theorem impl_ten_loop {α : Type} (N m : Nat) (hm : m ≤ 1000) (hN : cap < N) (k : List Int → Option α) : ∀ (d i n : Nat), i + d = m → d < n → impl_ten_L0 N n (digs (10 ^ i)) (m : Int) (i : Int) k = k (digs (10 ^ m)) := by
  intro d
  induction d with
  | zero =>
    intro i n h hn
    obtain ⟨n, rfl⟩ : ∃ x, n = x + 1 := ⟨n - 1, by omega⟩
    obtain rfl : i = m := by omega
    rw [impl_ten_L0.succ]
    unfold impl_ten_L0r
    simp only [cast_nlt (show ¬ i < i by omega), cond_false]
  | succ d ih =>
    intro i n h hn
    obtain ⟨n, rfl⟩ : ∃ x, n = x + 1 := ⟨n - 1, by omega⟩
    have e10 : [(10 : Int)] = digs 10 := (digs_one (n := 10) (by omega) (by omega)).symm
    have h10 : 10 < cap := by have := cap_ge; omega
    rw [impl_ten_L0.succ]
    unfold impl_ten_L0r
    simp only [cast_lt (show i < m by omega), cond_true, e10, impl_natMul_eq N _ 10 _ (ten_cap (i := i) (by omega)) h10 hN, ← Nat.pow_succ, succ_i (show i < 4611686018427387904 by omega)]
    exact ih (i + 1) n (by omega) (by omega)
theorem impl_ten_eq {α : Type} (N m : Nat) (hm : m ≤ 1000) (hN : cap < N) (k : List Int → Option α) : impl_ten N (m : Int) k = k (digs (10 ^ m)) := by
 have hNN := cap_N hN
 rw [impl_ten.eq]
 unfold impl_ten.b
 have := impl_ten_loop N m hm hN (fun x => k x) m 0 N (by omega) (by omega)
 rw [Nat.pow_zero, digs1] at this
 exact this
theorem impl_DecFrac_eq {α : Type} (N : Nat) (s : List UInt8) (k : Bool → Bool → List Int → List Int → Option α) (hs : s.length ≤ 2000000) (hN : cap < N) : impl_DecFrac N (BA s) k = k (decFrac s).1 (decFrac s).2.1 (decFrac s).2.2.1 (decFrac s).2.2.2 := by
  have hNN := cap_N hN
  rw [impl_DecFrac.eq]
  unfold impl_DecFrac.b decFrac
  rw [impl_DecOk_eq N s _ hs (by omega), lit_eq]
  by_cases h6 : s.length ≤ 60
  · rw [if_pos h6]
    simp only [h6, decide_true, Bool.and_true]
    rw [impl_literal_eq N s _ hs (by omega), lit_eq]
    cases hl : litS s with
    | none => simp [bad4]
    | some t =>
      obtain ⟨v, e, p⟩ := t
      obtain ⟨b1, b2, b3, b4, _⟩ := lit_bounds hl
      have hel : e.length ≤ 60 ∧ v.length + e.length ≤ 60 := by simp at b2; omega
      have c3 : v.length + e.length ≤ 9223372036854775807 := by omega
      have w : IntKind.i64.wrap (p - ((e.length : Nat) : Int)) = p - ((e.length : Nat) : Int) := wrap_i64 (by omega) (by omega)
      have hc1 : (1 : Nat) < cap0 := by have := ten_cap0 (i := 1) (by omega); omega
      have hv0 := val_ten b1 (by omega) 0 (by omega)
      rw [Nat.pow_zero, Nat.mul_one] at hv0
      simp only [Option.isSome_some, Bool.not_true, cond_false, BA_size, c3, decide_true, cond_true, BA_append, impl_natRead_eq N (v ++ e) _ (by omega) b1 hN, w]
      by_cases hp : 0 ≤ p - ((e.length : Nat) : Int)
      · obtain ⟨n, hn⟩ : ∃ n : Nat, p - ((e.length : Nat) : Int) = n := ⟨(p - ((e.length : Nat) : Int)).toNat, by omega⟩
        rw [if_pos hp]
        have hn2 : n ≤ 500 := by omega
        have hvt := val_ten b1 (by omega) n hn2
        have hg := given_lowest false (valT (v ++ e) * 10 ^ n) 1
        rw [Nat.gcd_one_right, Nat.div_one, Nat.div_one] at hg
        rw [hn, Int.toNat_natCast]
        simp only [cast_nn, cond_true, impl_ten_eq N n (by omega) hN, impl_natMul_eq N _ _ _ (cap0_lt hv0) (ten_cap (i := n) (by omega)) hN, impl_whole_eq, impl_given_eq, hg]
      · obtain ⟨n, hn⟩ : ∃ n : Nat, ((e.length : Nat) : Int) - p = n := ⟨(((e.length : Nat) : Int) - p).toNat, by omega⟩
        rw [if_neg hp]
        have hn2 : n ≤ 500 := by omega
        have w2 : IntKind.i64.wrap (0 - (p - ((e.length : Nat) : Int))) = (n : Int) := by rw [wrap_i64 (by omega) (by omega)]; omega
        have h10 : 10 ^ n ≠ 0 := Nat.pos_iff_ne_zero.1 (Nat.pow_pos (by omega))
        rw [hn, Int.toNat_natCast]
        simp only [hp, decide_false, cond_false, w2, impl_ten_eq N n (by omega) hN, impl_lowest_eq N false _ _ _ hv0 (ten_cap0 (i := n) (by omega)) h10 hN, impl_given_eq, given_lowest]
  · rw [if_neg h6]
    simp [h6, bad4]
theorem spec_PairDec_eq {α : Type} (N : Nat) (w : Int) (s : List UInt8) (k : PairD → Bool → Option α) (hN : cap < N) : spec_PairDec N w (BA s) k = if (decFrac s).2.1 = true then k (pairFrac w ((decFrac s).1, ((decFrac s).2.2.1, ((decFrac s).2.2.2, ())))).1 (pairFrac w ((decFrac s).1, ((decFrac s).2.2.1, ((decFrac s).2.2.2, ())))).2 else k (0, (0, ())) false := by
 rw [spec_PairDec.eq]
 unfold spec_PairDec.b
 rw [spec_DecFrac_eq N s _ hN]
 simp only [spec_PairFrac_eq N _ _ _ hN]
 cases (decFrac s).2.1 <;> simp
theorem impl_PairDec_eq {α : Type} (N : Nat) (w : Int) (s : List UInt8) (k : PairD → Bool → Option α) (hs : s.length ≤ 2000000) (hN : cap < N) : impl_PairDec N w (BA s) k = if (decFrac s).2.1 = true then k (pairFrac w ((decFrac s).1, ((decFrac s).2.2.1, ((decFrac s).2.2.2, ())))).1 (pairFrac w ((decFrac s).1, ((decFrac s).2.2.1, ((decFrac s).2.2.2, ())))).2 else k (0, (0, ())) false := by
 rw [impl_PairDec.eq]
 unfold impl_PairDec.b
 rw [impl_DecFrac_eq N s _ hs hN]
 simp only [impl_PairFrac_eq N _ _ _ hN]
 cases (decFrac s).2.1 <;> simp
theorem pure_FnExactPairDec (x0 : Int) (x1 : ByteArray) : ∃ N, laws_FnExactPairDec N x0 x1 some = some true := by
 refine ⟨cap + 1, ?_⟩
 have hN : cap < cap + 1 := by omega
 generalize cap + 1 = N at *
 obtain ⟨s, rfl⟩ := BA_of x1
 rw [laws_FnExactPairDec.eq]
 unfold laws_FnExactPairDec.b
 simp only [BA_size]
 by_cases h1 : (1048576 : Int) < ((s.length : Nat) : Int)
 ·simp [h1]
 simp only [h1, decide_false, cond_false, spec_PairDec_eq N x0 s _ hN, impl_PairDec_eq N x0 s _ (show s.length ≤ 2000000 by omega) hN, laws_eqPair_eq]
 split <;> simp
end Go.Proofs.YtnhbcpmmdblkjaaGreatDoorAm
