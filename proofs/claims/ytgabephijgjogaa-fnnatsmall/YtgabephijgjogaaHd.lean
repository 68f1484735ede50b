/-
  Numbers below 2^64: the drawn law.
-/
import Derived.Test.YtgabephijgjogaaN
import Derived.Test.YtgabephijgjogaaCa
namespace Go.Proofs.YtgabephijgjogaaAm
open Go
set_option linter.unusedVariables false
set_option linter.unusedSimpArgs false

theorem drawNatOf_loop {α : Type} (N n : Nat) (hn : n ≤ 10) (k : Int → Option α) : ∀ (d i f : Nat) (v : Nat) (s : RdD) (c : Nat), i + d = n → d < f → RdOk c s → c + d ≤ 1000 → v < 18446744073709551616 →
    ∃ v' : Nat, v' < 18446744073709551616 ∧ spec_DrawNatOf_L0 N f (v : Int) (n : Int) (i : Int) s k = k (v' : Int) := by
  intro d
  induction d with
  | zero =>
    intro i f v s c h hf hs hc hv
    obtain ⟨f, rfl⟩ : ∃ m, f = m + 1 := ⟨f - 1, by omega⟩
    refine ⟨v, hv, ?_⟩
    rw [spec_DrawNatOf_L0.succ]
    unfold spec_DrawNatOf_L0r
    simp only [cast_nlt (show ¬ i < n by omega), cond_false]
  | succ d ih =>
    intro i f v s c h hf hs hc hv
    obtain ⟨f, rfl⟩ : ∃ m, f = m + 1 := ⟨f - 1, by omega⟩
    obtain ⟨r, s1, e1, q1, r0, r1⟩ := pick32_ok N 256 s c hs (by omega)
    have r1 := r1 (by omega)
    obtain ⟨x, hx⟩ : ∃ x : Nat, IntKind.u64.wrap (IntKind.u64.wrap ((v : Int) * 256) + IntKind.u64.wrap r) = (x : Int) ∧ x < 18446744073709551616 := by
      refine ⟨(IntKind.u64.wrap (IntKind.u64.wrap ((v : Int) * 256) + IntKind.u64.wrap r)).toNat, ?_, ?_⟩
      · rw [u64w]; omega
      · rw [u64w]; omega
    obtain ⟨v', h1, h2⟩ := ih (i + 1) f x s1 (c + 1) (by omega) (by omega) q1 (by omega) hx.2
    refine ⟨v', h1, ?_⟩
    rw [spec_DrawNatOf_L0.succ]
    unfold spec_DrawNatOf_L0r
    simp only [cast_lt (show i < n by omega), cond_true, e1, hx.1, succ_i (show i < 4611686018427387904 by omega)]
    exact h2
theorem drawNatOf_ok {α : Type} (N : Nat) (a : List Int) (ha : ∀ x ∈ a, 0 ≤ x ∧ x ≤ 255) (hN : cap < N) (k : Int → Option α) : ∃ v : Nat, v < 18446744073709551616 ∧ spec_DrawNatOf N a k = k (v : Int) := by
  have hNN := cap_N hN
  obtain ⟨s, e, q⟩ := open32_ok N a ha
  obtain ⟨r, s1, e1, q1, r0, r1⟩ := pick32_ok N 9 s 0 q (by omega)
  have r1 := r1 (by omega)
  obtain ⟨n, rfl⟩ : ∃ n : Nat, r = n := ⟨r.toNat, by omega⟩
  obtain ⟨v, h1, h2⟩ := drawNatOf_loop (α := α) N n (by omega) (fun x => k x) n 0 N 0 s1 1 (by omega) (by omega) q1 (by omega) (by omega)
  refine ⟨v, h1, ?_⟩
  rw [spec_DrawNatOf.eq]
  unfold spec_DrawNatOf.b
  simp only [e, e1]
  exact h2
theorem impl_NatOf_eq {α : Type} (N v : Nat) (k : List Int → Option α) (hv : v < 18446744073709551616) (hN : cap < N) : impl_NatOf N (v : Int) k = k (digs v) := by
  have h1 : v < 65536 ^ 4 := by omega
  have h2 := digs_len_le h1
  rw [impl_NatOf.eq]
  unfold impl_NatOf.b
  simp only [impl_natOf_eq N v _ hv hN, impl_clone_int_eq N _ _ (show (digs v).length ≤ 1048576 by omega)]
theorem borV {x y : Nat} (hx : x < 18446744073709551616) (hy : y < 18446744073709551616) : bitI .or .u64 (x : Int) (y : Int) = ((x ||| y : Nat) : Int) := by
  change IntKind.u64.wrap ((BitVec.ofInt 64 (x : Int) ||| BitVec.ofInt 64 (y : Int)).toNat : Int) = _
  have h1 : (BitVec.ofInt 64 (x : Int) ||| BitVec.ofInt 64 (y : Int)).toNat = x ||| y := by
    rw [BitVec.toNat_or, BitVec.ofInt_natCast, BitVec.ofInt_natCast, BitVec.toNat_ofNat, BitVec.toNat_ofNat, Nat.mod_eq_of_lt (by omega), Nat.mod_eq_of_lt (by omega)]
  have h2 : x ||| y < 2 ^ 64 := Nat.or_lt_two_pow (by omega) (by omega)
  rw [h1, wrap_u64 (by omega) (by omega)]
theorem smallI_digs : ∀ q : Nat, q < 18446744073709551616 → smallI (digs q) = (q : Int) := by
  intro q
  induction q using Nat.strongRecOn with
  | ind q ih =>
    intro hq
    by_cases h0 : q = 0
    · subst h0; rw [digs_zero]; rfl
    · have e := ih (q / 65536) (by omega) (by omega)
      rw [digs_pos h0]
      unfold smallI at *
      rw [List.foldr_cons, e]
      have w1 : IntKind.u64.wrap (((q / 65536 : Nat) : Int) * 65536) = ((q / 65536 * 65536 : Nat) : Int) := by rw [wrap_u64 (by omega) (by omega)]; omega
      have w2 : IntKind.u64.wrap ((q % 65536 : Nat) : Int) = ((q % 65536 : Nat) : Int) := wrap_u64 (by omega) (by omega)
      have w3 := or_add (u := q % 65536) (v := q / 65536) (r := 16) (by omega)
      rw [w1, w2, borV (by omega) (by omega)]
      have w4 : (2 : Nat) ^ 16 = 65536 := rfl
      rw [w4] at w3
      rw [w3]; omega
theorem impl_NatSmall_eq {α : Type} (N q : Nat) (k : Int → Bool → Option α) (hq : q < 65536 ^ 256) (hN : cap < N) : impl_NatSmall N (digs q) k = if q < 18446744073709551616 then k (q : Int) true else k 0 false := by
  rw [impl_NatSmall.eq]
  unfold impl_NatSmall.b
  rw [impl_NatOk_eq N _ _ hN, natOkB_digs hq]
  simp only [cond_true]
  by_cases h : q < 18446744073709551616
  · have h1 : q < 65536 ^ 4 := by omega
    have h2 := digs_len_le h1
    rw [if_pos h]
    simp only [h2, decide_true, cond_true, smallI_digs q h]
  · have h2 : ¬ (digs q).length ≤ 4 := by
      intro h3
      have := Nat.lt_of_lt_of_le (lt_digs_len q) (pow_up h3)
      omega
    rw [if_neg h]
    simp only [h2, decide_false, cond_false]
theorem pure_FnNatSmall (x0 : List Int) (x1 : List Int) (z0 : wfD (.sl (.int .u8)) x0) (z1 : wfD (.sl (.int .u8)) x1) : ∃ N, laws_FnNatSmall N x0 x1 some = some true := by
  refine ⟨cap + 1, ?_⟩
  have hN : cap < cap + 1 := by omega
  generalize cap + 1 = N at *
  rw [laws_FnNatSmall.eq]
  unfold laws_FnNatSmall.b
  by_cases h0 : (1048576 : Int) < ((x0.length : Nat) : Int)
  · simp [h0]
  by_cases h1 : (1048576 : Int) < ((x1.length : Nat) : Int)
  · simp [h0, h1]
  simp only [h0, h1, decide_false, cond_false]
  obtain ⟨m, hm, e⟩ := drawNatOf_ok (α := Bool) N x0 (bytes_wf z0) hN _
  rw [e]
  clear e
  obtain ⟨n, hn, e⟩ := drawNatOf_ok (α := Bool) N x1 (bytes_wf z1) hN _
  rw [e]
  clear e
  obtain ⟨E, hE⟩ : ∃ E, E = 256 := ⟨_, rfl⟩
  have big : ∀ a : Nat, a < 65536 ^ 5 → a < 65536 ^ 256 := fun a h => by rw [← hE]; exact Nat.lt_of_lt_of_le h (pow_up (by omega))
  have m5 := big m (by omega)
  have n5 := big n (by omega)
  simp only [impl_NatOf_eq N m _ hm hN, impl_NatOf_eq N n _ hn hN, impl_NatSmall_eq N m _ m5 hN, if_pos hm, Bool.not_true, cond_false, decide_true, impl_NatOk_eq N _ _ hN, natOkB_digs m5, impl_NatCmp_eq N _ _ _ hN, natCmp_digs m5 n5]
  have c1 : decide (cmpN m n = -1) = decide ((m : Int) < (n : Int)) := by
    unfold cmpN; split <;> (try split) <;> simp <;> omega
  have c2 : decide (cmpN m n = 0) = decide ((m : Int) = (n : Int)) := by
    unfold cmpN; split <;> (try split) <;> simp <;> omega
  simp only [c1, c2, beq_self_eq_true, Bool.not_true, cond_false]
  have j13 : ∀ (k0 : Bool → Option Bool) (k1 : Int → Int → List Int → List Int → Option Bool), laws_FnNatSmall_J13 N (m : Int) (n : Int) (digs m) (digs n) k0 k1 = k1 (m : Int) (n : Int) (digs m) (digs n) := by
    intro k0 k1
    rw [laws_FnNatSmall_J13.eq]
    unfold laws_FnNatSmall_J13.b
    by_cases h : n ≤ m
    · have hi : (n : Int) ≤ (m : Int) := by omega
      have w : IntKind.u64.wrap ((m : Int) - (n : Int)) = ((m - n : Nat) : Int) := by rw [wrap_u64 (by omega) (by omega)]; omega
      simp only [hi, decide_true, cond_true, impl_NatSub_eq N _ _ _ hN, natSub_digs m5 n5, if_pos h, impl_NatSmall_eq N (m - n) _ (big _ (by omega)) hN, if_pos (show m - n < 18446744073709551616 by omega), Bool.not_true, cond_false, w]
    · have hi : ¬ (n : Int) ≤ (m : Int) := by omega
      simp only [hi, decide_false, cond_false]
  have j18 : ∀ (k0 : Bool → Option Bool) (k1 : Int → Int → List Int → List Int → Option Bool), laws_FnNatSmall_J18 N (m : Int) (n : Int) (digs m) (digs n) k0 k1 = k1 (m : Int) (n : Int) (digs m) (digs n) := by
    intro k0 k1
    rw [laws_FnNatSmall_J18.eq]
    unfold laws_FnNatSmall_J18.b
    by_cases h : n = 0
    · have hi : ¬ (0 : Int) < (n : Int) := by omega
      simp only [hi, decide_false, cond_false]
    · have hi : (0 : Int) < (n : Int) := by omega
      have hz : ¬ (n : Int) = 0 := by omega
      have q1 : m / n ≤ m := Nat.div_le_self _ _
      have q2 : m % n ≤ m := Nat.mod_le _ _
      have t1 : Int.tdiv (m : Int) (n : Int) = ((m / n : Nat) : Int) := rfl
      have t2 : Int.tmod (m : Int) (n : Int) = ((m % n : Nat) : Int) := rfl
      have w' : ∀ y : Nat, y ≤ m → IntKind.u64.wrap (y : Int) = (y : Int) := fun y hy => wrap_u64 (by omega) (by omega)
      have w := w' (m / n) q1
      simp only [hi, decide_true, cond_true, impl_NatDiv_eq N _ _ _ hN, natDiv_digs m5 n5 h, impl_NatSmall_eq N (m / n) _ (big _ (by omega)) hN, impl_NatSmall_eq N (m % n) _ (big _ (by omega)) hN, if_pos (show m / n < 18446744073709551616 by omega), if_pos (show m % n < 18446744073709551616 by omega),
        Bool.not_true, cond_false, hz, decide_false, t1, t2, w]
  have s5 := big (m + n) (by omega)
  have ha : nat2 (· + ·) (digs m) (digs n) = (digs (m + n), true) := by
    unfold nat2
    rw [if_pos ⟨natOkB_digs m5, natOkB_digs n5⟩, val_digs, val_digs, Int.toNat_natCast, Int.toNat_natCast, fits_of s5]
  simp only [j13, j18, impl_NatAdd_eq N _ _ _ hN, ha, cond_true, impl_NatSmall_eq N (m + n) _ s5 hN]
  by_cases h : m + n < 18446744073709551616
  · have w : IntKind.u64.wrap ((m : Int) + (n : Int)) = ((m + n : Nat) : Int) := by rw [wrap_u64 (by omega) (by omega)]; omega
    have c : (m : Int) ≤ ((m + n : Nat) : Int) := by omega
    rw [if_pos h]
    simp only [w, c, decide_true, beq_self_eq_true, Bool.not_true, cond_true, cond_false]
  · have w : ¬ (m : Int) ≤ IntKind.u64.wrap ((m : Int) + (n : Int)) := by rw [u64w]; omega
    rw [if_neg h]
    simp [w]
end Go.Proofs.YtgabephijgjogaaAm
