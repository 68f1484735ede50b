/-
  Patterns, numbers and parts: there and back; the law.
-/
import Derived.Test.YtaelbfbplamahaaDoorDc
namespace Go.Proofs.YtaelbfbplamahaaDoorAm
open Go
set_option linter.unusedVariables false
set_option linter.unusedSimpArgs false

theorem mkB_mkS {w : Int} {s : Nat} {p : Int} (h0 : s ≠ 0) (hs : s < 2 * 2 ^ fracB w) (hp : leastB w ≤ p) (c2 : 2 ^ fracB w ≤ s ∨ p ≤ leastB w) :
    mkB w s p = mkS w s p ∧ mkB w (2 * s) (p - 1) = mkS w s p := by
  obtain ⟨g1, g2, g3, g4, g5⟩ := frac_great w
  have hpo := pow_le_52 g2
  constructor
  · obtain ⟨o, ho, e, ho2, hc, hd⟩ := odd_of h0 (by omega)
    unfold mkB
    rw [hd]
    exact (mk_same ho ho2 e (by omega) (by omega) (fun h => by omega) c2).symm
  · obtain ⟨o, ho, e, ho2, hc, hd⟩ := odd_of (s := 2 * s) (by omega) (by omega)
    unfold mkB
    rw [hd]
    generalize Go.Lib.ctz 64 (2 * s) = c at *
    obtain ⟨d, rfl⟩ : ∃ d, c = d + 1 := by
      cases c with
      | zero => rw [Nat.pow_zero, Nat.mul_one] at e; omega
      | succ d => exact ⟨d, rfl⟩
    have e2 : s = o * 2 ^ d := by
      rw [Nat.pow_succ, ← Nat.mul_assoc] at e; omega
    exact (mk_same ho ho2 e2 (by omega) (by omega) (fun h => by omega) c2).symm
theorem bitMake_part {w n : Int} (h : (partOf w n).2 = true) :
    bitMake w (partOf w n).1 = (n, true) ∧ bitMake w ((partOf w n).1.1, ((partOf w n).1.2.1 * 2, ((partOf w n).1.2.2.1 - 1, ()))) = (n, true) ∧
      0 ≤ (partOf w n).1.2.1 ∧ (partOf w n).1.2.1 < 9223372036854775808 ∧ -2000 ≤ (partOf w n).1.2.2.1 ∧ (partOf w n).1.2.2.1 ≤ 2000 := by
  unfold partOf at *
  by_cases h1 : bitOk w n = true ∧ n ≠ top w ∧ n ≠ -top w
  · obtain ⟨hk, n1, n2⟩ := h1
    obtain ⟨hw, t1, t2⟩ := bitOk_w hk
    rw [if_pos ⟨hk, n1, n2⟩]
    obtain ⟨g1, g2, g3, g4, g5⟩ := frac_great w
    have hG : 0 ≤ greatB w ∧ greatB w ≤ 1023 := by unfold greatB; split <;> omega
    have hpo := pow_le_52 g2
    have hp0 : 0 < 2 ^ fracB w := Nat.pow_pos (by omega)
    have hte := top_eq hw
    obtain ⟨a, ha⟩ : ∃ a, n.natAbs = a := ⟨_, rfl⟩
    have hat : a < (2 * greatB w + 1).toNat * 2 ^ fracB w := by omega
    have hq : a / 2 ^ fracB w < (2 * greatB w + 1).toNat := (Nat.div_lt_iff_lt_mul hp0).2 hat
    have hm : a % 2 ^ fracB w < 2 ^ fracB w := Nat.mod_lt _ hp0
    have hdm := Nat.div_add_mod a (2 ^ fracB w)
    have hsg : (if decide (n < 0) = true then -(a : Int) else (a : Int)) = n := by
      by_cases hn : n < 0
      · simp [hn]; omega
      · simp [hn]; omega
    rw [ha]
    by_cases h0 : a / 2 ^ fracB w = 0
    · have hlt : a % 2 ^ fracB w = a := by rw [h0] at hdm; omega
      rw [if_pos h0, hlt]
      rw [hlt] at hm
      by_cases hz : a = 0
      · subst hz
        have hn : n = 0 := by omega
        subst hn
        refine ⟨?_, ?_, by simp, by simp, by simp only; omega, by simp only; omega⟩
        · unfold bitMake
          simp only
          rw [if_pos ⟨hw, by omega, by omega⟩]
          simp
        · unfold bitMake
          simp only
          rw [if_pos ⟨hw, by omega, by omega⟩]
          simp
      · obtain ⟨m1, m2⟩ := mkB_mkS (w := w) (s := a) (p := leastB w) hz (by omega) (by omega) (.inr (by omega))
        have hmk : mkS w a (leastB w) = some (a : Int) := by
          unfold mkS
          rw [if_neg (by omega), if_neg (by omega)]
        have z1 : ¬ (a : Int) = 0 := by omega
        have z2 : ¬ (a : Int) * 2 = 0 := by omega
        have e2 : ((a : Int) * 2).toNat = 2 * a := by omega
        refine ⟨?_, ?_, by simp only; omega, by simp only; omega, by simp only; omega, by simp only; omega⟩
        · unfold bitMake
          simp only
          rw [if_pos ⟨hw, by omega, by omega⟩, if_neg z1, Int.toNat_natCast, m1, hmk]
          simp only [hsg]
        · unfold bitMake
          simp only
          rw [if_pos ⟨hw, by omega, by omega⟩, if_neg z2, e2, m2, hmk]
          simp only [hsg]
    · rw [if_neg h0]
      generalize hE : a / 2 ^ fracB w = E at *
      generalize hM : a % 2 ^ fracB w = M at *
      obtain ⟨m1, m2⟩ := mkB_mkS (w := w) (s := M + 2 ^ fracB w) (p := leastB w + (E : Int) - 1) (by omega) (by omega) (by omega) (.inl (by omega))
      have hmk : mkS w (M + 2 ^ fracB w) (leastB w + (E : Int) - 1) = some (a : Int) := by
        unfold mkS
        rw [if_neg (by omega), if_pos (by omega), if_neg (by omega)]
        congr 1
        have e1 : leastB w + (E : Int) - 1 - leastB w + 1 = (E : Int) := by omega
        have e3 : (E : Int) * ((2 ^ fracB w : Nat) : Int) = ((2 ^ fracB w * E : Nat) : Int) := by rw [Nat.mul_comm]; exact (Int.natCast_mul _ _).symm
        rw [e1, e3]
        omega
      have z1 : ¬ ((M + 2 ^ fracB w : Nat) : Int) = 0 := by omega
      have z2 : ¬ ((M + 2 ^ fracB w : Nat) : Int) * 2 = 0 := by omega
      have e2 : (((M + 2 ^ fracB w : Nat) : Int) * 2).toNat = 2 * (M + 2 ^ fracB w) := by omega
      refine ⟨?_, ?_, by simp only; omega, by simp only; omega, by simp only; omega, by simp only; omega⟩
      · unfold bitMake
        simp only
        rw [if_pos ⟨hw, by omega, by omega⟩, if_neg z1, Int.toNat_natCast, m1, hmk]
        simp only [hsg]
      · unfold bitMake
        simp only
        rw [if_pos ⟨hw, by omega, by omega⟩, if_neg z2, e2, m2, hmk]
        simp only [hsg]
  · rw [if_neg h1] at h; cases h
/-- Of a pattern that has a number: the number's pattern is it, but for the second nought. -/
theorem bits_of_ord {w x : Int} (h0 : 0 ≤ x) (h1 : x < 18446744073709551616) (h : (bitOrd w x).2 = true) :
    bitBits w (bitOrd w x).1 = x ∨ ((bitOrd w x).1 = 0 ∧ x = half w) := by
  unfold bitOrd at *
  by_cases hw : w = 32 ∨ w = 64
  · rw [if_pos hw] at *
    by_cases hb : w = 32 ∧ 4294967296 ≤ x
    · rw [if_pos hb] at h; cases h
    rw [if_neg hb] at *
    by_cases ht : top w < x % half w
    · rw [if_pos ht] at h; cases h
    rw [if_neg ht]
    obtain ⟨_, _, h3, h4, h5⟩ := half_in hw
    have hh : w = 32 ∧ (half w : Int) = 2147483648 ∨ w = 64 ∧ (half w : Int) = 9223372036854775808 := by
      rcases hw with rfl | rfl
      · exact .inl ⟨rfl, rfl⟩
      · exact .inr ⟨rfl, rfl⟩
    have hx : x < 2 * (half w : Int) := by omega
    have hm0 := Int.emod_nonneg x (show (half w : Int) ≠ 0 by omega)
    by_cases hg : (half w : Int) ≤ x
    · have e : x % (half w : Int) = x - half w := by
        rw [show x = (x - half w) + half w by omega, Int.add_emod_right, Int.emod_eq_of_lt (by omega) (by omega)]
        omega
      rw [e] at ht
      rw [if_pos hg, e]
      by_cases hz : x = half w
      · right; exact ⟨by simp only; omega, hz⟩
      · left
        have hok : bitOk w (-(x - half w)) = true := by
          simp only [bitOk, Bool.and_eq_true, decide_eq_true_eq]
          exact ⟨⟨hw, by omega⟩, by omega⟩
        unfold bitBits
        simp only
        rw [if_pos hok, if_pos (by omega)]
        omega
    · have e : x % (half w : Int) = x := Int.emod_eq_of_lt (by omega) (by omega)
      rw [if_neg hg, e]
      rw [e] at ht
      left
      have hok : bitOk w x = true := by
        simp only [bitOk, Bool.and_eq_true, decide_eq_true_eq]
        exact ⟨⟨hw, by omega⟩, by omega⟩
      unfold bitBits
      simp only
      rw [if_pos hok, if_neg (by omega)]
  · rw [if_neg hw] at h; cases h
theorem drawBitOk_ok (N : Nat) (a : List Int) (ha : ∀ x ∈ a, 0 ≤ x ∧ x ≤ 255) (hN : 1048576 < N) :
    ∃ (w n : Int), ∀ {α : Type} (k : Int → Int → Option α), spec_DrawBitOk N a k = k w n := by
  obtain ⟨s, e, q⟩ := open_ok N a ha
  obtain ⟨w, s1, e1, q1⟩ := width_ok N s 0 q (by omega)
  obtain ⟨v, s2, e2, _, _, _⟩ := ord_ok N w s1 (0 + 2) q1 (by omega) hN
  refine ⟨w, v, fun k => ?_⟩
  rw [spec_DrawBitOk.eq]
  unfold spec_DrawBitOk.b
  rw [spec_l31WidthOrd.eq]
  unfold spec_l31WidthOrd.b
  simp only [e, e1, e2]
theorem drawBitOrd_J12 (N : Nat) (w b : Int) (s : RdD) (c : Nat) (h : RdOk c s) (hc : c ≤ 50000) (hb : 0 ≤ b ∧ b < 18446744073709551616) :
    ∃ b', (∀ {α : Type} (k : Int → Int → Option α), spec_DrawBitOrd_J12 N w b s k = k w b') ∧ 0 ≤ b' ∧ b' < 18446744073709551616 := by
  obtain ⟨r, s1, e1, q1, _, _⟩ := pick_ok N 4 s c h (by omega)
  by_cases h1 : r = 0
  · obtain ⟨x, s2, e2, q2, x0, x1⟩ := pick_ok N 64 s1 (c + 1) q1 (by omega)
    have x1 := x1 (by omega)
    have w1 : IntKind.u64.wrap x = x := wrap_u64 x0 (by omega)
    have c1 : ¬ x < 0 := by omega
    have hr : 0 ≤ shlI .u64 (1 : Int) x ∧ shlI .u64 (1 : Int) x < 18446744073709551616 := wrapU_range _
    refine ⟨shlI .u64 (1 : Int) x, fun k => ?_, hr.1, hr.2⟩
    rw [spec_DrawBitOrd_J12.eq]
    unfold spec_DrawBitOrd_J12.b
    simp only [e1, h1, decide_true, cond_true, e2, w1, c1, decide_false, cond_false]
  · refine ⟨b, fun k => ?_, hb.1, hb.2⟩
    rw [spec_DrawBitOrd_J12.eq]
    unfold spec_DrawBitOrd_J12.b
    simp only [e1, h1, decide_false, cond_false]
theorem drawBitOrd_J5 (N : Nat) (w b r : Int) (s : RdD) (c : Nat) (h : RdOk c s) (hc : c ≤ 40000) (hb : 0 ≤ b ∧ b < 18446744073709551616) (hN : 1048576 < N) :
    ∃ b', (∀ {α : Type} (k : Int → Int → Option α), spec_DrawBitOrd_J5 N w b r s k = k w b') ∧ 0 ≤ b' ∧ b' < 18446744073709551616 := by
  obtain ⟨x, s1, e1, _, x0, x1⟩ := big_ok N s c h (by omega) hN
  by_cases h0 : r = 0
  · refine ⟨x, fun k => ?_, x0, x1⟩
    rw [spec_DrawBitOrd_J5.eq]
    unfold spec_DrawBitOrd_J5.b
    simp only [h0, decide_true, cond_true, e1]
  by_cases h1 : r = 1
  · obtain ⟨n, rfl⟩ : ∃ n : Nat, x = (n : Int) := ⟨x.toNat, by omega⟩
    have e2 : shrI .u64 (n : Int) (32 : Int) = ((n / 2 ^ 32 : Nat) : Int) := shrN (k := 32) rfl (by omega)
    refine ⟨((n / 2 ^ 32 : Nat) : Int), fun k => ?_, by omega, by omega⟩
    rw [spec_DrawBitOrd_J5.eq]
    unfold spec_DrawBitOrd_J5.b
    simp only [h0, decide_false, cond_false, spec_DrawBitOrd_J7.eq]
    unfold spec_DrawBitOrd_J7.b
    simp only [h1, decide_true, cond_true, e1, e2]
  by_cases h2 : r = 2
  · obtain ⟨y, s2, e2, _, _, _⟩ := pick_ok N 5 s c h (by omega)
    have hr := wrapU_range (b + IntKind.u64.wrap y)
    refine ⟨IntKind.u64.wrap (b + IntKind.u64.wrap y), fun k => ?_, hr.1, hr.2⟩
    rw [spec_DrawBitOrd_J5.eq]
    unfold spec_DrawBitOrd_J5.b
    simp only [h0, decide_false, cond_false, spec_DrawBitOrd_J7.eq]
    unfold spec_DrawBitOrd_J7.b
    simp only [h1, decide_false, cond_false, spec_DrawBitOrd_J9.eq]
    unfold spec_DrawBitOrd_J9.b
    simp only [h2, decide_true, cond_true, e2]
  · obtain ⟨b', e3, r0, r1⟩ := drawBitOrd_J12 N w b s c h (by omega) hb
    by_cases h3 : r = 3
    · refine ⟨b', fun k => ?_, r0, r1⟩
      rw [spec_DrawBitOrd_J5.eq]
      unfold spec_DrawBitOrd_J5.b
      simp only [h0, decide_false, cond_false, spec_DrawBitOrd_J7.eq]
      unfold spec_DrawBitOrd_J7.b
      simp only [h1, decide_false, cond_false, spec_DrawBitOrd_J9.eq]
      unfold spec_DrawBitOrd_J9.b
      simp only [h2, decide_false, cond_false, spec_DrawBitOrd_J11.eq]
      unfold spec_DrawBitOrd_J11.b
      simp only [h3, decide_true, cond_true, e3]
    · refine ⟨b, fun k => ?_, hb.1, hb.2⟩
      rw [spec_DrawBitOrd_J5.eq]
      unfold spec_DrawBitOrd_J5.b
      simp only [h0, decide_false, cond_false, spec_DrawBitOrd_J7.eq]
      unfold spec_DrawBitOrd_J7.b
      simp only [h1, decide_false, cond_false, spec_DrawBitOrd_J9.eq]
      unfold spec_DrawBitOrd_J9.b
      simp only [h2, decide_false, cond_false, spec_DrawBitOrd_J11.eq]
      unfold spec_DrawBitOrd_J11.b
      simp only [h3, decide_false, cond_false]
theorem drawBitOrd_ok (N : Nat) (a : List Int) (ha : ∀ x ∈ a, 0 ≤ x ∧ x ≤ 255) (hN : 1048576 < N) :
    ∃ (w b : Int), (∀ {α : Type} (k : Int → Int → Option α), spec_DrawBitOrd N a k = k w b) ∧ 0 ≤ b ∧ b < 18446744073709551616 := by
  obtain ⟨s, e, q⟩ := open_ok N a ha
  obtain ⟨w, s1, e1, q1⟩ := width_ok N s 0 q (by omega)
  obtain ⟨v, s2, e2, q2, _, _⟩ := ord_ok N w s1 (0 + 2) q1 (by omega) hN
  obtain ⟨r, s3, e3, q3, _, _⟩ := pick_ok N 6 s2 _ q2 (by omega)
  obtain ⟨b, e4, b0, b1⟩ := drawBitOrd_J5 N w (bitBits w v) r s3 _ q3 (by omega) (bitBits_range w v) hN
  refine ⟨w, b, fun k => ?_, b0, b1⟩
  rw [spec_DrawBitOrd.eq]
  unfold spec_DrawBitOrd.b
  simp only [e, e1, e2, spec_BitBits_eq, e3, e4]
theorem pure_FnBitBack (x0 x1 : List Int) (z0 : wfD (.sl (.int .u8)) x0) (z1 : wfD (.sl (.int .u8)) x1) : ∃ N, laws_FnBitBack N x0 x1 some = some true := by
  refine ⟨1099511627777, ?_⟩
  have hN : 1048576 < 1099511627777 := by omega
  generalize 1099511627777 = N at *
  rw [laws_FnBitBack.eq]
  unfold laws_FnBitBack.b
  by_cases h1 : (1048576 : Int) < ((x0.length : Nat) : Int)
  · simp [h1]
  by_cases h2 : (1048576 : Int) < ((x1.length : Nat) : Int)
  · simp [h1, h2]
  obtain ⟨w, b, e1, b0, b1⟩ := drawBitOrd_ok N x0 (bytes_wf z0) hN
  obtain ⟨v, n, e2⟩ := drawBitOk_ok N x1 (bytes_wf z1) hN
  have r := bitBits_range v n
  have tail : ∀ K : Bool → Option Bool, K = some → (impl_BitPartOf N v n (fun x394 x395 => bif !x395 then K true else impl_BitMake N v x394 (fun x467 x468 => bif !x468 then K false else bif !(decide (x467 = n)) then K false else impl_BitMake N v (x394.1, (IntKind.u64.wrap (x394.2.1 * (2 : Int)), (IntKind.i64.wrap (x394.2.2.1 - (1 : Int)), ()))) (fun x473 x474 => bif x474 then K (decide (x473 = n)) else K false)))) = some true := by
    rintro K rfl
    simp only [impl_BitPartOf_eq]
    cases hp : (partOf v n).2
    · simp
    · obtain ⟨m1, m2, p0, p1, p2, p3⟩ := bitMake_part hp
      have w1 : IntKind.u64.wrap ((partOf v n).1.2.1 * 2) = (partOf v n).1.2.1 * 2 := wrap_u64 (by omega) (by omega)
      have w2 : IntKind.i64.wrap ((partOf v n).1.2.2.1 - 1) = (partOf v n).1.2.2.1 - 1 := wrap_i64 (by omega) (by omega)
      simp only [Bool.not_true, cond_false, w1, w2, impl_BitMake_eq N v (partOf v n).1 _ p0 (show (partOf v n).1.2.1 < 18446744073709551616 by omega), impl_BitMake_eq N v ((partOf v n).1.1, ((partOf v n).1.2.1 * 2, ((partOf v n).1.2.2.1 - 1, ()))) _ (show 0 ≤ (partOf v n).1.2.1 * 2 by omega) (show (partOf v n).1.2.1 * 2 < 18446744073709551616 by omega), m1, m2, decide_true, cond_true]
  have tail2 := tail some rfl
  have tail3 : (spec_DrawBitOk N x1 (fun x360 x361 => impl_BitBits N x360 x361 (fun x362 => impl_BitOrd N x360 x362 (fun x363 x364 => spec_BitOk N x360 x361 (fun x365 => bif x365 then (bif !x364 then some false else bif !(decide (x363 = x361)) then some false else impl_BitPartOf N x360 x361 (fun x394 x395 => bif !x395 then some true else impl_BitMake N x360 x394 (fun x467 x468 => bif !x468 then some false else bif !(decide (x467 = x361)) then some false else impl_BitMake N x360 (x394.1, (IntKind.u64.wrap (x394.2.1 * (2 : Int)), (IntKind.i64.wrap (x394.2.2.1 - (1 : Int)), ()))) (fun x473 x474 => bif x474 then some (decide (x473 = x361)) else some false)))) else impl_BitPartOf N x360 x361 (fun x394 x395 => bif !x395 then some true else impl_BitMake N x360 x394 (fun x467 x468 => bif !x468 then some false else bif !(decide (x467 = x361)) then some false else impl_BitMake N x360 (x394.1, (IntKind.u64.wrap (x394.2.1 * (2 : Int)), (IntKind.i64.wrap (x394.2.2.1 - (1 : Int)), ()))) (fun x473 x474 => bif x474 then some (decide (x473 = x361)) else some false))))))) : Option Bool) = some true := by
    simp only [e2, impl_BitBits_eq, impl_BitOrd_eq N v (bitBits v n) _ r.1 r.2, spec_BitOk_eq]
    by_cases hk : bitOk v n = true
    · simp only [hk, cond_true, bitOrd_bits hk, Bool.not_true, cond_false, decide_true]
      exact tail2
    · simp only [hk, cond_false]
      exact tail2
  simp only [h1, h2, decide_false, cond_false, e1, impl_BitOrd_eq N w b _ b0 b1, spec_BitOrd_eq N w b _ b0 b1, beq_self_eq_true, Bool.not_true, impl_BitBits_eq N w]
  cases hb : (bitOrd w b).2
  · simp only [cond_false]
    exact tail3
  · simp only [cond_true]
    rcases bits_of_ord b0 b1 hb with h | ⟨h, h'⟩
    · simp only [h, decide_true, Bool.not_true, cond_false]
      exact tail3
    · by_cases h3 : bitBits w (bitOrd w b).1 = b
      · simp only [h3, decide_true, Bool.not_true, cond_false]
        exact tail3
      · have hw : w = 32 ∨ w = 64 := by
          unfold bitOrd at hb
          by_cases hw : w = 32 ∨ w = 64
          · exact hw
          · rw [if_neg hw] at hb; cases hb
        have hs : shrI .u64 b (IntKind.u64.wrap (IntKind.i64.wrap (w - 1))) = 1 := by
          rw [h']
          rcases hw with rfl | rfl <;> rfl
        obtain ⟨_, c2, _⟩ := half_in hw
        rw [h] at h3
        simp only [h, h3, decide_true, decide_false, Bool.not_false, Bool.not_true, cond_true, cond_false, c2, hs]
        exact tail3
end Go.Proofs.YtaelbfbplamahaaDoorAm
