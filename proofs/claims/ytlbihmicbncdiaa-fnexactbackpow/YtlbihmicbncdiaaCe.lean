/-
  Narrowing behind a power: what both texts reckon; the law.
-/
import Derived.Test.YtlbihmicbncdiaaCd
namespace Go.Proofs.YtlbihmicbncdiaaAm
open Go
set_option linter.unusedVariables false
set_option linter.unusedSimpArgs false

def spanNeg (w : Int) (s : SpanD) : SpanD := if spanFull w s = true then (true, (-s.2.2.1, (-s.2.1, ()))) else span0
def spanHull (w : Int) (a b : SpanD) : SpanD :=
  if spanOk w a = true ∧ spanOk w b = true then (if a.1 = true then (if b.1 = true then (true, (min a.2.1 b.2.1, (max a.2.2.1 b.2.2.1, ()))) else a) else b) else span0
theorem spec_SpanNeg_eq {α : Type} (N : Nat) (w : Int) (s : SpanD) (k : SpanD → Option α) : spec_SpanNeg N w s k = k (spanNeg w s) := by
  rw [spec_SpanNeg.eq]
  unfold spec_SpanNeg.b spanNeg
  simp only [spec_SpanOk_eq, spec_l9Of.eq]
  unfold spec_l9Of.b
  cases h1 : spanOk w s
  · simp [spanFull, h1, span0]
  cases h2 : s.1
  · simp [spanFull, h1, h2, span0]
  have hf : spanFull w s = true := by unfold spanFull; rw [h1, h2]; rfl
  obtain ⟨_, hp, _⟩ := spanFull_ok hf
  obtain ⟨hw, a1, a2, a3, a4, a5⟩ := pairOk_span hp
  have ht := top_nonneg w
  have w1 : IntKind.i64.wrap (0 - s.2.2.1) = -s.2.2.1 := by rw [wrap_i64 (by omega) (by omega)]; omega
  have w2 : IntKind.i64.wrap (0 - s.2.1) = -s.2.1 := by rw [wrap_i64 (by omega) (by omega)]; omega
  simp only [Bool.not_true, cond_false, hf, if_true, w1, w2]
theorem impl_SpanNeg_eq {α : Type} (N : Nat) (w : Int) (s : SpanD) (k : SpanD → Option α) (hN : 1048576 < N) : impl_SpanNeg N w s k = k (spanNeg w s) := by
  rw [impl_SpanNeg.eq]
  unfold impl_SpanNeg.b spanNeg
  simp only [impl_full_eq N w [s] _ (show [s].length ≤ 100 by simp) hN, impl_some.eq]
  unfold impl_some.b
  simp only [List.all_cons, List.all_nil, Bool.and_true]
  cases hf : spanFull w s
  · simp [span0]
  obtain ⟨_, hp, _⟩ := spanFull_ok hf
  obtain ⟨hw, a1, a2, a3, a4, a5⟩ := pairOk_span hp
  have ht := top_nonneg w
  have w1 : IntKind.i64.wrap (0 - s.2.2.1) = -s.2.2.1 := by rw [wrap_i64 (by omega) (by omega)]; omega
  have w2 : IntKind.i64.wrap (0 - s.2.1) = -s.2.1 := by rw [wrap_i64 (by omega) (by omega)]; omega
  simp only [Bool.not_true, cond_false, if_true, w1, w2]
theorem spec_SpanHull_eq {α : Type} (N : Nat) (w : Int) (a b : SpanD) (k : SpanD → Option α) : spec_SpanHull N w a b k = k (spanHull w a b) := by
  rw [spec_SpanHull.eq]
  unfold spec_SpanHull.b spanHull
  simp only [spec_SpanOk_eq, spec_l9Of.eq, spec_l3Min_eq, spec_l3Max_eq]
  unfold spec_l9Of.b
  cases h1 : spanOk w a <;> cases h2 : spanOk w b <;> cases h3 : a.1 <;> cases h4 : b.1 <;> simp [span0]
theorem impl_SpanHull_eq {α : Type} (N : Nat) (w : Int) (a b : SpanD) (k : SpanD → Option α) : impl_SpanHull N w a b k = k (spanHull w a b) := by
  rw [impl_SpanHull.eq]
  unfold impl_SpanHull.b spanHull
  simp only [impl_SpanOk_eq, impl_some.eq, minI_eq, maxI_eq]
  unfold impl_some.b
  cases h1 : spanOk w a <;> cases h2 : spanOk w b <;> cases h3 : a.1 <;> cases h4 : b.1 <;> simp [span0]
theorem impl_either_eq {α : Type} (N : Nat) (w : Int) (x r : SpanD) (k : SpanD → Option α) (hN : 1048576 < N) : impl_either N w x r k = k (spanHull w (spanMeet w x r) (spanMeet w x (spanNeg w r))) := by
  rw [impl_either.eq]
  unfold impl_either.b
  simp only [impl_SpanMeet_eq N w _ _ _ hN, impl_SpanNeg_eq N w _ _ hN, impl_SpanHull_eq]
theorem nbits_one : nbits 1 = 1 := by
  obtain ⟨k, e, l1, l2⟩ := nbits_ge (a := 1) (by omega)
  have : k = 0 := by
    cases k with
    | zero => rfl
    | succ k =>
      have : 2 ^ 1 ≤ 2 ^ (k + 1) := Nat.pow_le_pow_right (by omega) (by omega)
      omega
  rw [e, this]
def oneW (w : Int) : Int := greatB w * (2 ^ fracB w : Nat)
theorem trunc_one {w : Int} (hw : w = 32 ∨ w = 64) : (trunc w 1 1).1 = oneW w := by
  obtain ⟨g1, g2, g3, g4, g5⟩ := frac_great w
  have hG : 127 ≤ greatB w ∧ greatB w ≤ 1023 := by unfold greatB; split <;> omega
  have hF : (fracB w : Int) + 1 ≤ -leastB w := by rcases hw with rfl | rfl <;> decide
  have hs : scale0 w 1 1 = ((fracB w + 1 : Nat) : Int) := by
    unfold scale0; rw [nbits_one]; omega
  have hq : qS 1 1 ((fracB w + 1 : Nat) : Int) = 2 ^ (fracB w + 1) := by
    unfold qS
    rw [if_pos (by omega), Int.toNat_natCast, Nat.one_mul, Nat.div_one]
  have hp0 : 0 < 2 ^ fracB w := Nat.pow_pos (by omega)
  unfold trunc
  rw [if_neg (by omega), hs, hq, if_pos (Nat.le_refl _)]
  have e1 : 2 ^ (fracB w + 1) / 2 = 2 ^ fracB w := by rw [Nat.pow_succ]; omega
  rw [e1]
  unfold truncE
  rw [if_pos (Nat.le_refl _), if_neg (by omega)]
  unfold oneW
  have e2 : 1 - ((fracB w + 1 : Nat) : Int) - leastB w + 1 = greatB w := by omega
  rw [e2]
  omega
def oneF : FracD := (false, ([1], ([1], ())))
theorem one_fracOk : fracOkB oneF = true := by decide
/-- How a float that is not infinite stands to 1. -/
theorem cmp_one {w o : Int} (hw : w = 32 ∨ w = 64) (h1 : -top w < o) (h2 : o < top w) : (cmpV w o oneF ≤ 0 ↔ o ≤ oneW w) ∧ (cmpV' w o oneF ≤ 0 ↔ oneW w ≤ o) := by
  obtain ⟨g1, g2, g3, g4, g5⟩ := frac_great w
  have hG : 127 ≤ greatB w ∧ greatB w ≤ 1023 := by unfold greatB; split <;> omega
  have hF : (fracB w : Int) + 1 ≤ -leastB w := by rcases hw with rfl | rfl <;> decide
  have hp0 : 0 < 2 ^ fracB w := Nat.pow_pos (by omega)
  have hok : bitOk w o = true ∧ o ≠ top w ∧ o ≠ -top w := by
    refine ⟨?_, by omega, by omega⟩
    simp only [bitOk, Bool.and_eq_true, decide_eq_true_eq]
    exact ⟨⟨hw, by omega⟩, by omega⟩
  have hvB := vBot_pos w o
  have hc : ∀ x y : Int, (cmpZ x y ≤ 0 ↔ x ≤ y) := by
    intro x y
    unfold cmpZ
    split
    · omega
    · split <;> omega
  have e1 : cmpV w o oneF = cmpZ (sgnd (vSgn w o) (vTop w o)) (vBot w o) := by
    unfold cmpV oneF
    have : val [1] = 1 := by simp [val]
    simp only [this, sgnd, Bool.false_eq_true, if_false]
    rw [show (1 : Int).toNat = 1 from rfl, Nat.mul_one, Nat.one_mul]
  have e2 : cmpV' w o oneF = cmpZ (vBot w o) (sgnd (vSgn w o) (vTop w o)) := by
    unfold cmpV' oneF
    have : val [1] = 1 := by simp [val]
    simp only [this, sgnd, Bool.false_eq_true, if_false]
    rw [show (1 : Int).toNat = 1 from rfl, Nat.mul_one, Nat.one_mul]
  rw [e1, e2, hc, hc]
  have h1w : 0 < oneW w := Int.mul_pos (by omega) (by omega)
  by_cases hn : o < 0
  · have hsg : vSgn w o = true := by
      unfold vSgn partOf
      rw [if_pos hok]
      split <;> simp [hn]
    rw [hsg]
    simp only [sgnd, if_true]
    omega
  · have hsg : vSgn w o = false := vSgn_nn (by omega)
    rw [hsg]
    simp only [sgnd, Bool.false_eq_true, if_false]
    obtain ⟨a, rfl⟩ : ∃ a : Nat, o = (a : Int) := ⟨o.toNat, by omega⟩
    have hdm := Nat.div_add_mod a (2 ^ fracB w)
    have hm : a % 2 ^ fracB w < 2 ^ fracB w := Nat.mod_lt _ hp0
    obtain ⟨G, hGe⟩ : ∃ G : Nat, greatB w = (G : Int) := ⟨(greatB w).toNat, by omega⟩
    have hone : oneW w = ((G * 2 ^ fracB w : Nat) : Int) := by unfold oneW; rw [hGe]; exact (Int.natCast_mul _ _).symm
    rw [hone]
    unfold vTop vBot partOf
    rw [if_pos hok]
    have hna : (a : Int).natAbs = a := rfl
    rw [hna]
    by_cases h0 : a / 2 ^ fracB w = 0
    · have hlp : ¬ 0 ≤ leastB w := by omega
      have hpw : 2 ^ fracB w ≤ 2 ^ (-leastB w).toNat := Nat.pow_le_pow_right (by omega) (by omega)
      have hgg : 2 ^ fracB w ≤ G * 2 ^ fracB w := Nat.le_mul_of_pos_left _ (by omega)
      rw [h0, Nat.mul_zero] at hdm
      simp only [h0, if_true, hlp, if_false, Int.toNat_natCast]
      omega
    · simp only [h0, if_false, Int.toNat_natCast]
      generalize hE : a / 2 ^ fracB w = e at *
      generalize hM : a % 2 ^ fracB w = M at *
      have hcm : 2 ^ fracB w * e = e * 2 ^ fracB w := Nat.mul_comm _ _
      by_cases hp : 0 ≤ leastB w + (e : Int) - 1
      · have hge : G + 1 ≤ e := by omega
        have := Nat.mul_le_mul_right (2 ^ fracB w) hge
        rw [Nat.add_mul, Nat.one_mul] at this
        have hpp : 0 < 2 ^ (leastB w + (e : Int) - 1).toNat := Nat.pow_pos (by omega)
        have hle := Nat.le_mul_of_pos_right (M + 2 ^ fracB w) hpp
        have h2 : 2 ≤ 2 ^ fracB w := by
          have : 2 ^ 1 ≤ 2 ^ fracB w := Nat.pow_le_pow_right (by omega) (by omega)
          omega
        simp only [hp, if_true]
        omega
      · simp only [hp, if_false]
        obtain ⟨t, ht⟩ : ∃ t : Nat, (-(leastB w + (e : Int) - 1)).toNat = t := ⟨_, rfl⟩
        rw [ht]
        have hte : (t : Int) = fracB w + (G : Int) - e := by omega
        by_cases c1 : e < G
        · have hpw : 2 ^ (fracB w + 1) ≤ 2 ^ t := Nat.pow_le_pow_right (by omega) (by omega)
          have := Nat.mul_le_mul_right (2 ^ fracB w) (show e + 1 ≤ G by omega)
          rw [Nat.add_mul, Nat.one_mul] at this
          rw [Nat.pow_succ] at hpw
          omega
        · by_cases c2 : e = G
          · have : t = fracB w := by omega
            subst this
            subst c2
            omega
          · have hpw : 2 ^ (t + 1) ≤ 2 ^ fracB w := Nat.pow_le_pow_right (by omega) (by omega)
            have hpt : 0 < 2 ^ t := Nat.pow_pos (by omega)
            have := Nat.mul_le_mul_right (2 ^ fracB w) (show G + 1 ≤ e by omega)
            rw [Nat.add_mul, Nat.one_mul] at this
            rw [Nat.pow_succ] at hpw
            omega
theorem pairHas_one {w : Int} {s : SpanD} (h : spanFull w s = true) : (s.1 && pairHas w (s.2.1, (s.2.2.1, ())) oneF) = (decide (s.2.1 ≤ oneW w) && decide (oneW w ≤ s.2.2.1)) := by
  obtain ⟨h1, hp, _⟩ := spanFull_ok h
  obtain ⟨hw, a1, a2, a3, a4, a5⟩ := pairOk_span hp
  have hone : 0 < oneW w ∧ oneW w < top w := by rcases hw with rfl | rfl <;> decide
  unfold pairHas
  rw [h1, hp, one_fracOk]
  simp only [Bool.true_and]
  congr 1
  · by_cases c : s.2.1 = -top w
    · have : s.2.1 ≤ oneW w := by omega
      simp [c]; omega
    · have := (cmp_one hw (show -top w < s.2.1 by omega) a2).1
      simp only [c, decide_false, Bool.false_or]
      exact decide_eq_decide.2 this
  · by_cases c : s.2.2.1 = top w
    · simp [c]; omega
    · have := (cmp_one hw a3 (show s.2.2.1 < top w by omega)).2
      simp only [c, decide_false, Bool.false_or]
      exact decide_eq_decide.2 this
theorem spanMeet_none {w : Int} {a b : SpanD} : (spanMeet w a b).1 = false → spanMeet w a b = span0 := by
  unfold spanMeet
  split
  · split
    · intro h; cases h
    · intro _; rfl
  · intro _; rfl
def backPow (N : Nat) (w : Int) (z : SpanD) (n : Int) (x : SpanD) : SpanD :=
  if spanFull w z = true ∧ spanFull w x = true ∧ 0 ≤ n ∧ n ≤ 8 then
    if n = 0 then (if z.2.1 ≤ oneW w ∧ oneW w ≤ z.2.2.1 then x else span0)
    else if n.toNat % 2 = 1 then spanMeet w x (spanRoots N w n.toNat z)
    else if (spanMeet w z (spanFrom w)).1 = true then spanHull w (spanMeet w x (spanRoots N w n.toNat (spanMeet w z (spanFrom w)))) (spanMeet w x (spanNeg w (spanRoots N w n.toNat (spanMeet w z (spanFrom w)))))
    else span0
  else span0
theorem spec_BackPow_eq {α : Type} (N : Nat) (w : Int) (z : SpanD) (n : Int) (x : SpanD) (k : SpanD → Option α) (hN : cap < N) : spec_BackPow N w z n x k = k (backPow N w z n x) := by
  have hNN := cap_N hN
  rw [spec_BackPow.eq]
  unfold spec_BackPow.b backPow
  simp only [spec_l9Both_eq]
  by_cases hz : spanFull w z = true
  · by_cases hx : spanFull w x = true
    · by_cases h0 : 0 ≤ n
      · by_cases h8 : n ≤ 8
        · have c1 : ¬ n < 0 := by omega
          have c2 : ¬ 8 < n := by omega
          obtain ⟨n, rfl⟩ : ∃ m : Nat, n = (m : Int) := ⟨n.toNat, by omega⟩
          obtain ⟨z1, hp, _⟩ := spanFull_ok hz
          obtain ⟨hw, a1, a2, a3, a4, a5⟩ := pairOk_span hp
          have ht : Int.tmod (n : Int) 2 = ((n % 2 : Nat) : Int) := rfl
          simp only [hz, hx, h0, h8, c1, c2, Bool.and_self, Bool.not_true, cond_false, decide_false, and_self, if_true, ht, Int.toNat_natCast]
          by_cases hn0 : (n : Int) = 0
          · have h1 : ∀ K : Int → Option α, spec_l9One N w K = K (oneW w) := by
              intro K
              have o1 : (1 : Nat) < 65536 ^ 256 := Nat.lt_of_lt_of_le (show 1 < 65536 ^ 1 by omega) (pow_up (by omega))
              rw [spec_l9One.eq]
              unfold spec_l9One.b
              simp only [← digs1, spec_l8Round_eq N w false 1 1 false _ hw (nb256 o1) (nb256 o1) (show (1 : Nat) ≠ 0 by omega) hN]
              unfold roundF
              simp [trunc_one hw]
            simp only [hn0, decide_true, cond_true, h1, if_true]
            by_cases d1 : z.2.1 ≤ oneW w <;> by_cases d2 : oneW w ≤ z.2.2.1 <;> simp [d1, d2, span0]
          · have hn1 : 1 ≤ n := by omega
            have hn8 : n ≤ 8 := by omega
            simp only [hn0, decide_false, cond_false, if_false]
            by_cases hodd : n % 2 = 1
            · have d1 : ((n % 2 : Nat) : Int) = 1 := by omega
              simp only [d1, decide_true, cond_true, hodd, if_true, spec_l9RootDown_eq N w _ n hw a1 (show z.2.1 ≤ top w by omega) hn1 hn8 hN, spec_l9RootUp_eq N w _ n hw (show -top w ≤ z.2.2.1 by omega) a4 hn1 hn8 hN, spec_l9Of.eq]
              unfold spec_l9Of.b
              simp only [spec_SpanMeet_eq]
              rfl
            · have d1 : ¬ ((n % 2 : Nat) : Int) = 1 := by omega
              simp only [d1, decide_false, cond_false, hodd, if_false, spec_l9From_eq]
              have hm := spanMeet_ok (w := w) z (spanFrom w)
              have hz0 := spanMeet_none (w := w) (a := z) (b := spanFrom w)
              generalize spanMeet w z (spanFrom w) = q at *
              cases hq : q.1
              · simp only [Bool.not_false, cond_true, Bool.false_eq_true, if_false, hz0 hq]
              · obtain ⟨_, hp2, _⟩ := spanFull_ok (hm hq)
                obtain ⟨_, b1, b2, b3, b4, b5⟩ := pairOk_span hp2
                simp only [Bool.not_true, cond_false, if_true, spec_l9RootDown_eq N w _ n hw b1 (show q.2.1 ≤ top w by omega) hn1 hn8 hN, spec_l9RootUp_eq N w _ n hw (show -top w ≤ q.2.2.1 by omega) b4 hn1 hn8 hN, spec_l9Of.eq]
                unfold spec_l9Of.b
                simp only [spec_SpanMeet_eq, spec_SpanNeg_eq, spec_SpanHull_eq]
                rfl
        · have c1 : ¬ n < 0 := by omega
          have c2 : 8 < n := by omega
          simp [hz, hx, h8, c1, c2, span0]
      · have c1 : n < 0 := by omega
        simp [hz, hx, h0, c1, span0]
    · simp [hz, hx, span0]
  · simp [hz, span0]
theorem impl_BackPow_eq {α : Type} (N : Nat) (w : Int) (z : SpanD) (n : Int) (x : SpanD) (k : SpanD → Option α) (hN : cap < N) : impl_BackPow N w z n x k = k (backPow N w z n x) := by
  have hNN := cap_N hN
  rw [impl_BackPow.eq]
  unfold impl_BackPow.b backPow
  simp only [impl_full_eq N w [z, x] _ (show [z, x].length ≤ 100 by simp) (show 1048576 < N by omega), impl_in_eq, List.all_cons, List.all_nil, Bool.and_true]
  by_cases hz : spanFull w z = true
  · by_cases hx : spanFull w x = true
    · by_cases h0 : 0 ≤ n
      · by_cases h8 : n ≤ 8
        · obtain ⟨n, rfl⟩ : ∃ m : Nat, n = (m : Int) := ⟨n.toNat, by omega⟩
          obtain ⟨z1, hp, _⟩ := spanFull_ok hz
          obtain ⟨hw, a1, a2, a3, a4, a5⟩ := pairOk_span hp
          have ht : Int.tmod (n : Int) 2 = ((n % 2 : Nat) : Int) := rfl
          simp only [hz, hx, h0, h8, Bool.and_self, Bool.not_true, cond_false, decide_true, and_self, if_true, ht, Int.toNat_natCast]
          by_cases hn0 : (n : Int) = 0
          · have hone : ∀ K : Bool → Option α, impl_SpanHas N w z (false, (digs 1, (digs 1, ()))) K = K (decide (z.2.1 ≤ oneW w) && decide (oneW w ≤ z.2.2.1)) := by
              intro K
              have e : ((false, (digs 1, (digs 1, ()))) : FracD) = oneF := by unfold oneF; rw [digs1]
              rw [e, impl_SpanHas_eq N w z oneF K hN, pairHas_one hz]
            simp only [hn0, decide_true, cond_true, ← digs1, whole_eq, Bool.false_and, hone, if_true]
            by_cases d1 : z.2.1 ≤ oneW w <;> by_cases d2 : oneW w ≤ z.2.2.1 <;> simp [d1, d2, span0]
          · have hn1 : 1 ≤ n := by omega
            have hn8 : n ≤ 8 := by omega
            simp only [hn0, decide_false, cond_false, if_false]
            by_cases hodd : n % 2 = 1
            · have d1 : ((n % 2 : Nat) : Int) = 1 := by omega
              simp only [d1, decide_true, cond_true, hodd, if_true, impl_rootDown_eq N w _ n hw a1 (show z.2.1 ≤ top w by omega) hn1 hn8 hN, impl_rootUp_eq N w _ n hw (show -top w ≤ z.2.2.1 by omega) a4 hn1 hn8 hN, impl_some.eq]
              unfold impl_some.b
              simp only [impl_SpanMeet_eq N w _ _ _ (show 1048576 < N by omega)]
              rfl
            · have d1 : ¬ ((n % 2 : Nat) : Int) = 1 := by omega
              simp only [d1, decide_false, cond_false, hodd, if_false, impl_from_eq, impl_SpanMeet_eq N w _ _ _ (show 1048576 < N by omega)]
              rw [show ((true, ((0 : Int), (top w, ()))) : SpanD) = spanFrom w from rfl]
              have hm := spanMeet_ok (w := w) z (spanFrom w)
              generalize spanMeet w z (spanFrom w) = q at *
              cases hq : q.1
              · simp only [Bool.not_false, cond_true, Bool.false_eq_true, if_false]; rfl
              · obtain ⟨_, hp2, _⟩ := spanFull_ok (hm hq)
                obtain ⟨_, b1, b2, b3, b4, b5⟩ := pairOk_span hp2
                simp only [Bool.not_true, cond_false, if_true, impl_rootDown_eq N w _ n hw b1 (show q.2.1 ≤ top w by omega) hn1 hn8 hN, impl_rootUp_eq N w _ n hw (show -top w ≤ q.2.2.1 by omega) b4 hn1 hn8 hN, impl_some.eq]
                unfold impl_some.b
                simp only [impl_either_eq N w _ _ _ (show 1048576 < N by omega)]
                rfl
        · simp [hz, hx, h8, span0]
      · simp [hz, hx, h0, span0]
    · simp [hz, hx, span0]
  · simp [hz, span0]
theorem pure_FnExactBackPow (x0 : Int) (x1 : SpanD) (x2 : Int) (x3 : SpanD) : ∃ N, laws_FnExactBackPow N x0 x1 x2 x3 some = some true := by
  refine ⟨cap + 1, ?_⟩
  have hN : cap < cap + 1 := by omega
  generalize cap + 1 = N at *
  rw [laws_FnExactBackPow.eq]
  unfold laws_FnExactBackPow.b
  simp only [laws_toSpan_eq, spec_BackPow_eq N _ _ _ _ _ hN, impl_BackPow_eq N _ _ _ _ _ hN, laws_eqSpan_eq, Bool.not_true, cond_false]
end Go.Proofs.YtlbihmicbncdiaaAm
