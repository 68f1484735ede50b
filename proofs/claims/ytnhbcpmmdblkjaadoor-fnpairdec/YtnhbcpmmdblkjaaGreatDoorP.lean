/-
  What the program's functions on naturals compute, in plain words: long division.
-/
import Derived.Test.YtnhbcpmmdblkjaaGreatDoorM
namespace Go.Proofs.YtnhbcpmmdblkjaaGreatDoorAm
open Go
set_option linter.unusedVariables false
set_option linter.unusedSimpArgs false

theorem wnT : ∀ {l : List Int} {n : Nat} (m : Nat), Dig l → val l = (n : Int) → l.getD m 0 = ((n / 65536 ^ m % 65536 : Nat) : Int)
  | [], n, m, h, hv => by
    simp only [val] at hv
    have : n = 0 := by omega
    subst this; simp
  | x :: l, n, 0, h, hv => by
    rw [wfn] at h
    simp only [val] at hv
    simp; omega
  | x :: l, n, m + 1, h, hv => by
    rw [wfn] at h
    simp only [val] at hv
    have := wnT (n := n / 65536) m h.2 (by omega)
    rw [List.getD_cons_succ, this, Nat.pow_succ, Nat.mul_comm (65536 ^ m), ← Nat.div_div_eq_div_mul]
theorem wu1 {U D P W Y:Nat} (hP:0 < P) (hU:U < D * 65536) (hW:W=D / P) (hY:Y=U / P) (hB:65536≤W) :
  U / D≤min 65535 (Y / W)∧min 65535 (Y / W)≤U / D + 1:=by
 have h1:W * P≤D:=by rw [hW]; exact Nat.div_mul_le_self D P
 have hDp:0 < D:=Nat.lt_of_lt_of_le (Nat.mul_pos (by omega) hP) h1
 have h2:U / D * D≤U:=Nat.div_mul_le_self U D
 have h3:U / D < 65536:=(Nat.div_lt_iff_lt_mul hDp).2 (by rw [Nat.mul_comm]; exact hU)
 constructor
 ·refine Nat.le_min.2 ⟨by omega,?_⟩
  rw [Nat.le_div_iff_mul_le (by omega),hY,Nat.le_div_iff_mul_le hP,Nat.mul_assoc]
  exact Nat.le_trans (Nat.mul_le_mul_left _ h1) h2
 ·have hm1:min 65535 (Y / W)≤65535:=Nat.min_le_left _ _
  have hm2:min 65535 (Y / W) * W≤Y:=Nat.le_trans (Nat.mul_le_mul_right W (Nat.min_le_right _ _)) (Nat.div_mul_le_self Y W)
  generalize min 65535 (Y / W)=m at *
  have h4:Y * P≤U:=by rw [hY]; exact Nat.div_mul_le_self U P
  have h5:D < W * P + P:=by
   have:=Nat.lt_mul_div_succ D hP
   rw [← hW,Nat.mul_comm,Nat.add_mul] at this; omega
  have h6:m * W * P≤Y * P:=Nat.mul_le_mul_right P hm2
  have h7:m * D≤m * (W * P + P):=Nat.mul_le_mul_left m (by omega)
  have h8:m * P≤65535 * P:=Nat.mul_le_mul_right P hm1
  have h9:65536 * P≤W * P:=Nat.mul_le_mul_right P hB
  rw [Nat.mul_add,← Nat.mul_assoc] at h7
  have h10:m * D < U + D:=by omega
  have h11:U < (U / D + 1) * D:=by
   have:=Nat.lt_mul_div_succ U hDp
   rwa [Nat.mul_comm] at this
  have h12:m * D < (U / D + 2) * D:=by
   rw [show (U / D + 2)=(U / D + 1) + 1 by omega,Nat.add_mul _ 1,Nat.one_mul]; omega
  have:=Nat.lt_of_mul_lt_mul_right h12
  omega
theorem wka {α : Type} (N : Nat) (s : Int) (v : List Int) (n j : Nat) (u q : List Int) (v1 v2 u2 X : Nat) (hn : 2 ≤ n) (hn2 : n < 100000) (hj : j < 100000) (hv : v.length = n) (hu : j + n < u.length)
    (e1 : v.getD (n - 1) 0 = (v1 : Int)) (e2 : v.getD (n - 2) 0 = (v2 : Int)) (e3 : u.getD (j + n - 2) 0 = (u2 : Int)) (b1 : 1 ≤ v1) (b2 : v1 < 65536) (b3 : v2 < 65536) (b4 : u2 < 65536) (hX : X < (v1 + 1) * 65536) (hX2 : X < 4294967296) :
    ∀ (f qh rh : Nat), 65536 - rh < f → rh < 65536 → X = qh * v1 + rh → min 65535 ((X * 65536 + u2) / (v1 * 65536 + v2)) ≤ qh →
    ∀ k : Int → List Int → Int → Int → Int → List Int → List Int → Option α, wbD N f s v (n : Int) (j : Int) (qh : Int) (rh : Int) u q k = k s v n j ((min 65535 ((X * 65536 + u2) / (v1 * 65536 + v2)) : Nat) : Int) u q := by
  have hW : 0 < v1 * 65536 + v2 := by omega
  have hle : ∀ m : Nat, m ≤ (X * 65536 + u2) / (v1 * 65536 + v2) ↔ m * (v1 * 65536 + v2) ≤ X * 65536 + u2 := fun m => Nat.le_div_iff_mul_le hW
  generalize (X * 65536 + u2) / (v1 * 65536 + v2) = Q at *
  intro f
  induction f with
  | zero => intro qh rh h; omega
  | succ f ih =>
    intro qh rh h hr hx hq k
    have hqb : qh ≤ qh * v1 := Nat.le_mul_of_pos_right qh (by omega)
    have hn1 : n - 1 < v.length := by omega
    have hn2' : n - 2 < v.length := by omega
    have hu2 : j + n - 2 < u.length := by omega
    have g1 : v[n - 1] = (v1 : Int) := by rw [wbb hn1, e1]
    have g2 : v[n - 2] = (v2 : Int) := by rw [wbb hn2', e2]
    have g3 : u[j + n - 2] = (u2 : Int) := by rw [wbb hu2, e3]
    have w1 : IntKind.i64.wrap ((n : Int) - 1) = ((n - 1 : Nat) : Int) := by rw [wd (by omega) (by omega)]; omega
    have w2 : IntKind.i64.wrap ((n : Int) - 2) = ((n - 2 : Nat) : Int) := by rw [wd (by omega) (by omega)]; omega
    have w3 : IntKind.i64.wrap ((j : Int) + (n : Int)) = ((j + n : Nat) : Int) := wfk (by omega)
    have w4 : IntKind.i64.wrap (((j + n : Nat) : Int) - 2) = ((j + n - 2 : Nat) : Int) := by rw [wd (by omega) (by omega)]; omega
    have w5 : IntKind.i64.wrap ((rh : Int) + (v1 : Int)) = ((rh + v1 : Nat) : Int) := wfk (by omega)
    have t1 : shlI .i64 (rh : Int) (16 : Int) = ((rh * 65536 : Nat) : Int) := won (k := 16) (by omega) (by omega)
    have t2 : bitI .or .i64 ((rh * 65536 : Nat) : Int) (u2 : Int) = ((rh * 65536 + u2 : Nat) : Int) := by
      rw [wkM (by omega) (by omega)]
      have := woT (u := u2) (v := rh) (r := 16) (by omega)
      rw [show (2 : Nat) ^ 16 = 65536 by decide] at this
      rw [this]
    rw [wbD.succ]
    unfold wgE
    by_cases c1 : 65536 ≤ qh
    · have c1' : (65536 : Int) ≤ (qh : Int) := by omega
      have w6 : IntKind.i64.wrap ((qh : Int) - 1) = ((qh - 1 : Nat) : Int) := by rw [wd (by omega) (by omega)]; omega
      have hx' : X = (qh - 1) * v1 + (rh + v1) := by
        obtain ⟨m, rfl⟩ : ∃ m, qh = m + 1 := ⟨qh - 1, by omega⟩
        rw [Nat.add_mul, Nat.one_mul] at hx; simp only [Nat.add_sub_cancel]; omega
      by_cases c2 : 65536 ≤ rh + v1
      · have c2' : (65536 : Int) ≤ ((rh + v1 : Nat) : Int) := by omega
        simp only [c1', c2', decide_true, cond_true, w1, w6, wF, cond_false, Int.toNat_natCast, List.getElem?_eq_getElem hn1, g1, w5]
        have h1 : (qh - 1) * v1 < 65536 * v1 := by rw [Nat.add_mul] at hX; omega
        have h2 := Nat.lt_of_mul_lt_mul_right h1
        have h3 : qh - 1 = 65535 := by omega
        have h4 : 65535 ≤ Q := by
          rw [hle]
          rw [h3] at hx'
          omega
        rw [h3, Nat.min_eq_left h4]
      · have c2' : ¬ (65536 : Int) ≤ ((rh + v1 : Nat) : Int) := by omega
        simp only [c1', c2', decide_true, decide_false, cond_true, w1, w6, wF, cond_false, Int.toNat_natCast, List.getElem?_eq_getElem hn1, g1, w5]
        exact ih (qh - 1) (rh + v1) (by omega) (by omega) hx' (by omega) k
    · have c1' : ¬ (65536 : Int) ≤ (qh : Int) := by omega
      have hp : qh * v2 ≤ 65535 * 65535 := Nat.mul_le_mul (by omega) (by omega)
      have w7 : IntKind.i64.wrap ((qh : Int) * (v2 : Int)) = ((qh * v2 : Nat) : Int) := by rw [← Int.natCast_mul, wjl (by omega)]
      have hcmp : rh * 65536 + u2 < qh * v2 ↔ Q < qh := by
        rw [show Q < qh ↔ ¬ qh ≤ Q from Nat.not_le.symm, hle, Nat.mul_add, ← Nat.mul_assoc]; omega
      by_cases c2 : rh * 65536 + u2 < qh * v2
      · have c3 := hcmp.1 c2
        have w6 : IntKind.i64.wrap ((qh : Int) - 1) = ((qh - 1 : Nat) : Int) := by rw [wd (by omega) (by omega)]; omega
        have hx' : X = (qh - 1) * v1 + (rh + v1) := by
          obtain ⟨m, rfl⟩ : ∃ m, qh = m + 1 := ⟨qh - 1, by omega⟩
          rw [Nat.add_mul, Nat.one_mul] at hx; simp only [Nat.add_sub_cancel]; omega
        by_cases c4 : 65536 ≤ rh + v1
        · have c4' : (65536 : Int) ≤ ((rh + v1 : Nat) : Int) := by omega
          simp only [c1', c4', decide_true, decide_false, cond_true, w1, w2, w3, w4, w6, w7, wF, cond_false, Int.toNat_natCast, List.getElem?_eq_getElem hn1, List.getElem?_eq_getElem hn2', List.getElem?_eq_getElem hu2, decide_eq_true hu2, g1, g2, g3, w5, t1, t2, wc1 c2]
          have h4 : qh - 1 ≤ Q := by
            rw [hle, Nat.mul_add, ← Nat.mul_assoc]
            have h5 : (qh - 1) * v2 ≤ 65535 * 65535 := Nat.mul_le_mul (by omega) (by omega)
            omega
          congr 2
          omega
        · have c4' : ¬ (65536 : Int) ≤ ((rh + v1 : Nat) : Int) := by omega
          simp only [c1', c4', decide_true, decide_false, cond_true, w1, w2, w3, w4, w6, w7, wF, cond_false, Int.toNat_natCast, List.getElem?_eq_getElem hn1, List.getElem?_eq_getElem hn2', List.getElem?_eq_getElem hu2, decide_eq_true hu2, g1, g2, g3, w5, t1, t2, wc1 c2]
          exact ih (qh - 1) (rh + v1) (by omega) (by omega) hx' (by omega) k
      · have c3 : ¬ Q < qh := fun hh => c2 (hcmp.2 hh)
        simp only [c1', decide_false, w1, w2, w3, w4, w7, wF, cond_true, cond_false, Int.toNat_natCast, List.getElem?_eq_getElem hn2', List.getElem?_eq_getElem hu2, decide_eq_true hu2, g2, g3, t1, t2, wcx c2]
        congr 2
        omega
theorem wlF {α : Type} (N : Nat) (s : Int) (v : List Int) (hv : Dig v) (j : Nat) (hj : j < 100000) (hv2 : v.length < 100000) (qh : Int) (q0 : 0 ≤ qh) (q1 : qh < 65536) (q : List Int) : ∀ (d i f : Nat), i + d = v.length → d < f → ∀ (b : Int) (u : List Int), 0 ≤ b → b ≤ 65536 → Dig u → j + v.length < u.length →
    ∃ b' u', (∀ k : Int → List Int → Int → Int → Int → Int → List Int → List Int → Option α, wbu N f s v (v.length : Int) (j : Int) qh b v (v.length : Int) (i : Int) u q k = k s v (v.length : Int) j qh b' u' q) ∧ 0 ≤ b' ∧ b' ≤ 65536 ∧ Dig u' ∧ u'.length = u.length ∧ (∀ m, j + v.length ≤ m → u'.getD m 0 = u.getD m 0) ∧ (∀ m, m < j + i → u'.getD m 0 = u.getD m 0) ∧ val u' - b' * 65536 ^ (j + v.length) = val u - b * 65536 ^ (j + i) - qh * 65536 ^ (j + i) * val (v.drop i) := by
  intro d
  induction d with
  | zero =>
    intro i f h hf b u b0 b1 hu hl
    obtain ⟨f, rfl⟩ : ∃ m, f = m + 1 := ⟨f - 1, by omega⟩
    refine ⟨b, u, fun k => ?_, b0, b1, hu, rfl, fun _ _ => rfl, fun _ _ => rfl, ?_⟩
    · rw [wbu.succ]
      unfold wgc
      simp only [wcx (show ¬ i < v.length by omega), cond_false]
    · rw [List.drop_of_length_le (by omega), show i = v.length by omega]; simp [val]
  | succ d ih =>
    intro i f h hf b u b0 b1 hu hl
    obtain ⟨f, rfl⟩ : ∃ m, f = m + 1 := ⟨f - 1, by omega⟩
    have hi : i < v.length := by omega
    have hji : j + i < u.length := by omega
    have x1 := whs hv hi
    have x2 := whs hu hji
    have x3 := wov ⟨q0, q1⟩ x1
    have w1 : IntKind.i64.wrap ((j : Int) + (i : Int)) = ((j + i : Nat) : Int) := wfk (by omega)
    have w2 : IntKind.i64.wrap (u[j + i] - b) = u[j + i] - b := wd (by omega) (by omega)
    have w3 : IntKind.i64.wrap (qh * v[i]) = qh * v[i] := wd (by omega) (by omega)
    obtain ⟨x, hx⟩ : ∃ x, u[j + i] - b - qh * v[i] = x := ⟨_, rfl⟩
    have w4 : IntKind.i64.wrap x = x := wd (by omega) (by omega)
    have key : ∃ b2 x2 : Int, 0 ≤ b2 ∧ b2 ≤ 65536 ∧ 0 ≤ x2 ∧ x2 < 65536 ∧ x2 - b2 * 65536 = x ∧ ∀ k1 : Int → List Int → Int → Int → Int → Int → Int → Int → List Int → Int → Int → List Int → List Int → Option α, wcO N s v (v.length : Int) (j : Int) qh 0 (i : Int) x v (v.length : Int) (i : Int) u q k1 = k1 s v (v.length : Int) (j : Int) qh b2 (i : Int) x2 v (v.length : Int) (i : Int) u q := by
      by_cases hn : x < 0
      · refine ⟨(0 - x + 65536 - 1) / 65536, x + (0 - x + 65536 - 1) / 65536 * 65536, by omega, by omega, by omega, by omega, by omega, fun k1 => ?_⟩
        rw [wcO.eq]
        unfold wcO.b
        have v1 : IntKind.i64.wrap (0 - x) = 0 - x := wd (by omega) (by omega)
        have v2 : IntKind.i64.wrap (0 - x + 65536) = 0 - x + 65536 := wd (by omega) (by omega)
        have v3 : IntKind.i64.wrap (0 - x + 65536 - 1) = 0 - x + 65536 - 1 := wd (by omega) (by omega)
        have v4 : Int.tdiv (0 - x + 65536 - 1) 65536 = (0 - x + 65536 - 1) / 65536 := wpP (by omega)
        have v5 : IntKind.i64.wrap ((0 - x + 65536 - 1) / 65536) = (0 - x + 65536 - 1) / 65536 := wd (by omega) (by omega)
        have v6 : IntKind.i64.wrap ((0 - x + 65536 - 1) / 65536 * 65536) = (0 - x + 65536 - 1) / 65536 * 65536 := wd (by omega) (by omega)
        have v7 : IntKind.i64.wrap (x + (0 - x + 65536 - 1) / 65536 * 65536) = x + (0 - x + 65536 - 1) / 65536 * 65536 := wd (by omega) (by omega)
        simp only [hn, decide_true, cond_true, v1, v2, v3, v4, v5, v6, v7]
      · refine ⟨0, x, by omega, by omega, by omega, by omega, by omega, fun k1 => ?_⟩
        rw [wcO.eq]
        unfold wcO.b
        simp only [hn, decide_false, cond_false]
    obtain ⟨b2, x2, y1, y2, y3, y4, y5, y6⟩ := key
    obtain ⟨b', u', e, e1, e2, e3, e4, e5, e6, e7⟩ := ih (i + 1) f (by omega) (by omega) b2 (u.set (j + i) x2) y1 y2 (wim hu _ y3 y4) (by rw [wd4]; exact hl)
    refine ⟨b', u', fun k => ?_, e1, e2, e3, by rw [e4, wd4], fun m hm => by rw [e5 m hm, wc5 (by omega)], fun m hm => by rw [e6 m (by omega), wc5 (by omega)], ?_⟩
    · rw [wbu.succ]
      unfold wgc
      simp only [wc1 hi, wF, cond_true, cond_false, Int.toNat_natCast, List.getElem?_eq_getElem hi, w1, decide_eq_true hji, List.getElem?_eq_getElem hji, w2, w3, w4, hx, y6, wdW (show i < 4611686018427387904 by omega)]
      exact e k
    · rw [e7, wgF _ _ _ hji, ← wbb hji, wej v i, ← wbb hi, ← Nat.add_assoc, Int.pow_succ]
      grind
theorem wkx {α : Type} (N : Nat) (s : Int) (v : List Int) (hv : Dig v) (j : Nat) (hj : j < 100000) (hv2 : v.length < 100000) (qh : Int) (q : List Int) : ∀ (d i f : Nat), i + d = v.length → d < f → ∀ (b : Int) (u : List Int), 0 ≤ b → b ≤ 1 → (∀ m, m < j + v.length → 0 ≤ u.getD m 0 ∧ u.getD m 0 < 65536) → j + v.length < u.length →
    ∃ b' u', (∀ k : Int → List Int → Int → Int → Int → Int → List Int → List Int → Option α, wbm N f s v (v.length : Int) (j : Int) qh b v (v.length : Int) (i : Int) u q k = k s v (v.length : Int) j qh b' u' q) ∧ 0 ≤ b' ∧ b' ≤ 1 ∧ (∀ m, m < j + v.length → 0 ≤ u'.getD m 0 ∧ u'.getD m 0 < 65536) ∧ u'.length = u.length ∧ (∀ m, j + v.length ≤ m → u'.getD m 0 = u.getD m 0) ∧ (∀ m, m < j + i → u'.getD m 0 = u.getD m 0) ∧ val u' + b' * 65536 ^ (j + v.length) = val u + b * 65536 ^ (j + i) + 65536 ^ (j + i) * val (v.drop i) := by
  intro d
  induction d with
  | zero =>
    intro i f h hf b u b0 b1 hu hl
    obtain ⟨f, rfl⟩ : ∃ m, f = m + 1 := ⟨f - 1, by omega⟩
    refine ⟨b, u, fun k => ?_, b0, b1, hu, rfl, fun _ _ => rfl, fun _ _ => rfl, ?_⟩
    · rw [wbm.succ]
      unfold wfI
      simp only [wcx (show ¬ i < v.length by omega), cond_false]
    · rw [List.drop_of_length_le (by omega), show i = v.length by omega]; simp [val]
  | succ d ih =>
    intro i f h hf b u b0 b1 hu hl
    obtain ⟨f, rfl⟩ : ∃ m, f = m + 1 := ⟨f - 1, by omega⟩
    have hi : i < v.length := by omega
    have hji : j + i < u.length := by omega
    have x1 := whs hv hi
    have x2 := hu (j + i) (by omega)
    rw [← wbb hji] at x2
    have w1 : IntKind.i64.wrap ((j : Int) + (i : Int)) = ((j + i : Nat) : Int) := wfk (by omega)
    have w2 : IntKind.i64.wrap (u[j + i] + v[i]) = u[j + i] + v[i] := wd (by omega) (by omega)
    obtain ⟨x, hx⟩ : ∃ x : Nat, u[j + i] + v[i] + b = (x : Int) := ⟨(u[j + i] + v[i] + b).toNat, by omega⟩
    have w4 : IntKind.i64.wrap (x : Int) = (x : Int) := wjl (by omega)
    have t1 : shrI .i64 (x : Int) (16 : Int) = ((x / 65536 : Nat) : Int) := wpR (k := 16) (by omega)
    have t2 : bitI .and .i64 (x : Int) 65535 = ((x % 65536 : Nat) : Int) := wjv (by omega)
    obtain ⟨b', u', e, e1, e2, e3, e4, e5, e6, e7⟩ := ih (i + 1) f (by omega) (by omega) ((x / 65536 : Nat) : Int) (u.set (j + i) ((x % 65536 : Nat) : Int)) (by omega) (by omega) (fun m hm => by
      by_cases hmi : m = j + i
      · subst hmi; rw [wfG hji]; omega
      · rw [wc5 (by omega)]; exact hu m hm) (by rw [wd4]; exact hl)
    refine ⟨b', u', fun k => ?_, e1, e2, e3, by rw [e4, wd4], fun m hm => by rw [e5 m hm, wc5 (by omega)], fun m hm => by rw [e6 m (by omega), wc5 (by omega)], ?_⟩
    · rw [wbm.succ]
      unfold wfI
      simp only [wc1 hi, wF, cond_true, cond_false, Int.toNat_natCast, List.getElem?_eq_getElem hi, w1, decide_eq_true hji, List.getElem?_eq_getElem hji, w2, hx, w4, t1, t2, wdW (show i < 4611686018427387904 by omega)]
      exact e k
    · rw [e7, wgF _ _ _ hji, ← wbb hji, wej v i, ← wbb hi, ← Nat.add_assoc, Int.pow_succ]
      have : ((x % 65536 : Nat) : Int) + 65536 * ((x / 65536 : Nat) : Int) = x := by omega
      grind
end Go.Proofs.YtnhbcpmmdblkjaaGreatDoorAm
