/-
  What the reference's functions on naturals compute, in plain words: the four operations.
-/
import Derived.Test.YtgabephijgjogaaDoorG
namespace Go.Proofs.YtgabephijgjogaaDoorAm
open Go
set_option linter.unusedVariables false
set_option linter.unusedSimpArgs false

theorem div_uniq {a b q r : Int} {A D : Nat} (hA : a = A) (hD : b = D) (h : a = q * b + r) (h0 : 0 ≤ r) (h1 : r < b) : q = ((A / D : Nat) : Int) ∧ r = ((A % D : Nat) : Int) := by
  subst hA hD
  have e1 : (A : Int) / D = q := by
    rw [h, Int.add_comm, Int.add_mul_ediv_right _ _ (by omega), Int.ediv_eq_zero_of_lt h0 h1]; omega
  have e2 : (A : Int) % D = r := by
    rw [h, Int.add_comm, Int.add_mul_emod_self_right, Int.emod_eq_of_lt h0 h1]
  exact ⟨by rw [← e1]; rfl, by rw [← e2]; rfl⟩
theorem set_len {l : List Int} {i : Nat} {x : Int} : (l.set i x).length = l.length := List.length_set
theorem prod_le {x y : Int} (hx : 0 ≤ x ∧ x < 65536) (hy : 0 ≤ y ∧ y < 65536) : 0 ≤ x * y ∧ x * y ≤ 4294836225 := by
  have h1 := Int.mul_nonneg hx.1 hy.1
  have h2 := Int.mul_le_mul (show x ≤ 65535 by omega) (show y ≤ 65535 by omega) hy.1 (by omega)
  omega
theorem tdiv_b {x : Int} (h : 0 ≤ x) : Int.tdiv x 65536 = x / 65536 := Int.tdiv_eq_ediv_of_nonneg h
theorem spec_l5DivSmall_loop {α : Type} (N : Nat) (l : List Int) (hd : Dig l) (hb : l.length < 4611686018427387904) (d : Int) (d0 : 0 < d) (d1 : d < 65536) (k : Int → List Int → Option α) : ∀ (i n : Nat), i ≤ l.length → i < n →
    ∀ (r : Int) (q : List Int), 0 ≤ r → r < d → Dig q → q.length + i = l.length → val (l.drop i) = val q * d + r →
    ∃ r' q', spec_l5DivSmall_L0 N n l d r ((i : Int) - 1) (List.replicate i 0 ++ q) k = k r' q' ∧ 0 ≤ r' ∧ r' < d ∧ Dig q' ∧ q'.length = l.length ∧ val l = val q' * d + r' := by
  intro i
  induction i with
  | zero =>
    intro n h hn r q r0 r1 hq hl hv
    obtain ⟨m, rfl⟩ : ∃ m, n = m + 1 := ⟨n - 1, by omega⟩
    refine ⟨r, q, ?_, r0, r1, hq, by omega, by simpa using hv⟩
    rw [spec_l5DivSmall_L0.succ]
    unfold spec_l5DivSmall_L0r
    simp
  | succ i ih =>
    intro n h hn r q r0 r1 hq hl hv
    obtain ⟨m, rfl⟩ : ∃ m, n = m + 1 := ⟨n - 1, by omega⟩
    have hi : i < l.length := by omega
    have hi2 : i < (List.replicate (i + 1) (0 : Int) ++ q).length := by simp; omega
    have e : ((i + 1 : Nat) : Int) - 1 = (i : Int) := by omega
    have e2 : IntKind.i64.wrap ((i : Int) - 1) = (i : Int) - 1 := wrap_i64 (by omega) (by omega)
    have hx := dig_at hd hi
    have w1 : IntKind.i64.wrap (r * 65536) = r * 65536 := wrap_i64 (by omega) (by omega)
    have w2 : IntKind.i64.wrap (r * 65536 + l[i]) = r * 65536 + l[i] := wrap_i64 (by omega) (by omega)
    have t1 : Int.tdiv (r * 65536 + l[i]) d = (r * 65536 + l[i]) / d := Int.tdiv_eq_ediv_of_nonneg (by omega)
    have t2 : Int.tmod (r * 65536 + l[i]) d = (r * 65536 + l[i]) % d := Int.tmod_eq_emod_of_nonneg (by omega)
    have q0 : 0 ≤ (r * 65536 + l[i]) / d := Int.ediv_nonneg (by omega) (by omega)
    have q1 : (r * 65536 + l[i]) / d < 65536 := Int.ediv_lt_of_lt_mul d0 (by omega)
    have w3 : IntKind.i64.wrap ((r * 65536 + l[i]) / d) = (r * 65536 + l[i]) / d := wrap_i64 (by omega) (by omega)
    have hd0 : ¬ d = 0 := by omega
    rw [spec_l5DivSmall_L0.succ, e]
    unfold spec_l5DivSmall_L0r
    simp only [cast_nn, cast_neg, cond_true, cond_false, Int.toNat_natCast, List.getElem?_eq_getElem hi, List.getElem?_eq_getElem hi2, decide_eq_true hi2, e2, w1, w2, t1, t2, w3, hd0, decide_false, rep_set]
    refine ih m (by omega) (by omega) _ _ (Int.emod_nonneg _ (by omega)) (Int.emod_lt_of_pos _ d0) ?_ (by simp; omega) ?_
    · rw [dig_cons]; exact ⟨⟨q0, q1⟩, hq⟩
    · rw [val_drop_succ, hv, ← getD_at hi, val]
      have := Int.mul_ediv_add_emod (r * 65536 + l[i]) d
      grind
theorem spec_l5DivSmall_eq {α : Type} (N a d : Nat) (k : Int → List Int → Option α) (h1 : a < cap) (d0 : 0 < d) (d1 : d < 65536) (hN : cap < N) : spec_l5DivSmall N (digs a) (d : Int) k = k ((a % d : Nat) : Int) (digs (a / d)) := by
  have l1 := len_cap h1
  have hN := cap_N hN
  rw [spec_l5DivSmall.eq]
  unfold spec_l5DivSmall.b
  have e1 : ((digs a).length : Int) ≤ ((8796093022208 : Nat) : Int) := by omega
  have e2 : IntKind.i64.wrap (((digs a).length : Int) - 1) = ((digs a).length : Int) - 1 := wrap_i64 (by omega) (by omega)
  simp only [cast_nn, e1, e2, decide_true, cond_true, Int.toNat_natCast, Int.le_refl]
  obtain ⟨r, q, e, r0, r1, hq, hl, hv⟩ := spec_l5DivSmall_loop N (digs a) (dig_digs a) (by omega) (d : Int) (by omega) (by omega) (fun x142 x143 => spec_l5Trim N x143 (fun x144 => k x142 x144)) (digs a).length N (by omega) (by omega) 0 [] (by omega) (by omega) dig_nil (by simp) (by simp [val])
  rw [List.append_nil] at e
  rw [e, spec_l5Trim_eq N q _ (by omega) (by omega)]
  obtain ⟨u1, u2⟩ := div_uniq (val_digs a) rfl hv r0 r1
  rw [tl_of hq u1, u2]
end Go.Proofs.YtgabephijgjogaaDoorAm
