/-
  Whole numbers added, taken off, multiplied and compared; numbers that are drawn; and the laws on them.
-/
import Derived.Test.YtgabephijgjogaaK
import Derived.Test.YtgabephijgjogaaY
namespace Go.Proofs.YtgabephijgjogaaAm
open Go
set_option linter.unusedVariables false
set_option linter.unusedSimpArgs false

def nat2 (f : Nat → Nat → Nat) (x y : List Int) : List Int × Bool := if natOkB x = true ∧ natOkB y = true then fits (f (val x).toNat (val y).toNat) else ([], false)
theorem nat2_digs (f : Nat → Nat → Nat) {a b : Nat} (ha : a < 65536 ^ 256) (hb : b < 65536 ^ 256) : nat2 f (digs a) (digs b) = fits (f a b) := by
  unfold nat2
  rw [if_pos ⟨natOkB_digs ha, natOkB_digs hb⟩]
  simp only [val_digs, Int.toNat_natCast]
theorem fits_of {n : Nat} (h : n < 65536 ^ 256) : fits n = (digs n, true) := by
  unfold fits
  rw [if_pos (digs_len_le h)]
theorem fits_cases (n : Nat) : (fits n = (digs n, true) ∧ n < 65536 ^ 256) ∨ fits n = ([], false) := by
  unfold fits
  by_cases h : (digs n).length ≤ 256
  · rw [if_pos h]; exact .inl ⟨rfl, digs_lt_pow h⟩
  · rw [if_neg h]; exact .inr rfl
theorem cap2 {a : Nat} (h : a < 65536 ^ 256) : a < cap := cap0_lt (c256 h)
theorem mul_lt_cap {a b : Nat} (ha : a < 65536 ^ 256) (hb : b < 65536 ^ 256) : a * b < cap := by
  obtain ⟨E, hE⟩ : ∃ E, E = 512 := ⟨_, rfl⟩
  have h := mul_cap ha hb
  rw [show 256 + 256 = E from hE.symm] at h
  exact lt_cap h (by omega)
theorem impl_NatMul_eq {α : Type} (N : Nat) (x y : List Int) (k : Bool → List Int → Option α) (hN : cap < N) : impl_NatMul N x y k = k (nat2 (· * ·) x y).2 (nat2 (· * ·) x y).1 := by
  rw [impl_NatMul.eq]
  unfold impl_NatMul.b
  simp only [impl_nats_eq N [x, y] _ (show 2 < 1000 by omega) hN, List.all_cons, List.all_nil, Bool.and_true]
  cases h1 : natOkB x
  · simp [nat2, h1]
  cases h2 : natOkB y
  · simp [nat2, h1, h2]
  obtain ⟨a, ha, rfl⟩ := natOkB_ex h1
  obtain ⟨b, hb, rfl⟩ := natOkB_ex h2
  simp only [nat2_digs _ ha hb, Bool.and_self, Bool.not_true, cond_false, impl_natMul_eq N a b _ (cap2 ha) (cap2 hb) hN, impl_told_eq N _ _ (mul_lt_cap ha hb) hN]
theorem raw_fill {α : Type} (N : Nat) (s : RdD) : ∀ (d f : Nat) (l : List Int), l.length + d = 257 → d < f → ∃ l', (∀ (k : RdD → List Int → Option α), spec_l32Rd_raw_L1 N f s l k = k s l') ∧ l'.length = 257 := by
  intro d
  induction d with
  | zero =>
    intro f l h hf
    obtain ⟨f, rfl⟩ : ∃ m, f = m + 1 := ⟨f - 1, by omega⟩
    refine ⟨l, fun k => ?_, by omega⟩
    rw [spec_l32Rd_raw_L1.succ]
    unfold spec_l32Rd_raw_L1r
    have : ¬ ((l.length : Nat) : Int) ≤ 256 := by omega
    simp only [this, decide_false, cond_false]
  | succ d ih =>
    intro f l h hf
    obtain ⟨f, rfl⟩ : ∃ m, f = m + 1 := ⟨f - 1, by omega⟩
    obtain ⟨l', e, h2⟩ := ih f (l ++ [1]) (by simp; omega) (by omega)
    refine ⟨l', fun k => ?_, h2⟩
    rw [spec_l32Rd_raw_L1.succ]
    unfold spec_l32Rd_raw_L1r
    have h1 : ((l.length : Nat) : Int) ≤ 256 := by omega
    have h3 : decide (l.length + [(1 : Int)].length ≤ 8796093022208) = true := by simp; omega
    simp only [h1, decide_true, cond_true, h3]
    exact e k
theorem raw_ok {α : Type} (N : Nat) (s : RdD) (c : Nat) (h : RdOk c s) (hc : c ≤ 700000) (hN : cap < N) :
    ∃ (l : List Int) (s' : RdD), (∀ (k : RdD → List Int → Option α), spec_l32Rd_raw N s k = k s' l) ∧ l.length ≤ 257 ∧ RdOk (c + 601) s' := by
  have hNN := cap_N hN
  obtain ⟨x, s1, e1, hx, q1⟩ := nat_ok (α := α) N s c h (by omega) hN
  obtain ⟨r, s2, e2, q2, r0, r1⟩ := pick32_ok N 80 s1 (c + 600) q1 (by omega)
  have hl := digs_len_le hx
  have app : ∀ y : Int, decide ((digs x).length + [y].length ≤ 8796093022208) = true := fun y => by simp; omega
  by_cases h0 : r = 0
  · refine ⟨digs x ++ [0], s2, fun k => ?_, by simp; omega, q2⟩
    rw [spec_l32Rd_raw.eq]
    unfold spec_l32Rd_raw.b
    simp only [spec_l32Rd_raw_J3.eq]
    unfold spec_l32Rd_raw_J3.b
    simp only [e1, e2, h0, decide_true, cond_true, app]
  by_cases h1 : r = 1
  · refine ⟨digs x ++ [65536], s2, fun k => ?_, by simp; omega, q2⟩
    rw [spec_l32Rd_raw.eq]
    unfold spec_l32Rd_raw.b
    simp only [spec_l32Rd_raw_J3.eq]
    unfold spec_l32Rd_raw_J3.b
    simp only [spec_l32Rd_raw_J5.eq]
    unfold spec_l32Rd_raw_J5.b
    simp only [e1, e2, h1, decide_true, cond_true, app, show decide ((1 : Int) = 0) = false from rfl, cond_false]
  by_cases h2 : r = 2
  · refine ⟨digs x ++ [-1], s2, fun k => ?_, by simp; omega, q2⟩
    rw [spec_l32Rd_raw.eq]
    unfold spec_l32Rd_raw.b
    simp only [spec_l32Rd_raw_J3.eq]
    unfold spec_l32Rd_raw_J3.b
    simp only [spec_l32Rd_raw_J5.eq]
    unfold spec_l32Rd_raw_J5.b
    simp only [spec_l32Rd_raw_J7.eq]
    unfold spec_l32Rd_raw_J7.b
    simp only [e1, e2, h2, decide_true, cond_true, app, show decide ((2 : Int) = 0) = false from rfl, show decide ((2 : Int) = 1) = false from rfl, cond_false]
  by_cases h3 : r = 3
  · obtain ⟨l', e3, l3⟩ := raw_fill (α := α) N s2 (257 - (digs x).length) N (digs x) (by omega) (by omega)
    refine ⟨l', s2, fun k => ?_, by omega, q2⟩
    rw [spec_l32Rd_raw.eq]
    unfold spec_l32Rd_raw.b
    simp only [spec_l32Rd_raw_J3.eq]
    unfold spec_l32Rd_raw_J3.b
    simp only [spec_l32Rd_raw_J5.eq]
    unfold spec_l32Rd_raw_J5.b
    simp only [spec_l32Rd_raw_J7.eq]
    unfold spec_l32Rd_raw_J7.b
    simp only [spec_l32Rd_raw_J9.eq]
    unfold spec_l32Rd_raw_J9.b
    simp only [e1, e2, h3, decide_true, cond_true, show decide ((3 : Int) = 0) = false from rfl, show decide ((3 : Int) = 1) = false from rfl, show decide ((3 : Int) = 2) = false from rfl, cond_false]
    exact e3 _
  · refine ⟨digs x, s2, fun k => ?_, by omega, q2⟩
    rw [spec_l32Rd_raw.eq]
    unfold spec_l32Rd_raw.b
    simp only [spec_l32Rd_raw_J3.eq]
    unfold spec_l32Rd_raw_J3.b
    simp only [spec_l32Rd_raw_J5.eq]
    unfold spec_l32Rd_raw_J5.b
    simp only [spec_l32Rd_raw_J7.eq]
    unfold spec_l32Rd_raw_J7.b
    simp only [spec_l32Rd_raw_J9.eq]
    unfold spec_l32Rd_raw_J9.b
    simp only [e1, e2, h0, h1, h2, h3, decide_false, cond_false]
end Go.Proofs.YtgabephijgjogaaAm
