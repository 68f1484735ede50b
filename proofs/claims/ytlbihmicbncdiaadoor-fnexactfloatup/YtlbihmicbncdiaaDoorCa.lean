/-
  The values of floats as fractions; what a pair, a span, a box has; the laws.
-/
import Derived.Test.YtlbihmicbncdiaaDoorU
import Derived.Test.YtlbihmicbncdiaaDoorK
import Derived.Test.YtlbihmicbncdiaaDoorBb
import Derived.Test.YtlbihmicbncdiaaDoorC
namespace Go.Proofs.YtlbihmicbncdiaaDoorAm
open Go
set_option linter.unusedVariables false
set_option linter.unusedSimpArgs false

theorem bandU {x : Nat} (hx : x < 18446744073709551616) : bitI .and .u64 (x : Int) 65535 = ((x % 65536 : Nat) : Int) := by
  have e : (65535 : Int) = ((65535 : Nat) : Int) := rfl
  have h : x &&& 65535 = x % 65536 := Nat.and_two_pow_sub_one_eq_mod x 16
  rw [e]
  show IntKind.u64.wrap (((BitVec.ofInt 64 (x : Int) &&& BitVec.ofInt 64 ((65535 : Nat) : Int)).toNat : Nat) : Int) = _
  rw [BitVec.ofInt_natCast, BitVec.ofInt_natCast, BitVec.toNat_and, BitVec.toNat_ofNat, BitVec.toNat_ofNat]
  rw [Nat.mod_eq_of_lt (by omega), Nat.mod_eq_of_lt (show 65535 < 2 ^ 64 by decide), h, wrap_u64 (by omega) (by omega)]
/-- Top and bottom of a float's value, not in lowest terms. -/
def vTop (w o : Int) : Nat := if 0 ≤ (partOf w o).1.2.2.1 then (partOf w o).1.2.1.toNat * 2 ^ (partOf w o).1.2.2.1.toNat else (partOf w o).1.2.1.toNat
def vBot (w o : Int) : Nat := if 0 ≤ (partOf w o).1.2.2.1 then 1 else 2 ^ (-(partOf w o).1.2.2.1).toNat
def vSgn (w o : Int) : Bool := (partOf w o).1.1
theorem partOf_bounds (w o : Int) : 0 ≤ (partOf w o).1.2.1 ∧ (partOf w o).1.2.1 < 18446744073709551616 ∧ -1074 ≤ (partOf w o).1.2.2.1 ∧ (partOf w o).1.2.2.1 ≤ 1000 := by
  obtain ⟨g1, g2, g3, g4, g5⟩ := frac_great w
  have hp := pow_le_52 g2
  have hp0 : 0 < 2 ^ fracB w := Nat.pow_pos (by omega)
  have hmod : o.natAbs % 2 ^ fracB w < 2 ^ fracB w := Nat.mod_lt _ hp0
  unfold partOf
  split
  · rename_i h
    obtain ⟨hw, b1, b2⟩ := bitOk_w h.1
    have hq : o.natAbs / 2 ^ fracB w ≤ (2 * greatB w + 1).toNat := by
      have ht := top_eq hw
      have : o.natAbs ≤ (2 * greatB w + 1).toNat * 2 ^ fracB w := by omega
      have := Nat.div_le_div_right (c := 2 ^ fracB w) this
      rwa [Nat.mul_div_cancel _ hp0] at this
    have hG : greatB w = 127 ∧ leastB w = -149 ∨ greatB w = 1023 ∧ leastB w = -1074 := by unfold greatB leastB; split <;> simp
    generalize o.natAbs % 2 ^ fracB w = f at *
    generalize o.natAbs / 2 ^ fracB w = e at *
    split
    · simp only; omega
    · simp only; omega
  · simp only; omega
theorem part_sgn {w o : Int} (h : vSgn w o = true) : vTop w o ≠ 0 := by
  obtain ⟨p1, p2, p3, p4⟩ := partOf_bounds w o
  have hs : (partOf w o).1.2.1 ≠ 0 := by
    unfold vSgn at h
    unfold partOf at *
    have hp0 : 0 < 2 ^ fracB w := Nat.pow_pos (by omega)
    split at h
    · rename_i hc
      rw [if_pos hc]
      split at h
      · rename_i h0
        rw [if_pos h0]
        simp only [decide_eq_true_eq] at h
        have := Nat.div_add_mod o.natAbs (2 ^ fracB w)
        rw [h0, Nat.mul_zero] at this
        simp only; omega
      · rename_i h0
        rw [if_neg h0]
        simp only; omega
    · simp at h
  unfold vTop
  have hp : ∀ i : Nat, 0 < 2 ^ i := fun i => Nat.pow_pos (by omega)
  split
  · have := hp (partOf w o).1.2.2.1.toNat
    intro h0
    rcases Nat.mul_eq_zero.1 h0 with h1 | h1 <;> omega
  · omega
theorem vBot_pos (w o : Int) : vBot w o ≠ 0 := by
  unfold vBot
  split
  · omega
  · have := Nat.pow_pos (n := (-(partOf w o).1.2.2.1).toNat) (show 0 < 2 by omega); omega
theorem v_cap (w o : Int) : vTop w o < 65536 ^ 68 ∧ vBot w o < 65536 ^ 68 := by
  obtain ⟨p1, p2, p3, p4⟩ := partOf_bounds w o
  unfold vTop vBot
  generalize (partOf w o).1.2.1 = s at *
  generalize (partOf w o).1.2.2.1 = p at *
  have hs : s.toNat < 65536 ^ 4 := by omega
  constructor
  · split
    · have h2 : 2 ^ p.toNat < 65536 ^ 64 := pow2_cap (by omega)
      exact mul_cap hs h2
    · exact Nat.lt_of_lt_of_le hs (pow_up (by omega))
  · split
    · exact Nat.lt_of_lt_of_le (show 1 < 65536 ^ 1 by omega) (pow_up (by omega))
    · exact pow2_cap (by omega)
theorem cap68 {n : Nat} (h : n < 65536 ^ 68) : n < cap0 := lt_cap0 h (by omega)
theorem vTop_lt (w o : Int) : vTop w o < cap := cap0_lt (cap68 (v_cap w o).1)
theorem vBot_lt (w o : Int) : vBot w o < cap := cap0_lt (cap68 (v_cap w o).2)
def valF (w o : Int) : FracD := (vSgn w o && decide (vTop w o ≠ 0), (digs (vTop w o / Nat.gcd (vTop w o) (vBot w o)), (digs (vBot w o / Nat.gcd (vTop w o) (vBot w o)), ())))
def floatFrac (w o : Int) : R4 := if (partOf w o).2 = true then mkF (vSgn w o) (vTop w o) (vBot w o) else bad4
theorem floatFrac_len (w o : Int) : (floatFrac w o).2.2.1.length ≤ 256 ∧ (floatFrac w o).2.2.2.length ≤ 256 := by
  unfold floatFrac
  split
  · exact mkF_len _ _ _
  · exact ⟨Nat.zero_le _, Nat.zero_le _⟩
theorem spec_l8Frac_eq {α : Type} (N : Nat) (f : FracD) (k : FracD → Option α) : spec_l8Frac N f k = k f := by
  rw [spec_l8Frac.eq]; rfl
theorem cmpZ_scale {x y g : Int} (hg : 0 < g) : cmpZ (x * g) (y * g) = cmpZ x y := by
  unfold cmpZ
  by_cases h1 : x < y
  · rw [if_pos h1, if_pos (Int.mul_lt_mul_of_pos_right h1 hg)]
  · by_cases h2 : y < x
    · have := Int.mul_lt_mul_of_pos_right h2 hg
      rw [if_neg h1, if_pos h2, if_neg (by omega), if_pos this]
    · have : x = y := by omega
      subst this
      simp
theorem sgnd_mul (s : Bool) (n g : Nat) : sgnd s (n * g) = sgnd s n * (g : Int) := by
  unfold sgnd
  cases s
  · simp
  · simp only [if_true]; rw [Int.natCast_mul, Int.neg_mul]
theorem sgnd_and (s : Bool) (n d : Nat) : sgnd (s && decide (n ≠ 0)) (n * d) = sgnd s (n * d) := by
  by_cases h : n = 0
  · subst h; cases s <;> simp [sgnd]
  · simp [h]
/-- How a float's value stands to a fraction. -/
def cmpV (w o : Int) (f : FracD) : Int := cmpZ (sgnd (vSgn w o) (vTop w o * (val f.2.2.1).toNat)) (sgnd f.1 ((val f.2.1).toNat * vBot w o))
def cmpV' (w o : Int) (f : FracD) : Int := cmpZ (sgnd f.1 ((val f.2.1).toNat * vBot w o)) (sgnd (vSgn w o) (vTop w o * (val f.2.2.1).toNat))
theorem prod_cap {a b : Nat} (ha : a < 65536 ^ 68) (hb : b < 65536 ^ 256) : a * b < cap := by
  obtain ⟨E, hE⟩ : ∃ E, E = 324 := ⟨_, rfl⟩
  have h := mul_cap ha hb
  rw [show 68 + 256 = E from hE.symm] at h
  exact lt_cap h (by omega)
theorem low_facts (w o : Int) : ∃ a b g : Nat, vTop w o = a * g ∧ vBot w o = b * g ∧ 0 < g ∧ vTop w o / Nat.gcd (vTop w o) (vBot w o) = a ∧ vBot w o / Nat.gcd (vTop w o) (vBot w o) = b ∧ a ≤ vTop w o ∧ b ≤ vBot w o ∧ b ≠ 0 ∧ (vTop w o ≠ 0 ↔ a ≠ 0) := by
  have hb0 := vBot_pos w o
  have hg0 : 0 < Nat.gcd (vTop w o) (vBot w o) := Nat.gcd_pos_of_pos_right _ (Nat.pos_of_ne_zero hb0)
  have e1 := Nat.div_mul_cancel (Nat.gcd_dvd_left (vTop w o) (vBot w o))
  have e2 := Nat.div_mul_cancel (Nat.gcd_dvd_right (vTop w o) (vBot w o))
  have hl1 := Nat.div_le_self (vTop w o) (Nat.gcd (vTop w o) (vBot w o))
  have hl2 := Nat.div_le_self (vBot w o) (Nat.gcd (vTop w o) (vBot w o))
  have hz : vBot w o / Nat.gcd (vTop w o) (vBot w o) ≠ 0 := fun h => by rw [h, Nat.zero_mul] at e2; exact hb0 e2.symm
  refine ⟨_, _, _, e1.symm, e2.symm, hg0, rfl, rfl, hl1, hl2, hz, ⟨fun h h0 => ?_, fun h h0 => ?_⟩⟩
  · rw [h0, Nat.zero_mul] at e1; exact h e1.symm
  · rw [h0, Nat.zero_div] at h; exact h rfl
def pairHas (w : Int) (p : PairD) (f : FracD) : Bool := pairOk w p && fracOkB f && (decide (p.1 = -top w) || decide (cmpV w p.1 f ≤ 0)) && (decide (p.2.1 = top w) || decide (cmpV' w p.2.1 f ≤ 0))
/-- How much a list of fractions weighs. -/
def weigh : List FracD → Nat
  | [] => 0
  | f :: r => f.2.1.length + f.2.2.1.length + weigh r
theorem weigh_mem : ∀ {l : List FracD} {f : FracD}, f ∈ l → f.2.1.length + f.2.2.1.length ≤ weigh l
  | f :: r, g, h => by
    rw [weigh]
    rcases List.mem_cons.1 h with rfl | h
    · omega
    · have := weigh_mem h; omega
def hasAll (w : Int) : List PairD → List FracD → Bool
  | p :: r, f :: s => pairHas w p f && hasAll w r s
  | _, _ => true
def boxHas (w : Int) (b : List PairD) (l : List FracD) : Bool := boxOk w b && decide (l.length = b.length) && hasAll w b l
end Go.Proofs.YtlbihmicbncdiaaDoorAm
