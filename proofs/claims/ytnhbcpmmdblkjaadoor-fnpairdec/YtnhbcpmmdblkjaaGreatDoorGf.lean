/-
  Decimals of fractions: what both texts write; the law.
-/
import Derived.Test.YtnhbcpmmdblkjaaGreatDoorGd
namespace Go.Proofs.YtnhbcpmmdblkjaaGreatDoorAm
open Go
set_option linter.unusedVariables false
set_option linter.unusedSimpArgs false

theorem wob {α : Type} (N : Nat) (p v r : List UInt8) (hv : v.all wff = true) (hr : r = [] ∨ ∃ c s, r = c :: s ∧ wff c = false) (hb : (p ++ (v ++ r)).length ≤ 100000) (k : Int → Option α) : ∀ (d n f : Nat), n + d = v.length → d < f →
    wY N f (BA (p ++ (v ++ r))) (p.length : Int) (n : Int) k = k (v.length : Int) := by
  have hl : (p ++ (v ++ r)).length = p.length + (v.length + r.length) := by simp
  intro d
  induction d with
  | zero =>
    intro n f h hf
    obtain ⟨f, rfl⟩ : ∃ m, f = m + 1 := ⟨f - 1, by omega⟩
    have hn : n = v.length := by omega
    subst hn
    have w1 : IntKind.i64.wrap ((p.length : Int) + (v.length : Int)) = ((p.length + v.length : Nat) : Int) := by rw [wd (by omega) (by omega)]; omega
    rw [wY.succ]
    unfold wfq
    simp only [w1, weh, wF, cond_false, Int.toNat_natCast, wgD]
    rcases hr with rfl | ⟨c, s, rfl, hc⟩
    · have : ¬ p.length + v.length < (p ++ (v ++ [])).length := by simp
      simp only [wcx this, cond_false]
    · have hi : p.length + v.length < (p ++ (v ++ c :: s)).length := by simp
      have hg : (p ++ (v ++ c :: s))[p.length + v.length]? = some c := by
        rw [List.getElem?_append_right (by omega), List.getElem?_append_right (by omega)]
        simp
      simp only [wc1 hi, cond_true, hg]
      rcases wqZ hc with q | ⟨q, q'⟩
      · have : ¬ (48 : Int) ≤ ((c.toNat : Nat) : Int) := by omega
        simp only [this, decide_false, cond_false]
      · have a1 : (48 : Int) ≤ ((c.toNat : Nat) : Int) := by omega
        have a2 : ¬ ((c.toNat : Nat) : Int) ≤ 57 := by omega
        simp only [a1, a2, decide_true, decide_false, cond_true, cond_false]
  | succ d ih =>
    intro n f h hf
    obtain ⟨f, rfl⟩ : ∃ m, f = m + 1 := ⟨f - 1, by omega⟩
    have hn : n < v.length := by omega
    have w1 : IntKind.i64.wrap ((p.length : Int) + (n : Int)) = ((p.length + n : Nat) : Int) := by rw [wd (by omega) (by omega)]; omega
    have hi : p.length + n < (p ++ (v ++ r)).length := by omega
    have hg : (p ++ (v ++ r))[p.length + n]? = some v[n] := by
      rw [List.getElem?_append_right (by omega), List.getElem?_append_left (by omega), show p.length + n - p.length = n by omega, List.getElem?_eq_getElem hn]
    have hd := whl (List.all_eq_true.1 hv _ (List.getElem_mem hn))
    have a1 : (48 : Int) ≤ ((v[n].toNat : Nat) : Int) := by omega
    have a2 : ((v[n].toNat : Nat) : Int) ≤ 57 := by omega
    rw [wY.succ]
    unfold wfq
    simp only [w1, weh, wF, cond_false, Int.toNat_natCast, wgD, wc1 hi, cond_true, hg, a1, a2, decide_true, wdW (show n < 4611686018427387904 by omega)]
    exact ih (n + 1) f (by omega) (by omega)
theorem wqS {α:Type} (N:Nat) (p v r:List UInt8) (hv:v.all wff=true) (hr:r=[]∨∃ c s,r=c::s∧wff c=false) (hb:(p++(v++r)).length≤100000) (k:Int→Option α) (hN:1048576 < N) :
  wcA N (BA (p++(v++r))) (p.length:Int) k=k (v.length:Int):=by
 have hl:(p++(v++r)).length=p.length + (v.length + r.length):=by simp
 rw [wcA.eq]
 unfold wcA.b
 exact wob N p v r hv hr hb (fun x=>k x) v.length 0 N (by omega) (by omega)
end Go.Proofs.YtnhbcpmmdblkjaaGreatDoorAm
