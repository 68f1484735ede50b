/-
  A box is used up: the plain law of the search.
-/
import Derived.Test.YtbaeipjjijdgiaaE
namespace Go.Proofs.YtbaeipjjijdgiaaAm
open Go
set_option linter.unusedVariables false
set_option linter.unusedSimpArgs false

def gN (p : PairD) : Nat := (gapP p).toNat
def u1 (p : PairD) : Nat := if gN p = 0 then 1 else 4 * gN p - 1
def uN : List PairD → Nat
 | [] => 1
 | p :: r => u1 p * uN r
def bN : List PairD → Nat
 | [] => 0
 | p :: r => blen (gN p) + bN r
theorem gN_int (p : PairD) : gapP p = (gN p : Int) := by
 have := gapP_nonneg p
 unfold gN; omega
theorem gN_lt (p : PairD) : gN p < 2 ^ 64 := by
 have := gapP_nonneg p
 unfold gN; omega
theorem u1_pos (p : PairD) : 1 ≤ u1 p := by unfold u1; split <;> omega
theorem uN_pos : ∀ x : List PairD, 1 ≤ uN x
 | [] => Nat.le_refl _
 | p :: r => Nat.mul_pos (u1_pos p) (uN_pos r)
theorem units_exact : ∀ (r : List PairD) (n : Int), 1 ≤ n → unitsFold n r ≤ 3000 → unitsFold n r = n * (uN r : Int)
  | [], n, _, _ => by simp [unitsFold, uN]
  | p :: r, n, hn, h => by
    have hg := gN_int p
    unfold unitsFold at h ⊢
    by_cases h0 : gapP p = 0
    · rw [if_pos h0] at h ⊢
      have e : u1 p = 1 := by unfold u1; rw [if_pos (by omega)]
      rw [units_exact r n hn h]
      have e2 : uN (p :: r) = u1 p * uN r := rfl
      rw [e2, e, Nat.one_mul]
    · rw [if_neg h0] at h ⊢
      have hp := gapP_nonneg p
      have hx : ∀ g : Int, 1 ≤ g → 4 * g - 1 ≤ n * (4 * g - 1) := fun g hg => by
        have : 1 * (4 * g - 1) ≤ n * (4 * g - 1) := Int.mul_le_mul_of_nonneg_right hn (by omega)
        omega
      have h1 : n * (4 * min (gapP p) 1000000000 - 1) < 1000000000 := by
        refine Classical.byContradiction fun q => ?_
        rw [Int.min_eq_left (a := 1000000000) (by omega), units_full] at h
        omega
      have h2 : gapP p < 1000000000 := by
        refine Classical.byContradiction fun q => ?_
        rw [Int.min_eq_right (a := gapP p) (by omega)] at h1
        have := hx 1000000000 (by omega)
        omega
      rw [Int.min_eq_left (a := gapP p) (by omega)] at h h1 ⊢
      rw [Int.min_eq_right (a := 1000000000) (by omega)] at h ⊢
      have h3 := hx (gapP p) (by omega)
      rw [units_exact r _ (by omega) h]
      have e : ((u1 p : Nat) : Int) = 4 * gapP p - 1 := by unfold u1; rw [if_neg (by omega)]; omega
      have e2 : uN (p :: r) = u1 p * uN r := rfl
      rw [e2, Int.natCast_mul, e, Int.mul_assoc]
theorem path_exact : ∀ (r : List PairD) (u : Nat), pathFold u r = u + bN r
  | [], u => rfl
  | p :: r, u => by
    unfold pathFold bN
    rw [path_exact r]
    unfold gN; omega
theorem uN_set : ∀ (x : List PairD) (i : Nat) (h : i < x.length), ∃ R, 1 ≤ R ∧ uN x = R * u1 x[i] ∧ ∀ q, uN (x.set i q) = R * u1 q
  | [], i, h => by simp at h
  | p :: r, 0, h => ⟨uN r, uN_pos r, Nat.mul_comm _ _, fun q => Nat.mul_comm _ _⟩
  | p :: r, i + 1, h => by
    obtain ⟨R, h1, h2, h3⟩ := uN_set r i (by simpa using h)
    refine ⟨u1 p * R, Nat.mul_pos (u1_pos p) h1, ?_, fun q => ?_⟩
    · show u1 p * uN r = _
      rw [h2, Nat.mul_assoc]; rfl
    · show u1 p * uN (r.set i q) = _
      rw [h3, Nat.mul_assoc]
theorem bN_set : ∀ (x : List PairD) (i : Nat) (h : i < x.length), ∃ S, bN x = S + blen (gN x[i]) ∧ ∀ q, bN (x.set i q) = S + blen (gN q)
  | [], i, h => by simp at h
  | p :: r, 0, h => ⟨bN r, Nat.add_comm _ _, fun q => Nat.add_comm _ _⟩
  | p :: r, i + 1, h => by
    obtain ⟨S, h2, h3⟩ := bN_set r i (by simpa using h)
    refine ⟨blen (gN p) + S, ?_, fun q => ?_⟩
    · show blen (gN p) + bN r = _
      rw [h2, Nat.add_assoc]; rfl
    · show blen (gN p) + bN (r.set i q) = _
      rw [h3, Nat.add_assoc]
theorem blen_zero : blen 0 = 0 := rfl
theorem blen_mono : ∀ (n m : Nat), m ≤ n → n < 2 ^ 64 → blen m ≤ blen n := by
  intro n
  induction n using Nat.strongRecOn with
  | ind n ih =>
    intro m h hn
    by_cases h0 : m = 0
    · subst h0; rw [blen_zero]; omega
    · rw [blen_step (n := m) (by omega) h0, blen_step hn (by omega)]
      have := ih (n / 2) (by omega) (m / 2) (by omega) (by omega)
      omega
theorem boxIs_iff : ∀ {a b : List PairD}, boxIs a b = true ↔ a.length = b.length ∧ ∀ (i : Nat) (p q : PairD), a[i]? = some p → b[i]? = some q → pairIs p q = true
  | [], [] => by simp [boxIs]
  | [], q :: b => by simp [boxIs]
  | p :: a, [] => by simp [boxIs]
  | p :: a, q :: b => by
    simp only [boxIs, Bool.and_eq_true, boxIs_iff (a := a) (b := b), List.length_cons, Nat.add_right_cancel_iff]
    constructor
    · rintro ⟨h1, h2, h3⟩
      refine ⟨h2, fun i p' q' e1 e2 => ?_⟩
      cases i with
      | zero => simp at e1 e2; subst e1; subst e2; exact h1
      | succ i => exact h3 i p' q' (by simpa using e1) (by simpa using e2)
    · rintro ⟨h2, h3⟩
      exact ⟨h3 0 p q rfl rfl, h2, fun i p' q' e1 e2 => h3 (i + 1) p' q' (by simpa using e1) (by simpa using e2)⟩
theorem pairIs_refl (p : PairD) : pairIs p p = true := by simp [pairIs]
theorem set_cases {x : List PairD} {i j : Nat} {q r : PairD} (h : (x.set i q)[j]? = some r) : (j = i ∧ r = q) ∨ x[j]? = some r := by
 rw [List.getElem?_set] at h
 split at h
 ·rename_i e
  split at h
  ·exact .inl ⟨e.symm, by simpa using h.symm⟩
  ·cases h
 ·exact .inr h
theorem boxIs_part {x : List PairD} {i : Nat} {q : PairD} (hi : i < x.length) (h : pairIs q x[i] = true) : boxIs (x.set i q) x = true := by
 refine boxIs_iff.2 ⟨by simp, fun j p' q' e1 e2 => ?_⟩
 rcases set_cases e1 with ⟨rfl, rfl⟩ | e1
 ·rw [List.getElem?_eq_getElem hi] at e2
  simp only [Option.some.injEq] at e2
  rw [← e2]; exact h
 ·rw [e1] at e2
  simp only [Option.some.injEq] at e2
  rw [← e2]; exact pairIs_refl _
def pts (l : List Int) : List PairD := l.map fun v => (v, v, ())
theorem pairIs_pt {v : Int} {q : PairD} : pairIs (v, v, ()) q = true ↔ q.1 ≤ v ∧ v ≤ q.2.1 := by simp [pairIs]
theorem cover_two {l : List Int} {x : List PairD} {i : Nat} (hi : i < x.length) {q1 q2 : PairD} (h : boxIs (pts l) x = true) (hq : ∀ v, x[i].1 ≤ v → v ≤ x[i].2.1 → (q1.1 ≤ v ∧ v ≤ q1.2.1) ∨ (q2.1 ≤ v ∧ v ≤ q2.2.1)) :
  boxIs (pts l) (x.set i q1) = true ∨ boxIs (pts l) (x.set i q2) = true := by
 obtain ⟨h1, h2⟩ := boxIs_iff.1 h
 have hl : i < l.length := by simpa [pts] using (h1 ▸ hi : i < (pts l).length)
 have hp : (pts l)[i]? = some (l[i], l[i], ()) := by simp [pts, hl]
 have hb := pairIs_pt.1 (h2 i _ _ hp (List.getElem?_eq_getElem hi))
 have key : ∀ q : PairD, q.1 ≤ l[i] ∧ l[i] ≤ q.2.1 → boxIs (pts l) (x.set i q) = true := fun q hq => by
  refine boxIs_iff.2 ⟨by simpa using h1, fun j p' q' e1 e2 => ?_⟩
  rcases set_cases e2 with ⟨rfl, rfl⟩ | e2
  ·rw [hp] at e1
   simp only [Option.some.injEq] at e1
   rw [← e1]; exact pairIs_pt.2 hq
  ·exact h2 j p' q' e1 e2
 rcases hq _ hb.1 hb.2 with q | q
 ·exact .inl (key _ q)
 ·exact .inr (key _ q)
theorem boxOk_set {w : Int} {x : List PairD} {i : Nat} {q : PairD} (h : boxOk w x = true) (hq : pairOk w q = true) : boxOk w (x.set i q) = true := by
 obtain ⟨h1, h2, h3⟩ := boxOk_len h
 unfold boxOk
 simp only [Bool.and_eq_true, decide_eq_true_eq, List.all_eq_true, List.length_set]
 refine ⟨⟨h1, h2⟩, fun p hp => ?_⟩
 rcases List.mem_or_eq_of_mem_set hp with h | h
 ·exact h3 p h
 ·rw [h]; exact hq
def sumU : List BoxD → Nat
 | [] => 0
 | x :: r => uN x.1 + sumU r
theorem sumU_app : ∀ (a b : List BoxD), sumU (a ++ b) = sumU a + sumU b
 | [], b => by simp [sumU]
 | x :: a, b => by simp only [List.cons_append, sumU, sumU_app a b]; omega
structure Srch (w : Int) (b : List PairD) (units path n : Nat) (st told gone : List BoxD) : Prop where
 ok : ∀ x ∈ st, boxOk w x.1 = true
 sum : n + sumU st ≤ units
 pth : ∀ (i : Nat) (x : BoxD), st[i]? = some x → i + 1 + bN x.1 ≤ path
 cov : ∀ l : List Int, boxIs (pts l) b = true → ∃ x ∈ st ++ (told ++ gone), boxIs (pts l) x.1 = true
 lt : told.length ≤ n
 lg : gone.length ≤ n
theorem snoc_get {β : Type} {a : List β} {x y : β} {i : Nat} (h : (a ++ [x])[i]? = some y) : a[i]? = some y ∨ (i = a.length ∧ y = x) := by
 rw [List.getElem?_append] at h
 split at h
 ·exact .inl h
 ·rename_i hi
  have : i - a.length = 0 := by
   refine Classical.byContradiction fun q => ?_
   obtain ⟨k, hk⟩ : ∃ k, i - a.length = k + 1 := ⟨i - a.length - 1, by omega⟩
   rw [hk] at h; simp at h
  rw [this] at h
  exact .inr ⟨by omega, by simpa using h.symm⟩
section
variable {w : Int} {b : List PairD} {units path n : Nat} {st told gone : List BoxD} {x : BoxD}
theorem Srch.top (S : Srch w b units path n (st ++ [x]) told gone) : boxOk w x.1 = true ∧ n < units ∧ st.length + 1 ≤ path ∧ n + sumU st + uN x.1 ≤ units ∧ st.length + 1 + bN x.1 ≤ path := by
 have h1 := S.sum
 have h2 := S.pth st.length x (by simp)
 have h3 := uN_pos x.1
 rw [sumU_app] at h1
 simp only [sumU] at h1
 exact ⟨S.ok x (by simp), by omega, by omega, by omega, h2⟩
theorem Srch.keep (S : Srch w b units path n (st ++ [x]) told gone) {i : Nat} {y : BoxD} (h : st[i]? = some y) : i + 1 + bN y.1 ≤ path :=
 S.pth i y (by rw [List.getElem?_append_left (List.getElem?_eq_some_iff.1 h).1]; exact h)
theorem Srch.toTold (S : Srch w b units path n (st ++ [x]) told gone) : Srch w b units path (n + 1) st (told ++ [x]) gone := by
 obtain ⟨h1, h2, h3, h4, h5⟩ := S.top
 have h6 := uN_pos x.1
 refine ⟨fun y hy => S.ok y (by simp [hy]), by omega, fun i y h => S.keep h, fun l hl => ?_, by simp; exact S.lt, by have := S.lg; omega⟩
 obtain ⟨y, hy, e⟩ := S.cov l hl
 refine ⟨y, ?_, e⟩
 simp only [List.mem_append, List.mem_singleton] at hy ⊢
 rcases hy with (h | h) | h | h
 ·exact .inl h
 ·exact .inr (.inl (.inr h))
 ·exact .inr (.inl (.inl h))
 ·exact .inr (.inr h)
theorem Srch.toGone (S : Srch w b units path n (st ++ [x]) told gone) : Srch w b units path (n + 1) st told (gone ++ [x]) := by
 obtain ⟨h1, h2, h3, h4, h5⟩ := S.top
 have h6 := uN_pos x.1
 refine ⟨fun y hy => S.ok y (by simp [hy]), by omega, fun i y h => S.keep h, fun l hl => ?_, by have := S.lt; omega, by simp; exact S.lg⟩
 obtain ⟨y, hy, e⟩ := S.cov l hl
 refine ⟨y, ?_, e⟩
 simp only [List.mem_append, List.mem_singleton] at hy ⊢
 rcases hy with (h | h) | h | h
 ·exact .inl h
 ·exact .inr (.inr (.inr h))
 ·exact .inr (.inl h)
 ·exact .inr (.inr (.inl h))
theorem Srch.cut (S : Srch w b units path n (st ++ [x]) told gone) {y z : BoxD} (ho : boxOk w y.1 = true) (hu : uN y.1 + 1 ≤ uN x.1) (hb : bN y.1 ≤ bN x.1) (hc : ∀ l, boxIs (pts l) x.1 = true → boxIs (pts l) y.1 = true ∨ boxIs (pts l) z.1 = true) :
  Srch w b units path (n + 1) (st ++ [y]) told (gone ++ [z]) := by
 obtain ⟨h1, h2, h3, h4, h5⟩ := S.top
 refine ⟨fun q hq => ?_, ?_, fun i q h => ?_, fun l hl => ?_, by have := S.lt; omega, by simp; exact S.lg⟩
 ·rcases List.mem_append.1 hq with h | h
  ·exact S.ok q (by simp [h])
  ·rw [List.mem_singleton.1 h]; exact ho
 ·rw [sumU_app]; simp only [sumU]; omega
 ·rcases snoc_get h with h | ⟨rfl, rfl⟩
  ·exact S.keep h
  ·omega
 ·obtain ⟨q, hq, e⟩ := S.cov l hl
  simp only [List.mem_append, List.mem_singleton] at hq ⊢
  rcases hq with (h | h) | h | h
  ·exact ⟨q, .inl (.inl h), e⟩
  ·subst h
   rcases hc l e with e | e
   ·exact ⟨y, .inl (.inr rfl), e⟩
   ·exact ⟨z, .inr (.inr (.inr rfl)), e⟩
  ·exact ⟨q, .inr (.inl h), e⟩
  ·exact ⟨q, .inr (.inr (.inl h)), e⟩
theorem Srch.split (S : Srch w b units path n (st ++ [x]) told gone) {y z : BoxD} (ho : boxOk w y.1 = true) (ho2 : boxOk w z.1 = true) (hu : uN y.1 + uN z.1 + 1 ≤ uN x.1) (hb : bN y.1 ≤ bN x.1) (hb2 : bN z.1 + 1 ≤ bN x.1)
  (hc : ∀ l, boxIs (pts l) x.1 = true → boxIs (pts l) y.1 = true ∨ boxIs (pts l) z.1 = true) :
  Srch w b units path (n + 1) ((st ++ [y]) ++ [z]) told gone := by
 obtain ⟨h1, h2, h3, h4, h5⟩ := S.top
 refine ⟨fun q hq => ?_, ?_, fun i q h => ?_, fun l hl => ?_, by have := S.lt; omega, by have := S.lg; omega⟩
 ·simp only [List.mem_append, List.mem_singleton] at hq
  rcases hq with (h | h) | h
  ·exact S.ok q (by simp [h])
  ·rw [h]; exact ho
  ·rw [h]; exact ho2
 ·rw [sumU_app, sumU_app]; simp only [sumU]; omega
 ·rcases snoc_get h with h | ⟨rfl, rfl⟩
  ·rcases snoc_get h with h | ⟨rfl, rfl⟩
   ·exact S.keep h
   ·omega
  ·simp only [List.length_append, List.length_singleton]; omega
 ·obtain ⟨q, hq, e⟩ := S.cov l hl
  simp only [List.mem_append, List.mem_singleton] at hq ⊢
  rcases hq with (h | h) | h
  ·exact ⟨q, .inl (.inl (.inl h)), e⟩
  ·subst h
   rcases hc l e with e | e
   ·exact ⟨y, .inl (.inl (.inr rfl)), e⟩
   ·exact ⟨z, .inl (.inr rfl), e⟩
  ·exact ⟨q, .inr h, e⟩
end
theorem pair_parts {w : Int} {p : PairD} (h : pairOk w p = true) (hg : 2 ≤ gN p) :
  (∀ c : Int, p.1 < c → c < p.2.1 → pairOk w (p.1, c, ()) = true ∧ pairOk w (c, p.2.1, ()) = true ∧ (gN (p.1, c, ()) : Int) = c - p.1 ∧ (gN (c, p.2.1, ()) : Int) = p.2.1 - c) ∧ (gN p : Int) = p.2.1 - p.1 ∧ p.1 + 2 ≤ p.2.1 := by
 obtain ⟨hw, h1, h2, h3, h4, h5, h6⟩ := pairOk_ok h
 have e := gN_int p
 have ht := top_nonneg w
 refine ⟨fun c c1 c2 => ?_, by omega, by omega⟩
 have a1 := pairOk_mk (w := w) (a := p.1) (b := c) hw (by omega) (by omega) (by omega) (by omega) (by omega)
 have a2 := pairOk_mk (w := w) (a := c) (b := p.2.1) hw (by omega) (by omega) (by omega) (by omega) (by omega)
 obtain ⟨_, _, _, _, _, _, k1⟩ := pairOk_ok a1
 obtain ⟨_, _, _, _, _, _, k2⟩ := pairOk_ok a2
 have e1 := gN_int (p.1, c, ())
 have e2 := gN_int (c, p.2.1, ())
 simp only at k1 k2
 exact ⟨a1, a2, by omega, by omega⟩
theorem boxCut_ok {w : Int} {x : List PairD} {i : Nat} (hi : i < x.length) (ho : boxOk w x = true) (hg : 2 ≤ gN x[i]) {q1 q2 : PairD}
  (h : (q1 = (x[i].1 + 1, x[i].2.1, ()) ∧ q2 = (x[i].1, x[i].1 + 1, ())) ∨ (q1 = (x[i].1, x[i].2.1 - 1, ()) ∧ q2 = (x[i].2.1 - 1, x[i].2.1, ()))) :
  boxOk w (x.set i q1) = true ∧ uN (x.set i q1) + 1 ≤ uN x ∧ bN (x.set i q1) ≤ bN x ∧ ∀ l, boxIs (pts l) x = true → boxIs (pts l) (x.set i q1) = true ∨ boxIs (pts l) (x.set i q2) = true := by
 obtain ⟨_, _, h3⟩ := boxOk_len ho
 have hp := h3 _ (List.getElem_mem hi)
 obtain ⟨k1, k2, k3⟩ := pair_parts hp hg
 obtain ⟨R, r1, r2, r3⟩ := uN_set x i hi
 obtain ⟨S, s1, s2⟩ := bN_set x i hi
 have hlt := gN_lt x[i]
 have main : ∀ q : PairD, pairOk w q = true → (gN q : Int) = (gN x[i] : Int) - 1 → boxOk w (x.set i q) = true ∧ uN (x.set i q) + 1 ≤ uN x ∧ bN (x.set i q) ≤ bN x := by
  intro q hq e
  refine ⟨boxOk_set ho hq, ?_, ?_⟩
  ·rw [r2, r3]
   have e1 : u1 x[i] = u1 q + 4 := by
    unfold u1; rw [if_neg (by omega), if_neg (by omega)]; omega
   rw [e1, Nat.mul_add]
   omega
  ·rw [s1, s2]
   have := blen_mono (gN x[i]) (gN q) (by omega) hlt
   omega
 rcases h with ⟨rfl, rfl⟩ | ⟨rfl, rfl⟩
 ·obtain ⟨a1, a2, a3, a4⟩ := k1 (x[i].1 + 1) (by omega) (by omega)
  obtain ⟨m1, m2, m3⟩ := main _ a2 (by omega)
  refine ⟨m1, m2, m3, fun l hl => cover_two hi hl fun v v1 v2 => ?_⟩
  simp only; omega
 ·obtain ⟨a1, a2, a3, a4⟩ := k1 (x[i].2.1 - 1) (by omega) (by omega)
  obtain ⟨m1, m2, m3⟩ := main _ a1 (by omega)
  refine ⟨m1, m2, m3, fun l hl => cover_two hi hl fun v v1 v2 => ?_⟩
  simp only; omega
theorem boxSplit_ok {w : Int} {x : List PairD} {i : Nat} (hi : i < x.length) (ho : boxOk w x = true) (hg : 2 ≤ gN x[i]) :
    ∃ on wait : List PairD, boxParts w x (i : Int) (pairSplit w) = (on, wait, true) ∧ boxIs on x = true ∧ boxIs wait x = true ∧ boxOk w on = true ∧ boxOk w wait = true ∧ uN wait + uN on + 1 ≤ uN x ∧ bN wait ≤ bN x ∧ bN on + 1 ≤ bN x ∧
      (∀ l, boxIs (pts l) x = true → boxIs (pts l) wait = true ∨ boxIs (pts l) on = true) ∧ on.length ≤ 6 ∧ wait.length ≤ 6 := by
  obtain ⟨hl1, hl2, h3⟩ := boxOk_len ho
  have hp := h3 _ (List.getElem_mem hi)
  obtain ⟨k1, k2, k3⟩ := pair_parts hp hg
  obtain ⟨R, r1, r2, r3⟩ := uN_set x i hi
  obtain ⟨S, s1, s2⟩ := bN_set x i hi
  have hlt := gN_lt x[i]
  have hm := middle_eq hp
  obtain ⟨c, hc⟩ : ∃ c, c = x[i].1 + (x[i].2.1 - x[i].1) / 2 := ⟨_, rfl⟩
  rw [← hc] at hm
  obtain ⟨a1, a2, a3, a4⟩ := k1 c (by omega) (by omega)
  have hgap : ¬ gap x[i].1 x[i].2.1 < 2 := by
    have := gN_int x[i]
    unfold gapP at this; omega
  have hsp : pairSplit w x[i] = ((x[i].1, c, ()), (c, x[i].2.1, ()), true) := by
    unfold pairSplit
    rw [if_pos ⟨hp, hgap⟩, hm]
  have hgd : x.getD i p0 = x[i] := by simp [List.getD_eq_getElem?_getD, hi]
  have hpart : boxParts w x (i : Int) (pairSplit w) = (x.set i (x[i].1, c, ()), x.set i (c, x[i].2.1, ()), true) := by
    unfold boxParts
    simp only [Int.toNat_natCast, hgd, hsp]
    rw [if_pos ⟨ho, by omega, by omega, trivial⟩]
  refine ⟨_, _, hpart, boxIs_part hi (by simp [pairIs]; omega), boxIs_part hi (by simp [pairIs]; omega), boxOk_set ho a1, boxOk_set ho a2, ?_, ?_, ?_, fun l hl => cover_two hi hl fun v v1 v2 => by simp only; omega, by simp; omega, by simp; omega⟩
  · rw [r2, r3, r3]
    have e1 : u1 x[i] = u1 (c, x[i].2.1, ()) + u1 (x[i].1, c, ()) + 1 := by
      unfold u1; rw [if_neg (by omega), if_neg (by omega), if_neg (by omega)]; omega
    rw [e1, Nat.mul_add, Nat.mul_add]
    omega
  · rw [s1, s2]
    have := blen_mono (gN x[i]) (gN (c, x[i].2.1, ())) (by omega) hlt
    omega
  · rw [s1, s2]
    have e2 : gN (x[i].1, c, ()) = gN x[i] / 2 := by omega
    rw [e2, blen_step (n := gN x[i]) hlt (by omega)]
    omega
end Go.Proofs.YtbaeipjjijdgiaaAm
