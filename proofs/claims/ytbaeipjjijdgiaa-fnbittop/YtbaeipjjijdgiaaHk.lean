/-
  A box is used up: the drawn law.
-/
import Derived.Test.YtbaeipjjijdgiaaHj
namespace Go.Proofs.YtbaeipjjijdgiaaAm
open Go
set_option linter.unusedVariables false
set_option linter.unusedSimpArgs false

theorem pbByte_ok (N : Nat) (a : List Int) (ha : ∀ x ∈ a, 0 ≤ x ∧ x ≤ 255) (i : Nat) (hi : i ≤ 100000) : ∃ v : Int, (∀ {α : Type} (k : Int → Option α), laws_pbByte N a (i : Int) k = k v) ∧ 0 ≤ v ∧ v ≤ 255 := by
 by_cases h : i < a.length
 ·have hx := ha _ (List.getElem_mem h)
  refine ⟨a[i], fun k => ?_, hx.1, hx.2⟩
  rw [laws_pbByte.eq]
  unfold laws_pbByte.b
  have w : IntKind.i64.wrap a[i] = a[i] := wrap_i64 (by omega) (by omega)
  simp only [cast_lt h, cond_true, cast_neg, cond_false, Int.toNat_natCast, List.getElem?_eq_getElem h, w]
 ·have w : IntKind.i64.wrap ((i : Int) * 37) = (i : Int) * 37 := wrap_i64 (by omega) (by omega)
  obtain ⟨t1, t2⟩ := tmod_lt (x := (i : Int) * 37) (n := 251) (by omega) (by omega)
  refine ⟨((i : Int) * 37).tmod 251, fun k => ?_, t1, by omega⟩
  rw [laws_pbByte.eq]
  unfold laws_pbByte.b
  simp only [cast_nlt h, cond_false, w]
theorem few_J {α : Type} (N : Nat) (w : Int) (n i v r : Int) (hw : w = 32 ∨ w = 64) (h0 : -(top w + 6) ≤ v) (h1 : v ≤ top w + 6) (hr0 : 0 ≤ r) (hr : r < 9) (u o : List PairD) : ∃ v2 : Int, ∃ q : PairD, pairOk w q = true ∧
  (∀ (s : RdD) (k : Int → Int → Int → Int → RdD → List PairD → List PairD → Option α), spec_l31Rd_few_J7 N w n i v s u o (fun x1 x2 x3 x4 x5 x6 x7 => spec_l31Rd_few_J9 N x1 x2 x3 x4 x5 x6 x7 k) = k w n i v2 s u o) ∧
  ∀ (s : RdD) (k : Int → Int → Int → RdD → PairD → List PairD → List PairD → Option α), spec_l31Rd_few_J12 N w n i v2 s (v2, (IntKind.i64.wrap (v2 + r), ())) u o k = k w n i s q u o := by
 have ht : top w = 2139095040 ∨ top w = 9218868437227405312 := by
  rcases hw with rfl | rfl <;> simp [top]
 have w1 : IntKind.i64.wrap (top w - 20) = top w - 20 := wrap_i64 (by omega) (by omega)
 have w2 : IntKind.i64.wrap (0 - top w) = -top w := by rw [wrap_i64 (by omega) (by omega)]; omega
 obtain ⟨a, ha, a1⟩ : ∃ a, a = (if top w - 20 ≤ v then top w - 20 else v) ∧ a ≤ top w - 20 := ⟨_, rfl, by split <;> omega⟩
 obtain ⟨b, hb, b1, b2⟩ : ∃ b, b = (if a < -top w then -top w else a) ∧ b ≤ top w - 20 ∧ -top w ≤ b := ⟨_, rfl, by split <;> omega, by split <;> omega⟩
 have e7 : ∀ (s : RdD) (k : Int → Int → Int → Int → RdD → List PairD → List PairD → Option α), spec_l31Rd_few_J7 N w n i v s u o k = k w n i a s u o := by
  intro s k
  rw [spec_l31Rd_few_J7.eq]
  unfold spec_l31Rd_few_J7.b
  simp only [spec_BitTop_eq, w1]
  rw [ha]
  by_cases h : top w - 20 ≤ v <;> simp [h]
 have e9 : ∀ (s : RdD) (k : Int → Int → Int → Int → RdD → List PairD → List PairD → Option α), spec_l31Rd_few_J9 N w n i a s u o k = k w n i b s u o := by
  intro s k
  rw [spec_l31Rd_few_J9.eq]
  unfold spec_l31Rd_few_J9.b
  simp only [spec_BitTop_eq, w2]
  rw [hb]
  by_cases h : a < -top w <;> simp [h]
 have w3 : IntKind.i64.wrap (b + r) = b + r := wrap_i64 (by omega) (by omega)
 have w4 : IntKind.i64.wrap (b + 1) = b + 1 := wrap_i64 (by omega) (by omega)
 refine ⟨b, if pairOk w (b, (b + r, ())) = true then (b, (b + r, ())) else (b, (b + 1, ())), ?_, fun s k => by rw [e7, e9], fun s k => ?_⟩
 ·by_cases h : pairOk w (b, (b + r, ())) = true
  ·rw [if_pos h]; exact h
  ·rw [if_neg h]
   exact pairOk_mk hw b2 (by omega) (by omega) (by omega) (by omega)
 ·rw [spec_l31Rd_few_J12.eq, w3]
  unfold spec_l31Rd_few_J12.b
  simp only [spec_PairOk_eq, w4]
  by_cases h : pairOk w (b, (b + r, ())) = true <;> simp [h]
theorem few_loop' {α : Type} (N : Nat) (w : Int) (hw : w = 32 ∨ w = 64) (n : Nat) (u : List PairD) (hN : 1048576 < N) (hn : n ≤ 8) : ∀ (d i f : Nat) (s : RdD) (c : Nat) (o : List PairD), i + d = n → d < f → RdOk c s → c + 20 * d ≤ 100000 → o.length = i → (∀ p ∈ o, pairOk w p = true) →
    ∃ (o' : List PairD) (s' : RdD), (∀ (k : RdD → List PairD → List PairD → Option α), spec_l31Rd_few_L0 N f w (n : Int) (i : Int) s u o k = k s' u o') ∧ o'.length = n ∧ ∀ p ∈ o', pairOk w p = true := by
  intro d
  induction d with
  | zero =>
    intro i f s c o h hf hs hc ho hp
    obtain ⟨f, rfl⟩ : ∃ m, f = m + 1 := ⟨f - 1, by omega⟩
    refine ⟨o, s, fun k => ?_, by omega, hp⟩
    rw [spec_l31Rd_few_L0.succ]
    unfold spec_l31Rd_few_L0r
    simp only [cast_nlt (show ¬ i < n by omega), cond_false]
  | succ d ih =>
    intro i f s c o h hf hs hc ho hp
    obtain ⟨f, rfl⟩ : ∃ m, f = m + 1 := ⟨f - 1, by omega⟩
    obtain ⟨v, s1, e1, q1, v0, v1⟩ := ord_ok N w s c hs (by omega) hN
    obtain ⟨r, s2, e2, q2, r0, r1⟩ := pick_ok N 9 s1 (c + 12) q1 (by omega)
    have r1 := r1 (by omega)
    obtain ⟨v2, q, hq, e7, e12⟩ := few_J (α := α) N w (n : Int) (i : Int) v r hw v0 v1 r0 r1 u o
    obtain ⟨o', s3, e3, h3, h4⟩ := ih (i + 1) f s2 (c + 13) (o ++ [q]) (by omega) (by omega) q2 (by omega) (by simp [ho]) (by
      intro p hp'
      rcases List.mem_append.1 hp' with h | h
      · exact hp p h
      · rw [List.mem_singleton.1 h]; exact hq)
    have hlen : decide (o.length + [q].length ≤ 8796093022208) = true := by simp; omega
    refine ⟨o', s3, fun k => ?_, h3, h4⟩
    rw [spec_l31Rd_few_L0.succ]
    unfold spec_l31Rd_few_L0r
    simp only [cast_lt (show i < n by omega), cond_true, e1, e7, e2, e12, hlen, succ_i (show i < 4611686018427387904 by omega)]
    exact e3 k
theorem fewBox_ok {α : Type} (N : Nat) (a : List Int) (ha : ∀ x ∈ a, 0 ≤ x ∧ x ≤ 255) (hN : 1048576 < N) : ∃ (w : Int) (b : List PairD), boxOk w b = true ∧ ∀ k : Int → List PairD → Option α, spec_FewBox N a k = k w b := by
 obtain ⟨s, e, q⟩ := open_ok N a ha
 obtain ⟨t, s1, e1, q1, t0, t1⟩ := pick_ok N 2 s 0 q (by omega)
 have t1 := t1 (by omega)
 obtain ⟨r, s2, e2, q2, r0, r1⟩ := pick_ok N 3 s1 1 q1 (by omega)
 have r1 := r1 (by omega)
 have w1 : IntKind.i64.wrap (1 + r) = (((1 + r).toNat : Nat) : Int) := by rw [wrap_i64 (by omega) (by omega)]; omega
 have main : ∀ w : Int, w = 32 ∨ w = 64 → ∃ b : List PairD, boxOk w b = true ∧ ∀ k : RdD → List PairD → Option α, ∃ s', spec_l31Rd_few N w s1 k = k s' b := by
  intro w hw
  obtain ⟨o, s3, e3, ho, hp⟩ := few_loop' (α := α) N w hw (1 + r).toNat [] hN (by omega) (1 + r).toNat 0 N s2 2 [] (by omega) (by omega) q2 (by omega) rfl (by simp)
  refine ⟨o, ?_, fun k => ⟨s3, ?_⟩⟩
  ·unfold boxOk
   simp only [Bool.and_eq_true, decide_eq_true_eq, List.all_eq_true]
   exact ⟨⟨by omega, by omega⟩, hp⟩
  ·rw [spec_l31Rd_few.eq]
   unfold spec_l31Rd_few.b
   simp only [e2, w1]
   exact e3 _
 obtain ⟨w, hw, hg⟩ : ∃ w : Int, (w = 32 ∨ w = 64) ∧ [(32 : Int), (64 : Int)][t.toNat]? = some w := by
  have : t = 0 ∨ t = 1 := by omega
  rcases this with rfl | rfl
  ·exact ⟨32, .inl rfl, rfl⟩
  ·exact ⟨64, .inr rfl, rfl⟩
 obtain ⟨b, hb, e3⟩ := main w hw
 refine ⟨w, b, hb, fun k => ?_⟩
 have c1 : ¬ t < 0 := by omega
 have c2 : t.toNat < [(32 : Int), (64 : Int)].length := by simp; omega
 rw [spec_FewBox.eq]
 unfold spec_FewBox.b
 simp only [e, e1, c1, decide_false, cond_false, c2, decide_true, cond_true, hg]
 obtain ⟨s', e4⟩ := e3 (fun _ x => k w x)
 exact e4
theorem top_L2 {α : Type} (N : Nat) (a : List Int) (w U P n at' kk : Int) (st told gone : List BoxD) (x : BoxD) (b : List PairD) (hx : x.1.length ≤ 6) (K : List Int → Int → Int → Int → Int → Int → Int → List BoxD → List BoxD → List BoxD → BoxD → List PairD → List PairD → Option α) : ∀ (d i f : Nat), i + d = x.1.length → d < f →
    laws_FnBitTop_L2 N f a w U P n at' kk (i : Int) st told gone x b (x.1.take i) K = K a w U P n at' kk st told gone x b x.1 := by
  intro d
  induction d with
  | zero =>
    intro i f h hf
    obtain ⟨f, rfl⟩ : ∃ m, f = m + 1 := ⟨f - 1, by omega⟩
    rw [laws_FnBitTop_L2.succ]
    unfold laws_FnBitTop_L2r
    simp only [cast_nlt (show ¬ i < x.1.length by omega), cond_false, List.take_of_length_le (show x.1.length ≤ i by omega)]
  | succ d ih =>
    intro i f h hf
    obtain ⟨f, rfl⟩ : ∃ m, f = m + 1 := ⟨f - 1, by omega⟩
    have hi : i < x.1.length := by omega
    have hl : decide ((x.1.take i).length + [x.1[i]].length ≤ 8796093022208) = true := by simp; omega
    rw [laws_FnBitTop_L2.succ]
    unfold laws_FnBitTop_L2r
    simp only [cast_lt hi, cond_true, cast_neg, cond_false, Int.toNat_natCast, List.getElem?_eq_getElem hi, hl, succ_i (show i < 4611686018427387904 by omega), ← List.take_succ_eq_append_getElem hi]
    exact ih (i + 1) f (by omega) (by omega)
theorem top_L4 {α : Type} (N : Nat) (a : List Int) (w U P n : Int) (j : Nat) (st told gone : List BoxD) (x : BoxD) (c : PairD) (b y : List PairD) (hx : x.1.length ≤ 6) (K : List Int → Int → Int → Int → Int → List BoxD → List BoxD → List BoxD → List PairD → List PairD → List PairD → Option α) : ∀ (d i f : Nat), i + d = x.1.length → d < f →
    laws_FnBitTop_L4 N f a w U P n (j : Int) (i : Int) st told gone x c b y ((x.1.set j c).take i) K = K a w U P n st told gone b y (x.1.set j c) := by
  intro d
  induction d with
  | zero =>
    intro i f h hf
    obtain ⟨f, rfl⟩ : ∃ m, f = m + 1 := ⟨f - 1, by omega⟩
    rw [laws_FnBitTop_L4.succ]
    unfold laws_FnBitTop_L4r
    simp only [cast_nlt (show ¬ i < x.1.length by omega), cond_false, List.take_of_length_le (show (x.1.set j c).length ≤ i by simp; omega)]
  | succ d ih =>
    intro i f h hf
    obtain ⟨f, rfl⟩ : ∃ m, f = m + 1 := ⟨f - 1, by omega⟩
    have hi : i < x.1.length := by omega
    have hi2 : i < (x.1.set j c).length := by simp; omega
    have hs := List.take_succ_eq_append_getElem hi2
    have hlt : ((x.1.set j c).take i).length = i := by rw [List.length_take]; omega
    have hl : ∀ q : PairD, decide (((x.1.set j c).take i).length + [q].length ≤ 8796093022208) = true := fun q => by rw [hlt]; simp; omega
    have ih' := ih (i + 1) f (by omega) (by omega)
    rw [laws_FnBitTop_L4.succ]
    unfold laws_FnBitTop_L4r
    simp only [cast_lt hi, cond_true]
    rw [laws_FnBitTop_J44.eq]
    unfold laws_FnBitTop_J44.b
    by_cases hj : i = j
    · have e : (x.1.set j c)[i] = c := by rw [List.getElem_set, if_pos hj.symm]
      have hji : (i : Int) = (j : Int) := by omega
      rw [e] at hs
      simp only [hji, decide_true, cond_true]
      simp only [← hji, hl, cond_true, ← hs, succ_i (show i < 4611686018427387904 by omega)]
      rw [hji] at *
      exact ih'
    · have e : (x.1.set j c)[i] = x.1[i] := by rw [List.getElem_set, if_neg (fun q => hj q.symm)]
      have hji : ¬ (i : Int) = (j : Int) := by omega
      rw [e] at hs
      simp only [hji, decide_false, cond_false, cast_neg, Int.toNat_natCast, List.getElem?_eq_getElem hi, hl, cond_true, ← hs, succ_i (show i < 4611686018427387904 by omega)]
      exact ih'
theorem top_J35 {α : Type} (N : Nat) (a : List Int) (w U P n kk : Int) (i : Nat) (st told gone : List BoxD) (x : BoxD) (b : List PairD) (hi : i < x.1.length) (hp : pairOk w x.1[i] = true) (K : List Int → Int → Int → Int → Int → Int → List BoxD → List BoxD → List BoxD → BoxD → PairD → List PairD → List PairD → Option α) :
    ∃ q1 q2 : PairD, ((q1 = (x.1[i].1 + 1, x.1[i].2.1, ()) ∧ q2 = (x.1[i].1, x.1[i].1 + 1, ())) ∨ (q1 = (x.1[i].1, x.1[i].2.1 - 1, ()) ∧ q2 = (x.1[i].2.1 - 1, x.1[i].2.1, ()))) ∧
      laws_FnBitTop_J35 N a w U P n (i : Int) kk st told gone x x.1[i] b x.1 K = K a w U P n (i : Int) st told gone x q2 b (x.1.set i q1) := by
  obtain ⟨hw, h1, h2, h3, h4, h5, h6⟩ := pairOk_ok hp
  have ht : top w ≤ 9218868437227405312 := (top_nonneg w).2
  have w1 : IntKind.i64.wrap (x.1[i].1 + 1) = x.1[i].1 + 1 := wrap_i64 (by omega) (by omega)
  have w2 : IntKind.i64.wrap (x.1[i].2.1 - 1) = x.1[i].2.1 - 1 := wrap_i64 (by omega) (by omega)
  rw [laws_FnBitTop_J35.eq]
  unfold laws_FnBitTop_J35.b
  simp only [cast_neg, cond_false, Int.toNat_natCast, hi, decide_true, cond_true, List.getElem?_eq_getElem hi, w1, w2]
  by_cases h : kk.tmod 8 = 0
  · refine ⟨_, _, .inl ⟨rfl, rfl⟩, ?_⟩
    simp only [h, decide_true, cond_true]
  · refine ⟨_, _, .inr ⟨rfl, rfl⟩, ?_⟩
    simp only [h, decide_false, cond_false]
theorem top_L0 {α : Type} (N : Nat) (hN : 1048576 < N) (a : List Int) (ha : ∀ x ∈ a, 0 ≤ x ∧ x ≤ 255) (w : Int) (b : List PairD) (U P : Nat) (hU : U ≤ 3000) (hP : P ≤ 1000) (k0 : Bool → Option α) (k1 : List Int → List BoxD → List BoxD → List PairD → Option α) : ∀ (d n f : Nat) (st told gone : List BoxD), n + d = U → d < f → Srch w b U P n st told gone →
    ∃ told' gone' : List BoxD, (∀ l : List Int, boxIs (pts l) b = true → ∃ x ∈ told' ++ gone', boxIs (pts l) x.1 = true) ∧ told'.length ≤ 3000 ∧ gone'.length ≤ 3000 ∧
      laws_FnBitTop_L0 N f a w (U : Int) (P : Int) (n : Int) st told gone b k0 k1 = k1 a told' gone' b := by
  intro d
  induction d with
  | zero =>
    intro n f st told gone hd hf S
    obtain ⟨f, rfl⟩ : ∃ m, f = m + 1 := ⟨f - 1, by omega⟩
    rcases List.eq_nil_or_concat st with rfl | ⟨st', x, he⟩
    · refine ⟨told, gone, fun l hl => by simpa using S.cov l hl, by have := S.lt; omega, by have := S.lg; omega, ?_⟩
      rw [laws_FnBitTop_L0.succ]
      unfold laws_FnBitTop_L0r
      simp
    · rw [List.concat_eq_append] at he
      subst he
      have := S.top.2.1
      omega
  | succ d ih =>
    intro n f st told gone hd hf S
    obtain ⟨f, rfl⟩ : ∃ m, f = m + 1 := ⟨f - 1, by omega⟩
    rcases List.eq_nil_or_concat st with rfl | ⟨st', x, he⟩
    · refine ⟨told, gone, fun l hl => by simpa using S.cov l hl, by have := S.lt; omega, by have := S.lg; omega, ?_⟩
      rw [laws_FnBitTop_L0.succ]
      unfold laws_FnBitTop_L0r
      simp
    rw [List.concat_eq_append] at he
    subst he
    obtain ⟨hok, t1, t2, t3, t4⟩ := S.top
    obtain ⟨hl1, hl2, hp⟩ := boxOk_len hok
    have slt := S.lt
    have slg := S.lg
    have hlen : (st' ++ [x]).length = st'.length + 1 := by simp
    have c0 : (0 : Int) < ((st'.length + 1 : Nat) : Int) := by omega
    have c1 : ¬ (U : Int) ≤ (n : Int) := by omega
    have c2 : ¬ (P : Int) < ((st'.length + 1 : Nat) : Int) := by omega
    have w1 : IntKind.i64.wrap (((st'.length + 1 : Nat) : Int) - 1) = ((st'.length : Nat) : Int) := by rw [wrap_i64 (by omega) (by omega)]; omega
    have c3 : st'.length < st'.length + 1 := by omega
    have hg : (st' ++ [x])[st'.length]? = some x := by simp
    have c4 : ((st'.length : Nat) : Int) ≤ ((st'.length + 1 : Nat) : Int) := by omega
    have htk : (st' ++ [x]).take st'.length = st' := by simp
    obtain ⟨j, hj, hwid⟩ : ∃ j : Nat, j < x.1.length ∧ boxWidest w x.1 = (j : Int) := by
      refine ⟨widest x.1 0 1 (x.1.drop 1), widest_lt _ _ _ (by omega) (by rw [List.length_drop]; omega), ?_⟩
      unfold boxWidest
      rw [if_pos hok]
    have c5 : ¬ ((x.1.length : Nat) : Int) ≤ (j : Int) := by omega
    obtain ⟨kk, ek, _, _⟩ := pbByte_ok N a ha n (by omega)
    have hpj := hp _ (List.getElem_mem hj)
    have hgap : gap x.1[j].1 x.1[j].2.1 = (gN x.1[j] : Int) := gN_int x.1[j]
    have wn : IntKind.i64.wrap ((n : Int) + 1) = ((n + 1 : Nat) : Int) := succ_i (by omega)
    have la : ∀ (l : List BoxD) (q : BoxD), l.length ≤ 10000 → decide (l.length + [q].length ≤ 5864062014805) = true := fun l q hl => by simp; omega
    rw [laws_FnBitTop_L0.succ]
    unfold laws_FnBitTop_L0r
    simp only [hlen, c0, c1, c2, w1, cast_neg, cast_nn, decide_true, decide_false, cond_true, cond_false, Int.toNat_natCast, c3, hg, c4, htk, impl_BoxWidest_eq N w x _ hN, hwid, c5, List.getElem?_eq_getElem hj, impl_BitGap_eq, ek, hgap, wn]
    by_cases g2 : gN x.1[j] < 2
    · have c6 : (gN x.1[j] : Int) < 2 := by omega
      simp only [c6, decide_true, cond_true, la told x (by omega)]
      exact ih (n + 1) f st' (told ++ [x]) gone (by omega) (by omega) S.toTold
    have c6 : ¬ (gN x.1[j] : Int) < 2 := by omega
    simp only [c6, decide_false, cond_false]
    by_cases k4 : kk.tmod 4 = 0
    · simp only [k4, decide_true, cond_true]
      have e2 := fun K => top_L2 (α := α) N a w (U : Int) (P : Int) (n : Int) (j : Int) kk st' told gone x b (by omega) K x.1.length 0 N (by omega) (by omega)
      simp only [List.take_zero, Int.natCast_zero] at e2
      obtain ⟨q1, q2, hq, e3⟩ := top_J35 (α := α) N a w (U : Int) (P : Int) (n : Int) kk j st' told gone x b hj hpj (fun x615 x616 x617 x618 x619 x620 x621 x622 x623 x624 x625 x626 x627 =>
        laws_FnBitTop_L4 N N x615 x616 x617 x618 x619 x620 (0 : Int) x621 x622 x623 x624 x625 x626 x627 []
          (fun x682 x683 x684 x685 x686 x687 x688 x689 x690 x691 x692 =>
            bif decide (x689.length + [(x692, ())].length ≤ 5864062014805) then bif decide (x687.length + [(x691, ())].length ≤ 5864062014805) then
              laws_FnBitTop_L0 N f x682 x683 x684 x685 (IntKind.i64.wrap (x686 + (1 : Int))) (x687 ++ [(x691, ())]) x688 (x689 ++ [(x692, ())]) x690 k0 k1 else none else none))
      have e4 := fun K => top_L4 (α := α) N a w (U : Int) (P : Int) (n : Int) j st' told gone x q2 b (x.1.set j q1) (by omega) K x.1.length 0 N (by omega) (by omega)
      simp only [List.take_zero, Int.natCast_zero] at e4
      rw [e4] at e3
      simp only [la gone _ (show gone.length ≤ 10000 by omega), la st' _ (show st'.length ≤ 10000 by omega), cond_true, wn] at e3
      simp only [e2, cast_neg, cond_false, Int.toNat_natCast, hj, decide_true, cond_true, List.getElem?_eq_getElem hj]
      obtain ⟨o1, o2, o3, o4⟩ := boxCut_ok hj hok (by omega) hq
      have := ih (n + 1) f (st' ++ [(x.1.set j q1, ())]) told (gone ++ [(x.1.set j q2, ())]) (by omega) (by omega) (S.cut o1 o2 o3 o4)
      obtain ⟨t', g', z1, z2, z3, z4⟩ := this
      exact ⟨t', g', z1, z2, z3, e3.trans z4⟩
    · simp only [k4, decide_false, cond_false]
      by_cases k1' : kk.tmod 4 = 1
      · simp only [k1', decide_true, cond_true, la gone x (show gone.length ≤ 10000 by omega)]
        exact ih (n + 1) f st' told (gone ++ [x]) (by omega) (by omega) S.toGone
      · obtain ⟨on, wait, p1, p2, p3, p4, p5, p6, p7, p8, p9, p10, p11⟩ := boxSplit_ok hj hok (by omega)
        simp only [k1', decide_false, cond_false, impl_BoxSplit_eq N w x (j : Int) _ hN, p1, Bool.not_true, impl_BoxIs_eq N (on, ()) x _ (show on.length ≤ 1048576 by omega) hN, impl_BoxIs_eq N (wait, ()) x _ (show wait.length ≤ 1048576 by omega) hN, p2, p3, la st' _ (show st'.length ≤ 10000 by omega), cond_true, la (st' ++ [(wait, ())]) _ (show (st' ++ [(wait, ())]).length ≤ 10000 by simp; omega)]
        exact ih (n + 1) f ((st' ++ [(wait, ())]) ++ [(on, ())]) told gone (by omega) (by omega) (S.split (y := (wait, ())) (z := (on, ())) p5 p4 p6 p7 p8 p9)
theorem boxIs_snoc : ∀ {a b : List PairD} {p q : PairD}, boxIs a b = true → pairIs p q = true → boxIs (a ++ [p]) (b ++ [q]) = true
  | [], [], p, q, _, h => by simp [boxIs, h]
  | x :: a, y :: b, p, q, h, h2 => by
    simp only [boxIs, Bool.and_eq_true] at h
    simp only [List.cons_append, boxIs, Bool.and_eq_true]
    exact ⟨h.1, boxIs_snoc h.2 h2⟩
  | [], _ :: _, _, _, h, _ => by simp [boxIs] at h
  | _ :: _, [], _, _, h, _ => by simp [boxIs] at h
theorem top_L8 {α : Type} (N : Nat) (a : List Int) (ha : ∀ x ∈ a, 0 ≤ x ∧ x ≤ 255) (w : Int) (b : List PairD) (hb : boxOk w b = true) (hU : uN b ≤ 3000) (t : Nat) (ht : t ≤ 5) (told gone : List BoxD) : ∀ (d i f : Nat) (l : List Int), i + d = b.length → d < f → l.length = i → boxIs (pts l) (b.take i) = true →
    ∃ l' : List Int, boxIs (pts l') b = true ∧ l'.length ≤ 6 ∧ ∀ (K : List Int → Int → List BoxD → List BoxD → List PairD → List PairD → Option α), laws_FnBitTop_L8 N f a (t : Int) (i : Int) told gone b (pts l) K = K a (t : Int) told gone b (pts l') := by
  obtain ⟨hl1, hl2, hp⟩ := boxOk_len hb
  intro d
  induction d with
  | zero =>
    intro i f l h hf hl hi
    obtain ⟨f, rfl⟩ : ∃ m, f = m + 1 := ⟨f - 1, by omega⟩
    refine ⟨l, by rwa [List.take_of_length_le (by omega)] at hi, by omega, fun K => ?_⟩
    rw [laws_FnBitTop_L8.succ]
    unfold laws_FnBitTop_L8r
    simp only [cast_nlt (show ¬ i < b.length by omega), cond_false]
  | succ d ih =>
    intro i f l h hf hl hi
    obtain ⟨f, rfl⟩ : ∃ m, f = m + 1 := ⟨f - 1, by omega⟩
    have hlt : i < b.length := by omega
    obtain ⟨hw, h1, h2, h3, h4, h5, h6⟩ := pairOk_ok (hp _ (List.getElem_mem hlt))
    have htp : top w ≤ 9218868437227405312 := (top_nonneg w).2
    have hg : gN b[i] ≤ 800 := by
      obtain ⟨R, r1, r2, _⟩ := uN_set b i hlt
      have : 1 * u1 b[i] ≤ R * u1 b[i] := Nat.mul_le_mul_right _ r1
      have e : 4 * gN b[i] - 1 ≤ u1 b[i] := by unfold u1; split <;> omega
      omega
    have hgi := gN_int b[i]
    have w1 : IntKind.i64.wrap ((3 : Int) * (t : Int)) = ((3 * t : Nat) : Int) := by rw [wrap_i64 (by omega) (by omega)]; omega
    have w2 : IntKind.i64.wrap (((3 * t : Nat) : Int) + (i : Int)) = ((3 * t + i : Nat) : Int) := by rw [wrap_i64 (by omega) (by omega)]; omega
    obtain ⟨v, ev, v0, v1⟩ := pbByte_ok N a ha (3 * t + i) (by omega)
    have w3 : IntKind.i64.wrap (b[i].2.1 - b[i].1) = (gN b[i] : Int) := by rw [wrap_i64 (by omega) (by omega)]; omega
    have w4 : IntKind.i64.wrap ((gN b[i] : Int) + 1) = (gN b[i] : Int) + 1 := wrap_i64 (by omega) (by omega)
    have z : ¬ (gN b[i] : Int) + 1 = 0 := by omega
    obtain ⟨m1, m2⟩ := tmod_lt (x := v) (n := (gN b[i] : Int) + 1) v0 (by omega)
    have w5 : IntKind.i64.wrap (b[i].1 + v.tmod ((gN b[i] : Int) + 1)) = b[i].1 + v.tmod ((gN b[i] : Int) + 1) := wrap_i64 (by omega) (by omega)
    obtain ⟨u, hu⟩ : ∃ u, u = b[i].1 + v.tmod ((gN b[i] : Int) + 1) := ⟨_, rfl⟩
    rw [← hu] at w5
    have hpts : pts l ++ [(u, u, ())] = pts (l ++ [u]) := by simp [pts]
    have hll : decide ((pts l).length + [(u, u, ())].length ≤ 8796093022208) = true := by simp [pts]; omega
    obtain ⟨l', z1, z2, z3⟩ := ih (i + 1) f (l ++ [u]) (by omega) (by omega) (by simp [hl]) (by
      rw [List.take_succ_eq_append_getElem hlt, ← hpts]
      exact boxIs_snoc hi (pairIs_pt.2 ⟨by omega, by omega⟩))
    refine ⟨l', z1, z2, fun K => ?_⟩
    rw [laws_FnBitTop_L8.succ]
    unfold laws_FnBitTop_L8r
    simp only [cast_lt hlt, cond_true, cast_neg, cond_false, Int.toNat_natCast, hlt, decide_true, List.getElem?_eq_getElem hlt, w1, w2, ev, w3, w4, z, decide_false, ← hu, w5, hll, hpts, succ_i (show i < 4611686018427387904 by omega)]
    exact z3 K
theorem top_L10 {α : Type} (N : Nat) (hN : 1048576 < N) (a : List Int) (t : Int) (told gone : List BoxD) (b p : List PairD) (hl : told.length ≤ 3000) (hp : p.length ≤ 6) (K : List Int → Int → Bool → List BoxD → List BoxD → List PairD → List PairD → Option α) : ∀ (d i f : Nat) (y : Bool), i + d = told.length → d < f →
    laws_FnBitTop_L10 N f a t y (i : Int) told gone b p K = K a t (y || (told.drop i).any fun x => boxIs p x.1) told gone b p := by
  intro d
  induction d with
  | zero =>
    intro i f y h hf
    obtain ⟨f, rfl⟩ : ∃ m, f = m + 1 := ⟨f - 1, by omega⟩
    rw [laws_FnBitTop_L10.succ]
    unfold laws_FnBitTop_L10r
    simp only [cast_nlt (show ¬ i < told.length by omega), cond_false, List.drop_of_length_le (show told.length ≤ i by omega), List.any_nil, Bool.or_false]
  | succ d ih =>
    intro i f y h hf
    obtain ⟨f, rfl⟩ : ∃ m, f = m + 1 := ⟨f - 1, by omega⟩
    have hi : i < told.length := by omega
    have e := List.drop_eq_getElem_cons hi
    rw [laws_FnBitTop_L10.succ]
    unfold laws_FnBitTop_L10r
    cases y
    · simp only [cast_lt hi, cond_true, cond_false, cast_neg, Int.toNat_natCast, hi, decide_true, List.getElem?_eq_getElem hi, impl_BoxIs_eq N (p, ()) told[i] _ (show p.length ≤ 1048576 by omega) hN, succ_i (show i < 4611686018427387904 by omega)]
      rw [e, List.any_cons, Bool.false_or]
      exact ih (i + 1) f _ (by omega) (by omega)
    · simp only [cast_lt hi, cond_true, succ_i (show i < 4611686018427387904 by omega)]
      refine (ih (i + 1) f true (by omega) (by omega)).trans ?_
      simp only [Bool.true_or]
theorem top_L12 {α : Type} (N : Nat) (hN : 1048576 < N) (a : List Int) (t : Int) (told gone : List BoxD) (b p : List PairD) (hl : gone.length ≤ 3000) (hp : p.length ≤ 6) (K : List Int → Int → Bool → List BoxD → List BoxD → List PairD → Option α) : ∀ (d i f : Nat) (y : Bool), i + d = gone.length → d < f →
    laws_FnBitTop_L12 N f a t y (i : Int) told gone b p K = K a t (y || (gone.drop i).any fun x => boxIs p x.1) told gone b := by
  intro d
  induction d with
  | zero =>
    intro i f y h hf
    obtain ⟨f, rfl⟩ : ∃ m, f = m + 1 := ⟨f - 1, by omega⟩
    rw [laws_FnBitTop_L12.succ]
    unfold laws_FnBitTop_L12r
    simp only [cast_nlt (show ¬ i < gone.length by omega), cond_false, List.drop_of_length_le (show gone.length ≤ i by omega), List.any_nil, Bool.or_false]
  | succ d ih =>
    intro i f y h hf
    obtain ⟨f, rfl⟩ : ∃ m, f = m + 1 := ⟨f - 1, by omega⟩
    have hi : i < gone.length := by omega
    have e := List.drop_eq_getElem_cons hi
    rw [laws_FnBitTop_L12.succ]
    unfold laws_FnBitTop_L12r
    cases y
    · simp only [cast_lt hi, cond_true, cond_false, cast_neg, Int.toNat_natCast, hi, decide_true, List.getElem?_eq_getElem hi, impl_BoxIs_eq N (p, ()) gone[i] _ (show p.length ≤ 1048576 by omega) hN, succ_i (show i < 4611686018427387904 by omega)]
      rw [e, List.any_cons, Bool.false_or]
      exact ih (i + 1) f _ (by omega) (by omega)
    · simp only [cast_lt hi, cond_true, succ_i (show i < 4611686018427387904 by omega)]
      refine (ih (i + 1) f true (by omega) (by omega)).trans ?_
      simp only [Bool.true_or]
theorem top_L6 {α : Type} (N : Nat) (hN : 1048576 < N) (a : List Int) (ha : ∀ x ∈ a, 0 ≤ x ∧ x ≤ 255) (w : Int) (b : List PairD) (hb : boxOk w b = true) (hU : uN b ≤ 3000) (told gone : List BoxD) (hl1 : told.length ≤ 3000) (hl2 : gone.length ≤ 3000)
    (hc : ∀ l : List Int, boxIs (pts l) b = true → ∃ x ∈ told ++ gone, boxIs (pts l) x.1 = true) (k0 : Bool → Option α) (k1 : Option α) : ∀ (d t f : Nat), t + d = 5 → d < f → laws_FnBitTop_L6 N f a (t : Int) told gone b k0 k1 = k1 := by
  obtain ⟨q1, q2, _⟩ := boxOk_len hb
  intro d
  induction d with
  | zero =>
    intro t f h hf
    obtain ⟨f, rfl⟩ : ∃ m, f = m + 1 := ⟨f - 1, by omega⟩
    have c : ¬ (t : Int) < 5 := by omega
    rw [laws_FnBitTop_L6.succ]
    unfold laws_FnBitTop_L6r
    simp only [c, decide_false, cond_false]
  | succ d ih =>
    intro t f h hf
    obtain ⟨f, rfl⟩ : ∃ m, f = m + 1 := ⟨f - 1, by omega⟩
    have c : (t : Int) < 5 := by omega
    obtain ⟨l, z1, z2, z3⟩ := top_L8 (α := α) N a ha w b hb hU t (by omega) told gone b.length 0 N [] (by omega) (by omega) rfl rfl
    have hpl : (pts l).length ≤ 6 := by simp [pts]; omega
    have e10 := fun K => top_L10 (α := α) N hN a (t : Int) told gone b (pts l) hl1 hpl K told.length 0 N false (by omega) (by omega)
    have e12 := fun K y => top_L12 (α := α) N hN a (t : Int) told gone b (pts l) hl2 hpl K gone.length 0 N y (by omega) (by omega)
    have hin : (false || (told.drop 0).any fun x => boxIs (pts l) x.1) || (gone.drop 0).any fun x => boxIs (pts l) x.1 := by
      obtain ⟨x, hx, e⟩ := hc l z1
      simp only [List.drop_zero, Bool.false_or, Bool.or_eq_true, List.any_eq_true]
      rcases List.mem_append.1 hx with h | h
      · exact .inl ⟨x, h, e⟩
      · exact .inr ⟨x, h, e⟩
    have hpn : pts [] = [] := rfl
    rw [hpn] at z3
    simp only [Int.natCast_zero] at z3 e10 e12
    rw [laws_FnBitTop_L6.succ]
    unfold laws_FnBitTop_L6r
    simp only [c, decide_true, cond_true, z3, e10, e12, hin, Bool.not_true, cond_false, succ_i (show t < 4611686018427387904 by omega)]
    exact ih (t + 1) f (by omega) (by omega)
theorem pure_FnBitTop (x0 : List Int) (x1 : List Int) (z0 : wfD (.sl (.int .u8)) x0) (z1 : wfD (.sl (.int .u8)) x1) : ∃ N, laws_FnBitTop N x0 x1 some = some true := by
  refine ⟨1048577, ?_⟩
  have hN : 1048576 < 1048577 := by omega
  generalize 1048577 = N at *
  rw [laws_FnBitTop.eq]
  unfold laws_FnBitTop.b
  by_cases h0 : (1048576 : Int) < ((x0.length : Nat) : Int)
  · simp [h0]
  by_cases h1 : (1048576 : Int) < ((x1.length : Nat) : Int)
  · simp [h0, h1]
  obtain ⟨w, b, hb, e⟩ := fewBox_ok (α := Bool) N x0 (bytes_wf z0) hN
  obtain ⟨l1, l2, hp⟩ := boxOk_len hb
  have hbu : boxUnits w b = unitsFold 1 b := by unfold boxUnits; rw [if_pos hb]
  have hbp : boxPath w b = ((1 + bN b : Nat) : Int) := by unfold boxPath; rw [if_pos hb, path_exact]
  have hu1 : ∀ (r : List PairD) (n : Int), 1 ≤ n → n ≤ 1000000000 → 1 ≤ unitsFold n r := by
    intro r
    induction r with
    | nil => intro n h _; exact h
    | cons p r ih =>
      intro n h h2
      have := units_step h h2 p
      exact ih _ this.1 this.2
  have hge := hu1 b 1 (by omega) (by omega)
  simp only [h0, h1, decide_false, cond_false, e, impl_BoxUnits_eq N w (b, ()) _ hN, impl_BoxPath_eq N w (b, ()) _ hN, spec_BoxUnits_eq N w (b, ()) _ hN, spec_BoxPath_eq N w (b, ()) _ hN, decide_true, Bool.not_true, hbu, hbp]
  have c1 : ¬ unitsFold 1 b < 1 := by omega
  simp only [c1, decide_false, cond_false]
  by_cases hu : (3000 : Int) < unitsFold 1 b
  · simp [hu]
  have hx := units_exact b 1 (by omega) (by omega)
  rw [Int.one_mul] at hx
  have hU : uN b ≤ 3000 := by omega
  have hB : bN b ≤ 500 := by
    have : ∀ r : List PairD, bN r ≤ 64 * r.length := by
      intro r
      induction r with
      | nil => simp [bN]
      | cons p r ih =>
        have := @blen_le (gN p)
        have e : bN (p :: r) = blen (gN p) + bN r := rfl
        rw [e, List.length_cons]; omega
    have := this b
    omega
  have hla : decide (([] : List BoxD).length + [(b, ())].length ≤ 5864062014805) = true := by simp
  have S : Srch w b (uN b) (1 + bN b) 0 [(b, ())] [] [] := by
    refine ⟨fun x hx => by rw [List.mem_singleton.1 hx]; exact hb, by simp [sumU], fun i x hx => ?_, fun l hl => ⟨(b, ()), by simp, hl⟩, by simp, by simp⟩
    cases i with
    | zero => simp at hx; subst hx; simp
    | succ i => simp at hx
  simp only [hx, show ¬ (3000 : Int) < ((uN b : Nat) : Int) by omega, decide_false, cond_false, hla, cond_true, List.nil_append]
  obtain ⟨told, gone, hc, t1, t2, e0⟩ := top_L0 (α := Bool) N hN x1 (bytes_wf z1) w b (uN b) (1 + bN b) hU (by omega) (fun x => some x) (fun x795 x796 x797 x798 => laws_FnBitTop_L6 N N x795 (0 : Int) x796 x797 x798 (fun x => some x) (some true)) (uN b) 0 N [(b, ())] [] [] (by omega) (by omega) S
  have e6 := top_L6 (α := Bool) N hN x1 (bytes_wf z1) w b hb hU told gone t1 t2 hc (fun x => some x) (some true) 5 0 N (by omega) (by omega)
  simp only [Int.natCast_zero] at e0 e6
  rw [e6] at e0
  exact e0
end Go.Proofs.YtbaeipjjijdgiaaAm
