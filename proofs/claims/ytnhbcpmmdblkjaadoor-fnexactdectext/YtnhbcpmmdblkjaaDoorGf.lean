/-
  Decimals of fractions: what both texts write; the law.
-/
import Derived.Test.YtnhbcpmmdblkjaaDoorGd
namespace Go.Proofs.YtnhbcpmmdblkjaaDoorAm
open Go
set_option linter.unusedVariables false
set_option linter.unusedSimpArgs false

def padK (k : Nat) (l : List UInt8) : List UInt8 := List.replicate (k + 1 - l.length) 48 ++ l
def dotK (k : Nat) (l : List UInt8) : List UInt8 := if k = 0 then l else l.take (l.length - k) ++ 46 :: l.drop (l.length - k)
def decK (k q : Nat) : List UInt8 := dotK k (padK k (Go.Lib.decDigits q))
theorem padK_len (k : Nat) (l : List UInt8) : (padK k l).length = max (k + 1) l.length := by
  unfold padK; simp; omega
theorem padK_zero {l : List UInt8} (h : 0 < l.length) : padK 0 l = l := by
  unfold padK
  rw [show 0 + 1 - l.length = 0 by omega]; rfl
theorem all_rep (n : Nat) : (List.replicate n (48 : UInt8)).all isDig = true := by
  rw [List.all_eq_true]
  intro x hx
  rw [(List.mem_replicate.1 hx).2]; rfl
theorem padK_dig {k q : Nat} : (padK k (Go.Lib.decDigits q)).all isDig = true := by
  unfold padK
  rw [List.all_append, all_rep, (dec_read q).2.1]; rfl
theorem big_len {q : Nat} (h : 65536 ^ 256 ≤ q) : 60 < (Go.Lib.decDigits q).length := by
  rw [Go.Lib.decDigits_length]
  have h1 := Go.Lib.lt_pow_nDigits q
  apply Classical.byContradiction
  intro hc
  have h2 : 10 ^ Go.Lib.nDigits q ≤ 10 ^ 60 := Nat.pow_le_pow_right (by omega) (by omega)
  have h3 : 10 ^ 60 ≤ 65536 ^ 60 := Nat.pow_le_pow_left (by omega) 60
  have h4 : 65536 ^ 60 ≤ 65536 ^ 256 := pow_up (by omega)
  omega
theorem digits_loop {α : Type} (N : Nat) (p v r : List UInt8) (hv : v.all isDig = true) (hr : r = [] ∨ ∃ c s, r = c :: s ∧ isDig c = false) (hb : (p ++ (v ++ r)).length ≤ 100000) (k : Int → Option α) : ∀ (d n f : Nat), n + d = v.length → d < f →
    spec_l7Digits_L0 N f (BA (p ++ (v ++ r))) (p.length : Int) (n : Int) k = k (v.length : Int) := by
  have hl : (p ++ (v ++ r)).length = p.length + (v.length + r.length) := by simp
  intro d
  induction d with
  | zero =>
    intro n f h hf
    obtain ⟨f, rfl⟩ : ∃ m, f = m + 1 := ⟨f - 1, by omega⟩
    have hn : n = v.length := by omega
    subst hn
    have w1 : IntKind.i64.wrap ((p.length : Int) + (v.length : Int)) = ((p.length + v.length : Nat) : Int) := by rw [wrap_i64 (by omega) (by omega)]; omega
    rw [spec_l7Digits_L0.succ]
    unfold spec_l7Digits_L0r
    simp only [w1, BA_size, cast_neg, cond_false, Int.toNat_natCast, BA_get]
    rcases hr with rfl | ⟨c, s, rfl, hc⟩
    · have : ¬ p.length + v.length < (p ++ (v ++ [])).length := by simp
      simp only [cast_nlt this, cond_false]
    · have hi : p.length + v.length < (p ++ (v ++ c :: s)).length := by simp
      have hg : (p ++ (v ++ c :: s))[p.length + v.length]? = some c := by
        rw [List.getElem?_append_right (by omega), List.getElem?_append_right (by omega)]
        simp
      simp only [cast_lt hi, cond_true, hg]
      rcases dig_not hc with q | ⟨q, q'⟩
      · have : ¬ (48 : Int) ≤ ((c.toNat : Nat) : Int) := by omega
        simp only [this, decide_false, cond_false]
      · have a1 : (48 : Int) ≤ ((c.toNat : Nat) : Int) := by omega
        have a2 : ¬ ((c.toNat : Nat) : Int) ≤ 57 := by omega
        simp only [a1, a2, decide_true, decide_false, cond_true, cond_false]
  | succ d ih =>
    intro n f h hf
    obtain ⟨f, rfl⟩ : ∃ m, f = m + 1 := ⟨f - 1, by omega⟩
    have hn : n < v.length := by omega
    have w1 : IntKind.i64.wrap ((p.length : Int) + (n : Int)) = ((p.length + n : Nat) : Int) := by rw [wrap_i64 (by omega) (by omega)]; omega
    have hi : p.length + n < (p ++ (v ++ r)).length := by omega
    have hg : (p ++ (v ++ r))[p.length + n]? = some v[n] := by
      rw [List.getElem?_append_right (by omega), List.getElem?_append_left (by omega), show p.length + n - p.length = n by omega, List.getElem?_eq_getElem hn]
    have hd := isDig_ok (List.all_eq_true.1 hv _ (List.getElem_mem hn))
    have a1 : (48 : Int) ≤ ((v[n].toNat : Nat) : Int) := by omega
    have a2 : ((v[n].toNat : Nat) : Int) ≤ 57 := by omega
    rw [spec_l7Digits_L0.succ]
    unfold spec_l7Digits_L0r
    simp only [w1, BA_size, cast_neg, cond_false, Int.toNat_natCast, BA_get, cast_lt hi, cond_true, hg, a1, a2, decide_true, succ_i (show n < 4611686018427387904 by omega)]
    exact ih (n + 1) f (by omega) (by omega)
theorem digits_eq {α : Type} (N : Nat) (p v r : List UInt8) (hv : v.all isDig = true) (hr : r = [] ∨ ∃ c s, r = c :: s ∧ isDig c = false) (hb : (p ++ (v ++ r)).length ≤ 100000) (k : Int → Option α) (hN : 1048576 < N) :
    spec_l7Digits N (BA (p ++ (v ++ r))) (p.length : Int) k = k (v.length : Int) := by
  have hl : (p ++ (v ++ r)).length = p.length + (v.length + r.length) := by simp
  rw [spec_l7Digits.eq]
  unfold spec_l7Digits.b
  exact digits_loop N p v r hv hr hb (fun x => k x) v.length 0 N (by omega) (by omega)
theorem decOk_plain {α : Type} (N : Nat) (v : List UInt8) (hv : v.all isDig = true) (h0 : 0 < v.length) (hz : 1 < v.length → v[0]? ≠ some 48) (hb : v.length ≤ 100000) (k : Bool → Option α) (hN : 1048576 < N) : spec_DecOk N (BA v) k = k (decide (v.length ≤ 60)) := by
  rw [spec_DecOk.eq]
  unfold spec_DecOk.b
  rw [spec_l7Parts.eq]
  unfold spec_l7Parts.b
  simp only [BA_size]
  by_cases h60 : 60 < v.length
  · have c : (60 : Int) < ((v.length : Nat) : Int) := by omega
    have c2 : ¬ v.length ≤ 60 := by omega
    simp [c, c2]
  have c : ¬ (60 : Int) < ((v.length : Nat) : Int) := by omega
  have c2 : v.length ≤ 60 := by omega
  have hd := fun K => digits_eq (α := α) N [] v [] hv (.inl rfl) (by simpa using hb) K hN
  simp only [List.nil_append, List.append_nil, List.length_nil, Int.natCast_zero] at hd
  have n0 : ¬ ((v.length : Nat) : Int) = 0 := by omega
  have hle : ((v.length : Nat) : Int) ≤ ((v.length : Nat) : Int) := Int.le_refl _
  have hlt : ¬ ((v.length : Nat) : Int) < ((v.length : Nat) : Int) := by omega
  have hg : v[0]? = some v[0] := List.getElem?_eq_getElem h0
  have tailK : ∀ (w : ByteArray) (K0 : ByteArray → Int → Int → Bool → Option α) (K1 : ByteArray → ByteArray → Int → Int → Option α), spec_l7Parts_J9 N (BA v) w 0 ((v.length : Nat) : Int) K0 K1 = K1 (BA v) w 0 ((v.length : Nat) : Int) := by
    intro w K0 K1
    rw [spec_l7Parts_J9.eq]
    unfold spec_l7Parts_J9.b
    simp only [BA_size, hlt, decide_false, cond_false]
  have tailJ : ∀ (w : ByteArray) (K0 : ByteArray → Int → Int → Bool → Option α) (K1 : ByteArray → ByteArray → Int → Int → Int → Option α), spec_l7Parts_J16 N (BA v) w 0 ((v.length : Nat) : Int) 0 K0 K1 = K1 (BA v) w 0 ((v.length : Nat) : Int) 0 := by
    intro w K0 K1
    rw [spec_l7Parts_J16.eq]
    unfold spec_l7Parts_J16.b
    simp only [BA_size, hlt, decide_false, cond_false]
  simp only [c, decide_false, cond_false, hd, n0, cast_nn, cond_true, hle, decide_true, tailK, tailJ, BA_size, c2]
  by_cases h1 : 1 < v.length
  · have c1 : (1 : Int) < ((v.length : Nat) : Int) := by omega
    have hne : ¬ ((v[0].toNat : Nat) : Int) = 48 := by
      intro q
      have : v[0].toNat = 48 := by omega
      exact hz h1 (by rw [hg, ← UInt8.ofNat_toNat (x := v[0]), this]; rfl)
    simp only [c1, decide_true, cond_true, BA_get, hg, hne, decide_false, cond_false]
  · have c1 : ¬ (1 : Int) < ((v.length : Nat) : Int) := by omega
    simp only [c1, decide_false, cond_false]
theorem decOk_dot {α : Type} (N : Nat) (v e : List UInt8) (hv : v.all isDig = true) (he : e.all isDig = true) (h0 : 0 < v.length) (he0 : 0 < e.length) (hz : 1 < v.length → v[0]? ≠ some 48) (hb : (v ++ 46 :: e).length ≤ 100000) (k : Bool → Option α) (hN : 1048576 < N) : spec_DecOk N (BA (v ++ 46 :: e)) k = k (decide ((v ++ 46 :: e).length ≤ 60)) := by
  have hl : (v ++ 46 :: e).length = v.length + 1 + e.length := by simp; omega
  obtain ⟨t, ht⟩ : ∃ t, t = v ++ 46 :: e := ⟨_, rfl⟩
  have d1 := fun K => digits_eq (α := α) N [] v (46 :: e) hv (.inr ⟨46, e, rfl, rfl⟩) (by simpa using hb) K hN
  have d2 := fun K => digits_eq (α := α) N (v ++ [46]) e [] he (.inl rfl) (by simpa using hb) K hN
  simp only [List.nil_append, List.append_nil, List.length_nil, Int.natCast_zero, List.append_assoc, List.cons_append, List.length_append, List.length_cons, Nat.zero_add] at d1 d2
  rw [← ht] at d1 d2 hl ⊢
  have g46 : t[v.length]? = some 46 := by rw [ht, List.getElem?_append_right (by omega)]; simp
  have g0 : t[0]? = some v[0] := by rw [ht, List.getElem?_append_left h0, List.getElem?_eq_getElem h0]
  rw [spec_DecOk.eq]
  unfold spec_DecOk.b
  rw [spec_l7Parts.eq]
  unfold spec_l7Parts.b
  simp only [BA_size]
  by_cases h60 : 60 < t.length
  · have c : (60 : Int) < ((t.length : Nat) : Int) := by omega
    have c2 : ¬ t.length ≤ 60 := by omega
    simp [c, c2]
  have c : ¬ (60 : Int) < ((t.length : Nat) : Int) := by omega
  have c2 : t.length ≤ 60 := by omega
  have n0 : ¬ ((v.length : Nat) : Int) = 0 := by omega
  have hle : ((v.length : Nat) : Int) ≤ ((t.length : Nat) : Int) := by omega
  have hlt : ((v.length : Nat) : Int) < ((t.length : Nat) : Int) := by omega
  have w1 : IntKind.i64.wrap (((v.length : Nat) : Int) + 1) = ((v.length + 1 : Nat) : Int) := succ_i (by omega)
  have w2 : IntKind.i64.wrap (((v.length + 1 : Nat) : Int) + ((e.length : Nat) : Int)) = ((t.length : Nat) : Int) := by rw [wrap_i64 (by omega) (by omega)]; omega
  have m0 : ¬ ((e.length : Nat) : Int) = 0 := by omega
  have c46 : (((46 : UInt8).toNat : Nat) : Int) = 46 := rfl
  have tailK : ∀ (w : List UInt8), w.length ≤ 100000 → ∀ (K0 : ByteArray → Int → Int → Bool → Option α) (K1 : ByteArray → ByteArray → Int → Int → Option α), ∃ w', spec_l7Parts_J9 N (BA t) (BA w) 0 ((v.length : Nat) : Int) K0 K1 = K1 (BA t) w' ((e.length : Nat) : Int) ((t.length : Nat) : Int) := by
    intro w hw K0 K1
    have hle2 : ((t.length : Nat) : Int) ≤ ((t.length : Nat) : Int) := Int.le_refl _
    have hle3 : ((v.length + 1 : Nat) : Int) ≤ ((t.length : Nat) : Int) := by omega
    have hsz : w.length + ((BA t).extract (v.length + 1) t.length).size ≤ 9223372036854775807 := by
      rw [BA_extract, BA_size, List.length_take, List.length_drop]; omega
    refine ⟨BA w ++ (BA t).extract (v.length + 1) t.length, ?_⟩
    rw [spec_l7Parts_J9.eq]
    unfold spec_l7Parts_J9.b
    simp only [BA_size, hlt, decide_true, cond_true, cast_neg, cond_false, Int.toNat_natCast, BA_get, g46, c46, w1, d2, m0, decide_false, w2, cast_nn, hle2, hle3, hsz]
  have tailJ : ∀ (w : ByteArray) (m : Int) (K0 : ByteArray → Int → Int → Bool → Option α) (K1 : ByteArray → ByteArray → Int → Int → Int → Option α), spec_l7Parts_J16 N (BA t) w m ((t.length : Nat) : Int) 0 K0 K1 = K1 (BA t) w m ((t.length : Nat) : Int) 0 := by
    intro w m K0 K1
    have hlt : ¬ ((t.length : Nat) : Int) < ((t.length : Nat) : Int) := by omega
    rw [spec_l7Parts_J16.eq]
    unfold spec_l7Parts_J16.b
    simp only [BA_size, hlt, decide_false, cond_false]
  simp only [c, decide_false, cond_false, d1, n0, cast_nn, cond_true, hle, decide_true, c2, BA_upto, Int.toNat_natCast]
  have hw : (t.take v.length).length ≤ 100000 := by rw [List.length_take]; omega
  have done : ∀ (K0 : ByteArray → Int → Int → Bool → Option α), spec_l7Parts_J9 N (BA t) (BA (t.take v.length)) 0 ((v.length : Nat) : Int) K0 (fun x550 x551 x552 x553 => spec_l7Parts_J16 N x550 x551 x552 x553 (0 : Int) (fun x760 x761 x762 x763 => k x763) (fun x764 x765 x766 x767 x768 => k (decide (x767 = ((x764.size : Nat) : Int))))) = k true := by
    intro K0
    obtain ⟨w', e'⟩ := tailK (t.take v.length) hw K0 (fun x550 x551 x552 x553 => spec_l7Parts_J16 N x550 x551 x552 x553 (0 : Int) (fun x760 x761 x762 x763 => k x763) (fun x764 x765 x766 x767 x768 => k (decide (x767 = ((x764.size : Nat) : Int)))))
    rw [e', tailJ, BA_size]
    simp
  by_cases h1 : 1 < v.length
  · have c1 : (1 : Int) < ((v.length : Nat) : Int) := by omega
    have hne : ¬ ((v[0].toNat : Nat) : Int) = 48 := by
      intro q
      have : v[0].toNat = 48 := by omega
      exact hz h1 (by rw [List.getElem?_eq_getElem h0, ← UInt8.ofNat_toNat (x := v[0]), this]; rfl)
    simp only [c1, decide_true, cond_true, BA_get, g0, hne, decide_false, cond_false]
    exact done _
  · have c1 : ¬ (1 : Int) < ((v.length : Nat) : Int) := by omega
    simp only [c1, decide_false, cond_false]
    exact done _
theorem decOk_decK {α : Type} (N k q : Nat) (hk : k ≤ 60) (hq : (Go.Lib.decDigits q).length ≤ 90000) (K : Bool → Option α) (hN : 1048576 < N) : spec_DecOk N (BA (decK k q)) K = K (decide ((decK k q).length ≤ 60)) := by
  obtain ⟨d1, d2, d3, d4⟩ := dec_read q
  have hlen := padK_len k (Go.Lib.decDigits q)
  have hdig := padK_dig (k := k) (q := q)
  by_cases h0 : k = 0
  · subst h0
    have e : decK 0 q = Go.Lib.decDigits q := by unfold decK dotK; rw [if_pos rfl, padK_zero d4]
    rw [e]
    refine decOk_plain N _ d2 d4 ?_ (by omega) K hN
    intro h1
    refine d3 ?_
    rintro rfl
    rw [dec_small (show 0 < 10 by omega)] at h1; simp at h1
  · unfold decK dotK
    rw [if_neg h0]
    generalize hs : padK k (Go.Lib.decDigits q) = s at *
    have hal : ∀ i, (s.take i).all isDig = true := fun i => by
      rw [List.all_eq_true]; intro x hx; exact List.all_eq_true.1 hdig x (List.mem_of_mem_take hx)
    have had : ∀ i, (s.drop i).all isDig = true := fun i => by
      rw [List.all_eq_true]; intro x hx; exact List.all_eq_true.1 hdig x (List.mem_of_mem_drop hx)
    refine decOk_dot N _ _ (hal _) (had _) (by rw [List.length_take]; omega) (by rw [List.length_drop]; omega) ?_ (by simp; omega) K hN
    intro h1
    rw [List.length_take] at h1
    have hgt : k + 1 < (Go.Lib.decDigits q).length := by omega
    have hs2 : s = Go.Lib.decDigits q := by
      rw [← hs]; unfold padK
      rw [show k + 1 - (Go.Lib.decDigits q).length = 0 by omega]; rfl
    rw [List.getElem?_take_of_lt (by omega), hs2]
    refine d3 ?_
    rintro rfl
    rw [dec_small (show 0 < 10 by omega)] at hgt; simp at hgt
theorem spec_pad {α : Type} (N : Nat) (k : Nat) (hk : k ≤ 60) (K : Int → ByteArray → Option α) : ∀ (d f : Nat) (s : List UInt8), d = k + 1 - s.length → d < f → s.length ≤ 90000 → spec_DecText_L2 N f (k : Int) (BA s) K = K (k : Int) (BA (List.replicate d 48 ++ s)) := by
  intro d
  induction d with
  | zero =>
    intro f s h hf hs
    obtain ⟨f, rfl⟩ : ∃ m, f = m + 1 := ⟨f - 1, by omega⟩
    have c : ¬ ((s.length : Nat) : Int) ≤ (k : Int) := by omega
    rw [spec_DecText_L2.succ]
    unfold spec_DecText_L2r
    simp only [BA_size, c, decide_false, cond_false]
    rfl
  | succ d ih =>
    intro f s h hf hs
    obtain ⟨f, rfl⟩ : ∃ m, f = m + 1 := ⟨f - 1, by omega⟩
    have c : ((s.length : Nat) : Int) ≤ (k : Int) := by omega
    have b48 : (⟨#[48]⟩ : ByteArray) = BA [48] := rfl
    have c2 : (BA [48]).size + s.length ≤ 9223372036854775807 := by rw [BA_size]; simp; omega
    rw [spec_DecText_L2.succ]
    unfold spec_DecText_L2r
    simp only [BA_size, c, decide_true, cond_true, b48, BA_append]
    have c3 : [(48 : UInt8)].length + s.length ≤ 9223372036854775807 := by simp; omega
    simp only [c3, decide_true, cond_true]
    have := ih f ([48] ++ s) (by simp; omega) (by omega) (by simp; omega)
    rw [this]
    congr 2
    rw [List.replicate_succ']
    simp
theorem spec_dot {α : Type} (N : Nat) (k : Nat) (s : List UInt8) (hs : k < s.length) (hs2 : s.length ≤ 90000) (K : ByteArray → Option α) : spec_DecText_J13 N (k : Int) (BA s) K = K (BA (dotK k s)) := by
  rw [spec_DecText_J13.eq]
  unfold spec_DecText_J13.b dotK
  by_cases h0 : k = 0
  · subst h0
    simp
  · have c : (0 : Int) < (k : Int) := by omega
    have w1 : IntKind.i64.wrap (((s.length : Nat) : Int) - (k : Int)) = ((s.length - k : Nat) : Int) := by rw [wrap_i64 (by omega) (by omega)]; omega
    have c1 : ((s.length - k : Nat) : Int) ≤ ((s.length : Nat) : Int) := by omega
    have b46 : (⟨#[46]⟩ : ByteArray) = BA [46] := rfl
    have hf : (BA s).extract (s.length - k) s.length = BA (s.drop (s.length - k)) := by have := BA_from s (s.length - k); rwa [BA_size] at this
    have c2 : (s.take (s.length - k)).length + [(46 : UInt8)].length ≤ 9223372036854775807 := by rw [List.length_take]; simp; omega
    have c3 : (s.take (s.length - k) ++ [(46 : UInt8)]).length + (s.drop (s.length - k)).length ≤ 9223372036854775807 := by rw [List.length_append, List.length_take, List.length_drop]; simp; omega
    simp only [c, decide_true, cond_true, BA_size, w1, cast_nn, c1, Int.toNat_natCast, BA_upto, b46, c2, BA_append, hf, c3, h0, if_false, List.append_assoc, List.cons_append, List.nil_append]
theorem impl_dot {α : Type} (N : Nat) (k : Nat) (hk : k ≤ 60) (s : List UInt8) (hs0 : 0 < s.length) (hs2 : s.length ≤ 80000) (K : ByteArray → Option α) : impl_DecText_J11 N (k : Int) (BA s) K = K (BA (dotK k (padK k s))) := by
  have hl := padK_len k s
  rw [impl_DecText_J11.eq]
  unfold impl_DecText_J11.b dotK
  by_cases h0 : k = 0
  · subst h0
    rw [if_pos rfl, padK_zero hs0]
    simp
  · have c : (0 : Int) < (k : Int) := by omega
    have w0 : IntKind.i64.wrap ((k : Int) + 1) = ((k + 1 : Nat) : Int) := succ_i (by omega)
    have w1 : IntKind.i64.wrap (((k + 1 : Nat) : Int) - ((s.length : Nat) : Int)) = ((k + 1 : Nat) : Int) - ((s.length : Nat) : Int) := wrap_i64 (by omega) (by omega)
    have w2 : maxI 0 (((k + 1 : Nat) : Int) - ((s.length : Nat) : Int)) = ((k + 1 - s.length : Nat) : Int) := by rw [maxI_eq]; omega
    have hr : ∀ K : ByteArray → Option α, strings_Repeat N (⟨#[48]⟩ : ByteArray) ((k + 1 - s.length : Nat) : Int) K = K (BA (List.replicate (k + 1 - s.length) 48)) := by
      intro K
      rw [strings_Repeat.eq]
      unfold strings_Repeat.b
      have c1 : ((k + 1 - s.length : Nat) : Int) ≤ 9223372036854775807 := by omega
      have c2 : (⟨#[48]⟩ : ByteArray).size * (k + 1 - s.length) ≤ 140737488355328 := by
        have : (⟨#[48]⟩ : ByteArray).size = 1 := rfl
        rw [this]; omega
      have e2 : Go.Lib.repeatL [48] (k + 1 - s.length) = List.replicate (k + 1 - s.length) 48 := by
        have := Go.Lib.repeatL_replicate 48 1 (k + 1 - s.length)
        simpa using this
      simp only [cast_nn, cond_true, c1, decide_true, Int.toNat_natCast, c2]
      show K ⟨(Go.Lib.repeatL [48] (k + 1 - s.length)).toArray⟩ = _
      rw [e2]
      rfl
    have c5 : (List.replicate (k + 1 - s.length) (48 : UInt8)).length + s.length ≤ 9223372036854775807 := by simp; omega
    have ep : List.replicate (k + 1 - s.length) 48 ++ s = padK k s := rfl
    simp only [c, decide_true, cond_true, w0, BA_size, w1, w2, hr, c5, BA_append, ep]
    generalize padK k s = p at *
    have w3 : IntKind.i64.wrap (((p.length : Nat) : Int) - (k : Int)) = ((p.length - k : Nat) : Int) := by rw [wrap_i64 (by omega) (by omega)]; omega
    have c1 : ((p.length - k : Nat) : Int) ≤ ((p.length : Nat) : Int) := by omega
    have b46 : (⟨#[46]⟩ : ByteArray) = BA [46] := rfl
    have hf : (BA p).extract (p.length - k) p.length = BA (p.drop (p.length - k)) := by have := BA_from p (p.length - k); rwa [BA_size] at this
    have c2 : (p.take (p.length - k)).length + [(46 : UInt8)].length ≤ 9223372036854775807 := by rw [List.length_take]; simp; omega
    have c3 : (p.take (p.length - k) ++ [(46 : UInt8)]).length + (p.drop (p.length - k)).length ≤ 9223372036854775807 := by rw [List.length_append, List.length_take, List.length_drop]; simp; omega
    simp only [w3, cast_nn, cond_true, c1, decide_true, Int.toNat_natCast, BA_upto, b46, BA_size, c2, BA_append, hf, c3, h0, if_false, List.append_assoc, List.cons_append, List.nil_append]
/-- What the texts answer from the n-th nought on. -/
def decGo (a b : Nat) : Nat → Nat → ByteArray × Bool
  | 0, _ => (ByteArray.empty, false)
  | d + 1, n => if a * 10 ^ n % b ≠ 0 then decGo a b d (n + 1) else if (decK n (a * 10 ^ n / b)).length ≤ 60 then (BA (decK n (a * 10 ^ n / b)), true) else (ByteArray.empty, false)
def decText (f : FracD) : ByteArray × Bool := if fracOkB f = true ∧ f.1 = false then decGo (val f.2.1).toNat (val f.2.2.1).toNat 60 0 else (ByteArray.empty, false)
theorem ten_mul {a n : Nat} (ha : a < 65536 ^ 256) (hn : n ≤ 61) : ∃ E, E = 320 ∧ a * 10 ^ n < 65536 ^ E ∧ 10 ^ n < cap := by
  obtain ⟨E, hE⟩ : ∃ E, E = 320 := ⟨_, rfl⟩
  have h1 : 10 ^ n ≤ (2 ^ 4) ^ n := Nat.pow_le_pow_left (by decide) n
  rw [← Nat.pow_mul] at h1
  have h2 : 10 ^ n < 65536 ^ 64 := Nat.lt_of_le_of_lt h1 (pow2_cap (by omega))
  have h3 := mul_cap ha h2
  rw [show 256 + 64 = E from hE.symm] at h3
  exact ⟨E, hE, h3, lt_cap h2 (by omega)⟩
theorem txt_E {a E : Nat} (h : a < 65536 ^ E) (hE : 1 ≤ E) : (txt a).length ≤ 5 * E := by
  have h1 : 65536 ^ E ≤ (10 ^ 5) ^ E := Nat.pow_le_pow_left (by decide) E
  rw [← Nat.pow_mul, show 5 * E = (5 * E - 1) + 1 by omega] at h1
  have h2 := nDigits_le (5 * E - 1) (Nat.lt_of_lt_of_le h h1)
  unfold txt
  split
  · simp
  · rw [Go.Lib.decDigits_length]; omega
theorem dec_E {a E : Nat} (h : a < 65536 ^ E) (hE : 1 ≤ E) : (Go.Lib.decDigits a).length ≤ 5 * E := by
  by_cases h0 : a = 0
  · subst h0; rw [dec_small (show 0 < 10 by omega)]; simp; omega
  · have := txt_E h hE
    unfold txt at this; rw [if_neg h0] at this; exact this
theorem decK_len (n q : Nat) : (Go.Lib.decDigits q).length ≤ (decK n q).length ∧ n + 1 ≤ (decK n q).length ∧ (0 < n → n + 2 ≤ (decK n q).length) := by
  have := padK_len n (Go.Lib.decDigits q)
  unfold decK dotK
  by_cases h : n = 0
  · rw [if_pos h]; omega
  · rw [if_neg h]
    have e : ((padK n (Go.Lib.decDigits q)).take ((padK n (Go.Lib.decDigits q)).length - n) ++ 46 :: (padK n (Go.Lib.decDigits q)).drop ((padK n (Go.Lib.decDigits q)).length - n)).length = (padK n (Go.Lib.decDigits q)).length + 1 := by
      rw [List.length_append, List.length_take, List.length_cons, List.length_drop]; omega
    rw [e]; omega
theorem tens_loop {α : Type} (N m : Nat) (hm : m ≤ 61) (hN : cap < N) (k : List Int → Option α) : ∀ (d i n : Nat), i + d = m → d < n → spec_l7Tens_L0 N n (m : Int) (i : Int) (digs (10 ^ i)) k = k (digs (10 ^ m)) := by
  intro d
  induction d with
  | zero =>
    intro i n h hn
    obtain ⟨n, rfl⟩ : ∃ x, n = x + 1 := ⟨n - 1, by omega⟩
    obtain rfl : i = m := by omega
    rw [spec_l7Tens_L0.succ]
    unfold spec_l7Tens_L0r
    simp only [cast_nlt (show ¬ i < i by omega), cond_false]
  | succ d ih =>
    intro i n h hn
    obtain ⟨n, rfl⟩ : ∃ x, n = x + 1 := ⟨n - 1, by omega⟩
    have e10 : [(10 : Int)] = digs 10 := (digs_one (n := 10) (by omega) (by omega)).symm
    have h10 : 10 < cap := by have := cap_ge; omega
    have c : ¬ (10 : Int) = 0 := by omega
    rw [spec_l7Tens_L0.succ]
    unfold spec_l7Tens_L0r
    simp only [cast_lt (show i < m by omega), cond_true, spec_l5Times.eq]
    unfold spec_l5Times.b
    simp only [c, decide_false, cond_false, e10, spec_l5Mul_eq N _ 10 _ (ten_cap (i := i) (by omega)) h10 hN, ← Nat.pow_succ, succ_i (show i < 4611686018427387904 by omega)]
    exact ih (i + 1) n (by omega) (by omega)
theorem tens_eq {α : Type} (N m : Nat) (hm : m ≤ 61) (hN : cap < N) (k : List Int → Option α) : spec_l7Tens N (m : Int) k = k (digs (10 ^ m)) := by
  have hNN := cap_N hN
  rw [spec_l7Tens.eq]
  unfold spec_l7Tens.b
  have := tens_loop N m hm hN (fun x => k x) m 0 N (by omega) (by omega)
  rw [Nat.pow_zero, digs1] at this
  exact this
theorem spec_DecText_loop {α : Type} (N a b : Nat) (ha : a < 65536 ^ 256) (hb : b < 65536 ^ 256) (hb0 : b ≠ 0) (hN : cap < N) (k : ByteArray → Bool → Option α) : ∀ (d n f : Nat), n + d = 60 → d < f →
    spec_DecText_L0 N f (n : Int) (false, (digs a, (digs b, ()))) (fun x y => k x y) (k ByteArray.empty false) = k (decGo a b d n).1 (decGo a b d n).2 := by
  have hNN := cap_N hN
  intro d
  induction d with
  | zero =>
    intro n f h hf
    obtain ⟨f, rfl⟩ : ∃ x, f = x + 1 := ⟨f - 1, by omega⟩
    have c : ¬ (n : Int) < 60 := by omega
    rw [spec_DecText_L0.succ]
    unfold spec_DecText_L0r decGo
    simp only [c, decide_false, cond_false]
  | succ d ih =>
    intro n f h hf
    obtain ⟨f, rfl⟩ : ∃ x, f = x + 1 := ⟨f - 1, by omega⟩
    have c : (n : Int) < 60 := by omega
    obtain ⟨E, hE, h1, h2⟩ := ten_mul (n := n) ha (by omega)
    have hA := lt_cap0 h1 (by omega)
    rw [spec_DecText_L0.succ]
    unfold spec_DecText_L0r decGo
    simp only [c, decide_true, cond_true, tens_eq N n (by omega) hN, spec_l5Mul_eq N a _ _ (cap0_lt (c256 ha)) h2 hN, spec_l5Div_eq N _ b _ hA (c256 hb) hb0 hN, len_cast_pos, succ_i (show n < 4611686018427387904 by omega)]
    by_cases hr : a * 10 ^ n % b = 0
    · generalize hq : a * 10 ^ n / b = q
      have hqE : q < 65536 ^ E := by rw [← hq]; exact Nat.lt_of_le_of_lt (Nat.div_le_self _ _) h1
      obtain ⟨l1, l2, l3⟩ := decK_len n q
      have hd := dec_E hqE (by omega)
      simp only [hr, ne_eq, not_true_eq_false, decide_false, cond_false, if_false]
      by_cases hbig : (digs q).length ≤ 256
      · have hq256 : q < 65536 ^ 256 := by
          have h := lt_digs_len q
          exact Nat.lt_of_lt_of_le h (pow_up hbig)
        have c2 : ¬ (256 : Int) < (((digs q).length : Nat) : Int) := by omega
        have et : natTextB (digs q) = BA (Go.Lib.decDigits q) := by
          unfold natTextB; rw [natOkB_digs hq256, if_pos rfl, val_digs]; rfl
        have hp : ∀ K, spec_DecText_L2 N N (n : Int) (BA (Go.Lib.decDigits q)) K = K (n : Int) (BA (padK n (Go.Lib.decDigits q))) := fun K => spec_pad (α := α) N n (by omega) K _ N _ rfl (by omega) (by omega)
        have hpl := padK_len n (Go.Lib.decDigits q)
        have hdot := fun K => spec_dot (α := α) N n (padK n (Go.Lib.decDigits q)) (by omega) (by omega) K
        have hok := fun K => decOk_decK (α := α) N n q (by omega) (by omega) K (by omega)
        unfold decK at hok
        simp only [c2, decide_false, cond_false, spec_NatText_eq N _ _ hN, et, hp, hdot, hok]
        unfold decK
        by_cases h60 : (dotK n (padK n (Go.Lib.decDigits q))).length ≤ 60
        · simp [h60]
        · simp [h60]
      · have c2 : (256 : Int) < (((digs q).length : Nat) : Int) := by omega
        have hge : 65536 ^ 256 ≤ q := Classical.byContradiction fun hh => hbig (digs_len_le (by omega))
        have := big_len hge
        have h60 : ¬ (decK n q).length ≤ 60 := by omega
        simp [c2, h60]
    · simp only [hr, ne_eq, not_false_eq_true, decide_true, cond_true, if_true]
      exact ih (n + 1) f (by omega) (by omega)
theorem spec_DecText_eq {α : Type} (N : Nat) (f : FracD) (k : ByteArray → Bool → Option α) (hN : cap < N) : spec_DecText N f k = k (decText f).1 (decText f).2 := by
  have hNN := cap_N hN
  rw [spec_DecText.eq]
  unfold spec_DecText.b decText
  simp only [spec_FracOk_eq N _ _ hN]
  cases hf : fracOkB f
  · simp
  obtain ⟨s, a, b, rfl, ha, hb, hb0, _, _⟩ := fracOkB_ex hf
  cases s
  · simp only [Bool.not_true, cond_false, and_self, if_true, val_digs, Int.toNat_natCast]
    exact spec_DecText_loop N a b ha hb hb0 hN k 60 0 N rfl (by omega)
  · simp
theorem natText_big {α : Type} (N a : Nat) (k : ByteArray → Option α) (ha : a < cap0) (hl : (txt a).length ≤ 3900) (hN : cap < N) : impl_natText N (digs a) k = k (BA (Go.Lib.decDigits a)) := by
  rw [impl_natText.eq]
  unfold impl_natText.b
  simp only [len_cast_zero]
  by_cases h0 : a = 0
  · subst h0
    simp only [decide_true, cond_true]
    rw [dec_small (show 0 < 10 by omega)]; rfl
  · simp only [h0, decide_false, cond_false]
    have := impl_natText_loop N hN (fun x => k x) N a [] ha (Nat.lt_trans (cap0_lt ha) hN) (by simp; omega)
    rw [List.append_nil] at this
    refine this.trans ?_
    unfold txt
    rw [if_neg h0]
theorem impl_DecText_loop {α : Type} (N a b : Nat) (ha : a < 65536 ^ 256) (hb : b < 65536 ^ 256) (hb0 : b ≠ 0) (hN : cap < N) (k : ByteArray → Bool → Option α) : ∀ (d n f : Nat), n + d = 60 → d + 1 < f →
    impl_DecText_L0 N f (digs (a * 10 ^ n)) (n : Int) (false, (digs a, (digs b, ()))) (fun x y => k x y) (k ByteArray.empty false) = k (decGo a b d n).1 (decGo a b d n).2 := by
  have hNN := cap_N hN
  have e10 : [(10 : Int)] = digs 10 := (digs_one (n := 10) (by omega) (by omega)).symm
  have h10 : 10 < cap := by have := cap_ge; omega
  have step : ∀ (n f : Nat), n ≤ 60 → impl_DecText_L0 N (f + 1) (digs (a * 10 ^ n)) (n : Int) (false, (digs a, (digs b, ()))) (fun x y => k x y) (k ByteArray.empty false) =
      if a * 10 ^ n % b ≠ 0 then impl_DecText_L0 N f (digs (a * 10 ^ (n + 1))) ((n + 1 : Nat) : Int) (false, (digs a, (digs b, ()))) (fun x y => k x y) (k ByteArray.empty false)
      else if (decK n (a * 10 ^ n / b)).length ≤ 60 then k (BA (decK n (a * 10 ^ n / b))) true else k ByteArray.empty false := by
    intro n f hn
    have c : (n : Int) ≤ 60 := by omega
    obtain ⟨E, hE, h1, h2⟩ := ten_mul (n := n) ha (by omega)
    have hA := lt_cap0 h1 (by omega)
    have hm : a * 10 ^ n * 10 = a * 10 ^ (n + 1) := by rw [Nat.pow_succ, Nat.mul_assoc]
    rw [impl_DecText_L0.succ]
    unfold impl_DecText_L0r
    simp only [c, decide_true, cond_true, impl_natDiv_eq N _ b _ hA (c256 hb) hb0 hN, len_cast_pos]
    by_cases hr : a * 10 ^ n % b = 0
    · generalize hq : a * 10 ^ n / b = q
      have hqE : q < 65536 ^ E := by rw [← hq]; exact Nat.lt_of_le_of_lt (Nat.div_le_self _ _) h1
      have hd := dec_E hqE (by omega)
      have ht := txt_E hqE (by omega)
      have hpos := (dec_read q).2.2.2
      have hdot := fun K => impl_dot (α := α) N n hn (Go.Lib.decDigits q) hpos (by omega) K
      simp only [hr, ne_eq, not_true_eq_false, decide_false, cond_false, if_false, natText_big N q _ (lt_cap0 hqE (by omega)) (by omega) hN, hdot]
      unfold decK
      simp only [BA_size]
      by_cases h60 : (dotK n (padK n (Go.Lib.decDigits q))).length ≤ 60
      · have c3 : ¬ (60 : Int) < (((dotK n (padK n (Go.Lib.decDigits q))).length : Nat) : Int) := by omega
        simp [h60, c3]
      · have c3 : (60 : Int) < (((dotK n (padK n (Go.Lib.decDigits q))).length : Nat) : Int) := by omega
        simp [h60, c3]
    · simp only [hr, ne_eq, not_false_eq_true, decide_true, cond_true, if_true, e10, impl_natMul_eq N _ 10 _ (cap0_lt hA) h10 hN, hm, succ_i (show n < 4611686018427387904 by omega)]
  intro d
  induction d with
  | zero =>
    intro n f h hf
    obtain ⟨f, rfl⟩ : ∃ x, f = x + 1 := ⟨f - 1, by omega⟩
    have hn : n = 60 := by omega
    subst hn
    obtain ⟨l1, l2, l3⟩ := decK_len 60 (a * 10 ^ 60 / b)
    have l3 := l3 (by omega)
    have h60 : ¬ (decK 60 (a * 10 ^ 60 / b)).length ≤ 60 := by omega
    obtain ⟨f, rfl⟩ : ∃ x, f = x + 1 := ⟨f - 1, by omega⟩
    have hend : impl_DecText_L0 N (f + 1) (digs (a * 10 ^ (60 + 1))) ((60 + 1 : Nat) : Int) (false, (digs a, (digs b, ()))) (fun x y => k x y) (k ByteArray.empty false) = k ByteArray.empty false := by
      have c : ¬ ((60 + 1 : Nat) : Int) ≤ 60 := by omega
      rw [impl_DecText_L0.succ]
      unfold impl_DecText_L0r
      simp only [c, decide_false, cond_false]
    rw [step 60 (f + 1) (by omega), hend, if_neg h60]
    unfold decGo
    split <;> rfl
  | succ d ih =>
    intro n f h hf
    obtain ⟨f, rfl⟩ : ∃ x, f = x + 1 := ⟨f - 1, by omega⟩
    rw [step n f (by omega), ih (n + 1) f (by omega) (by omega)]
    conv => rhs; unfold decGo
    by_cases hr : a * 10 ^ n % b ≠ 0
    · rw [if_pos hr, if_pos hr]
    · rw [if_neg hr, if_neg hr]
      split <;> rfl
theorem impl_DecText_eq {α : Type} (N : Nat) (f : FracD) (k : ByteArray → Bool → Option α) (hN : cap < N) : impl_DecText N f k = k (decText f).1 (decText f).2 := by
  have hNN := cap_N hN
  rw [impl_DecText.eq]
  unfold impl_DecText.b decText
  simp only [impl_FracOk_eq N _ _ hN]
  cases hf : fracOkB f
  · simp
  obtain ⟨s, a, b, rfl, ha, hb, hb0, _, _⟩ := fracOkB_ex hf
  cases s
  · simp only [Bool.not_true, cond_false, and_self, if_true, val_digs, Int.toNat_natCast]
    have := impl_DecText_loop N a b ha hb hb0 hN k 60 0 N rfl (by omega)
    rw [Nat.pow_zero, Nat.mul_one] at this
    exact this
  · simp
theorem pure_FnExactDecText (x0 : FracD) (z0 : wfD (.pair .bool (.pair (.sl (.int .i64)) (.pair (.sl (.int .i64)) .unit))) x0) : ∃ N, laws_FnExactDecText N x0 some = some true := by
  refine ⟨cap + 1, ?_⟩
  have hN : cap < cap + 1 := by omega
  have hl1 : x0.2.1.length ≤ maxLen := z0.2.1.1
  have hl2 : x0.2.2.1.length ≤ maxLen := z0.2.2.1.1
  generalize cap + 1 = N at *
  rw [laws_FnExactDecText.eq]
  unfold laws_FnExactDecText.b
  have sz := fun k => laws_szFrac_eq (α := Bool) N x0 1048576 k hl1 hl2 (by omega)
  rw [show ((1048576 : Nat) : Int) = 1048576 from rfl] at sz
  rw [sz]
  by_cases h : x0.2.1.length + x0.2.2.1.length ≤ 1048576
  · simp only [h, if_true, cast_neg, cond_false, laws_toFrac_eq N x0 _ h hN, spec_DecText_eq N _ _ hN, impl_DecText_eq N _ _ hN, eqS_self, beq_self_eq_true, Bool.not_true, laws_eqFrac_eq N _ _ _ _ h hN]
  · simp [h]
end Go.Proofs.YtnhbcpmmdblkjaaDoorAm
