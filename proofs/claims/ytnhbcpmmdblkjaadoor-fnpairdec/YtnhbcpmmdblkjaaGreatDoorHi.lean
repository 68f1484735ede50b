/-
  Literals: their values; the law of pairs around literals.
-/
import Derived.Test.YtnhbcpmmdblkjaaGreatDoorHc
import Derived.Test.YtnhbcpmmdblkjaaGreatDoorHg
import Derived.Test.YtnhbcpmmdblkjaaGreatDoorCb
namespace Go.Proofs.YtnhbcpmmdblkjaaGreatDoorAm
open Go
set_option linter.unusedVariables false
set_option linter.unusedSimpArgs false

theorem wph (s:List UInt8):s.take (digT s).length=digT s:=by
 have h:=wgA s
 generalize digT s=a at *
 generalize digR s=b at *
 rw [← h]; simp
theorem wu5 {α : Type} (N : Nat) (s v r : List UInt8) (hs : s = v ++ r) (hl : s.length ≤ 60) (k0 : ByteArray → Int → Int → Bool → Option α) (k1 : ByteArray → ByteArray → Int → Int → Option α) (hN : 1048576 < N) :
    wcN N (BA s) (BA v) 0 ((v.length : Nat) : Int) k0 k1 = match (generalizing := false) r with
      | [] => k1 (BA s) (BA v) 0 ((v.length : Nat) : Int)
      | c :: r1 => if c = 46 then (if digT r1 = [] then k0 ByteArray.empty 0 0 false else k1 (BA s) (BA (v ++ digT r1)) (((digT r1).length : Nat) : Int) ((v.length + 1 + (digT r1).length : Nat) : Int)) else k1 (BA s) (BA v) 0 ((v.length : Nat) : Int) := by
  rw [wcN.eq]
  unfold wcN.b
  simp only [weh]
  cases r with
  | nil =>
    have hlen : s.length = v.length := by rw [hs]; simp
    simp only [wcx (show ¬ v.length < s.length by omega), cond_false]
  | cons c r1 =>
    have hlen : s.length = v.length + (r1.length + 1) := by rw [hs]; simp
    have hg0 : s[v.length]? = some c := by
      have := wj5 (pre := v) (l := c :: r1) (j := 0)
      rw [← hs] at this
      simpa using this
    have h46 : ((c.toNat : Nat) : Int) = 46 ↔ c = 46 := wpD (a := c) (n := 46) (by omega)
    simp only [wc1 (show v.length < s.length by omega), cond_true, wF, cond_false, Int.toNat_natCast, wgD, hg0]
    by_cases hc : c = 46
    · have g46 := h46.2 hc
      obtain ⟨P, hPd⟩ : ∃ P, P = v ++ [c] := ⟨_, rfl⟩
      have hs2 : s = P ++ r1 := by rw [hPd, hs]; simp
      have hP : P.length = v.length + 1 := by rw [hPd]; simp
      have hdig := fun K => win (α := α) N s P r1 hs2 hl K hN
      have htl := congrArg List.length (wgA r1)
      rw [List.length_append] at htl
      rw [hP] at hdig
      rw [if_pos hc]
      simp only [g46, decide_true, cond_true, wdW (show v.length < 4611686018427387904 by omega), hdig]
      by_cases h0 : digT r1 = []
      · rw [if_pos h0]
        have z0 : (digT r1).length = 0 := by rw [h0]; rfl
        simp only [z0, Int.natCast_zero, decide_true, cond_true]
      · have hn : 0 < (digT r1).length := List.length_pos_iff.2 h0
        have z : ¬ (((digT r1).length : Nat) : Int) = 0 := by omega
        have w : IntKind.i64.wrap (((v.length + 1 : Nat) : Int) + (((digT r1).length : Nat) : Int)) = ((v.length + 1 + (digT r1).length : Nat) : Int) := by rw [wd (by omega) (by omega)]; omega
        have c1 : ((v.length + 1 + (digT r1).length : Nat) : Int) ≤ ((s.length : Nat) : Int) := by omega
        have c2 : ((v.length + 1 : Nat) : Int) ≤ ((v.length + 1 + (digT r1).length : Nat) : Int) := by omega
        have he : ((s.drop (v.length + 1)).take (v.length + 1 + (digT r1).length - (v.length + 1))) = digT r1 := by
          have e1 : s.drop (v.length + 1) = r1 := by rw [hs2, ← hP]; simp
          rw [e1, show v.length + 1 + (digT r1).length - (v.length + 1) = (digT r1).length by omega]
          exact wph r1
        have c3 : v.length + ((digT r1).length) ≤ 9223372036854775807 := by omega
        rw [if_neg h0]
        simp only [z, decide_false, cond_false, w, weF, cond_true, c1, c2, decide_true, Int.toNat_natCast, wkc, he, weh, c3, wnV]
    · have g46 : ¬ ((c.toNat : Nat) : Int) = 46 := fun q => hc (h46.1 q)
      rw [if_neg hc]
      simp only [g46, decide_false, cond_false]
theorem wol {α : Type} (N : Nat) (s pre r2 v e : List UInt8) (hs : s = pre ++ r2) (hl : s.length ≤ 60) (hN : 1048576 < N) : ∃ (D : ByteArray) (b p : Int), (∀ k : ByteArray → Int → Int → Bool → Option α,
      wb6 N (BA s) (BA (v ++ e)) ((e.length : Nat) : Int) ((pre.length : Nat) : Int) 0 (fun a b c d => k a b c d) (fun a b c d f => k b c f (decide (d = ((a.size : Nat) : Int)))) = k D b p (wis v e r2).isSome) ∧
      ∀ v' e' q, wis v e r2 = some (v', e', q) → D = BA (v' ++ e') ∧ b = ((e'.length : Nat) : Int) ∧ p = q := by
  have J := fun k0 k1 => wt5 (α := α) N s pre r2 hs hl (BA (v ++ e)) ((e.length : Nat) : Int) k0 k1 hN
  simp only [J]
  have hlen : s.length = pre.length + r2.length := by rw [hs]; simp
  cases r2 with
  | nil =>
    have c : ((pre.length : Nat) : Int) = ((s.length : Nat) : Int) := by simp at hlen; omega
    refine ⟨BA (v ++ e), ((e.length : Nat) : Int), 0, fun k => ?_, ?_⟩
    · simp only [weh, c, decide_true, wis, Option.isSome_some]
    · intro v' e' q h
      simp only [wis, Option.some.injEq, Prod.mk.injEq] at h
      obtain ⟨rfl, rfl, rfl⟩ := h
      exact ⟨rfl, rfl, rfl⟩
  | cons c r3 =>
    have hlen : s.length = pre.length + (r3.length + 1) := hlen
    by_cases hc : c = 101
    · simp only [hc, if_true, wis]
      generalize hm : weZ r3 = mi
      have hml : mi.2.length ≤ r3.length := by
        rw [← hm]; unfold weZ; split <;> simp
      obtain ⟨m, l⟩ := mi
      simp only at hml ⊢
      have htl := congrArg List.length (wgA l)
      rw [List.length_append] at htl
      rw [wpC]
      cases he : wgK m l with
      | none =>
        refine ⟨ByteArray.empty, 0, 0, fun k => ?_, ?_⟩
        · simp only [ite_self, Option.map_none, Option.isSome_none]
        · intro v' e' q h; simp at h
      | some q =>
        by_cases h0 : digR l = []
        · have c : ((s.length - (digR l).length : Nat) : Int) = ((s.length : Nat) : Int) := by rw [h0]; simp
          refine ⟨BA (v ++ e), ((e.length : Nat) : Int), q, fun k => ?_, ?_⟩
          · simp only [weh, c, decide_true, if_pos h0, Option.map_some, Option.isSome_some]
          · intro v' e' q' h
            rw [if_pos h0] at h
            simp only [Option.map_some, Option.some.injEq, Prod.mk.injEq] at h
            obtain ⟨rfl, rfl, rfl⟩ := h
            exact ⟨rfl, rfl, rfl⟩
        · have hn : 0 < (digR l).length := List.length_pos_iff.2 h0
          have c : ¬ ((s.length - (digR l).length : Nat) : Int) = ((s.length : Nat) : Int) := by omega
          refine ⟨BA (v ++ e), ((e.length : Nat) : Int), q, fun k => ?_, ?_⟩
          · simp only [weh, c, decide_false, if_neg h0, Option.map_none, Option.isSome_none]
          · intro v' e' q' h
            rw [if_neg h0] at h
            simp at h
    · have c2 : ¬ ((pre.length : Nat) : Int) = ((s.length : Nat) : Int) := by omega
      refine ⟨BA (v ++ e), ((e.length : Nat) : Int), 0, fun k => ?_, ?_⟩
      · simp only [hc, if_false, wis, weh, c2, decide_false, Option.isSome_none]
      · intro v' e' q' h
        simp [wis, hc] at h
theorem wre {α : Type} (N : Nat) (s : List UInt8) (hl : s.length ≤ 60) (hN : 1048576 < N) : ∃ (D : ByteArray) (b p : Int), (∀ k : ByteArray → Int → Int → Bool → Option α, wdJ N (BA s) k = k D b p (litS s).isSome) ∧
      ∀ v e q, litS s = some (v, e, q) → D = BA (v ++ e) ∧ b = ((e.length : Nat) : Int) ∧ p = q := by
  have hs := wgA s
  have hlen := congrArg List.length hs
  rw [List.length_append] at hlen
  have c60 : ¬ (60 : Int) < ((s.length : Nat) : Int) := by omega
  have hdig := fun K => win (α := α) N s [] s rfl hl K hN
  simp only [List.length_nil, Int.natCast_zero] at hdig
  rw [wdJ.eq]
  unfold wdJ.b
  simp only [weh, c60, decide_false, cond_false, hdig]
  by_cases h0 : (digT s).length = 0
  · have z : (((digT s).length : Nat) : Int) = 0 := by omega
    have e : litS s = none := by unfold litS; rw [if_pos (.inl h0)]
    refine ⟨ByteArray.empty, 0, 0, fun k => ?_, ?_⟩
    · simp only [z, decide_true, cond_true, e, Option.isSome_none]
    · intro v e' q h; rw [e] at h; cases h
  have z : ¬ (((digT s).length : Nat) : Int) = 0 := by omega
  obtain ⟨ch, hch⟩ : ∃ ch, s[0]? = some ch := ⟨_, List.getElem?_eq_getElem (show 0 < s.length by omega)⟩
  have h48 : ((ch.toNat : Nat) : Int) = 48 ↔ ch = 48 := wpD (a := ch) (n := 48) (by omega)
  by_cases hbad : 1 < (digT s).length ∧ ch = 48
  · have z1 : (1 : Int) < (((digT s).length : Nat) : Int) := by omega
    have g48 := h48.2 hbad.2
    have e : litS s = none := by unfold litS; rw [if_pos (.inr ⟨hbad.1, by rw [hch, hbad.2]⟩)]
    refine ⟨ByteArray.empty, 0, 0, fun k => ?_, ?_⟩
    · simp only [z, decide_false, cond_false, z1, decide_true, cond_true, wgD, hch, g48, e, Option.isSome_none]
    · intro v e' q h; rw [e] at h; cases h
  have cl : (((digT s).length : Nat) : Int) ≤ ((s.length : Nat) : Int) := by omega
  have ht := wph s
  have elit : litS s = match digR s with
      | [] => some (digT s, [], 0)
      | c :: r => if c = 46 then (if digT r = [] then none else wis (digT s) (digT r) (digR r)) else wis (digT s) [] (c :: r) := by
    unfold litS
    have hcn : ¬ ((digT s).length = 0 ∨ (1 < (digT s).length ∧ s[0]? = some 48)) := by
      rintro (q | ⟨q, q'⟩)
      · exact h0 q
      · rw [hch] at q'; simp only [Option.some.injEq] at q'; exact hbad ⟨q, q'⟩
    rw [if_neg hcn]
    rfl
  have J := fun k0 k1 => wu5 (α := α) N s (digT s) (digR s) hs.symm hl k0 k1 hN
  have main : ∃ (D : ByteArray) (b p : Int), (∀ k : ByteArray → Int → Int → Bool → Option α, wcN N (BA s) (BA (digT s)) 0 (((digT s).length : Nat) : Int) (fun a b c d => k a b c d) (fun x59 x60 x61 x62 => wb6 N x59 x60 x61 x62 0 (fun a b c d => k a b c d) (fun a b c d f => k b c f (decide (d = ((a.size : Nat) : Int))))) = k D b p (litS s).isSome) ∧
      ∀ v e q, litS s = some (v, e, q) → D = BA (v ++ e) ∧ b = ((e.length : Nat) : Int) ∧ p = q := by
    simp only [J, elit]
    generalize hr : digR s = r at *
    cases r with
    | nil =>
      obtain ⟨D, b, p, e1, e2⟩ := wol (α := α) N s (digT s) [] (digT s) [] (by rw [hs]) hl hN
      rw [List.append_nil] at e1
      exact ⟨D, b, p, e1, e2⟩
    | cons c r1 =>
      by_cases hc : c = 46
      · subst hc
        by_cases h1 : digT r1 = []
        · refine ⟨ByteArray.empty, 0, 0, fun k => ?_, ?_⟩
          · simp only [h1, if_true, Option.isSome_none]
          · intro v e' q h; simp [h1] at h
        · have hs3 : s = (digT s ++ 46 :: digT r1) ++ digR r1 := by
            have := wgA r1
            conv => lhs; rw [← hs, ← this]
            simp
          obtain ⟨D, b, p, e1, e2⟩ := wol (α := α) N s _ (digR r1) (digT s) (digT r1) hs3 hl hN
          have hll : (digT s ++ 46 :: digT r1).length = (digT s).length + 1 + (digT r1).length := by simp; omega
          rw [hll] at e1
          refine ⟨D, b, p, fun k => ?_, fun v e' q h => ?_⟩
          · simp only [if_true, if_neg h1]; exact e1 k
          · simp only [if_true, if_neg h1] at h; exact e2 v e' q h
      · obtain ⟨D, b, p, e1, e2⟩ := wol (α := α) N s (digT s) (c :: r1) (digT s) [] hs.symm hl hN
        rw [List.append_nil] at e1
        refine ⟨D, b, p, fun k => ?_, fun v e' q h => ?_⟩
        · simp only [if_neg hc]; exact e1 k
        · simp only [if_neg hc] at h; exact e2 v e' q h
  obtain ⟨D, b, p, e1, e2⟩ := main
  refine ⟨D, b, p, fun k => ?_, e2⟩
  rw [← e1 k]
  by_cases h1 : 1 < (digT s).length
  · have z1 : (1 : Int) < (((digT s).length : Nat) : Int) := by omega
    have g48 : ¬ ((ch.toNat : Nat) : Int) = 48 := fun q => hbad ⟨h1, h48.1 q⟩
    simp only [z, decide_false, cond_false, z1, decide_true, cond_true, wgD, hch, g48, weF, cl, wm8, Int.toNat_natCast, ht]
  · have z1 : ¬ (1 : Int) < (((digT s).length : Nat) : Int) := by omega
    simp only [z, decide_false, cond_false, z1, decide_true, cond_true, weF, cl, wm8, Int.toNat_natCast, ht]
theorem wpu {m:Bool} {l:List UInt8} {q:Int} (h:expS m l=some q):-400≤q∧q≤400:=by
 unfold expS at h
 split at h
 ·cases h
 ·rename_i hn
  have h4:valT (digT l)≤400:=Classical.byContradiction fun q=>hn (.inr (.inr (.inr (.inr (.inl (by omega))))))
  cases m <;> simp at h <;> omega
theorem wlM {v e r : List UInt8} {v' e' : List UInt8} {q : Int} (h : wis v e r = some (v', e', q)) : v' = v ∧ e' = e ∧ -400 ≤ q ∧ q ≤ 400 := by
  unfold wis at h
  split at h
  · simp only [Option.some.injEq, Prod.mk.injEq] at h
    obtain ⟨rfl, rfl, rfl⟩ := h
    exact ⟨rfl, rfl, by omega, by omega⟩
  · split at h
    · cases he : expS (weZ _).1 (weZ _).2 with
      | none => rw [he] at h; cases h
      | some p =>
        rw [he] at h
        simp only [Option.map_some, Option.some.injEq, Prod.mk.injEq] at h
        obtain ⟨rfl, rfl, rfl⟩ := h
        exact ⟨rfl, rfl, wpu he⟩
    · cases h
theorem wmq {s v e:List UInt8} {q:Int} (h:litS s=some (v,e,q)):(v++e).all wff=true∧(v++e).length≤s.length∧-400≤q∧q≤400∧v ≠ []:=by
 have hs:=wgA s
 have hlen:=congrArg List.length hs
 rw [List.length_append] at hlen
 unfold litS at h
 split at h
 ·cases h
 ·rename_i hn
  have h0:digT s ≠ []:=fun q=>hn (.inl (by rw [q]; rfl))
  split at h
  ·simp only [Option.some.injEq,Prod.mk.injEq] at h
   obtain ⟨rfl,rfl,rfl⟩:=h
   exact ⟨by simpa using wgT s,by simp; omega,by omega,by omega,h0⟩
  ·rename_i c r hr
   have hr2:(digR s).length=r.length + 1:=by rw [hr]; rfl
   split at h
   ·split at h
    ·cases h
    ·have hlr:=congrArg List.length (wgA r)
     rw [List.length_append] at hlr
     obtain ⟨rfl,rfl,h1,h2⟩:=wlM h
     exact ⟨by rw [List.all_append,wgT,wgT]; rfl,by simp; omega,h1,h2,h0⟩
   ·obtain ⟨rfl,rfl,h1,h2⟩:=wlM h
    exact ⟨by simpa using wgT s,by simp; omega,h1,h2,h0⟩
def wdU (s:List UInt8):R4:=if s.length≤60 then (match litS s with
 | none=>bad4
 | some (v,e,p)=>if 0≤p - (e.length:Int) then mkF false (valT (v++e) * 10 ^ (p - (e.length:Int)).toNat) 1 else mkF false (valT (v++e)) (10 ^ ((e.length:Int) - p).toNat)) else bad4
theorem wjP {i:Nat} (h:i≤1302):10 ^ i < cap0:=by
 obtain ⟨E,hE⟩:∃ E,E=330:=⟨_,rfl⟩
 have h1:10 ^ i≤(2 ^ 4) ^ i:=Nat.pow_le_pow_left (by decide) i
 rw [← Nat.pow_mul] at h1
 exact wh9 (Nat.lt_of_le_of_lt h1 (whJ (E:=E) (by omega))) (by omega)
theorem wm5 {l:List UInt8} (ha:l.all wff=true) (hl:l.length≤60) (i:Nat) (hi:i≤500):valT l * 10 ^ i < cap0:=by
 have h1:=woC l 0 0 ha (by simp)
 have h2:valT l * 10 ^ i < 10 ^ (0 + l.length) * 10 ^ i:=Nat.mul_lt_mul_of_pos_right h1 (Nat.pow_pos (by omega))
 rw [← Nat.pow_add] at h2
 exact Nat.lt_trans h2 (wjP (by omega))
theorem wpH {α : Type} (N m : Nat) (hm : m ≤ 1000) (hN : cap < N) (k : List Int → Option α) : ∀ (d i n : Nat), i + d = m → d < n → wbL N n (m : Int) (i : Int) (digs (10 ^ i)) k = k (digs (10 ^ m)) := by
  intro d
  induction d with
  | zero =>
    intro i n h hn
    obtain ⟨n, rfl⟩ : ∃ x, n = x + 1 := ⟨n - 1, by omega⟩
    obtain rfl : i = m := by omega
    rw [wbL.succ]
    unfold wf4
    simp only [wcx (show ¬ i < i by omega), cond_false]
  | succ d ih =>
    intro i n h hn
    obtain ⟨n, rfl⟩ : ∃ x, n = x + 1 := ⟨n - 1, by omega⟩
    have e10 : [(10 : Int)] = digs 10 := (whI (n := 10) (by omega) (by omega)).symm
    have h10 : 10 < cap := by have := wii; omega
    have c : ¬ (10 : Int) = 0 := by omega
    rw [wbL.succ]
    unfold wf4
    simp only [wc1 (show i < m by omega), cond_true, wc0.eq]
    unfold wc0.b
    simp only [c, decide_false, cond_false, e10, wen N _ 10 _ (whU (i := i) (by omega)) h10 hN, ← Nat.pow_succ, wdW (show i < 4611686018427387904 by omega)]
    exact ih (i + 1) n (by omega) (by omega)
theorem wpk {α:Type} (N m:Nat) (hm:m≤1000) (hN:cap < N) (k:List Int→Option α):wet N (m:Int) k=k (digs (10 ^ m)):=by
 have hNN:=wfU hN
 rw [wet.eq]
 unfold wet.b
 have:=wpH N m hm hN (fun x=>k x) m 0 N (by omega) (by omega)
 rw [Nat.pow_zero,wmd] at this
 exact this
theorem wkd {α : Type} (N : Nat) (l : List UInt8) (hb : l.length ≤ 60) (ha : l.all wff = true) (hN : cap < N) (b p : Int) (k : Int → Int → Bool → List Int → List Int → List Int → Option α) : ∀ (d i n v : Nat), i + d = l.length → d < n → v < 10 ^ i →
    wbp N n (BA l) b p (i : Int) false (digs v) [] [] k = k b p false (digs ((l.drop i).foldl wgf v)) [] [] := by
  intro d
  induction d with
  | zero =>
    intro i n v h hn hv
    obtain ⟨n, rfl⟩ : ∃ m, n = m + 1 := ⟨n - 1, by omega⟩
    rw [wbp.succ]
    unfold wfL
    simp only [weh, wcx (show ¬ i < l.length by omega), cond_false, List.drop_of_length_le (show l.length ≤ i by omega), List.foldl_nil]
  | succ d ih =>
    intro i n v h hn hv
    obtain ⟨n, rfl⟩ : ∃ m, n = m + 1 := ⟨n - 1, by omega⟩
    have hi : i < l.length := by omega
    have hd : wff l[i] = true := List.all_eq_true.1 ha _ (List.getElem_mem hi)
    obtain ⟨w1, c1, c2⟩ := wk8 hd
    have hd2 := whl hd
    have v1 : v < cap := Nat.lt_trans hv (whU (by omega))
    have hv2 : wgf v l[i] < 10 ^ (i + 1) := by unfold wgf; rw [Nat.pow_succ]; omega
    have v2 : v * 10 < cap := by
      have := whU (i := i + 1) (by omega)
      rw [Nat.pow_succ] at this; omega
    have v3 : wgf v l[i] < cap := Nat.lt_trans hv2 (whU (by omega))
    have hx : l[i].toNat - 48 < cap := by have := wii; omega
    have h10 : (10 : Int) = ((10 : Nat) : Int) := rfl
    have hst : v * 10 + (l[i].toNat - 48) = wgf v l[i] := rfl
    rw [wbp.succ]
    unfold wfL
    simp only [weh, wc1 hi, wF, cond_true, cond_false, Int.toNat_natCast, wgD, List.getElem?_eq_getElem hi, h10, wgQ N v 10 _ v1 (show 10 < 65536 by omega) hN, w1, wfm N _ _ (show l[i].toNat - 48 < 18446744073709551616 by omega) hN, wib N _ _ _ v2 hx hN, hst, wgb N _ _ v3 hN, wdW (show i < 4611686018427387904 by omega), List.drop_eq_getElem_cons hi, List.foldl_cons]
    exact ih (i + 1) n (wgf v l[i]) (by omega) (by omega) hv2
theorem wip {α : Type} (N : Nat) (s : List UInt8) (k : Bool → Bool → List Int → List Int → Option α) (hN : cap < N) : wd1 N (BA s) k = k (wdU s).1 (wdU s).2.1 (wdU s).2.2.1 (wdU s).2.2.2 := by
  have hNN := wfU hN
  rw [wd1.eq]
  unfold wd1.b wdU
  by_cases h6 : s.length ≤ 60
  · rw [if_pos h6]
    obtain ⟨D, b, p, e1, e2⟩ := wre (α := α) N s h6 (by omega)
    rw [e1]
    cases hl : litS s with
    | none => simp [bad4]
    | some t =>
      obtain ⟨v, e, q⟩ := t
      obtain ⟨rfl, rfl, rfl⟩ := e2 v e q hl
      obtain ⟨b1, b2, b3, b4, _⟩ := wmq hl
      have hel : e.length ≤ 60 := by simp at b2; omega
      simp only [Option.isSome_some, Bool.not_true, cond_false]
      have L := wkd (α := α) N (v ++ e) (by omega) b1 hN ((e.length : Nat) : Int) p
      have L2 := fun K => L K (v ++ e).length 0 N 0 (by omega) (by omega) (by simp)
      simp only [wbS, List.drop_zero, Int.natCast_zero] at L2
      rw [L2]
      have hval : (v ++ e).foldl wgf 0 = valT (v ++ e) := rfl
      have w : IntKind.i64.wrap (p - ((e.length : Nat) : Int)) = p - ((e.length : Nat) : Int) := wd (by omega) (by omega)
      have hc1 : (1 : Nat) < cap0 := by have := wjP (i := 1) (by omega); omega
      have hv0 := wm5 b1 (by omega) 0 (by omega)
      rw [Nat.pow_zero, Nat.mul_one] at hv0
      rw [hval, w]
      by_cases hp : 0 ≤ p - ((e.length : Nat) : Int)
      · obtain ⟨n, hn⟩ : ∃ n : Nat, p - ((e.length : Nat) : Int) = n := ⟨(p - ((e.length : Nat) : Int)).toNat, by omega⟩
        rw [if_pos hp]
        have hn2 : n ≤ 500 := by omega
        have hvt := wm5 b1 (by omega) n hn2
        rw [hn, Int.toNat_natCast]
        simp only [weF, cond_true, wpk N n (by omega) hN, wen N _ _ _ (wfg hv0) (whU (i := n) (by omega)) hN, ← wmd, wfQ N false _ 1 _ hvt hc1 (by omega) hN]
      · obtain ⟨n, hn⟩ : ∃ n : Nat, ((e.length : Nat) : Int) - p = n := ⟨(((e.length : Nat) : Int) - p).toNat, by omega⟩
        rw [if_neg hp]
        have hn2 : n ≤ 500 := by omega
        have w2 : IntKind.i64.wrap (0 - (p - ((e.length : Nat) : Int))) = (n : Int) := by rw [wd (by omega) (by omega)]; omega
        have h10 : 10 ^ n ≠ 0 := Nat.pos_iff_ne_zero.1 (Nat.pow_pos (by omega))
        rw [hn, Int.toNat_natCast]
        simp only [hp, decide_false, cond_false, w2, wpk N n (by omega) hN, wfQ N false _ _ _ hv0 (wjP (i := n) (by omega)) h10 hN]
  · rw [if_neg h6, wdJ.eq]
    unfold wdJ.b
    have c60 : (60 : Int) < ((s.length : Nat) : Int) := by omega
    simp only [weh, c60, decide_true, cond_true, Bool.not_false, bad4]
theorem wmK {α : Type} (N m : Nat) (hm : m ≤ 1000) (hN : cap < N) (k : List Int → Option α) : ∀ (d i n : Nat), i + d = m → d < n → wc4 N n (digs (10 ^ i)) (m : Int) (i : Int) k = k (digs (10 ^ m)) := by
  intro d
  induction d with
  | zero =>
    intro i n h hn
    obtain ⟨n, rfl⟩ : ∃ x, n = x + 1 := ⟨n - 1, by omega⟩
    obtain rfl : i = m := by omega
    rw [wc4.succ]
    unfold wha
    simp only [wcx (show ¬ i < i by omega), cond_false]
  | succ d ih =>
    intro i n h hn
    obtain ⟨n, rfl⟩ : ∃ x, n = x + 1 := ⟨n - 1, by omega⟩
    have e10 : [(10 : Int)] = digs 10 := (whI (n := 10) (by omega) (by omega)).symm
    have h10 : 10 < cap := by have := wii; omega
    rw [wc4.succ]
    unfold wha
    simp only [wc1 (show i < m by omega), cond_true, e10, wgv N _ 10 _ (whU (i := i) (by omega)) h10 hN, ← Nat.pow_succ, wdW (show i < 4611686018427387904 by omega)]
    exact ih (i + 1) n (by omega) (by omega)
theorem wlA {α:Type} (N m:Nat) (hm:m≤1000) (hN:cap < N) (k:List Int→Option α):wfT N (m:Int) k=k (digs (10 ^ m)):=by
 have hNN:=wfU hN
 rw [wfT.eq]
 unfold wfT.b
 have:=wmK N m hm hN (fun x=>k x) m 0 N (by omega) (by omega)
 rw [Nat.pow_zero,wmd] at this
 exact this
theorem wkO {α : Type} (N : Nat) (s : List UInt8) (k : Bool → Bool → List Int → List Int → Option α) (hs : s.length ≤ 2000000) (hN : cap < N) : wd9 N (BA s) k = k (wdU s).1 (wdU s).2.1 (wdU s).2.2.1 (wdU s).2.2.2 := by
  have hNN := wfU hN
  rw [wd9.eq]
  unfold wd9.b wdU
  rw [wmU N s _ hs (by omega), wr2]
  by_cases h6 : s.length ≤ 60
  · rw [if_pos h6]
    simp only [h6, decide_true, Bool.and_true]
    rw [wiD N s _ hs (by omega), wr2]
    cases hl : litS s with
    | none => simp [bad4]
    | some t =>
      obtain ⟨v, e, p⟩ := t
      obtain ⟨b1, b2, b3, b4, _⟩ := wmq hl
      have hel : e.length ≤ 60 ∧ v.length + e.length ≤ 60 := by simp at b2; omega
      have c3 : v.length + e.length ≤ 9223372036854775807 := by omega
      have w : IntKind.i64.wrap (p - ((e.length : Nat) : Int)) = p - ((e.length : Nat) : Int) := wd (by omega) (by omega)
      have hc1 : (1 : Nat) < cap0 := by have := wjP (i := 1) (by omega); omega
      have hv0 := wm5 b1 (by omega) 0 (by omega)
      rw [Nat.pow_zero, Nat.mul_one] at hv0
      simp only [Option.isSome_some, Bool.not_true, cond_false, weh, c3, decide_true, cond_true, wnV, wli N (v ++ e) _ (by omega) b1 hN, w]
      by_cases hp : 0 ≤ p - ((e.length : Nat) : Int)
      · obtain ⟨n, hn⟩ : ∃ n : Nat, p - ((e.length : Nat) : Int) = n := ⟨(p - ((e.length : Nat) : Int)).toNat, by omega⟩
        rw [if_pos hp]
        have hn2 : n ≤ 500 := by omega
        have hvt := wm5 b1 (by omega) n hn2
        have hg := wkq false (valT (v ++ e) * 10 ^ n) 1
        rw [Nat.gcd_one_right, Nat.div_one, Nat.div_one] at hg
        rw [hn, Int.toNat_natCast]
        simp only [weF, cond_true, wlA N n (by omega) hN, wgv N _ _ _ (wfg hv0) (whU (i := n) (by omega)) hN, wmE, wjx, hg]
      · obtain ⟨n, hn⟩ : ∃ n : Nat, ((e.length : Nat) : Int) - p = n := ⟨(((e.length : Nat) : Int) - p).toNat, by omega⟩
        rw [if_neg hp]
        have hn2 : n ≤ 500 := by omega
        have w2 : IntKind.i64.wrap (0 - (p - ((e.length : Nat) : Int))) = (n : Int) := by rw [wd (by omega) (by omega)]; omega
        have h10 : 10 ^ n ≠ 0 := Nat.pos_iff_ne_zero.1 (Nat.pow_pos (by omega))
        rw [hn, Int.toNat_natCast]
        simp only [hp, decide_false, cond_false, w2, wlA N n (by omega) hN, wi3 N false _ _ _ hv0 (wjP (i := n) (by omega)) h10 hN, wjx, wkq]
  · rw [if_neg h6]
    simp [h6, bad4]
theorem wkI {α:Type} (N:Nat) (w:Int) (s:List UInt8) (k:whX→Bool→Option α) (hN:cap < N):wef N w (BA s) k=if (wdU s).2.1=true then k (wc8 w ((wdU s).1,((wdU s).2.2.1,((wdU s).2.2.2,())))).1 (wc8 w ((wdU s).1,((wdU s).2.2.1,((wdU s).2.2.2,())))).2 else k (0,(0,())) false:=by
 rw [wef.eq]
 unfold wef.b
 rw [wip N s _ hN]
 simp only [wig N _ _ _ hN]
 cases (wdU s).2.1 <;> simp
theorem wk3 {α:Type} (N:Nat) (w:Int) (s:List UInt8) (k:whX→Bool→Option α) (hs:s.length≤2000000) (hN:cap < N):wec N w (BA s) k=if (wdU s).2.1=true then k (wc8 w ((wdU s).1,((wdU s).2.2.1,((wdU s).2.2.2,())))).1 (wc8 w ((wdU s).1,((wdU s).2.2.1,((wdU s).2.2.2,())))).2 else k (0,(0,())) false:=by
 rw [wec.eq]
 unfold wec.b
 rw [wkO N s _ hs hN]
 simp only [wid N _ _ _ hN]
 cases (wdU s).2.1 <;> simp
end Go.Proofs.YtnhbcpmmdblkjaaGreatDoorAm
