/-
  The language's numbers: what the reference takes for one.
-/
import Derived.Test.YtnhbcpmmdblkjaaDoorHc
import Derived.Test.YtnhbcpmmdblkjaaDoorHg
namespace Go.Proofs.YtnhbcpmmdblkjaaDoorAm
open Go
set_option linter.unusedVariables false
set_option linter.unusedSimpArgs false

theorem take_dig' (s:List UInt8):s.take (digT s).length=digT s:=by
 have h:=dig_app s
 generalize digT s=a at *
 generalize digR s=b at *
 rw [← h]; simp
theorem le400 {d : List UInt8} (ha : d.all isDig = true) (h3 : d.length = 3) : (ltS (BA d) (⟨#[52, 48, 48]⟩ : ByteArray) || eqS (BA d) (⟨#[52, 48, 48]⟩ : ByteArray)) = decide (valT d ≤ 400) := by
  rw [show (⟨#[52, 48, 48]⟩ : ByteArray) = BA [52, 48, 48] from rfl]
  unfold ltS eqS
  rw [BA_toList, BA_toList]
  match d, h3 with
  | [a, b, c], _ =>
    simp only [List.all_cons, List.all_nil, Bool.and_true, Bool.and_eq_true] at ha
    obtain ⟨ha, hb, hc⟩ := ha
    have ha := isDig_ok ha
    have hb := isDig_ok hb
    have hc := isDig_ok hc
    have eq_nat : ∀ (x y : UInt8), (x == y) = decide (x.toNat = y.toNat) := fun x y => by
      rw [Bool.eq_iff_iff]; simp [UInt8.toNat_inj]
    have lt_nat : ∀ (x y : UInt8), decide (x < y) = decide (x.toNat < y.toNat) := fun x y => by
      rw [Bool.eq_iff_iff]; simp [UInt8.lt_iff_toNat_lt]
    have e1 : ([a, b, c] == [(52 : UInt8), 48, 48]) = (a == 52 && (b == 48 && (c == 48 && true))) := rfl
    have t52 : (52 : UInt8).toNat = 52 := rfl
    have t48 : (48 : UInt8).toNat = 48 := rfl
    rw [e1, Bool.eq_iff_iff, decide_eq_true_iff]
    simp only [Op.bytesLess, lt_nat, eq_nat, t52, t48, valT, List.foldl_cons, List.foldl_nil, stepD, Bool.and_true, Bool.and_false, Bool.or_false]
    simp only [Bool.or_eq_true, Bool.and_eq_true, decide_eq_true_eq]
    omega
theorem val_le {d : List UInt8} (ha : d.all isDig = true) (h2 : d.length ≤ 2) : valT d ≤ 400 := by
  match d, h2 with
  | [], _ => simp [valT]
  | [a], _ =>
    simp only [List.all_cons, List.all_nil, Bool.and_true] at ha
    have ha := isDig_ok ha
    simp only [valT, List.foldl_cons, List.foldl_nil, stepD]; omega
  | [a, b], _ =>
    simp only [List.all_cons, List.all_nil, Bool.and_true, Bool.and_eq_true] at ha
    have hb := isDig_ok ha.2
    have ha := isDig_ok ha.1
    simp only [valT, List.foldl_cons, List.foldl_nil, stepD]; omega
theorem l11Digit_eq {α:Type} (N:Nat) (c:UInt8) (k:Bool→Option α):spec_l11Digit N ((c.toNat:Nat):Int) k=k (isDig c):=by
 rw [spec_l11Digit.eq]
 unfold spec_l11Digit.b
 cases h:isDig c
 ·rcases dig_not h with q | ⟨q,q'⟩
  ·have:¬ (48:Int)≤((c.toNat:Nat):Int):=by omega
   simp only [this,decide_false,cond_false]
  ·have a1:(48:Int)≤((c.toNat:Nat):Int):=by omega
   have a2:¬ ((c.toNat:Nat):Int)≤57:=by omega
   simp only [a1,a2,decide_true,decide_false,cond_true,cond_false]
 ·have:=isDig_ok h
  have a1:(48:Int)≤((c.toNat:Nat):Int):=by omega
  have a2:((c.toNat:Nat):Int)≤57:=by omega
  simp only [a1,a2,decide_true,decide_false,cond_true,cond_false]
theorem l11Run_loop {α : Type} (N : Nat) (p v r : List UInt8) (hv : v.all isDig = true) (hr : r = [] ∨ ∃ c s, r = c :: s ∧ isDig c = false) (hb : (p ++ (v ++ r)).length ≤ 100000) (k : Int → Option α) : ∀ (d n f : Nat), n + d = v.length → d < f →
    spec_l11Run_L0 N f (BA (p ++ (v ++ r))) (p.length : Int) (n : Int) k = k (v.length : Int) := by
  have hl : (p ++ (v ++ r)).length = p.length + (v.length + r.length) := by simp
  intro d
  induction d with
  | zero =>
    intro n f h hf
    obtain ⟨f, rfl⟩ : ∃ m, f = m + 1 := ⟨f - 1, by omega⟩
    have hn : n = v.length := by omega
    subst hn
    have w1 : IntKind.i64.wrap ((p.length : Int) + (v.length : Int)) = ((p.length + v.length : Nat) : Int) := by rw [wrap_i64 (by omega) (by omega)]; omega
    rw [spec_l11Run_L0.succ]
    unfold spec_l11Run_L0r
    simp only [w1, BA_size, cast_neg, cond_false, Int.toNat_natCast, BA_get]
    rcases hr with rfl | ⟨c, s, rfl, hc⟩
    · have : ¬ p.length + v.length < (p ++ (v ++ [])).length := by simp
      simp only [cast_nlt this, cond_false]
    · have hi : p.length + v.length < (p ++ (v ++ c :: s)).length := by simp
      have hg : (p ++ (v ++ c :: s))[p.length + v.length]? = some c := by
        rw [List.getElem?_append_right (by omega), List.getElem?_append_right (by omega)]
        simp
      simp only [cast_lt hi, cond_true, hg, l11Digit_eq, hc, cond_false]
  | succ d ih =>
    intro n f h hf
    obtain ⟨f, rfl⟩ : ∃ m, f = m + 1 := ⟨f - 1, by omega⟩
    have hn : n < v.length := by omega
    have w1 : IntKind.i64.wrap ((p.length : Int) + (n : Int)) = ((p.length + n : Nat) : Int) := by rw [wrap_i64 (by omega) (by omega)]; omega
    have hi : p.length + n < (p ++ (v ++ r)).length := by omega
    have hg : (p ++ (v ++ r))[p.length + n]? = some v[n] := by
      rw [List.getElem?_append_right (by omega), List.getElem?_append_left (by omega), show p.length + n - p.length = n by omega, List.getElem?_eq_getElem hn]
    have hd : isDig v[n] = true := List.all_eq_true.1 hv _ (List.getElem_mem hn)
    rw [spec_l11Run_L0.succ]
    unfold spec_l11Run_L0r
    simp only [w1, BA_size, cast_neg, cond_false, Int.toNat_natCast, BA_get, cast_lt hi, cond_true, hg, l11Digit_eq, hd, succ_i (show n < 4611686018427387904 by omega)]
    exact ih (n + 1) f (by omega) (by omega)
theorem l11Run_eq {α:Type} (N:Nat) (s p l:List UInt8) (hs:s=p++l) (hl:s.length≤100000) (k:Int→Option α) (hN:1048576 < N):spec_l11Run N (BA s) (p.length:Int) k=k ((digT l).length:Int):=by
 have e:=dig_app l
 have htl:=congrArg List.length e
 rw [List.length_append] at htl
 have hsl:s.length=p.length + l.length:=by rw [hs]; simp
 have hb:(p++(digT l++digR l)).length≤100000:=by rw [e,← hs]; omega
 rw [spec_l11Run.eq]
 unfold spec_l11Run.b
 have:=l11Run_loop (α:=α) N p (digT l) (digR l) (digT_all l) (digR_head l) hb (fun x=>k x) (digT l).length 0 N (by omega) (by omega)
 rwa [e,← hs] at this
theorem l11_J5 {α : Type} (N : Nat) (s v r : List UInt8) (hs : s = v ++ r) (hl : s.length ≤ 60) (k0 : Bool → Option α) (k1 : ByteArray → Int → Option α) (hN : 1048576 < N) :
    spec_LangNumOk_J5 N (BA s) ((v.length : Nat) : Int) k0 k1 = match (generalizing := false) r with
      | [] => k1 (BA s) ((v.length : Nat) : Int)
      | c :: r1 => if c = 46 then (if digT r1 = [] then k0 false else k1 (BA s) ((v.length + 1 + (digT r1).length : Nat) : Int)) else k1 (BA s) ((v.length : Nat) : Int) := by
  rw [spec_LangNumOk_J5.eq]
  unfold spec_LangNumOk_J5.b
  simp only [BA_size]
  cases r with
  | nil =>
    have hlen : s.length = v.length := by rw [hs]; simp
    simp only [cast_nlt (show ¬ v.length < s.length by omega), cond_false]
  | cons c r1 =>
    have hlen : s.length = v.length + (r1.length + 1) := by rw [hs]; simp
    have hg0 : s[v.length]? = some c := by
      have := app_get (pre := v) (l := c :: r1) (j := 0)
      rw [← hs] at this
      simpa using this
    have h46 : ((c.toNat : Nat) : Int) = 46 ↔ c = 46 := u8_eq (a := c) (n := 46) (by omega)
    simp only [cast_lt (show v.length < s.length by omega), cond_true, cast_neg, cond_false, Int.toNat_natCast, BA_get, hg0]
    by_cases hc : c = 46
    · have g46 := h46.2 hc
      obtain ⟨P, hPd⟩ : ∃ P, P = v ++ [c] := ⟨_, rfl⟩
      have hs2 : s = P ++ r1 := by rw [hPd, hs]; simp
      have hP : P.length = v.length + 1 := by rw [hPd]; simp
      have hdig := fun K => l11Run_eq (α := α) N s P r1 hs2 (by omega) K hN
      have htl := congrArg List.length (dig_app r1)
      rw [List.length_append] at htl
      rw [hP] at hdig
      rw [if_pos hc]
      simp only [g46, decide_true, cond_true, succ_i (show v.length < 4611686018427387904 by omega), hdig]
      by_cases h0 : digT r1 = []
      · rw [if_pos h0]
        have z0 : (digT r1).length = 0 := by rw [h0]; rfl
        simp only [z0, Int.natCast_zero, decide_true, cond_true]
      · have hn : 0 < (digT r1).length := List.length_pos_iff.2 h0
        have z : ¬ (((digT r1).length : Nat) : Int) = 0 := by omega
        have w : IntKind.i64.wrap (((v.length + 1 : Nat) : Int) + (((digT r1).length : Nat) : Int)) = ((v.length + 1 + (digT r1).length : Nat) : Int) := by rw [wrap_i64 (by omega) (by omega)]; omega
        rw [if_neg h0]
        simp only [z, decide_false, cond_false, w]
    · have g46 : ¬ ((c.toNat : Nat) : Int) = 46 := fun q => hc (h46.1 q)
      rw [if_neg hc]
      simp only [g46, decide_false, cond_false]
theorem l11_J13 {α:Type} (N:Nat) (a:ByteArray) (n:Nat) (hn:n≤100000) (m:Bool) (k:ByteArray→Int→Bool→Option α):spec_LangNumOk_J13 N a (n:Int) m k=k a ((if m=true then n + 1 else n:Nat):Int) m:=by
 rw [spec_LangNumOk_J13.eq]
 unfold spec_LangNumOk_J13.b
 cases m
 ·rfl
 ·simp only [cond_true,succ_i (show n < 4611686018427387904 by omega),if_true]
theorem l11_exp {α : Type} (N : Nat) (s P l : List UInt8) (m : Bool) (hs : s = P ++ l) (hl : s.length ≤ 60) (k0 : Bool → Option α) (k1 : ByteArray → Int → Option α) (hN : 1048576 < N) (x : Int) (hx : x = ((P.length : Nat) : Int)) :
    spec_l11Run N (BA s) x (fun x130 => bif decide (x130 = 0) then k0 false else bif decide ((3 : Int) < x130) then k0 false else bif decide (x < 0) then none else
      match ((BA s)[x.toNat]? : Option UInt8) with
      | some x133 => bif decide (((x133.toNat : Nat) : Int) = 48) then (bif decide ((1 : Int) < x130) then k0 false else bif m then k0 false else bif decide (x130 = 3) then
          (bif decide ((0 : Int) ≤ IntKind.i64.wrap (x + x130)) then bif decide (IntKind.i64.wrap (x + x130) ≤ (((BA s).size : Nat) : Int)) then bif decide ((0 : Int) ≤ x) then bif decide (x ≤ ((IntKind.i64.wrap (x + x130)).toNat : Int)) then
            (bif !(ltS ((BA s).extract x.toNat (IntKind.i64.wrap (x + x130)).toNat) (⟨#[52, 48, 48]⟩ : ByteArray) || eqS ((BA s).extract x.toNat (IntKind.i64.wrap (x + x130)).toNat) (⟨#[52, 48, 48]⟩ : ByteArray)) then k0 false else k1 (BA s) (IntKind.i64.wrap (x + x130))) else none else none else none else none)
          else k1 (BA s) (IntKind.i64.wrap (x + x130)))
        else bif decide (x130 = 3) then
          (bif decide ((0 : Int) ≤ IntKind.i64.wrap (x + x130)) then bif decide (IntKind.i64.wrap (x + x130) ≤ (((BA s).size : Nat) : Int)) then bif decide ((0 : Int) ≤ x) then bif decide (x ≤ ((IntKind.i64.wrap (x + x130)).toNat : Int)) then
            (bif !(ltS ((BA s).extract x.toNat (IntKind.i64.wrap (x + x130)).toNat) (⟨#[52, 48, 48]⟩ : ByteArray) || eqS ((BA s).extract x.toNat (IntKind.i64.wrap (x + x130)).toNat) (⟨#[52, 48, 48]⟩ : ByteArray)) then k0 false else k1 (BA s) (IntKind.i64.wrap (x + x130))) else none else none else none else none)
          else k1 (BA s) (IntKind.i64.wrap (x + x130))
      | none => none) = match expS0 m l with
        | none => k0 false
        | some q => k1 (BA s) ((s.length - (digR l).length : Nat) : Int) := by
  subst hx
  have hlen : s.length = P.length + l.length := by rw [hs]; simp
  have htl := congrArg List.length (dig_app l)
  rw [List.length_append] at htl
  have hD := digT_all l
  rw [l11Run_eq N s P l hs (by omega) _ hN]
  by_cases h0 : (digT l).length = 0
  · have z : (((digT l).length : Nat) : Int) = 0 := by omega
    have e : expS0 m l = none := by unfold expS0; rw [if_pos (.inl h0)]
    simp only [z, decide_true, cond_true, e]
  have z : ¬ (((digT l).length : Nat) : Int) = 0 := by omega
  by_cases h3 : 3 < (digT l).length
  · have z3 : (3 : Int) < (((digT l).length : Nat) : Int) := by omega
    have e : expS0 m l = none := by unfold expS0; rw [if_pos (.inr (.inl h3))]
    simp only [z, z3, decide_true, decide_false, cond_true, cond_false, e]
  have z3 : ¬ (3 : Int) < (((digT l).length : Nat) : Int) := by omega
  obtain ⟨ch, hch⟩ : ∃ ch, l[0]? = some ch := ⟨_, List.getElem?_eq_getElem (show 0 < l.length by omega)⟩
  have hg : s[P.length]? = some ch := by
    have := app_get (pre := P) (l := l) (j := 0)
    rw [← hs, Nat.add_zero] at this
    rw [this, hch]
  have h48 : ((ch.toNat : Nat) : Int) = 48 ↔ ch = 48 := u8_eq (a := ch) (n := 48) (by omega)
  have hw : IntKind.i64.wrap ((P.length : Int) + (((digT l).length : Nat) : Int)) = ((s.length - (digR l).length : Nat) : Int) := by rw [wrap_i64 (by omega) (by omega)]; omega
  have c1 : ((s.length - (digR l).length : Nat) : Int) ≤ ((s.length : Nat) : Int) := by omega
  have c2 : (P.length : Int) ≤ ((s.length - (digR l).length : Nat) : Int) := by omega
  have hext : (s.drop P.length).take (s.length - (digR l).length - P.length) = digT l := by
    have e1 : s.drop P.length = l := by rw [hs]; simp
    rw [e1, show s.length - (digR l).length - P.length = (digT l).length by omega]
    exact take_dig' l
  simp only [z, z3, decide_false, cond_false, cast_neg, Int.toNat_natCast, BA_get, hg, hw, cast_nn, cond_true, BA_size, c1, c2, decide_true, BA_extract, hext]
  have enough : ¬ (ch = 48 ∧ (1 < (digT l).length ∨ m = true)) → expS0 m l = if 400 < valT (digT l) then none else some (if m = true then -(valT (digT l) : Int) else (valT (digT l) : Int)) := by
    intro hc
    unfold expS0
    by_cases h4 : 400 < valT (digT l)
    · rw [if_pos (.inr (.inr (.inr (.inr h4)))), if_pos h4]
    · rw [if_neg, if_neg h4]
      rintro (q | q | ⟨q, q'⟩ | ⟨q, q'⟩ | q)
      · exact h0 q
      · exact h3 q
      · rw [hch] at q'; simp only [Option.some.injEq] at q'; exact hc ⟨q', .inl q⟩
      · rw [hch] at q'; simp only [Option.some.injEq] at q'; exact hc ⟨q', .inr q⟩
      · exact h4 q
  have fin : ¬ (ch = 48 ∧ (1 < (digT l).length ∨ m = true)) → (bif decide ((((digT l).length : Nat) : Int) = 3) then (bif !(ltS (BA (digT l)) (⟨#[52, 48, 48]⟩ : ByteArray) || eqS (BA (digT l)) (⟨#[52, 48, 48]⟩ : ByteArray)) then k0 false else k1 (BA s) ((s.length - (digR l).length : Nat) : Int)) else k1 (BA s) ((s.length - (digR l).length : Nat) : Int)) = match expS0 m l with
        | none => k0 false
        | some q => k1 (BA s) ((s.length - (digR l).length : Nat) : Int) := by
    intro hc
    rw [enough hc]
    by_cases e3 : (digT l).length = 3
    · have g3 : (((digT l).length : Nat) : Int) = 3 := by omega
      rw [le400 hD e3]
      simp only [g3, decide_true, cond_true]
      by_cases h4 : 400 < valT (digT l)
      · have : ¬ valT (digT l) ≤ 400 := by omega
        simp only [this, decide_false, Bool.not_false, cond_true, if_pos h4]
      · have : valT (digT l) ≤ 400 := by omega
        simp only [this, decide_true, Bool.not_true, cond_false, if_neg h4]
    · have g3 : ¬ (((digT l).length : Nat) : Int) = 3 := by omega
      have := val_le hD (by omega)
      simp only [g3, decide_false, cond_false, if_neg (show ¬ 400 < valT (digT l) by omega)]
  by_cases hc : ch = 48
  · have g48 := h48.2 hc
    simp only [g48, decide_true, cond_true]
    by_cases h1 : 1 < (digT l).length
    · have z1 : (1 : Int) < (((digT l).length : Nat) : Int) := by omega
      have e : expS0 m l = none := by unfold expS0; rw [if_pos (.inr (.inr (.inl ⟨h1, by rw [hch, hc]⟩)))]
      simp only [z1, decide_true, cond_true, e]
    · have z1 : ¬ (1 : Int) < (((digT l).length : Nat) : Int) := by omega
      simp only [z1, decide_false, cond_false]
      by_cases hm : m = true
      · have e : expS0 m l = none := by unfold expS0; rw [if_pos (.inr (.inr (.inr (.inl ⟨hm, by rw [hch, hc]⟩))))]
        rw [e, hm]; rfl
      · have f := fin (by rintro ⟨_, q | q⟩ <;> contradiction)
        have hm' : m = false := by simpa using hm
        rw [← f, hm']; rfl
  · have g48 : ¬ ((ch.toNat : Nat) : Int) = 48 := fun q => hc (h48.1 q)
    simp only [g48, decide_false, cond_false]
    exact fin (fun q => hc q.1)
theorem l11_J10 {α : Type} (N : Nat) (s pre r2 : List UInt8) (hs : s = pre ++ r2) (hl : s.length ≤ 60) (k0 : Bool → Option α) (k1 : ByteArray → Int → Option α) (hN : 1048576 < N) :
    spec_LangNumOk_J10 N (BA s) ((pre.length : Nat) : Int) k0 k1 = match (generalizing := false) r2 with
      | [] => k1 (BA s) ((pre.length : Nat) : Int)
      | c :: r3 => if c = 101 then (match expS0 (minusI r3).1 (minusI r3).2 with
        | none => k0 false
        | some q => k1 (BA s) ((s.length - (digR (minusI r3).2).length : Nat) : Int)) else k1 (BA s) ((pre.length : Nat) : Int) := by
  rw [spec_LangNumOk_J10.eq]
  unfold spec_LangNumOk_J10.b
  cases r2 with
  | nil =>
    have hlen : s.length = pre.length := by rw [hs]; simp
    simp only [BA_size, cast_nlt (show ¬ pre.length < s.length by omega), cond_false]
  | cons c r3 =>
    have hlen : s.length = pre.length + (r3.length + 1) := by rw [hs]; simp
    have hg0 : (BA s)[pre.length]? = some c := by
      have := app_get (pre := pre) (l := c :: r3) (j := 0)
      rw [← hs] at this
      rw [BA_get]
      simpa using this
    have h101 : ((c.toNat : Nat) : Int) = 101 ↔ c = 101 := u8_eq (a := c) (n := 101) (by omega)
    have l1 : decide ((pre.length : Int) < (((BA s).size : Nat) : Int)) = true := by rw [BA_size]; exact cast_lt (by omega)
    simp only [l1, cond_true, cast_neg, cond_false, Int.toNat_natCast, hg0]
    by_cases hc : ¬ c = 101
    · have g101 : ¬ ((c.toNat : Nat) : Int) = 101 := fun q => hc (h101.1 q)
      simp only [g101, hc, decide_false, cond_false, if_false]
    have hc : c = 101 := Classical.not_not.1 hc
    have g101 := h101.2 hc
    simp only [g101, decide_true, cond_true, if_pos hc, succ_i (show pre.length < 4611686018427387904 by omega)]
    cases r3 with
    | nil =>
      have hm : minusI [] = (false, []) := rfl
      have l2 : decide (((pre.length + 1 : Nat) : Int) < (((BA s).size : Nat) : Int)) = false := by rw [BA_size]; exact cast_nlt (by simp at hlen; omega)
      simp only [l2, cond_false, l11_J13 N _ (pre.length + 1) (show pre.length + 1 ≤ 100000 by omega), Bool.false_eq_true, if_false, hm]
      exact l11_exp N s (pre ++ [c]) [] false (by rw [hs]; simp) hl k0 k1 hN _ (by simp)
    | cons d r4 =>
      have hg1 : (BA s)[pre.length + 1]? = some d := by
        have := app_get (pre := pre) (l := c :: d :: r4) (j := 1)
        rw [← hs] at this
        rw [BA_get]
        simpa using this
      have h45 : ((d.toNat : Nat) : Int) = 45 ↔ d = 45 := u8_eq (a := d) (n := 45) (by omega)
      have hll : (d :: r4).length = r4.length + 1 := rfl
      have l2 : decide (((pre.length + 1 : Nat) : Int) < (((BA s).size : Nat) : Int)) = true := by rw [BA_size]; exact cast_lt (by omega)
      simp only [l2, cond_true, cast_neg, cond_false, Int.toNat_natCast, hg1]
      by_cases hd : d = 45
      · have g45 := h45.2 hd
        have hm : minusI (d :: r4) = (true, r4) := by rw [hd]; rfl
        simp only [g45, decide_true, l11_J13 N _ (pre.length + 1) (show pre.length + 1 ≤ 100000 by omega), if_true, hm, cond_true]
        exact l11_exp N s (pre ++ [c, d]) r4 true (by rw [hs]; simp) hl k0 k1 hN _ (by simp; omega)
      · have g45 : ¬ ((d.toNat : Nat) : Int) = 45 := fun q => hd (h45.1 q)
        have hm : minusI (d :: r4) = (false, d :: r4) := by
          unfold minusI; rw [if_neg]; simpa using hd
        simp only [g45, decide_false, l11_J13 N _ (pre.length + 1) (show pre.length + 1 ≤ 100000 by omega), Bool.false_eq_true, if_false, hm, cond_false]
        exact l11_exp N s (pre ++ [c]) (d :: r4) false (by rw [hs]; simp) hl k0 k1 hN _ (by simp)
theorem l11_tail {α : Type} (N : Nat) (s pre r2 v e : List UInt8) (hs : s = pre ++ r2) (hl : s.length ≤ 60) (hN : 1048576 < N) (k : Bool → Option α) :
    spec_LangNumOk_J10 N (BA s) ((pre.length : Nat) : Int) (fun x => k x) (fun x y => k (decide (y = ((x.size : Nat) : Int)))) = k (tailS v e r2).isSome := by
  rw [l11_J10 N s pre r2 hs hl _ _ hN]
  have hlen : s.length = pre.length + r2.length := by rw [hs]; simp
  cases r2 with
  | nil =>
    have c : ((pre.length : Nat) : Int) = ((s.length : Nat) : Int) := by simp at hlen; omega
    simp only [BA_size, c, decide_true, tailS, Option.isSome_some]
  | cons c r3 =>
    have hlen : s.length = pre.length + (r3.length + 1) := hlen
    by_cases hc : c = 101
    · simp only [hc, if_true, tailS]
      generalize hm : minusI r3 = mi
      have hml : mi.2.length ≤ r3.length := by
        rw [← hm]; unfold minusI; split <;> simp
      obtain ⟨m, l⟩ := mi
      simp only at hml ⊢
      have htl := congrArg List.length (dig_app l)
      rw [List.length_append] at htl
      rw [expS0_some]
      cases he : expS0 m l with
      | none => simp only [ite_self, Option.map_none, Option.isSome_none]
      | some q =>
        by_cases h0 : digR l = []
        · have c : ((s.length - (digR l).length : Nat) : Int) = ((s.length : Nat) : Int) := by rw [h0]; simp
          simp only [BA_size, c, decide_true, if_pos h0, Option.map_some, Option.isSome_some]
        · have hn : 0 < (digR l).length := List.length_pos_iff.2 h0
          have c : ¬ ((s.length - (digR l).length : Nat) : Int) = ((s.length : Nat) : Int) := by omega
          simp only [BA_size, c, decide_false, if_neg h0, Option.map_none, Option.isSome_none]
    · have c2 : ¬ ((pre.length : Nat) : Int) = ((s.length : Nat) : Int) := by omega
      simp only [hc, if_false, tailS, BA_size, c2, decide_false, Option.isSome_none]
def langNum (s:List UInt8):Bool:=(litS s).isSome && decide (s.length≤60)
theorem spec_LangNumOk_eq {α : Type} (N : Nat) (s : List UInt8) (hl' : s.length ≤ 100000) (hN : 1048576 < N) (k : Bool → Option α) : spec_LangNumOk N (BA s) k = k (langNum s) := by
  have hs := dig_app s
  have hlen := congrArg List.length hs
  rw [List.length_append] at hlen
  have hdig := fun K => l11Run_eq (α := α) N s [] s rfl hl' K hN
  simp only [List.length_nil, Int.natCast_zero] at hdig
  rw [spec_LangNumOk.eq]
  unfold spec_LangNumOk.b langNum
  simp only [BA_size, hdig]
  by_cases hl : ¬ s.length ≤ 60
  · have c60 : (60 : Int) < ((s.length : Nat) : Int) := by omega
    simp only [c60, hl, decide_true, decide_false, cond_true, Bool.and_false]
  have hl : s.length ≤ 60 := Classical.not_not.1 hl
  have c60 : ¬ (60 : Int) < ((s.length : Nat) : Int) := by omega
  simp only [c60, hl, decide_true, decide_false, cond_false, Bool.and_true]
  by_cases h0 : (digT s).length = 0
  · have z : (((digT s).length : Nat) : Int) = 0 := by omega
    have e : litS s = none := by unfold litS; rw [if_pos (.inl h0)]
    simp only [z, decide_true, cond_true, e, Option.isSome_none]
  have z : ¬ (((digT s).length : Nat) : Int) = 0 := by omega
  obtain ⟨ch, hch⟩ : ∃ ch, s[0]? = some ch := ⟨_, List.getElem?_eq_getElem (show 0 < s.length by omega)⟩
  have h48 : ((ch.toNat : Nat) : Int) = 48 ↔ ch = 48 := u8_eq (a := ch) (n := 48) (by omega)
  by_cases hbad : 1 < (digT s).length ∧ ch = 48
  · have z1 : (1 : Int) < (((digT s).length : Nat) : Int) := by omega
    have g48 := h48.2 hbad.2
    have e : litS s = none := by unfold litS; rw [if_pos (.inr ⟨hbad.1, by rw [hch, hbad.2]⟩)]
    simp only [z, decide_false, cond_false, z1, decide_true, cond_true, BA_get, hch, g48, e, Option.isSome_none]
  have elit : litS s = match digR s with
      | [] => some (digT s, [], 0)
      | c :: r => if c = 46 then (if digT r = [] then none else tailS (digT s) (digT r) (digR r)) else tailS (digT s) [] (c :: r) := by
    unfold litS
    have hcn : ¬ ((digT s).length = 0 ∨ (1 < (digT s).length ∧ s[0]? = some 48)) := by
      rintro (q | ⟨q, q'⟩)
      · exact h0 q
      · rw [hch] at q'; simp only [Option.some.injEq] at q'; exact hbad ⟨q, q'⟩
    rw [if_neg hcn]
    rfl
  have J := fun k0 k1 => l11_J5 (α := α) N s (digT s) (digR s) hs.symm hl k0 k1 hN
  have main : spec_LangNumOk_J5 N (BA s) (((digT s).length : Nat) : Int) (fun x => k x) (fun x y => spec_LangNumOk_J10 N x y (fun x => k x) (fun x y => k (decide (y = ((x.size : Nat) : Int))))) = k (litS s).isSome := by
    rw [J, elit]
    generalize hr : digR s = r at *
    cases r with
    | nil => exact l11_tail N s (digT s) [] (digT s) [] (by rw [hs]) hl hN k
    | cons c r1 =>
      by_cases hc : c = 46
      · subst hc
        by_cases h1 : digT r1 = []
        · simp only [h1, if_true, Option.isSome_none]
        · have hs3 : s = (digT s ++ 46 :: digT r1) ++ digR r1 := by
            have := dig_app r1
            conv => lhs; rw [← hs, ← this]
            simp
          have e1 := l11_tail (α := α) N s _ (digR r1) (digT s) (digT r1) hs3 hl hN k
          have hll : (digT s ++ 46 :: digT r1).length = (digT s).length + 1 + (digT r1).length := by simp; omega
          rw [hll] at e1
          simp only [if_true, if_neg h1]
          exact e1
      · have e1 := l11_tail (α := α) N s (digT s) (c :: r1) (digT s) [] hs.symm hl hN k
        simp only [if_neg hc]
        exact e1
  rw [← main]
  by_cases h1 : 1 < (digT s).length
  · have z1 : (1 : Int) < (((digT s).length : Nat) : Int) := by omega
    have g48 : ¬ ((ch.toNat : Nat) : Int) = 48 := fun q => hbad ⟨h1, h48.1 q⟩
    simp only [z, decide_false, cond_false, z1, decide_true, cond_true, BA_get, hch, g48]
  · have z1 : ¬ (1 : Int) < (((digT s).length : Nat) : Int) := by omega
    simp only [z, decide_false, cond_false, z1]
theorem impl_LangNumOk_eq {α:Type} (N:Nat) (s:List UInt8) (k:Bool→Option α) (hs:s.length≤2000000) (hN:2000000 < N):impl_LangNumOk N (BA s) k=k (langNum s):=by
 rw [impl_LangNumOk.eq]
 unfold impl_LangNumOk.b langNum
 rw [impl_DecOk_eq N s _ hs hN,lit_eq]
 by_cases h:s.length≤60
 ·have c:((s.length:Nat):Int)≤60:=by omega
  cases (litS s).isSome <;> simp only [BA_size,h,c,decide_true,Bool.and_true,Bool.and_false,cond_true,cond_false]
 ·have c:¬ ((s.length:Nat):Int)≤60:=by omega
  cases (litS s).isSome <;> simp only [BA_size,h,c,decide_false,Bool.and_true,Bool.and_false,cond_true,cond_false]
end Go.Proofs.YtnhbcpmmdblkjaaDoorAm
