/-
  The language's tokens: what both texts make of a line.
-/
import Derived.Test.YtnhbcpmmdblkjaaDoorIb
namespace Go.Proofs.YtnhbcpmmdblkjaaDoorAm
open Go
set_option linter.unusedVariables false
set_option linter.unusedSimpArgs false

theorem l11Sign_J4 {α:Type} (N:Nat) (a:ByteArray) (j x:Int) (k:ByteArray→Int→Bool→Option α):spec_l11Sign_J4 N a j x k=k a j (isSg x):=by
 rw [spec_l11Sign_J4.eq]; unfold spec_l11Sign_J4.b
 rw [spec_l11Sign_J5.eq]; unfold spec_l11Sign_J5.b
 rw [spec_l11Sign_J6.eq]; unfold spec_l11Sign_J6.b
 rw [spec_l11Sign_J7.eq]; unfold spec_l11Sign_J7.b
 rw [spec_l11Sign_J8.eq]; unfold spec_l11Sign_J8.b
 rw [spec_l11Sign_J9.eq]; unfold spec_l11Sign_J9.b
 rw [spec_l11Sign_J10.eq]; unfold spec_l11Sign_J10.b
 rw [spec_l11Sign_J11.eq]; unfold spec_l11Sign_J11.b isSg
 simp only
 cases decide (x=43)
 ·cases decide (x=45)
  ·cases decide (x=42)
   ·cases decide (x=47)
    ·cases decide (x=94)
     ·cases decide (x=40)
      ·cases decide (x=41)
       ·cases decide (x=44) <;> rfl
       ·rfl
      ·rfl
     ·rfl
    ·rfl
   ·rfl
  ·rfl
 ·rfl
theorem l11Sign_eq {α : Type} (N : Nat) (s p r : List UInt8) (c : UInt8) (hs : s = p ++ c :: r) (hl : s.length ≤ 100000) (k : ByteArray → Option α) : spec_l11Sign N (BA s) (p.length : Int) k = k (BA (signL (c :: r))) := by
  have hlen : s.length = p.length + (r.length + 1) := by rw [hs]; simp
  have hg : s[p.length]? = some c := by rw [hs, List.getElem?_append_right (by omega)]; simp
  have hd : s.drop p.length = c :: r := by rw [hs]; simp
  have c1 : decide (((p.length + 1 : Nat) : Int) ≤ ((s.length : Nat) : Int)) = true := decide_eq_true (by omega)
  have c2 : decide ((p.length : Int) ≤ ((p.length + 1 : Nat) : Int)) = true := decide_eq_true (by omega)
  have t1 : (c :: r).take (p.length + 1 - p.length) = [c] := by rw [Nat.add_sub_cancel_left]; rfl
  have h60 : ((c.toNat : Nat) : Int) = 60 ↔ c = 60 := u8_eq (a := c) (n := 60) (by omega)
  have h62 : ((c.toNat : Nat) : Int) = 62 ↔ c = 62 := u8_eq (a := c) (n := 62) (by omega)
  rw [spec_l11Sign.eq]
  unfold spec_l11Sign.b
  rw [signL_cons]
  have one : (bif isSg ((c.toNat : Nat) : Int) then k (BA [c]) else k (BA [])) = k (BA (if isSg ((c.toNat : Nat) : Int) = true then [c] else [])) := by
    cases isSg ((c.toNat : Nat) : Int) <;> rfl
  cases r with
  | nil =>
    have n1 : decide (((p.length + 1 : Nat) : Int) < ((s.length : Nat) : Int)) = false := decide_eq_false (by simp at hlen; omega)
    have cc : ¬ ((c = 60 ∨ c = 62) ∧ ([] : List UInt8)[0]? = some 61) := by simp
    rw [if_neg cc]
    simp only [succ_i (show p.length < 4611686018427387904 by omega), BA_size, n1, cond_false, cast_neg, Int.toNat_natCast, BA_get, hg, l11Sign_J4, cast_nn, cond_true, c1, c2, BA_extract, hd, t1, BA_empty]
    exact one
  | cons a r =>
    have n1 : decide (((p.length + 1 : Nat) : Int) < ((s.length : Nat) : Int)) = true := decide_eq_true (by simp at hlen; omega)
    have hg1 : s[p.length + 1]? = some a := by rw [hs, List.getElem?_append_right (by omega), Nat.add_sub_cancel_left]; rfl
    have h61 : ((a.toNat : Nat) : Int) = 61 ↔ a = 61 := u8_eq (a := a) (n := 61) (by omega)
    have w2 : IntKind.i64.wrap ((p.length : Int) + 2) = ((p.length + 2 : Nat) : Int) := by rw [wrap_i64 (by omega) (by omega)]; omega
    have c3 : decide (((p.length + 2 : Nat) : Int) ≤ ((s.length : Nat) : Int)) = true := decide_eq_true (by simp at hlen; omega)
    have c4 : decide ((p.length : Int) ≤ ((p.length + 2 : Nat) : Int)) = true := decide_eq_true (by omega)
    have t2 : (c :: a :: r).take (p.length + 2 - p.length) = [c, a] := by rw [Nat.add_sub_cancel_left]; rfl
    have g0 : (a :: r)[0]? = some a := rfl
    simp only [succ_i (show p.length < 4611686018427387904 by omega), BA_size, n1, cond_true, cond_false, cast_neg, Int.toNat_natCast, BA_get, hg, hg1, l11Sign_J4, cast_nn, c1, c2, BA_extract, hd, t1, BA_empty, w2, c3, c4, t2, one, g0, Option.some.injEq]
    by_cases ha : a = 61
    · subst ha
      by_cases x60 : c = 60
      · simp only [h60.2 x60, decide_true, cond_true, (h61.2 rfl), x60, true_or, and_self, if_true]
        rfl
      · have y60 : ¬ ((c.toNat : Nat) : Int) = 60 := fun w => x60 (h60.1 w)
        by_cases x62 : c = 62
        · simp only [y60, h62.2 x62, decide_true, decide_false, cond_true, cond_false, (h61.2 rfl), x62, or_true, and_self, if_true]
          rfl
        · have y62 : ¬ ((c.toNat : Nat) : Int) = 62 := fun w => x62 (h62.1 w)
          simp only [y60, y62, x60, x62, decide_false, cond_false, or_self, false_and, if_false]
    · have y61 : ¬ ((a.toNat : Nat) : Int) = 61 := fun w => ha (h61.1 w)
      simp only [y61, ha, decide_false, cond_false, and_false, if_false]
      cases decide (((c.toNat : Nat) : Int) = 60) <;> cases decide (((c.toNat : Nat) : Int) = 62) <;> rfl
def isWd (c:UInt8):Bool:=isLet c || isDig c
def plainW (w:List UInt8):Bool:=w.all isWd && (decide (1≤w.length) && decide (w.length≤8)) && (match w with | []=>false | c::_=>isLet c)
theorem wd_let {c:UInt8} (h:isLet c=true):isWd c=true:=by unfold isWd; rw [h]; rfl
theorem let_dig {c:UInt8} (h:isLet c=true):isDig c=false:=by
 unfold isLet at h
 unfold isDig
 simp only [Bool.and_eq_true,decide_eq_true_eq] at h
 have:¬ c.toNat≤57:=by omega
 simp [this]
theorem l11Plain_loop {α : Type} (N : Nat) (w : List UInt8) (hl : w.length ≤ 100000) (k0 : Bool → Option α) (k1 : Option α) : ∀ (r q : List UInt8) (f : Nat), w = q ++ r → r.length < f →
    spec_l11Plain_L0 N f (BA w) (q.length : Int) k0 k1 = if r.all isWd = true then k1 else k0 false := by
  intro r
  induction r with
  | nil =>
    intro q f h1 hf
    obtain ⟨f, rfl⟩ : ∃ m, f = m + 1 := ⟨f - 1, by omega⟩
    have hl : w.length = q.length := by rw [h1]; simp
    rw [spec_l11Plain_L0.succ]
    unfold spec_l11Plain_L0r
    simp only [BA_size, cast_nlt (show ¬ q.length < w.length by omega), cond_false, List.all_nil, if_true]
  | cons a r ih =>
    intro q f h1 hf
    obtain ⟨f, rfl⟩ : ∃ m, f = m + 1 := ⟨f - 1, by omega⟩
    have hl : w.length = q.length + (r.length + 1) := by rw [h1]; simp
    have hg : w[q.length]? = some a := by rw [h1, List.getElem?_append_right (by omega)]; simp
    have hql : (q ++ [a]).length = q.length + 1 := by simp
    have next := ih (q ++ [a]) f (by rw [h1]; simp) (by simpa using hf)
    rw [hql] at next
    rw [spec_l11Plain_L0.succ]
    unfold spec_l11Plain_L0r
    simp only [BA_size, cast_lt (show q.length < w.length by omega), cond_true, cast_neg, cond_false, Int.toNat_natCast, BA_get, hg, spec_l11Letter_eq, l11Digit_eq, succ_i (show q.length < 4611686018427387904 by omega), next, List.all_cons, isWd]
    rcases Bool.eq_false_or_eq_true (isLet a) with q1 | q1
    · simp [q1]
    · rcases Bool.eq_false_or_eq_true (isDig a) with q2 | q2 <;> simp [q1, q2]
theorem l11Plain_eq {α : Type} (N : Nat) (w : List UInt8) (hl : w.length ≤ 100000) (k : Bool → Option α) (hN : 1048576 < N) : spec_l11Plain N (BA w) k = k (plainW w) := by
  rw [spec_l11Plain.eq]
  unfold spec_l11Plain.b
  cases w with
  | nil => rfl
  | cons c r =>
    have n1 : decide (((((c :: r).length : Nat)) : Int) < 1) = false := decide_eq_false (by simp only [List.length_cons]; omega)
    simp only [BA_size, n1, cond_false, BA_get, List.getElem?_cons_zero, spec_l11Letter_eq]
    have L := l11Plain_loop (α := α) N (c :: r) hl (fun x => k x) (k true) r [c] N rfl (by simp at hl; omega)
    have e1 : ([c].length : Nat) = 1 := rfl
    rw [e1] at L
    have L : spec_l11Plain_L0 N N (BA (c :: r)) (1 : Int) (fun x => k x) (k true) = if r.all isWd = true then k true else k false := L
    rw [L]
    unfold plainW
    have g1 : decide (1 ≤ (c :: r).length) = true := decide_eq_true (by simp)
    rw [g1]
    by_cases h8 : (c :: r).length ≤ 8
    · have c8 : decide ((8 : Int) < (((c :: r).length : Nat) : Int)) = false := decide_eq_false (by omega)
      rw [c8, decide_eq_true h8]
      simp only [cond_false, List.all_cons]
      cases hL : isLet c
      · simp
      · rw [wd_let hL]
        cases r.all isWd <;> simp
    · have c8 : decide ((8 : Int) < (((c :: r).length : Nat) : Int)) = true := decide_eq_true (by omega)
      rw [c8, decide_eq_false h8]
      simp
theorem wordOk_loop {α : Type} (N : Nat) (w : List UInt8) (hl : w.length ≤ 100000) (k0 : Bool → Option α) (k1 : ByteArray → Option α) : ∀ (r q : List UInt8) (f : Nat), w = q ++ r → r.length < f →
    impl_wordOk_L0 N f (BA w) (w.length : Int) (q.length : Int) k0 k1 = if r.all isWd = true then k1 (BA w) else k0 false := by
  intro r
  induction r with
  | nil =>
    intro q f h1 hf
    obtain ⟨f, rfl⟩ : ∃ m, f = m + 1 := ⟨f - 1, by omega⟩
    have hl : w.length = q.length := by rw [h1]; simp
    rw [impl_wordOk_L0.succ]
    unfold impl_wordOk_L0r
    simp only [cast_nlt (show ¬ q.length < w.length by omega), cond_false, List.all_nil, if_true]
  | cons a r ih =>
    intro q f h1 hf
    obtain ⟨f, rfl⟩ : ∃ m, f = m + 1 := ⟨f - 1, by omega⟩
    have hl : w.length = q.length + (r.length + 1) := by rw [h1]; simp
    have hg : w[q.length]? = some a := by rw [h1, List.getElem?_append_right (by omega)]; simp
    have hql : (q ++ [a]).length = q.length + 1 := by simp
    have next := ih (q ++ [a]) f (by rw [h1]; simp) (by simpa using hf)
    rw [hql] at next
    rw [impl_wordOk_L0.succ]
    unfold impl_wordOk_L0r
    simp only [cast_lt (show q.length < w.length by omega), cond_true, cast_neg, cond_false, Int.toNat_natCast, BA_get, hg, impl_isLetter_eq, impl_isFigure_eq, succ_i (show q.length < 4611686018427387904 by omega), next, List.all_cons, isWd]
    rcases Bool.eq_false_or_eq_true (isLet a) with q1 | q1
    · simp [q1]
    · rcases Bool.eq_false_or_eq_true (isDig a) with q2 | q2 <;> simp [q1, q2]
theorem wordOk_eq {α : Type} (N : Nat) (w : List UInt8) (hl : w.length ≤ 100000) (k : Bool → Option α) (hN : 1048576 < N) : impl_wordOk N (BA w) k = k (plainW w) := by
  rw [impl_wordOk.eq]
  unfold impl_wordOk.b
  have L := wordOk_loop (α := α) N w hl (fun x => k x) (fun x592 =>
    impl_in N ((x592.size : Nat) : Int) (1 : Int) (8 : Int) (fun x599 => bif x599 then (match (x592[0]? : Option UInt8) with
      | some x600 => impl_isLetter N ((x600.toNat : Nat) : Int) (fun x602 => k x602)
      | none => none) else k false)) w [] N rfl (by omega)
  simp only [BA_size]
  refine Eq.trans L ?_
  unfold plainW
  cases hA : w.all isWd
  · simp
  · simp only [if_true, BA_size, Bool.true_and]
    rw [impl_in.eq]
    unfold impl_in.b
    cases w with
    | nil => rfl
    | cons c r =>
      have g1 : decide ((1 : Int) ≤ (((c :: r).length : Nat) : Int)) = true := decide_eq_true (by simp only [List.length_cons]; omega)
      have g2 : decide (1 ≤ (c :: r).length) = true := decide_eq_true (by simp)
      rw [g1, g2]
      by_cases h8 : (c :: r).length ≤ 8
      · have c8 : decide ((((c :: r).length : Nat) : Int) ≤ 8) = true := decide_eq_true (by omega)
        rw [c8, decide_eq_true h8]
        simp only [cond_true, BA_get, List.getElem?_cons_zero, impl_isLetter_eq, Bool.and_self, Bool.true_and]
      · have c8 : decide ((((c :: r).length : Nat) : Int) ≤ 8) = false := decide_eq_false (by omega)
        rw [c8, decide_eq_false h8]
        simp only [cond_true, cond_false, Bool.and_false, Bool.false_and]
def stB (b:Bool):Int:=if b=true then 3 else 0
theorem tok_J15 {α:Type} (N:Nat) (a:ByteArray) (bad:Bool) (j:Int) (acc:List Tok) (x:Int) (w:List UInt8) (hw:w.length≤100000) (hN:1048576 < N) (k:ByteArray→Int→Int→List Tok→Tok→Option α) :
  spec_LangTokens_J15 N a (stB bad) j acc (x,(BA w,())) k=k a (stB (bad || !langNum w)) j acc (x,(BA w,())):=by
 rw [spec_LangTokens_J15.eq]
 unfold spec_LangTokens_J15.b
 cases bad
 ·have:decide (stB false=0)=true:=rfl
  simp only [this,cond_true,spec_LangNumOk_eq N w hw hN,Bool.false_or]
  cases langNum w <;> rfl
 ·have:decide (stB true=0)=false:=rfl
  simp only [this,cond_false,Bool.true_or]
theorem tok_J12 {α:Type} (N:Nat) (c:UInt8) (r:List UInt8) (bad:Bool) (acc:List Tok) (x:Int) (w:List UInt8) (hw:w.length≤100000) (hN:2000000 < N) (k:ByteArray→Bool→List Tok→Tok→Option α) :
  impl_LangTokens_J12 N (BA (c::r)) bad acc (x,(BA w,())) k=if isDig c=true then k (BA (c::r)) (bad || !langNum w) acc (2,(BA w,())) else k (BA (c::r)) bad acc (x,(BA w,())):=by
 rw [impl_LangTokens_J12.eq]
 unfold impl_LangTokens_J12.b
 simp only [BA_get,List.getElem?_cons_zero,impl_isFigure_eq]
 cases isDig c
 ·rfl
 ·cases bad
  ·simp only [cond_true,cond_false,if_true,impl_LangNumOk_eq N w _ (show w.length≤2000000 by omega) hN,Bool.false_or]
  ·rfl
noncomputable def endS {α:Type} (k:Int→List Tok→Option α):Int→List Tok→Option α:=fun x y=>bif !(decide (x=0)) then k x [] else bif decide ((300:Int) < ((y.length:Nat):Int)) then k 5 [] else k 0 y
noncomputable def endI {α:Type} (N:Nat) (k:Int→List Tok→Option α):Bool→List Tok→Option α:=fun x y=>bif x then k 3 [] else bif decide ((300:Int) < ((y.length:Nat):Int)) then k 5 [] else slices_Clip_impl_LangToken_impl_LangToken N y (fun z=>k 0 z)
theorem tok_clip {α:Type} (N:Nat) (y:List Tok) (k:List Tok→Option α):slices_Clip_impl_LangToken_impl_LangToken N y k=k y:=by
 rw [slices_Clip_impl_LangToken_impl_LangToken.eq]
 unfold slices_Clip_impl_LangToken_impl_LangToken.b
 have c:decide (((y.length:Nat):Int)≤((y.length:Nat):Int))=true:=by simp
 simp only [cast_nn,cond_true,c,Int.toNat_natCast,List.take_length]
theorem BA_from' (l:List UInt8) (i:Nat):(BA l).extract i l.length=BA (l.drop i):=by have:=BA_from l i; rwa [BA_size] at this
theorem tokens_loop (s t : List UInt8) (ht : t = [] ∨ ∃ v, t = 35 :: v) (hs : s.length ≤ 100000) : ∀ (n : Nat) (l p : List UInt8) (bad : Bool) (acc : List Tok), l.length ≤ n → s = p ++ (l ++ t) → (∀ x ∈ l, x ≠ 35) → acc.length + l.length ≤ 100000 →
    ∃ (e : Int) (o : List Tok), o.length ≤ 300 ∧ ∀ {α : Type} (N f g : Nat) (k : Int → List Tok → Option α), 2000000 < N → l.length < f → l.length < g →
      spec_LangTokens_L0 N f (BA s) (stB bad) (p.length : Int) acc (fun a b => k a b) (endS k) = k e o ∧ impl_LangTokens_L0 N g (BA l) bad acc (fun a b => k a b) (endI N k) = k e o := by
  intro n
  induction n with
  | zero =>
    intro l p bad acc h1 h2 h3 h4
    have hl0 : l = [] := List.eq_nil_of_length_eq_zero (by omega)
    subst hl0
    have fin : ∃ (e : Int) (o : List Tok), o.length ≤ 300 ∧ ∀ {α : Type} (N : Nat) (k : Int → List Tok → Option α), endS k (stB bad) acc = k e o ∧ endI N k bad acc = k e o := by
      cases bad
      · by_cases h : acc.length ≤ 300
        · refine ⟨0, acc, h, fun N k => ?_⟩
          have c : decide ((300 : Int) < ((acc.length : Nat) : Int)) = false := decide_eq_false (by omega)
          constructor
          · unfold endS; rw [c]; rfl
          · unfold endI; rw [c]; exact tok_clip N acc _
        · refine ⟨5, [], by simp, fun N k => ?_⟩
          have c : decide ((300 : Int) < ((acc.length : Nat) : Int)) = true := decide_eq_true (by omega)
          constructor
          · unfold endS; rw [c]; rfl
          · unfold endI; rw [c]; rfl
      · exact ⟨3, [], by simp, fun N k => ⟨rfl, rfl⟩⟩
    obtain ⟨e, o, he, hk⟩ := fin
    refine ⟨e, o, he, fun {α} N f g k hN hf hg => ?_⟩
    obtain ⟨f, rfl⟩ : ∃ m, f = m + 1 := ⟨f - 1, by omega⟩
    obtain ⟨g, rfl⟩ : ∃ m, g = m + 1 := ⟨g - 1, by omega⟩
    constructor
    · rw [← (hk N k).1, spec_LangTokens_L0.succ]
      unfold spec_LangTokens_L0r
      simp only [BA_size]
      rcases ht with rfl | ⟨v, rfl⟩
      · have : ¬ p.length < s.length := by rw [h2]; simp
        simp only [cast_nlt this, cond_false]
      · have hi : p.length < s.length := by rw [h2]; simp
        have hg : s[p.length]? = some 35 := by rw [h2, List.getElem?_append_right (by omega)]; simp
        have e35 : (!(decide ((((35 : UInt8).toNat : Nat) : Int) = 35))) = false := rfl
        simp only [cast_lt hi, cond_true, cast_neg, cond_false, Int.toNat_natCast, BA_get, hg, e35]
    · rw [← (hk N k).2, impl_LangTokens_L0.succ]
      unfold impl_LangTokens_L0r
      simp only [BA_empty, eqS_BA, decide_true, Bool.not_true, cond_false]
  | succ n ih =>
    intro l p bad acc h1 h2 h3 h4
    cases l with
    | nil => exact ih [] p bad acc (by simp) h2 h3 h4
    | cons c r =>
      have hlen : s.length = p.length + (r.length + 1 + t.length) := by rw [h2]; simp; omega
      have hg0 : s[p.length]? = some c := by rw [h2, List.getElem?_append_right (by omega)]; simp
      have hc35 : c ≠ 35 := h3 c (by simp)
      have h35 : ((c.toNat : Nat) : Int) = 35 ↔ c = 35 := u8_eq (a := c) (n := 35) (by omega)
      have h32 : ((c.toNat : Nat) : Int) = 32 ↔ c = 32 := u8_eq (a := c) (n := 32) (by omega)
      have y35 : ¬ ((c.toNat : Nat) : Int) = 35 := fun w => hc35 (h35.1 w)
      have hl' : r.length ≤ n := by simpa using h1
      have hrl : (c :: r).length = r.length + 1 := rfl
      rw [hrl] at h4
      have spec0 : ∀ {α : Type} (N f : Nat) (k0 k1 : Int → List Tok → Option α), spec_LangTokens_L0 N (f + 1) (BA s) (stB bad) (p.length : Int) acc k0 k1 = spec_LangTokens_L0r N (fun y0 y1 y2 y3 => spec_LangTokens_L0 N f y0 y1 y2 y3 k0 k1) k0 k1 (BA s) (stB bad) (p.length : Int) acc := fun N f k0 k1 => spec_LangTokens_L0.succ ..
      have impl0 : ∀ {α : Type} (N g : Nat) (k0 : Int → List Tok → Option α) (k1 : Bool → List Tok → Option α), impl_LangTokens_L0 N (g + 1) (BA (c :: r)) bad acc k0 k1 = impl_LangTokens_L0r N (fun y0 y1 y2 => impl_LangTokens_L0 N g y0 y1 y2 k0 k1) k0 k1 (BA (c :: r)) bad acc := fun N g k0 k1 => impl_LangTokens_L0.succ ..
      have ne : decide ((c :: r) = []) = false := by simp
      have s1 : decide ((p.length : Int) < ((s.length : Nat) : Int)) = true := cast_lt (by omega)
      by_cases x32 : c = 32
      · have hpl : (p ++ [c]).length = p.length + 1 := by simp
        obtain ⟨e, o, he, hk⟩ := ih r (p ++ [c]) bad acc hl' (by rw [h2]; simp) (fun x hx => h3 x (by simp [hx])) (by omega)
        refine ⟨e, o, he, fun {α} N f g k hN hf hg => ?_⟩
        rw [hrl] at hf hg
        obtain ⟨f, rfl⟩ : ∃ m, f = m + 1 := ⟨f - 1, by omega⟩
        obtain ⟨g, rfl⟩ : ∃ m, g = m + 1 := ⟨g - 1, by omega⟩
        have := hk N f g k hN (by omega) (by omega)
        rw [hpl] at this
        have l1 : decide ((1 : Int) ≤ (((c :: r).length : Nat) : Int)) = true := decide_eq_true (by rw [hrl]; omega)
        constructor
        · rw [← this.1, spec0]
          unfold spec_LangTokens_L0r
          simp only [BA_size, s1, cond_true, cast_neg, cond_false, Int.toNat_natCast, BA_get, hg0, y35, decide_false, Bool.not_false, h32.2 x32, decide_true, succ_i (show p.length < 4611686018427387904 by omega)]
          rfl
        · rw [← this.2, impl0]
          unfold impl_LangTokens_L0r
          simp only [BA_empty, eqS_BA, ne, Bool.not_false, cond_true, BA_get, List.getElem?_cons_zero, h32.2 x32, decide_true, BA_size, l1, BA_from', List.drop_succ_cons, List.drop_zero]
      have y32 : ¬ ((c.toNat : Nat) : Int) = 32 := fun w => x32 (h32.1 w)
      by_cases hword : isLet c = true ∨ isDig c = true
      · obtain ⟨m, hm⟩ : ∃ m, m = wordGo (isDig c) c r := ⟨_, rfl⟩
        have hml : m ≤ r.length := by rw [hm]; exact wordGo_le _ r c
        obtain ⟨w, hw⟩ : ∃ w, w = c :: r.take m := ⟨_, rfl⟩
        have hwl : w.length = m + 1 := by rw [hw]; simp; omega
        have hdl : (r.drop m).length = r.length - m := by simp
        have hs2 : s = p ++ w ++ (r.drop m ++ t) := by
          rw [h2, hw]
          simp only [List.append_assoc, List.cons_append]
          rw [← List.append_assoc (r.take m), List.take_append_drop]
        have hpw : (p ++ w).length = p.length + (m + 1) := by simp [hwl]
        have hs3 : s = p ++ c :: (r ++ t) := by rw [h2]; simp
        have hend : ∀ {α : Type} (N : Nat) (K : Int → Option α), 2000000 < N → spec_l11End N (BA s) (p.length : Int) K = K ((p.length + (m + 1) : Nat) : Int) := by
          intro α N K hN
          rw [l11End_eq N s p (r ++ t) c hs3 hs K (by omega), wordGo_app _ ht, ← hm, show p.length + 1 + m = p.length + (m + 1) by omega]
        have hend2 : ∀ {α : Type} (N : Nat) (K : Int → Option α), 2000000 < N → impl_wordLength N (BA (c :: r)) K = K ((m + 1 : Nat) : Int) := by
          intro α N K hN
          rw [wordLength_eq N r c hword (by omega) K (by omega), ← hm, show 1 + m = m + 1 by omega]
        have c1 : decide (((p.length + (m + 1) : Nat) : Int) ≤ ((s.length : Nat) : Int)) = true := decide_eq_true (by omega)
        have c2 : decide ((p.length : Int) ≤ ((p.length + (m + 1) : Nat) : Int)) = true := decide_eq_true (by omega)
        have c3 : decide (((m + 1 : Nat) : Int) ≤ (((c :: r).length : Nat) : Int)) = true := decide_eq_true (by rw [hrl]; omega)
        have x1 : (s.drop p.length).take (p.length + (m + 1) - p.length) = w := by
          rw [Nat.add_sub_cancel_left, hs3, List.drop_left, hw, List.take_succ_cons, List.take_append_of_le_length hml]
        have x2 : (c :: r).take (m + 1) = w := by rw [hw]; rfl
        have x3 : (c :: r).drop w.length = r.drop m := by rw [hwl]; rfl
        have c4 : decide (((w.length : Nat) : Int) ≤ (((c :: r).length : Nat) : Int)) = true := decide_eq_true (by rw [hrl, hwl]; omega)
        have wne : decide (w = []) = false := by rw [hw]; simp
        have d1 : decide (acc.length + 1 ≤ 5864062014805) = true := decide_eq_true (by omega)
        have one : ∀ z : Tok, [z].length = 1 := fun _ => rfl
        have k21 : decide ((2 : Int) = 1) = false := rfl
        have k11 : decide ((1 : Int) = 1) = true := rfl
        by_cases hD : isDig c = true
        · obtain ⟨e, o, he, hk⟩ := ih (r.drop m) (p ++ w) (bad || !langNum w) (acc ++ [(2, (BA w, ()))]) (by omega) hs2 (fun x hx => h3 x (List.mem_cons_of_mem _ (List.mem_of_mem_drop hx))) (by simp; omega)
          refine ⟨e, o, he, fun {α} N f g k hN hf hg => ?_⟩
          rw [hrl] at hf hg
          obtain ⟨f, rfl⟩ : ∃ m, f = m + 1 := ⟨f - 1, by omega⟩
          obtain ⟨g, rfl⟩ : ∃ m, g = m + 1 := ⟨g - 1, by omega⟩
          have := hk N f g k hN (by omega) (by omega)
          rw [hpw] at this
          have hL : isLet c = false := by
            cases q : isLet c
            · rfl
            · rw [let_dig q] at hD; cases hD
          constructor
          · rw [← this.1, spec0]
            unfold spec_LangTokens_L0r
            simp only [BA_size, s1, cond_true, cast_neg, cond_false, Int.toNat_natCast, BA_get, hg0, y35, decide_false, Bool.not_false, y32, spec_l11Letter_eq, hL, l11Digit_eq, hD, hend N _ hN, cast_nn, c1, c2, BA_extract, x1, spec_LangTokens_J13.eq, spec_LangTokens_J13.b, tok_J15 N _ _ _ _ _ w (show w.length ≤ 100000 by omega) (show 1048576 < N by omega), one, d1]
          · rw [← this.2, impl0]
            unfold impl_LangTokens_L0r
            simp only [BA_empty, eqS_BA, ne, Bool.not_false, cond_true, cond_false, BA_get, List.getElem?_cons_zero, y32, decide_false, impl_signOf_eq, impl_LangTokens_J10.eq, impl_LangTokens_J10.b, impl_isLetter_eq, hL, impl_isFigure_eq, hD, hend2 N _ hN, cast_nn, BA_size, c3, BA_upto, Int.toNat_natCast, x2, tok_J12 N _ _ _ _ _ w (show w.length ≤ 100000 by omega) hN, if_true, wne, k21, one, d1, c4, BA_from', x3]
        · have hL : isLet c = true := hword.resolve_right hD
          have hD : isDig c = false := by simpa using hD
          by_cases hP : plainW w = true
          · obtain ⟨e, o, he, hk⟩ := ih (r.drop m) (p ++ w) bad (acc ++ [(1, (BA w, ()))]) (by omega) hs2 (fun x hx => h3 x (List.mem_cons_of_mem _ (List.mem_of_mem_drop hx))) (by simp; omega)
            refine ⟨e, o, he, fun {α} N f g k hN hf hg => ?_⟩
            rw [hrl] at hf hg
            obtain ⟨f, rfl⟩ : ∃ m, f = m + 1 := ⟨f - 1, by omega⟩
            obtain ⟨g, rfl⟩ : ∃ m, g = m + 1 := ⟨g - 1, by omega⟩
            have := hk N f g k hN (by omega) (by omega)
            rw [hpw] at this
            constructor
            · rw [← this.1, spec0]
              unfold spec_LangTokens_L0r
              simp only [BA_size, s1, cond_true, cast_neg, cond_false, Int.toNat_natCast, BA_get, hg0, y35, decide_false, Bool.not_false, y32, spec_l11Letter_eq, hL, l11Digit_eq, hD, hend N _ hN, cast_nn, c1, c2, BA_extract, x1, spec_LangTokens_J13.eq, spec_LangTokens_J13.b, l11Plain_eq N w (show w.length ≤ 100000 by omega) _ (show 1048576 < N by omega), hP, Bool.not_true, one, d1]
            · rw [← this.2, impl0]
              unfold impl_LangTokens_L0r
              simp only [BA_empty, eqS_BA, ne, Bool.not_false, cond_true, cond_false, BA_get, List.getElem?_cons_zero, y32, decide_false, impl_signOf_eq, impl_LangTokens_J10.eq, impl_LangTokens_J10.b, impl_isLetter_eq, hL, impl_isFigure_eq, hD, hend2 N _ hN, cast_nn, BA_size, c3, BA_upto, Int.toNat_natCast, x2, tok_J12 N _ _ _ _ _ w (show w.length ≤ 100000 by omega) hN, Bool.false_eq_true, if_false, wne, k11, decide_true, wordOk_eq N w (show w.length ≤ 100000 by omega) _ (show 1048576 < N by omega), hP, Bool.not_true, one, d1, c4, BA_from', x3]
          · have hP : plainW w = false := by simpa using hP
            refine ⟨2, [], by simp, fun {α} N f g k hN hf hg => ?_⟩
            rw [hrl] at hf hg
            obtain ⟨f, rfl⟩ : ∃ m, f = m + 1 := ⟨f - 1, by omega⟩
            obtain ⟨g, rfl⟩ : ∃ m, g = m + 1 := ⟨g - 1, by omega⟩
            constructor
            · rw [spec0]
              unfold spec_LangTokens_L0r
              simp only [BA_size, s1, cond_true, cast_neg, cond_false, Int.toNat_natCast, BA_get, hg0, y35, decide_false, Bool.not_false, y32, spec_l11Letter_eq, hL, l11Digit_eq, hD, hend N _ hN, cast_nn, c1, c2, BA_extract, x1, spec_LangTokens_J13.eq, spec_LangTokens_J13.b, l11Plain_eq N w (show w.length ≤ 100000 by omega) _ (show 1048576 < N by omega), hP]
            · rw [impl0]
              unfold impl_LangTokens_L0r
              simp only [BA_empty, eqS_BA, ne, Bool.not_false, cond_true, cond_false, BA_get, List.getElem?_cons_zero, y32, decide_false, impl_signOf_eq, impl_LangTokens_J10.eq, impl_LangTokens_J10.b, impl_isLetter_eq, hL, impl_isFigure_eq, hD, hend2 N _ hN, cast_nn, BA_size, c3, BA_upto, Int.toNat_natCast, x2, tok_J12 N _ _ _ _ _ w (show w.length ≤ 100000 by omega) hN, Bool.false_eq_true, if_false, wne, k11, decide_true, wordOk_eq N w (show w.length ≤ 100000 by omega) _ (show 1048576 < N by omega), hP]
      · have hL : isLet c = false := by cases q : isLet c; rfl; exact absurd (.inl q) hword
        have hD : isDig c = false := by cases q : isDig c; rfl; exact absurd (.inr q) hword
        have hs3 : s = p ++ c :: (r ++ t) := by rw [h2]; simp
        have hsg : ∀ {α : Type} (N : Nat) (K : ByteArray → Option α), spec_l11Sign N (BA s) (p.length : Int) K = K (BA (signL (c :: r))) := by
          intro α N K
          rw [l11Sign_eq N s p (r ++ t) c hs3 hs K, signL_app ht]
        rcases signL_pre c r with hz | ⟨v, hv, hnz⟩
        · have z : decide (signL (c :: r) = []) = true := decide_eq_true hz
          refine ⟨2, [], by simp, fun {α} N f g k hN hf hg => ?_⟩
          rw [hrl] at hf hg
          obtain ⟨f, rfl⟩ : ∃ m, f = m + 1 := ⟨f - 1, by omega⟩
          obtain ⟨g, rfl⟩ : ∃ m, g = m + 1 := ⟨g - 1, by omega⟩
          constructor
          · rw [spec0]
            unfold spec_LangTokens_L0r
            simp only [BA_size, s1, cond_true, cast_neg, cond_false, Int.toNat_natCast, BA_get, hg0, y35, decide_false, Bool.not_false, y32, spec_l11Letter_eq, hL, l11Digit_eq, hD, hsg, BA_empty, eqS_BA, z]
          · rw [impl0]
            unfold impl_LangTokens_L0r
            simp only [BA_empty, eqS_BA, ne, Bool.not_false, cond_true, cond_false, BA_get, List.getElem?_cons_zero, y32, decide_false, impl_signOf_eq, impl_LangTokens_J10.eq, impl_LangTokens_J10.b, impl_isLetter_eq, hL, impl_isFigure_eq, hD, z]
        · have z : decide (signL (c :: r) = []) = false := decide_eq_false hnz
          obtain ⟨w, hw⟩ : ∃ w, w = signL (c :: r) := ⟨_, rfl⟩
          rw [← hw] at hv z hnz
          have hwl : 0 < w.length := List.length_pos_iff.2 hnz
          have hvl := congrArg List.length hv
          rw [hrl, List.length_append] at hvl
          have hpw : (p ++ w).length = p.length + w.length := by simp
          obtain ⟨e, o, he, hk⟩ := ih v (p ++ w) bad (acc ++ [(3, (BA w, ()))]) (by omega) (by rw [h2, hv]; simp) (fun x hx => h3 x (by rw [hv]; simp [hx])) (by simp; omega)
          refine ⟨e, o, he, fun {α} N f g k hN hf hg => ?_⟩
          rw [hrl] at hf hg
          obtain ⟨f, rfl⟩ : ∃ m, f = m + 1 := ⟨f - 1, by omega⟩
          obtain ⟨g, rfl⟩ : ∃ m, g = m + 1 := ⟨g - 1, by omega⟩
          have := hk N f g k hN (by omega) (by omega)
          rw [hpw] at this
          have d1 : decide (acc.length + 1 ≤ 5864062014805) = true := decide_eq_true (by omega)
          have one : ∀ z : Tok, [z].length = 1 := fun _ => rfl
          have k31 : decide ((3 : Int) = 1) = false := rfl
          have wa : IntKind.i64.wrap ((p.length : Int) + ((w.length : Nat) : Int)) = ((p.length + w.length : Nat) : Int) := by rw [wrap_i64 (by omega) (by omega)]; omega
          have c4 : decide (((w.length : Nat) : Int) ≤ (((c :: r).length : Nat) : Int)) = true := decide_eq_true (by rw [hrl]; omega)
          have x3 : (c :: r).drop w.length = v := by rw [hv]; simp
          constructor
          · rw [← this.1, spec0]
            unfold spec_LangTokens_L0r
            simp only [BA_size, s1, cond_true, cast_neg, cond_false, Int.toNat_natCast, BA_get, hg0, y35, decide_false, Bool.not_false, y32, spec_l11Letter_eq, hL, l11Digit_eq, hD, hsg, ← hw, BA_empty, eqS_BA, z, one, d1, wa]
          · rw [← this.2, impl0]
            unfold impl_LangTokens_L0r
            simp only [BA_empty, eqS_BA, ne, Bool.not_false, cond_true, cond_false, BA_get, List.getElem?_cons_zero, y32, decide_false, impl_signOf_eq, impl_LangTokens_J10.eq, impl_LangTokens_J10.b, impl_isLetter_eq, hL, impl_isFigure_eq, hD, ← hw, z, k31, one, d1, BA_size, cast_nn, c4, Int.toNat_natCast, BA_from', x3]
end Go.Proofs.YtnhbcpmmdblkjaaDoorAm
