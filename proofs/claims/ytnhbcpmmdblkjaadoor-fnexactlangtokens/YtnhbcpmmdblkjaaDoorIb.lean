/-
  The language's tokens: letters, words, signs.
-/
import Derived.Test.YtnhbcpmmdblkjaaDoorIa
namespace Go.Proofs.YtnhbcpmmdblkjaaDoorAm
open Go
set_option linter.unusedVariables false
set_option linter.unusedSimpArgs false

abbrev Tok:=Int×ByteArray×Unit
def isLet (c:UInt8):Bool:=decide (97≤c.toNat) && decide (c.toNat≤122)
def wordGo (dg:Bool):UInt8→List UInt8→Nat
 | _,[]=>0
 | prev,c::r=>if isLet c=true∨isDig c=true∨c=46∨(c=45∧dg=true∧prev=101) then wordGo dg c r + 1 else 0
theorem wordGo_le (dg : Bool) : ∀ (r : List UInt8) (c : UInt8), wordGo dg c r ≤ r.length
  | [], c => by simp [wordGo]
  | a :: r, c => by
    have := wordGo_le dg r a
    unfold wordGo
    split <;> simp <;> omega
theorem wordGo_app (dg : Bool) {t : List UInt8} (ht : t = [] ∨ ∃ v, t = 35 :: v) : ∀ (r : List UInt8) (c : UInt8), wordGo dg c (r ++ t) = wordGo dg c r
  | [], c => by
    rcases ht with rfl | ⟨v, rfl⟩
    · rfl
    · rw [List.nil_append]
      unfold wordGo
      rw [if_neg]
      rintro (h | h | h | ⟨h, _⟩) <;> revert h <;> decide
  | a :: r, c => by
    rw [List.cons_append]
    unfold wordGo
    rw [wordGo_app dg ht r a]
theorem let_int (c:UInt8):(bif decide ((97:Int)≤((c.toNat:Nat):Int)) then decide (((c.toNat:Nat):Int)≤122) else false)=isLet c:=by
 unfold isLet
 by_cases h:97≤c.toNat
 ·have c1:(97:Int)≤((c.toNat:Nat):Int):=by omega
  simp only [h,c1,decide_true,cond_true,Bool.true_and]
  by_cases h2:c.toNat≤122
  ·have c2:((c.toNat:Nat):Int)≤122:=by omega
   simp only [h2,c2,decide_true]
  ·have c2:¬ ((c.toNat:Nat):Int)≤122:=by omega
   simp only [h2,c2,decide_false]
 ·have c1:¬ (97:Int)≤((c.toNat:Nat):Int):=by omega
  simp only [h,c1,decide_false,cond_false,Bool.false_and]
theorem pred_w {i:Nat} (h0:0 < i) (h:i < 4611686018427387904):IntKind.i64.wrap ((i:Int) - 1)=((i - 1:Nat):Int):=by rw [wrap_i64 (by omega) (by omega)]; omega
theorem spec_l11Letter_eq {α:Type} (N:Nat) (c:UInt8) (k:Bool→Option α):spec_l11Letter N ((c.toNat:Nat):Int) k=k (isLet c):=by
 rw [spec_l11Letter.eq,← let_int]
 unfold spec_l11Letter.b
 cases decide ((97:Int)≤((c.toNat:Nat):Int)) <;> rfl
theorem impl_isLetter_eq {α:Type} (N:Nat) (c:UInt8) (k:Bool→Option α):impl_isLetter N ((c.toNat:Nat):Int) k=k (isLet c):=by
 rw [impl_isLetter.eq,← let_int]
 unfold impl_isLetter.b
 cases decide ((97:Int)≤((c.toNat:Nat):Int)) <;> rfl
theorem impl_isFigure_eq {α:Type} (N:Nat) (c:UInt8) (k:Bool→Option α):impl_isFigure N ((c.toNat:Nat):Int) k=k (isDig c):=by
 rw [impl_isFigure.eq]
 unfold impl_isFigure.b
 cases h:isDig c
 ·rcases dig_not h with q | ⟨q,q'⟩
  ·have:¬ (48:Int)≤((c.toNat:Nat):Int):=by omega
   simp only [this,decide_false,cond_false]
  ·have a1:(48:Int)≤((c.toNat:Nat):Int):=by omega
   have a2:¬ ((c.toNat:Nat):Int)≤57:=by omega
   simp only [a1,a2,decide_true,decide_false,cond_true,cond_false]
 ·have:=isDig_ok h
  have a1:(48:Int)≤((c.toNat:Nat):Int):=by omega
  have a2:((c.toNat:Nat):Int)≤57:=by omega
  simp only [a1,a2,decide_true,decide_false,cond_true,cond_false]
theorem l11End_loop {α : Type} (N : Nat) (s : List UInt8) (i : Nat) (c : UInt8) (hc : s[i]? = some c) (hs : s.length ≤ 100000) (k : Int → Option α) : ∀ (r q : List UInt8) (prev : UInt8) (f : Nat), s = q ++ r → s[q.length - 1]? = some prev → 0 < q.length → r.length < f →
    spec_l11End_L0 N f (BA s) (i : Int) (q.length : Int) k k = k ((q.length + wordGo (isDig c) prev r : Nat) : Int) := by
  intro r
  induction r with
  | nil =>
    intro q prev f h1 h2 h3 hf
    obtain ⟨f, rfl⟩ : ∃ m, f = m + 1 := ⟨f - 1, by omega⟩
    have hl : s.length = q.length := by rw [h1]; simp
    rw [spec_l11End_L0.succ]
    unfold spec_l11End_L0r
    simp only [BA_size, cast_nlt (show ¬ q.length < s.length by omega), cond_false, wordGo, Nat.add_zero]
  | cons a r ih =>
    intro q prev f h1 h2 h3 hf
    obtain ⟨f, rfl⟩ : ∃ m, f = m + 1 := ⟨f - 1, by omega⟩
    have hl : s.length = q.length + (r.length + 1) := by rw [h1]; simp
    have hg : s[q.length]? = some a := by rw [h1, List.getElem?_append_right (by omega)]; simp
    have hql : (q ++ [a]).length = q.length + 1 := by simp
    have next := ih (q ++ [a]) a f (by rw [h1]; simp) (by rw [hql, Nat.add_sub_cancel]; exact hg) (by omega) (by simpa using hf)
    rw [hql] at next
    have h46 : ((a.toNat : Nat) : Int) = 46 ↔ a = 46 := u8_eq (a := a) (n := 46) (by omega)
    have h45 : ((a.toNat : Nat) : Int) = 45 ↔ a = 45 := u8_eq (a := a) (n := 45) (by omega)
    have h101 : ((prev.toNat : Nat) : Int) = 101 ↔ prev = 101 := u8_eq (a := prev) (n := 101) (by omega)
    rw [spec_l11End_L0.succ]
    unfold spec_l11End_L0r
    simp only [BA_size, cast_lt (show q.length < s.length by omega), cond_true, cast_neg, cond_false, Int.toNat_natCast, BA_get, hg, spec_l11Letter_eq, l11Digit_eq, succ_i (show q.length < 4611686018427387904 by omega), hc, pred_w h3 (show q.length < 4611686018427387904 by omega), h2]
    have yes : (isLet a = true ∨ isDig a = true ∨ a = 46 ∨ (a = 45 ∧ isDig c = true ∧ prev = 101)) → spec_l11End_L0 N f (BA s) (i : Int) ((q.length + 1 : Nat) : Int) k k = k ((q.length + wordGo (isDig c) prev (a :: r) : Nat) : Int) := by
      intro h
      have e : wordGo (isDig c) prev (a :: r) = wordGo (isDig c) a r + 1 := by rw [wordGo, if_pos h]
      rw [e, next, show q.length + 1 + wordGo (isDig c) a r = q.length + (wordGo (isDig c) a r + 1) by omega]
    have no : ¬ (isLet a = true ∨ isDig a = true ∨ a = 46 ∨ (a = 45 ∧ isDig c = true ∧ prev = 101)) → k (q.length : Int) = k ((q.length + wordGo (isDig c) prev (a :: r) : Nat) : Int) := by
      intro h
      have e : wordGo (isDig c) prev (a :: r) = 0 := by rw [wordGo, if_neg h]
      rw [e, Nat.add_zero]
    cases hL : isLet a
    · cases hD : isDig a
      · simp only [Bool.not_false, cond_true]
        by_cases h : a = 46
        · simp only [h46.2 h, decide_true, Bool.not_true, cond_false]
          exact yes (.inr (.inr (.inl h)))
        · have g46 : ¬ ((a.toNat : Nat) : Int) = 46 := fun w => h (h46.1 w)
          simp only [g46, decide_false, Bool.not_false, cond_true]
          by_cases h5 : a = 45
          · simp only [h45.2 h5, decide_true, cond_true]
            cases hE : isDig c
            · simp only [cond_false]
              refine no ?_ |>.trans ?_
              · rw [hL, hD, hE]; rintro (w | w | w | ⟨_, w, _⟩)
                · cases w
                · cases w
                · exact h w
                · cases w
              · rw [hE]
            · simp only [cond_true]
              by_cases hp : prev = 101
              · simp only [h101.2 hp, decide_true, Bool.not_true, cond_false]
                rw [← hE]
                exact yes (.inr (.inr (.inr ⟨h5, hE, hp⟩)))
              · have g101 : ¬ ((prev.toNat : Nat) : Int) = 101 := fun w => hp (h101.1 w)
                simp only [g101, decide_false, Bool.not_false, cond_true]
                rw [← hE]
                refine no ?_
                rw [hL, hD]; rintro (w | w | w | ⟨_, _, w⟩)
                · cases w
                · cases w
                · exact h w
                · exact hp w
          · have g45 : ¬ ((a.toNat : Nat) : Int) = 45 := fun w => h5 (h45.1 w)
            simp only [g45, decide_false, cond_false]
            refine no ?_
            rw [hL, hD]; rintro (w | w | w | ⟨w, _, _⟩)
            · cases w
            · cases w
            · exact h w
            · exact h5 w
      · simp only [Bool.not_false, Bool.not_true, cond_true, cond_false]
        exact yes (.inr (.inl hD))
    · simp only [Bool.not_true, cond_false]
      exact yes (.inl hL)
theorem l11End_eq {α:Type} (N:Nat) (s p r:List UInt8) (c:UInt8) (hs:s=p++c::r) (hl:s.length≤100000) (k:Int→Option α) (hN:1048576 < N):spec_l11End N (BA s) (p.length:Int) k=k ((p.length + 1 + wordGo (isDig c) c r:Nat):Int):=by
 have hlen:s.length=p.length + (r.length + 1):=by rw [hs]; simp
 have hg:s[p.length]?=some c:=by rw [hs,List.getElem?_append_right (by omega)]; simp
 have hpl:(p++[c]).length=p.length + 1:=by simp
 rw [spec_l11End.eq]
 unfold spec_l11End.b
 have:=l11End_loop (α:=α) N s p.length c hg hl k r (p++[c]) c N (by rw [hs]; simp) (by rw [hpl,Nat.add_sub_cancel]; exact hg) (by omega) (by omega)
 rw [hpl] at this
 simp only [succ_i (show p.length < 4611686018427387904 by omega)]
 exact this
theorem wordLength_loop {α : Type} (N : Nat) (s : List UInt8) (c : UInt8) (hc : s[0]? = some c) (hs : s.length ≤ 100000) (k : Int → Option α) : ∀ (r q : List UInt8) (prev : UInt8) (f : Nat), s = q ++ r → s[q.length - 1]? = some prev → 0 < q.length → r.length < f →
    impl_wordLength_L0 N f (BA s) (q.length : Int) k = k ((q.length + wordGo (isDig c) prev r : Nat) : Int) := by
  intro r
  induction r with
  | nil =>
    intro q prev f h1 h2 h3 hf
    obtain ⟨f, rfl⟩ : ∃ m, f = m + 1 := ⟨f - 1, by omega⟩
    have hl : s.length = q.length := by rw [h1]; simp
    rw [impl_wordLength_L0.succ]
    unfold impl_wordLength_L0r
    simp only [BA_size, cast_nlt (show ¬ q.length < s.length by omega), cond_false, wordGo, Nat.add_zero]
  | cons a r ih =>
    intro q prev f h1 h2 h3 hf
    obtain ⟨f, rfl⟩ : ∃ m, f = m + 1 := ⟨f - 1, by omega⟩
    have hl : s.length = q.length + (r.length + 1) := by rw [h1]; simp
    have hg : s[q.length]? = some a := by rw [h1, List.getElem?_append_right (by omega)]; simp
    have hql : (q ++ [a]).length = q.length + 1 := by simp
    have next := ih (q ++ [a]) a f (by rw [h1]; simp) (by rw [hql, Nat.add_sub_cancel]; exact hg) (by omega) (by simpa using hf)
    rw [hql] at next
    have h46 : ((a.toNat : Nat) : Int) = 46 ↔ a = 46 := u8_eq (a := a) (n := 46) (by omega)
    have h45 : ((a.toNat : Nat) : Int) = 45 ↔ a = 45 := u8_eq (a := a) (n := 45) (by omega)
    have h101 : ((prev.toNat : Nat) : Int) = 101 ↔ prev = 101 := u8_eq (a := prev) (n := 101) (by omega)
    rw [impl_wordLength_L0.succ]
    unfold impl_wordLength_L0r
    simp only [BA_size, cast_lt (show q.length < s.length by omega), cond_true, cast_neg, cond_false, Int.toNat_natCast, BA_get, hg, impl_isLetter_eq, impl_isFigure_eq, succ_i (show q.length < 4611686018427387904 by omega), hc, pred_w h3 (show q.length < 4611686018427387904 by omega), h2]
    have yes : (isLet a = true ∨ isDig a = true ∨ a = 46 ∨ (a = 45 ∧ isDig c = true ∧ prev = 101)) → impl_wordLength_L0 N f (BA s) ((q.length + 1 : Nat) : Int) k = k ((q.length + wordGo (isDig c) prev (a :: r) : Nat) : Int) := by
      intro h
      have e : wordGo (isDig c) prev (a :: r) = wordGo (isDig c) a r + 1 := by rw [wordGo, if_pos h]
      rw [e, next, show q.length + 1 + wordGo (isDig c) a r = q.length + (wordGo (isDig c) a r + 1) by omega]
    have no : ¬ (isLet a = true ∨ isDig a = true ∨ a = 46 ∨ (a = 45 ∧ isDig c = true ∧ prev = 101)) → k (q.length : Int) = k ((q.length + wordGo (isDig c) prev (a :: r) : Nat) : Int) := by
      intro h
      have e : wordGo (isDig c) prev (a :: r) = 0 := by rw [wordGo, if_neg h]
      rw [e, Nat.add_zero]
    cases hL : isLet a
    · cases hD : isDig a
      · simp only [cond_false]
        by_cases h : a = 46
        · simp only [h46.2 h, decide_true, cond_true]
          exact yes (.inr (.inr (.inl h)))
        · have g46 : ¬ ((a.toNat : Nat) : Int) = 46 := fun w => h (h46.1 w)
          simp only [g46, decide_false, cond_false]
          by_cases h5 : a = 45
          · simp only [h45.2 h5, decide_true, cond_true]
            cases hE : isDig c
            · simp only [cond_false]
              refine no ?_ |>.trans ?_
              · rw [hL, hD, hE]; rintro (w | w | w | ⟨_, w, _⟩)
                · cases w
                · cases w
                · exact h w
                · cases w
              · rw [hE]
            · simp only [cond_true]
              by_cases hp : prev = 101
              · simp only [h101.2 hp, decide_true, cond_true]
                rw [← hE]
                exact yes (.inr (.inr (.inr ⟨h5, hE, hp⟩)))
              · have g101 : ¬ ((prev.toNat : Nat) : Int) = 101 := fun w => hp (h101.1 w)
                simp only [g101, decide_false, cond_false]
                rw [← hE]
                refine no ?_
                rw [hL, hD]; rintro (w | w | w | ⟨_, _, w⟩)
                · cases w
                · cases w
                · exact h w
                · exact hp w
          · have g45 : ¬ ((a.toNat : Nat) : Int) = 45 := fun w => h5 (h45.1 w)
            simp only [g45, decide_false, cond_false]
            refine no ?_
            rw [hL, hD]; rintro (w | w | w | ⟨w, _, _⟩)
            · cases w
            · cases w
            · exact h w
            · exact h5 w
      · simp only [cond_true, cond_false]
        exact yes (.inr (.inl hD))
    · simp only [cond_true]
      exact yes (.inl hL)
theorem wordLength_eq {α:Type} (N:Nat) (r:List UInt8) (c:UInt8) (hc:isLet c=true∨isDig c=true) (hl:r.length < 100000) (k:Int→Option α) (hN:1048576 < N):impl_wordLength N (BA (c::r)) k=k ((1 + wordGo (isDig c) c r:Nat):Int):=by
 obtain ⟨n,rfl⟩:∃ n,N=n + 1:=⟨N - 1,by omega⟩
 rw [impl_wordLength.eq]
 unfold impl_wordLength.b
 have:=wordLength_loop (α:=α) (n + 1) (c::r) c rfl (by simp; omega) k r [c] c n rfl rfl (by simp) (by omega)
 rw [impl_wordLength_L0.succ]
 unfold impl_wordLength_L0r
 have l0:decide ((0:Int) < (((c::r).length:Nat):Int))=true:=by simp only [List.length_cons,decide_eq_true_eq]; omega
 have z:decide ((0:Int) < 0)=false:=rfl
 have z0:(0:Int).toNat=0:=rfl
 have w1:IntKind.i64.wrap ((0:Int) + 1)=(([c].length:Nat):Int):=rfl
 simp only [BA_size,l0,cond_true,z,cond_false,z0,BA_get,List.getElem?_cons_zero,impl_isLetter_eq,impl_isFigure_eq,w1]
 have e1:([c].length:Nat)=1:=rfl
 rw [e1] at this ⊢
 cases hL:isLet c
 ·rw [hL] at hc
  have hD:isDig c=true:=hc.resolve_left (by simp)
  simp only [cond_false,hD,cond_true]
  rw [hD] at this
  exact this
 ·simp only [cond_true]
  exact this
def isSg (x:Int):Bool:=decide (x=43) || (decide (x=45) || (decide (x=42) || (decide (x=47) || (decide (x=94) || (decide (x=40) || (decide (x=41) || (decide (x=44) || decide (x=61))))))))
def signL:List UInt8→List UInt8
 | []=>[]
 | c::r=>if (c=60∨c=62)∧r[0]?=some 61 then [c,61] else if isSg ((c.toNat:Nat):Int)=true then [c] else []
theorem signL_cons (c:UInt8) (r:List UInt8):signL (c::r)=if (c=60∨c=62)∧r[0]?=some 61 then [c,61] else if isSg ((c.toNat:Nat):Int)=true then [c] else []:=rfl
theorem signL_app {t : List UInt8} (ht : t = [] ∨ ∃ v, t = 35 :: v) (c : UInt8) (r : List UInt8) : signL (c :: (r ++ t)) = signL (c :: r) := by
  rw [signL_cons, signL_cons]
  have : (r ++ t)[0]? = some 61 ↔ r[0]? = some 61 := by
    cases r with
    | nil =>
      rcases ht with rfl | ⟨v, rfl⟩
      · exact Iff.rfl
      · simp
    | cons a r => simp
  simp only [this]
theorem signL_pre (c : UInt8) (r : List UInt8) : signL (c :: r) = [] ∨ ∃ v, c :: r = signL (c :: r) ++ v ∧ signL (c :: r) ≠ [] := by
  rw [signL_cons]
  split
  · rename_i h
    right
    cases r with
    | nil => simp at h
    | cons a r =>
      have : a = 61 := by simpa using h.2
      subst this
      exact ⟨r, rfl, by simp⟩
  · split
    · exact .inr ⟨r, rfl, by simp⟩
    · exact .inl rfl
theorem sg_index (c:UInt8):decide (0≤Go.Lib.indexByte [43,45,42,47,94,40,41,44,61] c)=isSg ((c.toNat:Nat):Int):=by
 have h:∀ n:Fin 256,decide (0≤Go.Lib.indexByte [43,45,42,47,94,40,41,44,61] (UInt8.ofNat n.val))=isSg (((UInt8.ofNat n.val).toNat:Nat):Int):=by decide +kernel
 have:=h ⟨c.toNat,UInt8.toNat_lt c⟩
 simpa using this
theorem hasPrefix_eq {α:Type} (N:Nat) (x y:List UInt8) (k:Bool→Option α):strings_HasPrefix N (BA x) (BA y) k=k (decide (x.take y.length=y)):=by
 rw [strings_HasPrefix.eq]
 unfold strings_HasPrefix.b
 rw [internal_stringslite_HasPrefix.eq]
 unfold internal_stringslite_HasPrefix.b
 simp only [BA_size]
 by_cases h:y.length≤x.length
 ·have c1:((y.length:Nat):Int)≤((x.length:Nat):Int):=by omega
  simp only [c1,decide_true,cond_true,cast_nn,Int.toNat_natCast,BA_upto,eqS_BA]
 ·have c1:¬ ((y.length:Nat):Int)≤((x.length:Nat):Int):=by omega
  have ne:¬ x.take y.length=y:=by
   intro e
   have:=congrArg List.length e
   rw [List.length_take] at this
   omega
  simp only [c1,decide_false,cond_false,ne]
theorem impl_signOf_eq {α : Type} (N : Nat) (c : UInt8) (r : List UInt8) (k : ByteArray → Option α) : impl_signOf N (BA (c :: r)) k = k (BA (signL (c :: r))) := by
  rw [impl_signOf.eq]
  unfold impl_signOf.b
  have b1 : (⟨#[60, 61]⟩ : ByteArray) = BA [60, 61] := rfl
  have b2 : (⟨#[62, 61]⟩ : ByteArray) = BA [62, 61] := rfl
  have b3 : (⟨#[43, 45, 42, 47, 94, 40, 41, 44, 61]⟩ : ByteArray) = BA [43, 45, 42, 47, 94, 40, 41, 44, 61] := rfl
  have two : ∀ d : UInt8, (c :: r).take [d, 61].length = [d, 61] ↔ c = d ∧ r[0]? = some 61 := by
    intro d
    cases r with
    | nil => simp
    | cons a r => simp
  have l1 : decide ((1 : Int) ≤ (((c :: r).length : Nat) : Int)) = true := by simp only [List.length_cons, decide_eq_true_eq]; omega
  rw [b1, b2, b3]
  simp only [hasPrefix_eq, two, BA_size, BA_get, List.getElem?_cons_zero, strings_IndexByte.eq, strings_IndexByte.b, internal_stringslite_IndexByte.eq, internal_stringslite_IndexByte.b, BA_data, Int.toNat_natCast, l1, cond_true]
  have eu : (c.toNat).toUInt8 = c := by simp
  have up : ∀ j : Nat, (BA (c :: r)).extract 0 j = BA ((c :: r).take j) := fun j => BA_upto _ _
  simp only [eu, sg_index, up, BA_empty]
  rw [signL_cons]
  by_cases h61 : r[0]? = some 61
  · have l2 : decide ((2 : Int) ≤ (((c :: r).length : Nat) : Int)) = true := by
      cases r with
      | nil => simp at h61
      | cons a r => simp; omega
    have t2 : (c :: r).take 2 = [c, 61] := by
      cases r with
      | nil => simp at h61
      | cons a r =>
        have : a = 61 := by simpa using h61
        subst this; rfl
    by_cases h60 : c = 60
    · have cc : (c = 60 ∨ c = 62) ∧ r[0]? = some 61 := ⟨.inl h60, h61⟩
      have c0 : c = 60 ∧ r[0]? = some 61 := ⟨h60, h61⟩
      rw [if_pos cc]
      simp only [c0, and_self, decide_true, cond_true, l2, t2]
      have l3 : decide ((2 : Int) ≤ (((60 :: r).length : Nat) : Int)) = true := by rw [← h60]; exact l2
      have t3 : (60 :: r).take 2 = [60, 61] := by rw [← h60]; exact t2
      simp only [l3, t3, cond_true]
    · by_cases h62 : c = 62
      · have cc : (c = 60 ∨ c = 62) ∧ r[0]? = some 61 := ⟨.inr h62, h61⟩
        have c0 : ¬ (c = 60 ∧ r[0]? = some 61) := fun w => h60 w.1
        have c1 : c = 62 ∧ r[0]? = some 61 := ⟨h62, h61⟩
        rw [if_pos cc]
        rw [decide_eq_false c0, decide_eq_true c1]
        simp only [cond_true, cond_false, l2, t2]
      · have cc : ¬ ((c = 60 ∨ c = 62) ∧ r[0]? = some 61) := by rintro ⟨w | w, _⟩ <;> contradiction
        have c0 : ¬ (c = 60 ∧ r[0]? = some 61) := fun w => h60 w.1
        have c1 : ¬ (c = 62 ∧ r[0]? = some 61) := fun w => h62 w.1
        rw [if_neg cc, decide_eq_false c0, decide_eq_false c1]
        cases isSg ((c.toNat : Nat) : Int) <;> rfl
  · have cc : ¬ ((c = 60 ∨ c = 62) ∧ r[0]? = some 61) := fun w => h61 w.2
    have c0 : ¬ (c = 60 ∧ r[0]? = some 61) := fun w => h61 w.2
    have c1 : ¬ (c = 62 ∧ r[0]? = some 61) := fun w => h61 w.2
    rw [if_neg cc, decide_eq_false c0, decide_eq_false c1]
    cases isSg ((c.toNat : Nat) : Int) <;> rfl
end Go.Proofs.YtnhbcpmmdblkjaaDoorAm
