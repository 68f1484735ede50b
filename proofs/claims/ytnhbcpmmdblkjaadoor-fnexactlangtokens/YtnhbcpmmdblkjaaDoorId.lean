/-
  The language's tokens: the law.
-/
import Derived.Test.YtnhbcpmmdblkjaaDoorIc
namespace Go.Proofs.YtnhbcpmmdblkjaaDoorAm
open Go
set_option linter.unusedVariables false
set_option linter.unusedSimpArgs false

theorem splC_ne (c : UInt8) : ∀ l : List UInt8, (splC c l = none → ∀ y ∈ l, y ≠ c) ∧ ∀ u v, splC c l = some (u, v) → ∀ y ∈ u, y ≠ c
  | [] => ⟨fun _ y hy => by simp at hy, fun u v h => by simp [splC] at h⟩
  | b :: r => by
    have ih := splC_ne c r
    by_cases hb : b = c
    · constructor
      · intro h; simp [splC, hb] at h
      · intro u v h y hy
        simp only [splC, hb, if_true, Option.some.injEq, Prod.mk.injEq] at h
        obtain ⟨rfl, _⟩ := h
        simp at hy
    · constructor
      · intro h y hy
        simp only [splC, hb, if_false, Option.map_eq_none_iff] at h
        rcases List.mem_cons.1 hy with rfl | hy
        · exact hb
        · exact ih.1 h y hy
      · intro u v h y hy
        simp only [splC, hb, if_false, Option.map_eq_some_iff] at h
        obtain ⟨⟨u', v'⟩, e1, e2⟩ := h
        simp only [Prod.mk.injEq] at e2
        obtain ⟨rfl, rfl⟩ := e2
        rcases List.mem_cons.1 hy with rfl | hy
        · exact hb
        · exact ih.2 u' v' e1 y hy
theorem tokens_eq (x : List UInt8) : ∃ (e : Int) (o : List Tok), o.length ≤ 300 ∧ ∀ {α : Type} (N : Nat) (k : Int → List Tok → Option α), 2000000 < N → spec_LangTokens N (BA x) k = k e o ∧ impl_LangTokens N (BA x) k = k e o := by
  by_cases hl : x.length ≤ 1000
  · have c : decide ((1000 : Int) < ((x.length : Nat) : Int)) = false := decide_eq_false (by omega)
    have main : ∀ u t : List UInt8, x = u ++ t → (t = [] ∨ ∃ v, t = 35 :: v) → (∀ y ∈ u, y ≠ 35) → (cutL1 35 x).1 = u → ∃ (e : Int) (o : List Tok), o.length ≤ 300 ∧ ∀ {α : Type} (N : Nat) (k : Int → List Tok → Option α), 2000000 < N → spec_LangTokens N (BA x) k = k e o ∧ impl_LangTokens N (BA x) k = k e o := by
      intro u t h1 h2 h3 h4
      have hul : u.length ≤ x.length := by rw [h1]; simp
      obtain ⟨e, o, he, hk⟩ := tokens_loop x t h2 (by omega) u.length u [] false [] (Nat.le_refl _) (by simpa using h1) h3 (by simp; omega)
      refine ⟨e, o, he, fun {α} N k hN => ?_⟩
      have := hk N N N k hN (by omega) (by omega)
      constructor
      · rw [← this.1, spec_LangTokens.eq]
        unfold spec_LangTokens.b
        simp only [BA_size, c, cond_false]
        rfl
      · rw [← this.2, impl_LangTokens.eq]
        unfold impl_LangTokens.b
        rw [show (⟨#[35]⟩ : ByteArray) = BA [35] from rfl]
        simp only [BA_size, c, cond_false, cutC_eq N 35 x _ (show x.length ≤ 2000000 by omega), h4]
        rfl
    cases h : splC 35 x with
    | none => exact main x [] (by simp) (.inl rfl) ((splC_ne 35 x).1 h) (by unfold cutL1; rw [h])
    | some p =>
      obtain ⟨u, v⟩ := p
      exact main u (35 :: v) (splC_some h) (.inr ⟨v, rfl⟩) ((splC_ne 35 x).2 u v h) (by unfold cutL1; rw [h])
  · have c : decide ((1000 : Int) < ((x.length : Nat) : Int)) = true := decide_eq_true (by omega)
    refine ⟨1, [], by simp, fun {α} N k hN => ?_⟩
    constructor
    · rw [spec_LangTokens.eq]
      unfold spec_LangTokens.b
      simp only [BA_size, c, cond_true]
    · rw [impl_LangTokens.eq]
      unfold impl_LangTokens.b
      simp only [BA_size, c, cond_true]
theorem eqTok_loop {α : Type} (N : Nat) (a : List Tok) (hl : a.length ≤ 100000) (k0 : Bool → Option α) (k1 : Option α) : ∀ (d i f : Nat), i + d = a.length → d < f → laws_eqLangTokenS_L0 N f a a (i : Int) k0 k1 = k1 := by
  intro d
  induction d with
  | zero =>
    intro i f h hf
    obtain ⟨f, rfl⟩ : ∃ m, f = m + 1 := ⟨f - 1, by omega⟩
    rw [laws_eqLangTokenS_L0.succ]
    unfold laws_eqLangTokenS_L0r
    simp only [cast_nlt (show ¬ i < a.length by omega), cond_false]
  | succ d ih =>
    intro i f h hf
    obtain ⟨f, rfl⟩ : ∃ m, f = m + 1 := ⟨f - 1, by omega⟩
    have hi : i < a.length := by omega
    rw [laws_eqLangTokenS_L0.succ]
    unfold laws_eqLangTokenS_L0r
    simp only [cast_lt hi, cond_true, cast_neg, cond_false, Int.toNat_natCast, List.getElem?_eq_getElem hi, laws_eqLangToken.eq, laws_eqLangToken.b, decide_true, Bool.not_true, eqS_self, succ_i (show i < 4611686018427387904 by omega)]
    exact ih (i + 1) f (by omega) (by omega)
theorem eqTok_eq {α:Type} (N:Nat) (a:List Tok) (hl:a.length≤100000) (k:Bool→Option α) (hN:1048576 < N):laws_eqLangTokenS N a a k=k true:=by
 rw [laws_eqLangTokenS.eq]
 unfold laws_eqLangTokenS.b
 simp only [decide_true,Bool.not_true,cond_false]
 exact eqTok_loop N a hl _ _ a.length 0 N (by omega) (by omega)
theorem markText_loop : ∀ (m : Nat) (v : Int) (b : ByteArray), v.toNat ≤ m → b.size + m ≤ 1000000000 → ∃ t : ByteArray, t.size ≤ b.size + m ∧ ∀ {α : Type} (N n : Nat) (k : ByteArray → Option α), m < n → laws_markText_L0 N n v b k = k t := by
  intro m
  induction m with
  | zero =>
    intro v b h1 h2
    refine ⟨b, by omega, fun {α} N n k hn => ?_⟩
    obtain ⟨n, rfl⟩ : ∃ m, n = m + 1 := ⟨n - 1, by omega⟩
    have c : decide ((0 : Int) < v) = false := decide_eq_false (by omega)
    rw [laws_markText_L0.succ]
    unfold laws_markText_L0r
    simp only [c, cond_false]
  | succ m ih =>
    intro v b h1 h2
    by_cases h0 : 0 < v
    · have hb : ∀ x : Int, (bytesOf [x]).size = 1 := fun x => by rw [bytesOf_eq, BA_size]; rfl
      obtain ⟨X, hX⟩ : ∃ X : ByteArray, X = bytesOf [IntKind.u8.wrap (IntKind.i64.wrap (48 + Int.tmod v 10))] := ⟨_, rfl⟩
      have hXs : X.size = 1 := by rw [hX]; exact hb _
      have hXb : (X ++ b).size = 1 + b.size := by rw [ByteArray.size_append, hXs]
      have hq : Int.tdiv v 10 = v / 10 := Int.tdiv_eq_ediv_of_nonneg (by omega)
      have hw : IntKind.i64.wrap (Int.tdiv v 10) = v / 10 := by rw [hq]; exact wrap_i64 (by omega) (by omega)
      obtain ⟨t, ht, hk⟩ := ih (v / 10) (X ++ b) (by omega) (by omega)
      refine ⟨t, by omega, fun {α} N n k hn => ?_⟩
      obtain ⟨n, rfl⟩ : ∃ m, n = m + 1 := ⟨n - 1, by omega⟩
      have c : decide ((0 : Int) < v) = true := decide_eq_true h0
      have c2 : decide (X.size + b.size ≤ 9223372036854775807) = true := decide_eq_true (by omega)
      rw [laws_markText_L0.succ]
      unfold laws_markText_L0r
      simp only [c, cond_true, ← hX, c2, hw]
      exact hk N n k (by omega)
    · refine ⟨b, by omega, fun {α} N n k hn => ?_⟩
      obtain ⟨n, rfl⟩ : ∃ m, n = m + 1 := ⟨n - 1, by omega⟩
      have c : decide ((0 : Int) < v) = false := decide_eq_false h0
      rw [laws_markText_L0.succ]
      unfold laws_markText_L0r
      simp only [c, cond_false]
theorem markText_ex (v:Int) (hv:v≤1000000):∃ t:ByteArray,∀ (α:Type) (N:Nat) (k:ByteArray→Option α),2000000 < N→laws_markText N v k=k t:=by
 by_cases h:v≤0
 ·refine ⟨(⟨#[109,48]⟩:ByteArray),fun α N k hN=>?_⟩
  rw [laws_markText.eq]
  unfold laws_markText.b
  simp only [decide_eq_true h,cond_true]
 ·have e0:ByteArray.empty.size=0:=rfl
  obtain ⟨t,ht,hk⟩:=markText_loop 1000000 v ByteArray.empty (by omega) (by omega)
  refine ⟨(⟨#[109]⟩:ByteArray)++t,fun α N k hN=>?_⟩
  have s1:(⟨#[109]⟩:ByteArray).size=1:=rfl
  have c:decide ((⟨#[109]⟩:ByteArray).size + t.size≤9223372036854775807)=true:=decide_eq_true (by omega)
  rw [laws_markText.eq]
  unfold laws_markText.b
  simp only [decide_eq_false h,cond_false,hk N N _ (show 1000000 < N by omega),c,cond_true]
noncomputable def markT (v:Int):ByteArray:=if h:v≤1000000 then Classical.choose (markText_ex v h) else ByteArray.empty
theorem markT_eq {α:Type} (N:Nat) (v:Int) (hv:v≤1000000) (k:ByteArray→Option α) (hN:2000000 < N):laws_markText N v k=k (markT v):=by
 unfold markT
 rw [dif_pos hv]
 exact Classical.choose_spec (markText_ex v hv) α N k hN
noncomputable def markedT:Int→List Tok→List Tok
 | _,[]=>[]
 | k,_::r=>(k,(markT (k + 1),()))::markedT (k + 2) r
theorem markTok_loop {α : Type} (N : Nat) (hN : 2000000 < N) (k : Int → List Tok → Option α) : ∀ (d i n : Nat) (c : Int) (pre rest : List Tok), pre.length = i → rest.length = d → i + d ≤ 100000 → d < n → 0 ≤ c → c ≤ 100000 + 2 * i →
    laws_markLangTokenS_L0 N n c i (pre ++ rest) k = k (c + 2 * d) (pre ++ markedT c rest) := by
  intro d
  induction d with
  | zero =>
    intro i n c pre rest h1 h2 h3 h5 h6 h7
    obtain ⟨m, rfl⟩ : ∃ m, n = m + 1 := ⟨n - 1, by omega⟩
    have : rest = [] := List.length_eq_zero_iff.1 h2
    subst this
    rw [laws_markLangTokenS_L0.succ]
    unfold laws_markLangTokenS_L0r
    simp only [List.append_nil, cast_nlt (show ¬ i < pre.length by omega), cond_false]
    simp [markedT]
  | succ d ih =>
    intro i n c pre rest h1 h2 h3 h5 h6 h7
    obtain ⟨m, rfl⟩ : ∃ m, n = m + 1 := ⟨n - 1, by omega⟩
    obtain ⟨p, r, rfl⟩ : ∃ p r, rest = p :: r := by
      cases rest with
      | nil => simp at h2
      | cons p r => exact ⟨p, r, rfl⟩
    have hi : i < (pre ++ p :: r).length := by simp; omega
    have hget : (pre ++ p :: r)[i]? = some p := by rw [List.getElem?_append_right (by omega), h1]; simp
    have hset : ∀ q : Tok, (pre ++ p :: r).set i q = pre ++ q :: r := by
      intro q
      rw [List.set_append_right _ _ (by omega), h1]; simp
    have hget2 : ∀ q : Tok, (pre ++ q :: r)[i]? = some q := by
      intro q
      rw [List.getElem?_append_right (by omega), h1]; simp
    have hset2 : ∀ q q2 : Tok, (pre ++ q :: r).set i q2 = pre ++ q2 :: r := by
      intro q q2
      rw [List.set_append_right _ _ (by omega), h1]; simp
    have hi2 : ∀ q : Tok, decide (i < (pre ++ q :: r).length) = true := by
      intro q
      simp only [decide_eq_true_eq, List.length_append, List.length_cons]; omega
    have hw1 : IntKind.i64.wrap (c + 1) = c + 1 := wrap_i64 (by omega) (by omega)
    have hw2 : IntKind.i64.wrap (c + 1 + 1) = c + 2 := by rw [wrap_i64 (by omega) (by omega)]; omega
    rw [laws_markLangTokenS_L0.succ]
    unfold laws_markLangTokenS_L0r
    simp only [cast_lt hi, cast_neg, cond_true, cond_false, Int.toNat_natCast, decide_eq_true hi, hget, hset, hw1, markT_eq N (c + 1) (show c + 1 ≤ 1000000 by omega) _ hN, hi2, hget2, hset2, hw2, succ_i (show i < 4611686018427387904 by omega)]
    have := ih (i + 1) m (c + 2) (pre ++ [(c, (markT (c + 1), ()))]) r (by simp [h1]) (by simpa using h2) (by omega) (by omega) (by omega) (by omega)
    simp only [List.append_assoc, List.singleton_append] at this
    rw [this, markedT]
    congr 1; omega
theorem markTok_eq {α:Type} (N:Nat) (a:List Tok) (k:Int→List Tok→Option α) (ha:a.length≤1000) (hN:2000000 < N):laws_markLangTokenS N 1 a k=k (1 + 2 * a.length) (markedT 1 a):=by
 rw [laws_markLangTokenS.eq]
 unfold laws_markLangTokenS.b
 have:=markTok_loop N hN k a.length 0 N 1 [] a rfl rfl (by omega) (by omega) (by omega) (by omega)
 simpa using this
theorem heldTok_loop {α : Type} (N : Nat) (hN : 2000000 < N) (k k1 : Int → Option α) : ∀ (d i n : Nat) (c : Int) (pre rest : List Tok), pre.length = i → rest.length = d → i + d ≤ 100000 → d < n → 0 ≤ c → c ≤ 100000 + 2 * i →
    laws_heldLangTokenS_L0 N n (pre ++ markedT c rest) c i k k1 = k1 (c + 2 * d) := by
  intro d
  induction d with
  | zero =>
    intro i n c pre rest h1 h2 h3 h5 h6 h7
    obtain ⟨m, rfl⟩ : ∃ m, n = m + 1 := ⟨n - 1, by omega⟩
    have : rest = [] := List.length_eq_zero_iff.1 h2
    subst this
    rw [laws_heldLangTokenS_L0.succ]
    unfold laws_heldLangTokenS_L0r
    simp only [markedT, List.append_nil, cast_nlt (show ¬ i < pre.length by omega), cond_false]
    simp
  | succ d ih =>
    intro i n c pre rest h1 h2 h3 h5 h6 h7
    obtain ⟨m, rfl⟩ : ∃ m, n = m + 1 := ⟨n - 1, by omega⟩
    obtain ⟨p, r, rfl⟩ : ∃ p r, rest = p :: r := by
      cases rest with
      | nil => simp at h2
      | cons p r => exact ⟨p, r, rfl⟩
    rw [markedT]
    have hi : i < (pre ++ (c, (markT (c + 1), ())) :: markedT (c + 2) r).length := by simp; omega
    have hget : (pre ++ (c, (markT (c + 1), ())) :: markedT (c + 2) r)[i]? = some (c, (markT (c + 1), ())) := by rw [List.getElem?_append_right (by omega), h1]; simp
    have hw1 : IntKind.i64.wrap (c + 1) = c + 1 := wrap_i64 (by omega) (by omega)
    have hw2 : IntKind.i64.wrap (c + 1 + 1) = c + 2 := by rw [wrap_i64 (by omega) (by omega)]; omega
    rw [laws_heldLangTokenS_L0.succ]
    unfold laws_heldLangTokenS_L0r
    simp only [cast_lt hi, cast_neg, cond_true, cond_false, Int.toNat_natCast, hget, decide_true, Bool.not_true, hw1, markT_eq N (c + 1) (show c + 1 ≤ 1000000 by omega) _ hN, eqS_self, hw2, succ_i (show i < 4611686018427387904 by omega)]
    have := ih (i + 1) m (c + 2) (pre ++ [(c, (markT (c + 1), ()))]) r (by simp [h1]) (by simpa using h2) (by omega) (by omega) (by omega) (by omega)
    simp only [List.append_assoc, List.singleton_append] at this
    rw [this]
    congr 1; omega
theorem heldTok_eq {α:Type} (N:Nat) (a:List Tok) (k:Int→Option α) (ha:a.length≤1000) (hN:2000000 < N):laws_heldLangTokenS N (markedT 1 a) 1 k=k (1 + 2 * a.length):=by
 rw [laws_heldLangTokenS.eq]
 unfold laws_heldLangTokenS.b
 simpa using heldTok_loop (α:=α) N hN (fun x=>k x) (fun x=>k x) a.length 0 N 1 [] a rfl rfl (by omega) (by omega) (by omega) (by omega)
theorem pure_FnExactLangTokens (x0:ByteArray):∃ N,laws_FnExactLangTokens N x0 some=some true:=by
 refine ⟨2000001,?_⟩
 have hN:2000000 < 2000001:=by omega
 generalize 2000001=N at hN
 obtain ⟨x,rfl⟩:∃ x,x0=BA x:=⟨x0.data.toList,by simp [BA]⟩
 obtain ⟨e,o,ho,hk⟩:=tokens_eq x
 rw [laws_FnExactLangTokens.eq]
 unfold laws_FnExactLangTokens.b
 have c:decide ((1:Int) + 2 * ((o.length:Nat):Int) < 0)=false:=decide_eq_false (by omega)
 simp only [fun k=>(hk (α:=Bool) N k hN).1,fun k=>(hk (α:=Bool) N k hN).2,fun k=>eqTok_eq (α:=Bool) N o (show o.length≤100000 by omega) k (show 1048576 < N by omega),decide_true,Bool.not_true,cond_false,fun k=>markTok_eq (α:=Bool) N o k (show o.length≤1000 by omega) hN,fun k=>heldTok_eq (α:=Bool) N o k (show o.length≤1000 by omega) hN,c]
 cases decide ((1048576:Int) < (((BA x).size:Nat):Int)) <;> rfl
end Go.Proofs.YtnhbcpmmdblkjaaDoorAm
