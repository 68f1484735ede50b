/-
  Texts of fractions and back; the law.
-/
import Derived.Test.YtnhbcpmmdblkjaaGreatDoorGd
import Derived.Test.YtnhbcpmmdblkjaaGreatDoorZ
namespace Go.Proofs.YtnhbcpmmdblkjaaGreatDoorAm
open Go
set_option linter.unusedVariables false
set_option linter.unusedSimpArgs false

theorem spl_none : ∀ {u : List UInt8}, u.all isDig = true → spl u = none
  | [], _ => rfl
  | d :: r, h => by
    simp only [List.all_cons, Bool.and_eq_true] at h
    have hd := isDig_ok h.1
    have hne : ¬ d = 47 := fun q => by rw [q] at hd; exact absurd hd.1 (by decide)
    simp only [spl, if_neg hne, spl_none h.2, Option.map_none]
theorem spl_some {v : List UInt8} : ∀ {u : List UInt8}, u.all isDig = true → spl (u ++ 47 :: v) = some (u, v)
  | [], _ => by simp [spl]
  | d :: r, h => by
    simp only [List.all_cons, Bool.and_eq_true] at h
    have hd := isDig_ok h.1
    have hne : ¬ d = 47 := fun q => by rw [q] at hd; exact absurd hd.1 (by decide)
    simp only [List.cons_append, spl, if_neg hne, spl_some h.2, Option.map_some]
theorem fracRead_text {s : Bool} {a b : Nat} (ha : a < 65536 ^ 256) (hb : b < 65536 ^ 256) (hok : fracOkB (s, (digs a, (digs b, ()))) = true) : fracRead (fracTextL s a b) = (s, true, digs a, digs b) := by
  obtain ⟨d1, d2, d3, d4⟩ := dec_read a
  obtain ⟨e1, e2, e3, e4⟩ := dec_read b
  have key : readS s (Go.Lib.decDigits a ++ if b = 1 then [] else 47 :: Go.Lib.decDigits b) = (s, true, digs a, digs b) := by
    unfold readS
    by_cases hb1 : b = 1
    · subst hb1
      rw [if_pos rfl, List.append_nil, spl_none d2]
      show readP s (Go.Lib.decDigits a) [49] = _
      unfold readP
      rw [natRead_dec ha, natRead_one, ← digs1, if_pos ⟨rfl, rfl, hok⟩]
    · rw [if_neg hb1, spl_some d2]
      have hv : ¬ Go.Lib.decDigits b = [49] := by
        intro q
        rw [q] at e1
        have : valT [49] = 1 := rfl
        omega
      show (if Go.Lib.decDigits b = [49] then bad4 else readP s (Go.Lib.decDigits a) (Go.Lib.decDigits b)) = _
      rw [if_neg hv]
      unfold readP
      rw [natRead_dec ha, natRead_dec hb, if_pos ⟨rfl, rfl, hok⟩]
  unfold fracRead fracTextL
  cases s
  · have h0 : ¬ ([] ++ (Go.Lib.decDigits a ++ if b = 1 then [] else 47 :: Go.Lib.decDigits b) : List UInt8)[0]? = some 45 := by
      rw [List.nil_append, List.getElem?_append_left d4, List.getElem?_eq_getElem d4]
      intro q
      have hd := isDig_ok (List.all_eq_true.1 d2 _ (List.getElem_mem d4))
      simp only [Option.some.injEq] at q
      rw [q] at hd
      exact absurd hd.1 (by decide)
    simp only [Bool.false_eq_true, if_false]
    rw [if_neg h0, List.nil_append]
    exact key
  · simp only [if_true]
    rw [if_pos (by simp)]
    exact key
theorem fracText_read {x : List UInt8} (h : (fracRead x).2.1 = true) : fracText ((fracRead x).1, ((fracRead x).2.2.1, ((fracRead x).2.2.2, ()))) = BA x := by
  have key : ∀ (bl : Bool) (l : List UInt8), x = (if bl = true then [45] else []) ++ l → (readS bl l).2.1 = true → fracText ((readS bl l).1, ((readS bl l).2.2.1, ((readS bl l).2.2.2, ()))) = BA x := by
    intro bl l hx hr
    have fin : ∀ u v : List UInt8, (readP bl u v).2.1 = true → (∀ b, natReadB v = (digs b, true) → Go.Lib.decDigits b = v → u ++ (if b = 1 then [] else 47 :: v) = l) → fracText ((readP bl u v).1, ((readP bl u v).2.2.1, ((readP bl u v).2.2.2, ()))) = BA x := by
      intro u v hp hq
      unfold readP at *
      by_cases hc : (natReadB u).2 = true ∧ (natReadB v).2 = true ∧ fracOkB (bl, ((natReadB u).1, ((natReadB v).1, ()))) = true
      · rw [if_pos hc]
        obtain ⟨a, ea, ha, da⟩ := natRead_ok hc.1
        obtain ⟨b, eb, hb, db⟩ := natRead_ok hc.2.1
        have hok := hc.2.2
        rw [ea, eb] at hok ⊢
        have hl := hq b eb db
        show fracText (bl, (digs a, (digs b, ()))) = BA x
        unfold fracText
        rw [hok, if_pos rfl, val_digs, val_digs]
        show BA (fracTextL bl a b) = BA x
        unfold fracTextL
        rw [da, db, hl, ← hx]
      · rw [if_neg hc] at hp; cases hp
    unfold readS at *
    rcases spl_index l with ⟨h1, _⟩ | ⟨u, v, h1, _, h3⟩
    · rw [h1] at hr ⊢
      refine fin l [49] hr ?_
      intro b eb _
      rw [natRead_one, ← digs1] at eb
      have hb1 : b = 1 := by
        have := congrArg (fun p => val p.1) eb
        simp only [val_digs] at this
        omega
      rw [if_pos hb1, List.append_nil]
    · rw [h1] at hr ⊢
      by_cases hv : v = [49]
      · simp only [hv, if_true] at hr
        cases hr
      · simp only [hv, if_false] at hr ⊢
        refine fin u v hr ?_
        intro b _ db
        have hb1 : ¬ b = 1 := by
          intro q
          rw [q, dec_small (show 1 < 10 by omega)] at db
          exact hv db.symm
        rw [if_neg hb1, h3]
  unfold fracRead at *
  by_cases hz : x[0]? = some 45
  · rw [if_pos hz] at h ⊢
    refine key true (x.drop 1) ?_ h
    cases x with
    | nil => simp at hz
    | cons c r =>
      simp only [List.getElem?_cons_zero, Option.some.injEq] at hz
      subst hz; rfl
  · rw [if_neg hz] at h ⊢
    exact key false x (by simp) h
theorem fracTextL_len {s : Bool} {a b : Nat} (ha : a < 65536 ^ 256) (hb : b < 65536 ^ 256) : (fracTextL s a b).length ≤ 2600 ∧ fracTextL s a b ≠ [] := by
  have la := dec_len ha
  have lb := dec_len hb
  obtain ⟨_, _, _, d4⟩ := dec_read a
  unfold fracTextL
  constructor
  · rw [List.length_append, List.length_append]
    have h1 : (if s = true then [(45 : UInt8)] else []).length ≤ 1 := by cases s <;> simp
    have h2 : (if b = 1 then [] else 47 :: Go.Lib.decDigits b).length ≤ 1281 := by
      split
      · simp
      · simp; omega
    omega
  · intro q
    have := congrArg List.length q
    simp at this
    have h := this.2.1
    rw [h] at d4
    simp at d4
theorem fracDraw_J3 {α : Type} (N : Nat) (r : Int) (s : RdD) (sg : Bool) (u v : List Int) (c : Nat) (h : RdOk c s) (hc : c ≤ 200000) (hu : u.length ≤ 300) (hv : v.length ≤ 300) (hN : cap < N) :
    ∃ (s' : RdD) (b : Bool) (u' v' : List Int), (∀ (k : RdD → Bool → Bool → List Int → List Int → List Int → List Int → Option α), spec_l32Rd_frac_J3 N r s false sg [] [] u v k = k s' false b [] [] u' v') ∧ u'.length ≤ 1000 ∧ v'.length ≤ 1000 := by
  by_cases h0 : r = 0
  · refine ⟨s, !sg, u, v, fun k => ?_, by omega, by omega⟩
    rw [spec_l32Rd_frac_J3.eq]
    unfold spec_l32Rd_frac_J3.b
    simp only [h0, decide_true, cond_true]
  by_cases h1 : r = 1
  · refine ⟨s, sg, u, [], fun k => ?_, by omega, by simp⟩
    rw [spec_l32Rd_frac_J3.eq]
    unfold spec_l32Rd_frac_J3.b
    simp only [h0, decide_false, cond_false, spec_l32Rd_frac_J5.eq]
    unfold spec_l32Rd_frac_J5.b
    simp only [h1, decide_true, cond_true]
  by_cases h2 : r = 2
  · refine ⟨s, sg, 0 :: u, 0 :: v, fun k => ?_, by simp; omega, by simp; omega⟩
    have c1 : [(0 : Int)].length + u.length ≤ 8796093022208 := by simp; omega
    have c2 : [(0 : Int)].length + v.length ≤ 8796093022208 := by simp; omega
    rw [spec_l32Rd_frac_J3.eq]
    unfold spec_l32Rd_frac_J3.b
    simp only [h0, decide_false, cond_false, spec_l32Rd_frac_J5.eq]
    unfold spec_l32Rd_frac_J5.b
    simp only [h1, decide_false, cond_false, spec_l32Rd_frac_J7.eq]
    unfold spec_l32Rd_frac_J7.b
    simp only [h2, decide_true, cond_true, decide_eq_true c1, decide_eq_true c2]
    rfl
  by_cases h3 : r = 3
  · obtain ⟨l, s1, e1, hl, _⟩ := raw_ok (α := α) N s c h (by omega) hN
    refine ⟨s1, sg, l, v, fun k => ?_, by omega, by omega⟩
    rw [spec_l32Rd_frac_J3.eq]
    unfold spec_l32Rd_frac_J3.b
    simp only [h0, decide_false, cond_false, spec_l32Rd_frac_J5.eq]
    unfold spec_l32Rd_frac_J5.b
    simp only [h1, decide_false, cond_false, spec_l32Rd_frac_J7.eq]
    unfold spec_l32Rd_frac_J7.b
    simp only [h2, decide_false, cond_false, spec_l32Rd_frac_J10.eq]
    unfold spec_l32Rd_frac_J10.b
    simp only [h3, decide_true, cond_true, e1]
  · refine ⟨s, sg, u, v, fun k => ?_, by omega, by omega⟩
    rw [spec_l32Rd_frac_J3.eq]
    unfold spec_l32Rd_frac_J3.b
    simp only [h0, decide_false, cond_false, spec_l32Rd_frac_J5.eq]
    unfold spec_l32Rd_frac_J5.b
    simp only [h1, decide_false, cond_false, spec_l32Rd_frac_J7.eq]
    unfold spec_l32Rd_frac_J7.b
    simp only [h2, decide_false, cond_false, spec_l32Rd_frac_J10.eq]
    unfold spec_l32Rd_frac_J10.b
    simp only [h3, decide_false, cond_false]
theorem fracDraw_ok {α : Type} (N : Nat) (s : RdD) (c : Nat) (h : RdOk c s) (hc : c ≤ 100000) (hN : cap < N) :
    ∃ (b : Bool) (s' : RdD) (u v : List Int), (∀ (k : Bool → RdD → List Int → List Int → Option α), spec_l32Rd_frac N s k = k b s' u v) ∧ u.length ≤ 1000 ∧ v.length ≤ 1000 := by
  obtain ⟨f, s1, e1, hf, q1⟩ := good_ok (α := α) N s c h (by omega) hN
  obtain ⟨sg, a, b, rfl, ha, hb, hb0, hg, hs⟩ := fracOkB_ex hf
  obtain ⟨r, s2, e2, q2, _, _⟩ := pick32_ok N 60 s1 _ q1 (by omega)
  have la := digs_len_le ha
  have lb := digs_len_le hb
  obtain ⟨s3, b3, u, v, e3, hu, hv⟩ := fracDraw_J3 (α := α) N r s2 sg (digs a) (digs b) _ q2 (by omega) (by omega) (by omega) hN
  refine ⟨b3, s3, u, v, fun k => ?_, hu, hv⟩
  rw [spec_l32Rd_frac.eq]
  unfold spec_l32Rd_frac.b
  simp only [e1, e2, e3]
theorem drawFracText_ok {α : Type} (N : Nat) (a : List Int) (ha : ∀ x ∈ a, 0 ≤ x ∧ x ≤ 255) (hN : cap < N) : ∃ (b : Bool) (u v : List Int), (∀ (k : Bool → List Int → List Int → Option α), spec_DrawFracText N a k = k b u v) ∧ u.length ≤ 1000 ∧ v.length ≤ 1000 := by
  obtain ⟨s, e, q⟩ := open32_ok N a ha
  obtain ⟨b, s1, u, v, e1, hu, hv⟩ := fracDraw_ok (α := α) N s 0 q (by omega) hN
  refine ⟨b, u, v, fun k => ?_, hu, hv⟩
  rw [spec_DrawFracText.eq]
  unfold spec_DrawFracText.b
  simp only [e, e1]
theorem drawFracRead_ok {α : Type} (N : Nat) (a : List Int) (ha : ∀ x ∈ a, 0 ≤ x ∧ x ≤ 255) (hN : cap < N) : ∃ l : List UInt8, l.length ≤ 100000 ∧ ∀ k : ByteArray → Option α, spec_DrawFracRead N a k = k (BA l) := by
  obtain ⟨s, e, q⟩ := open32_ok N a ha
  obtain ⟨f, s1, e1, hf, q1⟩ := good_ok (α := α) N s 0 q (by omega) hN
  obtain ⟨sg, p, d, rfl, hp, hd, _, _, _⟩ := fracOkB_ex hf
  have et : fracText (sg, (digs p, (digs d, ()))) = BA (fracTextL sg p d) := by
    unfold fracText
    rw [hf, if_pos rfl, val_digs, val_digs]; rfl
  obtain ⟨hl, _⟩ := fracTextL_len (s := sg) hp hd
  generalize fracTextL sg p d = t at *
  obtain ⟨r, s2, e2, q2, _, _⟩ := pick32_ok N 14 s1 _ q1 (by omega)
  have b1 : (⟨#[47, 49]⟩ : ByteArray) = BA [47, 49] := rfl
  have b2 : (⟨#[47, 50]⟩ : ByteArray) = BA [47, 50] := rfl
  have b3 : (⟨#[45]⟩ : ByteArray) = BA [45] := rfl
  have c1 : (BA t).size + (BA [47, 49]).size ≤ 9223372036854775807 := by rw [BA_size, BA_size]; simp; omega
  have c2 : (BA t).size + (BA [47, 50]).size ≤ 9223372036854775807 := by rw [BA_size, BA_size]; simp; omega
  have c3 : (BA [45]).size + (BA t).size ≤ 9223372036854775807 := by rw [BA_size, BA_size]; simp; omega
  have j4 : ∃ l : List UInt8, l.length ≤ 100000 ∧ ∀ k : ByteArray → Option α, spec_DrawFracRead_J4 N (BA t) r s2 k = k (BA l) := by
    by_cases h0 : r = 0
    · refine ⟨t ++ [47, 49], by simp; omega, fun k => ?_⟩
      rw [spec_DrawFracRead_J4.eq]
      unfold spec_DrawFracRead_J4.b
      simp only [h0, b1, c1, decide_true, cond_true, BA_append]
    by_cases h1 : r = 1
    · refine ⟨t ++ [47, 50], by simp; omega, fun k => ?_⟩
      rw [spec_DrawFracRead_J4.eq]
      unfold spec_DrawFracRead_J4.b
      simp only [h0, decide_false, cond_false, spec_DrawFracRead_J6.eq]
      unfold spec_DrawFracRead_J6.b
      simp only [h1, b2, c2, decide_true, cond_true, BA_append]
    by_cases h2 : r = 2
    · refine ⟨[45] ++ t, by simp; omega, fun k => ?_⟩
      rw [spec_DrawFracRead_J4.eq]
      unfold spec_DrawFracRead_J4.b
      simp only [h0, decide_false, cond_false, spec_DrawFracRead_J6.eq]
      unfold spec_DrawFracRead_J6.b
      simp only [h1, decide_false, cond_false, spec_DrawFracRead_J8.eq]
      unfold spec_DrawFracRead_J8.b
      simp only [h2, b3, c3, decide_true, cond_true, BA_append]
    by_cases h3 : r = 3
    · refine ⟨[45, 48], by simp, fun k => ?_⟩
      rw [spec_DrawFracRead_J4.eq]
      unfold spec_DrawFracRead_J4.b
      simp only [h0, decide_false, cond_false, spec_DrawFracRead_J6.eq]
      unfold spec_DrawFracRead_J6.b
      simp only [h1, decide_false, cond_false, spec_DrawFracRead_J8.eq]
      unfold spec_DrawFracRead_J8.b
      simp only [h2, decide_false, cond_false, spec_DrawFracRead_J10.eq]
      unfold spec_DrawFracRead_J10.b
      simp only [h3, decide_true, cond_true]
      rfl
    by_cases h4 : r = 4
    · obtain ⟨x, s3, e3, _, x0, x1⟩ := pick32_ok N 13 s2 _ q2 (by omega)
      have x1 := x1 (by omega)
      have hx : ¬ x < 0 := by omega
      obtain ⟨L, hL⟩ : ∃ L : List ByteArray, L = [ByteArray.empty, (⟨#[45]⟩ : ByteArray), (⟨#[47]⟩ : ByteArray), (⟨#[49, 47]⟩ : ByteArray), (⟨#[47, 51]⟩ : ByteArray), (⟨#[50, 47, 52]⟩ : ByteArray), (⟨#[49, 47, 48]⟩ : ByteArray), (⟨#[48, 47, 53]⟩ : ByteArray), (⟨#[43, 49]⟩ : ByteArray), (⟨#[32, 49]⟩ : ByteArray), (⟨#[49, 47, 45, 50]⟩ : ByteArray), (⟨#[48, 51]⟩ : ByteArray), (⟨#[49, 47, 50, 47, 51]⟩ : ByteArray)] := ⟨_, rfl⟩
      have hLl : L.length = 13 := by rw [hL]; rfl
      have hLs : (L.all fun b => decide (b.size ≤ 10)) = true := by rw [hL]; rfl
      have hi : x.toNat < L.length := by omega
      obtain ⟨m, hm⟩ := BA_of (L[x.toNat])
      have hms : m.length ≤ 10 := by
        have := List.all_eq_true.1 hLs _ (List.getElem_mem hi)
        rw [hm, BA_size] at this
        simpa using this
      refine ⟨m, by omega, fun k => ?_⟩
      rw [spec_DrawFracRead_J4.eq]
      unfold spec_DrawFracRead_J4.b
      simp only [h0, decide_false, cond_false, spec_DrawFracRead_J6.eq]
      unfold spec_DrawFracRead_J6.b
      simp only [h1, decide_false, cond_false, spec_DrawFracRead_J8.eq]
      unfold spec_DrawFracRead_J8.b
      simp only [h2, decide_false, cond_false, spec_DrawFracRead_J10.eq]
      unfold spec_DrawFracRead_J10.b
      simp only [h3, decide_false, cond_false, spec_DrawFracRead_J12.eq]
      unfold spec_DrawFracRead_J12.b
      rw [← hL]
      simp only [h4, decide_true, cond_true, e3, hx, decide_false, cond_false, decide_eq_true hi, List.getElem?_eq_getElem hi, hm]
    · refine ⟨t, by omega, fun k => ?_⟩
      rw [spec_DrawFracRead_J4.eq]
      unfold spec_DrawFracRead_J4.b
      simp only [h0, decide_false, cond_false, spec_DrawFracRead_J6.eq]
      unfold spec_DrawFracRead_J6.b
      simp only [h1, decide_false, cond_false, spec_DrawFracRead_J8.eq]
      unfold spec_DrawFracRead_J8.b
      simp only [h2, decide_false, cond_false, spec_DrawFracRead_J10.eq]
      unfold spec_DrawFracRead_J10.b
      simp only [h3, decide_false, cond_false, spec_DrawFracRead_J12.eq]
      unfold spec_DrawFracRead_J12.b
      simp only [h4, decide_false, cond_false]
  obtain ⟨l, hl2, e3⟩ := j4
  refine ⟨l, hl2, fun k => ?_⟩
  rw [spec_DrawFracRead.eq]
  unfold spec_DrawFracRead.b
  simp only [e, e1, spec_FracText_eq N _ _ hN, et, e2, e3]
theorem fracText_some {f : FracD} : (!eqS (fracText f) ByteArray.empty) = fracOkB f := by
  unfold fracText
  cases hf : fracOkB f
  · simp [BA_empty, eqS_BA]
  · obtain ⟨s, a, b, rfl, ha, hb, _, _, _⟩ := fracOkB_ex hf
    rw [if_pos rfl, val_digs, val_digs]
    show (!eqS (BA (fracTextL s a b)) ByteArray.empty) = true
    rw [BA_empty, eqS_BA]
    simp [(fracTextL_len (s := s) ha hb).2]
theorem fracText_J7 {α : Type} (N : Nat) (x : List Int) (f : FracD) (k : Bool → Option α) (k1 : List Int → Option α) (hN : cap < N) : laws_FnFracText_J7 N x (fracText f) f.1 f.2.1 f.2.2.1 k k1 = k1 x := by
  rw [laws_FnFracText_J7.eq]
  unfold laws_FnFracText_J7.b
  simp only [fracText_some]
  cases hf : fracOkB f
  · simp
  · obtain ⟨s, a, b, rfl, ha, hb, _, _, _⟩ := fracOkB_ex hf
    have et : fracText (s, (digs a, (digs b, ()))) = BA (fracTextL s a b) := by
      unfold fracText
      rw [hf, if_pos rfl, val_digs, val_digs]; rfl
    have hl := (fracTextL_len (s := s) ha hb).1
    have la := digs_len_le ha
    have lb := digs_len_le hb
    simp only [cond_true, et, impl_FracRead_eq N _ _ (show (fracTextL s a b).length ≤ 1048576 by omega) hN, fracRead_text ha hb hf, Bool.not_true, cond_false, laws_pwFrac_eq N (s, (digs a, (digs b, ()))) _ _ (show (digs a).length ≤ 1048576 by omega) (show (digs b).length ≤ 1048576 by omega) hN, decide_true]
theorem pure_FnFracText (x0 : List Int) (z0 : wfD (.sl (.int .u8)) x0) : ∃ N, laws_FnFracText N x0 some = some true := by
  refine ⟨cap + 1, ?_⟩
  have hN : cap < cap + 1 := by omega
  generalize cap + 1 = N at *
  rw [laws_FnFracText.eq]
  unfold laws_FnFracText.b
  by_cases h1 : (1048576 : Int) < ((x0.length : Nat) : Int)
  · simp [h1]
  obtain ⟨b, u, v, e1, _, _⟩ := drawFracText_ok (α := Bool) N x0 (bytes_wf z0) hN
  obtain ⟨l, hl, e2⟩ := drawFracRead_ok (α := Bool) N x0 (bytes_wf z0) hN
  have hj := fun (k : Bool → Option Bool) k1 => fracText_J7 N x0 (b, (u, (v, ()))) k k1 hN
  simp only at hj
  simp only [h1, decide_false, cond_false, e1, impl_FracText_eq N _ _ hN, spec_FracOk_eq N _ _ hN, fracText_some, beq_self_eq_true, Bool.not_true, hj, e2, impl_FracRead_eq N l _ (show l.length ≤ 1048576 by omega) hN, spec_FracRead_eq N l _ (show l.length ≤ 1048576 by omega) hN]
  cases hb : (fracRead l).2.1
  · simp
  · simp only [Bool.not_true, cond_false, fracText_read hb, eqS_self]
end Go.Proofs.YtnhbcpmmdblkjaaGreatDoorAm
