/-
  Reading fractions: what both texts read; the law.
-/
import Derived.Test.YtnhbcpmmdblkjaaGreatDoorGb
import Derived.Test.YtnhbcpmmdblkjaaGreatDoorGc
namespace Go.Proofs.YtnhbcpmmdblkjaaGreatDoorAm
open Go
set_option linter.unusedVariables false
set_option linter.unusedSimpArgs false

theorem BA_extract (l : List UInt8) (i j : Nat) : (BA l).extract i j = BA ((l.drop i).take (j - i)) := by
  apply ByteArray.ext
  rw [ByteArray.data_extract]
  apply Array.toList_inj.1
  simp [BA, List.extract]
theorem BA_from (l : List UInt8) (i : Nat) : (BA l).extract i (BA l).size = BA (l.drop i) := by
  rw [BA_extract, BA_size, List.take_of_length_le (by simp)]
theorem BA_upto (l : List UInt8) (j : Nat) : (BA l).extract 0 j = BA (l.take j) := by
  rw [BA_extract]; simp
def spl : List UInt8 → Option (List UInt8 × List UInt8)
  | [] => none
  | b :: r => if b = 47 then some ([], r) else (spl r).map fun p => (b :: p.1, p.2)
theorem spl_index : ∀ l : List UInt8, (spl l = none ∧ Go.Lib.indexByte l 47 = -1) ∨ ∃ u v, spl l = some (u, v) ∧ Go.Lib.indexByte l 47 = (u.length : Int) ∧ l = u ++ 47 :: v
  | [] => .inl ⟨rfl, rfl⟩
  | b :: r => by
    by_cases hb : b = 47
    · subst hb
      right
      refine ⟨[], r, rfl, ?_, rfl⟩
      simp [Go.Lib.indexByte]
    · have hb2 : (b == 47) = false := by simpa using hb
      rcases spl_index r with ⟨h1, h2⟩ | ⟨u, v, h1, h2, h3⟩
      · left
        refine ⟨by simp [spl, hb, h1], ?_⟩
        unfold Go.Lib.indexByte
        rw [hb2, h2]; rfl
      · right
        refine ⟨b :: u, v, by simp [spl, hb, h1], ?_, by rw [h3]; rfl⟩
        unfold Go.Lib.indexByte
        have hne : (Go.Lib.indexByte r 47 == -1) = false := by
          rw [h2]
          simp
        rw [hb2, hne, h2]
        simp
def readP (bl : Bool) (u v : List UInt8) : R4 :=
  if (natReadB u).2 = true ∧ (natReadB v).2 = true ∧ fracOkB (bl, ((natReadB u).1, ((natReadB v).1, ()))) = true then (bl, true, (natReadB u).1, (natReadB v).1) else bad4
def readS (bl : Bool) (l : List UInt8) : R4 :=
  match spl l with
  | none => readP bl l [49]
  | some (u, v) => if v = [49] then bad4 else readP bl u v
def fracRead (x : List UInt8) : R4 := if x[0]? = some 45 then readS true (x.drop 1) else readS false x
theorem natRead_ok {l : List UInt8} (h : (natReadB l).2 = true) : ∃ a, natReadB l = (digs a, true) ∧ a < 65536 ^ 256 ∧ Go.Lib.decDigits a = l := by
  unfold natReadB at *
  by_cases hc : l.length = 0 ∨ 1300 < l.length ∨ l.all isDig = false ∨ (1 < l.length ∧ l[0]? = some 48)
  · rw [if_pos hc] at h; cases h
  · rw [if_neg hc] at h ⊢
    have g4 : l.all isDig = true := by
      cases hq : l.all isDig with
      | true => rfl
      | false => exact absurd (.inr (.inr (.inl hq))) hc
    rcases fits_cases (valT l) with ⟨h2, h3⟩ | h2
    · exact ⟨valT l, h2, h3, read_dec (l.length - 1) l (by omega) g4 fun q q' => hc (.inr (.inr (.inr ⟨q, q'⟩)))⟩
    · rw [h2] at h; cases h
theorem natRead_one : natReadB [49] = ([1], true) := by
  have h := natRead_dec (a := 1) (Nat.lt_of_lt_of_le (show 1 < 65536 ^ 1 by omega) (pow_up (by omega)))
  rw [dec_small (show 1 < 10 by omega), digs1] at h
  exact h
theorem spec_FracRead_loop {α : Type} (N : Nat) (l : List UInt8) (bl : Bool) (hb : l.length ≤ 2000000) (k0 : FracD → Bool → Option α) (k1 : Bool → ByteArray → ByteArray → Bool → List Int → List Int → Option α) : ∀ (d i n : Nat), i + d = l.length → d < n →
    spec_FracRead_L0 N n (BA l) bl (BA l) (BA [49]) (i : Int) false [] [] k0 k1 = match spl (l.drop i) with
      | none => k1 bl (BA l) (BA [49]) false [] []
      | some (u, v) => if v = [49] then k0 (false, ([], ([], ()))) false else k1 bl (BA (l.take i ++ u)) (BA v) false [] [] := by
  intro d
  induction d with
  | zero =>
    intro i n h hn
    obtain ⟨n, rfl⟩ : ∃ m, n = m + 1 := ⟨n - 1, by omega⟩
    rw [spec_FracRead_L0.succ]
    unfold spec_FracRead_L0r
    simp only [BA_size, cast_nlt (show ¬ i < l.length by omega), cond_false, List.drop_of_length_le (show l.length ≤ i by omega), spl]
  | succ d ih =>
    intro i n h hn
    obtain ⟨n, rfl⟩ : ∃ m, n = m + 1 := ⟨n - 1, by omega⟩
    have hi : i < l.length := by omega
    rw [spec_FracRead_L0.succ]
    unfold spec_FracRead_L0r
    have c1 : (i : Int) ≤ ((l.length : Nat) : Int) := by omega
    have c2 : ((i + 1 : Nat) : Int) ≤ ((l.length : Nat) : Int) := by omega
    have hf : (BA l).extract (i + 1) l.length = BA (l.drop (i + 1)) := by have := BA_from l (i + 1); rwa [BA_size] at this
    have b49 : (⟨#[49]⟩ : ByteArray) = BA [49] := rfl
    simp only [BA_size, cast_lt hi, cast_neg, cond_true, cond_false, Int.toNat_natCast, BA_get, List.getElem?_eq_getElem hi, cast_nn, decide_eq_true c1, decide_eq_true c2, succ_i (show i < 4611686018427387904 by omega), BA_upto, hf, b49, eqS_BA, List.drop_eq_getElem_cons hi, spl]
    by_cases h47 : l[i] = 47
    · have c : ((l[i].toNat : Nat) : Int) = 47 := by rw [h47]; rfl
      simp only [c, decide_true, cond_true, h47, if_true, List.append_nil]
      by_cases hv : l.drop (i + 1) = [49]
      · simp [hv]
      · simp [hv]
    · have c : ¬ ((l[i].toNat : Nat) : Int) = 47 := by
        intro q
        have : l[i].toNat = 47 := by omega
        exact h47 (by rw [← UInt8.ofNat_toNat (x := l[i]), this]; rfl)
      simp only [c, decide_false, cond_false, h47, if_false]
      refine (ih (i + 1) n (by omega) (by omega)).trans ?_
      cases hs : spl (l.drop (i + 1)) with
      | none => simp
      | some p =>
        obtain ⟨u, v⟩ := p
        have e : l.take (i + 1) ++ u = l.take i ++ l[i] :: u := by rw [List.take_succ_eq_append_getElem hi, List.append_assoc]; rfl
        simp only [Option.map_some, e]
theorem spec_FracRead_eq {α : Type} (N : Nat) (x : List UInt8) (k : FracD → Bool → Option α) (hx : x.length ≤ 1048576) (hN : cap < N) : spec_FracRead N (BA x) k = k ((fracRead x).1, ((fracRead x).2.2.1, ((fracRead x).2.2.2, ()))) (fracRead x).2.1 := by
  have hNN := cap_N hN
  have b49 : (⟨#[49]⟩ : ByteArray) = BA [49] := rfl
  have body : ∀ (bl : Bool) (l : List UInt8), l.length ≤ 2000000 → spec_FracRead_L0 N N (BA l) bl (BA l) (BA [49]) 0 false [] [] (fun a b => k a b) (fun x680 x681 x682 _ _ _ => spec_NatRead N x681 (fun x1017 x1018 => spec_NatRead N x682 (fun x1019 x1020 => bif !x1018 then k (false, ([], ([], ()))) false else bif !x1020 then k (false, ([], ([], ()))) false else spec_FracOk N (x680, (x1017, (x1019, ()))) (fun x1278 => bif !x1278 then k (false, ([], ([], ()))) false else k (x680, (x1017, (x1019, ()))) true)))) = k ((readS bl l).1, ((readS bl l).2.2.1, ((readS bl l).2.2.2, ()))) (readS bl l).2.1 := by
    intro bl l hl
    have := spec_FracRead_loop N l bl hl (fun a b => k a b) (fun x680 x681 x682 _ _ _ => spec_NatRead N x681 (fun x1017 x1018 => spec_NatRead N x682 (fun x1019 x1020 => bif !x1018 then k (false, ([], ([], ()))) false else bif !x1020 then k (false, ([], ([], ()))) false else spec_FracOk N (x680, (x1017, (x1019, ()))) (fun x1278 => bif !x1278 then k (false, ([], ([], ()))) false else k (x680, (x1017, (x1019, ()))) true)))) l.length 0 N (by omega) (by omega)
    refine this.trans ?_
    have fin : ∀ u v : List UInt8, spec_NatRead N (BA u) (fun x1017 x1018 => spec_NatRead N (BA v) (fun x1019 x1020 => bif !x1018 then k (false, ([], ([], ()))) false else bif !x1020 then k (false, ([], ([], ()))) false else spec_FracOk N (bl, (x1017, (x1019, ()))) (fun x1278 => bif !x1278 then k (false, ([], ([], ()))) false else k (bl, (x1017, (x1019, ()))) true))) = k ((readP bl u v).1, ((readP bl u v).2.2.1, ((readP bl u v).2.2.2, ()))) (readP bl u v).2.1 := by
      intro u v
      simp only [spec_NatRead_eq N _ _ hN, spec_FracOk_eq N _ _ hN]
      unfold readP
      cases h1 : (natReadB u).2
      · simp [bad4]
      cases h2 : (natReadB v).2
      · simp [bad4]
      cases h3 : fracOkB (bl, ((natReadB u).1, ((natReadB v).1, ())))
      · simp [bad4]
      · simp
    rw [List.drop_zero]
    unfold readS
    cases hs : spl l with
    | none => exact fin l [49]
    | some p =>
      obtain ⟨u, v⟩ := p
      by_cases hv : v = [49]
      · simp [hv, bad4]
      · simp only [hv, if_false, List.take_zero, List.nil_append]
        exact fin u v
  rw [spec_FracRead.eq]
  unfold spec_FracRead.b fracRead
  simp only [BA_size, b49]
  by_cases h0 : x.length = 0
  · have : x = [] := List.eq_nil_of_length_eq_zero h0
    subst this
    simp only [List.length_nil, Int.natCast_zero, Int.lt_irrefl, decide_false, cond_false, spec_FracRead_J2.eq]
    unfold spec_FracRead_J2.b
    simp only [cond_false]
    refine (body false [] (by simp)).trans ?_
    simp
  · have c0 : (0 : Int) < ((x.length : Nat) : Int) := by omega
    have hi : 0 < x.length := by omega
    have hg : ((BA x)[0]? : Option UInt8) = some x[0] := by rw [BA_get, List.getElem?_eq_getElem hi]
    have h45 : ((x[0].toNat : Nat) : Int) = 45 ↔ x[0]? = some 45 := by
      rw [List.getElem?_eq_getElem hi, Option.some.injEq]
      constructor
      · intro h
        have : x[0].toNat = 45 := by omega
        rw [← UInt8.ofNat_toNat (x := x[0]), this]; rfl
      · intro h; rw [h]; rfl
    simp only [c0, decide_true, cond_true, hg, spec_FracRead_J2.eq]
    unfold spec_FracRead_J2.b
    have c1 : (1 : Int) ≤ ((x.length : Nat) : Int) := by omega
    have hf : (BA x).extract 1 x.length = BA (x.drop 1) := by have := BA_from x 1; rwa [BA_size] at this
    by_cases hz : x[0]? = some 45
    · simp only [h45.2 hz, decide_true, cond_true, BA_size, c1, hf, hz, if_true]
      exact body true (x.drop 1) (by simp; omega)
    · have : ¬ ((x[0].toNat : Nat) : Int) = 45 := fun q => hz (h45.1 q)
      simp only [this, decide_false, cond_false, hz, if_false]
      exact body false x (by omega)
theorem cutPrefix_eq {α : Type} (N : Nat) (x : List UInt8) (c : UInt8) (k : ByteArray → Bool → Option α) : strings_CutPrefix N (BA x) (BA [c]) k = if x[0]? = some c then k (BA (x.drop 1)) true else k (BA x) false := by
  rw [strings_CutPrefix.eq]
  unfold strings_CutPrefix.b
  rw [internal_stringslite_CutPrefix.eq]
  unfold internal_stringslite_CutPrefix.b
  rw [internal_stringslite_HasPrefix.eq]
  unfold internal_stringslite_HasPrefix.b
  simp only [BA_size, List.length_cons, List.length_nil, Nat.zero_add]
  have e1 : (((1 : Nat) : Int)).toNat = 1 := rfl
  by_cases h0 : x.length = 0
  · have : x = [] := List.eq_nil_of_length_eq_zero h0
    subst this
    have c1 : ¬ ((1 : Nat) : Int) ≤ (([] : List UInt8).length : Int) := by simp
    simp only [c1, decide_false, cond_false, Bool.not_false, cond_true]
    simp
  · have hi : 0 < x.length := by omega
    have c1 : ((1 : Nat) : Int) ≤ ((x.length : Nat) : Int) := by omega
    have c2 : (0 : Int) ≤ ((1 : Nat) : Int) := by omega
    have hf : (BA x).extract 1 x.length = BA (x.drop 1) := by have := BA_from x 1; rwa [BA_size] at this
    have ht : x.take 1 = [x[0]] := by
      cases x with
      | nil => simp at hi
      | cons a r => rfl
    simp only [c1, c2, decide_true, cond_true, e1, BA_upto, eqS_BA, ht, hf, List.getElem?_eq_getElem hi]
    by_cases h : x[0] = c
    · simp [h]
    · simp [h]
theorem cut_eq {α : Type} (N : Nat) (l : List UInt8) (k : ByteArray → ByteArray → Bool → Option α) (hl : l.length ≤ 2000000) : strings_Cut N (BA l) (BA [47]) k = match spl l with
    | none => k (BA l) (BA []) false
    | some (u, v) => k (BA u) (BA v) true := by
  rw [strings_Cut.eq]
  unfold strings_Cut.b
  rw [internal_stringslite_Cut.eq]
  unfold internal_stringslite_Cut.b
  rw [internal_stringslite_Index.eq]
  unfold internal_stringslite_Index.b
  simp only [BA_data, BA_size, List.length_cons, List.length_nil, Nat.zero_add]
  rcases spl_index l with ⟨h1, h2⟩ | ⟨u, v, h1, h2, h3⟩
  · rw [h1, h2]
    have c : ¬ (0 : Int) ≤ -1 := by omega
    simp only [c, decide_false, cond_false, BA_empty]
  · have hlen : l.length = u.length + (v.length + 1) := by rw [h3]; simp
    have c1 : (u.length : Int) ≤ ((l.length : Nat) : Int) := by omega
    have w1 : IntKind.i64.wrap ((u.length : Int) + ((1 : Nat) : Int)) = ((u.length + 1 : Nat) : Int) := by rw [wrap_i64 (by omega) (by omega)]; omega
    have c2 : ((u.length + 1 : Nat) : Int) ≤ ((l.length : Nat) : Int) := by omega
    have hf : (BA l).extract (u.length + 1) l.length = BA (l.drop (u.length + 1)) := by have := BA_from l (u.length + 1); rwa [BA_size] at this
    have e1 : l.take u.length = u := by rw [h3]; simp
    have e2 : l.drop (u.length + 1) = v := by rw [h3]; simp
    rw [h1, h2]
    simp only [cast_nn, cond_true, c1, decide_true, Int.toNat_natCast, w1, c2, BA_upto, hf, e1, e2]
theorem impl_FracRead_eq {α : Type} (N : Nat) (x : List UInt8) (k : Bool → Bool → List Int → List Int → Option α) (hx : x.length ≤ 1048576) (hN : cap < N) : impl_FracRead N (BA x) k = k (fracRead x).1 (fracRead x).2.1 (fracRead x).2.2.1 (fracRead x).2.2.2 := by
  have hNN := cap_N hN
  have b45 : (⟨#[45]⟩ : ByteArray) = BA [45] := rfl
  have b47 : (⟨#[47]⟩ : ByteArray) = BA [47] := rfl
  have fin : ∀ (bl : Bool) (u v : List UInt8), (∀ a b, (natReadB u) = (digs a, true) → natReadB v = (digs b, true) → a < 65536 ^ 256 → b < 65536 ^ 256 → Go.Lib.decDigits a = u → Go.Lib.decDigits b = v → fracTextL bl a b = x) →
      (bif !(natReadB u).2 then k false false [] [] else bif !(natReadB v).2 then k false false [] [] else impl_FracOk N (bl, ((natReadB u).1, ((natReadB v).1, ()))) (fun x2265 => bif !x2265 then k false false [] [] else impl_FracText N (bl, ((natReadB u).1, ((natReadB v).1, ()))) (fun x2320 => bif !eqS x2320 (BA x) then k false false [] [] else k bl true (natReadB u).1 (natReadB v).1))) = k (readP bl u v).1 (readP bl u v).2.1 (readP bl u v).2.2.1 (readP bl u v).2.2.2 := by
    intro bl u v hq
    simp only [impl_FracOk_eq N _ _ hN, impl_FracText_eq N _ _ hN]
    unfold readP
    cases h1 : (natReadB u).2
    · simp [bad4]
    cases h2 : (natReadB v).2
    · simp [bad4]
    obtain ⟨a, ea, ha, da⟩ := natRead_ok h1
    obtain ⟨b, eb, hb, db⟩ := natRead_ok h2
    have ht := hq a b ea eb ha hb da db
    rw [ea, eb]
    cases h3 : fracOkB (bl, (digs a, (digs b, ())))
    · simp [bad4]
    · have : fracText (bl, (digs a, (digs b, ()))) = BA x := by
        unfold fracText
        rw [h3, if_pos rfl, val_digs, val_digs]
        show BA (fracTextL bl a b) = BA x
        rw [ht]
      simp [this, eqS_self]
  have bad : ∀ (bl : Bool) (u : List UInt8), x ≠ (if bl = true then [45] else []) ++ u →
      (bif !(natReadB u).2 then k false false [] [] else bif !(natReadB [49]).2 then k false false [] [] else impl_FracOk N (bl, ((natReadB u).1, ((natReadB [49]).1, ()))) (fun x2265 => bif !x2265 then k false false [] [] else impl_FracText N (bl, ((natReadB u).1, ((natReadB [49]).1, ()))) (fun x2320 => bif !eqS x2320 (BA x) then k false false [] [] else k bl true (natReadB u).1 (natReadB [49]).1))) = k false false [] [] := by
    intro bl u hne
    simp only [impl_FracOk_eq N _ _ hN, impl_FracText_eq N _ _ hN]
    cases h1 : (natReadB u).2
    · simp
    obtain ⟨a, ea, ha, da⟩ := natRead_ok h1
    rw [ea, natRead_one, ← digs1]
    cases h3 : fracOkB (bl, (digs a, (digs 1, ())))
    · simp
    · have : fracText (bl, (digs a, (digs 1, ()))) = BA ((if bl = true then [45] else []) ++ u) := by
        unfold fracText
        rw [h3, if_pos rfl, val_digs, val_digs]
        show BA (fracTextL bl a 1) = _
        unfold fracTextL
        rw [da, if_pos rfl, List.append_nil]
      have hx2 : ¬ (if bl = true then [45] else []) ++ u = x := fun q => hne q.symm
      simp [this, eqS_BA, hx2]
  have body : ∀ (bl : Bool) (l : List UInt8), l.length ≤ 2000000 → x = (if bl = true then [45] else []) ++ l →
      (strings_Cut N (BA l) (BA [47]) (fun x1337 x1338 x1339 => impl_NatRead N x1337 (fun x1659 x1660 => impl_FracRead_J5 N (BA x) bl x1338 x1339 x1659 true false x1660 [(1 : Int)] [] [] (fun x1675 x1676 x1677 x1678 _ x1680 x1681 _ _ => bif !x1677 then k false false [] [] else bif !x1678 then k false false [] [] else impl_FracOk N (x1676, (x1680, (x1681, ()))) (fun x2265 => bif !x2265 then k false false [] [] else impl_FracText N (x1676, (x1680, (x1681, ()))) (fun x2320 => bif !eqS x2320 x1675 then k false false [] [] else k x1676 true x1680 x1681)))))) = k (readS bl l).1 (readS bl l).2.1 (readS bl l).2.2.1 (readS bl l).2.2.2 := by
    intro bl l hl hxl
    rw [cut_eq N l _ hl]
    unfold readS
    rcases spl_index l with ⟨h1, _⟩ | ⟨u, v, h1, _, h3⟩
    · rw [h1]
      simp only [impl_NatRead_eq N l _ hl hN, impl_FracRead_J5.eq]
      unfold impl_FracRead_J5.b
      simp only [cond_false]
      have := fin bl l [49] (by
        intro a b ea eb ha hb da db
        rw [natRead_one, ← digs1] at eb
        have hb1 : b = 1 := by
          have := congrArg (fun p => val p.1) eb
          simp only [val_digs] at this
          omega
        unfold fracTextL
        rw [da, if_pos hb1, List.append_nil]
        exact hxl.symm)
      rw [natRead_one] at this
      exact this
    · have hlu : u.length ≤ 2000000 := by rw [h3] at hl; simp at hl; omega
      have hlv : v.length ≤ 2000000 := by rw [h3] at hl; simp at hl; omega
      rw [h1]
      simp only [impl_NatRead_eq N u _ hlu hN, impl_FracRead_J5.eq]
      unfold impl_FracRead_J5.b
      simp only [cond_true, impl_NatRead_eq N v _ hlv hN]
      by_cases hv : v = [49]
      · subst hv
        rw [if_pos rfl]
        refine (bad bl u ?_).trans rfl
        rw [hxl, h3]
        intro q
        have := congrArg List.length q
        simp at this
      · rw [if_neg hv]
        refine fin bl u v ?_
        intro a b ea eb ha hb da db
        have hb1 : ¬ b = 1 := by
          intro q
          rw [q, dec_small (show 1 < 10 by omega)] at db
          exact hv db.symm
        unfold fracTextL
        rw [da, db, if_neg hb1, hxl, h3]
  rw [impl_FracRead.eq]
  unfold impl_FracRead.b fracRead
  simp only [b45, b47, cutPrefix_eq]
  by_cases hz : x[0]? = some 45
  · rw [if_pos hz, if_pos hz]
    refine body true (x.drop 1) (by simp; omega) ?_
    cases x with
    | nil => simp at hz
    | cons c r =>
      simp only [List.getElem?_cons_zero, Option.some.injEq] at hz
      subst hz; rfl
  · rw [if_neg hz, if_neg hz]
    exact body false x (by omega) (by simp)
end Go.Proofs.YtnhbcpmmdblkjaaGreatDoorAm
