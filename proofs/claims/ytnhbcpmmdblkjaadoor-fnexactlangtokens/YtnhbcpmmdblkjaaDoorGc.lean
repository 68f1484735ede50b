/-
  Reading decimals; the law of texts and back.
-/
import Derived.Test.YtnhbcpmmdblkjaaDoorGa
import Derived.Test.YtnhbcpmmdblkjaaDoorF
import Derived.Test.YtnhbcpmmdblkjaaDoorB
import Derived.Test.YtnhbcpmmdblkjaaDoorF
namespace Go.Proofs.YtnhbcpmmdblkjaaDoorAm
open Go
set_option linter.unusedVariables false
set_option linter.unusedSimpArgs false

theorem toListLoop (l : List UInt8) : ∀ (d i : Nat) (r : List UInt8), i + d = l.length → ByteArray.toList.loop (BA l) i r = r.reverse ++ l.drop i := by
  intro d
  induction d with
  | zero =>
    intro i r h
    rw [ByteArray.toList.loop, if_neg (by rw [BA_size]; omega), List.drop_of_length_le (by omega)]; simp
  | succ d ih =>
    intro i r h
    have hi : i < l.length := by omega
    rw [ByteArray.toList.loop, if_pos (by rw [BA_size]; omega), ih (i + 1) _ (by omega), List.drop_eq_getElem_cons hi]
    have : ByteArray.get! (BA l) i = l[i] := by simp [ByteArray.get!, BA, hi]
    simp [this]
theorem BA_toList (l:List UInt8):(BA l).toList=l:=by
 have:=toListLoop l l.length 0 [] (by omega)
 simpa [ByteArray.toList] using this
theorem eqS_BA (l m:List UInt8):eqS (BA l) (BA m)=decide (l=m):=by
 unfold eqS
 rw [BA_toList,BA_toList]
 by_cases h:l=m <;> simp [h]
theorem BA_get (l:List UInt8) (i:Nat):((BA l)[i]?:Option UInt8)=l[i]?:=by
 by_cases h:i < l.length
 ·have h2:i < (BA l).size:=by rw [BA_size]; exact h
  rw [getElem?_pos (BA l) i h2,List.getElem?_eq_getElem h]; rfl
 ·have h2:¬ i < (BA l).size:=by rw [BA_size]; omega
  rw [getElem?_neg (BA l) i h2,List.getElem?_eq_none (by omega)]
def isDig (d:UInt8):Bool:=decide (48≤d.toNat) && decide (d.toNat≤57)
def stepD (v:Nat) (d:UInt8):Nat:=v * 10 + (d.toNat - 48)
def valT (l:List UInt8):Nat:=l.foldl stepD 0
theorem isDig_ok {d:UInt8} (h:isDig d=true):48≤d.toNat∧d.toNat≤57:=by
 simpa [isDig] using h
theorem fold_lt : ∀ (l : List UInt8) (v i : Nat), l.all isDig = true → v < 10 ^ i → l.foldl stepD v < 10 ^ (i + l.length)
  | [], v, i, _, h => h
  | d :: r, v, i, ha, h => by
    simp only [List.all_cons, Bool.and_eq_true] at ha
    have hd := isDig_ok ha.1
    have h1 : stepD v d < 10 ^ (i + 1) := by unfold stepD; rw [Nat.pow_succ]; omega
    have := fold_lt r (stepD v d) (i + 1) ha.2 h1
    rw [List.foldl_cons, List.length_cons, show i + (r.length + 1) = i + 1 + r.length by omega]
    exact this
theorem fold_ge : ∀ (l : List UInt8) (v : Nat), v ≤ l.foldl stepD v
  | [], v => Nat.le_refl _
  | d :: r, v => by
    rw [List.foldl_cons]
    refine Nat.le_trans ?_ (fold_ge r (stepD v d))
    unfold stepD; omega
theorem dig_wraps {d:UInt8} (h:isDig d=true):IntKind.u64.wrap (IntKind.u8.wrap (((d.toNat:Nat):Int) - 48))=((d.toNat - 48:Nat):Int)∧¬ ((d.toNat:Nat):Int) < 48∧¬ (57:Int) < ((d.toNat:Nat):Int):=by
 have hd:=isDig_ok h
 have w1:IntKind.u8.wrap (((d.toNat:Nat):Int) - 48)=((d.toNat - 48:Nat):Int):=by
  simp [IntKind.wrap,IntKind.bits,IntKind.signed]; omega
 rw [w1]
 exact ⟨wrap_u64 (by omega) (by omega),by omega,by omega⟩
theorem dig_not {d:UInt8} (h:isDig d=false):((d.toNat:Nat):Int) < 48∨(¬ ((d.toNat:Nat):Int) < 48∧(57:Int) < ((d.toNat:Nat):Int)):=by
 simp only [isDig,Bool.and_eq_false_iff,decide_eq_false_iff_not] at h
 omega
theorem impl_isDigits_loop {α : Type} (N : Nat) (l : List UInt8) (hb : l.length ≤ 2000000) (k0 : Bool → Option α) (k1 : ByteArray → Option α) : ∀ (d i n : Nat), i + d = l.length → d < n →
    impl_isDigits_L0 N n (BA l) ((l.length : Nat) : Int) (i : Int) k0 k1 = if (l.drop i).all isDig = true then k1 (BA l) else k0 false := by
  intro d
  induction d with
  | zero =>
    intro i n h hn
    obtain ⟨n, rfl⟩ : ∃ m, n = m + 1 := ⟨n - 1, by omega⟩
    rw [impl_isDigits_L0.succ]
    unfold impl_isDigits_L0r
    simp only [cast_nlt (show ¬ i < l.length by omega), cond_false, List.drop_of_length_le (show l.length ≤ i by omega), List.all_nil, if_true]
  | succ d ih =>
    intro i n h hn
    obtain ⟨n, rfl⟩ : ∃ m, n = m + 1 := ⟨n - 1, by omega⟩
    have hi : i < l.length := by omega
    rw [impl_isDigits_L0.succ]
    unfold impl_isDigits_L0r
    simp only [cast_lt hi, cast_neg, cond_true, cond_false, Int.toNat_natCast, BA_get, List.getElem?_eq_getElem hi, List.drop_eq_getElem_cons hi, List.all_cons, succ_i (show i < 4611686018427387904 by omega)]
    cases hd : isDig l[i]
    · rcases dig_not hd with c | ⟨c, c'⟩
      · simp [c]
      · simp [c, c']
    · obtain ⟨_, c1, c2⟩ := dig_wraps hd
      simp only [c1, c2, decide_false, cond_false, Bool.true_and]
      exact ih (i + 1) n (by omega) (by omega)
end Go.Proofs.YtnhbcpmmdblkjaaDoorAm
