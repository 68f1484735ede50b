/-
  Reading decimals; the law of texts and back.
-/
import Derived.Test.YtnhbcpmmdblkjaaGreatDoorGa
import Derived.Test.YtnhbcpmmdblkjaaGreatDoorN
import Derived.Test.YtnhbcpmmdblkjaaGreatDoorCa
namespace Go.Proofs.YtnhbcpmmdblkjaaGreatDoorAm
open Go
set_option linter.unusedVariables false
set_option linter.unusedSimpArgs false

theorem wpE (l : List UInt8) : ∀ (d i : Nat) (r : List UInt8), i + d = l.length → ByteArray.toList.loop (BA l) i r = r.reverse ++ l.drop i := by
  intro d
  induction d with
  | zero =>
    intro i r h
    rw [ByteArray.toList.loop, if_neg (by rw [weh]; omega), List.drop_of_length_le (by omega)]; simp
  | succ d ih =>
    intro i r h
    have hi : i < l.length := by omega
    rw [ByteArray.toList.loop, if_pos (by rw [weh]; omega), ih (i + 1) _ (by omega), List.drop_eq_getElem_cons hi]
    have : ByteArray.get! (BA l) i = l[i] := by simp [ByteArray.get!, BA, hi]
    simp [this]
theorem wnP (l:List UInt8):(BA l).toList=l:=by
 have:=wpE l l.length 0 [] (by omega)
 simpa [ByteArray.toList] using this
theorem wp8 (l m:List UInt8):eqS (BA l) (BA m)=decide (l=m):=by
 unfold eqS
 rw [wnP,wnP]
 by_cases h:l=m <;> simp [h]
theorem wgD (l:List UInt8) (i:Nat):((BA l)[i]?:Option UInt8)=l[i]?:=by
 by_cases h:i < l.length
 ·have h2:i < (BA l).size:=by rw [weh]; exact h
  rw [getElem?_pos (BA l) i h2,List.getElem?_eq_getElem h]; rfl
 ·have h2:¬ i < (BA l).size:=by rw [weh]; omega
  rw [getElem?_neg (BA l) i h2,List.getElem?_eq_none (by omega)]
theorem wu2 (s:ByteArray):∃ l,s=BA l:=⟨s.data.toList,by apply ByteArray.ext; simp [BA]⟩
def wff (d:UInt8):Bool:=decide (48≤d.toNat) && decide (d.toNat≤57)
def wgf (v:Nat) (d:UInt8):Nat:=v * 10 + (d.toNat - 48)
def valT (l:List UInt8):Nat:=l.foldl wgf 0
theorem whl {d:UInt8} (h:wff d=true):48≤d.toNat∧d.toNat≤57:=by
 simpa [wff] using h
theorem woC : ∀ (l : List UInt8) (v i : Nat), l.all wff = true → v < 10 ^ i → l.foldl wgf v < 10 ^ (i + l.length)
  | [], v, i, _, h => h
  | d :: r, v, i, ha, h => by
    simp only [List.all_cons, Bool.and_eq_true] at ha
    have hd := whl ha.1
    have h1 : wgf v d < 10 ^ (i + 1) := by unfold wgf; rw [Nat.pow_succ]; omega
    have := woC r (wgf v d) (i + 1) ha.2 h1
    rw [List.foldl_cons, List.length_cons, show i + (r.length + 1) = i + 1 + r.length by omega]
    exact this
theorem whU {i:Nat} (h:i≤1302):10 ^ i < cap:=by
 obtain ⟨E,hE⟩:∃ E,E=330:=⟨_,rfl⟩
 have h1:10 ^ i≤(2 ^ 4) ^ i:=Nat.pow_le_pow_left (by decide) i
 rw [← Nat.pow_mul] at h1
 exact wo1 (Nat.lt_of_le_of_lt h1 (whJ (E:=E) (by omega))) (by omega)
theorem wp7 : ∀ (l : List UInt8) (v : Nat), v ≤ l.foldl wgf v
  | [], v => Nat.le_refl _
  | d :: r, v => by
    rw [List.foldl_cons]
    refine Nat.le_trans ?_ (wp7 r (wgf v d))
    unfold wgf; omega
theorem wk8 {d:UInt8} (h:wff d=true):IntKind.u64.wrap (IntKind.u8.wrap (((d.toNat:Nat):Int) - 48))=((d.toNat - 48:Nat):Int)∧¬ ((d.toNat:Nat):Int) < 48∧¬ (57:Int) < ((d.toNat:Nat):Int):=by
 have hd:=whl h
 have w1:IntKind.u8.wrap (((d.toNat:Nat):Int) - 48)=((d.toNat - 48:Nat):Int):=by
  simp [IntKind.wrap,IntKind.bits,IntKind.signed]; omega
 rw [w1]
 exact ⟨wd0 (by omega) (by omega),by omega,by omega⟩
theorem wqZ {d:UInt8} (h:wff d=false):((d.toNat:Nat):Int) < 48∨(¬ ((d.toNat:Nat):Int) < 48∧(57:Int) < ((d.toNat:Nat):Int)):=by
 simp only [wff,Bool.and_eq_false_iff,decide_eq_false_iff_not] at h
 omega
theorem wjL {α : Type} (N : Nat) (l : List UInt8) (hb : l.length ≤ 2000000) (k0 : Bool → Option α) (k1 : ByteArray → Option α) : ∀ (d i n : Nat), i + d = l.length → d < n →
    wZ N n (BA l) ((l.length : Nat) : Int) (i : Int) k0 k1 = if (l.drop i).all wff = true then k1 (BA l) else k0 false := by
  intro d
  induction d with
  | zero =>
    intro i n h hn
    obtain ⟨n, rfl⟩ : ∃ m, n = m + 1 := ⟨n - 1, by omega⟩
    rw [wZ.succ]
    unfold wfr
    simp only [wcx (show ¬ i < l.length by omega), cond_false, List.drop_of_length_le (show l.length ≤ i by omega), List.all_nil, if_true]
  | succ d ih =>
    intro i n h hn
    obtain ⟨n, rfl⟩ : ∃ m, n = m + 1 := ⟨n - 1, by omega⟩
    have hi : i < l.length := by omega
    rw [wZ.succ]
    unfold wfr
    simp only [wc1 hi, wF, cond_true, cond_false, Int.toNat_natCast, wgD, List.getElem?_eq_getElem hi, List.drop_eq_getElem_cons hi, List.all_cons, wdW (show i < 4611686018427387904 by omega)]
    cases hd : wff l[i]
    · rcases wqZ hd with c | ⟨c, c'⟩
      · simp [c]
      · simp [c, c']
    · obtain ⟨_, c1, c2⟩ := wk8 hd
      simp only [c1, c2, decide_false, cond_false, Bool.true_and]
      exact ih (i + 1) n (by omega) (by omega)
theorem wj3 {α : Type} (N : Nat) (l : List UInt8) (hb : l.length ≤ 1300) (ha : l.all wff = true) (hN : cap < N) (k : List Int → Option α) : ∀ (d i n v : Nat), i + d = l.length → d < n → v < 10 ^ i →
    wbn N n (BA l) (digs v) ((l.length : Nat) : Int) (i : Int) k = k (digs ((l.drop i).foldl wgf v)) := by
  intro d
  induction d with
  | zero =>
    intro i n v h hn hv
    obtain ⟨n, rfl⟩ : ∃ m, n = m + 1 := ⟨n - 1, by omega⟩
    rw [wbn.succ]
    unfold wfJ
    simp only [wcx (show ¬ i < l.length by omega), cond_false, List.drop_of_length_le (show l.length ≤ i by omega), List.foldl_nil]
  | succ d ih =>
    intro i n v h hn hv
    obtain ⟨n, rfl⟩ : ∃ m, n = m + 1 := ⟨n - 1, by omega⟩
    have hi : i < l.length := by omega
    have hd : wff l[i] = true := List.all_eq_true.1 ha _ (List.getElem_mem hi)
    obtain ⟨w1, c1, c2⟩ := wk8 hd
    have hd2 := whl hd
    have e10 : [(10 : Int)] = digs 10 := (whI (n := 10) (by omega) (by omega)).symm
    have v1 : v < cap := Nat.lt_trans hv (whU (by omega))
    have h10 : 10 < cap := by have := wii; omega
    have hx : l[i].toNat - 48 < cap := by have := wii; omega
    have hv2 : wgf v l[i] < 10 ^ (i + 1) := by unfold wgf; rw [Nat.pow_succ]; omega
    have v2 : v * 10 < cap := by
      have := whU (i := i + 1) (by omega)
      rw [Nat.pow_succ] at this; omega
    rw [wbn.succ]
    unfold wfJ
    simp only [wc1 hi, wF, cond_true, cond_false, Int.toNat_natCast, wgD, List.getElem?_eq_getElem hi, e10, wgv N v 10 _ v1 h10 hN, w1, wjI N _ _ (show l[i].toNat - 48 < 18446744073709551616 by omega) hN, wmc N _ _ _ v2 hx hN, wdW (show i < 4611686018427387904 by omega), List.drop_eq_getElem_cons hi, List.foldl_cons]
    exact ih (i + 1) n (wgf v l[i]) (by omega) (by omega) hv2
theorem wli {α:Type} (N:Nat) (l:List UInt8) (k:List Int→Option α) (hb:l.length≤1300) (ha:l.all wff=true) (hN:cap < N):wd7 N (BA l) k=k (digs (valT l)):=by
 have hNN:=wfU hN
 rw [wd7.eq]
 unfold wd7.b
 simp only [weh]
 have:=wj3 N l hb ha hN (fun x=>k x) l.length 0 N 0 (by omega) (by omega) (by simp)
 rw [wbS,List.drop_zero] at this
 exact this
end Go.Proofs.YtnhbcpmmdblkjaaGreatDoorAm
