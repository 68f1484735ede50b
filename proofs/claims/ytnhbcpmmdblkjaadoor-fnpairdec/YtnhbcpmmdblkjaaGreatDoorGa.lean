/-
  Decimals of naturals: what both texts write; the law.
-/
import Derived.Test.YtnhbcpmmdblkjaaGreatDoorK
import Derived.Lib.ItoaNum
namespace Go.Proofs.YtnhbcpmmdblkjaaGreatDoorAm
open Go
set_option linter.unusedVariables false
set_option linter.unusedSimpArgs false

def BA (l:List UInt8):ByteArray:=⟨l.toArray⟩
theorem wnV (l m:List UInt8):BA l++BA m=BA (l++m):=by
 apply ByteArray.ext
 rw [ByteArray.data_append]
 simp [BA]
theorem weh (l:List UInt8):(BA l).size=l.length:=by simp [BA,ByteArray.size]
theorem wpS (l:List UInt8):(BA l).data.toList=l:=by simp [BA]
theorem wni:ByteArray.empty=BA []:=rfl
def wk4 (n:Int):UInt8:=UInt8.ofNat n.toNat
theorem wmf (l : List Int) : whd l = BA (l.map wk4) := by
  have key : ∀ (l : List Int) (m : List UInt8), l.foldl (fun r n => r.push (UInt8.ofNat n.toNat)) (BA m) = BA (m ++ l.map wk4) := by
    intro l
    induction l with
    | nil => intro m; simp
    | cons x r ih =>
      intro m
      have : (BA m).push (UInt8.ofNat x.toNat) = BA (m ++ [wk4 x]) := by
        apply ByteArray.ext
        simp [BA, ByteArray.push, wk4]
      rw [List.foldl_cons, this, ih]
      simp
  have := key l []
  simpa [whd, wni] using this
def txt (a:Nat):List UInt8:=if a=0 then [] else Go.Lib.decDigits a
def revD (u:Nat):List Int:=if h:u=0 then [] else ((48 + u % 10:Nat):Int)::revD (u / 10)
termination_by u
decreasing_by omega
theorem wnC:revD 0=[]:=by rw [revD,dif_pos rfl]
theorem wm1 {u:Nat} (h:u ≠ 0):revD u=((48 + u % 10:Nat):Int)::revD (u / 10):=by rw [revD,dif_neg h]
theorem wly {u:Nat} (h:u < 10):Go.Lib.decDigits u=[UInt8.ofNat (48 + u)]:=by rw [Go.Lib.decDigits,dif_pos h]
theorem wts {u:Nat} (h:¬ u < 10):Go.Lib.decDigits u=Go.Lib.decDigits (u / 10)++[UInt8.ofNat (48 + u % 10)]:=by rw [Go.Lib.decDigits,dif_neg h]
theorem wo5 (u : Nat) : (revD u).reverse.map wk4 = txt u := by
  induction u using Nat.strongRecOn with
  | _ u ih =>
    by_cases h0 : u = 0
    · subst h0; rw [wnC]; rfl
    · have e := ih (u / 10) (by omega)
      rw [wm1 h0, List.reverse_cons, List.map_append, e]
      unfold txt
      rw [if_neg h0]
      by_cases h1 : u < 10
      · rw [if_pos (by omega), wly h1, Nat.mod_eq_of_lt h1]
        simp only [List.map_cons, List.map_nil, wk4, Int.toNat_natCast, List.nil_append]
      · rw [if_neg (by omega), wts h1]
        simp only [List.map_cons, List.map_nil, wk4, Int.toNat_natCast]
theorem wmM (u:Nat):(revD u).length=(txt u).length:=by
 rw [← wo5 u]; simp
theorem wmr : ∀ (k : Nat) {u : Nat}, u < 10 ^ (k + 1) → Go.Lib.nDigits u ≤ k + 1
  | 0, u, h => by rw [Go.Lib.nDigits_small (by simpa using h)]; omega
  | k + 1, u, h => by
    by_cases h1 : u < 10
    · rw [Go.Lib.nDigits_small h1]; omega
    · rw [Go.Lib.nDigits_big h1]
      have := wmr k (u := u / 10) (by rw [Nat.pow_succ] at h; omega)
      omega
theorem wqH {a:Nat} (h:a < 65536 ^ 256):(txt a).length≤1280:=by
 obtain ⟨E,hE⟩:∃ E,E + 1=1280:=⟨1279,rfl⟩
 have h1:65536 ^ 256≤(10 ^ 5) ^ 256:=Nat.pow_le_pow_left (by decide) 256
 rw [← Nat.pow_mul,show 5 * 256=E + 1 from hE.symm] at h1
 have h2:=wmr E (Nat.lt_of_lt_of_le h h1)
 unfold txt
 split
 ·simp
 ·rw [Go.Lib.decDigits_length]; omega
def whL (l:List Int):ByteArray:=if wfH l=true then BA (Go.Lib.decDigits (val l).toNat) else ByteArray.empty
theorem wkj {α : Type} (N : Nat) (hN : cap < N) (k : List Int → Option α) : ∀ (f a : Nat) (o : List Int), a < cap → a < f → o.length + (txt a).length ≤ 4000 → wbw N f (digs a) o k = k (o ++ revD a) := by
  intro f
  induction f with
  | zero => intro a o _ h; omega
  | succ f ih =>
    intro a o ha hf ho
    rw [wbw.succ]
    unfold wgx
    simp only [wf7]
    by_cases h0 : a = 0
    · subst h0
      simp only [ne_eq, not_true_eq_false, decide_false, cond_false, wnC, List.append_nil]
    · have hl : (txt a).length = (txt (a / 10)).length + 1 := by rw [← wmM, ← wmM, wm1 h0]; simp
      have w1 : IntKind.i64.wrap (48 + ((a % 10 : Nat) : Int)) = ((48 + a % 10 : Nat) : Int) := by rw [wd (by omega) (by omega)]; omega
      have w2 : IntKind.u8.wrap ((48 + a % 10 : Nat) : Int) = ((48 + a % 10 : Nat) : Int) := by
        have : (48 + a % 10 : Nat) < 256 := by omega
        simp [IntKind.wrap, IntKind.bits, IntKind.signed]; omega
      have hlen : ∀ x : Int, decide (o.length + [x].length ≤ 8796093022208) = true := fun x => by simp; omega
      have hd := wgJ (α := α) N a 10
      rw [show ((10 : Nat) : Int) = 10 from rfl] at hd
      simp only [ne_eq, h0, not_false_eq_true, decide_true, cond_true, hd _ ha (show 0 < 10 by omega) (show 10 < 65536 by omega) hN, w1, w2, hlen]
      have := ih (a / 10) (o ++ [((48 + a % 10 : Nat) : Int)]) (by omega) (by omega) (by simp; omega)
      rw [this, wm1 h0]
      simp
theorem wjU {α : Type} (N : Nat) (l : List Int) (hl : l.length ≤ 4000) (k : List Int → Option α) : ∀ (i f : Nat), i ≤ l.length → i < f → wbo N f ((i : Int) - 1) l ((l.drop i).reverse) k = k l.reverse := by
  intro i
  induction i with
  | zero =>
    intro f h hf
    obtain ⟨f, rfl⟩ : ∃ m, f = m + 1 := ⟨f - 1, by omega⟩
    rw [wbo.succ]
    unfold wfM
    have c : ¬ (0 : Int) ≤ ((0 : Nat) : Int) - 1 := by omega
    simp only [c, decide_false, cond_false, List.drop_zero]
  | succ i ih =>
    intro f h hf
    obtain ⟨f, rfl⟩ : ∃ m, f = m + 1 := ⟨f - 1, by omega⟩
    have hi : i < l.length := by omega
    have e0 : ((i + 1 : Nat) : Int) - 1 = (i : Int) := by omega
    have hlen : ∀ x : Int, decide ((l.drop (i + 1)).reverse.length + [x].length ≤ 8796093022208) = true := fun x => by simp; omega
    have w1 : IntKind.i64.wrap ((i : Int) - 1) = (i : Int) - 1 := wd (by omega) (by omega)
    rw [e0, wbo.succ]
    unfold wfM
    simp only [weF, cond_true, wF, cond_false, Int.toNat_natCast, decide_eq_true hi, List.getElem?_eq_getElem hi, hlen, w1]
    have := ih f (by omega) (by omega)
    rw [List.drop_eq_getElem_cons hi, List.reverse_cons] at this
    exact this
theorem whC {α:Type} (N:Nat) (l:List Int) (k:ByteArray→Option α) (hN:cap < N):wdM N l k=k (whL l):=by
 have hNN:=wfU hN
 rw [wdM.eq]
 unfold wdM.b whL
 simp only [whk N l _ hN]
 cases hok:wfH l
 ·simp
 obtain ⟨a,ha,rfl⟩:=wgs hok
 simp only [Bool.not_true,cond_false,we3,wcR,Int.toNat_natCast,if_true]
 by_cases h0:a=0
 ·subst h0
  simp only [decide_true,cond_true]
  rw [wly (show 0 < 10 by omega)]; rfl
 ·have hl:=wqH ha
  have hrl:=wmM a
  simp only [h0,decide_false,cond_false]
  refine (wkj N hN _ N a [] (wfg (c256 ha)) (Nat.lt_trans (wfg (c256 ha)) hN) (by simp; omega)).trans ?_
  rw [List.nil_append]
  have w1:IntKind.i64.wrap ((((revD a).length:Nat):Int) - 1)=(((revD a).length:Nat):Int) - 1:=wd (by omega) (by omega)
  rw [w1]
  have:=wjU (α:=α) N (revD a) (by omega) (fun x=>k (whd x)) (revD a).length N (Nat.le_refl _) (by omega)
  rw [List.drop_length,List.reverse_nil] at this
  refine this.trans ?_
  rw [wmf,wo5]
  unfold txt
  rw [if_neg h0]
end Go.Proofs.YtnhbcpmmdblkjaaGreatDoorAm
