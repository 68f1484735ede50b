/-
  What the reference's functions on naturals compute, in plain words.
-/
import Derived.Test.YtnhbcpmmdblkjaaGreatDoorF
namespace Go.Proofs.YtnhbcpmmdblkjaaGreatDoorAm
open Go
set_option linter.unusedVariables false
set_option linter.unusedSimpArgs false

def digB (x:Int):Bool:=decide (0≤x) && decide (x < 65536)
def wfH (l:List Int):Bool:=decide (l.length≤256) && l.all digB && (decide (l.length=0) || decide (l.getD (l.length - 1) 0 ≠ 0))
theorem wqV {l:List Int}:l.all digB=true↔Dig l:=by
 simp [Dig,digB,List.all_eq_true]
theorem wgs {l:List Int} (h:wfH l=true):∃ n,n < 65536 ^ 256∧l=digs n:=by
 simp only [wfH,Bool.and_eq_true,Bool.or_eq_true,decide_eq_true_eq,wqV] at h
 obtain ⟨⟨h1,h2⟩,h3⟩:=h
 have e:Nrm l:=by
  refine ⟨h2,fun hne=>?_⟩
  rcases h3 with h3 | h3
  ·exact absurd (List.length_eq_zero_iff.1 h3) hne
  ·have:=List.length_pos_iff.2 hne
   rw [List.getLast_eq_getElem,wbb (by omega)]; exact h3
 have e2:=wnK e
 refine ⟨(val l).toNat,?_,e2⟩
 rw [e2] at h1
 exact wia h1
theorem wom {n:Nat} (h:n < 65536 ^ 256):wfH (digs n)=true:=by
 simp only [wfH,Bool.and_eq_true,Bool.or_eq_true,decide_eq_true_eq,wqV]
 refine ⟨⟨weJ h,wdY n⟩,?_⟩
 by_cases h0:n=0
 ·left; rw [h0,wbS]; rfl
 ·right
  have hp:=List.length_pos_iff.2 (wfR h0)
  have:=(woP n).2 (wfR h0)
  rwa [List.getLast_eq_getElem,wbb (by omega)] at this
theorem wkF (i:Nat):decide ((0:Int) < ((i + 1:Nat):Int))=true:=by simp
theorem wuP {x y P u v:Int} (h:0 < P) (h2:x < y) (hu:u < P) (hv:0≤v):u + P * x < v + P * y:=by
 have:=Int.mul_le_mul_of_nonneg_left (show x + 1≤y by omega) (show 0≤P by omega)
 grind
theorem wfU {N:Nat} (h:cap < N):1099511627776 < N:=Nat.lt_of_le_of_lt wii h
theorem wlv {α : Type} (N : Nat) (l : List Int) (hb : l.length < 4611686018427387904) (k : Bool → Option α) (k1 : List Int → Option α) : ∀ (d i n : Nat), i + d = l.length → d < n →
    wcb N n l i k k1 = if (l.drop i).all digB = true then k1 l else k false := by
  intro d
  induction d with
  | zero =>
    intro i n h hn
    obtain ⟨m, rfl⟩ : ∃ m, n = m + 1 := ⟨n - 1, by omega⟩
    rw [wcb.succ]
    unfold wgl
    simp only [wcx (show ¬ i < l.length by omega), cond_false]
    rw [List.drop_of_length_le (by omega)]; simp
  | succ d ih =>
    intro i n h hn
    obtain ⟨m, rfl⟩ : ∃ m, n = m + 1 := ⟨n - 1, by omega⟩
    have hi : i < l.length := by omega
    rw [wcb.succ]
    unfold wgl
    simp only [wc1 hi, wF, cond_true, cond_false, Int.toNat_natCast, List.getElem?_eq_getElem hi, wdW (show i < 4611686018427387904 by omega)]
    have e1 := List.drop_eq_getElem_cons hi
    rw [ih (i + 1) m (by omega) (by omega), e1, List.all_cons]
    by_cases h1 : l[i] < 0
    · have : digB l[i] = false := by simp [digB]; omega
      simp [h1, this]
    · by_cases h2 : 65536 ≤ l[i]
      · have : digB l[i] = false := by simp [digB]; omega
        simp [h1, h2, this]
      · have : digB l[i] = true := by simp [digB]; omega
        simp only [h1, h2, this, decide_false, cond_false, Bool.true_and]
theorem whk {α:Type} (N:Nat) (l:List Int) (k:Bool→Option α) (hN:cap < N):wd3 N l k=k (wfH l):=by
 have hN:=wfU hN
 rw [wd3.eq]
 unfold wd3.b wfH
 by_cases h:l.length≤256
 ·have h1:¬ ((256:Int) < (l.length:Int)):=by omega
  have:=wlv (α:=α) N l (by omega)
  simp only [h1,decide_false,cond_false,h,decide_true,Bool.true_and]
  refine (this _ _ l.length 0 N (by omega) (by omega)).trans ?_
  simp only [List.drop_zero]
  cases l.all digB
  ·simp
  ·by_cases h2:l.length=0
   ·simp [h2]
   ·have h3:¬ ((l.length:Int)=0):=by omega
    have h4:IntKind.i64.wrap ((l.length:Int) - 1)=((l.length - 1:Nat):Int):=by rw [wd (by omega) (by omega)]; omega
    have h5:l.length - 1 < l.length:=by omega
    simp only [h4,Int.toNat_natCast,List.getElem?_eq_getElem h5,wbb h5,wF,cond_false,if_true]
    have h6:¬ (((l.length - 1:Nat):Int) < 0):=by omega
    simp only [h2,h3,h6,decide_false,cond_false,Bool.false_or]
    simp
 ·have h1:((256:Int) < (l.length:Int)):=by omega
  simp [h,h1]
theorem wkD {α : Type} (N : Nat) (l : List Int) (hb : l.length < 4611686018427387904) (k : List Int → Int → Option α) : ∀ (i n : Nat), i ≤ l.length → i < n →
    wbK N n l i k = k l (tlen l i) := by
  intro i
  induction i with
  | zero =>
    intro n h hn
    obtain ⟨m, rfl⟩ : ∃ m, n = m + 1 := ⟨n - 1, by omega⟩
    rw [wbK.succ]
    unfold wf5
    simp [tlen]
  | succ i ih =>
    intro n h hn
    obtain ⟨m, rfl⟩ : ∃ m, n = m + 1 := ⟨n - 1, by omega⟩
    have hi : i < l.length := by omega
    rw [wbK.succ]
    unfold wf5
    simp only [wkF i, cond_true, wi2 (show i < 4611686018427387904 by omega), wF, cond_false, Int.toNat_natCast, List.getElem?_eq_getElem hi, wbb hi]
    rw [tlen]
    by_cases h0 : l.getD i 0 = 0
    · simp only [h0, decide_true, cond_true, if_true]; exact ih m (by omega) (by omega)
    · simp only [h0, decide_false, cond_false, if_false]
theorem wkE {α : Type} (N : Nat) (l : List Int) (hb : l.length < 4611686018427) (t : Nat) (ht : t ≤ l.length) (k : List Int → Option α) : ∀ (d i n : Nat), i + d = t → d < n →
    wbH N n l t i (l.take i) k = k (l.take t) := by
  intro d
  induction d with
  | zero =>
    intro i n h hn
    obtain ⟨m, rfl⟩ : ∃ m, n = m + 1 := ⟨n - 1, by omega⟩
    rw [wbH.succ]
    unfold wfY
    simp only [wcx (show ¬ i < t by omega), cond_false]
    rw [show i = t by omega]
  | succ d ih =>
    intro i n h hn
    obtain ⟨m, rfl⟩ : ∃ m, n = m + 1 := ⟨n - 1, by omega⟩
    have hi : i < t := by omega
    have hi2 : i < l.length := by omega
    have hl : (l.take i).length + [l[i]].length ≤ 8796093022208 := by simp; omega
    rw [wbH.succ]
    unfold wfY
    simp only [wc1 hi, wF, cond_true, cond_false, Int.toNat_natCast, List.getElem?_eq_getElem hi2, wdW (show i < 4611686018427387904 by omega), decide_eq_true hl]
    rw [← List.take_succ_eq_append_getElem hi2]
    exact ih (i + 1) m (by omega) (by omega)
theorem wgm {α:Type} (N:Nat) (l:List Int) (k:List Int→Option α) (hb:l.length < 4611686018427) (hN:l.length < N):wcs N l k=k (tl l):=by
 rw [wcs.eq]
 unfold wcs.b
 simp only []
 rw [wkD N l (by omega) _ l.length N (by omega) (by omega)]
 have hle:=wqK l l.length
 have:=wkE N l hb (tlen l l.length) hle (fun x=>k x) (tlen l l.length) 0 N (by omega) (by omega)
 unfold tl
 rw [show ((0:Int))=((0:Nat):Int) from rfl]
 simpa using this
theorem wgb {α:Type} (N:Nat) (n:Nat) (k:List Int→Option α) (h:n < cap) (hN:cap < N):wcs N (digs n) k=k (digs n):=by
 have:=weT h
 have:=wfU hN
 rw [wgm N _ k (by omega) (by omega),wsY]
theorem wiK {a b:List Int} {i:Nat} (ha:Dig a) (hb:Dig b) (h:a.getD i 0 < b.getD i 0):val (a.take (i + 1)) < val (b.take (i + 1)):=by
 rw [weR,weR]
 refine wuP (wmW i) h ?_ (wgV (wkG hb i))
 by_cases hi:i≤a.length
 ·have:=wkr (wkG ha i); rwa [List.length_take,Nat.min_eq_left hi] at this
 ·have:=wkr (wkG ha i)
  rw [List.length_take,Nat.min_eq_right (by omega)] at this
  have h2:(65536:Nat) ^ a.length≤65536 ^ i:=Nat.pow_le_pow_right (by omega) (by omega)
  have e1:(((65536 ^ a.length:Nat)):Int)=(65536:Int) ^ a.length:=Int.natCast_pow _ _
  have e2:(((65536 ^ i:Nat)):Int)=(65536:Int) ^ i:=Int.natCast_pow _ _
  omega
theorem wmw {a b:List Int} {i:Nat} (h:a.getD i 0=b.getD i 0):val (a.take (i + 1)) - val (b.take (i + 1))=val (a.take i) - val (b.take i):=by
 rw [weR,weR,h]; omega
theorem wh2 {a b:Nat} (h:(digs a).length < (digs b).length):a < b:=by
 by_cases h2:a < b
 ·exact h2
 ·have:=wgd (show b≤a by omega); omega
theorem wlp {α : Type} (N : Nat) (a b : List Int) (ha : Dig a) (hb : Dig b) (hl : a.length = b.length) (hm : a.length < 4611686018427387904) (k : Int → Option α) (k1 : Option α) : ∀ (i n : Nat), i ≤ a.length → i < n →
    wcc N n a b ((i : Int) - 1) k k1 = if val (a.take i) < val (b.take i) then k (-1) else if val (b.take i) < val (a.take i) then k 1 else k1 := by
  intro i
  induction i with
  | zero =>
    intro n h hn
    obtain ⟨m, rfl⟩ : ∃ m, n = m + 1 := ⟨n - 1, by omega⟩
    rw [wcc.succ]
    unfold wgq
    simp
  | succ i ih =>
    intro n h hn
    obtain ⟨m, rfl⟩ : ∃ m, n = m + 1 := ⟨n - 1, by omega⟩
    have hi : i < a.length := by omega
    have hi2 : i < b.length := by omega
    have e : ((i + 1 : Nat) : Int) - 1 = (i : Int) := by omega
    have e2 : IntKind.i64.wrap ((i : Int) - 1) = (i : Int) - 1 := wd (by omega) (by omega)
    rw [wcc.succ, e]
    unfold wgq
    simp only [weF, wF, cond_true, cond_false, Int.toNat_natCast, List.getElem?_eq_getElem hi, List.getElem?_eq_getElem hi2, e2, wbb hi, wbb hi2]
    rw [ih m (by omega) (by omega)]
    by_cases h1 : a.getD i 0 < b.getD i 0
    · simp only [h1, decide_true, cond_true, wiK ha hb h1, if_true]
    · by_cases h2 : b.getD i 0 < a.getD i 0
      · have := wiK hb ha h2
        simp only [h1, h2, decide_true, decide_false, cond_true, cond_false, this, show ¬ val (a.take (i + 1)) < val (b.take (i + 1)) by omega, if_true, if_false]
      · have := wmw (i := i) (show a.getD i 0 = b.getD i 0 by omega)
        simp only [h1, h2, decide_false, cond_false]
        by_cases h3 : val (a.take i) < val (b.take i)
        · simp only [h3, if_true, show val (a.take (i + 1)) < val (b.take (i + 1)) by omega]
        · by_cases h4 : val (b.take i) < val (a.take i)
          · simp only [h3, h4, if_true, if_false, show val (b.take (i + 1)) < val (a.take (i + 1)) by omega, show ¬ val (a.take (i + 1)) < val (b.take (i + 1)) by omega]
          · simp only [h3, h4, if_false, show ¬ val (b.take (i + 1)) < val (a.take (i + 1)) by omega, show ¬ val (a.take (i + 1)) < val (b.take (i + 1)) by omega]
theorem wh4 {α:Type} (N a b:Nat) (k:Int→Option α) (h1:a < cap) (h2:b < cap) (hN:cap < N):weP N (digs a) (digs b) k=k (cmpN a b):=by
 have l1:=weT h1
 have l2:=weT h2
 have hN:=wfU hN
 rw [weP.eq]
 unfold weP.b cmpN
 by_cases c1:(digs a).length < (digs b).length
 ·simp only [wc1 c1,cond_true,wh2 c1,if_true]
 ·simp only [wcx c1,cond_false]
  by_cases c2:(digs b).length < (digs a).length
  ·have:=wh2 c2
   simp only [wc1 c2,cond_true,this,if_true,show ¬ a < b by omega,if_false]
  ·simp only [wcx c2,cond_false]
   rw [wd (by omega) (by omega),wlp N _ _ (wdY a) (wdY b) (by omega) (by omega) _ _ (digs a).length N (by omega) (by omega)]
   rw [List.take_of_length_le (by omega),List.take_of_length_le (by omega),wcR,wcR]
   by_cases c3:a < b
   ·simp only [c3,if_true,show (a:Int) < b by omega]
   ·by_cases c4:b < a
    ·simp only [c3,c4,if_true,if_false,show (b:Int) < a by omega,show ¬ (a:Int) < b by omega]
    ·simp only [c3,c4,if_false,show ¬ (b:Int) < a by omega,show ¬ (a:Int) < b by omega]
end Go.Proofs.YtnhbcpmmdblkjaaGreatDoorAm
