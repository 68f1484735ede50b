/-
  What the functions on boxes compute, in plain words.
-/
import Derived.Test.YtnhbcpmmdblkjaaGreatDoorA
namespace Go.Proofs.YtnhbcpmmdblkjaaGreatDoorAm
open Go
set_option linter.unusedVariables false
set_option linter.unusedSimpArgs false

theorem wc1 {i n:Nat} (h:i < n):decide ((i:Int) < (n:Int))=true:=by simpa using h
theorem wcx {i n:Nat} (h:¬ i < n):decide ((i:Int) < (n:Int))=false:=by simpa using h
theorem wF (i:Nat):decide ((i:Int) < 0)=false:=by simp
theorem weF (i:Nat):decide ((0:Int)≤(i:Int))=true:=by simp
theorem wdW {i:Nat} (h:i < 4611686018427387904):IntKind.i64.wrap ((i:Int) + 1)=((i + 1:Nat):Int):=by
 rw [wd (by omega) (by omega)]; rfl
abbrev BoxD:=List whX×Unit
def wnw (w:Int) (b:List whX):Bool:=decide (1≤b.length) && decide (b.length≤6) && b.all (wg8 w)
theorem wpV {w:Int} {b:List whX} (h:wnw w b=true):1≤b.length∧b.length≤6∧∀ p ∈ b,wg8 w p=true:=by
 simpa [wnw,and_assoc] using h
theorem wlH {α:Type} (N:Nat) (p:whX) (w:Int) (k:Bool→Option α):weg N p w k=k (!wg8 w p):=by
 rw [weg.eq]
 unfold weg.b
 rw [wi6]
theorem wlr {α : Type} (N : Nat) (w : Int) (a : List whX) (hb : a.length < 4611686018427387904) (k : Int → Option α) (k1 : Option α) : ∀ (d i n : Nat), i + d = a.length → d < n →
    wc N n a w a.length i k k1 = if (a.drop i).all (wg8 w) = true then k1 else k ((i + (a.drop i).findIdx (fun p => !wg8 w p) : Nat)) := by
  intro d
  induction d with
  | zero =>
    intro i n h hn
    obtain ⟨m, rfl⟩ : ∃ m, n = m + 1 := ⟨n - 1, by omega⟩
    rw [wc.succ]
    unfold wS
    simp only [wcx (show ¬ i < a.length by omega), cond_false]
    rw [List.drop_of_length_le (by omega)]; simp
  | succ d ih =>
    intro i n h hn
    obtain ⟨m, rfl⟩ : ∃ m, n = m + 1 := ⟨n - 1, by omega⟩
    have hi : i < a.length := by omega
    rw [wc.succ]
    unfold wS
    simp only [wc1 hi, wF, cond_true, cond_false, Int.toNat_natCast, List.getElem?_eq_getElem hi, wlH, wdW (show i < 4611686018427387904 by omega)]
    have e1 := List.drop_eq_getElem_cons hi
    rw [ih (i + 1) m (by omega) (by omega), e1, List.all_cons, List.findIdx_cons]
    cases he : wg8 w a[i]
    · simp
    · simp only [Bool.not_true, cond_false, Bool.true_and]
      split
      · rfl
      · congr 2; omega
theorem wkw {α:Type} (N:Nat) (w:Int) (a:List whX) (hb:a.length≤1048576) (hN:1048576 < N) (k:Bool→Option α) :
  wi N a w k=k (!a.all (wg8 w)):=by
 rw [wi.eq]
 unfold wi.b
 rw [wl.eq]
 unfold wl.b
 rw [show ((0:Int))=((0:Nat):Int) from rfl,wlr N w a (by omega) _ _ a.length 0 N (by omega) (by omega)]
 simp only [List.drop_zero]
 cases he:a.all (wg8 w)
 ·simp [weF]
 ·simp
theorem wm7 {α:Type} (N:Nat) (w:Int) (a:BoxD) (k:Bool→Option α) (hN:1048576 < N):wfb N w a k=k (wnw w a.1):=by
 rw [wfb.eq]
 unfold wfb.b wnw
 simp only [wiR]
 by_cases h1:1≤a.1.length
 ·have g1:((1:Int)≤(a.1.length:Int)):=by omega
  by_cases h2:a.1.length≤6
  ·have g2:((a.1.length:Int)≤6):=by omega
   simp only [g1,g2,decide_true,Bool.and_self,cond_true,wkw N w a.1 (by omega) hN]
   simp [h1,h2]
  ·have g2:¬ ((a.1.length:Int)≤6):=by omega
   simp [g2,h2]
 ·have g1:¬ ((1:Int)≤(a.1.length:Int)):=by omega
  simp [g1,h1]
theorem wqI (a b:Int):maxI a b=max a b:=by unfold maxI; omega
def wij:Nat→Nat→Nat
 | 0,_=>0
 | f + 1,n=>if n=0 then 0 else wij f (n / 2) + 1
def blen (n:Nat):Nat:=wij 64 n
theorem wj6 : ∀ (f n : Nat), n < 2 ^ f → ∀ g, f ≤ g → wij g n = wij f n
  | 0, n, h, g, _ => by
    have : n = 0 := by simp at h; exact h
    subst this
    cases g <;> simp [wij]
  | f + 1, n, h, g, hg => by
    obtain ⟨g, rfl⟩ : ∃ m, g = m + 1 := ⟨g - 1, by omega⟩
    unfold wij
    split
    · rfl
    · rw [wj6 f (n / 2) (by rw [Nat.pow_succ] at h; omega) g (by omega)]
theorem wjK {n:Nat} (h:n < 2 ^ 64) (h0:n ≠ 0):blen n=blen (n / 2) + 1:=by
 unfold blen
 rw [show wij 64 n=if n=0 then 0 else wij 63 (n / 2) + 1 from rfl,if_neg h0]
 rw [wj6 63 (n / 2) (by omega) 64 (by omega)]
theorem wmm {n : Nat} (h : n < 2 ^ 64) : ∀ k, 2 ^ k ≤ n → blen n = blen (n / 2 ^ k) + k
  | 0, _ => by simp
  | k + 1, hk => by
    have h2 : 2 ^ (k + 1) = 2 ^ k * 2 := Nat.pow_succ ..
    have h1 : 2 ^ k ≤ n := by omega
    rw [wmm h k h1]
    have h3 : n / 2 ^ k < 2 ^ 64 := Nat.lt_of_le_of_lt (Nat.div_le_self _ _) h
    have h4 : n / 2 ^ k ≠ 0 := by
      have := Nat.div_pos h1 (Nat.two_pow_pos k)
      omega
    rw [wjK h3 h4, Nat.div_div_eq_div_mul, h2]; omega
theorem wqT {n : Nat} : blen n ≤ 64 := by
  unfold blen
  have : ∀ f n, wij f n ≤ f := by
    intro f
    induction f with
    | zero => intro n; simp [wij]
    | succ f ih =>
      intro n
      unfold wij
      split
      · omega
      · have := ih (n / 2); omega
  exact this 64 n
theorem wtH:∀ n:Nat,n < 256→(⟨#[0,1,2,2,3,3,3,3,4,4,4,4,4,4,4,4,5,5,5,5,5,5,5,5,5,5,5,5,5,5,5,5,6,6,6,6,6,6,6,6,6,6,6,6,6,6,6,6,6,6,6,6,6,6,6,6,6,6,6,6,6,6,6,6,7,7,7,7,7,7,7,7,7,7,7,7,7,7,7,7,7,7,7,7,7,7,7,7,7,7,7,7,7,7,7,7,7,7,7,7,7,7,7,7,7,7,7,7,7,7,7,7,7,7,7,7,7,7,7,7,7,7,7,7,7,7,7,7,8,8,8,8,8,8,8,8,8,8,8,8,8,8,8,8,8,8,8,8,8,8,8,8,8,8,8,8,8,8,8,8,8,8,8,8,8,8,8,8,8,8,8,8,8,8,8,8,8,8,8,8,8,8,8,8,8,8,8,8,8,8,8,8,8,8,8,8,8,8,8,8,8,8,8,8,8,8,8,8,8,8,8,8,8,8,8,8,8,8,8,8,8,8,8,8,8,8,8,8,8,8,8,8,8,8,8,8,8,8,8,8,8,8,8,8,8,8,8,8,8,8,8,8,8,8,8,8]⟩:ByteArray)[n]?=some (UInt8.ofNat (wij 64 n)):=by decide +kernel
theorem wod {x k:Nat} (hk:k≤64):shrI .u64 (x:Int) (k:Int)=((x / 2 ^ k:Nat):Int):=by
 unfold shrI
 rw [Int.toNat_natCast,show (IntKind.u64).bits=64 from rfl,Nat.min_eq_left hk,Int.fdiv_eq_ediv_of_nonneg _ (by exact Int.le_of_lt (Int.pow_pos (by omega)))]
 rw [Int.natCast_ediv,Int.natCast_pow]; rfl
set_option maxRecDepth 100000 in
theorem wgL {α:Type} (N:Nat) (x:Nat) (hx:x < 2 ^ 64) (k:Int→Option α):wcZ N x k=k (blen x:Nat):=by
 rw [wcZ.eq]
 unfold wcZ.b
 -- the first step
 have j1:∀ (k:Int→Int→Option α),wch N x 0 k=k ((if 4294967296≤x then x / 2 ^ 32 else x:Nat)) ((if 4294967296≤x then 32 else 0:Nat)):=by
  intro k
  rw [wch.eq]
  unfold wch.b
  by_cases h:4294967296≤x
  ·have h':(4294967296:Int)≤(x:Int):=by omega
   have:=wod (x:=x) (k:=32) (by omega)
   simp only [h,h',decide_true,cond_true,if_true]
   rw [show (32:Int)=((32:Nat):Int) from rfl,this]
  ·have h':¬ (4294967296:Int)≤(x:Int):=by omega
   simp [h,h']
 have j4:∀ (y c:Nat) (k:Int→Int→Option α),c≤64→wcq N y c k=k ((if 65536≤y then y / 2 ^ 16 else y:Nat)) ((if 65536≤y then c + 16 else c:Nat)):=by
  intro y c k hc
  rw [wcq.eq]
  unfold wcq.b
  by_cases h:65536≤y
  ·have h':(65536:Int)≤(y:Int):=by omega
   have:=wod (x:=y) (k:=16) (by omega)
   simp only [h,h',decide_true,cond_true,if_true]
   rw [show (16:Int)=((16:Nat):Int) from rfl,this,wd (by omega) (by omega)]
   rfl
  ·have h':¬ (65536:Int)≤(y:Int):=by omega
   simp [h,h']
 have j7:∀ (y c:Nat) (k:Int→Int→Option α),c≤64→wcg N y c k=k ((if 256≤y then y / 2 ^ 8 else y:Nat)) ((if 256≤y then c + 8 else c:Nat)):=by
  intro y c k hc
  rw [wcg.eq]
  unfold wcg.b
  by_cases h:256≤y
  ·have h':(256:Int)≤(y:Int):=by omega
   have:=wod (x:=y) (k:=8) (by omega)
   simp only [h,h',decide_true,cond_true,if_true]
   rw [show (8:Int)=((8:Nat):Int) from rfl,this,wd (by omega) (by omega)]
   rfl
  ·have h':¬ (256:Int)≤(y:Int):=by omega
   simp [h,h']
 -- what the steps keep
 have keep:∀ (y c t b:Nat),blen x=blen y + c→y < 2 ^ 64→t=2 ^ b→blen x=blen (if t≤y then y / 2 ^ b else y) + (if t≤y then c + b else c):=by
  intro y c t b h hy ht
  by_cases hle:t≤y
  ·rw [if_pos hle,if_pos hle,h,wmm hy b (by omega)]; omega
  ·rw [if_neg hle,if_neg hle,h]
 have k1:=keep x 0 4294967296 32 (by simp) hx (by decide)
 simp only [Nat.zero_add] at k1
 rw [j1]
 generalize hy1:(if 4294967296≤x then x / 2 ^ 32 else x)=y1 at *
 generalize hc1:(if 4294967296≤x then 32 else 0)=c1 at *
 have b1:y1 < 4294967296:=by
  subst hy1; split <;> omega
 have cc1:c1≤32:=by subst hc1; split <;> omega
 have k2:=keep y1 c1 65536 16 k1 (by omega) (by decide)
 simp only [j4 y1 c1 _ (by omega)]
 generalize hy2:(if 65536≤y1 then y1 / 2 ^ 16 else y1)=y2 at *
 generalize hc2:(if 65536≤y1 then c1 + 16 else c1)=c2 at *
 have b2:y2 < 65536:=by
  subst hy2; split <;> omega
 have cc2:c2≤48:=by subst hc2; split <;> omega
 have k3:=keep y2 c2 256 8 k2 (by omega) (by decide)
 simp only [j7 y2 c2 _ (by omega)]
 generalize hy3:(if 256≤y2 then y2 / 2 ^ 8 else y2)=y3 at *
 generalize hc3:(if 256≤y2 then c2 + 8 else c2)=c3 at *
 have b3:y3 < 256:=by
  subst hy3; split <;> omega
 have cc3:c3≤56:=by subst hc3; split <;> omega
 have hw:IntKind.u8.wrap (y3:Int)=(y3:Int):=by
  have:IntKind.u8.wrap (y3:Int)=(y3:Int) % 256:=by simp [IntKind.wrap,IntKind.bits,IntKind.signed]
  rw [this]; omega
 simp only [hw,wF,cond_false,Int.toNat_natCast,wtH y3 b3]
 have hb:=@wqT y3
 have hu:(UInt8.ofNat (wij 64 y3)).toNat=blen y3:=by
  rw [UInt8.toNat_ofNat']
  unfold blen at hb
  unfold blen; omega
 rw [hu,wd (x:=((blen y3:Nat):Int)) (by omega) (by omega),wd (by omega) (by omega),k3]
 congr 1; omega
end Go.Proofs.YtnhbcpmmdblkjaaGreatDoorAm
