/-
  What the functions on naturals compute, in plain words: roots.
-/
import Derived.Test.YtnhbcpmmdblkjaaGreatDoorR
namespace Go.Proofs.YtnhbcpmmdblkjaaGreatDoorAm
open Go
set_option linter.unusedVariables false
set_option linter.unusedSimpArgs false

def wd2 (a:Nat):Nat:=if a=0 then 0 else 16 * ((digs a).length - 1) + blen (a / 65536 ^ ((digs a).length - 1))
theorem wsy (n : Nat) (h : n < 2 ^ 64) : n < 2 ^ blen n := by
  induction n using Nat.strongRecOn with
  | ind n ih =>
    by_cases h0 : n = 0
    · subst h0; exact Nat.pow_pos (by omega)
    · have := ih (n / 2) (by omega) (by omega)
      rw [wjK h h0, Nat.pow_succ]; omega
theorem wmD (a:Nat):a < 2 ^ wd2 a:=by
 unfold wd2
 split
 next h=>subst h; simp
 next h =>
  have ht:=whp h
  generalize (digs a).length - 1=L at *
  have h1:=wsy (a / 65536 ^ L) (by omega)
  have hp:0 < 65536 ^ L:=Nat.pow_pos (by omega)
  have h2:=Nat.lt_mul_div_succ a hp
  rw [Nat.pow_add,Nat.pow_mul]
  refine Nat.lt_of_lt_of_le h2 ?_
  exact Nat.mul_le_mul_left _ h1
theorem wrn {a:Nat} (h:(digs a).length≤256):wd2 a≤4096:=by
 unfold wd2
 split
 ·omega
 next h0 =>
  have ht:=whp h0
  have:=woF ht.2
  have h3:(digs a).length ≠ 0:=fun e=>h0 (we5.1 e)
  omega
theorem whJ {i E:Nat} (h:i / 16 + 1≤E):2 ^ i < 65536 ^ E:=by
 have h1:2 ^ i=65536 ^ (i / 16) * 2 ^ (i % 16):=by
  rw [show (65536:Nat)=2 ^ 16 by decide,← Nat.pow_mul,← Nat.pow_add]
  congr 1; omega
 have h2:2 ^ (i % 16)≤32768:=Nat.pow_le_pow_right (n:=2) (show 2 > 0 by omega) (show i % 16≤15 by omega)
 have h3:65536 ^ (i / 16) * 2 ^ (i % 16)≤65536 ^ (i / 16) * 32768:=Nat.mul_le_mul_left _ h2
 have h4:0 < 65536 ^ (i / 16):=Nat.pow_pos (by omega)
 have h5:2 ^ i < 65536 ^ (i / 16 + 1):=by rw [h1,Nat.pow_succ]; omega
 exact Nat.lt_of_lt_of_le h5 (wjq h)
theorem wkz {α : Type} (N : Nat) (k : Int → Option α) : ∀ (n x c : Nat), x < n → x < 65536 → c + x < 2000000 → wbU N n (c : Int) (x : Int) k = k ((c + blen x : Nat) : Int) := by
  intro n
  induction n with
  | zero => intro x c h; omega
  | succ n ih =>
    intro x c h hx hc
    rw [wbU.succ]
    unfold wgM
    by_cases h0 : x = 0
    · subst h0
      have : blen 0 = 0 := by decide
      simp [this]
    · have c1 : (0 : Int) < (x : Int) := by omega
      have t1 : Int.tdiv (x : Int) 2 = ((x / 2 : Nat) : Int) := by rw [Int.tdiv_eq_ediv_of_nonneg (by omega)]; rfl
      have w1 : IntKind.i64.wrap ((x / 2 : Nat) : Int) = ((x / 2 : Nat) : Int) := wjl (by omega)
      simp only [c1, decide_true, cond_true, t1, w1, wdW (show c < 4611686018427387904 by omega)]
      rw [ih (x / 2) (c + 1) (by omega) (by omega) (by omega), wjK (by omega) h0]
      congr 2; omega
theorem wgo {α:Type} (N a:Nat) (k:Int→Option α) (ha:a < cap) (hN:cap < N):wdE N (digs a) k=k ((wd2 a:Nat):Int):=by
 have hN':=wfU hN
 have l1:=weT ha
 rw [wdE.eq]
 unfold wdE.b wd2
 simp only [we3]
 by_cases h0:a=0
 ·simp [h0]
 ·have ht:=whp h0
  obtain ⟨L,hL⟩:∃ L,(digs a).length=L + 1:=⟨(digs a).length - 1,by have:=List.length_pos_iff.2 (wfR h0); omega⟩
  have hLa:L < (digs a).length:=by omega
  rw [hL,Nat.add_sub_cancel] at ht
  have hx:(digs a)[L]=((a / 65536 ^ L:Nat):Int):=by rw [wbb hLa,wfd,Nat.mod_eq_of_lt ht.2]
  have w1:IntKind.i64.wrap (((L + 1:Nat):Int) - 1)=(L:Int):=wi2 (by omega)
  have w2:IntKind.i64.wrap ((16:Int) * (L:Int))=((16 * L:Nat):Int):=by rw [wd (by omega) (by omega)]; omega
  simp only [h0,decide_false,cond_false,hL,w1,w2,wF,Int.toNat_natCast,List.getElem?_eq_getElem hLa,hx,if_false,Nat.add_sub_cancel]
  exact wkz N _ N _ _ (by omega) ht.2 (by omega)
theorem wfN {α:Type} (N i:Nat) (k:List Int→Option α) (hi:i < 1000000) (hN:cap < N):wdv N (i:Int) k=k (digs (2 ^ i)):=by
 rw [wdv.eq]
 unfold wdv.b
 have t1:Int.tmod (i:Int) 16=((i % 16:Nat):Int):=by rw [Int.tmod_eq_emod_of_nonneg (by omega)]; rfl
 have t2:Int.tdiv (i:Int) 16=((i / 16:Nat):Int):=by rw [Int.tdiv_eq_ediv_of_nonneg (by omega)]; rfl
 have w1:IntKind.u64.wrap ((i % 16:Nat):Int)=((i % 16:Nat):Int):=wd0 (by omega) (by omega)
 have w2:IntKind.i64.wrap ((i / 16:Nat):Int)=((i / 16:Nat):Int):=wjl (by omega)
 have hp:2 ^ (i % 16)≤32768:=Nat.pow_le_pow_right (n:=2) (show 2 > 0 by omega) (show i % 16≤15 by omega)
 have hp0:0 < 2 ^ (i % 16):=Nat.pow_pos (by omega)
 have t3:shlI .i64 (1:Int) ((i % 16:Nat):Int)=((2 ^ (i % 16):Nat):Int):=by
  have:=won (x:=1) (k:=i % 16) (by omega) (by omega)
  rw [Nat.one_mul] at this
  exact this
 have e:=whI (n:=2 ^ (i % 16)) (by omega) (by omega)
 have hc:2 ^ (i % 16) < cap:=by have:=wii; omega
 simp only [t1,w1,wF,cond_false,t3,t2,w2,← e]
 rw [wjF N _ _ _ hc (by omega) hN]
 congr 2
 rw [show (65536:Nat)=2 ^ 16 by decide,← Nat.pow_mul,← Nat.pow_add]
 congr 1; omega
theorem wgG {α:Type} (N a:Nat) (k:Int→Option α) (ha:a < cap) (hN:cap < N):wdN N (digs a) k=k ((wd2 a:Nat):Int):=by
 have hN':=wfU hN
 have l1:=weT ha
 rw [wdN.eq]
 unfold wdN.b wd2
 simp only [we3]
 by_cases h0:a=0
 ·simp [h0]
 ·have ht:=whp h0
  obtain ⟨L,hL⟩:∃ L,(digs a).length=L + 1:=⟨(digs a).length - 1,by have:=List.length_pos_iff.2 (wfR h0); omega⟩
  have hLa:L < (digs a).length:=by omega
  rw [hL,Nat.add_sub_cancel] at ht
  have hx:(digs a)[L]=((a / 65536 ^ L:Nat):Int):=by rw [wbb hLa,wfd,Nat.mod_eq_of_lt ht.2]
  obtain ⟨T,hT⟩:∃ T,a / 65536 ^ L=T:=⟨_,rfl⟩
  rw [hT] at hx ht
  have hb:=woF ht.2
  have w1:IntKind.i64.wrap (((L + 1:Nat):Int) - 1)=(L:Int):=wi2 (by omega)
  have w2:IntKind.i64.wrap ((16:Int) * (L:Int))=((16 * L:Nat):Int):=by rw [wd (by omega) (by omega)]; omega
  have w3:IntKind.u64.wrap (T:Int)=(T:Int):=wd0 (by omega) (by omega)
  have w4:IntKind.i64.wrap (((16 * L:Nat):Int) + ((blen T:Nat):Int))=((16 * L + blen T:Nat):Int):=wfk (by omega)
  have hbits:∀ k1:Int→Option α,wcW N (T:Int) k1=k1 ((blen T:Nat):Int):=by
   intro k1
   rw [wcW.eq]
   unfold wcW.b
   rw [wgL N T (by omega)]
  simp only [h0,decide_false,cond_false,hL,w1,w2,wF,Int.toNat_natCast,List.getElem?_eq_getElem hLa,hx,if_false,Nat.add_sub_cancel,hT,w3,hbits,w4]
end Go.Proofs.YtnhbcpmmdblkjaaGreatDoorAm
