/-
  What the functions on bits and pairs compute, in plain words.
-/
import Derived.Test.YtnhbcpmmdblkjaaGreatDoorFns
namespace Go.Proofs.YtnhbcpmmdblkjaaGreatDoorAm
open Go
set_option linter.unusedVariables false
set_option linter.unusedSimpArgs false

def top (w:Int):Int:=if w=32 then 2139095040 else if w=64 then 9218868437227405312 else 0
def wiW (w o:Int):Bool:=decide (w=32∨w=64) && decide (-top w≤o) && decide (o≤top w)
abbrev whX:=Int×Int×Unit
def wg8 (w:Int) (p:whX):Bool:=wiW w p.1 && wiW w p.2.1 && decide (p.1≤p.2.1) && decide (p.1 ≠ top w) && decide (p.2.1 ≠ -top w)
theorem u64w (x:Int):IntKind.u64.wrap x=x % 18446744073709551616:=by
 simp [IntKind.wrap,IntKind.bits,IntKind.signed]
theorem i64w (x:Int):IntKind.i64.wrap x=(x + 9223372036854775808) % 18446744073709551616 - 9223372036854775808:=by
 have h1:(2:Int) ^ 64=18446744073709551616:=rfl
 have h2:(2:Int) ^ (64 - 1)=9223372036854775808:=rfl
 simp only [IntKind.wrap,IntKind.bits,IntKind.signed,Bool.true_and,decide_eq_true_eq,h1,h2]
 split <;> omega
theorem wd {x:Int} (h1:-9223372036854775808≤x) (h2:x≤9223372036854775807):IntKind.i64.wrap x=x:=by
 simp only [u64w,i64w]
 omega
theorem wgi (w:Int):0≤top w∧top w≤9218868437227405312:=by unfold top; split <;> (try split) <;> omega
theorem whb (w:Int):IntKind.i64.wrap (0 - top w)=-top w:=by
 have:=wgi w
 rw [wd (by omega) (by omega)]; omega
theorem wd0 {x:Int} (h1:0≤x) (h2:x≤18446744073709551615):IntKind.u64.wrap x=x:=by
 simp only [u64w,i64w]
 omega
theorem wgt {α:Type} (N:Nat) (w:Int) (k:Int→Option α):wc2 N w k=k (top w):=by
 rw [wc2.eq]
 unfold wc2.b top
 by_cases h1:w=32
 ·simp [h1]
 ·by_cases h2:w=64 <;> simp [h1,h2]
theorem whB {α:Type} (N:Nat) (w:Int) (k:Bool→Option α):wdO N w k=k (decide (w=32∨w=64)):=by
 rw [wdO.eq]
 unfold wdO.b
 by_cases h1:w=32 <;> simp [h1]
theorem wm3 {α:Type} (N:Nat) (w o:Int) (k:Bool→Option α):we6 N w o k=k (wiW w o):=by
 rw [we6.eq]
 unfold we6.b wiW
 simp only [whB,wgt,whb]
 by_cases h1:w=32∨w=64 <;> by_cases h2:-top w≤o <;> simp [h1,h2]
def wiV (w:Int):Int×Int×Int×Int×Unit:=if w=32 then (23,-149,127,2139095040,()) else if w=64 then (52,-1074,1023,9218868437227405312,()) else (0,0,0,0,())
theorem wnu (w:Int):(wiV w).2.2.2.1=top w:=by
 unfold wiV top
 split
 ·rfl
 ·split <;> rfl
theorem wfj {α:Type} (N:Nat) (w:Int) (k:(Int×Int×Int×Int×Unit)→Bool→Option α):wcP N w k=k (wiV w) (decide (w=32∨w=64)):=by
 rw [wcP.eq]
 unfold wcP.b wiV
 by_cases h1:w=32
 ·simp [h1]
 ·by_cases h2:w=64 <;> simp [h1,h2]
theorem wi5 {α:Type} (N:Nat) (w:Int) (k:Int→Option α):weo N w k=k (top w):=by
 rw [weo.eq]
 unfold weo.b
 rw [wfj,wnu]
theorem wiR {α:Type} (N:Nat) (n lo hi:Int) (k:Bool→Option α):wgj N n lo hi k=k (decide (lo≤n) && decide (n≤hi)):=by
 rw [wgj.eq]
 unfold wgj.b
 by_cases h:lo≤n <;> simp [h]
theorem wjE {α:Type} (N:Nat) (w o:Int) (k:Bool→Option α):weE N w o k=k (wiW w o):=by
 rw [weE.eq]
 unfold weE.b wiW
 simp only [wfj,wiR,wnu,whb]
 by_cases h1:w=32∨w=64 <;> simp [h1]
theorem wi6 {α:Type} (N:Nat) (w:Int) (p:whX) (k:Bool→Option α):wes N w p k=k (wg8 w p):=by
 rw [wes.eq]
 unfold wes.b wg8
 simp only [wjE,wi5,whb]
 cases h1:wiW w p.1
 ·simp
 cases h2:wiW w p.2.1
 ·simp
 by_cases h3:p.1≤p.2.1
 ·by_cases h4:p.1=top w <;> simp [h3,h4]
 ·simp [h3]
end Go.Proofs.YtnhbcpmmdblkjaaGreatDoorAm
