/-
  The laws on pairs that are drawn.
-/
import Derived.Test.YtnhbcpmmdblkjaaGreatDoorD
namespace Go.Proofs.YtnhbcpmmdblkjaaGreatDoorAm
open Go
set_option linter.unusedVariables false
set_option linter.unusedSimpArgs false

theorem wvf {n:Int} (h:(Lit.int .u8 n).wf=true):0≤n∧n≤255:=by
 simp only [Lit.wf,decide_eq_true_eq,IntKind.has,IntKind.min,IntKind.max,IntKind.signed,IntKind.bits] at h
 simp at h
 omega
theorem wpr {a:List Int} (h:wfD (.sl (.int .u8)) a):∀ x ∈ a,0≤x∧x≤255:=fun x hx=>wvf (h.2 x hx)
theorem wnA {w:Int} {a b:Int} (hw:w=32∨w=64) (h1:-top w≤a) (h2:a < top w) (h3:-top w < b) (h4:b≤top w) (h5:a≤b):wg8 w (a,b,())=true:=by
 simp only [wg8,wiW,Bool.and_eq_true,decide_eq_true_eq]
 omega
theorem woH (N:Nat) (s:RdD) (c:Nat) (h:RdOk c s) (hc:c≤600000) :
  ∃ w s',(∀ {α:Type} (k:Int→RdD→Option α),wbA N s k=k w s')∧RdOk (c + 2) s':=by
 obtain ⟨r,s1,e1,h1,r0,r1⟩:=wfi N 32 s c h (by omega)
 by_cases h2:r < 15
 ·refine ⟨32,s1,fun k=>?_,h1.mono (by omega)⟩
  rw [wbA.eq]
  unfold wbA.b
  simp only [e1,h2,decide_true,cond_true]
 by_cases h3:r < 30
 ·refine ⟨64,s1,fun k=>?_,h1.mono (by omega)⟩
  rw [wbA.eq]
  unfold wbA.b
  simp only [e1,h2,h3,decide_true,decide_false,cond_true,cond_false]
 ·obtain ⟨x,s2,e2,g1,x0,x1⟩:=wfi N 4 s1 _ h1 (by omega)
  have x1:=x1 (by omega)
  have hx:¬ x < 0:=by omega
  have hlen:x.toNat < [(0:Int),63,16,-64].length:=by simp; omega
  refine ⟨[(0:Int),63,16,-64][x.toNat],s2,fun k=>?_,g1⟩
  rw [wbA.eq]
  unfold wbA.b
  simp only [e1,e2,h2,h3,hx,decide_false,cond_false,decide_eq_true hlen,cond_true,List.getElem?_eq_getElem hlen]
end Go.Proofs.YtnhbcpmmdblkjaaGreatDoorAm
