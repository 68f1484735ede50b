/-
  The abstract machine: a small interpreter of the loaded code over typed data, and the proof that what it answers, the machine does. Part 3.
-/
import Derived.Test.YtnhbcpmmdblkjaaDoorAmb
import Derived.Lib.LaidTab
import Derived.Shelf.Strings.Search2
import Derived.Shelf.Strconv.ErrVarAll
import Derived.LaidLaws
set_option linter.unusedVariables false
set_option linter.unusedSimpArgs false
set_option linter.unusedSectionVars false
namespace Go.Proofs.YtnhbcpmmdblkjaaDoorAm
open Go

structure Tab where
 g:Nat
 k:IntKind
 xs:List Int
def tabOK (w:World) (t:Tab):Prop:=∃ e z,w.heap[t.g]?=some (.cells (t.xs.map fun x=>Value.int t.k x).toArray e z)
theorem tabOK_of {P:Program} {w:World} {name:String} {k:IntKind} {xs:List Int} {g:Nat} (hg:P.globalNamed name=some g) (h:Lib.TabIs P w name k xs):tabOK w ⟨g,k,xs⟩:=by
 unfold Lib.TabIs World.var? at h
 rw [hg] at h
 simp only [Option.bind_some] at h
 split at h
 ·rename_i cs e z hh
  simp only [Option.some.injEq] at h
  subst h
  exact ⟨e,z,hh⟩
 ·cases h
theorem tabIs_of {P:Program} {w:World} {name:String} {k:IntKind} {xs:List Int} {g:Nat} (hg:P.globalNamed name=some g) (h:tabOK w ⟨g,k,xs⟩):Lib.TabIs P w name k xs:=by
 obtain ⟨e,z,hh⟩:=h
 unfold Lib.TabIs World.var?
 rw [hg]
 simp only [Option.bind_some]
 rw [hh]
theorem tabOK.low {w:World} {t:Tab} (h:tabOK w t):t.g < w.heap.size:=by
 obtain ⟨e,z,hh⟩:=h
 exact (Array.getElem?_eq_some_iff.1 hh).1
def tabGd (N:Nat) (ts:List Tab) (h:(ts.all fun t=>Nat.blt t.g N)=true):Gd:=⟨N,fun w=>∀ t ∈ ts,tabOK w t,fun w w' hb hw t ht=>by
 have hl:t.g < N:=by have:=List.all_eq_true.1 h t ht; rw [Nat.blt_eq] at this; exact this
 obtain ⟨e,z,hh⟩:=hw t ht
 exact ⟨e,z,by rw [hb _ hl]; exact hh⟩⟩
theorem tabGd_mem {N:Nat} {ts:List Tab} {h:(ts.all fun t=>Nat.blt t.g N)=true} {w:World} {t:Tab} (ht:t ∈ ts) (hg:(tabGd N ts h).G w):tabOK w t:=hg t ht
theorem fnSnd_err {gd:Gd} {P:Program} {f:Nat} {fn:Func} (hf:P.funcs[f]?=some fn) (hn:(fn.name == "runtime.NumGoroutine")=false) (hb:fn.body.isNone=false) {args:List HV} {res:HV}
  (hc:∀ (c:Cx) (vs:List Value),gd.G c.w→HVL c args vs→Calls P f vs.toArray c.w (fun e w'=>∃ v,e=.returned v∧RowKit.Below c.w.heap.size c.w w'∧∀ c':Cx,HVR c' res v)):FnSnd gd P f args [] res []:=by
 intro c vs S hh
 have hcall:=hc c vs S.g hh
 have hn0:c.n=0:=by have:=S.len; simpa using this.symm
 refine FnDoes.of_calls hf hn hb (hcall.mono ?_)
 rintro e w' ⟨v,rfl,bel,hv⟩
 have hlow:=S.low
 refine ⟨v,rfl,⟨w',c.Im,c.σ,c.n⟩,rfl,⟨⟨fun _ h=>h,fun b h=>bel.block b (S.im b h),fun i j h e=>by cases e; exact ⟨h,rfl⟩⟩,fun b h _=>bel.block b h,fun b h=>.inl h,fun id s h e=>.inl ⟨id,s,h,e,rfl⟩,Nat.le_refl _,bel.size,bel.os,bel.tape,bel.output⟩,?_,hv _⟩
 exact {
  len:=S.len
  im:=fun b h=>Nat.lt_of_lt_of_le (S.im b h) bel.size
  blk:=fun id x h=>by simp at h
  inj:=fun i j x y s s' _ h=>by simp at h
  g:=gd.stable c.w w' (fun b h=>bel.block b (Nat.lt_of_lt_of_le h hlow)) S.g
  low:=Nat.le_trans hlow bel.size
  own:=fun id s h=>by rw [show (Cx.mk w' c.Im c.σ c.n).n=c.n from rfl,hn0] at h; exact absurd h (Nat.not_lt_zero _) }
theorem fnSnd_data {gd:Gd} {P:Program} {f:Nat} {fn:Func} (hf:P.funcs[f]?=some fn) (hn:(fn.name == "runtime.NumGoroutine")=false) (hb:fn.body.isNone=false) {args:List HV} {res:HV}
  (hc:∀ (c:Cx) (vs:List Value),gd.G c.w→HVL c args vs→∃ v,Calls P f vs.toArray c.w (fun e w'=>e=.returned v∧RowKit.Below c.w.heap.size c.w w')∧∀ c':Cx,HVR c' res v):FnSnd gd P f args [] res [] :=
 fnSnd_err hf hn hb fun c vs hg hh=>by
  obtain ⟨v,h1,h2⟩:=hc c vs hg hh
  exact h1.mono fun e w' ⟨he,hb⟩=>⟨v,he,hb,h2⟩
theorem callee_gen {gd:Gd} {P:Program} {f:Nat} {fn:Func} (hf:P.funcs[f]?=some fn) (hn:(fn.name == "runtime.NumGoroutine")=false) (hb:fn.body.isNone=false) {p:Pt} {res:HV} {args:List HV}
  (hc:∀ (c:Cx) (vs:List Value),gd.G c.w→HVL c args vs→∃ v,Calls P f vs.toArray c.w (fun e w'=>e=.returned v∧RowKit.Below c.w.heap.size c.w w')∧∀ c':Cx,HVR c' res v):FnSnd gd P f args [] res []:=fnSnd_data hf hn hb hc
theorem callee_int {gd:Gd} {P:Program} {f:Nat} {fn:Func} (hf:P.funcs[f]?=some fn) (hn:(fn.name == "runtime.NumGoroutine")=false) (hb:fn.body.isNone=false) {k k':IntKind} {F:{α:Type}→Int→(Int→Option α)→Option α} {D:Int→Prop} {A:Int→Int}
  (hF:∀ {α:Type} {r:α} (x:Int) (K:Int→Option α),F x K=some r→D x∧K (A x)=some r)
  (hc:∀ (x:Int) (w:World),D x→gd.G w→Calls P f #[.int k x] w fun e w'=>e=.returned (.int k' (A x))∧RowKit.Below w.heap.size w w') :
  CalleeOK gd P f (mkCallee false ⟨[.i (.int k)],[]⟩ fun v K=>F v.1.1 fun y=>K (.iv (.int k') y) []):=by
 refine callee_ok fun {α r} v K h=>?_
 obtain ⟨⟨x,u⟩,u'⟩:=v
 cases u; cases u'
 obtain ⟨hd,h1⟩:=hF x _ h
 refine ⟨_,_,h1,fnSnd_data hf hn hb fun c vs hG hh=>⟨.int k' (A x),?_,fun c'=>HVR.int.2 rfl⟩⟩
 obtain ⟨val,rest,e1,hv,hr⟩:=hh.cons
 have hr:rest=[]:=hr
 subst hr
 simp only [SP.mkL,SP.mk] at hv
 rw [HVR.int.1 hv] at e1
 subst e1
 exact hc x c.w hd hG
theorem law_callsG {gd:Gd} {P:Program} {f:Nat} {fn:Func} (hf:P.funcs[f]?=some fn) (hn:(fn.name == "runtime.NumGoroutine")=false) (hb:fn.body.isNone=false) {k:Callee} (hk:CalleeOK gd P f k) {args:List HV} {vs:List Value} {W:World}
  (hargs:HVL (cx0 W) args vs) (hrun:k.run args [] isTrue=some true) (hG:gd.G W) (hlow:gd.N≤W.heap.size):Calls P f vs.toArray W fun e W'=>e=.returned (.bool true)∧RowKit.Below W.heap.size W W':=by
 obtain ⟨res,st',h1,h2⟩:=hk _ _ _ hrun
 have hres:res=.iv .bool true:=by
  unfold isTrue at h1
  split at h1
  ·cases h1; rfl
  ·simp at h1
 subst hres
 have S:SG gd (cx0 W) []:={
  len:=rfl
  im:=fun b h=>h
  blk:=fun id x h=>by simp at h
  inj:=fun i j x y s s' _ h=>by simp at h
  g:=hG
  low:=hlow
  own:=fun id s h=>by simp [cx0] at h }
 have hd:=h2 (cx0 W) vs S hargs
 have hcall:(callFunc f vs.toArray).run P W=.ok (.enter f vs.toArray) W:=by
  have h1:fn.name ≠ "runtime.NumGoroutine":=by simpa using hn
  have h2:¬ fn.body=none:=by intro e; simp [e] at hb
  simp [callFunc,hf,h1,h2]
 have fin:∀ e w'',(∃ v,e=Ending.returned v∧∃ c',c'.w=w''∧Nx (cx0 W) c'∧SG gd c' st'∧HVR c' (.iv .bool true) v)→e=.returned (.bool true)∧RowKit.Below W.heap.size W w'':=by
  rintro e w'' ⟨v,rfl,c',rfl,nx,_,hv⟩
  rw [HVR.bool] at hv
  subst hv
  exact ⟨rfl,⟨nx.os,nx.tape,nx.output,nx.size,fun k hk=>nx.heap k hk fun id s h=>by simp [cx0] at h⟩⟩
 rcases hd with ⟨v,w',e,r⟩ | ⟨g,a,w',e,r⟩
 ·have e:(callFunc f vs.toArray).run P W=.ok (.value v) w':=e
  rw [hcall] at e
  cases e
 ·have e:(callFunc f vs.toArray).run P W=.ok (.enter g a) w':=e
  rw [hcall] at e
  cases e
  exact r.mono fin
end Go.Proofs.YtnhbcpmmdblkjaaDoorAm

namespace Go.Proofs.YtnhbcpmmdblkjaaDoorAm
open Go Go.Shelf

noncomputable def internal_stringslite_Index.b {α:Type} (N:Nat) (a1 a2:ByteArray) (k0:Int→Option α):Option α :=
 match a2.data.toList with
 | [c]=>k0 (Go.Lib.indexByte a1.data.toList c)
 | _=>none
theorem internal_stringslite_Index.ex:∃ f:((α:Type)→Nat→ByteArray→ByteArray→(Int→Option α)→Option α),f=fun α=>@internal_stringslite_Index.b α:=⟨_,rfl⟩
noncomputable def internal_stringslite_Index {α:Type}:Nat→ByteArray→ByteArray→(Int→Option α)→Option α:=Classical.choose internal_stringslite_Index.ex α
theorem internal_stringslite_Index.eq:@internal_stringslite_Index=@internal_stringslite_Index.b:=funext fun α=>congrFun (Classical.choose_spec internal_stringslite_Index.ex) α
theorem callee_index {gd:Gd} {P:Program} {ρ:Ren} (L:Lays.n219 P ρ) {f:Nat} (hr:ρ.f 219=f) {fn:Func} (hf:P.funcs[f]?=some fn) (hn:(fn.name == "runtime.NumGoroutine")=false) (hb:fn.body.isNone=false) (N:Nat) :
  CalleeOK gd P f (mkCallee false ⟨[.i .str,.i .str],[]⟩ fun v K=>internal_stringslite_Index N v.1.1 v.1.2.1 fun y=>K (.iv (.int .i64) y) []):=by
 refine callee_ok fun {α r} v K h=>?_
 obtain ⟨⟨s,t,u⟩,u'⟩:=v
 cases u; cases u'
 simp only [internal_stringslite_Index.eq,internal_stringslite_Index.b] at h
 split at h
 ·rename_i ch heq
  refine ⟨_,_,h,fnSnd_data hf hn hb fun c vs hGc hh=>⟨.int .i64 (Go.Lib.indexByte (ByteArray.data s).toList ch),?_,fun c'=>HVR.int.2 rfl⟩⟩
  obtain ⟨v1,rest,e1,hv1,hrest⟩:=hh.cons
  obtain ⟨v2,rest2,e2,hv2,hrest2⟩:=HVL.cons hrest
  have hrest2:rest2=[]:=hrest2
  subst hrest2
  simp only [SP.mk] at hv1 hv2
  have ht:t=(⟨#[ch]⟩:ByteArray):=by
   apply ByteArray.ext
   have:(ByteArray.data t).toList=[ch]:=heq
   rw [← Array.toList_inj,this]
  subst ht
  rw [HVR.str.1 hv1,e2,HVR.str.1 hv2] at e1
  subst e1
  have:=Any.stringslite_Index_one L s ch c.w
  rw [hr] at this
  refine this.mono ?_
  rintro e w' ⟨rfl,rfl⟩
  exact ⟨rfl,RowKit.Below.refl _ _⟩
 ·cases h
end Go.Proofs.YtnhbcpmmdblkjaaDoorAm

namespace Go.Proofs.YtnhbcpmmdblkjaaDoorAm
open Go Go.Shelf

def errOK (w:World) (g:Nat):Prop:=∃ e z t p,w.heap[g]?=some (.cells #[.iface t p] e z)
theorem errOK.low {w:World} {g:Nat} (h:errOK w g):g < w.heap.size:=by
 obtain ⟨e,z,t,p,hh⟩:=h
 exact (Array.getElem?_eq_some_iff.1 hh).1
theorem errOK.cell {w:World} {g:Nat} (h:errOK w g):∃ t p,w.cell? ⟨g,0,none⟩=some (.iface t p):=by
 obtain ⟨e,z,t,p,hh⟩:=h
 exact ⟨t,p,by simp [World.cell?,hh]⟩
theorem errOK_of {P:Program} {n nm:String} {d:DataW Unit} {r:List (String×DataW Unit)} {W:World} {g:Nat}
  (h:laidMet P ((n,.iface nm d)::r) W) (hg:P.globalNamed n=some g)
  (hgt:(match P.globals[g]? with | some G=>(match P.underlying G.type with | some (.interface _)=>true | _=>false) | none=>false)=true):errOK W g:=by
 obtain ⟨ti,ms,ht,hi⟩:∃ ti ms,(P.globals[g]?).map (·.type)=some ti∧P.underlying ti=some (.interface ms):=by
  split at hgt
  ·rename_i G hG
   split at hgt
   ·rename_i ms hms; exact ⟨_,ms,by rw [hG]; rfl,hms⟩
   ·cases hgt
  ·cases hgt
 obtain ⟨ps,⟨g0,t0,cs0,f0,p0,q0,hg0,ht0,hv0,hd0,_,e0⟩,_,hrows⟩:=h
 obtain rfl:=Option.some.inj (hg.symm.trans hg0)
 obtain rfl:=Option.some.inj (ht.symm.trans ht0)
 obtain ⟨l0⟩:=cs0
 obtain ⟨f1,u,v,e1,_⟩:=iface_of_trod hi hd0
 simp only at e1
 subst e1
 unfold World.var? at hv0
 rw [hg] at hv0
 simp only [Option.bind_some] at hv0
 split at hv0
 ·rename_i cs e z hh
  simp only [Option.some.injEq] at hv0
  subst hv0
  exact ⟨e,z,u,v,hh⟩
 ·cases hv0
def errGd (N:Nat) (ts:List Tab) (gs:List Nat) (h:(ts.all fun t=>Nat.blt t.g N)=true) (h2:(gs.all fun g=>Nat.blt g N)=true):Gd:=⟨N,fun w=>(tabGd N ts h).G w∧∀ g ∈ gs,errOK w g,fun w w' hb hw=>by
 refine ⟨(tabGd N ts h).stable w w' hb hw.1,fun g hg=>?_⟩
 have hl:g < N:=by have:=List.all_eq_true.1 h2 g hg; rwa [Nat.blt_eq] at this
 obtain ⟨e,z,t,p,hh⟩:=hw.2 g hg
 exact ⟨e,z,t,p,by rw [hb _ hl]; exact hh⟩⟩
theorem errGd_tab {N:Nat} {ts:List Tab} {gs:List Nat} {h h2} {w:World} {t:Tab} (ht:t ∈ ts) (hg:(errGd N ts gs h h2).G w):tabOK w t:=hg.1 t ht
theorem errGd_err {N:Nat} {ts:List Tab} {gs:List Nat} {h h2} {w:World} {g:Nat} (ht:g ∈ gs) (hg:(errGd N ts gs h h2).G w):errOK w g:=hg.2 g ht

noncomputable def strconv_Atoi.b {α:Type} (N:Nat) (a1:ByteArray) (k0 k1:Int→Option α):Option α :=
 bif decide (a1.size≤281474976710656) then
  match Go.Lib.atoiAll a1.data.toList with
  | .ok v=>k0 v
  | .range=>k1 (Go.Lib.atoiSat a1.data.toList)
  | _=>k1 0
 else none
theorem strconv_Atoi.ex:∃ f:((α:Type)→Nat→ByteArray→(Int→Option α)→(Int→Option α)→Option α),f=fun α=>@strconv_Atoi.b α:=⟨_,rfl⟩
noncomputable def strconv_Atoi {α:Type}:Nat→ByteArray→(Int→Option α)→(Int→Option α)→Option α:=Classical.choose strconv_Atoi.ex α
theorem strconv_Atoi.eq:@strconv_Atoi=@strconv_Atoi.b:=funext fun α=>congrFun (Classical.choose_spec strconv_Atoi.ex) α
theorem hvr_numErr {c : Cx} {n : Int} {b : Bool} {v : Value} (hv : match b with | false => v = .nilIface | true => ∃ t p, v = .iface t p) :
    HVR c (.tuple [.iv (.int .i64) n, .er b]) (.tuple #[.int .i64 n, v]) := by
  refine ⟨[.int .i64 n, v], rfl, ?_⟩
  have h1 : HC c (.iv (.int .i64) n) (Value.int .i64 n).cells.toList ∧ isAg (Value.int .i64 n) = hagg (.iv (.int .i64) n) := ⟨by simp [HC, cellsR, Value.cells], rfl⟩
  refine ⟨_, _, rfl, h1.1, h1.2, ?_⟩
  cases b with
  | false =>
    simp only at hv; subst hv
    exact ⟨_, _, rfl, by simp [HC, Value.cells], rfl, rfl⟩
  | true =>
    simp only at hv
    obtain ⟨t, p, rfl⟩ := hv
    exact ⟨_, _, rfl, by simp [HC, Value.cells], rfl, rfl⟩
theorem callee_atoi {gd:Gd} {P:Program} {ρ:Ren} (L:LaysC.n172 P ρ) {f:Nat} (hr:ρ.f 172=f) {fn:Func} (hf:P.funcs[f]?=some fn) (hn:(fn.name == "runtime.NumGoroutine")=false) (hb:fn.body.isNone=false) {g1 g2:Nat} (hg1:ρ.g 15=g1) (hg2:ρ.g 16=g2)
  (hG1:∀ w,gd.G w→errOK w g1) (hG2:∀ w,gd.G w→errOK w g2) (N:Nat) :
  CalleeOK gd P f (mkCallee false ⟨[.i .str],[]⟩ fun v K=>strconv_Atoi N v.1.1 (fun y=>K (.tuple [.iv (.int .i64) y,.er false]) []) (fun y=>K (.tuple [.iv (.int .i64) y,.er true]) [])):=by
 refine callee_ok fun {α r} v K h=>?_
 obtain ⟨⟨s,u⟩,u'⟩:=v
 cases u; cases u'
 simp only [strconv_Atoi.eq,strconv_Atoi.b] at h
 by_cases h0:s.size≤281474976710656
 ·simp only [h0,decide_true,cond_true] at h
  have arg:∀ (c:Cx) (vs:List Value),HVL c (SP.mkL [.i .str] (s,())) vs→vs=[.string s]:=by
   intro c vs hh
   obtain ⟨v1,rest,e1,hv1,hrest⟩:=hh.cons
   have hrest:rest=[]:=hrest
   subst hrest
   simp only [SP.mk] at hv1
   rw [HVR.str.1 hv1] at e1
   exact e1
  cases hv:Go.Lib.atoiAll s.data.toList
  ·rename_i v
   rw [show Go.Lib.atoiAll (ByteArray.data s).toList=_ from hv] at h
   refine ⟨_,_,h,fnSnd_data hf hn hb fun c vs hGc hh=>⟨.tuple #[.int .i64 v,.nilIface],?_,fun c'=>hvr_numErr (b:=false) rfl⟩⟩
   obtain rfl:=arg c vs hh
   have:=Any.strconv_Atoi_ok L s (by omega) v hv c.w
   rw [hr] at this
   refine this.mono ?_
   rintro e w' ⟨rfl,rfl | ⟨t,rfl⟩⟩
   ·exact ⟨rfl,RowKit.Below.refl _ _⟩
   ·exact ⟨rfl,Lib.bytesWorld_below _ _ _⟩
  ·rw [show Go.Lib.atoiAll (ByteArray.data s).toList=_ from hv] at h
   refine ⟨_,_,h,fnSnd_err hf hn hb fun c vs hGc hh=>?_⟩
   obtain rfl:=arg c vs hh
   obtain ⟨t,p,hc⟩:=(hG1 c.w hGc).cell
   have:=Any.strconv_Atoi_syntax L s h0 hv _ c.w (by rw [hg1]; exact hc) (.inr ⟨t,p,rfl⟩)
   rw [hr] at this
   refine this.mono ?_
   rintro e w' ⟨N',rfl,_,_,hbel⟩
   exact ⟨_,rfl,hbel,fun c'=>hvr_numErr (b:=true) ⟨_,_,rfl⟩⟩
  ·rw [show Go.Lib.atoiAll (ByteArray.data s).toList=_ from hv] at h
   refine ⟨_,_,h,fnSnd_err hf hn hb fun c vs hGc hh=>?_⟩
   obtain rfl:=arg c vs hh
   obtain ⟨t,p,hc⟩:=(hG2 c.w hGc).cell
   have:=Any.strconv_Atoi_range L s h0 hv _ c.w (by rw [hg2]; exact hc) (.inr ⟨t,p,rfl⟩)
   rw [hr] at this
   refine this.mono ?_
   rintro e w' ⟨N',rfl,_,_,hbel⟩
   exact ⟨_,rfl,hbel,fun c'=>hvr_numErr (b:=true) ⟨_,_,rfl⟩⟩
 ·simp [h0] at h
end Go.Proofs.YtnhbcpmmdblkjaaDoorAm

namespace Go.Proofs.YtnhbcpmmdblkjaaDoorAm
open Go Go.Shelf

noncomputable def internal_stringslite_IndexByte.b {α:Type} (N:Nat) (a1:ByteArray) (a2:Int) (k0:Int→Option α):Option α :=
 k0 (Go.Lib.indexByte a1.data.toList a2.toNat.toUInt8)
noncomputable def internal_stringslite_IndexByte {α:Type}:=lockF (@internal_stringslite_IndexByte.b α)
theorem internal_stringslite_IndexByte.eq:@internal_stringslite_IndexByte=@internal_stringslite_IndexByte.b:=funext fun α=>lockF_eq _
theorem callee_indexByte {gd:Gd} {P:Program} {ρ:Ren} (L:Lays.n219 P ρ) {f:Nat} (hr:ρ.f 217=f) {fn:Func} (hf:P.funcs[f]?=some fn) (hn:(fn.name == "runtime.NumGoroutine")=false) (hb:fn.body.isNone=false) (N:Nat) :
  CalleeOK gd P f (mkCallee false ⟨[.i .str,.i (.int .u8)],[]⟩ fun v K=>internal_stringslite_IndexByte N v.1.1 v.1.2.1 fun y=>K (.iv (.int .i64) y) []):=by
 refine callee_ok fun {α r} v K h=>?_
 obtain ⟨⟨s,t,u⟩,u'⟩:=v
 cases u; cases u'
 simp only [internal_stringslite_IndexByte.eq,internal_stringslite_IndexByte.b] at h
 refine ⟨_,_,h,fnSnd_data hf hn hb fun c vs hGc hh=>⟨.int .i64 (Go.Lib.indexByte (ByteArray.data s).toList t.toNat.toUInt8),?_,fun c'=>HVR.int.2 rfl⟩⟩
 obtain ⟨v1,rest,e1,hv1,hrest⟩:=hh.cons
 obtain ⟨v2,rest2,e2,hv2,hrest2⟩:=HVL.cons hrest
 have hrest2:rest2=[]:=hrest2
 subst hrest2
 simp only [SP.mk] at hv1 hv2
 rw [HVR.str.1 hv1,e2,HVR.int.1 hv2] at e1
 subst e1
 have:=Any.stringslite_IndexByte { L with } s t c.w
 rw [hr] at this
 refine this.mono ?_
 rintro e w' ⟨rfl,rfl⟩
 exact ⟨rfl,RowKit.Below.refl _ _⟩
end Go.Proofs.YtnhbcpmmdblkjaaDoorAm
