/-
  The abstract machine: a small interpreter of the loaded code over typed data, and the proof that what it answers, the machine does. Part 3.
-/
import Derived.Test.YtnhbcpmmdblkjaaDoorAmb
import Derived.Lib.LaidTab
import Derived.Shelf.Strconv.Itoa3
import Derived.Shelf.Strings.Repeat
import Derived.Shelf.Strings.Search2
set_option linter.unusedVariables false
set_option linter.unusedSimpArgs false
set_option linter.unusedSectionVars false
namespace Go.Proofs.YtnhbcpmmdblkjaaDoorAm
open Go

structure Tab where
  g : Nat
  k : IntKind
  xs : List Int
def tabOK (w : World) (t : Tab) : Prop := ∃ e z, w.heap[t.g]? = some (.cells (t.xs.map fun x => Value.int t.k x).toArray e z)
theorem tabOK_of {P : Program} {w : World} {name : String} {k : IntKind} {xs : List Int} {g : Nat} (hg : P.globalNamed name = some g) (h : Lib.TabIs P w name k xs) : tabOK w ⟨g, k, xs⟩ := by
  unfold Lib.TabIs World.var? at h
  rw [hg] at h
  simp only [Option.bind_some] at h
  split at h
  · rename_i cs e z hh
    simp only [Option.some.injEq] at h
    subst h
    exact ⟨e, z, hh⟩
  · cases h
theorem tabIs_of {P : Program} {w : World} {name : String} {k : IntKind} {xs : List Int} {g : Nat} (hg : P.globalNamed name = some g) (h : tabOK w ⟨g, k, xs⟩) : Lib.TabIs P w name k xs := by
  obtain ⟨e, z, hh⟩ := h
  unfold Lib.TabIs World.var?
  rw [hg]
  simp only [Option.bind_some]
  rw [hh]
theorem tabOK.low {w : World} {t : Tab} (h : tabOK w t) : t.g < w.heap.size := by
  obtain ⟨e, z, hh⟩ := h
  exact (Array.getElem?_eq_some_iff.1 hh).1
/-- The world's first blocks hold these tables. -/
def tabGd (N : Nat) (ts : List Tab) (h : (ts.all fun t => Nat.blt t.g N) = true) : Gd := ⟨N, fun w => ∀ t ∈ ts, tabOK w t, fun w w' hb hw t ht => by
  have hl : t.g < N := by have := List.all_eq_true.1 h t ht; rw [Nat.blt_eq] at this; exact this
  obtain ⟨e, z, hh⟩ := hw t ht
  exact ⟨e, z, by rw [hb _ hl]; exact hh⟩⟩
theorem tabGd_mem {N : Nat} {ts : List Tab} {h : (ts.all fun t => Nat.blt t.g N) = true} {w : World} {t : Tab} (ht : t ∈ ts) (hg : (tabGd N ts h).G w) : tabOK w t := hg t ht
/-- What the library's contract says of a call whose answer is no row. -/
theorem fnSnd_data {gd : Gd} {P : Program} {f : Nat} {fn : Func} (hf : P.funcs[f]? = some fn) (hn : (fn.name == "runtime.NumGoroutine") = false) (hb : fn.body.isNone = false) {args : List HV} {res : HV}
    (hc : ∀ (c : Cx) (vs : List Value), gd.G c.w → HVL c args vs → ∃ v, Calls P f vs.toArray c.w (fun e w' => e = .returned v ∧ RowKit.Below c.w.heap.size c.w w') ∧ ∀ c' : Cx, HVR c' res v) : FnSnd gd P f args [] res [] := by
  intro c vs S hh
  obtain ⟨v, hcall, hv⟩ := hc c vs S.g hh
  have hn0 : c.n = 0 := by have := S.len; simpa using this.symm
  refine FnDoes.of_calls hf hn hb (hcall.mono ?_)
  rintro e w' ⟨rfl, bel⟩
  have hlow := S.low
  refine ⟨v, rfl, ⟨w', c.Im, c.σ, c.n⟩, rfl, ⟨⟨fun _ h => h, fun b h => bel.block b (S.im b h), fun i j h e => by cases e; exact ⟨h, rfl⟩⟩, fun b h _ => bel.block b h, fun b h => .inl h, fun id s h e => .inl ⟨id, s, h, e, rfl⟩, Nat.le_refl _, bel.size, bel.os, bel.tape, bel.output⟩, ?_, hv _⟩
  exact {
    len := S.len
    im := fun b h => Nat.lt_of_lt_of_le (S.im b h) bel.size
    blk := fun id x h => by simp at h
    inj := fun i j x y s s' _ h => by simp at h
    g := gd.stable c.w w' (fun b h => bel.block b (Nat.lt_of_lt_of_le h hlow)) S.g
    low := Nat.le_trans hlow bel.size
    own := fun id s h => by rw [show (Cx.mk w' c.Im c.σ c.n).n = c.n from rfl, hn0] at h; exact absurd h (Nat.not_lt_zero _) }
/-- A function of data that answers data. -/
theorem callee_gen {gd : Gd} {P : Program} {f : Nat} {fn : Func} (hf : P.funcs[f]? = some fn) (hn : (fn.name == "runtime.NumGoroutine") = false) (hb : fn.body.isNone = false) {p : Pt} {res : HV} {args : List HV}
    (hc : ∀ (c : Cx) (vs : List Value), gd.G c.w → HVL c args vs → ∃ v, Calls P f vs.toArray c.w (fun e w' => e = .returned v ∧ RowKit.Below c.w.heap.size c.w w') ∧ ∀ c' : Cx, HVR c' res v) : FnSnd gd P f args [] res [] := fnSnd_data hf hn hb hc
/-- A function of one number that answers one number. -/
theorem callee_int {gd : Gd} {P : Program} {f : Nat} {fn : Func} (hf : P.funcs[f]? = some fn) (hn : (fn.name == "runtime.NumGoroutine") = false) (hb : fn.body.isNone = false) {k k' : IntKind} {F : {α : Type} → Int → (Int → Option α) → Option α} {D : Int → Prop} {A : Int → Int}
    (hF : ∀ {α : Type} {r : α} (x : Int) (K : Int → Option α), F x K = some r → D x ∧ K (A x) = some r)
    (hc : ∀ (x : Int) (w : World), D x → gd.G w → Calls P f #[.int k x] w fun e w' => e = .returned (.int k' (A x)) ∧ RowKit.Below w.heap.size w w') :
    CalleeOK gd P f (mkCallee false ⟨[.i (.int k)], []⟩ fun v K => F v.1.1 fun y => K (.iv (.int k') y) []) := by
  refine callee_ok fun {α r} v K h => ?_
  obtain ⟨⟨x, u⟩, u'⟩ := v
  cases u; cases u'
  obtain ⟨hd, h1⟩ := hF x _ h
  refine ⟨_, _, h1, fnSnd_data hf hn hb fun c vs hG hh => ⟨.int k' (A x), ?_, fun c' => HVR.int.2 rfl⟩⟩
  obtain ⟨val, rest, e1, hv, hr⟩ := hh.cons
  have hr : rest = [] := hr
  subst hr
  simp only [SP.mkL, SP.mk] at hv
  rw [HVR.int.1 hv] at e1
  subst e1
  exact hc x c.w hd hG
theorem law_callsG {gd : Gd} {P : Program} {f : Nat} {fn : Func} (hf : P.funcs[f]? = some fn) (hn : (fn.name == "runtime.NumGoroutine") = false) (hb : fn.body.isNone = false) {k : Callee} (hk : CalleeOK gd P f k) {args : List HV} {vs : List Value} {W : World}
    (hargs : HVL (cx0 W) args vs) (hrun : k.run args [] isTrue = some true) (hG : gd.G W) (hlow : gd.N ≤ W.heap.size) : Calls P f vs.toArray W fun e W' => e = .returned (.bool true) ∧ RowKit.Below W.heap.size W W' := by
  obtain ⟨res, st', h1, h2⟩ := hk _ _ _ hrun
  have hres : res = .iv .bool true := by
    unfold isTrue at h1
    split at h1
    · cases h1; rfl
    · simp at h1
  subst hres
  have S : SG gd (cx0 W) [] := {
    len := rfl
    im := fun b h => h
    blk := fun id x h => by simp at h
    inj := fun i j x y s s' _ h => by simp at h
    g := hG
    low := hlow
    own := fun id s h => by simp [cx0] at h }
  have hd := h2 (cx0 W) vs S hargs
  have hcall : (callFunc f vs.toArray).run P W = .ok (.enter f vs.toArray) W := by
    have h1 : fn.name ≠ "runtime.NumGoroutine" := by simpa using hn
    have h2 : ¬ fn.body = none := by intro e; simp [e] at hb
    simp [callFunc, hf, h1, h2]
  have fin : ∀ e w'', (∃ v, e = Ending.returned v ∧ ∃ c', c'.w = w'' ∧ Nx (cx0 W) c' ∧ SG gd c' st' ∧ HVR c' (.iv .bool true) v) → e = .returned (.bool true) ∧ RowKit.Below W.heap.size W w'' := by
    rintro e w'' ⟨v, rfl, c', rfl, nx, _, hv⟩
    rw [HVR.bool] at hv
    subst hv
    exact ⟨rfl, ⟨nx.os, nx.tape, nx.output, nx.size, fun k hk => nx.heap k hk fun id s h => by simp [cx0] at h⟩⟩
  rcases hd with ⟨v, w', e, r⟩ | ⟨g, a, w', e, r⟩
  · have e : (callFunc f vs.toArray).run P W = .ok (.value v) w' := e
    rw [hcall] at e
    cases e
  · have e : (callFunc f vs.toArray).run P W = .ok (.enter g a) w' := e
    rw [hcall] at e
    cases e
    exact r.mono fin
end Go.Proofs.YtnhbcpmmdblkjaaDoorAm

namespace Go.Proofs.YtnhbcpmmdblkjaaDoorAm
open Go Go.Shelf

noncomputable def strconv_Itoa.b {α : Type} (N : Nat) (a1 : Int) (k0 : ByteArray → Option α) : Option α :=
  bif decide (-9223372036854775808 ≤ a1) then (bif decide (a1 ≤ 9223372036854775807) then k0 ⟨(Go.Lib.itoa a1).toArray⟩ else none) else none
theorem strconv_Itoa.ex : ∃ f : ((α : Type) → Nat → Int → (ByteArray → Option α) → Option α), f = fun α => @strconv_Itoa.b α := ⟨_, rfl⟩
noncomputable def strconv_Itoa {α : Type} : Nat → Int → (ByteArray → Option α) → Option α := Classical.choose strconv_Itoa.ex α
theorem strconv_Itoa.eq : @strconv_Itoa = @strconv_Itoa.b := funext fun α => congrFun (Classical.choose_spec strconv_Itoa.ex) α
noncomputable def strings_Repeat.b {α : Type} (N : Nat) (a1 : ByteArray) (a2 : Int) (k0 : ByteArray → Option α) : Option α :=
  bif decide (0 ≤ a2) then (bif decide (a2 ≤ 9223372036854775807) then (bif decide (a1.size * a2.toNat ≤ 140737488355328) then k0 ⟨(Go.Lib.repeatL a1.data.toList a2.toNat).toArray⟩ else none) else none) else none
theorem strings_Repeat.ex : ∃ f : ((α : Type) → Nat → ByteArray → Int → (ByteArray → Option α) → Option α), f = fun α => @strings_Repeat.b α := ⟨_, rfl⟩
noncomputable def strings_Repeat {α : Type} : Nat → ByteArray → Int → (ByteArray → Option α) → Option α := Classical.choose strings_Repeat.ex α
theorem strings_Repeat.eq : @strings_Repeat = @strings_Repeat.b := funext fun α => congrFun (Classical.choose_spec strings_Repeat.ex) α
theorem below_grow {w : World} {k : Nat} {os : Array Obj} : RowKit.Below w.heap.size w (Go.Sort.grow (w.drewN k) os) := by
  refine ⟨rfl, rfl, rfl, by simp [Go.Sort.grow, World.drewN], fun j hj => ?_⟩
  simp only [Go.Sort.grow, World.drewN]
  rw [Array.getElem?_append_left hj]
theorem callee_itoa {gd : Gd} {P : Program} {ρ : Ren} (L : LaysM.n171 P ρ) {f : Nat} (hr : ρ.f 171 = f) {fn : Func} (hf : P.funcs[f]? = some fn) (hn : (fn.name == "runtime.NumGoroutine") = false) (hb : fn.body.isNone = false) {g : Nat} (hg : P.globalNamed "internal/strconv.uint64pow10" = some g)
    (hG : ∀ w, gd.G w → tabOK w ⟨g, .u64, Go.Lib.pow10Tab⟩) (N : Nat) :
    CalleeOK gd P f (mkCallee false ⟨[.i (.int .i64)], []⟩ fun v K => strconv_Itoa N v.1.1 fun y => K (.iv .str y) []) := by
  refine callee_ok fun {α r} v K h => ?_
  obtain ⟨⟨x, u⟩, u'⟩ := v
  cases u; cases u'
  simp only [strconv_Itoa.eq, strconv_Itoa.b] at h
  by_cases h0 : -9223372036854775808 ≤ x
  · by_cases h1 : x ≤ 9223372036854775807
    · simp only [h0, h1, decide_true, cond_true] at h
      refine ⟨_, _, h, fnSnd_data hf hn hb fun c vs hGc hh => ⟨.string ⟨(Go.Lib.itoa x).toArray⟩, ?_, fun c' => HVR.str.2 rfl⟩⟩
      obtain ⟨val, rest, e1, hv, hrest⟩ := hh.cons
      have hrest : rest = [] := hrest
      subst hrest
      simp only [SP.mkL, SP.mk] at hv
      rw [HVR.int.1 hv] at e1
      subst e1
      have := Any.strconv_Itoa L x h0 h1 c.w (tabIs_of hg (hG c.w hGc))
      rw [hr] at this
      refine this.mono ?_
      rintro e w' ⟨rfl, k, os, rfl⟩
      exact ⟨rfl, below_grow⟩
    · simp [h0, h1] at h
  · simp [h0] at h
theorem callee_repeat {gd : Gd} {P : Program} {ρ : Ren} (L : Lays.n105 P ρ) (X : Builder.Extra P ρ) {f : Nat} (hr : ρ.f 105 = f) {fn : Func} (hf : P.funcs[f]? = some fn) (hn : (fn.name == "runtime.NumGoroutine") = false) (hb : fn.body.isNone = false) (N : Nat) :
    CalleeOK gd P f (mkCallee false ⟨[.i .str, .i (.int .i64)], []⟩ fun v K => strings_Repeat N v.1.1 v.1.2.1 fun y => K (.iv .str y) []) := by
  refine callee_ok fun {α r} v K h => ?_
  obtain ⟨⟨s, n, u⟩, u'⟩ := v
  cases u; cases u'
  simp only [strings_Repeat.eq, strings_Repeat.b] at h
  by_cases h0 : 0 ≤ n
  · by_cases h1 : n ≤ 9223372036854775807
    · by_cases h2 : s.size * n.toNat ≤ 140737488355328
      · simp only [h0, h1, h2, decide_true, cond_true] at h
        refine ⟨_, _, h, fnSnd_data hf hn hb fun c vs hGc hh => ⟨.string ⟨(Go.Lib.repeatL s.data.toList n.toNat).toArray⟩, ?_, fun c' => HVR.str.2 rfl⟩⟩
        obtain ⟨v1, rest, e1, hv1, hrest⟩ := hh.cons
        obtain ⟨v2, rest2, e2, hv2, hrest2⟩ := HVL.cons hrest
        have hrest2 : rest2 = [] := hrest2
        subst hrest2
        simp only [SP.mk] at hv1 hv2
        rw [HVR.str.1 hv1, e2, HVR.int.1 hv2] at e1
        subst e1
        obtain ⟨m, rfl⟩ : ∃ m : Nat, n = ((m : Nat) : Int) := ⟨Int.toNat n, (Int.toNat_of_nonneg h0).symm⟩
        have h1' : (m : Int) ≤ 9223372036854775807 := h1
        have := Any.strings_Repeat L X s m c.w (by omega) h2
        rw [hr] at this
        refine this.mono ?_
        rintro e w' ⟨rfl, bel⟩
        exact ⟨rfl, bel⟩
      · simp [h0, h1, h2] at h
    · simp [h0, h1] at h
  · simp [h0] at h
end Go.Proofs.YtnhbcpmmdblkjaaDoorAm

namespace Go.Proofs.YtnhbcpmmdblkjaaDoorAm
open Go Go.Shelf

noncomputable def internal_stringslite_Index.b {α : Type} (N : Nat) (a1 a2 : ByteArray) (k0 : Int → Option α) : Option α :=
  match a2.data.toList with
  | [c] => k0 (Go.Lib.indexByte a1.data.toList c)
  | _ => none
theorem internal_stringslite_Index.ex : ∃ f : ((α : Type) → Nat → ByteArray → ByteArray → (Int → Option α) → Option α), f = fun α => @internal_stringslite_Index.b α := ⟨_, rfl⟩
noncomputable def internal_stringslite_Index {α : Type} : Nat → ByteArray → ByteArray → (Int → Option α) → Option α := Classical.choose internal_stringslite_Index.ex α
theorem internal_stringslite_Index.eq : @internal_stringslite_Index = @internal_stringslite_Index.b := funext fun α => congrFun (Classical.choose_spec internal_stringslite_Index.ex) α
theorem callee_index {gd : Gd} {P : Program} {ρ : Ren} (L : Lays.n219 P ρ) {f : Nat} (hr : ρ.f 219 = f) {fn : Func} (hf : P.funcs[f]? = some fn) (hn : (fn.name == "runtime.NumGoroutine") = false) (hb : fn.body.isNone = false) (N : Nat) :
    CalleeOK gd P f (mkCallee false ⟨[.i .str, .i .str], []⟩ fun v K => internal_stringslite_Index N v.1.1 v.1.2.1 fun y => K (.iv (.int .i64) y) []) := by
  refine callee_ok fun {α r} v K h => ?_
  obtain ⟨⟨s, t, u⟩, u'⟩ := v
  cases u; cases u'
  simp only [internal_stringslite_Index.eq, internal_stringslite_Index.b] at h
  split at h
  · rename_i ch heq
    refine ⟨_, _, h, fnSnd_data hf hn hb fun c vs hGc hh => ⟨.int .i64 (Go.Lib.indexByte (ByteArray.data s).toList ch), ?_, fun c' => HVR.int.2 rfl⟩⟩
    obtain ⟨v1, rest, e1, hv1, hrest⟩ := hh.cons
    obtain ⟨v2, rest2, e2, hv2, hrest2⟩ := HVL.cons hrest
    have hrest2 : rest2 = [] := hrest2
    subst hrest2
    simp only [SP.mk] at hv1 hv2
    have ht : t = (⟨#[ch]⟩ : ByteArray) := by
      apply ByteArray.ext
      have : (ByteArray.data t).toList = [ch] := heq
      rw [← Array.toList_inj, this]
    subst ht
    rw [HVR.str.1 hv1, e2, HVR.str.1 hv2] at e1
    subst e1
    have := Any.stringslite_Index_one L s ch c.w
    rw [hr] at this
    refine this.mono ?_
    rintro e w' ⟨rfl, rfl⟩
    exact ⟨rfl, RowKit.Below.refl _ _⟩
  · cases h
end Go.Proofs.YtnhbcpmmdblkjaaDoorAm
