/-
  The abstract machine: a small interpreter of the loaded code over typed data, and the proof that what it answers, the machine does. Part 3.
-/
import Derived.Test.YtlbihmicbncdiaaDoorAmb
import Derived.Lib.LaidTab
import Derived.Shelf.Spec.TrailingZeros
set_option linter.unusedVariables false
set_option linter.unusedSimpArgs false
set_option linter.unusedSectionVars false
namespace Go.Proofs.YtlbihmicbncdiaaDoorAm
open Go

structure Tab where
  g : Nat
  k : IntKind
  xs : List Int
def tabOK (w : World) (t : Tab) : Prop := ∃ e z, w.heap[t.g]? = some (.cells (t.xs.map fun x => Value.int t.k x).toArray e z)
theorem tabOK_of {P : Program} {w : World} {name : String} {k : IntKind} {xs : List Int} {g : Nat} (hg : P.globalNamed name = some g) (h : Lib.TabIs P w name k xs) : tabOK w ⟨g, k, xs⟩ := by
  unfold Lib.TabIs World.var? at h
  rw [hg] at h
  simp only [Option.bind_some] at h
  split at h
  · rename_i cs e z hh
    simp only [Option.some.injEq] at h
    subst h
    exact ⟨e, z, hh⟩
  · cases h
theorem tabIs_of {P : Program} {w : World} {name : String} {k : IntKind} {xs : List Int} {g : Nat} (hg : P.globalNamed name = some g) (h : tabOK w ⟨g, k, xs⟩) : Lib.TabIs P w name k xs := by
  obtain ⟨e, z, hh⟩ := h
  unfold Lib.TabIs World.var?
  rw [hg]
  simp only [Option.bind_some]
  rw [hh]
theorem tabOK.low {w : World} {t : Tab} (h : tabOK w t) : t.g < w.heap.size := by
  obtain ⟨e, z, hh⟩ := h
  exact (Array.getElem?_eq_some_iff.1 hh).1
/-- The world's first blocks hold these tables. -/
def tabGd (N : Nat) (ts : List Tab) (h : (ts.all fun t => Nat.blt t.g N) = true) : Gd := ⟨N, fun w => ∀ t ∈ ts, tabOK w t, fun w w' hb hw t ht => by
  have hl : t.g < N := by have := List.all_eq_true.1 h t ht; rw [Nat.blt_eq] at this; exact this
  obtain ⟨e, z, hh⟩ := hw t ht
  exact ⟨e, z, by rw [hb _ hl]; exact hh⟩⟩
theorem tabGd_mem {N : Nat} {ts : List Tab} {h : (ts.all fun t => Nat.blt t.g N) = true} {w : World} {t : Tab} (ht : t ∈ ts) (hg : (tabGd N ts h).G w) : tabOK w t := hg t ht
/-- What the library's contract says of a call whose answer is no row. -/
theorem fnSnd_data {gd : Gd} {P : Program} {f : Nat} {fn : Func} (hf : P.funcs[f]? = some fn) (hn : (fn.name == "runtime.NumGoroutine") = false) (hb : fn.body.isNone = false) {args : List HV} {res : HV}
    (hc : ∀ (c : Cx) (vs : List Value), gd.G c.w → HVL c args vs → ∃ v, Calls P f vs.toArray c.w (fun e w' => e = .returned v ∧ RowKit.Below c.w.heap.size c.w w') ∧ ∀ c' : Cx, HVR c' res v) : FnSnd gd P f args [] res [] := by
  intro c vs S hh
  obtain ⟨v, hcall, hv⟩ := hc c vs S.g hh
  have hn0 : c.n = 0 := by have := S.len; simpa using this.symm
  refine FnDoes.of_calls hf hn hb (hcall.mono ?_)
  rintro e w' ⟨rfl, bel⟩
  have hlow := S.low
  refine ⟨v, rfl, ⟨w', c.Im, c.σ, c.n⟩, rfl, ⟨⟨fun _ h => h, fun b h => bel.block b (S.im b h), fun i j h e => by cases e; exact ⟨h, rfl⟩⟩, fun b h _ => bel.block b h, fun b h => .inl h, fun id s h e => .inl ⟨id, s, h, e, rfl⟩, Nat.le_refl _, bel.size, bel.os, bel.tape, bel.output⟩, ?_, hv _⟩
  exact {
    len := S.len
    im := fun b h => Nat.lt_of_lt_of_le (S.im b h) bel.size
    blk := fun id x h => by simp at h
    inj := fun i j x y s s' _ h => by simp at h
    g := gd.stable c.w w' (fun b h => bel.block b (Nat.lt_of_lt_of_le h hlow)) S.g
    low := Nat.le_trans hlow bel.size
    own := fun id s h => by rw [show (Cx.mk w' c.Im c.σ c.n).n = c.n from rfl, hn0] at h; exact absurd h (Nat.not_lt_zero _) }
/-- A function of data that answers data. -/
theorem callee_gen {gd : Gd} {P : Program} {f : Nat} {fn : Func} (hf : P.funcs[f]? = some fn) (hn : (fn.name == "runtime.NumGoroutine") = false) (hb : fn.body.isNone = false) {p : Pt} {res : HV} {args : List HV}
    (hc : ∀ (c : Cx) (vs : List Value), gd.G c.w → HVL c args vs → ∃ v, Calls P f vs.toArray c.w (fun e w' => e = .returned v ∧ RowKit.Below c.w.heap.size c.w w') ∧ ∀ c' : Cx, HVR c' res v) : FnSnd gd P f args [] res [] := fnSnd_data hf hn hb hc
/-- A function of one number that answers one number. -/
theorem callee_int {gd : Gd} {P : Program} {f : Nat} {fn : Func} (hf : P.funcs[f]? = some fn) (hn : (fn.name == "runtime.NumGoroutine") = false) (hb : fn.body.isNone = false) {k k' : IntKind} {F : {α : Type} → Int → (Int → Option α) → Option α} {D : Int → Prop} {A : Int → Int}
    (hF : ∀ {α : Type} {r : α} (x : Int) (K : Int → Option α), F x K = some r → D x ∧ K (A x) = some r)
    (hc : ∀ (x : Int) (w : World), D x → gd.G w → Calls P f #[.int k x] w fun e w' => e = .returned (.int k' (A x)) ∧ RowKit.Below w.heap.size w w') :
    CalleeOK gd P f (mkCallee false ⟨[.i (.int k)], []⟩ fun v K => F v.1.1 fun y => K (.iv (.int k') y) []) := by
  refine callee_ok fun {α r} v K h => ?_
  obtain ⟨⟨x, u⟩, u'⟩ := v
  cases u; cases u'
  obtain ⟨hd, h1⟩ := hF x _ h
  refine ⟨_, _, h1, fnSnd_data hf hn hb fun c vs hG hh => ⟨.int k' (A x), ?_, fun c' => HVR.int.2 rfl⟩⟩
  obtain ⟨val, rest, e1, hv, hr⟩ := hh.cons
  have hr : rest = [] := hr
  subst hr
  simp only [SP.mkL, SP.mk] at hv
  rw [HVR.int.1 hv] at e1
  subst e1
  exact hc x c.w hd hG
theorem law_callsG {gd : Gd} {P : Program} {f : Nat} {fn : Func} (hf : P.funcs[f]? = some fn) (hn : (fn.name == "runtime.NumGoroutine") = false) (hb : fn.body.isNone = false) {k : Callee} (hk : CalleeOK gd P f k) {args : List HV} {vs : List Value} {W : World}
    (hargs : HVL (cx0 W) args vs) (hrun : k.run args [] isTrue = some true) (hG : gd.G W) (hlow : gd.N ≤ W.heap.size) : Calls P f vs.toArray W fun e W' => e = .returned (.bool true) ∧ RowKit.Below W.heap.size W W' := by
  obtain ⟨res, st', h1, h2⟩ := hk _ _ _ hrun
  have hres : res = .iv .bool true := by
    unfold isTrue at h1
    split at h1
    · cases h1; rfl
    · simp at h1
  subst hres
  have S : SG gd (cx0 W) [] := {
    len := rfl
    im := fun b h => h
    blk := fun id x h => by simp at h
    inj := fun i j x y s s' _ h => by simp at h
    g := hG
    low := hlow
    own := fun id s h => by simp [cx0] at h }
  have hd := h2 (cx0 W) vs S hargs
  have hcall : (callFunc f vs.toArray).run P W = .ok (.enter f vs.toArray) W := by
    have h1 : fn.name ≠ "runtime.NumGoroutine" := by simpa using hn
    have h2 : ¬ fn.body = none := by intro e; simp [e] at hb
    simp [callFunc, hf, h1, h2]
  have fin : ∀ e w'', (∃ v, e = Ending.returned v ∧ ∃ c', c'.w = w'' ∧ Nx (cx0 W) c' ∧ SG gd c' st' ∧ HVR c' (.iv .bool true) v) → e = .returned (.bool true) ∧ RowKit.Below W.heap.size W w'' := by
    rintro e w'' ⟨v, rfl, c', rfl, nx, _, hv⟩
    rw [HVR.bool] at hv
    subst hv
    exact ⟨rfl, ⟨nx.os, nx.tape, nx.output, nx.size, fun k hk => nx.heap k hk fun id s h => by simp [cx0] at h⟩⟩
  rcases hd with ⟨v, w', e, r⟩ | ⟨g, a, w', e, r⟩
  · have e : (callFunc f vs.toArray).run P W = .ok (.value v) w' := e
    rw [hcall] at e
    cases e
  · have e : (callFunc f vs.toArray).run P W = .ok (.enter g a) w' := e
    rw [hcall] at e
    cases e
    exact r.mono fin
end Go.Proofs.YtlbihmicbncdiaaDoorAm

namespace Go.Proofs.YtlbihmicbncdiaaDoorAm
open Go Go.Shelf

noncomputable def math_bits_TrailingZeros64.b {α : Type} (N : Nat) (a1 : Int) (k0 : Int → Option α) : Option α :=
  bif decide ((0 : Int) ≤ a1) then (bif decide (a1 < 18446744073709551616) then k0 ((Go.Lib.ctz 64 a1.toNat : Nat) : Int) else none) else none
theorem math_bits_TrailingZeros64.ex : ∃ f : ((α : Type) → Nat → Int → (Int → Option α) → Option α), f = fun α => @math_bits_TrailingZeros64.b α := ⟨_, rfl⟩
noncomputable def math_bits_TrailingZeros64 {α : Type} : Nat → Int → (Int → Option α) → Option α := Classical.choose math_bits_TrailingZeros64.ex α
theorem math_bits_TrailingZeros64.eq : @math_bits_TrailingZeros64 = @math_bits_TrailingZeros64.b := funext fun α => congrFun (Classical.choose_spec math_bits_TrailingZeros64.ex) α
def ctzTab : List Int := Go.Lib.deBruijn64tab.map Int.ofNat
theorem tabAt_of {w : World} {g : Nat} (h : tabOK w ⟨g, .u8, ctzTab⟩) : TabAt g Go.Lib.deBruijn64tab w := by
  intro j hj
  obtain ⟨e, z, hh⟩ := h
  simp only at hh
  have hj2 : j < ctzTab.length := by simpa [ctzTab] using hj
  unfold World.cell?
  rw [hh]
  simp [ctzTab, hj]
theorem callee_tz64 {gd : Gd} {P : Program} {ρ : Ren} (L : Lays7.n29 P ρ) {f : Nat} (hr : ρ.f 29 = f) {fn : Func} (hf : P.funcs[f]? = some fn) (hn : (fn.name == "runtime.NumGoroutine") = false) (hb : fn.body.isNone = false) {g : Nat} (hg : ρ.g 1 = g)
    (hG : ∀ w, gd.G w → tabOK w ⟨g, .u8, ctzTab⟩) (N : Nat) :
    CalleeOK gd P f (mkCallee false ⟨[.i (.int .u64)], []⟩ fun v K => math_bits_TrailingZeros64 N v.1.1 fun y => K (.iv (.int .i64) y) []) := by
  refine callee_int (F := fun x K => math_bits_TrailingZeros64 N x K) (D := fun x => 0 ≤ x ∧ x < 18446744073709551616) (A := fun x => ((Go.Lib.ctz 64 x.toNat : Nat) : Int)) hf hn hb ?_ ?_
  · intro α r x K h
    rw [math_bits_TrailingZeros64.eq] at h
    unfold math_bits_TrailingZeros64.b at h
    by_cases h0 : 0 ≤ x
    · by_cases h1 : x < 18446744073709551616
      · simp only [h0, h1, decide_true, cond_true] at h
        exact ⟨⟨h0, h1⟩, h⟩
      · simp [h0, h1] at h
    · simp [h0] at h
  · intro x w ⟨h0, h1⟩ hGw
    obtain ⟨n, rfl⟩ : ∃ n : Nat, x = n := ⟨x.toNat, by omega⟩
    have := Any7.bits_TrailingZeros64 L n (by omega) w (fun _ => by rw [hg]; exact tabAt_of (hG w hGw))
    rw [hr] at this
    refine this.mono ?_
    rintro e w' ⟨rfl, rfl⟩
    exact ⟨rfl, RowKit.Below.refl _ _⟩
end Go.Proofs.YtlbihmicbncdiaaDoorAm
