/-
  The abstract machine: a small interpreter of the loaded code over typed data, and the proof that what it answers, the machine does. Part 3.
-/
import Derived.Test.YtgabephijgjogaaAmb
set_option linter.unusedVariables false
set_option linter.unusedSimpArgs false
set_option linter.unusedSectionVars false
namespace Go.Proofs.YtgabephijgjogaaAm
open Go

theorem fnSnd_walk {gd : Gd} {P : Program} {f : Nat} {fn : Func} (hf : P.funcs[f]? = some fn) (hn : (fn.name == "runtime.NumGoroutine") = false) (hb : fn.body.isNone = false) {args : List HV} {res : HV}
    (hc : ∀ (c : Cx) (vs : List Value), SG gd c [] → HVL c args vs → Calls P f vs.toArray c.w (fun e w' => ∃ v, e = .returned v ∧ RowKit.Below c.w.heap.size c.w w' ∧ ∀ c' : Cx, HVR c' res v)) : FnSnd gd P f args [] res [] := by
  intro c vs S hh
  have hcall := hc c vs S hh
  have hn0 : c.n = 0 := by have := S.len; simpa using this.symm
  refine FnDoes.of_calls hf hn hb (hcall.mono ?_)
  rintro e w' ⟨v, rfl, bel, hv⟩
  have hlow := S.low
  refine ⟨v, rfl, ⟨w', c.Im, c.σ, c.n⟩, rfl, ⟨⟨fun _ h => h, fun b h => bel.block b (S.im b h), fun i j h e => by cases e; exact ⟨h, rfl⟩⟩, fun b h _ => bel.block b h, fun b h => .inl h, fun id s h e => .inl ⟨id, s, h, e, rfl⟩, Nat.le_refl _, bel.size, bel.os, bel.tape, bel.output⟩, ?_, hv _⟩
  exact {
    len := S.len
    im := fun b h => Nat.lt_of_lt_of_le (S.im b h) bel.size
    blk := fun id x h => by simp at h
    inj := fun i j x y s s' _ h => by simp at h
    g := gd.stable c.w w' (fun b h => bel.block b (Nat.lt_of_lt_of_le h hlow)) S.g
    low := Nat.le_trans hlow bel.size
    own := fun id s h => by rw [show (Cx.mk w' c.Im c.σ c.n).n = c.n from rfl, hn0] at h; exact absurd h (Nat.not_lt_zero _) }
/-- A callee that answers a truth value. -/
theorem bool_calls {gd : Gd} {P : Program} {f : Nat} {fn : Func} (hf : P.funcs[f]? = some fn) (hn : (fn.name == "runtime.NumGoroutine") = false) (hb : fn.body.isNone = false) {args : List HV} {b : Bool} {st' : List Blk}
    (h : FnSnd gd P f args [] (.iv .bool b) st') {c : Cx} {vs : List Value} (S : SG gd c []) (hh : HVL c args vs) : Calls P f vs.toArray c.w fun e w' => e = .returned (.bool b) ∧ RowKit.Below c.w.heap.size c.w w' := by
  have hd := h c vs S hh
  have hn0 : c.n = 0 := by have := S.len; simpa using this.symm
  have hcall : (callFunc f vs.toArray).run P c.w = .ok (.enter f vs.toArray) c.w := by
    have h1 : fn.name ≠ "runtime.NumGoroutine" := by simpa using hn
    have h2 : ¬ fn.body = none := by intro e; simp [e] at hb
    simp [callFunc, hf, h1, h2]
  have fin : ∀ e w'', (∃ v, e = Ending.returned v ∧ ∃ c', c'.w = w'' ∧ Nx c c' ∧ SG gd c' st' ∧ HVR c' (.iv .bool b) v) → e = .returned (.bool b) ∧ RowKit.Below c.w.heap.size c.w w'' := by
    rintro e w'' ⟨v, rfl, c', rfl, nx, _, hv⟩
    rw [HVR.bool] at hv
    subst hv
    exact ⟨rfl, ⟨nx.os, nx.tape, nx.output, nx.size, fun k hk => nx.heap k hk fun id s h => by rw [hn0] at h; exact absurd h (Nat.not_lt_zero _)⟩⟩
  rcases hd with ⟨v, w', e, r⟩ | ⟨g, a, w', e, r⟩
  · have e : (callFunc f vs.toArray).run P c.w = .ok (.value v) w' := e
    rw [hcall] at e
    cases e
  · have e : (callFunc f vs.toArray).run P c.w = .ok (.enter g a) w' := e
    rw [hcall] at e
    cases e
    exact r.mono fin
/-- A slice of numbers, as its cells. -/
theorem ints_of {gd : Gd} {c : Cx} {st : List Blk} (S : SG gd c st) {xs : List Int} {v : Value} (hv : HVR c (.iv (.sl (.int .i64)) xs) v) : ∃ p cap, v = .slice p xs.length cap ∧
    (xs.length = 0 ∨ ∃ b off, p = some ⟨b, off, none⟩ ∧ b < c.w.heap.size ∧ ∀ j, j < xs.length → c.w.cell? ⟨b, off + j, none⟩ = some (.int .i64 (xs[j]?.getD 0))) := by
  obtain ⟨p, cap, e, hcap, hr⟩ := hv.sl
  refine ⟨p, cap, e, ?_⟩
  rcases hr with rfl | ⟨b, off, cur, el, fr, rfl, i1, i2, i3, i4⟩
  · exact .inl rfl
  · refine .inr ⟨b, off, rfl, S.im b i1, fun j hj => ?_⟩
    have hx : xs[j]? = some xs[j] := List.getElem?_eq_getElem hj
    have g := i4.get (sz := 1) (fun _ _ h => h.length) hx
    simp only [cellsR] at g
    rw [hx]
    simp only [World.cell?, i2, Option.getD_some]
    have h3 : off + xs.length ≤ cur.size := by simpa [Ty.size] using i3
    rw [List.drop_take, List.take_take, List.drop_drop, Nat.min_eq_left (by simp [Ty.size]; omega)] at g
    have hlt : off + j < cur.size := by omega
    have := congrArg (fun l : List Value => l[0]?) g
    simp only [Nat.mul_one] at this
    rw [List.getElem?_take_of_lt (by omega), List.getElem?_drop] at this
    simpa using this
end Go.Proofs.YtgabephijgjogaaAm
