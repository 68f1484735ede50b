/-
  The abstract machine: a small interpreter of the loaded code over typed data, and the proof that what it answers, the machine does. Part 2.
-/
import Derived.Test.YtnhbcpmmdblkjaaDoorAma
import Derived.Laws.Sem
import Derived.LoopN
import Derived.ChangeKeysEq
import Derived.WalkKit
import Derived.ProofKit
import Derived.OpenShut
import Derived.ShutString
import Derived.ChangeOld
import Derived.SizedLaws
import Derived.ChangeArms
import Derived.Carry
set_option linter.unusedVariables false
set_option linter.unusedSimpArgs false
set_option linter.unusedSectionVars false
namespace Go.Proofs.YtnhbcpmmdblkjaaDoorAm
open Go

section live
variable {st:List Blk}
theorem passCaps_live : ∀ {caps caps' : List HV}, passCaps st caps = some caps' → ∀ id ∈ capIds st caps, ∃ b, st[id]? = some b ∧ b ≠ .gone
  | [], _, _, id, hm => by simp [capIds] at hm
  | h :: r, _, e, id, hm => by
    simp only [passCaps] at e
    split at e
    · rename_i x xs ex exs
      simp only [capIds, List.mem_append] at hm
      rcases hm with hm | hm
      · cases h <;> simp only [List.not_mem_nil] at hm
        rename_i j path off
        simp only [passCap] at ex
        split at ex
        · rename_i el cont z hb
          split at ex
          · rename_i g o hg ho
            split at ex
            · split at ex
              · rename_i t y hsn
                simp only [hb, hg, List.mem_cons] at hm
                rcases hm with rfl | hm
                · exact ⟨_, hb, by simp⟩
                · exact snap_ids hsn id hm
              · simp at ex
            · simp at ex
          · simp at ex
        · simp at ex
      · exact passCaps_live exs id hm
    · simp at e
theorem snapL_ids {ps:List HV} {t:Ty} {x:t.den} (e:snapL st ps=some ⟨t,x⟩):∀ id ∈ idsOfL ps,∃ b,st[id]?=some b∧b ≠ .gone:=by
 have:=snap_ids (st:=st) (h:=.agg ps) (by simpa only [snap] using e)
 simpa only [idsOf] using this
mutual
theorem passA_live {loan : Bool} : ∀ {ty : Option Ty} {h h' : HV}, passA st loan ty h = some h' → ∀ id ∈ snIds st loan h, ∃ b, st[id]? = some b ∧ b ≠ .gone
  | _, .own i, _, e, id, hm => by
    simp only [passA] at e
    split at e
    · simp [snIds] at hm
    · obtain ⟨t, x, e1, _⟩ := ofSig_some e
      exact snap_ids e1 id (by simpa [snIds, idsOf] using hm)
  | _, .sub i o l, _, e, id, hm => by
    simp only [passA] at e
    obtain ⟨t, x, e1, _⟩ := ofSig_some e
    exact snap_ids e1 id (by simpa [snIds, idsOf] using hm)
  | _, .agg ps, _, e, id, hm => by
    simp only [passA] at e
    split at e
    · simp only [Option.map_eq_some_iff] at e
      obtain ⟨ps', e1, _⟩ := e
      exact passAL_live e1 id (by simpa only [snIds] using hm)
    · obtain ⟨t, x, e1, _⟩ := ofSig_some e
      exact snapL_ids e1 id (by simpa only [snIds] using hm)
  | _, .fn f caps, _, e, id, hm => by
    simp only [passA, Option.map_eq_some_iff] at e
    obtain ⟨caps', e1, _⟩ := e
    exact passCaps_live e1 id (by simpa only [snIds] using hm)
  | _, .iv .., _, _, _, hm | _, .ip .., _, _, _, hm | _, .er _, _, _, _, hm | _, .nil, _, _, _, hm | _, .lp .., _, _, _, hm | _, .undef, _, _, _, hm | _, .skip, _, _, _, hm | _, .nn .., _, _, _, hm | _, .le .., _, _, _, hm | _, .tuple _, _, _, _, hm => by simp [snIds] at hm
theorem passAL_live : ∀ {ps ps' : List HV}, passAL st ps = some ps' → ∀ id ∈ snIdsL st true ps, ∃ b, st[id]? = some b ∧ b ≠ .gone
  | [], _, _, id, hm => by simp [snIdsL] at hm
  | h :: r, _, e, id, hm => by
    simp only [passAL] at e
    split at e
    · rename_i x xs ex exs
      simp only [snIdsL, List.mem_append] at hm
      rcases hm with hm | hm
      · exact passA_live ex id hm
      · exact passAL_live exs id hm
    · simp at e
end
theorem passL_live {loan : Bool} : ∀ {ts : List (Option Ty)} {hs hs' : List HV}, passL st loan ts hs = some hs' → ∀ id ∈ snIdsL st loan hs, ∃ b, st[id]? = some b ∧ b ≠ .gone
  | _, [], _, _, id, hm => by simp [snIdsL] at hm
  | ts, h :: r, _, e, id, hm => by
    simp only [passL] at e
    split at e
    · rename_i x xs ex exs
      simp only [snIdsL, List.mem_append] at hm
      rcases hm with hm | hm
      · exact passA_live ex id hm
      · exact passL_live exs id hm
    · simp at e
end live

def Cx.lend (c:Cx) (ids:List Nat):Cx:=⟨c.w,c.Im,fun i=>(ids[i]?).bind c.σ,ids.length⟩
theorem Cx.lend_le {c:Cx} {ids:List Nat}:c.Le (c.lend ids) (posOf ids) where
 im _ h:=h
 heap _ _:=rfl
 ids i j _ e:=by
  have:=posOf_some e
  exact ⟨(List.getElem?_eq_some_iff.1 this).1,by simp [Cx.lend,this]⟩
theorem SG.lend {gd:Gd} {c:Cx} {st:List Blk} (S:SG gd c st) {ids:List Nat} (hn:nodupB ids=true) {loans loans2:List Blk} (hb:blksAt st ids=some loans) (hm:mapIdBs (posOf ids) loans=some loans2) :
  SG gd (c.lend ids) loans2:=by
 obtain ⟨l1,l2⟩:=blksAt_ok hb
 obtain ⟨m1,m2⟩:=mapIdBs_ok hm
 have at':∀ (k:Nat) y,loans2[k]?=some y→∃ id x,ids[k]?=some id∧st[id]?=some x∧x.live=true∧mapIdB (posOf ids) x=some y∧(c.lend ids).σ k=c.σ id:=by
  intro k y hk
  obtain ⟨x,hx,e⟩:=m2 k y hk
  have:k < ids.length:=by rw [← l1]; exact (List.getElem?_eq_some_iff.1 hx).1
  obtain ⟨b,h1,h2,h3⟩:=l2 k ids[k] (by simp [this])
  rw [hx] at h2; cases h2
  exact ⟨ids[k],x,by simp [this],h1,h3,e,by simp [Cx.lend,this]⟩
 exact {
  len:=by rw [m1,l1]; rfl
  im:=S.im
  blk:=fun k y hk=>by
   obtain ⟨id,x,h1,h2,h3,h4,h5⟩:=at' k y hk
   exact (S.blk id x h2).mono Cx.lend_le h4 h5 (fun _ _=>rfl) fun _ _=>Iff.rfl
  inj:=fun i j x y s s' hne hx hy lx ly hs hs'=>by
   obtain ⟨i',x',h1,h2,h3,_,h5⟩:=at' i x hx
   obtain ⟨j',y',k1,k2,k3,_,k5⟩:=at' j y hy
   rw [h5] at hs; rw [k5] at hs'
   exact S.inj i' j' x' y' s s' (fun e=>hne (nodupB_inj hn h1 (e ▸ k1))) h2 k2 h3 k3 hs hs'
  g:=S.g
  low:=S.low
  own:=fun k s hk hs=>by
   have hk:k < ids.length:=hk
   simp only [Cx.lend,List.getElem?_eq_getElem hk,Option.bind_some] at hs
   obtain ⟨b,h1,_⟩:=l2 k ids[k] (by simp [hk])
   exact S.own ids[k] s (by rw [← S.len]; exact (List.getElem?_eq_some_iff.1 h1).1) hs }

def Cx.back (c:Cx) (ids:List Nat) (c3:Cx) (Im4:Nat→Prop):Cx :=
 ⟨c3.w,Im4,fun i=>if i < c.n then c.σ i else c3.σ (ids.length + (i - c.n)),c.n + (c3.n - ids.length)⟩
theorem live_notIm {gd : Gd} {c : Cx} {st : List Blk} (S : SG gd c st) {j : Nat} {y : Blk} {s : Pl} (hy : st[j]? = some y) (hl : y.live = true) (hs : c.σ j = some s) : ¬ c.Im s.b := by
  have hb := S.blk j y hy
  cases y with
  | arr e t xs z => simp only [BlkR, hs] at hb; simp [Blk.live] at hl; exact hb.2.2.2.2.2.1 hl
  | box e h z =>
    simp only [BlkR, hs] at hb; simp [Blk.live] at hl
    obtain ⟨s2, cur, e2, _, _, h2, _⟩ := hb
    cases e2; exact h2 hl
  | gone => simp [Blk.live] at hl
theorem froz_im {gd : Gd} {c : Cx} {st : List Blk} (S : SG gd c st) {j : Nat} {y : Blk} {s : Pl} (hy : st[j]? = some y) (hg : y ≠ .gone) (hl : y.live = false) (hs : c.σ j = some s) : c.Im s.b := by
  have hb := S.blk j y hy
  cases y with
  | arr e t xs z => simp only [BlkR, hs] at hb; simp [Blk.live] at hl; exact hb.2.2.2.2.1 hl
  | box e h z =>
    simp only [BlkR, hs] at hb; simp [Blk.live] at hl
    obtain ⟨s2, cur, e2, _, h2, _⟩ := hb
    cases e2; exact h2 hl
  | gone => exact absurd rfl hg

theorem SG.back {gd : Gd} {c : Cx} {st : List Blk} (S : SG gd c st) {ids : List Nat} (hn : nodupB ids = true) {loans : List Blk} (hb : blksAt st ids = some loans)
    {c2 c3 : Cx} (w2 : c2.w = c.w) (σ2 : c2.σ = (c.lend ids).σ) (n2 : c2.n = ids.length) (im2 : ∀ b, c.Im b → c2.Im b) (nx : Nx c2 c3) {st' : List Blk} (S3 : SG gd c3 st')
    {bs : List Blk} (hbs : mapIdBs (remap ids st.length) st' = some bs) {Im4 : Nat → Prop}
    (i1 : ∀ b, c.Im b → Im4 b) (i2 : ∀ b, Im4 b → c3.Im b) (i3 : ∀ b, Im4 b → b < c.w.heap.size → c.Im b ∨ ∃ id ∈ ids, ∃ s, c.σ id = some s ∧ s.b = b)
    (i4 : ∀ b, c3.Im b → ((∃ id ∈ ids, ∃ s, c.σ id = some s ∧ s.b = b) ∨ c.w.heap.size ≤ b) → Im4 b)
    (sl : (∀ b, c3.Im b → Im4 b) ∨ ∀ x ∈ st', hasSlB x = false) :
    Nx c (c.back ids c3 Im4) ∧ SG gd (c.back ids c3 Im4) (writeAt st ids (bs.take ids.length) ++ bs.drop ids.length) ∧
      (∀ i j, i < c3.n → remap ids st.length i = some j → j < (c.back ids c3 Im4).n ∧ (c.back ids c3 Im4).σ j = c3.σ i) := by
  obtain ⟨l1, l2⟩ := blksAt_ok hb
  obtain ⟨m1, m2⟩ := mapIdBs_ok hbs
  have hstl : st.length = c.n := S.len
  have hst' : st'.length = c3.n := S3.len
  have hle : ids.length ≤ c3.n := by rw [← n2]; exact nx.n
  have σc2 : ∀ (k id : Nat), ids[k]? = some id → c2.σ k = c.σ id := fun k id hk => by rw [σ2]; simp [Cx.lend, hk]
  have c2lt : ∀ (k id : Nat), ids[k]? = some id → k < c2.n := fun k id hk => by rw [n2]; exact (List.getElem?_eq_some_iff.1 hk).1
  have idlt : ∀ (k id : Nat), ids[k]? = some id → id < c.n := fun k id hk => by
    obtain ⟨b, h1, _⟩ := l2 k id hk
    rw [← hstl]; exact (List.getElem?_eq_some_iff.1 h1).1
  have σold : ∀ i, i < c.n → (c.back ids c3 Im4).σ i = c.σ i := fun i hi => by simp [Cx.back, hi]
  have σnew : ∀ i, ¬ i < c.n → (c.back ids c3 Im4).σ i = c3.σ (ids.length + (i - c.n)) := fun i hi => by simp [Cx.back, hi]
  have lids : ∀ i j, i < c3.n → remap ids st.length i = some j → j < (c.back ids c3 Im4).n ∧ (c.back ids c3 Im4).σ j = c3.σ i := by
    intro i j hi e
    simp only [remap] at e
    split at e
    · rename_i hlt
      have h1 := idlt i j e
      refine ⟨by simp [Cx.back]; omega, ?_⟩
      rw [σold j h1, (nx.le.ids i i (by omega) rfl).2, σc2 i j e]
    · rename_i hlt
      simp only [Option.some.injEq] at e; subst e
      refine ⟨by simp only [Cx.back]; omega, ?_⟩
      rw [σnew _ (by omega), hstl]
      congr 1; omega
  have loanb : ∀ k s, k < c2.n → c2.σ k = some s → ∃ id ∈ ids, c.σ id = some s := by
    intro k s hk hs
    rw [n2] at hk
    rw [σc2 k ids[k] (by simp [hk])] at hs
    exact ⟨ids[k], by simp, hs⟩
  have newb : ∀ i s, i < c3.n → c3.σ i = some s → (∃ id ∈ ids, ∃ s', c.σ id = some s' ∧ s'.b = s.b) ∨ c.w.heap.size ≤ s.b := by
    intro i s hi hs
    rcases nx.signew i s hi hs with ⟨k, s', h1, h2, h3⟩ | h1
    · obtain ⟨id, hm, h4⟩ := loanb k s' h1 h2
      exact .inl ⟨id, hm, s', h4, h3⟩
    · exact .inr (by rw [← w2]; exact h1)
  have memat : ∀ id, id ∈ ids → ∃ k : Nat, ids[k]? = some id := fun id h => List.mem_iff_getElem?.1 h
  have nx4 : Nx c (c.back ids c3 Im4) := {
    le := ⟨i1, fun b hb => by
      have := nx.le.heap b (im2 b hb)
      rw [w2] at this; exact this, fun i j hi e => by cases e; exact ⟨by simp only [Cx.back]; omega, σold i hi⟩⟩
    heap := fun b hb hno => by
      have := nx.heap b (by rw [w2]; exact hb) fun k s hk hs e => by
        obtain ⟨id, hm, h4⟩ := loanb k s hk hs
        obtain ⟨k', hk'⟩ := memat id hm
        exact hno id s (idlt k' id hk') h4 e
      rw [w2] at this; exact this
    imnew := fun b hb => by
      by_cases hlt : b < c.w.heap.size
      · rcases i3 b hb hlt with h | ⟨id, hm, s, hs, e⟩
        · exact .inl h
        · obtain ⟨k', hk'⟩ := memat id hm
          exact .inr (.inl ⟨id, s, idlt k' id hk', hs, e⟩)
      · exact .inr (.inr (by omega))
    signew := fun i s hi hs => by
      by_cases hlt : i < c.n
      · rw [σold i hlt] at hs; exact .inl ⟨i, s, hlt, hs, rfl⟩
      · rw [σnew i hlt] at hs
        simp only [Cx.back] at hi
        rcases newb _ s (by omega) hs with ⟨id, hm, s', h1, h2⟩ | h1
        · obtain ⟨k', hk'⟩ := memat id hm
          exact .inl ⟨id, s', idlt k' id hk', h1, h2⟩
        · exact .inr h1
    n := by simp only [Cx.back]; omega
    size := by have := nx.size; rw [w2] at this; exact this
    os := by have := nx.os; rw [w2] at this; exact this
    tape := by have := nx.tape; rw [w2] at this; exact this
    output := by have := nx.output; rw [w2] at this; exact this }
  have lenw : (writeAt st ids (bs.take ids.length)).length = c.n := by rw [writeAt_length, hstl]
  have where' : ∀ (j : Nat) y, (writeAt st ids (bs.take ids.length) ++ bs.drop ids.length)[j]? = some y →
      (j < c.n ∧ j ∉ ids ∧ st[j]? = some y) ∨ ∃ k x, st'[k]? = some x ∧ mapIdB (remap ids st.length) x = some y ∧ remap ids st.length k = some j ∧ k < c3.n := by
    intro j y hj
    by_cases hlt : j < c.n
    · rw [List.getElem?_append_left (by omega)] at hj
      by_cases hm : j ∈ ids
      · obtain ⟨k, hk⟩ := memat j hm
        have hkl : k < ids.length := (List.getElem?_eq_some_iff.1 hk).1
        rw [writeAt_at ids _ st hn (by rw [List.length_take]; omega) k hk (by omega), List.getElem?_take, if_pos hkl] at hj
        obtain ⟨x, h1, h2⟩ := m2 k y hj
        exact .inr ⟨k, x, h1, h2, by simp only [remap]; rw [if_pos hkl]; exact hk, by omega⟩
      · rw [writeAt_other ids _ st fun k hk => hm (List.mem_of_getElem? hk)] at hj
        exact .inl ⟨hlt, hm, hj⟩
    · rw [List.getElem?_append_right (by omega), List.getElem?_drop, lenw] at hj
      obtain ⟨x, h1, h2⟩ := m2 _ y hj
      refine .inr ⟨_, x, h1, h2, ?_, ?_⟩
      · simp only [remap]
        rw [if_neg (by omega)]
        congr 1; omega
      · rw [← hst']; exact (List.getElem?_eq_some_iff.1 h1).1
  have apart : ∀ j y s, j ∉ ids → st[j]? = some y → y ≠ .gone → c.σ j = some s → ∀ id ∈ ids, ∀ s', c.σ id = some s' → s'.b ≠ s.b := by
    intro j y s hj hy hg hs id hm s' hs' e
    obtain ⟨k, hk⟩ := memat id hm
    obtain ⟨x, h1, _, h3⟩ := l2 k id hk
    exact S.other h1 h3 hs' (live_notIm S h1 h3 hs') j y s (by rintro rfl; exact hj hm) hy hg hs e.symm
  have keep : ∀ j y s, j ∉ ids → st[j]? = some y → y ≠ .gone → c.σ j = some s → c3.w.heap[s.b]? = c.w.heap[s.b]? := by
    intro j y s hj hy hg hs
    have hjl : j < c.n := by rw [← hstl]; exact (List.getElem?_eq_some_iff.1 hy).1
    have := nx.heap s.b (by rw [w2]; exact (S.own j s hjl hs).2) fun k s' hk hs' e => by
      obtain ⟨id, hm, h4⟩ := loanb k s' hk hs'
      exact apart j y s hj hy hg hs id hm s' h4 e
    rw [w2] at this; exact this
  refine ⟨nx4, ?_, lids⟩
  exact {
    len := by rw [List.length_append, List.length_drop, lenw, m1, hst']; rfl
    im := fun b h => S3.im b (i2 b h)
    blk := fun j y hj => by
      rcases where' j y hj with ⟨h1, h2, h3⟩ | ⟨k, x, h1, h2, h3, h4⟩
      · by_cases hg : y = .gone
        · subst hg; trivial
        · refine (S.blk j y h3).mono nx4.le (mapIdB_some y) (σold j h1) (fun s hs => keep j y s h2 h3 hg hs) fun s hs => ⟨fun h => ?_, i1 _⟩
          rcases i3 s.b h (S.own j s h1 hs).2 with h' | ⟨id, hm, s', hs', e⟩
          · exact h'
          · exact absurd e (apart j y s h2 h3 hg hs id hm s' hs')
      · have hbr := S3.blk k x h1
        obtain ⟨_, hσ⟩ := lids k j h4 h3
        rcases sl with sl | sl
        · have L : c3.Le (c.back ids c3 Im4) (remap ids st.length) := ⟨sl, fun _ _ => rfl, lids⟩
          exact hbr.mono L h2 hσ (fun _ _ => rfl) fun s hs => ⟨i2 _, sl _⟩
        · have hns := sl x (List.mem_of_getElem? h1)
          cases x with
          | gone => simp only [mapIdB, Option.some.injEq] at h2; subst h2; trivial
          | arr e t xs z =>
            simp only [mapIdB, Option.some.injEq] at h2; subst h2
            simp only [BlkR, hσ] at hbr ⊢
            split at hbr
            · exact hbr
            · rename_i s hs
              obtain ⟨a1, a2, a3, a4, a5, a6, cur, a7, a8, a9, a10⟩ := hbr
              exact ⟨a1, a2, a3, a4, fun hz => i4 _ (a5 hz) (newb k s h4 hs), fun hz hi => a6 hz (i2 _ hi), cur, a7, a8, a9.mono fun _ _ h => h.noSl (by simpa [hasSlB] using hns), a10⟩
          | box e h' z =>
            simp only [mapIdB, Option.map_eq_some_iff] at h2
            obtain ⟨h2, e2, rfl⟩ := h2
            simp only [BlkR, hσ] at hbr ⊢
            obtain ⟨s, cur, hs, a1, a2, a3, a4, a5⟩ := hbr
            exact ⟨s, cur, hs, a1, fun hz => i4 _ (a2 hz) (newb k s h4 hs), fun hz hi => a3 hz (i2 _ hi), a4.noSl lids (by simpa [hasSlB] using hns) e2, by rw [a5, hsz_mapId _ e2]⟩
    inj := fun i j x y s s' hne hx hy lx ly hs hs' => by
      have lv : ∀ {f : Nat → Option Nat} {x y : Blk}, mapIdB f x = some y → y.live = x.live := by
        intro f x y e
        cases x with
        | arr e1 t xs z => simp only [mapIdB, Option.some.injEq] at e; subst e; rfl
        | box e1 h z => simp only [mapIdB, Option.map_eq_some_iff] at e; obtain ⟨_, _, rfl⟩ := e; rfl
        | gone => simp only [mapIdB, Option.some.injEq] at e; subst e; rfl
      have ab : ∀ (i j : Nat) (x : Blk) (s s' : Pl), i < c.n → i ∉ ids → st[i]? = some x → x.live = true → c.σ i = some s → j < c3.n → c3.σ j = some s' → s.b ≠ s'.b := by
        intro i j x s s' h1 h2 h3 h4 hs hj hs' e
        rcases newb j s' hj hs' with ⟨id, hm, s2, k1, k2⟩ | k1
        · exact apart i x s h2 h3 (by rintro rfl; simp [Blk.live] at h4) hs id hm s2 k1 (k2.trans e.symm)
        · have := (S.own i s h1 hs).2; omega
      rcases where' i x hx with ⟨h1, h2, h3⟩ | ⟨k, x', h1, h2, h3, h4⟩ <;> rcases where' j y hy with ⟨g1, g2, g3⟩ | ⟨m, y', g1, g2, g3, g4⟩
      · rw [σold i h1] at hs; rw [σold j g1] at hs'
        exact S.inj i j x y s s' hne h3 g3 lx ly hs hs'
      · rw [σold i h1] at hs; rw [(lids m j g4 g3).2] at hs'
        exact ab i m x s s' h1 h2 h3 lx hs g4 hs'
      · rw [σold j g1] at hs'; rw [(lids k i h4 h3).2] at hs
        exact Ne.symm (ab j k y s' s g1 g2 g3 ly hs' h4 hs)
      · rw [(lids k i h4 h3).2] at hs; rw [(lids m j g4 g3).2] at hs'
        refine S3.inj k m x' y' s s' (fun e => hne ?_) h1 g1 (by rw [← lv h2]; exact lx) (by rw [← lv g2]; exact ly) hs hs'
        subst e; rw [h3] at g3; exact Option.some.inj g3
    g := S3.g
    low := S3.low
    own := fun i s hi hs => by
      by_cases hlt : i < c.n
      · rw [σold i hlt] at hs
        obtain ⟨h1, h2⟩ := S.own i s hlt hs
        exact ⟨h1, Nat.lt_of_lt_of_le h2 nx4.size⟩
      · rw [σnew i hlt] at hs
        simp only [Cx.back] at hi
        exact S3.own _ s (by omega) hs }

def FnDoes (P:Program) (f:Nat) (args:Array Value) (w:World) (R:Value→World→Prop):Prop :=
 (∃ v w',(callFunc f args).run P w=.ok (.value v) w'∧R v w') ∨
 (∃ g args' w',(callFunc f args).run P w=.ok (.enter g args') w'∧Calls P g args' w' fun e w''=>∃ v,e=.returned v∧R v w'')
theorem FnDoes.mono {P:Program} {f:Nat} {args:Array Value} {w:World} {R R':Value→World→Prop} (h:FnDoes P f args w R) (hr:∀ v w',R v w'→R' v w'):FnDoes P f args w R':=by
 rcases h with ⟨v,w',e,r⟩ | ⟨g,a,w',e,r⟩
 ·exact .inl ⟨v,w',e,hr _ _ r⟩
 ·exact .inr ⟨g,a,w',e,r.mono fun _ _ ⟨v,h1,h2⟩=>⟨v,h1,hr _ _ h2⟩⟩
theorem FnDoes.of_calls {P:Program} {f:Nat} {fn:Func} (hf:P.funcs[f]?=some fn) (hn:(fn.name == "runtime.NumGoroutine")=false) (hb:fn.body.isNone=false) {args:Array Value} {w:World} {R:Value→World→Prop}
  (h:Calls P f args w fun e w''=>∃ v,e=.returned v∧R v w''):FnDoes P f args w R:=by
 refine .inr ⟨f,args,w,?_,h⟩
 have h1:fn.name ≠ "runtime.NumGoroutine":=by simpa using hn
 have h2:¬ fn.body=none:=by intro e; simp [e] at hb
 simp [callFunc,hf,h1,h2]
def FnSnd (gd : Gd) (P : Program) (f : Nat) (args : List HV) (loans : List Blk) (res : HV) (st' : List Blk) : Prop :=
  ∀ (c : Cx) (vs : List Value), SG gd c loans → HVL c args vs →
    FnDoes P f vs.toArray c.w fun v w' => ∃ c', c'.w = w' ∧ Nx c c' ∧ SG gd c' st' ∧ HVR c' res v
def CalleeOK (gd:Gd) (P:Program) (f:Nat) (k:Callee):Prop :=
 ∀ {α:Type} {r:α} (args:List HV) (loans:List Blk) (K:HV→List Blk→Option α),k.run args loans K=some r→∃ res st',K res st'=some r∧FnSnd gd P f args loans res st'
def CTOK (gd:Gd) (P:Program) (C:CT):Prop:=∀ f k,lk C f=some k→CalleeOK gd P f k

section ops
variable {gd:Gd} {P:Program} {E:Env} {α:Type} {r:α} {st:List Blk}
theorem HVL.mono {c c' : Cx} {f : Nat → Option Nat} (L : c.Le c' f) : ∀ {hs hs' : List HV} {vs : List Value}, HVL c hs vs → mapIdL f hs = some hs' → HVL c' hs' vs
  | [], _, _, hh, e => by simp only [mapIdL, Option.some.injEq] at e; subst e; simpa only [HVL] using hh
  | h :: hs, _, vs, hh, e => by
    simp only [mapIdL] at e
    split at e
    · rename_i x xs ex exs
      simp only [Option.some.injEq] at e; subst e
      obtain ⟨v, rest, e1, h1, h2⟩ := hh.cons
      exact ⟨v, rest, e1, h1.mono L ex, h2.mono L exs⟩
    · simp at e
theorem callV_ok {C : CT} (hC : CTOK gd P C) {f : Nat} {tys : List (Option Ty)} {args : List HV} {K : Bool → HV → List Blk → Option α} (hk : callV C f tys args st K = some r) :
    ∃ p v st', K p v st' = some r ∧ (p = true → st' = st) ∧ ∀ (c : Cx) (vs : List Value), SG gd c st → HVL c args vs →
      FnDoes P f vs.toArray c.w fun val w' => ∃ c', c'.w = w' ∧ Nx c c' ∧ SG gd c' st' ∧ HVR c' v val := by
  unfold callV at hk
  split at hk
  · simp at hk
  · rename_i k hlk
    split at hk
    · simp at hk
    · rename_i args1 hpass
      generalize hids : loanIds k.loan args1 = ids at hk
      generalize hfz : snIdsL st k.loan args = fz at hk
      have hfz2 : ∀ id ∈ snIdsL st k.loan args, id ∈ fz := fun id h => by rw [← hfz]; exact h
      split at hk
      · rename_i loans hn hdis hblk
        split at hk
        · rename_i args2 loans2 ha2 hl2
          obtain ⟨res, st', hk, hsnd⟩ := hC f k hlk args2 loans2 _ hk
          split at hk
          · rename_i bs res' hle hbs hres
            have hlive : ∀ id ∈ fz, ∃ x, st[id]? = some x ∧ x ≠ .gone := by rw [← hfz]; exact passL_live hpass
            have hnin : ∀ id ∈ ids, id ∉ fz := fun id hi hf => by
              have := List.all_eq_true.1 hdis id hi
              simp [hf] at this
            have hblk1 : blksAt (freezeAt st fz) ids = some loans := by
              have key : ∀ (ids : List Nat), (∀ id ∈ ids, id ∉ fz) → blksAt (freezeAt st fz) ids = blksAt st ids := by
                intro ids
                induction ids with
                | nil => intro _; rfl
                | cons i r ih =>
                  intro h
                  simp only [blksAt]
                  rw [ih fun id hm => h id (by simp [hm]), freezeAt_get, if_neg (h i (by simp))]
              rw [key ids hnin, hblk]
            have base : ∀ (c : Cx) (vs : List Value), SG gd c st → HVL c args vs → FnDoes P f vs.toArray c.w fun val w' => ∃ c3, c3.w = w' ∧ Nx ((c.froze fz).lend ids) c3 ∧ SG gd c3 st' ∧ HVR c3 res val := by
              intro c vs S hh
              obtain ⟨nx1, S1⟩ := S.froze fz hlive
              have h1 := passL_ok (ids := fz) S.toSR hh hpass hfz2
              exact hsnd _ vs (S1.lend hn hblk1 hl2) (h1.mono Cx.lend_le ha2)
            have hthaw : (hasSlH res = false ∧ ∀ x ∈ st', hasSlB x = false) ∨ fz = [] → ∃ p v st'', K p v st'' = some r ∧ (p = true → st'' = st) ∧ ∀ (c : Cx) (vs : List Value), SG gd c st → HVL c args vs →
                FnDoes P f vs.toArray c.w fun val w' => ∃ c', c'.w = w' ∧ Nx c c' ∧ SG gd c' st'' ∧ HVR c' v val := by
              intro hno
              have hk' : K st'.isEmpty res' (writeAt st ids (bs.take ids.length) ++ bs.drop ids.length) = some r := by
                rcases hno with ⟨h1, h2⟩ | h1
                · have : (hasSlH res || st'.any hasSlB) = false := by
                    rw [h1, Bool.false_or, List.any_eq_false]
                    intro x hx; simp [h2 x hx]
                  rw [this] at hk
                  exact hk
                · rw [h1] at hk
                  revert hk
                  generalize (hasSlH res || st'.any hasSlB) = q
                  cases q <;> exact id
              refine ⟨_, _, _, hk', fun he => ?_, fun c vs S hh => (base c vs S hh).mono fun val w' ⟨c3, e3, nx3, S3, hv3⟩ => ?_⟩
              · have : st' = [] := by simpa using he
                subst this
                have : ids = [] := by
                  have hle : ids.length ≤ 0 := by simpa using hle
                  exact List.eq_nil_of_length_eq_zero (by omega)
                subst this
                simp only [mapIdBs, Option.some.injEq] at hbs
                subst hbs
                simp [writeAt]
              · obtain ⟨q1, q2, q3⟩ := S.back hn hblk (c2 := (c.froze fz).lend ids) (c3 := c3) rfl rfl rfl (fun b h => .inl h) nx3 S3 hbs
                  (Im4 := fun b => c3.Im b ∧ (c.Im b ∨ (∃ id ∈ ids, ∃ s, c.σ id = some s ∧ s.b = b) ∨ c.w.heap.size ≤ b))
                  (fun b h => ⟨nx3.le.im b (.inl h), .inl h⟩) (fun b h => h.1)
                  (fun b h hlt => by rcases h.2 with h | h | h; exact .inl h; exact .inr h; omega)
                  (fun b h h2 => ⟨h, .inr h2⟩) (by
                    rcases hno with ⟨_, h2⟩ | h1
                    · exact .inr h2
                    · refine .inl fun b h => ⟨h, ?_⟩
                      rcases nx3.imnew b h with h | ⟨id, s, h2, h3, h4⟩ | h
                      · rcases h with h | ⟨id, hm, _⟩
                        · exact .inl h
                        · rw [h1] at hm; simp at hm
                      · have hid : id < ids.length := h2
                        simp only [Cx.lend, List.getElem?_eq_getElem hid, Option.bind_some] at h3
                        exact .inr (.inl ⟨ids[id], by simp, s, h3, h4⟩)
                      · exact .inr (.inr h))
                refine ⟨c.back ids c3 fun b => c3.Im b ∧ (c.Im b ∨ (∃ id ∈ ids, ∃ s, c.σ id = some s ∧ s.b = b) ∨ c.w.heap.size ≤ b), e3, q1, q2, ?_⟩
                rcases hno with ⟨h2, _⟩ | h1
                · exact hv3.noSl q3 h2 hres
                · have L : c3.Le (c.back ids c3 fun b => c3.Im b ∧ (c.Im b ∨ (∃ id ∈ ids, ∃ s, c.σ id = some s ∧ s.b = b) ∨ c.w.heap.size ≤ b)) (remap ids st.length) := by
                    refine ⟨fun b h => ⟨h, ?_⟩, fun _ _ => rfl, q3⟩
                    rcases nx3.imnew b h with h | ⟨id, s, h2, h3, h4⟩ | h
                    · rcases h with h | ⟨id, hm, _⟩
                      · exact .inl h
                      · rw [h1] at hm; simp at hm
                    · have hid : id < ids.length := h2
                      simp only [Cx.lend, List.getElem?_eq_getElem hid, Option.bind_some] at h3
                      exact .inr (.inl ⟨ids[id], by simp, s, h3, h4⟩)
                    · exact .inr (.inr h)
                  exact hv3.mono L hres
            by_cases hcase : (hasSlH res || st'.any hasSlB) = true ∧ fz ≠ []
            · obtain ⟨hsl, hfe⟩ := hcase
              have hk' : K false res' (writeAt (freezeAt st fz) ids (bs.take ids.length) ++ bs.drop ids.length) = some r := by
                rw [hsl] at hk
                cases fz with
                | nil => exact absurd rfl hfe
                | cons a b => exact hk
              refine ⟨_, _, _, hk', by simp, fun c vs S hh => (base c vs S hh).mono fun val w' ⟨c3, e3, nx3, S3, hv3⟩ => ?_⟩
              obtain ⟨nx1, S1⟩ := S.froze _ hlive
              have hlen : (freezeAt st fz).length = st.length := freezeAt_length _ _
              rw [← hlen] at hbs hres
              obtain ⟨q1, q2, q3⟩ := S1.back hn hblk1 (c2 := (c.froze fz).lend ids) (c3 := c3) rfl rfl rfl (fun b h => h) nx3 S3 hbs
                (Im4 := c3.Im) (fun b h => nx3.le.im b h) (fun b h => h)
                (fun b h hlt => by
                  rcases nx3.imnew b h with h | ⟨id, s, h2, h3, h4⟩ | h
                  · exact .inl h
                  · have hid : id < ids.length := h2
                    simp only [Cx.lend, List.getElem?_eq_getElem hid, Option.bind_some] at h3
                    exact .inr ⟨ids[id], by simp, s, h3, h4⟩
                  · have : c.w.heap.size ≤ b := h
                    have : b < c.w.heap.size := hlt
                    omega)
                (fun b h _ => h) (.inl fun b h => h)
              have L : c3.Le ((c.froze fz).back ids c3 c3.Im) (remap ids (freezeAt st fz).length) := ⟨fun b h => h, fun _ _ => rfl, q3⟩
              exact ⟨(c.froze fz).back ids c3 c3.Im, e3, nx1.trans q1, q2, hv3.mono L hres⟩
            · by_cases hfe : fz = []
              · exact hthaw (.inr hfe)
              · refine hthaw (.inl ?_)
                have : ¬ (hasSlH res || st'.any hasSlB) = true := fun h => hcase ⟨h, hfe⟩
                simp only [Bool.or_eq_true, not_or, Bool.not_eq_true] at this
                refine ⟨this.1, fun x hx => ?_⟩
                have := List.any_eq_false.1 this.2 x hx
                simpa using this
          · simp at hk
        · simp at hk
      · simp at hk
theorem step_call {C : CT} (hC : CTOK gd P C) {o : Oper} {cl : Call} {fv : Operand} (ho : o.op = .call cl) (hc : cl.callee = .value fv) {hs : List HV} {tys : List (Option Ty)} {K : Bool → HV → List Blk → Option α}
    (hk : (match hs with
      | .fn f caps :: args => callV C f tys (args ++ caps) st K
      | _ => none) = some r) : Step gd P o hs st K r := by
  split at hk
  · rename_i f caps args
    obtain ⟨p, v, st', h1, h2, h3⟩ := callV_ok hC hk
    refine ⟨p, v, st', h1, fun c ρ S hh => ?_, h2, .none (by simp [wrB, ho])⟩
    have eo : o.op.operands.toList.map ρ = ρ fv :: cl.args.toList.map ρ := by rw [ho]; simp [Op.operands, Call.operands, hc]
    rw [eo] at hh
    obtain ⟨v0, rest, e0, hf, hrest⟩ := hh.cons
    simp only [List.cons.injEq] at e0
    obtain ⟨rfl, rfl⟩ := e0
    rw [HVR.cell (by simp) (by simp) rfl] at hf
    simp only [HC, List.cons.injEq, and_true] at hf
    obtain ⟨⟨cvs, e1, hcap⟩, _⟩ := hf
    have happ : ∀ (as : List HV) (vs : List Value), HVL c as vs → HVL c (as ++ caps) (vs ++ cvs) := by
      have hcaps : ∀ (cs : List HV) (vs : List Value), HVs c cs vs → HVL c cs vs := by
        intro cs
        induction cs with
        | nil => intro vs h; simpa only [HVL, HVs] using h
        | cons q qs ih =>
          intro vs h
          simp only [HVs] at h
          obtain ⟨v, r, e, g1, g2, g3⟩ := h
          refine ⟨v, r, e, ?_, ih r g3⟩
          cases q <;> first | trivial | exact ⟨g1, g2⟩ | (simp [HC] at g1)
      intro as
      induction as with
      | nil => intro vs h; simp only [HVL] at h; subst h; simpa using hcaps caps cvs hcap
      | cons q qs ih =>
        intro vs h
        obtain ⟨v, r, e, g1, g2⟩ := h.cons
        exact ⟨v, r ++ cvs, by rw [e]; rfl, g1, ih r g2⟩
    have hd := h3 c _ S (happ args _ hrest)
    have hrun : (execOp ρ o).run P c.w = (callFunc f (cl.args.toList.map ρ ++ cvs).toArray).run P c.w := by
      have : (cl.args.toList.map ρ ++ cvs).toArray = cl.args.map ρ ++ cvs.toArray := by
        rw [← List.toArray_appendList, ← Array.toList_map]
        simp
      rw [this]
      simp [execOp, ho, resolve, hc, e1, Deferred.ofValue, invoke]
    rcases hd with ⟨v, w', e, hr⟩ | ⟨g, a, w', e, hr⟩
    · exact .inl ⟨v, w', by rw [hrun, e], hr⟩
    · exact .inr (.inr ⟨g, a, w', by rw [hrun, e], hr⟩)
  · simp at hk
end ops
end Go.Proofs.YtnhbcpmmdblkjaaDoorAm

namespace Go.Proofs.YtnhbcpmmdblkjaaDoorAm
open Go

section ops
variable {gd:Gd} {P:Program} {E:Env} {α:Type} {r:α} {st:List Blk}

theorem step_mv {o : Oper} {x : Operand} (ho : o.op = .move x ∨ o.op = .assign x) {h : HV} {K : Bool → HV → List Blk → Option α}
    (hk : (match h with
    | .nil => match lk E.sl o.type with
      | some (e, t) => K false (.own st.length) (st ++ [.arr e t [] false])
      | none => none
    | h => K true h st) = some r) : Step gd P o [h] st K r := by
  split at hk
  · split at hk
    · exact step_nil ho hk
    · simp at hk
  · exact step_move ho hk
theorem step_pk {o : Oper} {x y z : Operand} (ho : o.op = .pick x y z) {b : Bool} {h h' : HV} {K : Bool → HV → List Blk → Option α}
    (hk : (match pickIv b h h' with
    | some h => K true h st
    | none => match (b : Bool) with
      | true => K true h st
      | false => K true h' st) = some r) : Step gd P o [.iv .bool b, h, h'] st K r := by
  split at hk
  · rename_i g hg
    unfold pickIv at hg
    split at hg
    · rename_i t u t' u'
      split at hg
      · rename_i y' hy
        obtain ⟨e, hy⟩ := castTo_eq hy
        subst e; simp only at hy; subst hy
        simp only [Option.some.injEq] at hg; subst hg
        cases b with
        | true => exact step_pick (b := true) ho (by exact hk)
        | false => exact step_pick (b := false) ho (by exact hk)
      · simp at hg
    · simp at hg
  · exact step_pick ho hk
theorem stepV_ok (hE:EnvOK P E) {C:CT} (hC:CTOK gd P C) {o:Oper} {hs:List HV} {K:Bool→HV→List Blk→Option α} (hk:stepV E C o hs st K=some r):Step gd P o hs st K r:=by
 unfold stepV at hk
 split at hk
 ·exact step_move (.inl ‹_›) hk
 ·exact step_mv (.inr ‹_›) hk
 ·exact step_pk ‹_› hk
 ·exact step_alloc hE ‹_› hk
 ·exact step_box hE ‹_› hk
 ·exact step_build hE ‹_› hk
 ·exact step_buildSlice hE ‹_› hk
 ·exact step_load hE ‹_› hk
 ·exact step_store hE ‹_› hk
 ·exact step_nilCheck ‹_› hk
 ·exact step_bin hE ‹_› hk
 ·exact step_un ‹_› hk
 ·exact step_convert hE ‹_› hk
 ·exact step_makeFunc ‹_› hk
 ·exact step_makeSlice hE ‹_› hk
 ·rename_i ho
  exact step_slice hE ho hk fun id l h m hx hsp hc=>by subst hx; exact step_clip hE ho hsp hc
 ·exact step_fieldAddr hE ‹_› hk
 ·exact step_indexAddr hE ‹_› hk
 ·exact step_index hE ‹_› hk
 ·exact step_extract ‹_› hk
 ·split at hk
  ·exact step_len hE ‹_› ‹_› hk
  ·exact step_append hE ‹_› ‹_› hk
  ·exact step_copy hE ‹_› ‹_› hk
  ·exact step_max ‹_› ‹_› hk
  ·exact step_min ‹_› ‹_› hk
  ·exact step_call hC ‹_› ‹_› hk
  ·simp at hk
 ·simp at hk
end ops
end Go.Proofs.YtnhbcpmmdblkjaaDoorAm

namespace Go.Proofs.YtnhbcpmmdblkjaaDoorAm
open Go

structure AR (gd:Gd) (c:Cx) (S:St) (a:Act):Prop where
 len:S.slots.length=a.tmps.size
 slots:∀ (t:Nat) h,S.slots[t]?=some h→∃ v,a.tmps[t]?=some v∧HVR c h v
 store:SG gd c S.store
 defers:a.defers=[]

section ops
variable {gd:Gd} {P:Program} {E:Env} {α:Type} {r:α} {st:List Blk}

theorem opnd_ok {c : Cx} {S : St} {a : Act} {x : Operand} {h : HV} (e : opnd S x = some h) (hs : ∀ t, x = .tmp t → ∀ g, S.slots[t]? = some g → ∃ v, a.tmps[t]? = some v ∧ HVR c g v) : HVR c h (a.eval x) := by
  cases x with
  | tmp t =>
    obtain ⟨v, e1, e2⟩ := hs t rfl h e
    simpa [Act.eval, Array.getD_eq_getD_getElem?, e1] using e2
  | const v =>
    simp only [opnd, Act.eval] at e ⊢
    unfold constHV at e
    split at e
    · simp only [Option.some.injEq] at e; subst e; exact HVR.int.2 rfl
    · simp only [Option.some.injEq] at e; subst e; exact HVR.bool.2 rfl
    · simp only [Option.some.injEq] at e; subst e; exact HVR.str.2 rfl
    · simp only [Option.some.injEq] at e; subst e; exact HVR.nil.2 rfl
    · simp only [Option.some.injEq] at e; subst e; trivial
    · simp only [Option.some.injEq] at e; subst e; rw [HVR.cell (by simp) (by simp) rfl]; exact ⟨by simp [HC], rfl⟩
    · simp at e
  | func f =>
    simp only [opnd, Act.eval, Option.some.injEq] at e ⊢
    subst e
    rw [HVR.cell (by simp) (by simp) rfl]
    exact ⟨by simp [HC, HVs], rfl⟩
  | global g => simp [opnd] at e
theorem opndL_ok {c : Cx} {S : St} {a : Act} : ∀ {xs : List Operand} {hs : List HV}, opndL S xs = some hs → (∀ t, .tmp t ∈ xs → ∀ g, S.slots[t]? = some g → ∃ v, a.tmps[t]? = some v ∧ HVR c g v) → HVL c hs (xs.map a.eval)
  | [], _, e, _ => by simp only [opndL, Option.some.injEq] at e; subst e; simp [HVL]
  | x :: r, _, e, hs => by
    simp only [opndL] at e
    split at e
    · rename_i h hr eh er
      simp only [Option.some.injEq] at e; subst e
      exact ⟨_, _, rfl, opnd_ok eh fun t ht => hs t (by simp [ht]), opndL_ok er fun t ht => hs t (by simp [ht])⟩
    · simp at e

def RunAt (gd : Gd) (P : Program) (ops : Array Oper) (i : Nat) (p : Bool) (S S' : St) : Prop :=
  ∃ o v, ops[i]? = some o ∧ S' = S.put o.dst v S'.store ∧ (p = true → S'.store = S.store) ∧
    (((∃ hs, opndL S o.op.operands.toList = some hs ∧ OpOK gd P o hs S.store v S'.store) ∧
        ∀ j want, o.guard = some (j, want) → ∃ d, dstOf ops j = some d ∧ S.slots[d]? = some (.iv .bool want)) ∨
      (v = .skip ∧ S'.store = S.store ∧ ∃ j want, o.guard = some (j, want) ∧ ∃ d, dstOf ops j = some d ∧ (S.slots[d]? = some (.iv .bool (!want)) ∨ S.slots[d]? = some .skip)))
theorem RunAt.step {ops : Array Oper} {i : Nat} {p : Bool} {S S' : St} (h : RunAt gd P ops i p S S') {o : Oper} (ho : ops[i]? = some o) {c : Cx} {a : Act} (hS : SG gd c S.store)
    (hl : ∀ t ∈ o.looksAt ops, ∀ g, S.slots[t]? = some g → ∃ v, a.tmps[t]? = some v ∧ HVR c g v) {K : Act → World → Prop} {Q : Exit → Act → World → Prop}
    (hk : ∀ c' h' v, Nx c c' → SG gd c' S'.store → HVR c' h' v → S' = S.put o.dst h' S'.store → K (a.put o.dst v) c'.w) : wpOp P ops Q i K a c.w := by
  obtain ⟨o', v, ho', hS', hp, hcase⟩ := h
  rw [ho] at ho'; cases ho'
  unfold wpOp
  simp only [ho]
  rcases hcase with ⟨⟨hs, h1, h2⟩, hgd⟩ | ⟨rfl, hst, j, want, hgd, d, hd, hv⟩
  · have hw : Region.wanted o (yielded ops a.tmps) = true := by
      unfold Region.wanted
      cases hg : o.guard with
      | none => rfl
      | some q =>
        obtain ⟨j, want⟩ := q
        obtain ⟨d, hd, hv⟩ := hgd j want hg
        have hdo : (ops[j]?).bind (·.dst) = some d := by
          unfold dstOf at hd
          split at hd
          · rename_i oj hj; simp [hj, hd]
          · simp at hd
        obtain ⟨val, e1, e2⟩ := hl d (by simp [Oper.looksAt, hg, hdo]) _ hv
        rw [HVR.bool] at e2; subst e2
        simp [yielded, hdo, e1]
    rw [if_pos hw]
    refine .inl ((h2 c a.eval hS (opndL_ok h1 fun t ht => hl t ?_)).wp fun val w' ⟨c', e, nx, S1, hv⟩ => ?_)
    · exact List.mem_append_left _ (List.mem_filterMap.2 ⟨.tmp t, ht, rfl⟩)
    · subst e; exact hk c' v val nx S1 hv hS'
  · have hw : ¬ Region.wanted o (yielded ops a.tmps) = true := by
      unfold Region.wanted
      have hdo : (ops[j]?).bind (·.dst) = some d := by
        unfold dstOf at hd
        split at hd
        · rename_i oj hj; simp [hj, hd]
        · simp at hd
      simp only [hgd]
      have hll : d ∈ o.looksAt ops := by simp [Oper.looksAt, hgd, hdo]
      rcases hv with hv | hv
      · obtain ⟨val, e1, e2⟩ := hl d hll _ hv
        rw [HVR.bool] at e2; subst e2
        simp [yielded, hdo, e1]
      · obtain ⟨val, e1, e2⟩ := hl d hll _ hv
        rw [HVR.cell (by simp) (by simp) rfl] at e2
        simp only [HC, List.cons.injEq, and_true] at e2
        obtain ⟨rfl, _⟩ := e2
        simp [yielded, hdo, e1, undef]
    rw [if_neg hw]
    exact hk c .skip undef (.refl c) (by rw [hst]; exact hS) (by rw [HVR.cell (by simp) (by simp) rfl]; exact ⟨by simp [HC], rfl⟩) hS'
theorem AR.put {c c' : Cx} {S : St} {a : Act} (h : AR gd c S a) (nx : Nx c c') {dst : Option Nat} {v : HV} {val : Value} {st' : List Blk} (hs : SG gd c' st') (hv : HVR c' v val) : AR gd c' (S.put dst v st') (a.put dst val) where
  len := by cases dst <;> simp [St.put, Act.put, h.len]
  slots := fun t g hg => by
    have old : ∀ g, S.slots[t]? = some g → ∃ v, a.tmps[t]? = some v ∧ HVR c' g v := fun g hg => by
      obtain ⟨v, e1, e2⟩ := h.slots t g hg
      exact ⟨v, e1, e2.mono nx.le (mapId_some _)⟩
    cases dst with
    | none => exact old g hg
    | some d =>
      simp only [St.put, List.getElem?_set] at hg
      simp only [Act.put, Array.getElem?_setIfInBounds]
      split at hg
      · rename_i e; subst e
        split at hg
        · rename_i hlt
          cases hg
          exact ⟨val, by simp [← h.len, hlt], hv⟩
        · simp at hg
      · rename_i e
        rw [if_neg e]
        exact old g hg
  store := hs
  defers := by cases dst <;> exact h.defers

def Chain (gd:Gd) (P:Program) (ops:Array Oper):List Nat→List Bool→St→St→Prop
 | [],[],S,S'=>S'=S
 | i::r,p::ps,S,S'=>∃ S1,RunAt gd P ops i p S S1∧Chain gd P ops r ps S1 S'
 | _,_,_,_=>False
theorem slot_lit {S:St} {d:Nat} {h:HV} (e:S.slots[d]?=some h):({ S with slots:=S.slots.set d h }:St)=S:=by
 obtain ⟨sl,st⟩:=S
 congr
 apply List.ext_getElem?
 intro k
 rw [List.getElem?_set]
 split
 ·rename_i hk; subst hk
  have:=(List.getElem?_eq_some_iff.1 e).1
  simp [this]
  exact (List.getElem?_eq_some_iff.1 e).2.symm
 ·rfl
theorem put_store (S:St) (d:Option Nat) (v:HV) (st:List Blk):(S.put d v st).store=st:=by cases d <;> rfl
theorem runIx_ok (hE : EnvOK P E) {C : CT} (hC : CTOK gd P C) {ops : Array Oper} : ∀ (l : List Nat) (ps : List Bool) (S : St) (K : List Bool → St → Option α), runIx E C ops l ps S K = some r →
    ∃ qs S', K (ps.reverse ++ qs) S' = some r ∧ Chain gd P ops l qs S S'
  | [], ps, S, K, h => ⟨[], S, by simpa [runIx] using h, rfl⟩
  | i :: rest, ps, S, K, h => by
    simp only [runIx] at h
    split at h
    · simp at h
    · rename_i o ho
      have perf : ∀ S0 : St, (match opndL S0 o.op.operands.toList with
          | none => none
          | some hs => stepV E C o hs S0.store fun p v st => runIx E C ops rest (p :: ps) (S0.put o.dst v st) K) = some r →
          (∀ j want, o.guard = some (j, want) → ∃ d, dstOf ops j = some d ∧ S0.slots[d]? = some (.iv .bool want)) →
          ∃ qs S', K (ps.reverse ++ qs) S' = some r ∧ Chain gd P ops (i :: rest) qs S0 S' := by
        intro S0 h hgd
        split at h
        · simp at h
        · rename_i hs hhs
          obtain ⟨p, v, st', h1, h2, h3, _⟩ := stepV_ok hE hC h
          obtain ⟨qs, S', k1, k2⟩ := runIx_ok hE hC rest _ _ _ h1
          refine ⟨p :: qs, S', by simpa using k1, S0.put o.dst v st', ⟨o, v, ho, by rw [put_store], ?_, .inl ⟨⟨hs, hhs, by rw [put_store]; exact h2⟩, hgd⟩⟩, k2⟩
          intro hp; rw [put_store]; exact h3 hp
      have skp : ∀ S0 : St, runIx E C ops rest (true :: ps) (S0.put o.dst .skip S0.store) K = some r →
          (∃ j want, o.guard = some (j, want) ∧ ∃ d, dstOf ops j = some d ∧ (S0.slots[d]? = some (.iv .bool (!want)) ∨ S0.slots[d]? = some .skip)) →
          ∃ qs S', K (ps.reverse ++ qs) S' = some r ∧ Chain gd P ops (i :: rest) qs S0 S' := by
        intro S0 h hgd
        obtain ⟨qs, S', k1, k2⟩ := runIx_ok hE hC rest _ _ _ h
        exact ⟨true :: qs, S', by simpa using k1, S0.put o.dst .skip S0.store, ⟨o, .skip, ho, by rw [put_store], by simp [put_store], .inr ⟨rfl, by rw [put_store], hgd⟩⟩, k2⟩
      split at h
      · rename_i hg
        exact perf S h fun j want e => by rw [hg] at e; simp at e
      · rename_i j want hg
        split at h
        · rename_i d b hd
          simp only [Option.bind_eq_some_iff, Option.map_eq_some_iff, Prod.mk.injEq] at hd
          obtain ⟨d', hd1, h', hd2, e1, e2⟩ := hd
          subst e1; subst e2
          cases b <;> cases want <;> simp only at h
          · rw [slot_lit hd2] at h
            exact perf S h fun j' w' e => by rw [hg] at e; cases e; exact ⟨d', hd1, hd2⟩
          · rw [slot_lit hd2] at h
            exact skp S h ⟨j, true, hg, d', hd1, .inl hd2⟩
          · rw [slot_lit hd2] at h
            exact skp S h ⟨j, false, hg, d', hd1, .inl hd2⟩
          · rw [slot_lit hd2] at h
            exact perf S h fun j' w' e => by rw [hg] at e; cases e; exact ⟨d', hd1, hd2⟩
        · rename_i d hd
          simp only [Option.bind_eq_some_iff, Option.map_eq_some_iff, Prod.mk.injEq] at hd
          obtain ⟨d', hd1, h', hd2, e1, e2⟩ := hd
          subst e1; subst e2
          exact skp S h ⟨j, want, hg, d', hd1, .inr hd2⟩
        · simp at h
theorem Chain.wp {ops : Array Oper} {Q : Exit → Act → World → Prop} : ∀ (l : List Nat) (qs : List Bool) (S S' : St), Chain gd P ops l qs S S' → ∀ (c : Cx) (a : Act), AR gd c S a →
    (∀ c' a', Nx c c' → AR gd c' S' a' → Q .normal a' c'.w) → wpOps P ops Q l a c.w
  | [], [], S, S', h, c, a, A, hQ => by
    simp only [Chain] at h; subst h
    exact hQ c a (.refl c) A
  | i :: r, p :: ps, S, S', h, c, a, A, hQ => by
    obtain ⟨S1, h1, h2⟩ := h
    rw [wpOps_cons]
    obtain ⟨o, ho⟩ : ∃ o, ops[i]? = some o := ⟨h1.choose, h1.choose_spec.choose_spec.1⟩
    refine h1.step ho A.store (fun t _ g hg => A.slots t g hg) fun c' h' v nx S1' hv e => ?_
    have A' := A.put nx (dst := o.dst) S1' hv
    rw [← e] at A'
    exact Chain.wp r ps S1 S' h2 c' _ A' fun c2 a2 nx2 A2 => hQ c2 a2 (nx.trans nx2) A2
  | [], _ :: _, _, _, h, _, _, _, _ | _ :: _, [], _, _, h, _, _, _, _ => by simp [Chain] at h
end ops
end Go.Proofs.YtnhbcpmmdblkjaaDoorAm

namespace Go.Proofs.YtnhbcpmmdblkjaaDoorAm
open Go

structure Nz (k:Nat) (c c':Cx):Prop where
 im:∀ b,c.Im b→c'.Im b
 imheap:∀ b,c.Im b→c'.w.heap[b]?=c.w.heap[b]?
 ids:∀ i,i < k→i < c.n→i < c'.n∧c'.σ i=c.σ i
 heap:∀ b,b < c.w.heap.size→(∀ id s,id < c.n→c.σ id=some s→s.b ≠ b)→c'.w.heap[b]?=c.w.heap[b]?
 imnew:∀ b,c'.Im b→c.Im b∨(∃ id s,id < c.n∧c.σ id=some s∧s.b=b)∨c.w.heap.size≤b
 signew:∀ id s,id < c'.n→c'.σ id=some s→(∃ id' s',id' < c.n∧c.σ id'=some s'∧s'.b=s.b)∨c.w.heap.size≤s.b
 size:c.w.heap.size≤c'.w.heap.size
 os:c'.w.os=c.w.os
 tape:c'.w.tape=c.w.tape
 output:c'.w.output=c.w.output
theorem Nx.nz {c c':Cx} (h:Nx c c') (k:Nat):Nz k c c':=⟨h.le.im,h.le.heap,fun i _ hi=>h.le.ids i i hi rfl,h.heap,h.imnew,h.signew,h.size,h.os,h.tape,h.output⟩
theorem Nz.refl (k:Nat) (c:Cx):Nz k c c:=(Nx.refl c).nz k
theorem Nz.nx {c c':Cx} (h:Nz c.n c c') (hn:c.n≤c'.n):Nx c c' :=
 ⟨⟨h.im,h.imheap,fun i j hi e=>by cases e; exact h.ids i hi hi⟩,h.heap,h.imnew,h.signew,hn,h.size,h.os,h.tape,h.output⟩
theorem Nz.trans {k:Nat} {a b c:Cx} (h:Nz k a b) (g:Nz k b c):Nz k a c where
 im x hx:=g.im x (h.im x hx)
 imheap x hx:=(g.imheap x (h.im x hx)).trans (h.imheap x hx)
 ids i hk hi:=by
  obtain ⟨h1,h2⟩:=h.ids i hk hi
  obtain ⟨g1,g2⟩:=g.ids i hk h1
  exact ⟨g1,g2.trans h2⟩
 heap x hx hn:=by
  rw [g.heap x (Nat.lt_of_lt_of_le hx h.size),h.heap x hx hn]
  intro id s hid hs e
  rcases h.signew id s hid hs with ⟨id',s',h1,h2,h3⟩ | h1
  ·exact hn id' s' h1 h2 (h3.trans e)
  ·omega
 imnew x hx:=by
  rcases g.imnew x hx with h1 | ⟨id,s,h1,h2,h3⟩ | h1
  ·exact h.imnew x h1
  ·rcases h.signew id s h1 h2 with ⟨id',s',g1,g2,g3⟩ | g1
   ·exact .inr (.inl ⟨id',s',g1,g2,g3.trans h3⟩)
   ·exact .inr (.inr (by omega))
  ·exact .inr (.inr (Nat.le_trans h.size h1))
 signew id s hid hs:=by
  rcases g.signew id s hid hs with ⟨id',s',g1,g2,g3⟩ | g1
  ·rcases h.signew id' s' g1 g2 with ⟨i2,s2,f1,f2,f3⟩ | f1
   ·exact .inl ⟨i2,s2,f1,f2,f3.trans g3⟩
   ·exact .inr (by omega)
  ·exact .inr (Nat.le_trans h.size g1)
 size:=Nat.le_trans h.size g.size
 os:=g.os.trans h.os
 tape:=g.tape.trans h.tape
 output:=g.output.trans h.output

mutual
theorem mapId_vis {f:Nat→Option Nat}:∀ {h:HV},(∀ i ∈ idsOf h,f i=some i)→mapId f h=some h
 | .undef,_ | .skip,_ | .iv ..,_ | .nn ..,_ | .nil,_ | .ip ..,_ | .er _,_=>by simp [mapId]
 | .own id,h | .sub id _ _,h | .lp id _ _,h | .le id _ _ _,h=>by simp [mapId,h id (by simp [idsOf])]
 | .agg ps,h | .tuple ps,h | .fn _ ps,h=>by simp only [mapId,mapIdL_vis (f:=f) (hs:=ps) (by simpa only [idsOf] using h),Option.map_some]
theorem mapIdL_vis {f:Nat→Option Nat}:∀ {hs:List HV},(∀ i ∈ idsOfL hs,f i=some i)→mapIdL f hs=some hs
 | [],_=>by simp [mapIdL]
 | x::r,h=>by simp only [mapIdL,mapId_vis (h:=x) fun i hi=>h i (by simp [idsOfL,hi]),mapIdL_vis (hs:=r) fun i hi=>h i (by simp [idsOfL,hi])]
end
theorem mapIdB_vis {f:Nat→Option Nat} {b:Blk} (h:∀ i ∈ blkIds b,f i=some i):mapIdB f b=some b:=by
 cases b <;> simp only [mapIdB]
 rw [mapId_vis (by simpa only [blkIds] using h)]; rfl
mutual
theorem HC.lt {c:Cx}:∀ {h:HV} {cs:List Value},HC c h cs→∀ i ∈ idsOf h,i < c.n
 | .undef,_,_,_,hm | .skip,_,_,_,hm | .iv ..,_,_,_,hm | .nn ..,_,_,_,hm | .nil,_,_,_,hm | .ip ..,_,_,_,hm | .er _,_,_,_,hm=>by simp [idsOf] at hm
 | .own id,_,hh,i,hm=>by simp only [HC] at hh; simp only [idsOf,List.mem_singleton] at hm; exact hm ▸ hh.1
 | .sub id _ _,_,hh,i,hm=>by simp only [HC] at hh; simp only [idsOf,List.mem_singleton] at hm; exact hm ▸ hh.1
 | .lp id _ _,_,hh,i,hm=>by simp only [HC] at hh; simp only [idsOf,List.mem_singleton] at hm; exact hm ▸ hh.1
 | .le id _ _ _,_,hh,i,hm=>by simp only [HC] at hh; simp only [idsOf,List.mem_singleton] at hm; exact hm ▸ hh.1
 | .agg ps,_,hh,i,hm=>by simp only [HC] at hh; exact HCs.lt hh i (by simpa only [idsOf] using hm)
 | .tuple ps,_,hh,i,hm=>by simp [HC] at hh
 | .fn _ ps,_,hh,i,hm=>by simp only [HC] at hh; obtain ⟨_,_,h2⟩:=hh; exact HVs.lt h2 i (by simpa only [idsOf] using hm)
theorem HCs.lt {c : Cx} : ∀ {hs : List HV} {cs : List Value}, HCs c hs cs → ∀ i ∈ idsOfL hs, i < c.n
  | [], _, _, i, hm => by simp [idsOfL] at hm
  | h :: r, _, hh, i, hm => by
    simp only [HCs] at hh
    obtain ⟨c1, c2, _, _, h1, h2⟩ := hh
    simp only [idsOfL, List.mem_append] at hm
    rcases hm with hm | hm
    · exact HC.lt h1 i hm
    · exact HCs.lt h2 i hm
theorem HVs.lt {c : Cx} : ∀ {hs : List HV} {cs : List Value}, HVs c hs cs → ∀ i ∈ idsOfL hs, i < c.n
  | [], _, _, i, hm => by simp [idsOfL] at hm
  | h :: r, _, hh, i, hm => by
    simp only [HVs] at hh
    obtain ⟨v, q, _, h1, _, h2⟩ := hh
    simp only [idsOfL, List.mem_append] at hm
    rcases hm with hm | hm
    · exact HC.lt h1 i hm
    · exact HVs.lt h2 i hm
end
theorem HVR.lt {c:Cx} {h:HV} {v:Value} (hh:HVR c h v):∀ i ∈ idsOf h,i < c.n:=by
 cases h
 case undef=>intro i hm; simp [idsOf] at hm
 case tuple ps =>
  obtain ⟨vs,_,h2⟩:=hh
  intro i hm; exact HVs.lt h2 i (by simpa only [idsOf] using hm)
 all_goals exact HC.lt hh.1
theorem BlkR.lt {c : Cx} {id : Nat} {b : Blk} (h : BlkR c id b) : ∀ i ∈ blkIds b, i < c.n := by
  cases b with
  | box e q z =>
    simp only [BlkR] at h
    obtain ⟨s, cur, _, _, _, _, h2, _⟩ := h
    exact HC.lt h2
  | _ => intro i hm; simp [blkIds] at hm

theorem hide_length (V:List Nat):∀ (i:Nat) (st:List Blk),(hide V i st).length=st.length
 | _,[]=>rfl
 | i,b::r=>by simp [hide,hide_length V (i + 1) r]
theorem hide_get (V : List Nat) : ∀ (i : Nat) (st : List Blk) (k : Nat), (hide V i st)[k]? = (st[k]?).map fun b => if i + k ∈ V then b else .gone
  | _, [], _ => by simp [hide]
  | i, b :: r, 0 => by
    simp only [hide, List.getElem?_cons_zero, Nat.add_zero, Option.map_some]
    by_cases h : i ∈ V <;> simp [h]
  | i, b :: r, k + 1 => by
    simp only [hide, List.getElem?_cons_succ]
    rw [hide_get V (i + 1) r k, show i + 1 + k = i + (k + 1) by omega]
theorem unhide_length (V:List Nat):∀ (i:Nat) (st st':List Blk),st.length≤st'.length→(unhide V i st st').length=st'.length
 | _,[],st',_=>by simp [unhide]
 | i,b::r,b'::r',h=>by simp [unhide,unhide_length V (i + 1) r r' (by simpa using h)]
 | _,_::_,[],h=>by simp at h
theorem unhide_get (V : List Nat) : ∀ (i : Nat) (st st' : List Blk) (k : Nat), st.length ≤ st'.length → (unhide V i st st')[k]? = if k < st.length ∧ i + k ∉ V then st[k]? else st'[k]?
  | _, [], st', k, _ => by simp [unhide]
  | i, b :: r, b' :: r', 0, h => by
    simp only [unhide, List.getElem?_cons_zero, Nat.add_zero]
    by_cases hm : i ∈ V <;> simp [hm]
  | i, b :: r, b' :: r', k + 1, h => by
    simp only [unhide, List.getElem?_cons_succ, List.length_cons, Nat.add_lt_add_iff_right]
    rw [unhide_get V (i + 1) r r' k (by simpa using h), show i + 1 + k = i + (k + 1) by omega]
  | _, _ :: _, [], _, h => by simp at h

def Cx.hid (c:Cx) (V:List Nat) (n:Nat):Cx:=⟨c.w,c.Im,fun i=>if i ∈ V then c.σ i else none,n⟩
def Cx.unhid (c:Cx) (n m:Nat) (c':Cx):Cx:=⟨c'.w,c'.Im,fun i=>if n≤i∧i < n + m then c'.σ i else c.σ i,c.n⟩
def only (p:Nat→Prop) [DecidablePred p] (i:Nat):Option Nat:=if p i then some i else none

theorem SG.hid {gd:Gd} {c:Cx} {st:List Blk} (S:SG gd c st) {V:List Nat} {n:Nat} (hn:n≤c.n) (hV:∀ i ∈ V,i < n) (hc:∀ i ∈ V,∀ b,st[i]?=some b→∀ j ∈ blkIds b,j ∈ V) :
  c.Le (c.hid V n) (only (· ∈ V))∧SG gd (c.hid V n) (hide V 0 (st.take n)):=by
 have L:c.Le (c.hid V n) (only (· ∈ V)):=⟨fun _ h=>h,fun _ _=>rfl,fun i j hi e=>by
  simp only [only] at e
  split at e
  ·rename_i hm
   cases e
   exact ⟨hV _ hm,by simp [Cx.hid,hm]⟩
  ·simp at e⟩
 have at':∀ (k:Nat) b,(hide V 0 (st.take n))[k]?=some b→(k ∈ V∧st[k]?=some b)∨b=.gone:=by
  intro k b hk
  rw [hide_get,List.getElem?_take] at hk
  simp only [Option.map_eq_some_iff,Nat.zero_add] at hk
  obtain ⟨y,hy,e⟩:=hk
  split at hy
  ·by_cases hm:k ∈ V
   ·rw [if_pos hm] at e; subst e; exact .inl ⟨hm,hy⟩
   ·rw [if_neg hm] at e; exact .inr e.symm
  ·simp at hy
 have σin:∀ k,k ∈ V→(c.hid V n).σ k=c.σ k:=fun k hm=>by simp [Cx.hid,hm]
 refine ⟨L,{
  len:=by rw [hide_length,List.length_take,Nat.min_eq_left (by rw [S.len]; exact hn)]; rfl
  im:=S.im
  blk:=fun k b hk=>by
   rcases at' k b hk with ⟨hm,hb⟩ | rfl
   ·exact (S.blk k b hb).mono L (mapIdB_vis fun i hi=>by simp [only,hc k hm b hb i hi]) (σin k hm) (fun _ _=>rfl) fun _ _=>Iff.rfl
   ·trivial
  inj:=fun i j x y s s' hne hx hy lx ly hs hs'=>by
   rcases at' i x hx with ⟨hm,hb⟩ | rfl
   ·rcases at' j y hy with ⟨hm',hb'⟩ | rfl
    ·rw [σin i hm] at hs; rw [σin j hm'] at hs'
     exact S.inj i j x y s s' hne hb hb' lx ly hs hs'
    ·simp [Blk.live] at ly
   ·simp [Blk.live] at lx
  g:=S.g
  low:=S.low
  own:=fun id s hid hs=>by
   simp only [Cx.hid] at hs hid
   split at hs
   ·exact S.own id s (Nat.lt_of_lt_of_le hid hn) hs
   ·simp at hs }⟩

theorem SG.unhid {gd:Gd} {c:Cx} {st:List Blk} (S:SG gd c st) {V:List Nat} {n m n0:Nat} (h0:n0≤n) (hnm:n + m≤c.n) (hV:∀ i ∈ V,i < n) (hng:∀ i ∈ V,(∃ b,st[i]?=some b∧b ≠ .gone)∨∀ (j:Nat) y,j ∉ V→st[j]?=some y→y=.gone)
  {c':Cx} (nx:Nx (c.hid V n) c') {st':List Blk} (S':SG gd c' st') (hm:st'.length=n + m) (hout:∀ b ∈ st',∀ i ∈ blkIds b,i ∈ V∨(n≤i∧i < n + m))
  (hroom:∀ k,n≤k→k < n + m→st[k]?=some .gone) {B:Nat→Prop} [DecidablePred B] (hB:∀ i,B i→¬ (n≤i∧i < n + m)) (hcont:∀ (k:Nat) b,st[k]?=some b→∀ i ∈ blkIds b,B i)
  {st2:List Blk} (hl2:st2.length=c.n) (h2:∀ k,k < c.n→st2[k]?=if k ∈ V∨(n≤k∧k < n + m) then st'[k]? else st[k]?) :
  Nz n0 c (c.unhid n m c')∧SG gd (c.unhid n m c') st2∧c.Le (c.unhid n m c') (only B)∧c'.Le (c.unhid n m c') (only fun i=>i ∈ V∨(n≤i∧i < n + m)):=by
 have hcn:c'.n=n + m:=by rw [← hm]; exact S'.len.symm
 have σold:∀ i,¬ (n≤i∧i < n + m)→(c.unhid n m c').σ i=c.σ i:=fun i hi=>by simp only [Cx.unhid]; rw [if_neg hi]
 have σnew:∀ i,(n≤i∧i < n + m)→(c.unhid n m c').σ i=c'.σ i:=fun i hi=>by simp only [Cx.unhid]; rw [if_pos hi]
 have σvis:∀ i,i ∈ V→c'.σ i=c.σ i:=fun i hi=>by
  rw [(nx.le.ids i i (hV i hi) rfl).2]; simp [Cx.hid,hi]
 have σV:∀ i,i ∈ V→(c.unhid n m c').σ i=c'.σ i:=fun i hi=>by
  rw [σold i (fun h=>by have:=hV i hi; omega),σvis i hi]
 have inner:∀ k s,k < n→(c.hid V n).σ k=some s→k ∈ V∧c.σ k=some s:=by
  intro k s hk hs
  simp only [Cx.hid] at hs
  split at hs
  ·rename_i h; exact ⟨h,hs⟩
  ·simp at hs
 have newb:∀ i s,i < c'.n→c'.σ i=some s→(∃ k ∈ V,∃ s',c.σ k=some s'∧s'.b=s.b)∨c.w.heap.size≤s.b:=by
  intro i s hi hs
  rcases nx.signew i s hi hs with ⟨k,s',h1,h2,h3⟩ | h1
  ·obtain ⟨g1,g2⟩:=inner k s' h1 h2
   exact .inl ⟨k,g1,s',g2,h3⟩
  ·exact .inr h1
 have nz:Nz n0 c (c.unhid n m c'):={
  im:=nx.le.im
  imheap:=nx.le.heap
  ids:=fun i hk hi=>⟨hi,σold i (by omega)⟩
  heap:=fun b hb hno=>nx.heap b hb fun k s hk hs=>by
   obtain ⟨g1,g2⟩:=inner k s hk hs
   have hk:k < n:=hk
   exact hno k s (by omega) g2
  imnew:=fun b hb=>by
   rcases nx.imnew b hb with h | ⟨k,s,h1,h2,h3⟩ | h
   ·exact .inl h
   ·obtain ⟨g1,g2⟩:=inner k s h1 h2
    have h1:k < n:=h1
    exact .inr (.inl ⟨k,s,by omega,g2,h3⟩)
   ·exact .inr (.inr h)
  signew:=fun i s hi hs=>by
   by_cases h:n≤i∧i < n + m
   ·rw [σnew i h] at hs
    rcases newb i s (by omega) hs with ⟨k,g1,s',g2,g3⟩ | g1
    ·exact .inl ⟨k,s',Nat.lt_of_lt_of_le (hV k g1) (by omega),g2,g3⟩
    ·exact .inr g1
   ·rw [σold i h] at hs
    exact .inl ⟨i,s,hi,hs,rfl⟩
  size:=nx.size
  os:=nx.os
  tape:=nx.tape
  output:=nx.output }
 have LB:c.Le (c.unhid n m c') (only B):=⟨nx.le.im,nx.le.heap,fun i j hi e=>by
  simp only [only] at e
  split at e
  ·rename_i hb; cases e; exact ⟨hi,σold _ (hB _ hb)⟩
  ·simp at e⟩
 have LV:c'.Le (c.unhid n m c') (only fun i=>i ∈ V∨(n≤i∧i < n + m)):=⟨fun _ h=>h,fun _ _=>rfl,fun i j hi e=>by
  simp only [only] at e
  split at e
  ·rename_i hb; cases e
   refine ⟨by simp only [Cx.unhid]; omega,?_⟩
   rcases hb with hb | hb
   ·exact σV _ hb
   ·exact σnew _ hb
  ·simp at e⟩
 have lt2:∀ (k:Nat) b,st2[k]?=some b→k < c.n:=fun k b h=>by rw [← hl2]; exact (List.getElem?_eq_some_iff.1 h).1
 have split2:∀ (k:Nat) b,st2[k]?=some b→((k ∈ V∨(n≤k∧k < n + m))∧st'[k]?=some b)∨(k ∉ V∧¬ (n≤k∧k < n + m)∧st[k]?=some b):=by
  intro k b hk
  rw [h2 k (lt2 k b hk)] at hk
  split at hk
  ·rename_i h; exact .inl ⟨h,hk⟩
  ·rename_i h
   exact .inr ⟨fun h'=>h (.inl h'),fun h'=>h (.inr h'),hk⟩
 have σin:∀ k,(k ∈ V∨(n≤k∧k < n + m))→(c.unhid n m c').σ k=c'.σ k:=fun k h=>by
  rcases h with h | h
  ·exact σV k h
  ·exact σnew k h
 have apart:∀ (j:Nat) y s,j ∉ V→st[j]?=some y→y.live=true→c.σ j=some s→∀ k ∈ V,∀ s',c.σ k=some s'→s'.b ≠ s.b:=by
  intro j y s hj hy hl hs k hk s' hs' e
  obtain ⟨b,hb,hg⟩:=(hng k hk).resolve_right fun h=>by
   rw [h j y hj hy] at hl; simp [Blk.live] at hl
  cases hbl:b.live
  ·have h1:=froz_im S hb hg hbl hs'
   rw [e] at h1
   exact live_notIm S hy hl hs h1
  ·exact S.inj k j b y s' s (by rintro rfl; exact hj hk) hb hy hbl hl hs' hs e
 have keep:∀ (j:Nat) y s,j ∉ V→st[j]?=some y→y ≠ .gone→c.σ j=some s→c'.w.heap[s.b]?=c.w.heap[s.b]?:=by
  intro j y s hj hy hg hs
  have hjl:j < c.n:=by rw [← S.len]; exact (List.getElem?_eq_some_iff.1 hy).1
  cases hl:y.live
  ·exact nx.le.heap _ (froz_im S hy hg hl hs)
  ·exact nx.heap s.b (S.own j s hjl hs).2 fun k s' hk hs' e=>by
    obtain ⟨g1,g2⟩:=inner k s' hk hs'
    exact apart j y s hj hy hl hs k g1 s' g2 e
 refine ⟨nz,{
  len:=hl2
  im:=S'.im
  blk:=fun k b hk=>by
   rcases split2 k b hk with ⟨h,hb⟩ | ⟨h1,h1',hb⟩
   ·exact (S'.blk k b hb).mono LV (mapIdB_vis fun i hi=>by simp only [only]; rw [if_pos (hout b (List.mem_of_getElem? hb) i hi)]) (σin k h) (fun _ _=>rfl) fun _ _=>Iff.rfl
   ·by_cases hg:b=.gone
    ·subst hg; trivial
    ·refine (S.blk k b hb).mono LB (mapIdB_vis fun i hi=>by simp only [only]; rw [if_pos (hcont k b hb i hi)]) (σold k h1') (fun s hs=>keep k b s h1 hb hg hs) fun s hs=>⟨fun hi=>?_,nx.le.im _⟩
     cases hl:b.live
     ·exact froz_im S hb hg hl hs
     ·rcases nx.imnew s.b hi with h | ⟨k',s',g1,g2,g3⟩ | h
      ·exact h
      ·obtain ⟨q1,q2⟩:=inner k' s' g1 g2
       exact absurd g3 (apart k b s h1 hb hl hs k' q1 s' q2)
      ·have hlt:=(S.own k s (lt2 k b hk) hs).2
       have:c.w.heap.size≤s.b:=h
       omega
  inj:=fun i j x y s s' hne hx hy lx ly hs hs'=>by
   have ab:∀ (i j:Nat) (x:Blk) (s s':Pl),i ∉ V→st[i]?=some x→x.live=true→c.σ i=some s→j < c'.n→c'.σ j=some s'→s.b ≠ s'.b:=by
    intro i j x s s' h1 h2 h3 hs hj hs' e
    rcases newb j s' hj hs' with ⟨k,g1,s2,g2,g3⟩ | g1
    ·exact apart i x s h1 h2 h3 hs k g1 s2 g2 (g3.trans e.symm)
    ·have:=(S.own i s (by rw [← S.len]; exact (List.getElem?_eq_some_iff.1 h2).1) hs).2; omega
   have lt':∀ (k:Nat) b,st'[k]?=some b→k < c'.n:=fun k b h=>by rw [← S'.len]; exact (List.getElem?_eq_some_iff.1 h).1
   rcases split2 i x hx with ⟨h1,hb⟩ | ⟨h1,h1',hb⟩ <;> rcases split2 j y hy with ⟨g1,gb⟩ | ⟨g1,g1',gb⟩
   ·rw [σin i h1] at hs; rw [σin j g1] at hs'
    exact S'.inj i j x y s s' hne hb gb lx ly hs hs'
   ·rw [σin i h1] at hs; rw [σold j g1'] at hs'
    exact Ne.symm (ab j i y s' s g1 gb ly hs' (lt' i x hb) hs)
   ·rw [σold i h1'] at hs; rw [σin j g1] at hs'
    exact ab i j x s s' h1 hb lx hs (lt' j y gb) hs'
   ·rw [σold i h1'] at hs; rw [σold j g1'] at hs'
    exact S.inj i j x y s s' hne hb gb lx ly hs hs'
  g:=S'.g
  low:=S'.low
  own:=fun i s hi hs=>by
   by_cases h:n≤i∧i < n + m
   ·rw [σnew i h] at hs; exact S'.own i s (by omega) hs
   ·rw [σold i h] at hs
    obtain ⟨g1,g2⟩:=S.own i s hi hs
    exact ⟨g1,Nat.lt_of_lt_of_le g2 nx.size⟩ },LB,LV⟩
end Go.Proofs.YtnhbcpmmdblkjaaDoorAm

namespace Go.Proofs.YtnhbcpmmdblkjaaDoorAm
open Go

section ops
variable {gd:Gd} {P:Program} {E:Env} {α:Type} {r:α}

theorem meets_false {a b:List Nat} (h:meets a b=false):∀ i ∈ a,i ∉ b:=fun i ha hb=>by
 have:=List.any_eq_false.1 h i ha
 simp [hb] at this
theorem allIn_ok {a b:List Nat} (h:allIn a b=true):∀ i ∈ a,i ∈ b:=fun i ha=>by
 simpa using List.all_eq_true.1 h i ha
@[reducible] def newIn (x:Rc) (i:Nat):Prop:=x.n≤i∧i < x.n + x.m
structure RunL (gd:Gd) (P:Program) (ops:Array Oper) (i:Nat) (x:Rc) (S S':St):Prop where
 put:∃ o v,ops[i]?=some o∧S'=S.put o.dst v S'.store ∧
  (((∃ hs st1,(∀ k ∈ idsOf v,k ∈ x.vis∨newIn x k)∧opndL S o.op.operands.toList=some hs∧(∀ k ∈ idsOfL hs,k ∈ x.vis)∧OpOK gd P o hs (hide x.vis 0 S.store) v st1∧st1.length=x.n + x.m∧S'.store=unhide x.vis 0 S.store st1 ∧
    (∀ b ∈ st1,∀ k ∈ blkIds b,k ∈ x.vis∨newIn x k)) ∧
    ∀ j want,o.guard=some (j,want)→∃ d,dstOf ops j=some d∧S.slots[d]?=some (.iv .bool want)) ∨
   (v=.skip∧x.vis=[]∧S'.store=S.store∧∃ j want,o.guard=some (j,want)∧∃ d,dstOf ops j=some d∧(S.slots[d]?=some (.iv .bool (!want))∨S.slots[d]?=some .skip)) ∨
   ((∃ t,o.op=.move (.tmp t)∧S.slots[t]?=some v∧v ≠ .skip)∧x.vis=[]∧S'.store=S.store ∧
    ∀ j want,o.guard=some (j,want)→∃ d,dstOf ops j=some d∧S.slots[d]?=some (.iv .bool want)))
 n:x.n=S.store.length
 len:S'.store.length=x.n + x.m
 vis:∀ k ∈ x.vis,∃ b,S.store[k]?=some b∧(x.full=false→b ≠ .gone)∧∀ j ∈ blkIds b,j ∈ x.vis
 full:x.full=true→∀ k,k < x.n→k ∈ x.vis
 keep:∀ k,k < x.n→k ∉ x.wr→S'.store[k]?=S.store[k]?
theorem RunL.of_skip {ops:Array Oper} {i:Nat} {S:St} {o:Oper} (ho:ops[i]?=some o) (h:∃ j want,o.guard=some (j,want)∧∃ d,dstOf ops j=some d∧(S.slots[d]?=some (.iv .bool (!want))∨S.slots[d]?=some .skip)) :
  RunL gd P ops i ⟨[],[],S.store.length,0,false⟩ S (S.put o.dst .skip S.store) where
 put:=⟨o,.skip,ho,by rw [put_store],.inr (.inl ⟨rfl,rfl,put_store _ _ _ _,h⟩)⟩
 n:=rfl
 len:=by rw [put_store]; rfl
 vis:=by simp
 full:=by simp
 keep:=fun k _ _=>by rw [put_store]
theorem mvP_some {o:Oper} {S:St} {v:HV} (h:mvP o S=some v):∃ t,o.op=.move (.tmp t)∧S.slots[t]?=some v∧v ≠ .skip:=by
 unfold mvP at h
 split at h
 ·rename_i t ho
  split at h
  ·rename_i a b c hs
   cases h
   exact ⟨t,ho,hs,by simp⟩
  ·simp at h
 ·simp at h
theorem RunL.of_mv {ops:Array Oper} {i:Nat} {S:St} {o:Oper} (ho:ops[i]?=some o) {v:HV} (hv:mvP o S=some v)
  (hgd:∀ j want,o.guard=some (j,want)→∃ d,dstOf ops j=some d∧S.slots[d]?=some (.iv .bool want)) :
  RunL gd P ops i ⟨[],[],S.store.length,0,false⟩ S (S.put o.dst v S.store) where
 put:=⟨o,v,ho,by rw [put_store],.inr (.inr ⟨mvP_some hv,rfl,put_store _ _ _ _,hgd⟩)⟩
 n:=rfl
 len:=by rw [put_store]; rfl
 vis:=by simp
 full:=by simp
 keep:=fun k _ _=>by rw [put_store]
theorem stepL_ok (hE : EnvOK P E) {C : CT} (hC : CTOK gd P C) {ops : Array Oper} {i : Nat} {o : Oper} (ho : ops[i]? = some o) {S : St} {hs : List HV} (hhs : opndL S o.op.operands.toList = some hs)
    (hgd : ∀ j want, o.guard = some (j, want) → ∃ d, dstOf ops j = some d ∧ S.slots[d]? = some (.iv .bool want)) {K : Rc → HV → List Blk → Option α} (h : stepL E C o hs S.store K = some r) :
    ∃ x v st', K x v st' = some r ∧ RunL gd P ops i x S (S.put o.dst v st') := by
  unfold stepL at h
  generalize hV : (seen S.store hs).1 = V at h
  generalize hF : (seen S.store hs).2 = F at h
  split at h
  · simp at h
  · rename_i hcl
    simp only [closedA, Bool.and_eq_true] at hcl
    obtain ⟨hc1, hc2⟩ := hcl
    obtain ⟨p, v, st', h1, h2, h3, h4⟩ := stepV_ok hE hC h
    simp only at h1
    split at h1
    · simp at h1
    · rename_i hout
      simp only [outB, Bool.and_eq_true, Nat.ble_eq] at hout
      obtain ⟨⟨hlen, hv⟩, hst⟩ := hout
      have hvis : ∀ k ∈ V, ∃ b, S.store[k]? = some b ∧ (F = false → b ≠ .gone) ∧ ∀ j ∈ blkIds b, j ∈ V := by
        intro k hk
        have := List.all_eq_true.1 hc2 k hk
        split at this
        · rename_i b hb
          refine ⟨b, hb, fun hf hg => ?_, allIn_ok this⟩
          subst hg
          unfold seen at hV hF
          split at hV
          · rename_i hcb
            simp only [closedB, Bool.and_eq_true] at hcb
            simp only at hV
            rw [← hV] at hk
            have := List.all_eq_true.1 hcb.2 k hk
            rw [hb] at this
            simp at this
          · rename_i hcb
            rw [hcb] at hF
            simp only at hF
            rw [hf] at hF
            cases hF
        · simp at this
      have hfull : F = true → ∀ k, k < S.store.length → k ∈ V := by
        intro hf k hk
        unfold seen at hV hF
        split at hV
        · rename_i hcb
          rw [hcb] at hF
          simp only at hF
          rw [hf] at hF
          cases hF
        · simp only at hV
          rw [← hV]
          simpa using hk
      have hlt : ∀ k ∈ V, k < S.store.length := fun k hk => by
        obtain ⟨b, hb, _⟩ := hvis k hk
        exact (List.getElem?_eq_some_iff.1 hb).1
      refine ⟨_, _, _, h1, {
        put := ⟨o, v, ho, by rw [put_store], .inl ⟨⟨hs, st', ?_, hhs, allIn_ok hc1, h2, by simp only; omega, by rw [put_store], ?_⟩, hgd⟩⟩
        n := rfl
        len := by rw [put_store, unhide_length _ _ _ _ hlen]; simp only; omega
        vis := hvis
        full := hfull
        keep := fun k hk hn => ?_ }⟩
      · intro k hk
        have := List.all_eq_true.1 hv k hk
        simp only [Bool.or_eq_true, List.contains_eq_mem, decide_eq_true_eq, Bool.and_eq_true, Nat.ble_eq, Nat.blt_eq] at this
        simp only [newIn]
        rcases this with h | h
        · exact .inl h
        · exact .inr (by omega)
      · intro b hb k hk
        have := List.all_eq_true.1 (List.all_eq_true.1 hst b hb) k hk
        simp only [Bool.or_eq_true, List.contains_eq_mem, decide_eq_true_eq, Bool.and_eq_true, Nat.ble_eq, Nat.blt_eq] at this
        simp only [newIn]
        rcases this with h | h
        · exact .inl h
        · exact .inr (by omega)
      · simp only at hk hn
        rw [put_store, unhide_get _ _ _ _ _ hlen, Nat.zero_add]
        split
        · rfl
        · rename_i hnv
          have hkV : k ∈ V := Classical.byContradiction fun h => hnv ⟨hk, h⟩
          have hid : (hide V 0 S.store)[k]? = S.store[k]? := by
            rw [hide_get]; simp [hkV]
          unfold wrOf at hn
          cases p with
          | true => rw [h3 rfl, hid]
          | false =>
            simp only at hn
            split at hn
            · rename_i W hW
              rw [h4 W hW k (by rw [hide_length]; exact hk) hn, hid]
            · exact absurd hkV hn
def ChainL (gd:Gd) (P:Program) (ops:Array Oper):List Nat→List Rc→St→St→Prop
 | [],[],S,S'=>S'=S
 | i::r,x::xs,S,S'=>∃ S1,RunL gd P ops i x S S1∧ChainL gd P ops r xs S1 S'
 | _,_,_,_=>False
theorem runIxL_ok (hE : EnvOK P E) {C : CT} (hC : CTOK gd P C) {ops : Array Oper} : ∀ (l : List Nat) (ps : List Rc) (S : St) (K : List Rc → St → Option α), runIxL E C ops l ps S K = some r →
    ∃ qs S', K (ps.reverse ++ qs) S' = some r ∧ ChainL gd P ops l qs S S'
  | [], ps, S, K, h => ⟨[], S, by simpa [runIxL] using h, rfl⟩
  | i :: rest, ps, S, K, h => by
    simp only [runIxL] at h
    split at h
    · simp at h
    · rename_i o ho
      have perf : ∀ S0 : St, (match mvP o S0 with
          | some h => runIxL E C ops rest (⟨[], [], S0.store.length, 0, false⟩ :: ps) (S0.put o.dst h S0.store) K
          | none => match opndL S0 o.op.operands.toList with
          | none => none
          | some hs => stepL E C o hs S0.store fun x v st => runIxL E C ops rest (x :: ps) (S0.put o.dst v st) K) = some r →
          (∀ j want, o.guard = some (j, want) → ∃ d, dstOf ops j = some d ∧ S0.slots[d]? = some (.iv .bool want)) →
          ∃ qs S', K (ps.reverse ++ qs) S' = some r ∧ ChainL gd P ops (i :: rest) qs S0 S' := by
        intro S0 h hgd
        split at h
        · rename_i v hv
          obtain ⟨qs, S', k1, k2⟩ := runIxL_ok hE hC rest _ _ _ h
          exact ⟨_ :: qs, S', by simpa using k1, _, RunL.of_mv ho hv hgd, k2⟩
        split at h
        · simp at h
        · rename_i hs hhs
          obtain ⟨x, v, st', h1, h2⟩ := stepL_ok hE hC ho hhs hgd h
          obtain ⟨qs, S', k1, k2⟩ := runIxL_ok hE hC rest _ _ _ h1
          exact ⟨x :: qs, S', by simpa using k1, _, h2, k2⟩
      have skp : ∀ S0 : St, runIxL E C ops rest (⟨[], [], S0.store.length, 0, false⟩ :: ps) (S0.put o.dst .skip S0.store) K = some r →
          (∃ j want, o.guard = some (j, want) ∧ ∃ d, dstOf ops j = some d ∧ (S0.slots[d]? = some (.iv .bool (!want)) ∨ S0.slots[d]? = some .skip)) →
          ∃ qs S', K (ps.reverse ++ qs) S' = some r ∧ ChainL gd P ops (i :: rest) qs S0 S' := by
        intro S0 h hgd
        obtain ⟨qs, S', k1, k2⟩ := runIxL_ok hE hC rest _ _ _ h
        exact ⟨_ :: qs, S', by simpa using k1, _, RunL.of_skip ho hgd, k2⟩
      split at h
      · rename_i hg
        exact perf S h fun j want e => by rw [hg] at e; simp at e
      · rename_i j want hg
        split at h
        · rename_i d b hd
          simp only [Option.bind_eq_some_iff, Option.map_eq_some_iff, Prod.mk.injEq] at hd
          obtain ⟨d', hd1, h', hd2, e1, e2⟩ := hd
          subst e1; subst e2
          cases b <;> cases want <;> simp only at h
          · rw [slot_lit hd2] at h
            exact perf S h fun j' w' e => by rw [hg] at e; cases e; exact ⟨d', hd1, hd2⟩
          · rw [slot_lit hd2] at h
            exact skp S h ⟨j, true, hg, d', hd1, .inl hd2⟩
          · rw [slot_lit hd2] at h
            exact skp S h ⟨j, false, hg, d', hd1, .inl hd2⟩
          · rw [slot_lit hd2] at h
            exact perf S h fun j' w' e => by rw [hg] at e; cases e; exact ⟨d', hd1, hd2⟩
        · rename_i d hd
          simp only [Option.bind_eq_some_iff, Option.map_eq_some_iff, Prod.mk.injEq] at hd
          obtain ⟨d', hd1, h', hd2, e1, e2⟩ := hd
          subst e1; subst e2
          exact skp S h ⟨j, want, hg, d', hd1, .inr hd2⟩
        · simp at h
def rc0:Rc:=⟨[],[],0,0,false⟩
theorem ChainL.states {ops : Array Oper} : ∀ (n b : Nat) (qs : List Rc) (S S' : St), ChainL gd P ops (List.range' b n) qs S S' →
    qs.length = n ∧ ∃ Ss : Nat → St, Ss b = S ∧ Ss (b + n) = S' ∧ ∀ k, k < n → RunL gd P ops (b + k) (qs.getD k rc0) (Ss (b + k)) (Ss (b + k + 1))
  | 0, b, [], S, S', h => by
    simp only [List.range'_zero, ChainL] at h
    exact ⟨rfl, fun _ => S, rfl, h.symm, fun k hk => by omega⟩
  | n + 1, b, p :: qs, S, S', h => by
    simp only [List.range'_succ, ChainL] at h
    obtain ⟨S1, h1, h2⟩ := h
    obtain ⟨l, Ss, e1, e2, e3⟩ := ChainL.states n (b + 1) qs S1 S' h2
    refine ⟨by simp [l], fun i => if i = b then S else Ss i, by simp, ?_, fun k hk => ?_⟩
    · simp only
      rw [if_neg (by omega), ← e2]
      congr 1; omega
    · cases k with
      | zero =>
        have hn : ¬ b + 1 = b := by omega
        simpa [hn, e1] using h1
      | succ k =>
        simp only
        rw [if_neg (by omega), if_neg (by omega)]
        have := e3 k (by omega)
        rw [show b + 1 + k = b + (k + 1) by omega] at this
        simpa using this
  | 0, _, _ :: _, _, _, h => by simp [ChainL] at h
  | _ + 1, _, [], _, _, h => by simp [List.range'_succ, ChainL] at h

theorem ancs_go : ∀ (l : List Oper) (acc : List Nat), ancs.go l acc = acc ++ (ancs.go l acc).drop acc.length
  | [], acc => by simp [ancs.go]
  | o :: r, acc => by
    simp only [ancs.go]
    rw [ancs_go r (acc ++ _)]
    simp [List.drop_append]
theorem fold_bits {f : Edge → Bool} {g : Edge → Nat} (i : Nat) : ∀ (es : List Edge) (m : Nat), (es.foldl (fun m e => match f e with
        | true => m ||| (1 <<< e.on) ||| g e
        | false => m) m).testBit i = true → m.testBit i = true ∨ ∃ e ∈ es, f e = true ∧ (i = e.on ∨ (g e).testBit i = true)
  | [], m, h => .inl h
  | e :: es, m, h => by
    simp only [List.foldl_cons] at h
    rcases fold_bits i es _ h with h | ⟨e', h1, h2⟩
    · split at h
      · rename_i hf
        simp only [Nat.testBit_or, Bool.or_eq_true, Nat.one_shiftLeft, Nat.testBit_two_pow, decide_eq_true_eq] at h
        rcases h with (h | h) | h
        · exact .inl h
        · exact .inr ⟨e, by simp, hf, .inl h.symm⟩
        · exact .inr ⟨e, by simp, hf, .inr h⟩
      · exact .inl h
    · exact .inr ⟨e', by simp [h1], h2⟩
theorem ancs_spec {i : Nat} : ∀ (l : List Oper) (acc : List Nat) (j : Nat), acc.length ≤ j → ((ancs.go l acc).getD j 0).testBit i = true →
    ∃ o, l[j - acc.length]? = some o ∧ ∃ e ∈ o.after.toList, binds e = true ∧ (i = e.on ∨ ((ancs.go l acc).getD e.on 0).testBit i = true)
  | [], acc, j, hj, h => by
    simp only [ancs.go, List.getD_eq_getElem?_getD, List.getElem?_eq_none hj] at h
    simp at h
  | o :: r, acc, j, hj, h => by
    simp only [ancs.go] at h ⊢
    generalize hm : List.foldl (fun m e => match binds e with
        | true => m ||| (1 <<< e.on) ||| (acc.getD e.on 0)
        | false => m) 0 o.after.toList = m at h ⊢
    by_cases hlt : acc.length < j
    · obtain ⟨o', h1, h2⟩ := ancs_spec r (acc ++ [m]) j (by simp; omega) h
      refine ⟨o', ?_, h2⟩
      rw [show j - acc.length = (j - (acc ++ [m]).length) + 1 by simp; omega]
      simpa using h1
    · have : j = acc.length := by omega
      subst this
      have hg : (ancs.go r (acc ++ [m])).getD acc.length 0 = m := by
        rw [ancs_go]
        simp [List.getD_eq_getElem?_getD, List.getElem?_append]
      rw [hg, ← hm] at h
      refine ⟨o, by simp, ?_⟩
      rcases fold_bits (f := binds) (g := fun e => acc.getD e.on 0) i _ 0 h with h | ⟨e, h1, h2, h3⟩
      · simp at h
      · refine ⟨e, h1, h2, h3.imp id fun h => ?_⟩
        have hlt : e.on < acc.length := by
          by_cases hh : e.on < acc.length
          · exact hh
          · rw [List.getD_eq_getElem?_getD, List.getElem?_eq_none (by omega)] at h
            simp at h
        rw [ancs_go]
        simpa [List.getD_eq_getElem?_getD, List.getElem?_append, hlt, Nat.lt_succ_of_lt hlt] using h


theorem drawOk_spec {ops:Array Oper} {rs:List Rc} (h:drawOk ops rs=true):rs.length=ops.size ∧
  (∀ j,∀ i ∈ (rs.getD j rc0).wr,i ∈ (rs.getD j rc0).vis) ∧
  (∀ (j:Nat) oj,ops[j]?=some oj→∀ e ∈ oj.after.toList,binds e=true→e.on < j) ∧
  (∀ (i j:Nat) oi oj,i < j→ops[i]?=some oi→ops[j]?=some oj→((ancs ops.toList).getD j 0).testBit i=true∨(oi.apart ops oj=true∧freeB (rs.getD i rc0) (rs.getD j rc0)=true)):=by
 simp only [drawOk,Bool.and_eq_true,beq_iff_eq] at h
 obtain ⟨⟨h1,h0⟩,h2⟩:=h
 have key:∀ (j:Nat) oj,ops[j]?=some oj→(oj.after.toList.all (fun e => !binds e || decide (e.on < j))=true)∧(∀ (i:Nat) oi,i < j→ops[i]?=some oi→(((ancs ops.toList).getD j 0).testBit i || (oi.apart ops oj && freeB (rs.getD i rc0) (rs.getD j rc0)))=true):=by
  intro j oj hj
  have hlt:j < ops.size:=(Array.getElem?_eq_some_iff.1 hj).1
  have:=List.all_eq_true.1 h2 j (by simpa using hlt)
  have hrj:rs[j]?=some (rs.getD j rc0):=by
   have:j < rs.length:=by omega
   simp [List.getD_eq_getElem?_getD,this]
  simp only [hj,hrj,Bool.and_eq_true] at this
  refine ⟨this.1,fun i oi hi hoi=>?_⟩
  have:=List.all_eq_true.1 this.2 i (by simpa using hi)
  have hri:rs[i]?=some (rs.getD i rc0):=by
   have:i < rs.length:=by omega
   simp [List.getD_eq_getElem?_getD,this]
  simpa only [hoi,hri] using this
 refine ⟨h1,fun j i hi=>?_,fun j oj hj e he hb=>?_,fun i j oi oj hij hi hj=>?_⟩
 ·by_cases hj:j < rs.length
  ·have hm:rs.getD j rc0 ∈ rs:=by
    have:rs[j]?=some (rs.getD j rc0):=by simp [List.getD_eq_getElem?_getD,hj]
    exact List.mem_of_getElem? this
   have:=List.all_eq_true.1 (List.all_eq_true.1 h0 _ hm) i hi
   simpa using this
  ·have:rs.getD j rc0=rc0:=by simp [List.getD_eq_getElem?_getD,List.getElem?_eq_none (Nat.not_lt.1 hj)]
   rw [this] at hi; simp [rc0] at hi
 ·have:=List.all_eq_true.1 (key j oj hj).1 e he
  simpa [hb] using this
 ·have:=(key j oj hj).2 i oi hij hi
  simpa [Bool.or_eq_true,Bool.and_eq_true] using this
theorem freeB_full {x y:Rc} (h:freeB x y=true):x.full=false∧y.full=false:=by
 simp only [freeB,Bool.and_eq_true,Bool.not_eq_true'] at h
 exact ⟨h.1.1.1.1,h.1.1.1.2⟩
theorem freeB_spec {x y:Rc} (h:freeB x y=true):(∀ i ∈ x.wr,i ∉ y.vis)∧(∀ i ∈ y.wr,i ∉ x.vis)∧∀ i ∈ y.vis,¬ newIn x i:=by
 simp only [freeB,Bool.and_eq_true,Bool.not_eq_true'] at h
 obtain ⟨⟨⟨_,h1⟩,h2⟩,h3⟩:=h
 refine ⟨meets_false h1,meets_false h2,fun i hi hn=>?_⟩
 have:=List.all_eq_true.1 h3 i hi
 simp only [newIn] at hn
 simp only [Bool.not_eq_true',Bool.and_eq_false_iff] at this
 rcases this with h | h
 ·have:Nat.ble x.n i=true:=by rw [Nat.ble_eq]; exact hn.1
  rw [this] at h; simp at h
 ·have:Nat.blt i (x.n + x.m)=true:=by rw [Nat.blt_eq]; exact hn.2
  rw [this] at h; simp at h

theorem const_range {β : Type} (f : Nat → β) (a b : Nat) (hab : a ≤ b) (h : ∀ i, a ≤ i → i < b → f (i + 1) = f i) : f b = f a := by
  induction b with
  | zero => cases Nat.le_zero.1 hab; rfl
  | succ b ih =>
    by_cases e : a = b + 1
    · rw [e]
    · rw [h b (by omega) (by omega), ih (by omega) fun i h1 h2 => h i h1 (by omega)]
end ops
end Go.Proofs.YtnhbcpmmdblkjaaDoorAm

namespace Go.Proofs.YtnhbcpmmdblkjaaDoorAm
open Go

section ops
variable {gd:Gd} {P:Program} {E:Env} {α:Type} {r:α}

def pad (L:Nat) (st:List Blk) (b:Nat):Option Blk:=if b < st.length then st[b]? else if b < L then some .gone else none
def touches (x:Rc) (b:Nat):Prop:=b ∈ x.wr∨newIn x b
theorem RunL.pad_keep {ops:Array Oper} {i:Nat} {x:Rc} {S S':St} (h:RunL gd P ops i x S S') {L b:Nat} (hb:¬ touches x b):pad L S'.store b=pad L S.store b:=by
 have hw:b ∉ x.wr:=fun h=>hb (.inl h)
 have hn:¬ newIn x b:=fun h=>hb (.inr h)
 simp only [newIn] at hn
 have h1:=h.n; have h2:=h.len
 simp only [pad]
 by_cases hlt:b < x.n
 ·rw [if_pos (by omega),if_pos (by omega),h.keep b hlt hw]
 ·simp [show ¬ b < S'.store.length by omega,show ¬ b < S.store.length by omega]
theorem RunL.slot_keep {ops : Array Oper} {i : Nat} {x : Rc} {S S' : St} (h : RunL gd P ops i x S S') {t : Nat} (ht : dstOf ops i ≠ some t) : S'.slots[t]? = S.slots[t]? := by
  obtain ⟨o, v, ho, e, _⟩ := h.put
  have : o.dst ≠ some t := fun hd => ht (by unfold dstOf; rw [ho]; exact hd)
  rw [e]
  cases hdo : o.dst with
  | none => rfl
  | some d =>
    simp only [St.put]
    rw [List.getElem?_set_ne (by rintro rfl; exact this hdo)]
theorem RunL.slots_len {ops:Array Oper} {i:Nat} {x:Rc} {S S':St} (h:RunL gd P ops i x S S'):S'.slots.length=S.slots.length:=by
 obtain ⟨o,v,ho,e,_⟩:=h.put
 rw [e]
 cases o.dst <;> simp [St.put]

theorem RunL.step {ops : Array Oper} {j : Nat} {x : Rc} {S S' : St} (h : RunL gd P ops j x S S') {o : Oper} (ho : ops[j]? = some o) {c : Cx} {a : Act} {stE : List Blk} (hS : SG gd c stE) {n0 : Nat} (h0 : n0 ≤ x.n) (hL : x.n + x.m ≤ c.n)
    (hfull : x.full = true → ∀ (j : Nat) y, x.n ≤ j → stE[j]? = some y → y = .gone) (hag : ∀ k ∈ x.vis, stE[k]? = S.store[k]?) (hroom : ∀ k, newIn x k → stE[k]? = some .gone) {B : Nat → Prop} [DecidablePred B] (hB : ∀ i, B i → ¬ newIn x i) (hcont : ∀ (k : Nat) b, stE[k]? = some b → ∀ i ∈ blkIds b, B i)
    (hl : ∀ t ∈ o.looksAt ops, ∀ g, S.slots[t]? = some g → ∃ v, a.tmps[t]? = some v ∧ HVR c g v ∧ ∀ id ∈ idsOf g, B id) {K : Act → World → Prop} {Q : Exit → Act → World → Prop}
    (hk : ∀ c' h' v (st2 : List Blk), Nz n0 c c' → c'.n = c.n → SG gd c' st2 → c.Le c' (only B) → HVR c' h' v → S' = S.put o.dst h' S'.store → (∀ k ∈ idsOf h', (k ∈ x.vis ∨ newIn x k) ∨ B k) →
      (∀ k, k < c.n → st2[k]? = if k ∈ x.vis ∨ newIn x k then S'.store[k]? else stE[k]?) → (∀ k b, (k ∈ x.vis ∨ newIn x k) → st2[k]? = some b → ∀ i ∈ blkIds b, i ∈ x.vis ∨ newIn x i) → K (a.put o.dst v) c'.w) :
    wpOp P ops Q j K a c.w := by
  have hn := h.n
  have hlen := h.len
  have hVlt : ∀ k ∈ x.vis, k < x.n := fun k hk => by
    obtain ⟨b, hb, _⟩ := h.vis k hk
    rw [hn]; exact (List.getElem?_eq_some_iff.1 hb).1
  obtain ⟨o', v, ho', hS', hcase⟩ := h.put
  rw [ho] at ho'; cases ho'
  unfold wpOp
  simp only [ho]
  have hwant : (∀ j want, o.guard = some (j, want) → ∃ d, dstOf ops j = some d ∧ S.slots[d]? = some (.iv .bool want)) → Region.wanted o (yielded ops a.tmps) = true := by
    intro hgd
    unfold Region.wanted
    cases hg : o.guard with
    | none => rfl
    | some q =>
      obtain ⟨j', want⟩ := q
      obtain ⟨d, hd, hv⟩ := hgd j' want hg
      have hdo : (ops[j']?).bind (·.dst) = some d := by
        unfold dstOf at hd
        split at hd
        · rename_i oj hj; simp [hj, hd]
        · simp at hd
      obtain ⟨val, e1, e2, _⟩ := hl d (by simp [Oper.looksAt, hg, hdo]) _ hv
      rw [HVR.bool] at e2; subst e2
      simp [yielded, hdo, e1]
  rcases hcase with ⟨⟨hs, st1, hids, h1, hsV, h2, hl1, hun, hout⟩, hgd⟩ | ⟨rfl, hvis0, hst, j', want, hgd, d, hd, hv⟩ | ⟨⟨t, hop, ht, hne⟩, hvis0, hst, hgd⟩
  · rw [if_pos (hwant hgd)]
    obtain ⟨LV, S1⟩ := hS.hid (V := x.vis) (n := x.n) (by omega) hVlt (fun i hi b hb j hj => by
      obtain ⟨b', hb', _, hc⟩ := h.vis i hi
      rw [hag i hi, hb'] at hb; cases hb
      exact hc j hj)
    have hhide : hide x.vis 0 (stE.take x.n) = hide x.vis 0 S.store := by
      apply List.ext_getElem?
      intro k
      rw [hide_get, hide_get, List.getElem?_take, Nat.zero_add]
      by_cases hk : k < x.n
      · rw [if_pos hk]
        by_cases hm : k ∈ x.vis
        · rw [hag k hm]
        · have e1 : stE[k]? = some (stE[k]'(by rw [hS.len]; omega)) := List.getElem?_eq_getElem _
          have e2 : S.store[k]? = some (S.store[k]'(by omega)) := List.getElem?_eq_getElem _
          rw [e1, e2]; simp [hm]
      · rw [if_neg hk, List.getElem?_eq_none (by omega)]
    rw [hhide] at S1
    have hargs := opndL_ok (c := c) (a := a) h1 fun t ht g hg => (hl t (List.mem_append_left _ (List.mem_filterMap.2 ⟨.tmp t, ht, rfl⟩)) g hg).imp fun v hv => ⟨hv.1, hv.2.1⟩
    have hargs' : HVL (c.hid x.vis x.n) hs (o.op.operands.toList.map a.eval) := hargs.mono LV (mapIdL_vis fun i hi => by simp [only, hsV i hi])
    refine .inl ((h2 (c.hid x.vis x.n) a.eval S1 hargs').wp fun val w' ⟨c', e, nx, S2, hv⟩ => ?_)
    subst e
    have hr : ∀ k, x.n ≤ k → k < x.n + x.m → stE[k]? = some .gone := fun k k1 k2 => hroom k ⟨k1, k2⟩
    let st2 : List Blk := (List.range c.n).map fun k => ((if k ∈ x.vis ∨ (x.n ≤ k ∧ k < x.n + x.m) then st1[k]? else stE[k]?).getD .gone)
    have hst2 : ∀ k, k < c.n → st2[k]? = if k ∈ x.vis ∨ (x.n ≤ k ∧ k < x.n + x.m) then st1[k]? else stE[k]? := by
      intro k hk
      have e1 : stE[k]? = some (stE[k]'(by rw [hS.len]; exact hk)) := List.getElem?_eq_getElem _
      simp only [st2, List.getElem?_map, List.getElem?_range hk, Option.map_some]
      split
      · rename_i hc
        have : k < st1.length := by
          rw [hl1]
          rcases hc with hc | hc
          · have := hVlt k hc; omega
          · omega
        simp [this]
      · simp [e1]
    have hl2 : st2.length = c.n := by simp [st2]
    obtain ⟨nz, S3, LB, LV'⟩ := hS.unhid (n0 := n0) h0 hL hVlt (fun i hi => by
      obtain ⟨b, hb, hg, _⟩ := h.vis i hi
      cases hf : x.full
      · exact .inl ⟨b, by rw [hag i hi, hb], hg hf⟩
      · exact .inr fun j y hj hy => hfull hf j y (Nat.not_lt.1 fun hlt => hj (h.full hf j hlt)) hy) nx S2 hl1 hout hr (B := B) hB hcont hl2 hst2
    have hv' : HVR (c.unhid x.n x.m c') v val := hv.mono LV' (mapId_vis fun i hi => by
      simp only [only]
      rw [if_pos (hids i hi)])
    have hspec : ∀ k, k < c.n → st2[k]? = if k ∈ x.vis ∨ newIn x k then S'.store[k]? else stE[k]? := by
      intro k hk
      rw [hst2 k hk]
      simp only [newIn]
      split
      · rename_i hc
        rw [hun, unhide_get _ _ _ _ _ (by omega), Nat.zero_add, if_neg]
        rintro ⟨q1, q2⟩
        rcases hc with hc | hc
        · exact q2 hc
        · omega
      · rfl
    exact hk (c.unhid x.n x.m c') v val st2 nz rfl S3 LB hv' hS' (fun k hk => .inl (hids k hk)) hspec fun k b hc hb i hi => by
      rw [hst2 k (by rw [← hl2]; exact (List.getElem?_eq_some_iff.1 hb).1), if_pos hc] at hb
      exact hout b (List.mem_of_getElem? hb) i hi
  · have hw : ¬ Region.wanted o (yielded ops a.tmps) = true := by
      unfold Region.wanted
      have hdo : (ops[j']?).bind (·.dst) = some d := by
        unfold dstOf at hd
        split at hd
        · rename_i oj hj; simp [hj, hd]
        · simp at hd
      simp only [hgd]
      have hll : d ∈ o.looksAt ops := by simp [Oper.looksAt, hgd, hdo]
      rcases hv with hv | hv
      · obtain ⟨val, e1, e2, _⟩ := hl d hll _ hv
        rw [HVR.bool] at e2; subst e2
        simp [yielded, hdo, e1]
      · obtain ⟨val, e1, e2, _⟩ := hl d hll _ hv
        rw [HVR.cell (by simp) (by simp) rfl] at e2
        simp only [HC, List.cons.injEq, and_true] at e2
        obtain ⟨rfl, _⟩ := e2
        simp [yielded, hdo, e1, undef]
    rw [if_neg hw]
    have hm0 : x.m = 0 := by have := h.len; rw [hst] at this; omega
    have hno : ∀ k, ¬ (k ∈ x.vis ∨ newIn x k) := by
      rintro k (hk | hk)
      · rw [hvis0] at hk; simp at hk
      · simp only [newIn] at hk; omega
    exact hk c .skip undef stE (.refl _ c) rfl hS ⟨fun _ h => h, fun _ _ => rfl, fun i j hi e => by
      simp only [only] at e
      split at e
      · cases e; exact ⟨hi, rfl⟩
      · simp at e⟩ (by rw [HVR.cell (by simp) (by simp) rfl]; exact ⟨by simp [HC], rfl⟩) hS' (by simp [idsOf]) (fun k _ => by rw [if_neg (hno k)]) fun k b hc => absurd hc (hno k)
  · rw [if_pos (hwant hgd)]
    have hll : t ∈ o.looksAt ops := by simp [Oper.looksAt, hop, Op.operands]
    obtain ⟨val, e1, e2, e3⟩ := hl t hll _ ht
    have hm0 : x.m = 0 := by have := h.len; rw [hst] at this; omega
    have hno : ∀ k, ¬ (k ∈ x.vis ∨ newIn x k) := by
      rintro k (hk | hk)
      · rw [hvis0] at hk; simp at hk
      · simp only [newIn] at hk; omega
    have hex : (execOp a.eval o).run P c.w = .ok (.value val) c.w := by
      simp [execOp, hop, Act.eval, e1]
    refine .inl ((show Does P o a.eval c.w fun v w' => v = val ∧ w' = c.w from .inl ⟨val, c.w, hex, rfl, rfl⟩).wp fun v' w' hvw => ?_)
    obtain ⟨rfl, rfl⟩ := hvw
    exact hk c v v' stE (.refl _ c) rfl hS ⟨fun _ h => h, fun _ _ => rfl, fun i j hi e => by
      simp only [only] at e
      split at e
      · cases e; exact ⟨hi, rfl⟩
      · simp at e⟩ e2 hS' (fun k hk => .inr (e3 k hk)) (fun k _ => by rw [if_neg (hno k)]) fun k b hc => absurd hc (hno k)
end ops
end Go.Proofs.YtnhbcpmmdblkjaaDoorAm

namespace Go.Proofs.YtnhbcpmmdblkjaaDoorAm
open Go

section ops
variable {gd:Gd} {P:Program} {E:Env} {α:Type} {r:α}

theorem vis_lt {ops:Array Oper} {i:Nat} {x:Rc} {S S':St} (h:RunL gd P ops i x S S'):∀ k ∈ x.vis,k < x.n:=fun k hk=>by
 obtain ⟨b,hb,_⟩:=h.vis k hk
 rw [h.n]; exact (List.getElem?_eq_some_iff.1 hb).1

def Bn (rs:List Rc) (n n0:Nat) (listed:Array Bool) (id:Nat):Prop:=id < n0∨∃ i,i < n∧listed.getD i true=true∧newIn (rs.getD i rc0) id

structure Inv (gd:Gd) (ops:Array Oper) (rs:List Rc) (Ss:Nat→St) (c0:Cx) (n0 L:Nat) (listed:Array Bool) (a:Act) (c:Cx) (stE:List Blk):Prop where
 nz:Nz n0 c0 c
 n:c.n=L
 sg:SG gd c stE
 tl:a.tmps.size=(Ss 0).slots.length
 df:a.defers=[]
 ls:listed.size=ops.size
 cl:∀ i j,((ancs ops.toList).getD j 0).testBit i=true→j < ops.size→listed.getD j true=true→listed.getD i true=true
 sl:∀ t k,k≤ops.size→(∀ i,i < ops.size→dstOf ops i=some t→(i < k↔listed.getD i true=true))→∀ g,(Ss k).slots[t]?=some g→∃ v,a.tmps[t]?=some v∧HVR c g v∧∀ id ∈ idsOf g,Bn rs ops.size n0 listed id
 st:∀ b k,k≤ops.size→(∀ i,i < ops.size→touches (rs.getD i rc0) b→(i < k↔listed.getD i true=true))→stE[b]?=pad L (Ss k).store b
 ct:∀ (k:Nat) b,stE[k]?=some b→∀ id ∈ blkIds b,Bn rs ops.size n0 listed id

open Classical in
theorem any_ok {ops : Array Oper} {Q : Exit → Act → World → Prop} {rs : List Rc} (hd : drawOk ops rs = true) {Ss : Nat → St}
    (hrun : ∀ k, k < ops.size → RunL gd P ops k (rs.getD k rc0) (Ss k) (Ss (k + 1))) {c0 : Cx} {n0 L : Nat} (hn0 : n0 = (Ss 0).store.length) (hL : L = (Ss ops.size).store.length)
    (hQ : ∀ c' a', Nz n0 c0 c' → c'.n = L → AR gd c' (Ss ops.size) a' → Q .normal a' c'.w) :
    ∀ (fuel : Nat) (listed : Array Bool) (a : Act) (c : Cx) (stE : List Blk), Inv gd ops rs Ss c0 n0 L listed a c stE → (List.range ops.size).countP (fun i => !listed.getD i true) ≤ fuel → wpAny P .any ops Q fuel listed a c.w := by
  obtain ⟨hql, hwv, hed, hord⟩ := drawOk_spec hd
  have hop : ∀ k, k < ops.size → ops[k]? = some ops[k]! := fun k hk => by simp [hk]
  have hstep : ∀ k, k < ops.size → (Ss k).store.length ≤ (Ss (k + 1)).store.length := fun k hk => by
    have h1 := (hrun k hk).n; have h2 := (hrun k hk).len
    omega
  have hmono : ∀ i j, i ≤ j → j ≤ ops.size → (Ss i).store.length ≤ (Ss j).store.length := by
    intro i j hij
    induction j with
    | zero => intro _; cases Nat.le_zero.1 hij; exact Nat.le_refl _
    | succ j ih =>
      intro hj
      by_cases e : i = j + 1
      · rw [e]; exact Nat.le_refl _
      · exact Nat.le_trans (ih (by omega) (by omega)) (hstep j (by omega))
  have hslen : ∀ k, k ≤ ops.size → (Ss k).slots.length = (Ss 0).slots.length := by
    intro k
    induction k with
    | zero => intro _; rfl
    | succ k ih => intro hk; rw [(hrun k (by omega)).slots_len, ih (by omega)]
  have hnew : ∀ i b, i < ops.size → newIn (rs.getD i rc0) b → (Ss i).store.length ≤ b ∧ b < (Ss (i + 1)).store.length := fun i b hi hb => by
    have h1 := (hrun i hi).n; have h2 := (hrun i hi).len
    simp only [newIn] at hb
    omega
  have hnewd : ∀ i j b, i < ops.size → j < ops.size → newIn (rs.getD i rc0) b → newIn (rs.getD j rc0) b → i = j := by
    intro i j b hi hj h1 h2
    obtain ⟨a1, a2⟩ := hnew i b hi h1
    obtain ⟨b1, b2⟩ := hnew j b hj h2
    rcases Nat.lt_trichotomy i j with h | h | h
    · have := hmono (i + 1) j (by omega) (by omega); omega
    · exact h
    · have := hmono (j + 1) i (by omega) (by omega); omega
  have hvlt : ∀ i, i < ops.size → ∀ k ∈ (rs.getD i rc0).vis, k < (Ss i).store.length := fun i hi k hk => by
    rw [← (hrun i hi).n]; exact vis_lt (hrun i hi) k hk
  have hwlt : ∀ i, i < ops.size → ∀ k ∈ (rs.getD i rc0).wr, k < (Ss i).store.length := fun i hi k hk => hvlt i hi k (hwv i k hk)
  have fin : ∀ (listed : Array Bool) (a : Act) (c : Cx) (stE : List Blk), Inv gd ops rs Ss c0 n0 L listed a c stE → (∀ i, i < ops.size → listed.getD i true = true) → Q .normal a c.w := by
    intro listed a c stE I hall
    have hst : stE = (Ss ops.size).store := by
      apply List.ext_getElem?
      intro b
      rw [I.st b ops.size (Nat.le_refl _) fun i hi _ => ⟨fun _ => hall i hi, fun _ => hi⟩]
      simp only [pad, ← hL]
      split
      · rfl
      · rename_i h; rw [List.getElem?_eq_none (by omega)]
    exact hQ c a I.nz I.n {
      len := by rw [hslen _ (Nat.le_refl _), I.tl]
      slots := fun t h hh => by
        obtain ⟨v, e1, e2, _⟩ := I.sl t ops.size (Nat.le_refl _) (fun i hi _ => ⟨fun _ => hall i hi, fun _ => hi⟩) h hh
        exact ⟨v, e1, e2⟩
      store := by rw [← hst]; exact I.sg
      defers := I.df }
  intro fuel
  induction fuel with
  | zero =>
    intro listed a c stE I hcnt
    have hall : ∀ i, i < ops.size → listed.getD i true = true := by
      intro i hi
      have := List.countP_eq_zero.1 (Nat.le_zero.1 hcnt) i (by simpa using hi)
      simpa using this
    refine ⟨?_, fin listed a c stE I hall⟩
    apply List.eq_nil_iff_forall_not_mem.2
    intro j hj
    obtain ⟨h1, o, ho, _⟩ := mem_ready.1 hj
    have := hall j (Array.getElem?_eq_some_iff.1 ho).1
    rw [this] at h1; cases h1
  | succ fuel ih =>
    intro listed a c stE I hcnt
    have hls := I.ls
    refine ⟨fun hnil => ?_, fun j hj => ?_⟩
    · refine fin listed a c stE I fun i => ?_
      induction i using Nat.strongRecOn with
      | _ i ihi =>
        intro hi
        cases hli : listed.getD i true
        · have : i ∈ Region.ready .any ops listed := mem_ready.2 ⟨hli, ops[i]!, hop i hi, fun e he hb => by
            have hlt := hed i _ (hop i hi) e (by simpa using he) hb
            have := ihi e.on hlt (by omega)
            have hel : e.on < listed.size := by omega
            simpa [Array.getD_eq_getD_getElem?, hel] using this⟩
          rw [hnil] at this; simp at this
        · rfl
    · obtain ⟨hj1, o, ho, hpre⟩ := mem_ready.1 hj
      have hjn : j < ops.size := (Array.getElem?_eq_some_iff.1 ho).1
      have ldf : ∀ i, i < ops.size → (listed.getD i false = listed.getD i true) := fun i hi => by
        have : i < listed.size := by omega
        simp [Array.getD_eq_getD_getElem?, this]
      have before : ∀ i, ((ancs ops.toList).getD j 0).testBit i = true → listed.getD i true = true := by
        intro i h
        obtain ⟨o', ho', e, he, hb, h3⟩ := ancs_spec ops.toList [] j (by simp) h
        simp only [List.length_nil, Nat.sub_zero, Array.getElem?_toList] at ho'
        rw [ho] at ho'; cases ho'
        have hlt := hed j o ho e he hb
        have hle : listed.getD e.on true = true := by
          rw [← ldf e.on (by omega)]
          exact hpre e (by simpa using he) hb
        rcases h3 with rfl | h3
        · exact hle
        · exact I.cl i e.on h3 (by omega) hle
      have after : ∀ i, i < ops.size → ((ancs ops.toList).getD i 0).testBit j = true → listed.getD i true = false := by
        intro i hi h
        cases hli : listed.getD i true
        · rfl
        · have := I.cl j i h hi hli
          rw [this] at hj1; cases hj1
      have hlt' : ∀ i, (listed.setIfInBounds j true).getD i true = if i = j then true else listed.getD i true := by
        intro i
        split
        · rename_i e; subst e
          by_cases h : i < listed.size <;> simp [h]
        · rename_i e; exact getD_set_ne true (Ne.symm e)
      have free1 : ∀ i, i < j → listed.getD i true = false → (ops[i]!).apart ops o = true ∧ freeB (rs.getD i rc0) (rs.getD j rc0) = true := fun i hij hl => by
        rcases hord i j _ _ hij (hop i (by omega)) ho with h | h
        · rw [before i h] at hl; cases hl
        · exact h
      have free2 : ∀ i, j < i → i < ops.size → listed.getD i true = true → o.apart ops ops[i]! = true ∧ freeB (rs.getD j rc0) (rs.getD i rc0) = true := fun i hij hi hl => by
        rcases hord j i _ _ hij ho (hop i hi) with h | h
        · rw [after i hi h] at hl; cases hl
        · exact h
      have hR := hrun j hjn
      have hRn := hR.n
      have hRl := hR.len
      have hdst : ∀ i t, i < ops.size → dstOf ops i = some t → (ops[i]!).dst = some t := fun i t hi h => by
        unfold dstOf at h
        rw [hop i hi] at h
        exact h
      have hksl : ∀ t ∈ o.looksAt ops, ∀ i, i < ops.size → dstOf ops i = some t → (i < j ↔ listed.getD i true = true) := by
        intro t ht i hi hdi
        have hdi' := hdst i t hi hdi
        rcases Nat.lt_trichotomy i j with h | h | h
        · refine ⟨fun _ => ?_, fun _ => h⟩
          cases hl : listed.getD i true
          · exact absurd ht ((Oper.apart_spec (free1 i h hl).1).1 t hdi')
          · rfl
        · subst h; simp [hj1]
        · refine ⟨fun h' => by omega, fun h' => ?_⟩
          exact absurd ht ((Oper.apart_spec (free2 i h hi h').1).2.2 t hdi')
      have hkv : ∀ b, (b ∈ (rs.getD j rc0).vis ∨ newIn (rs.getD j rc0) b) → ∀ i, i < ops.size → touches (rs.getD i rc0) b → (i < j ↔ listed.getD i true = true) := by
        intro b hb i hi ht
        rcases Nat.lt_trichotomy i j with h | h | h
        · refine ⟨fun _ => ?_, fun _ => h⟩
          cases hl : listed.getD i true
          · obtain ⟨f1, f2, f3⟩ := freeB_spec (free1 i h hl).2
            rcases hb with hb | hb
            · rcases ht with ht | ht
              · exact absurd hb (f1 b ht)
              · exact absurd ht (f3 b hb)
            · rcases ht with ht | ht
              · have h1 := hwlt i hi b ht
                have h2 := (hnew j b hjn hb).1
                have h3 := hmono i j (by omega) (by omega)
                omega
              · have := hnewd i j b hi hjn ht hb; omega
          · rfl
        · subst h; simp [hj1]
        · refine ⟨fun h' => by omega, fun h' => ?_⟩
          obtain ⟨f1, f2, f3⟩ := freeB_spec (free2 i h hi h').2
          rcases hb with hb | hb
          · rcases ht with ht | ht
            · exact absurd hb (f2 b ht)
            · have h1 := hvlt j hjn b hb
              have h2 := (hnew i b hi ht).1
              have h3 := hmono j i (by omega) (by omega)
              omega
          · rcases ht with ht | ht
            · exact absurd hb (f3 b (hwv i b ht))
            · have := hnewd i j b hi hjn ht hb; omega
      have hnj : n0 ≤ (rs.getD j rc0).n := by rw [hn0, hRn]; exact hmono 0 j (by omega) (by omega)
      have hnm : (rs.getD j rc0).n + (rs.getD j rc0).m ≤ L := by rw [← hRl, hL]; exact hmono (j + 1) ops.size (by omega) (Nat.le_refl _)
      have hvB : ∀ k ∈ (rs.getD j rc0).vis, Bn rs ops.size n0 listed k := by
        intro k hk
        by_cases hk0 : k < n0
        · exact .inl hk0
        · have hklt := hvlt j hjn k hk
          have : ∃ i, i < j ∧ newIn (rs.getD i rc0) k := by
            have gen : ∀ q, q ≤ j → k < (Ss q).store.length → ∃ i, i < q ∧ newIn (rs.getD i rc0) k := by
              intro q
              induction q with
              | zero => intro _ h; omega
              | succ q ihq =>
                intro hq h
                by_cases hlt : k < (Ss q).store.length
                · obtain ⟨i, h1, h2⟩ := ihq (by omega) hlt
                  exact ⟨i, by omega, h2⟩
                · refine ⟨q, by omega, ?_⟩
                  have h1 := (hrun q (by omega)).n; have h2 := (hrun q (by omega)).len
                  simp only [newIn]; omega
            exact gen j (Nat.le_refl _) hklt
          obtain ⟨i, hij, hni⟩ := this
          refine .inr ⟨i, by omega, ?_, hni⟩
          cases hl : listed.getD i true
          · exact absurd hni ((freeB_spec (free1 i hij hl).2).2.2 k hk)
          · rfl
      have hBnew : ∀ i, Bn rs ops.size n0 listed i → ¬ newIn (rs.getD j rc0) i := by
        rintro i (h | ⟨k, hk, hl, hn⟩) hni
        · have := (hnew j i hjn hni).1
          rw [← hRn] at this
          omega
        · have := hnewd k j i hk hjn hn hni
          subst this
          rw [hl] at hj1; cases hj1
      have Bmono : ∀ i, Bn rs ops.size n0 listed i → Bn rs ops.size n0 (listed.setIfInBounds j true) i := by
        rintro i (h | ⟨k, hk, hl, hn⟩)
        · exact .inl h
        · refine .inr ⟨k, hk, ?_, hn⟩
          rw [hlt']; split
          · rfl
          · exact hl
      have Bj : ∀ k, (k ∈ (rs.getD j rc0).vis ∨ newIn (rs.getD j rc0) k) → Bn rs ops.size n0 (listed.setIfInBounds j true) k := by
        rintro k (h | h)
        · exact Bmono k (hvB k h)
        · exact .inr ⟨j, hjn, by rw [hlt', if_pos rfl], h⟩
      have hfull : (rs.getD j rc0).full = true → ∀ (k : Nat) y, (rs.getD j rc0).n ≤ k → stE[k]? = some y → y = .gone := by
        intro hf k y hk hy
        have hall : ∀ i, i < ops.size → touches (rs.getD i rc0) k → (i < j ↔ listed.getD i true = true) := by
          intro i hi ht
          rcases Nat.lt_trichotomy i j with h | h | h
          · refine ⟨fun _ => ?_, fun _ => h⟩
            cases hl : listed.getD i true
            · have := (freeB_full (free1 i h hl).2).2
              rw [hf] at this; cases this
            · rfl
          · subst h; simp [hj1]
          · refine ⟨fun h' => by omega, fun h' => ?_⟩
            have := (freeB_full (free2 i h hi h').2).1
            rw [hf] at this; cases this
        rw [I.st k j (by omega) hall] at hy
        simp only [pad] at hy
        rw [hRn] at hk
        rw [if_neg (by omega)] at hy
        split at hy
        · cases hy; rfl
        · simp at hy
      refine hR.step ho I.sg hnj (by rw [I.n]; exact hnm) hfull (fun k hk => ?_) (fun k hk => ?_) (B := Bn rs ops.size n0 listed) hBnew I.ct (fun t ht g hg => by
        exact I.sl t j (by omega) (hksl t ht) g hg) fun c' h' v st2 nz hcn S2 LB hv e hids hspec hct => ?_
      · rw [I.st k j (by omega) (hkv k (.inl hk))]
        simp only [pad]
        rw [if_pos (hvlt j hjn k hk)]
      · rw [I.st k j (by omega) (hkv k (.inr hk))]
        obtain ⟨q1, q2⟩ := hnew j k hjn hk
        simp only [pad]
        have hlt : k < L := by have := hmono (j + 1) ops.size (by omega) (Nat.le_refl _); omega
        rw [if_neg (by omega), if_pos hlt]
      refine ih (listed.setIfInBounds j true) (a.put o.dst v) c' st2 {
        nz := I.nz.trans nz
        n := hcn.trans I.n
        sg := S2
        tl := by rw [← I.tl]; cases o.dst <;> simp [Act.put]
        df := by rw [← I.df]; cases o.dst <;> rfl
        ls := by simpa using I.ls
        cl := fun i k h hk hl => by
          rw [hlt'] at hl ⊢
          split
          · rfl
          · rename_i hij
            split at hl
            · rename_i hkj; subst hkj; exact before i h
            · exact I.cl i k h hk hl
        sl := fun t k hk hcons g hg => ?_
        st := fun b k hk hcons => ?_
        ct := fun k b hb i hi => ?_ } ?_
      · by_cases htd : o.dst = some t
        · have hdj : dstOf ops j = some t := by unfold dstOf; rw [ho]; exact htd
          have hjk : j < k := (hcons j hjn hdj).2 (by rw [hlt', if_pos rfl])
          have hno : ∀ i, j + 1 ≤ i → i < k → (Ss (i + 1)).slots[t]? = (Ss i).slots[t]? := by
            intro i h1 h2
            refine (hrun i (by omega)).slot_keep fun hdi => ?_
            have hl := (hcons i (by omega) hdi).1 h2
            rw [hlt', if_neg (by omega)] at hl
            exact (Oper.apart_spec (free2 i (by omega) (by omega) hl).1).2.1 t htd (hdst i t (by omega) hdi)
          have hsame := const_range (fun i => (Ss i).slots[t]?) (j + 1) k (by omega) hno
          rw [hsame, e, htd] at hg
          simp only [St.put, List.getElem?_set, if_pos] at hg
          split at hg
          · rename_i hlt
            cases hg
            refine ⟨v, ?_, hv, fun id hid => (hids id hid).elim (Bj id) (Bmono id)⟩
            have : t < a.tmps.size := by rw [I.tl, ← hslen j (by omega)]; exact hlt
            rw [htd]
            simp [Act.put, this]
          · simp at hg
        · have hc2 : ∀ i, i < ops.size → dstOf ops i = some t → (i < k ↔ listed.getD i true = true) := by
            intro i hi hdi
            have := hcons i hi hdi
            rw [hlt'] at this
            have hij : i ≠ j := by rintro rfl; unfold dstOf at hdi; rw [ho] at hdi; exact htd hdi
            rwa [if_neg hij] at this
          obtain ⟨u, e1, e2, e3⟩ := I.sl t k hk hc2 g hg
          refine ⟨u, ?_, e2.mono LB (mapId_vis fun id hid => by simp only [only]; rw [if_pos (e3 id hid)]), fun id hid => Bmono id (e3 id hid)⟩
          cases hdo : o.dst with
          | none => exact e1
          | some d =>
            simp only [Act.put]
            rw [Array.getElem?_setIfInBounds_ne (by rintro rfl; exact htd hdo)]
            exact e1
      · have hEl : stE.length = L := by rw [I.sg.len, I.n]
        have h2l : st2.length = L := by rw [S2.len, hcn, I.n]
        by_cases hbL : b < L
        · by_cases htj : touches (rs.getD j rc0) b
          · have hjk : j < k := (hcons j hjn htj).2 (by rw [hlt', if_pos rfl])
            have hno : ∀ i, j + 1 ≤ i → i < k → pad L (Ss (i + 1)).store b = pad L (Ss i).store b := by
              intro i h1 h2
              refine (hrun i (by omega)).pad_keep fun hti => ?_
              have hl := (hcons i (by omega) hti).1 h2
              rw [hlt', if_neg (by omega)] at hl
              obtain ⟨f1, f2, f3⟩ := freeB_spec (free2 i (by omega) (by omega) hl).2
              rcases htj with hw | hw
              · rcases hti with hq | hq
                · exact f1 b hw (hwv i b hq)
                · have q1 := hwlt j hjn b hw
                  have q2 := (hnew i b (by omega) hq).1
                  have q3 := hmono j i (by omega) (by omega)
                  omega
              · rcases hti with hq | hq
                · exact f3 b (hwv i b hq) hw
                · have := hnewd i j b (by omega) hjn hq hw; omega
            have hsame := const_range (fun i => pad L (Ss i).store b) (j + 1) k (by omega) hno
            rw [hsame, hspec b (by rw [I.n]; exact hbL)]
            have hvn : b ∈ (rs.getD j rc0).vis ∨ newIn (rs.getD j rc0) b := htj.imp (hwv j b) id
            rw [if_pos hvn]
            have : b < (Ss (j + 1)).store.length := by
              rcases hvn with h | h
              · have := hvlt j hjn b h; have := hstep j hjn; omega
              · exact (hnew j b hjn h).2
            simp only [pad]
            rw [if_pos this]
          · have hc2 : ∀ i, i < ops.size → touches (rs.getD i rc0) b → (i < k ↔ listed.getD i true = true) := by
              intro i hi hti
              have := hcons i hi hti
              rw [hlt'] at this
              have hij : i ≠ j := by rintro rfl; exact htj hti
              rwa [if_neg hij] at this
            rw [← I.st b k hk hc2, hspec b (by rw [I.n]; exact hbL)]
            split
            · rename_i hvn
              have hvis : b ∈ (rs.getD j rc0).vis := hvn.resolve_right fun h => htj (.inr h)
              rw [I.st b j (by omega) (hkv b (.inl hvis)), hR.keep b (by rw [hRn]; exact hvlt j hjn b hvis) fun h => htj (.inl h)]
              simp only [pad]
              rw [if_pos (hvlt j hjn b hvis)]
            · rfl
        · rw [List.getElem?_eq_none (by omega)]
          have hkL : (Ss k).store.length ≤ L := by rw [hL]; exact hmono k ops.size hk (Nat.le_refl _)
          simp only [pad]
          rw [if_neg (by omega), if_neg hbL]
      · have hkL : k < L := by rw [← I.n, ← hcn, ← S2.len]; exact (List.getElem?_eq_some_iff.1 hb).1
        by_cases hvn : k ∈ (rs.getD j rc0).vis ∨ newIn (rs.getD j rc0) k
        · exact Bj i (hct k b hvn hb i hi)
        · rw [hspec k (by rw [I.n]; exact hkL), if_neg hvn] at hb
          exact Bmono i (I.ct k b hb i hi)
      · have hle : (List.range ops.size).countP (fun i => !(listed.setIfInBounds j true).getD i true) + 1 ≤ (List.range ops.size).countP (fun i => !listed.getD i true) := by
          have gen : ∀ (l : List Nat), l.Nodup → j ∈ l → l.countP (fun i => !(listed.setIfInBounds j true).getD i true) + 1 ≤ l.countP (fun i => !listed.getD i true) := by
            intro l
            induction l with
            | nil => intro _ h; simp at h
            | cons b l ihl =>
              intro hnd hm
              simp only [List.nodup_cons] at hnd
              by_cases hb : b = j
              · subst hb
                have same : l.countP (fun i => !(listed.setIfInBounds b true).getD i true) = l.countP (fun i => !listed.getD i true) := by
                  apply List.countP_congr
                  intro i hi
                  rw [hlt' i, if_neg (by rintro rfl; exact hnd.1 hi)]
                rw [List.countP_cons, List.countP_cons, same, hlt' b, if_pos rfl, hj1]
                simp
              · have hm' : j ∈ l := by simpa [Ne.symm hb] using hm
                have := ihl hnd.2 hm'
                rw [List.countP_cons, List.countP_cons, hlt' b, if_neg hb]
                omega
          exact gen _ List.nodup_range (by simpa using hjn)
        omega
end ops
end Go.Proofs.YtnhbcpmmdblkjaaDoorAm

namespace Go.Proofs.YtnhbcpmmdblkjaaDoorAm
open Go

theorem mapIdB_live {f:Nat→Option Nat} {x y:Blk} (e:mapIdB f x=some y):y.live=x.live:=by
 cases x with
 | arr e1 t xs z=>simp only [mapIdB,Option.some.injEq] at e; subst e; rfl
 | box e1 h z=>simp only [mapIdB,Option.map_eq_some_iff] at e; obtain ⟨_,_,rfl⟩:=e; rfl
 | gone=>simp only [mapIdB,Option.some.injEq] at e; subst e; rfl
theorem blksAll_ok {st : List Blk} : ∀ {ids : List Nat} {bs : List Blk}, blksAll st ids = some bs → bs.length = ids.length ∧ ∀ (k id : Nat), ids[k]? = some id → ∃ b, st[id]? = some b ∧ bs[k]? = some b
  | [], _, e => by simp only [blksAll, Option.some.injEq] at e; subst e; simp
  | i :: r, _, e => by
    simp only [blksAll] at e
    split at e
    · rename_i b bs hb hbs
      simp only [Option.some.injEq] at e; subst e
      obtain ⟨h1, h2⟩ := blksAll_ok hbs
      refine ⟨by simp [h1], fun k id hk => ?_⟩
      cases k with
      | zero => simp at hk; subst hk; exact ⟨b, hb, by simp⟩
      | succ k => simp at hk; simpa using h2 k id hk
    · simp at e
section pack
variable {gd:Gd} {c:Cx} {st:List Blk}
theorem pack_ok (S:SG gd c st) {loans:Nat} {order:List Nat} {hs hs':List HV} {bs':List Blk} (h:pack loans order hs st=some (hs',bs')) :
  Nz loans c (c.lend order)∧SG gd (c.lend order) bs'∧mapIdL (posOf order) hs=some hs'∧loans≤(c.lend order).n:=by
 unfold pack at h
 split at h
 ·rename_i hs2 bs hn htake hm hbl
  split at h
  ·rename_i bs2 hbs
   simp only [Option.some.injEq,Prod.mk.injEq] at h
   obtain ⟨rfl,rfl⟩:=h
   have htake:order.take loans=List.range loans:=by simpa using htake
   have hlen:loans≤order.length:=by
    have:=congrArg List.length htake
    simp at this; omega
   have hat:∀ i,i < loans→order[i]?=some i:=fun i hi=>by
    have:=congrArg (fun l=>l[i]?) htake
    simpa [List.getElem?_take,hi] using this
   obtain ⟨l1,l2⟩:=blksAll_ok hbl
   obtain ⟨m1,m2⟩:=mapIdBs_ok hbs
   have idlt:∀ (k id:Nat),order[k]?=some id→id < c.n:=fun k id hk=>by
    obtain ⟨b,h1,_⟩:=l2 k id hk
    rw [← S.len]; exact (List.getElem?_eq_some_iff.1 h1).1
   have at':∀ (k:Nat) y,bs2[k]?=some y→∃ id x,order[k]?=some id∧st[id]?=some x∧mapIdB (posOf order) x=some y∧(c.lend order).σ k=c.σ id:=by
    intro k y hk
    obtain ⟨x,hx,e⟩:=m2 k y hk
    have:k < order.length:=by rw [← l1]; exact (List.getElem?_eq_some_iff.1 hx).1
    obtain ⟨b,h1,h2⟩:=l2 k order[k] (by simp [this])
    rw [hx] at h2; cases h2
    exact ⟨order[k],x,by simp [this],h1,e,by simp [Cx.lend,this]⟩
   have old:∀ k s,k < order.length→(c.lend order).σ k=some s→∃ id,order[k]?=some id∧c.σ id=some s:=by
    intro k s hk hs
    simp only [Cx.lend,List.getElem?_eq_getElem hk,Option.bind_some] at hs
    exact ⟨order[k],by simp [hk],hs⟩
   refine ⟨⟨fun _ h=>h,fun _ _=>rfl,fun i hk hi=>⟨Nat.lt_of_lt_of_le hk hlen,by simp [Cx.lend,hat i hk]⟩,fun _ _ _=>rfl,fun _ h=>.inl h,fun k s hk hs=>?_,Nat.le_refl _,rfl,rfl,rfl⟩,?_,hm,hlen⟩
   ·obtain ⟨id,h1,h2⟩:=old k s hk hs
    exact .inl ⟨id,s,idlt k id h1,h2,rfl⟩
   ·exact {
     len:=by rw [m1,l1]; rfl
     im:=S.im
     blk:=fun k y hk=>by
      obtain ⟨id,x,h1,h2,h4,h5⟩:=at' k y hk
      exact (S.blk id x h2).mono Cx.lend_le h4 h5 (fun _ _=>rfl) fun _ _=>Iff.rfl
     inj:=fun i j x y s s' hne hx hy lx ly hs hs'=>by
      obtain ⟨i',x',h1,h2,h3,h5⟩:=at' i x hx
      obtain ⟨j',y',k1,k2,k3,k5⟩:=at' j y hy
      rw [h5] at hs; rw [k5] at hs'
      exact S.inj i' j' x' y' s s' (fun e=>hne (nodupB_inj hn h1 (e ▸ k1))) h2 k2 (by rw [← mapIdB_live h3]; exact lx) (by rw [← mapIdB_live k3]; exact ly) hs hs'
     g:=S.g
     low:=S.low
     own:=fun k s hk hs=>by
      obtain ⟨id,h1,h2⟩:=old k s hk hs
      exact S.own id s (idlt k id h1) h2 }
  ·simp at h
 ·simp at h
theorem keep_get (m : Nat) : ∀ (l : List HV) (i t : Nat) h, (keep m i l)[t]? = some h → ∃ g, l[t]? = some g ∧ (h = g ∨ h = .undef)
  | [], i, t, h, e => by simp [keep] at e
  | a :: r, i, 0, h, e => by
    simp only [keep, List.getElem?_cons_zero, Option.some.injEq] at e
    refine ⟨a, by simp, ?_⟩
    split at e
    · exact .inl e.symm
    · exact .inr e.symm
  | a :: r, i, t + 1, h, e => by
    simp only [keep, List.getElem?_cons_succ] at e
    simpa using keep_get m r (i + 1) t h e
theorem keep_length (m:Nat):∀ (l:List HV) (i:Nat),(keep m i l).length=l.length
 | [],i=>rfl
 | a::r,i=>by simp [keep,keep_length m r]
theorem mapIdL_get {f : Nat → Option Nat} : ∀ {hs hs' : List HV}, mapIdL f hs = some hs' → hs'.length = hs.length ∧ ∀ (t : Nat) h', hs'[t]? = some h' → ∃ h, hs[t]? = some h ∧ mapId f h = some h'
  | [], _, e => by simp only [mapIdL, Option.some.injEq] at e; subst e; simp
  | h :: hs, _, e => by
    simp only [mapIdL] at e
    split at e
    · rename_i x xs ex exs
      simp only [Option.some.injEq] at e; subst e
      obtain ⟨h1, h2⟩ := mapIdL_get exs
      refine ⟨by simp [h1], fun t h' ht => ?_⟩
      cases t with
      | zero => simp at ht; subst ht; exact ⟨h, by simp, ex⟩
      | succ t => simp at ht; simpa using h2 t h' ht
    · simp at e
theorem norm0_ok {loans m:Nat} {S S1:St} (h:norm0 loans m S=some S1) {a:Act} (A:AR gd c S a):∃ c',Nz loans c c'∧c'.w=c.w∧AR gd c' S1 a:=by
 unfold norm0 at h
 split at h
 ·rename_i sl bs hp
  simp only [Option.some.injEq] at h; subst h
  obtain ⟨nz,S',hm,_⟩:=pack_ok A.store hp
  obtain ⟨g1,g2⟩:=mapIdL_get hm
  refine ⟨_,nz,rfl,⟨by rw [g1,keep_length,A.len],fun t h' ht=>?_,S',A.defers⟩⟩
  obtain ⟨h,h1,h2⟩:=g2 t h' ht
  obtain ⟨g,h3,h4⟩:=keep_get _ _ _ _ _ h1
  obtain ⟨v,h5,h6⟩:=A.slots t g h3
  refine ⟨v,h5,?_⟩
  rcases h4 with rfl | rfl
  ·exact h6.mono Cx.lend_le h2
  ·simp only [mapId,Option.some.injEq] at h2; subst h2; trivial
 ·simp at h
theorem share_val (S:SG gd c st) {ids:List Nat} {h:HV} {t:Ty} {y:t.den} {v:Value} (e2:snap st h=some ⟨t,y⟩) (hid:∀ id ∈ idsOf h,id ∈ ids) (h1:HVR c h v):HVR (c.froze ids) (.iv t y) v:=by
 obtain ⟨hu,ht⟩:=snap_ne e2
 rw [HVR.eq hu ht] at h1
 have hc:=snap_ok S.toSR (Im':=(c.froze ids).Im) (fun b h=>.inl h) h1.1 e2 fun id' hm s' hs'=>.inr ⟨id',hid id' hm,s',hs',rfl⟩
 refine HVR.mkIv hc (h1.2.trans ?_)
 cases h <;> simp only [snap] at e2 <;> try (simp at e2; done)
 ·simp only [Option.some.injEq,Sigma.mk.injEq] at e2
  obtain ⟨rfl,_⟩:=e2; rfl
 ·split at e2
  ·simp only [Option.some.injEq,Sigma.mk.injEq] at e2
   obtain ⟨rfl,_⟩:=e2; rfl
  ·simp at e2
 ·split at e2
  ·simp only [Option.some.injEq,Sigma.mk.injEq] at e2
   obtain ⟨rfl,_⟩:=e2; rfl
  ·simp at e2
 ·simp only [hagg]; exact (snapL_agg e2).symm
theorem shOne_snap {h x:HV} (e:shOne st h=some x):∃ t y,snap st h=some ⟨t,y⟩∧x=.iv t y:=by
 cases h <;> simp only [shOne] at e <;> try (simp at e; done)
 ·exact ofSig_some e
 ·exact ofSig_some e
 ·obtain ⟨t,y,e1,e2⟩:=ofSig_some e
  exact ⟨t,y,by simpa only [snap] using e1,e2⟩
theorem shr_get (m : Nat) : ∀ (l : List HV) (i : Nat), (shr st m i l).1.length = l.length ∧ (∀ (t : Nat) h', (shr st m i l).1[t]? = some h' → ∃ h, l[t]? = some h ∧ (h' = h ∨ (shOne st h = some h' ∧ ∀ id ∈ idsOf h, id ∈ (shr st m i l).2))) ∧
    ∀ id ∈ (shr st m i l).2, ∃ b, st[id]? = some b ∧ b ≠ .gone
  | [], i => by simp [shr]
  | a :: r, i => by
    obtain ⟨g1, g2, g3⟩ := shr_get m r (i + 1)
    simp only [shr]
    split
    · rename_i x ht hx
      refine ⟨by simp [g1], fun t h' e => ?_, fun id hid => ?_⟩
      · cases t with
        | zero =>
          simp at e; subst e
          exact ⟨a, by simp, .inr ⟨hx, fun id hm => by simp [hm]⟩⟩
        | succ t =>
          simp at e
          obtain ⟨h, k1, k2⟩ := g2 t h' e
          refine ⟨h, by simpa using k1, k2.imp id fun ⟨q1, q2⟩ => ⟨q1, fun id hm => by simp [q2 id hm]⟩⟩
      · rcases List.mem_append.1 hid with hid | hid
        · obtain ⟨t, y, e1, _⟩ := shOne_snap hx
          exact snap_ids e1 id hid
        · exact g3 id hid
    · refine ⟨by simp [g1], fun t h' e => ?_, g3⟩
      cases t with
      | zero => simp at e; subst e; exact ⟨a, by simp, .inl rfl⟩
      | succ t => simp at e; simpa using g2 t h' e
theorem norm1_ok {loans m:Nat} {S S1:St} (h:norm1 loans m S=some S1) {a:Act} (A:AR gd c S a):∃ c',Nz loans c c'∧c'.w=c.w∧AR gd c' S1 a:=by
 unfold norm1 at h
 obtain ⟨g1,g2,g3⟩:=shr_get (st:=S.store) m S.slots 0
 generalize (shr S.store m 0 S.slots).2=ids at *
 generalize (shr S.store m 0 S.slots).1=sl at *
 obtain ⟨nx,S'⟩:=A.store.froze ids g3
 have A1:AR gd (c.froze ids) ⟨sl,freezeAt S.store ids⟩ a:=by
  refine ⟨by simp only [g1]; exact A.len,fun t h' ht=>?_,S',A.defers⟩
  obtain ⟨h,h1,h2⟩:=g2 t h' ht
  obtain ⟨v,h3,h4⟩:=A.slots t h h1
  refine ⟨v,h3,?_⟩
  rcases h2 with rfl | ⟨h5,h6⟩
  ·exact h4.mono nx.le (mapId_some _)
  ·obtain ⟨t,y,e1,rfl⟩:=shOne_snap h5
   exact share_val A.store e1 h6 h4
 obtain ⟨c',nz,hw,A2⟩:=norm0_ok h A1
 exact ⟨c',(nx.nz _).trans nz,hw,A2⟩
theorem unbox1_ok {S:St} {a:Act} {c:Cx} (A:AR gd c S a) (id:Nat):∃ c',Nx c c'∧c'.w=c.w∧AR gd c' ⟨S.slots,unbox1 S.store id⟩ a:=by
 unfold unbox1
 split
 ·rename_i e h hb
  split
  ·rename_i x hc hx
   obtain ⟨t,y,e1,rfl⟩:=shOne_snap hx
   obtain ⟨nx,S'⟩:=A.store.froze (idsOf h) (snap_ids e1)
   have hni:id ∉ idsOf h:=fun hm=>by simp [hm] at hc
   have hst:(freezeAt S.store (idsOf h))[id]?=some (.box e h false):=by rw [freezeAt_get,if_neg hni]; exact hb
   obtain ⟨s0,cur0,hs0,b1,_,_,b4,_⟩:=by simpa only [BlkR] using A.store.blk id _ hb
   obtain ⟨s,cur,hs,a1,_,a3,_,_⟩:=by simpa only [BlkR] using S'.blk id _ hst
   have hs':c.σ id=some s:=hs
   rw [hs0] at hs'; cases hs'
   have a1':c.w.heap[s0.b]?=some (.cells cur e (0,0)):=a1
   rw [b1] at a1'; cases a1'
   have hcell:=snap_ok A.store.toSR (Im':=(c.froze (idsOf h)).Im) (fun b h=>.inl h) b4 e1 fun id' hm s' hs'=>.inr ⟨id',hm,s',hs',rfl⟩
   have hid:id < (freezeAt S.store (idsOf h)).length:=(List.getElem?_eq_some_iff.1 hst).1
   have back:∀ (j:Nat) (z:Blk),((freezeAt S.store (idsOf h)).set id (.box e (.iv t y) false))[j]?=some z→∃ z',(freezeAt S.store (idsOf h))[j]?=some z'∧z'.live=z.live:=by
    intro j z hj
    by_cases hij:id=j
    ·subst hij
     rw [List.getElem?_set_self hid] at hj
     cases hj
     exact ⟨_,hst,rfl⟩
    ·rw [List.getElem?_set_ne hij] at hj
     exact ⟨z,hj,rfl⟩
   refine ⟨_,nx,rfl,A.len,fun t' h' ht=>?_,?_,A.defers⟩
   ·obtain ⟨v,h3,h4⟩:=A.slots t' h' ht
    exact ⟨v,h3,h4.mono nx.le (mapId_some _)⟩
   ·exact {
     len:=by rw [List.length_set]; exact S'.len
     im:=S'.im
     blk:=fun j z hj=>by
      by_cases hij:id=j
      ·subst hij
       rw [List.getElem?_set_self hid] at hj
       cases hj
       simp only [BlkR]
       refine ⟨s0,cur0,hs,a1,by simp,fun _=>a3 trivial,?_,?_⟩
       ·simp only [HC]; exact hcell
       ·have:=cellsR.length hcell
        simp only [hsz]; simpa using this
      ·rw [List.getElem?_set_ne hij] at hj
       exact S'.blk j z hj
     inj:=fun i j x y s s' hne hx hy lx ly hs hs'=>by
      obtain ⟨x',hx',ex⟩:=back i x hx
      obtain ⟨y',hy',ey⟩:=back j y hy
      exact S'.inj i j x' y' s s' hne hx' hy' (ex.trans lx) (ey.trans ly) hs hs'
     g:=S'.g
     low:=S'.low
     own:=S'.own }
  ·exact ⟨c,Nx.refl c,rfl,A⟩
 ·exact ⟨c,Nx.refl c,rfl,A⟩
theorem unbox_ok (m : Nat) {a : Act} : ∀ (l : List HV) (i : Nat) {S : St} {c : Cx}, AR gd c S a → ∃ c', Nx c c' ∧ c'.w = c.w ∧ AR gd c' ⟨S.slots, unbox m i l S.store⟩ a
  | [], i, S, c, A => ⟨c, Nx.refl c, rfl, A⟩
  | h :: r, i, S, c, A => by
    simp only [unbox]
    split
    · obtain ⟨c1, n1, w1, A1⟩ := unbox1_ok A _
      obtain ⟨c2, n2, w2, A2⟩ := unbox_ok m r (i + 1) A1
      exact ⟨c2, n1.trans n2, w2.trans w1, A2⟩
    · exact unbox_ok m r (i + 1) A
theorem norm_ok {loans m:Nat} {S S1:St} (h:norm loans m S=some S1) {a:Act} (A:AR gd c S a):∃ c',Nz loans c c'∧c'.w=c.w∧AR gd c' S1 a:=by
 unfold norm at h
 obtain ⟨c1,n1,w1,A1⟩:=unbox_ok m S.slots 0 A
 obtain ⟨c2,n2,w2,A2⟩:=norm1_ok h A1
 exact ⟨c2,(n1.nz _).trans n2,w2.trans w1,A2⟩
end pack

section ops
variable {gd:Gd} {P:Program} {E:Env} {α:Type} {r:α}
theorem drew_ok {c:Cx} {S:St} {a:Act} (A:AR gd c S a):∃ c',c'.w={ c.w with drawn:=c.w.drawn + 1 }∧Nx c c'∧AR gd c' S a:=by
 obtain ⟨nx,S'⟩:=A.store.grow (w':={ c.w with drawn:=c.w.drawn + 1 }) (fun _=>False) (fun _ _ _=>rfl) (Nat.le_refl _) rfl rfl rfl (fun _ h=>h.elim) [] [] rfl (by simp) (by simp) (by simp)
 refine ⟨_,rfl,nx,A.len,fun t h ht=>?_,by simpa using S',A.defers⟩
 obtain ⟨v,h1,h2⟩:=A.slots t h ht
 exact ⟨v,h1,h2.mono nx.le (mapId_some _)⟩
theorem region_plain (hE:EnvOK P E) {C:CT} (hC:CTOK gd P C) {id:Nat} {ops:Array Oper} {S:St} {K:St→Option α}
  (h:(runIx E C ops (List.range ops.size) [] S fun ps S'=>K S')=some r) :
  ∃ S',K S'=some r∧∀ (c:Cx) (a:Act),AR gd c S a→(Code.region id ops false).wp P (fun e a' w'=>e=.normal∧∃ c',c'.w=w'∧Nx c c'∧AR gd c' S' a') a c.w:=by
 obtain ⟨qs,S',hk,hch⟩:=runIx_ok hE hC _ _ _ _ h
 exact ⟨S',hk,fun c a A=>wp_region (hch.wp _ _ _ _ c a A fun c' a' nx A'=>⟨rfl,c',rfl,nx,A'⟩)⟩
theorem region_drawn (hE : EnvOK P E) (hP : P.follows .mixedOrders = true) {C : CT} (hC : CTOK gd P C) {id : Nat} {ops : Array Oper} {S : St} {K : St → Option α}
    (h : (runIxL E C ops (List.range ops.size) [] S fun rs S' => match drawOk ops rs with
      | true => K S'
      | false => none) = some r) :
    ∃ S', K S' = some r ∧ ∀ (c : Cx) (a : Act), AR gd c S a → (Code.region id ops true).wp P (fun e a' w' => e = .normal ∧ ∃ c', c'.w = w' ∧ Nx c c' ∧ AR gd c' S' a') a c.w := by
  obtain ⟨rs, S', hk, hch⟩ := runIxL_ok hE hC _ _ _ _ h
  simp only [List.reverse_nil, List.nil_append] at hk
  split at hk
  · rename_i hd
    refine ⟨S', hk, fun c a A => wp_region_any hP ?_⟩
    rw [List.range_eq_range'] at hch
    obtain ⟨hl, Ss, e1, e2, hrun⟩ := ChainL.states _ _ _ _ _ hch
    simp only [Nat.zero_add] at e2 hrun
    have hlens : ∀ k, k ≤ ops.size → (Ss 0).store.length ≤ (Ss k).store.length := by
      intro k
      induction k with
      | zero => intro _; exact Nat.le_refl _
      | succ k ih =>
        intro hk
        have h1 := (hrun k (by omega)).n; have h2 := (hrun k (by omega)).len
        have := ih (by omega)
        omega
    have hL0 := hlens ops.size (Nat.le_refl _)
    have hn0 : (Ss 0).store.length = c.n := by rw [e1]; exact A.store.len
    obtain ⟨nx, S1⟩ := A.store.grow (w' := { c.w with drawn := c.w.drawn + 1 }) (fun _ => False) (fun _ _ _ => rfl) (Nat.le_refl _) rfl rfl rfl (fun _ h => h.elim)
      (List.replicate ((Ss ops.size).store.length - c.n) none) (List.replicate ((Ss ops.size).store.length - c.n) .gone) (by simp)
      (fun k s hk => by rw [List.getElem?_replicate] at hk; split at hk <;> simp at hk)
      (fun i j s s' _ hi _ => by rw [List.getElem?_replicate] at hi; split at hi <;> simp at hi)
      (fun _ k x hk => by rw [List.getElem?_replicate] at hk; split at hk <;> simp at hk; subst hk; trivial)
    have hidlt : ∀ i, i < c.n → Bn rs ops.size (Ss 0).store.length (Array.replicate ops.size false) i := fun i hi => .inl (by omega)
    have hnol : ∀ i, i < ops.size → (Array.replicate ops.size false).getD i true = false := fun i hi => by simp [hi]
    have key := any_ok (gd := gd) (P := P) (Q := fun e a' w' => e = .normal ∧ ∃ c', c'.w = w' ∧ Nx c c' ∧ AR gd c' S' a') hd hrun (c0 := c) rfl rfl
      (fun c' a' nz hn A' => ⟨rfl, c', rfl, Nz.nx (by rw [← hn0]; exact nz) (by rw [hn]; omega), by rw [← e2]; exact A'⟩) ops.size (Array.replicate ops.size false) a
      (c.more { c.w with drawn := c.w.drawn + 1 } (List.replicate ((Ss ops.size).store.length - c.n) none)) (S.store ++ List.replicate ((Ss ops.size).store.length - c.n) .gone) {
        nz := nx.nz _
        n := by simp only [Cx.more, List.length_replicate]; omega
        sg := S1
        tl := by rw [e1]; exact A.len.symm
        df := A.defers
        ls := by simp
        cl := fun i j _ hj hl => by rw [hnol j hj] at hl; cases hl
        sl := fun t k hk hc g hg => by
          have hno : ∀ i, 0 ≤ i → i < k → (Ss (i + 1)).slots[t]? = (Ss i).slots[t]? := fun i _ h2 =>
            (hrun i (by omega)).slot_keep fun hdi => by
              have hl := (hc i (by omega) hdi).1 h2
              rw [hnol i (by omega)] at hl; cases hl
          have hsame := const_range (fun i => (Ss i).slots[t]?) 0 k (by omega) hno
          rw [hsame, e1] at hg
          obtain ⟨v, h1, h2⟩ := A.slots t g hg
          exact ⟨v, h1, h2.mono nx.le (mapId_some _), fun id hid => hidlt id (h2.lt id hid)⟩
        st := fun b k hk hc => by
          have hno : ∀ i, 0 ≤ i → i < k → pad (Ss ops.size).store.length (Ss (i + 1)).store b = pad (Ss ops.size).store.length (Ss i).store b := fun i _ h2 =>
            (hrun i (by omega)).pad_keep fun hti => by
              have hl := (hc i (by omega) hti).1 h2
              rw [hnol i (by omega)] at hl; cases hl
          have hsame := const_range (fun i => pad (Ss ops.size).store.length (Ss i).store b) 0 k (by omega) hno
          rw [hsame]
          have hsl : S.store.length = c.n := A.store.len
          simp only [pad, e1]
          by_cases hlt : b < S.store.length
          · rw [if_pos hlt, List.getElem?_append_left hlt]
          · rw [if_neg hlt, List.getElem?_append_right (by omega), List.getElem?_replicate]
            by_cases h2 : b < (Ss ops.size).store.length
            · rw [if_pos h2, if_pos (by omega)]
            · rw [if_neg h2, if_neg (by omega)]
        ct := fun k b hb i hi => by
          rw [List.getElem?_append] at hb
          split at hb
          · exact hidlt i ((A.store.blk k b hb).lt i hi)
          · rw [List.getElem?_replicate] at hb
            split at hb
            · cases hb; simp [blkIds] at hi
            · simp at hb } (Nat.le_trans List.countP_le_length (by simp))
    exact key
  · simp at hk
end ops
end Go.Proofs.YtnhbcpmmdblkjaaDoorAm

namespace Go.Proofs.YtnhbcpmmdblkjaaDoorAm
open Go

def resOne (tmps:Array Value):ResultVar→Sem Value
 | .tmp t=>pure (tmps.getD t undef)
 | .cell a t=>do loadVar t (← asAddr (tmps.getD a undef))
theorem results_run {fn:Func} {rs:List ResultVar} (h:fn.results.toList=rs) {P:Program} {w:World} {tmps:Array Value} {vs:List Value} (hr:(rs.mapM (resOne tmps)).run P w=.ok vs w) :
  (results fn tmps).run P w=.ok (if h:vs.toArray.size=1 then vs.toArray[0] else .tuple vs.toArray) w:=by
 have e:fn.results=rs.toArray:=by rw [← h]
 have hm:(fn.results.mapM (resOne tmps)).run P w=.ok vs.toArray w:=by
  rw [e,List.mapM_toArray,map_eq_pure_bind,Sem.run_bind,hr,Result.andThen_ok,Sem.run_pure]
 have hfn:results fn tmps=(do
   let vs ← fn.results.mapM (resOne tmps)
   pure (if h:vs.size=1 then vs[0] else .tuple vs)):=by
  unfold results
  congr 1
 rw [hfn,Sem.run_bind,hm]
 rfl

section ops
variable {gd:Gd} {P:Program} {E:Env} {α:Type} {r:α}

theorem readRes_ok (hE : EnvOK P E) {S : St} : ∀ {rs : List ResultVar} {tys : List Nat} {hs : List HV}, readRes E S rs tys = some hs → ∀ {c : Cx} {a : Act}, AR gd c S a →
    ∃ vs, (rs.mapM (resOne a.tmps)).run P c.w = .ok vs c.w ∧ HVL c hs vs
  | [], tys, hs, h, c, a, A => by
    have : hs = [] := by cases tys <;> simpa [readRes] using h.symm
    subst this
    exact ⟨[], by simp, by simp [HVL]⟩
  | .tmp t :: rs, tys, hs, h, c, a, A => by
    cases tys with
    | nil => simp [readRes] at h
    | cons ty tys =>
      simp only [readRes] at h
      split at h
      · rename_i hs' ht hr
        split at h
        · rename_i u hty
          simp only [Option.some.injEq] at h; subst h
          obtain ⟨vs, h1, h2⟩ := readRes_ok hE hr A
          obtain ⟨v, e1, e2⟩ := A.slots t _ ht
          rw [HVR.nil] at e2; subst e2
          refine ⟨.slice none 0 0 :: vs, ?_, ⟨_, _, rfl, ?_, h2⟩⟩
          · simp [resOne, h1, Array.getD_eq_getD_getElem?, e1]
          · exact HVR.mkIv (by simp only [cellsR]; exact ⟨none, 0, rfl, ⟨Nat.le_refl _, fun _ => rfl⟩, .inl trivial⟩) rfl
        · simp at h
      · rename_i h' hs' hnn ht hr
        simp only [Option.some.injEq] at h; subst h
        obtain ⟨vs, h1, h2⟩ := readRes_ok hE hr A
        obtain ⟨v, e1, e2⟩ := A.slots t _ ht
        refine ⟨v :: vs, ?_, ⟨_, _, rfl, e2, h2⟩⟩
        simp [resOne, h1, Array.getD_eq_getD_getElem?, e1]
      · simp at h
  | .cell x ty :: rs, tys, hs, h, c, a, A => by
    cases tys with
    | nil => simp [readRes] at h
    | cons ty' tys =>
      simp only [readRes] at h
      split at h
      · rename_i id path off n g hs' ht hl hr
        split at h
        · rename_i e cont z hb
          split at h
          · rename_i q o hg ho
            split at h
            · rename_i hc
              obtain ⟨eo, hn, hag⟩ := hc
              subst eo
              simp only [Option.some.injEq] at h; subst h
              obtain ⟨vs, h1, h2⟩ := readRes_ok hE hr A
              obtain ⟨v, e1, e2⟩ := A.slots x _ ht
              rw [HVR.cell (by simp) (by simp) rfl] at e2
              obtain ⟨⟨hid, s, hs, ev⟩, _⟩ := by simpa only [HC] using e2
              simp only [List.cons.injEq, and_true] at ev
              obtain ⟨s', cur, hs', a1, _, _, a4, a5⟩ := by simpa only [BlkR] using A.store.blk id _ hb
              rw [hs] at hs'; cases hs'
              obtain ⟨b1, b2⟩ := getP_ok a4 (by simpa using a5) hg ho
              rw [hn] at b2
              obtain ⟨u, k1, k2⟩ := loadVar_ok hE hl s.b o cur e (0, 0) a1 (by omega) b2 hn hag
              refine ⟨u :: vs, ?_, ⟨_, _, rfl, k2, h2⟩⟩
              simp [resOne, h1, Array.getD_eq_getD_getElem?, e1, ev, asAddr, k1]
            · simp at h
          · simp at h
        · simp at h
      · simp at h

theorem asShared_ok {c : Cx} {st : List Blk} (S : SG gd c st) {ids : List Nat} : ∀ {hs hs' : List HV} {vs : List Value}, HVL c hs vs → asSharedL st hs = some hs' → (∀ id ∈ shIdsL hs, id ∈ ids) → HVL (c.froze ids) hs' vs
  | [], _, _, hh, e, _ => by simp only [asSharedL, Option.some.injEq] at e; subst e; simpa only [HVL] using hh
  | h :: r, _, vs, hh, e, hid => by
    simp only [asSharedL] at e
    split at e
    · rename_i x xs ex exs
      simp only [Option.some.injEq] at e; subst e
      obtain ⟨v, rest, e1, h1, h2⟩ := hh.cons
      refine ⟨v, rest, e1, ?_, asShared_ok S h2 exs fun id hm => hid id (by simp [shIdsL, hm])⟩
      unfold asShared at ex
      split at ex
      · simp only [Option.some.injEq] at ex; subst ex
        exact h1.mono (c' := c.froze ids) ⟨fun _ h => .inl h, fun _ _ => rfl, fun i j hi e => by cases e; exact ⟨hi, rfl⟩⟩ (mapId_some _)
      · rename_i hno
        obtain ⟨t, y, e2, rfl⟩ := ofSig_some ex
        obtain ⟨hu, ht⟩ := snap_ne e2
        rw [HVR.eq hu ht] at h1
        have hshid : ∀ id ∈ idsOf h, id ∈ ids := fun id hm => hid id (by
          simp only [shIdsL, List.mem_append]
          refine .inl ?_
          cases h <;> first | exact hm | (simp [snap] at e2))
        have hc := snap_ok S.toSR (Im' := (c.froze ids).Im) (fun b h => .inl h) h1.1 e2 fun id' hm s' hs' => .inr ⟨id', hshid id' hm, s', hs', rfl⟩
        refine HVR.mkIv hc (h1.2.trans ?_)
        cases h <;> simp only [snap] at e2 <;> try (simp at e2; done)
        · simp only [Option.some.injEq, Sigma.mk.injEq] at e2
          obtain ⟨rfl, _⟩ := e2; rfl
        · split at e2
          · simp only [Option.some.injEq, Sigma.mk.injEq] at e2
            obtain ⟨rfl, _⟩ := e2; rfl
          · simp at e2
        · split at e2
          · simp only [Option.some.injEq, Sigma.mk.injEq] at e2
            obtain ⟨rfl, _⟩ := e2; rfl
          · simp at e2
        · simp only [hagg]; exact (snapL_agg e2).symm
    · simp at e
theorem asShared_live {st : List Blk} : ∀ {hs hs' : List HV}, asSharedL st hs = some hs' → ∀ id ∈ shIdsL hs, ∃ b, st[id]? = some b ∧ b ≠ .gone
  | [], _, _, id, hm => by simp [shIdsL] at hm
  | h :: r, _, e, id, hm => by
    simp only [asSharedL] at e
    split at e
    · rename_i x xs ex exs
      simp only [shIdsL, List.mem_append] at hm
      rcases hm with hm | hm
      · unfold asShared at ex
        split at ex
        · simp [shIds] at hm
        · obtain ⟨t, y, e2, _⟩ := ofSig_some ex
          refine snap_ids e2 id ?_
          cases h <;> first | exact hm | (simp [snap] at e2)
      · exact asShared_live exs id hm
    · simp at e

def RetOK (gd:Gd) (P:Program) (F:Fi) (c:Cx) (res:HV) (st':List Blk) (a':Act) (w':World):Prop :=
 a'.defers=[]∧∃ v,(∀ fn:Func,fn.results.toList=F.results→(results fn a'.tmps).run P w'=.ok v w') ∧
   ∃ c',c'.w=w'∧Nz F.loans c c'∧F.loans≤c'.n∧SG gd c' st'∧HVR c' res v
def OutOK (gd:Gd) (P:Program) (F:Fi) (c:Cx):Out→Exit→Act→World→Prop
 | .normal S',e,a',w'=>e=.normal∧∃ c',c'.w=w'∧Nz F.loans c c'∧AR gd c' S' a'
 | .exit id S',e,a',w'=>e=.exit id∧∃ c',c'.w=w'∧Nz F.loans c c'∧AR gd c' S' a'
 | .ret res st',e,a',w'=>e=.ret∧RetOK gd P F c res st' a' w'
def CodeOK (gd:Gd) (P:Program) (F:Fi) (code:Code) (S:St) (o:Out):Prop:=∀ (c:Cx) (a:Act),AR gd c S a→code.wp P (OutOK gd P F c o) a c.w
def PieceOK (gd:Gd) (P:Program) (F:Fi) (code:Code) (p:Piece):Prop :=
 ∀ {α:Type} {r:α} (S:St) (K:Out→Option α),p.run S K=some r→∃ o,K o=some r∧CodeOK gd P F code S o
def NodesOK (gd:Gd) (P:Program) (F:Fi) (code:Code):Prop:=∀ q ∈ nodes F code,PieceOK gd P F q.1 q.2

theorem OutOK.back {F:Fi} {c c1:Cx} (nz:Nz F.loans c c1) {o:Out} {e:Exit} {a:Act} {w:World} (h:OutOK gd P F c1 o e a w):OutOK gd P F c o e a w:=by
 cases o with
 | normal S'=>obtain ⟨h1,c',h2,h3,h4⟩:=h; exact ⟨h1,c',h2,nz.trans h3,h4⟩
 | exit id S'=>obtain ⟨h1,c',h2,h3,h4⟩:=h; exact ⟨h1,c',h2,nz.trans h3,h4⟩
 | ret r st'=>obtain ⟨h1,h2,v,h3,c',h4,h5,h6⟩:=h; exact ⟨h1,h2,v,h3,c',h4,nz.trans h5,h6⟩

theorem retV_ok (hE : EnvOK P E) {F : Fi} {S : St} {K : Out → Option α} (h : retV E F S K = some r) : ∃ res st', K (.ret res st') = some r ∧ ∀ (c : Cx) (a : Act), AR gd c S a → RetOK gd P F c res st' a c.w := by
  unfold retV at h
  split at h
  · simp at h
  · rename_i hs0 hr
    split at h
    · simp at h
    · rename_i hs hsh
      split at h
      · rename_i hs' bs' hns hp
        refine ⟨_, _, h, fun c a A => ?_⟩
        obtain ⟨vs, h1, h2⟩ := readRes_ok hE hr A
        have key : ∃ c1, c1.w = c.w ∧ Nx c c1 ∧ SG gd c1 (match F.owns with | true => S.store | false => freezeAt S.store (shIdsL hs0)) ∧ HVL c1 hs vs := by
          revert hsh
          cases F.owns with
          | true =>
            intro hsh
            simp only [Option.some.injEq] at hsh; subst hsh
            exact ⟨c, rfl, .refl c, A.store, h2⟩
          | false =>
            intro hsh
            obtain ⟨nx, S1⟩ := A.store.froze (shIdsL hs0) (asShared_live hsh)
            exact ⟨c.froze (shIdsL hs0), rfl, nx, S1, asShared_ok A.store h2 hsh fun _ h => h⟩
        obtain ⟨c1, hw, nx, S1, hv1⟩ := key
        obtain ⟨nz, S2, hm, hn⟩ := pack_ok S1 hp
        have hv2 := hv1.mono Cx.lend_le hm
        refine ⟨A.defers, _, fun fn hfn => results_run hfn h1, c1.lend (dedup (List.range F.loans) (idsOfL hs)), hw, (nx.nz _).trans nz, hn, S2, ?_⟩
        revert hm hv2
        generalize dedup (List.range F.loans) (idsOfL hs) = ord
        intro hm hv2
        have tup : ∀ (hs hs' : List HV) (vs : List Value), noSubL hs = true → mapIdL (posOf ord) hs = some hs' → HVL (c1.lend ord) hs' vs → HVs (c1.lend ord) hs' vs := by
          intro hs
          induction hs with
          | nil => intro hs' vs _ e h; simp only [mapIdL, Option.some.injEq] at e; subst e; simpa only [HVL, HVs] using h
          | cons q qs ih =>
            intro hs' vs hn e h
            simp only [mapIdL] at e
            split at e
            · rename_i x xs ex exs
              simp only [Option.some.injEq] at e; subst e
              simp only [noSubL, Bool.and_eq_true] at hn
              obtain ⟨v, rest, e1, g1, g2⟩ := h.cons
              refine ⟨v, rest, e1, ?_⟩
              have hx : x ≠ .undef ∧ ∀ ps, x ≠ .tuple ps := by
                cases q <;> simp only [noSub] at hn <;> try (simp at hn; done)
                all_goals
                  simp only [mapId, Option.some.injEq, Option.map_eq_some_iff] at ex
                  first
                    | (subst ex; exact ⟨by simp, by simp⟩)
                    | (obtain ⟨_, _, rfl⟩ := ex; exact ⟨by simp, by simp⟩)
              rw [HVR.eq hx.1 hx.2] at g1
              exact ⟨g1.1, g1.2, ih xs rest hn.2 exs g2⟩
            · simp at e
        have hvs := tup hs hs' vs hns hm hv2
        match hs', vs, hv2, hvs with
        | [h0], [v0], hv2, _ => exact HVL.one.1 hv2
        | [], [], _, hvs => exact ⟨[], rfl, hvs⟩
        | _ :: _ :: _, v0 :: v1 :: vr, _, hvs => exact ⟨v0 :: v1 :: vr, by simp, hvs⟩
        | [h0], [], hv2, _ => simp [HVL] at hv2
        | [h0], _ :: _ :: _, hv2, _ => simp [HVL] at hv2
        | [], _ :: _, hv2, _ => simp [HVL] at hv2
        | _ :: _ :: _, [], hv2, _ => simp [HVL] at hv2
        | _ :: _ :: _, [_], hv2, _ => obtain ⟨_, _, e, _, h2⟩ := hv2; simp only [List.cons.injEq] at e; obtain ⟨_, e⟩ := e; subst e; simp [HVL] at h2
      · simp at h

theorem runC_ok (hE : EnvOK P E) (hP : P.follows .mixedOrders = true) {C : CT} (hC : CTOK gd P C) {F : Fi} : ∀ (code : Code) {α : Type} {r : α} (S : St) (K : Out → Option α), NodesOK gd P F code → runC E C F code S K = some r →
    ∃ o, K o = some r ∧ CodeOK gd P F code S o
  | .skip, α, r, S, K, hN, h => by
    simp only [runC] at h
    exact ⟨_, h, fun c a A => wp_skip ⟨rfl, c, rfl, .refl _ c, A⟩⟩
  | .region id ops draw, α, r, S, K, hN, h => by
    simp only [runC] at h
    cases draw with
    | false =>
      obtain ⟨S', h1, h2⟩ := region_plain (gd := gd) (id := id) hE hC (K := fun S' => K (.normal S')) h
      exact ⟨_, h1, fun c a A => wp_mono (h2 c a A) fun e a' w' ⟨h1, c', h2, h3, h4⟩ => ⟨h1, c', h2, h3.nz _, h4⟩⟩
    | true =>
      obtain ⟨S', h1, h2⟩ := region_drawn (gd := gd) (id := id) hE hP hC (K := fun S' => K (.normal S')) h
      exact ⟨_, h1, fun c a A => wp_mono (h2 c a A) fun e a' w' ⟨h1, c', h2, h3, h4⟩ => ⟨h1, c', h2, h3.nz _, h4⟩⟩
  | .seq x y, α, r, S, K, hN, h => by
    unfold runC at h
    split at h
    · rename_i p hp
      split at h
      · rename_i S1 hS1
        obtain ⟨o, h1, h2⟩ := hN (.seq x y, p) (by simp [nodes, hp]) S1 K h
        refine ⟨o, h1, fun c a A => ?_⟩
        obtain ⟨c1, nz, hw, A1⟩ := norm_ok hS1 A
        have := h2 c1 a A1
        rw [hw] at this
        exact wp_mono this fun e a w => OutOK.back nz
      · simp at h
    · rename_i hp
      have hNx : NodesOK gd P F x := fun q hq => hN q (by simp [nodes, hp, hq])
      have hNy : NodesOK gd P F y := fun q hq => hN q (by simp [nodes, hp, hq])
      obtain ⟨o, h1, h2⟩ := runC_ok hE hP hC x S _ hNx h
      cases o with
      | normal S' =>
        obtain ⟨o, h3, h4⟩ := runC_ok hE hP hC y S' K hNy h1
        refine ⟨o, h3, fun c a A => wp_seq (wp_mono (h2 c a A) fun e a' w' h => ?_)⟩
        obtain ⟨rfl, c', rfl, nz, A'⟩ := h
        exact wp_mono (h4 c' a' A') fun e a w => OutOK.back nz
      | exit id S' =>
        refine ⟨_, h1, fun c a A => wp_seq (wp_mono (h2 c a A) fun e a' w' h => ?_)⟩
        obtain ⟨rfl, h⟩ := h
        exact ⟨rfl, h⟩
      | ret res st' =>
        refine ⟨_, h1, fun c a A => wp_seq (wp_mono (h2 c a A) fun e a' w' h => ?_)⟩
        obtain ⟨rfl, h⟩ := h
        exact ⟨rfl, h⟩
  | .cond x y z, α, r, S, K, hN, h => by
    simp only [runC] at h
    split at h
    · rename_i t ht
      have hNx : NodesOK gd P F y := fun q hq => hN q (by simp [nodes, hq])
      have hNy : NodesOK gd P F z := fun q hq => hN q (by simp [nodes, hq])
      cases t with
      | true =>
        obtain ⟨o, h1, h2⟩ := runC_ok hE hP hC y S K hNx h
        refine ⟨o, h1, fun c a A => ?_⟩
        have := opnd_ok ht fun t _ g hg => A.slots t g hg
        rw [HVR.bool] at this
        exact wp_cond_true this (h2 c a A)
      | false =>
        obtain ⟨o, h1, h2⟩ := runC_ok hE hP hC z S K hNy h
        refine ⟨o, h1, fun c a A => ?_⟩
        have := opnd_ok ht fun t _ g hg => A.slots t g hg
        rw [HVR.bool] at this
        exact wp_cond_false this (h2 c a A)
    · simp at h
  | .block id x, α, r, S, K, hN, h => by
    unfold runC at h
    split at h
    · rename_i p hp
      split at h
      · rename_i S1 hS1
        obtain ⟨o, h1, h2⟩ := hN (.block id x, p) (by simp [nodes, hp]) S1 K h
        refine ⟨o, h1, fun c a A => ?_⟩
        obtain ⟨c1, nz, hw, A1⟩ := norm_ok hS1 A
        have := h2 c1 a A1
        rw [hw] at this
        exact wp_mono this fun e a w => OutOK.back nz
      · simp at h
    · rename_i hp
      have hNx : NodesOK gd P F x := fun q hq => hN q (by simp [nodes, hp, hq])
      obtain ⟨o, h1, h2⟩ := runC_ok hE hP hC x S _ hNx h
      cases o with
      | normal S' =>
        refine ⟨_, h1, fun c a A => wp_block (wp_mono (h2 c a A) fun e a' w' h => ?_)⟩
        obtain ⟨rfl, h⟩ := h
        exact ⟨rfl, h⟩
      | exit id' S' =>
        simp only at h1
        split at h1
        · rename_i he
          have he : id' = id := by simpa using he
          subst he
          refine ⟨_, h1, fun c a A => wp_block (wp_mono (h2 c a A) fun e a' w' h => ?_)⟩
          obtain ⟨rfl, h⟩ := h
          simp only [Exit.inBlock, if_true]
          exact ⟨rfl, h⟩
        · rename_i he
          have he : id' ≠ id := by simpa using he
          refine ⟨_, h1, fun c a A => wp_block (wp_mono (h2 c a A) fun e a' w' h => ?_)⟩
          obtain ⟨rfl, h⟩ := h
          simp only [Exit.inBlock, he, if_false]
          exact ⟨rfl, h⟩
      | ret res st' =>
        refine ⟨_, h1, fun c a A => wp_block (wp_mono (h2 c a A) fun e a' w' h => ?_)⟩
        obtain ⟨rfl, h⟩ := h
        exact ⟨rfl, h⟩
  | .exit id, α, r, S, K, hN, h => by
    simp only [runC] at h
    split at h
    · split at h
      · rename_i m hm S1 hS1
        refine ⟨_, h, fun c a A => wp_exit ?_⟩
        obtain ⟨c1, nz, hw, A1⟩ := norm_ok hS1 A
        exact ⟨rfl, c1, hw, nz, A1⟩
      · simp at h
    · exact ⟨_, h, fun c a A => wp_exit ⟨rfl, c, rfl, .refl _ c, A⟩⟩
  | .ret, α, r, S, K, hN, h => by
    simp only [runC] at h
    obtain ⟨res, st', h1, h2⟩ := retV_ok (gd := gd) hE h
    exact ⟨_, h1, fun c a A => wp_ret ⟨rfl, h2 c a A⟩⟩
  | .loop _, _, _, _, _, _, h | .label _, _, _, _, _, _, h | .goto _, _, _, _, _, _, h => by simp [runC] at h
end ops
end Go.Proofs.YtnhbcpmmdblkjaaDoorAm

namespace Go.Proofs.YtnhbcpmmdblkjaaDoorAm
open Go

section dec
variable {gd:Gd} {c:Cx}
mutual
theorem SP.dec_ok : ∀ {x : SP} {h : HV} {v : x.V} {cs : List Value}, x.dec h = some v → HC c h cs → HC c (x.mk v) cs ∧ hsz (x.mk v) = hsz h ∧ hagg (x.mk v) = hagg h
  | .u, h, v, cs, e, hh => by
    cases h <;> simp only [SP.dec] at e <;> try (simp at e; done)
    exact ⟨hh, rfl, rfl⟩
  | .k, h, v, cs, e, hh => by
    cases h <;> simp only [SP.dec] at e <;> try (simp at e; done)
    exact ⟨hh, rfl, rfl⟩
  | .i t, h, v, cs, e, hh => by
    cases h <;> simp only [SP.dec] at e <;> try (simp at e; done)
    obtain ⟨et, e⟩ := castTo_eq e
    subst et; simp only at e; subst e
    exact ⟨hh, rfl, rfl⟩
  | .q t, h, v, cs, e, hh => by
    cases h <;> simp only [SP.dec] at e <;> try (simp at e; done)
    obtain ⟨et, e⟩ := castTo_eq e
    subst et; simp only at e; subst e
    exact ⟨hh, rfl, rfl⟩
  | .o id, h, v, cs, e, hh => by
    cases h <;> simp only [SP.dec] at e <;> try (simp at e; done)
    split at e
    · rename_i he; subst he; exact ⟨hh, rfl, rfl⟩
    · simp at e
  | .p id path off, h, v, cs, e, hh => by
    cases h <;> simp only [SP.dec] at e <;> try (simp at e; done)
    split at e
    · rename_i he; obtain ⟨rfl, rfl, rfl⟩ := he; exact ⟨hh, rfl, rfl⟩
    · simp at e
  | .s id, h, v, cs, e, hh => by
    cases h <;> simp only [SP.dec] at e <;> try (simp at e; done)
    split at e
    · rename_i he; subst he
      simp only [Option.some.injEq] at e; subst e
      exact ⟨hh, rfl, rfl⟩
    · simp at e
  | .a ps, h, v, cs, e, hh => by
    cases h <;> simp only [SP.dec] at e <;> try (simp at e; done)
    simp only [HC, SP.mk] at hh ⊢
    obtain ⟨g1, g2⟩ := SP.decL_ok e hh
    exact ⟨g1, by simpa only [hsz] using g2, rfl⟩
  | .f g ps, h, v, cs, e, hh => by
    cases h <;> simp only [SP.dec] at e <;> try (simp at e; done)
    split at e
    · rename_i he; subst he
      simp only [HC, SP.mk] at hh ⊢
      obtain ⟨vs, e1, h2⟩ := hh
      exact ⟨⟨vs, e1, SP.decV_ok e h2⟩, rfl, rfl⟩
    · simp at e
theorem SP.decL_ok : ∀ {xs : List SP} {hs : List HV} {v : SP.VL xs} {cs : List Value}, SP.decL xs hs = some v → HCs c hs cs → HCs c (SP.mkL xs v) cs ∧ hszL (SP.mkL xs v) = hszL hs
  | [], [], v, cs, e, hh => ⟨hh, rfl⟩
  | x :: xs, h :: hs, v, cs, e, hh => by
    simp only [SP.decL] at e
    split at e
    · rename_i a b ea eb
      simp only [Option.some.injEq] at e; subst e
      simp only [HCs] at hh
      obtain ⟨c1, c2, e1, h1, h2, h3⟩ := hh
      obtain ⟨g1, g2, _⟩ := SP.dec_ok ea h2
      obtain ⟨k1, k2⟩ := SP.decL_ok eb h3
      refine ⟨?_, by simp only [SP.mkL, hszL]; omega⟩
      simp only [SP.mkL, HCs]
      exact ⟨c1, c2, e1, by omega, g1, k1⟩
    · simp at e
  | [], _ :: _, _, _, e, _ | _ :: _, [], _, _, e, _ => by simp [SP.decL] at e
theorem SP.decV_ok : ∀ {xs : List SP} {hs : List HV} {v : SP.VL xs} {cs : List Value}, SP.decL xs hs = some v → HVs c hs cs → HVs c (SP.mkL xs v) cs
  | [], [], v, cs, e, hh => hh
  | x :: xs, h :: hs, v, cs, e, hh => by
    simp only [SP.decL] at e
    split at e
    · rename_i a b ea eb
      simp only [Option.some.injEq] at e; subst e
      simp only [HVs] at hh
      obtain ⟨u, r, e1, h1, h2, h3⟩ := hh
      obtain ⟨g1, _, g2⟩ := SP.dec_ok ea h1
      simp only [SP.mkL, HVs]
      exact ⟨u, r, e1, g1, by rw [g2]; exact h2, SP.decV_ok eb h3⟩
    · simp at e
  | [], _ :: _, _, _, e, _ | _ :: _, [], _, _, e, _ => by simp [SP.decL] at e
end
theorem SP.decS_ok {x:SP} {h:HV} {v:x.V} {u:Value} (e:x.decS h=some v) (hh:HVR c h u):HVR c (x.mk v) u:=by
 by_cases hx:x=.u
 ·subst hx; trivial
 ·have e':x.dec h=some v:=by cases x <;> first | exact absurd rfl hx | exact e
  have hu:h ≠ .undef:=by
   rintro rfl
   cases x <;> simp [SP.dec] at e' <;> exact absurd rfl hx
  have ht:∀ ps,h ≠ .tuple ps:=by
   rintro ps rfl
   cases x <;> simp [SP.dec] at e'
  rw [HVR.eq hu ht] at hh
  obtain ⟨g1,_,g2⟩:=SP.dec_ok e' hh.1
  have:x.mk v ≠ .undef∧∀ ps,x.mk v ≠ .tuple ps:=by
   cases x <;> first | exact absurd rfl hx | (constructor <;> intros <;> simp [SP.mk])
  rw [HVR.eq this.1 this.2]
  exact ⟨g1,hh.2.trans g2.symm⟩
theorem SP.decLS_ok : ∀ {xs : List SP} {hs : List HV} {v : SP.VL xs}, SP.decLS xs hs = some v → (SP.mkL xs v).length = hs.length ∧ ∀ (t : Nat) g, (SP.mkL xs v)[t]? = some g → ∃ h, hs[t]? = some h ∧ ∀ {c : Cx} {u : Value}, HVR c h u → HVR c g u
  | [], [], v, e => ⟨rfl, by simp [SP.mkL]⟩
  | x :: xs, h :: hs, v, e => by
    simp only [SP.decLS] at e
    split at e
    · rename_i a b ea eb
      simp only [Option.some.injEq] at e; subst e
      obtain ⟨g1, g2⟩ := SP.decLS_ok eb
      refine ⟨by simp [SP.mkL, g1], fun t g ht => ?_⟩
      cases t with
      | zero =>
        simp only [SP.mkL, List.getElem?_cons_zero, Option.some.injEq] at ht; subst ht
        exact ⟨h, by simp, fun hh => SP.decS_ok ea hh⟩
      | succ t =>
        simp only [SP.mkL, List.getElem?_cons_succ] at ht
        simpa using g2 t g ht
    · simp at e
  | [], _ :: _, _, e | _ :: _, [], _, e => by simp [SP.decLS] at e
theorem BP.dec_ok {x : BP} {b : Blk} {v : x.V} (e : x.dec b = some v) {id : Nat} (h : BlkR c id b) : BlkR c id (x.mk v) ∧ ((x.mk v).live = true → b.live = true) := by
  cases x with
  | gone => exact ⟨trivial, by simp [BP.mk, Blk.live]⟩
  | arr el t z =>
    cases b <;> simp only [BP.dec] at e <;> try (simp at e; done)
    split at e
    · rename_i he; obtain ⟨he, rfl⟩ := he
      obtain ⟨et, e⟩ := castTo_eq e
      simp only [Ty.sl.injEq] at et; subst et
      simp only at e; subst e
      rcases he with rfl | rfl
      · exact ⟨h, fun h => h⟩
      · refine ⟨?_, fun h => h⟩
        simp only [BP.mk, BlkR] at h ⊢
        cases hs : c.σ id with
        | none => simpa only [hs] using h
        | some s =>
          simp only [hs] at h
          obtain ⟨_, _, _, _, _, _, _, _, _, _, h9⟩ := h
          exact absurd rfl h9
    · simp at e
  | box el q z =>
    cases b <;> simp only [BP.dec] at e <;> try (simp at e; done)
    split at e
    · rename_i he; obtain ⟨rfl, rfl⟩ := he
      simp only [BlkR] at h
      obtain ⟨s, cur, hs, a1, a2, a3, a4, a5⟩ := h
      obtain ⟨g1, g2, _⟩ := SP.dec_ok e a4
      refine ⟨?_, fun hl => hl⟩
      simp only [BP.mk, BlkR]
      exact ⟨s, cur, hs, a1, a2, a3, g1, by omega⟩
    · simp at e
theorem BP.decL_ok : ∀ {xs : List BP} {bs : List Blk} {v : BP.VL xs}, BP.decL xs bs = some v → (BP.mkL xs v).length = bs.length ∧ ∀ (k : Nat) y, (BP.mkL xs v)[k]? = some y → ∃ b, bs[k]? = some b ∧ (y.live = true → b.live = true) ∧ ∀ {c : Cx} {id : Nat}, BlkR c id b → BlkR c id y
  | [], [], v, e => ⟨rfl, by simp [BP.mkL]⟩
  | x :: xs, b :: bs, v, e => by
    simp only [BP.decL] at e
    split at e
    · rename_i a q ea eq
      simp only [Option.some.injEq] at e; subst e
      obtain ⟨g1, g2⟩ := BP.decL_ok eq
      refine ⟨by simp [BP.mkL, g1], fun t g ht => ?_⟩
      cases t with
      | zero =>
        simp only [BP.mkL, List.getElem?_cons_zero, Option.some.injEq] at ht; subst ht
        refine ⟨b, by simp, ?_, fun hh => (BP.dec_ok ea hh).1⟩
        cases x with
        | gone => simp [BP.mk, Blk.live]
        | arr el t z =>
          cases b <;> simp only [BP.dec] at ea <;> try (simp at ea; done)
          split at ea
          · rename_i he; obtain ⟨_, rfl⟩ := he; exact id
          · simp at ea
        | box el q z =>
          cases b <;> simp only [BP.dec] at ea <;> try (simp at ea; done)
          split at ea
          · rename_i he; obtain ⟨rfl, rfl⟩ := he; exact id
          · simp at ea
      | succ t =>
        simp only [BP.mkL, List.getElem?_cons_succ] at ht
        simpa using g2 t g ht
    · simp at e
  | [], _ :: _, _, e | _ :: _, [], _, e => by simp [BP.decL] at e
theorem SG.dec {xs:List BP} {st:List Blk} {v:BP.VL xs} (e:BP.decL xs st=some v) (S:SG gd c st):SG gd c (BP.mkL xs v):=by
 obtain ⟨h1,h2⟩:=BP.decL_ok e
 exact {
  len:=by rw [h1]; exact S.len
  im:=S.im
  blk:=fun k y hy=>by
   obtain ⟨b,hb,_,g⟩:=h2 k y hy
   exact g (S.blk k b hb)
  inj:=fun i j x y s s' hne hx hy lx ly hs hs'=>by
   obtain ⟨b,hb,l1,_⟩:=h2 i x hx
   obtain ⟨b',hb',l2,_⟩:=h2 j y hy
   exact S.inj i j b b' s s' hne hb hb' (l1 lx) (l2 ly) hs hs'
  g:=S.g
  low:=S.low
  own:=S.own }
theorem AR.dec {p:Pt} {S:St} {v:p.V} (e:p.dec S=some v) {a:Act} (A:AR gd c S a):AR gd c (p.mk' v) a:=by
 unfold Pt.dec at e
 split at e
 ·rename_i x y ex ey
  simp only [Option.some.injEq] at e; subst e
  obtain ⟨h1,h2⟩:=SP.decLS_ok ex
  refine ⟨by simp only [Pt.mk']; rw [h1]; exact A.len,fun t g ht=>?_,A.store.dec ey,A.defers⟩
  obtain ⟨h,hh,k⟩:=h2 t g ht
  obtain ⟨u,e1,e2⟩:=A.slots t h hh
  exact ⟨u,e1,k e2⟩
 ·simp at e
end dec

section ops
variable {gd:Gd} {P:Program} {E:Env}
theorem CodeOK.dec {F:Fi} {code:Code} {p:Pt} {S:St} {v:p.V} (e:p.dec S=some v) {o:Out} (h:CodeOK gd P F code (p.mk' v) o):CodeOK gd P F code S o :=
 fun c a A=>h c a (A.dec e)
theorem piece_seq (hE : EnvOK P E) (hP : P.follows .mixedOrders = true) {C : CT} (hC : CTOK gd P C) {F : Fi} {x y : Code} (hx : NodesOK gd P F x) (hy : NodesOK gd P F y) {mi m : Nat} {p : Pt}
    {G : {α : Type} → p.V → (Out → Option α) → Option α} (hG : ∀ {α : Type} (v : p.V) (K : Out → Option α), runSeq E C F m (.seq x y) (p.mk' v) K = G v K) : PieceOK gd P F (.seq x y) (mkPiece mi p G) := by
  intro α r S K h
  simp only [mkPiece] at h
  split at h
  · rename_i v hv
    rw [← hG] at h
    simp only [runSeq] at h
    obtain ⟨o, h1, h2⟩ := runC_ok hE hP hC x _ _ hx h
    cases o with
    | normal S' =>
      obtain ⟨o, h3, h4⟩ := runC_ok hE hP hC y S' _ hy h1
      have both : CodeOK gd P F (.seq x y) (p.mk' v) o := fun c a A => wp_seq (wp_mono (h2 c a A) fun e a' w' h => by
        obtain ⟨rfl, c', rfl, nz, A'⟩ := h
        exact wp_mono (h4 c' a' A') fun e a w => OutOK.back nz)
      cases o with
      | normal S2 =>
        simp only at h3
        split at h3
        · rename_i S3 hS3
          refine ⟨_, h3, CodeOK.dec hv fun c a A => wp_mono (both c a A) fun e a' w' h => ?_⟩
          obtain ⟨rfl, c', rfl, nz, A'⟩ := h
          obtain ⟨c1, nz1, hw, A1⟩ := norm_ok hS3 A'
          exact ⟨rfl, c1, hw, nz.trans nz1, A1⟩
        · simp at h3
      | exit id S2 => exact ⟨_, h3, CodeOK.dec hv both⟩
      | ret res st' => exact ⟨_, h3, CodeOK.dec hv both⟩
    | exit id S' =>
      refine ⟨_, h1, CodeOK.dec hv fun c a A => wp_seq (wp_mono (h2 c a A) fun e a' w' h => ?_)⟩
      obtain ⟨rfl, h⟩ := h
      exact ⟨rfl, h⟩
    | ret res st' =>
      refine ⟨_, h1, CodeOK.dec hv fun c a A => wp_seq (wp_mono (h2 c a A) fun e a' w' h => ?_)⟩
      obtain ⟨rfl, h⟩ := h
      exact ⟨rfl, h⟩
  · simp at h

theorem rounds_mono {c : Code} {Q Q' : Exit → Act → World → Prop} (hq : ∀ e a w, Q e a w → Q' e a w) : ∀ (n : Nat) (a : Act) (w : World), Code.rounds P c Q n a w → Code.rounds P c Q' n a w
  | 0, _, _, h => h
  | n + 1, a, w, h => by
    rw [rounds_succ] at h ⊢
    refine wp_mono h fun e a w h => ?_
    cases e <;> first | exact rounds_mono hq n a w h | exact hq _ _ _ h
theorem inBlock_mono {id:Nat} {Q Q':Exit→Act→World→Prop} (hq:∀ e a w,Q e a w→Q' e a w):∀ e a w,Exit.inBlock id Q e a w→Exit.inBlock id Q' e a w:=by
 intro e a w h
 cases e <;> simp only [Exit.inBlock] at h ⊢ <;> try exact hq _ _ _ h
 split
 ·rename_i he; simp only [he,if_true] at h; exact hq _ _ _ h
 ·rename_i he; simp only [he,if_false] at h; exact hq _ _ _ h
theorem piece_loop (hE : EnvOK P E) (hP : P.follows .mixedOrders = true) {C : CT} (hC : CTOK gd P C) {F : Fi} {id : Nat} {body : Code} (hb : NodesOK gd P F body) {mi m : Nat} {p : Pt}
    (G : Nat → {α : Type} → p.V → (Out → Option α) → Option α) (h0 : ∀ {α : Type} (v : p.V) (K : Out → Option α), G 0 v K = none)
    (hG : ∀ (n : Nat) {α : Type} (v : p.V) (K : Out → Option α), runRound E C F m (mkPiece mi p (G n)).run (.block id (.loop body)) (p.mk' v) K = G (n + 1) v K) (n : Nat) :
    PieceOK gd P F (.block id (.loop body)) (mkPiece mi p (G n)) := by
  have key : ∀ (n : Nat) {α : Type} {r : α} (S : St) (K : Out → Option α), (mkPiece mi p (G n)).run S K = some r →
      ∃ o, K o = some r ∧ ∀ (c : Cx) (a : Act), AR gd c S a → Code.rounds P body (Exit.inBlock id (OutOK gd P F c o)) n a c.w := by
    intro n
    induction n with
    | zero =>
      intro α r S K h
      simp only [mkPiece] at h
      split at h
      · rw [h0] at h; simp at h
      · simp at h
    | succ n ih =>
      intro α r S K h
      simp only [mkPiece] at h
      split at h
      · rename_i v hv
        rw [← hG] at h
        simp only [runRound] at h
        obtain ⟨o, h1, h2⟩ := runC_ok hE hP hC body _ _ hb h
        cases o with
        | normal S' =>
          simp only at h1
          split at h1
          · rename_i S1 hS1
            obtain ⟨o, h3, h4⟩ := ih S1 K h1
            refine ⟨o, h3, fun c a A => ?_⟩
            rw [rounds_succ]
            refine wp_mono (h2 c a (A.dec hv)) fun e a' w' h => ?_
            obtain ⟨rfl, c', rfl, nz, A'⟩ := h
            obtain ⟨c1, nz1, hw, A1⟩ := norm_ok hS1 A'
            have := h4 c1 a' A1
            rw [hw] at this
            exact rounds_mono (inBlock_mono fun e a w => OutOK.back (nz.trans nz1)) n a' _ this
          · simp at h1
        | exit id' S' =>
          simp only at h1
          split at h1
          · rename_i he
            have he : id' = id := by simpa using he
            subst he
            refine ⟨_, h1, fun c a A => ?_⟩
            rw [rounds_succ]
            refine wp_mono (h2 c a (A.dec hv)) fun e a' w' h => ?_
            obtain ⟨rfl, h⟩ := h
            simp only [Exit.then, Exit.inBlock, if_true]
            exact ⟨rfl, h⟩
          · rename_i he
            have he : id' ≠ id := by simpa using he
            refine ⟨_, h1, fun c a A => ?_⟩
            rw [rounds_succ]
            refine wp_mono (h2 c a (A.dec hv)) fun e a' w' h => ?_
            obtain ⟨rfl, h⟩ := h
            simp only [Exit.then, Exit.inBlock, he, if_false]
            exact ⟨rfl, h⟩
        | ret res st' =>
          refine ⟨_, h1, fun c a A => ?_⟩
          rw [rounds_succ]
          refine wp_mono (h2 c a (A.dec hv)) fun e a' w' h => ?_
          obtain ⟨rfl, h⟩ := h
          exact ⟨rfl, h⟩
      · simp at h
  intro α r S K h
  obtain ⟨o, h1, h2⟩ := key n S K h
  exact ⟨o, h1, fun c a A => wp_block (wp_loop_rounds n (h2 c a A))⟩

theorem HVL.len {c : Cx} : ∀ {hs : List HV} {vs : List Value}, HVL c hs vs → vs.length = hs.length
  | [], _, h => by simp only [HVL] at h; simp [h]
  | h :: hs, _, hh => by
    obtain ⟨v, r, e, _, h2⟩ := hh.cons
    simp [e, h2.len]
theorem HVL.at {c : Cx} : ∀ {hs : List HV} {vs : List Value}, HVL c hs vs → ∀ (t : Nat) h, hs[t]? = some h → ∃ v, vs[t]? = some v ∧ HVR c h v
  | [], _, _, t, h, e => by simp at e
  | g :: hs, _, hh, t, h, e => by
    obtain ⟨v, r, rfl, h1, h2⟩ := hh.cons
    cases t with
    | zero => simp at e; subst e; exact ⟨v, by simp, h1⟩
    | succ t => simp at e; simpa using h2.at t h e
theorem HVL.of_at {c : Cx} : ∀ {hs : List HV} {vs : List Value}, vs.length = hs.length → (∀ (t : Nat) h, hs[t]? = some h → ∃ v, vs[t]? = some v ∧ HVR c h v) → HVL c hs vs
  | [], vs, hl, _ => by simpa [HVL] using hl
  | h :: hs, [], hl, _ => by simp at hl
  | h :: hs, v :: vs, hl, hh => by
    obtain ⟨v', e, h1⟩ := hh 0 h (by simp)
    simp at e; subst e
    exact ⟨v, vs, rfl, h1, HVL.of_at (by simpa using hl) fun t g hg => by simpa using hh (t + 1) g (by simpa using hg)⟩
theorem fn_snd (hE : EnvOK P E) (hP : P.follows .mixedOrders = true) {C : CT} (hC : CTOK gd P C) {F : Fi} {f : Nat} {fn : Func} (hf : P.funcs[f]? = some fn) (hn : (fn.name == "runtime.NumGoroutine") = false) {body : Code} (hb : fn.body = some body)
    (hres : fn.results.toList = F.results) (hN : NodesOK gd P F body) {α : Type} {r : α} {args : List HV} {loans : List Blk} (hl : loans.length = F.loans) {K : HV → List Blk → Option α} (h : runFn E C F fn args loans K = some r) :
    ∃ res st', K res st' = some r ∧ FnSnd gd P f args loans res st' := by
  unfold runFn at h
  rw [hb] at h
  simp only at h
  obtain ⟨o, h1, h2⟩ := runC_ok hE hP hC body _ _ hN h
  have start : ∀ (c : Cx) (vs : List Value), SG gd c loans → HVL c args vs → AR gd c ⟨args ++ List.replicate (fn.ntmps - args.length) .skip, loans⟩ { tmps := vs.toArray ++ Array.replicate (fn.ntmps - vs.toArray.size) undef, defers := [] } := by
    intro c vs S hh
    have hlen := hh.len
    refine ⟨by simp [hlen], fun t g ht => ?_, S, rfl⟩
    rw [List.getElem?_append] at ht
    split at ht
    · rename_i hlt
      obtain ⟨v, e1, e2⟩ := hh.at t g ht
      refine ⟨v, ?_, e2⟩
      rw [Array.getElem?_append]
      have : vs[t]'(by omega) = v := (List.getElem?_eq_some_iff.1 e1).2
      simp [hlen, hlt, this]
    · rename_i hlt
      rw [List.getElem?_replicate] at ht
      split at ht
      · rename_i h3
        cases ht
        refine ⟨undef, ?_, by rw [HVR.cell (by simp) (by simp) rfl]; exact ⟨by simp [HC], rfl⟩⟩
        rw [Array.getElem?_append]
        simp [hlen, hlt, h3]
      · simp at ht
  have fin : ∀ (res : HV) (st' : List Blk), (∀ (c : Cx) (a : Act), AR gd c ⟨args ++ List.replicate (fn.ntmps - args.length) .skip, loans⟩ a → body.wp P (fun e a' w' => (e = .ret ∨ e = .normal) ∧ RetOK gd P F c res st' a' w') a c.w) → FnSnd gd P f args loans res st' := by
    intro res st' hw c vs S hh
    refine FnDoes.of_calls hf hn (by simp [hb]) (calls_of_wp hf hb (wp_mono (hw c _ (start c vs S hh)) fun e a' w' ⟨he, hd, v, hr, c', q1, q2, q3, q4, q5⟩ => ?_))
    have hcn : c.n = F.loans := by rw [← S.len, hl]
    have post : a'.defers = [] ∧ ∃ v, (results fn a'.tmps).run P w' = .ok v w' ∧ ∃ v', Ending.returned v = Ending.returned v' ∧ ∃ c', c'.w = w' ∧ Nx c c' ∧ SG gd c' st' ∧ HVR c' res v' :=
      ⟨hd, v, hr fn hres, v, rfl, c', q1, Nz.nx (by rw [hcn]; exact q2) (by rw [hcn]; exact q3), q4, q5⟩
    rcases he with rfl | rfl
    · exact post
    · exact post
  cases o with
  | ret res st' => exact ⟨res, st', h1, fin res st' fun c a A => wp_mono (h2 c a A) fun e a' w' h => ⟨.inl h.1, h.2⟩⟩
  | normal S' =>
    simp only at h1
    obtain ⟨res, st', h3, h4⟩ := retV_ok (gd := gd) hE h1
    refine ⟨res, st', h3, fin res st' fun c a A => wp_mono (h2 c a A) fun e a' w' h => ?_⟩
    obtain ⟨rfl, c', rfl, nz, A'⟩ := h
    obtain ⟨d1, v, d2, c2, d3, d4, d5⟩ := h4 c' a' A'
    exact ⟨.inr rfl, d1, v, d2, c2, d3, nz.trans d4, d5⟩
  | exit id S' => simp at h1
theorem callee_ok {f:Nat} {loan:Bool} {p:Pt} {G:{α:Type}→p.V→(HV→List Blk→Option α)→Option α}
  (hG:∀ {α:Type} {r:α} (v:p.V) (K:HV→List Blk→Option α),G v K=some r→∃ res st',K res st'=some r∧FnSnd gd P f (SP.mkL p.slots v.1) (BP.mkL p.store v.2) res st'):CalleeOK gd P f (mkCallee loan p G):=by
 intro α r args loans K h
 simp only [mkCallee] at h
 split at h
 ·rename_i v hv
  obtain ⟨res,st',h1,h2⟩:=hG v K h
  refine ⟨res,st',h1,fun c vs S hh=>?_⟩
  unfold Pt.dec at hv
  split at hv
  ·rename_i x y ex ey
   simp only [Option.some.injEq] at hv; subst hv
   obtain ⟨g1,g2⟩:=SP.decLS_ok ex
   refine h2 c vs (S.dec ey) (HVL.of_at (by rw [g1]; exact hh.len) fun t g ht=>?_)
   obtain ⟨h,e1,e2⟩:=g2 t g ht
   obtain ⟨v,e3,e4⟩:=hh.at t h e1
   exact ⟨v,e3,e2 e4⟩
  ·simp at hv
 ·simp at h
end ops
end Go.Proofs.YtnhbcpmmdblkjaaDoorAm

namespace Go.Proofs.YtnhbcpmmdblkjaaDoorAm
open Go

theorem lk_mem {β : Type} : ∀ {l : List (Nat × β)} {k : Nat} {v : β}, lk l k = some v → (k, v) ∈ l
  | [], _, _, h => by simp [lk] at h
  | (a, b) :: r, k, v, h => by
    simp only [lk] at h
    split at h
    · rename_i e
      have e : a = k := by simpa using e
      simp only [Option.some.injEq] at h
      simp [e, h]
    · exact List.mem_cons_of_mem _ (lk_mem h)

def zeroTake : Ty → List Value → Option (List Value)
  | .int k, .int k' n :: r => if k = k' ∧ n = 0 then some r else none
  | .bool, .bool false :: r => some r
  | .str, .string s :: r => if s.size = 0 then some r else none
  | .sl _, .slice none 0 0 :: r => some r
  | .unit, r => some r
  | .pair a b, cs => match zeroTake a cs with
    | some r => zeroTake b r
    | none => none
  | _, _ => none
theorem zeroTake_ok : ∀ {t : Ty} {cs r : List Value}, zeroTake t cs = some r → cs = zeroCells t ++ r
  | .int k, cs, r, h => by
    unfold zeroTake at h
    split at h <;> try simp_all
    obtain ⟨⟨rfl, rfl⟩, rfl⟩ := h
    simp [zeroCells]
  | .bool, cs, r, h => by
    unfold zeroTake at h
    split at h <;> simp_all [zeroCells]
  | .str, cs, r, h => by
    unfold zeroTake at h
    split at h <;> try simp_all
    obtain ⟨h1, rfl⟩ := h
    simp [zeroCells]
  | .sl _, cs, r, h => by
    unfold zeroTake at h
    split at h <;> simp_all [zeroCells]
  | .unit, cs, r, h => by
    simp only [zeroTake, Option.some.injEq] at h
    simp [zeroCells, h]
  | .pair a b, cs, r, h => by
    simp only [zeroTake] at h
    split at h
    · rename_i q hq
      rw [zeroTake_ok hq, zeroTake_ok h]
      simp [zeroCells]
    · simp at h
def infoB (P : Program) (T : Nat) (t : Ty) : Bool := match P.info? T with
  | some i => i.size == t.size && Nat.blt 0 t.size && match i.zero with
    | some z => (match zeroTake t z.cells.toList with
      | some [] => true
      | _ => false)
    | none => false
  | none => false
theorem infoB_ok {P:Program} {T:Nat} {t:Ty} (h:infoB P T t=true):InfoOK P T t:=by
 unfold infoB at h
 split at h
 ·rename_i i hi
  simp only [Bool.and_eq_true,beq_iff_eq,Nat.blt_eq] at h
  obtain ⟨⟨h1,h2⟩,h3⟩:=h
  split at h3
  ·rename_i z hz
   split at h3
   ·rename_i hzt
    exact ⟨⟨i,z,hi,h1,hz,by simpa using zeroTake_ok hzt⟩,h2⟩
   ·simp at h3
  ·simp at h3
 ·simp at h
def sizeB (P:Program) (T n:Nat):Bool:=match P.info? T with
 | some i=>i.size == n
 | none=>false
theorem sizeB_ok {P:Program} {T n:Nat} (h:sizeB P T n=true):∃ i,P.info? T=some i∧i.size=n:=by
 unfold sizeB at h
 split at h
 ·rename_i i hi; exact ⟨i,hi,by simpa using h⟩
 ·simp at h
def fldB (P:Program):List Field→Ty→Nat→Bool
 | [],.unit,_=>true
 | f::fs,.pair a b,off=>f.offset == off && sizeB P f.type a.size && fldB P fs b (off + a.size)
 | _,_,_=>false
theorem fldB_ok {P : Program} : ∀ {fs : List Field} {t : Ty} {off : Nat}, fldB P fs t off = true → FldOK P fs t off
  | [], t, off, h => by cases t <;> simp_all [fldB, FldOK]
  | f :: fs, t, off, h => by
    cases t <;> simp only [fldB] at h <;> try (simp at h; done)
    simp only [Bool.and_eq_true, beq_iff_eq] at h
    exact ⟨h.1.1, sizeB_ok h.1.2, fldB_ok h.2⟩
def intB (P:Program) (T:Nat) (k:IntKind):Bool:=match P.underlying T with
 | some (.int k')=>decide (k=k')
 | _=>false
theorem intB_ok {P:Program} {T:Nat} {k:IntKind} (h:intB P T k=true):P.underlying T=some (.int k):=by
 unfold intB at h
 split at h
 ·rename_i k' hk; rw [hk]; simp only [decide_eq_true_eq] at h; rw [h]
 ·simp at h
def tyB (P : Program) (T : Nat) (t : Ty) : Bool := match t with
  | .int k => intB P T k
  | .bool => (match P.underlying T with
    | some .bool => true
    | _ => false)
  | .str => (match P.underlying T with
    | some .string => true
    | _ => false)
  | .sl t => (match P.underlying T with
    | some (.slice e) => (match t with
      | .int k => intB P e k
      | _ => true)
    | _ => false)
  | t => (match P.underlying T with
    | some (.struct fs) => fldB P fs.toList t 0
    | _ => false)
theorem tyB_ok {P:Program} {T:Nat} {t:Ty} (h:tyB P T t=true):TyOK P T t:=by
 cases t <;> simp only [tyB] at h
 case int k=>exact intB_ok h
 case bool=>split at h <;> simp_all [TyOK]
 case str=>split at h <;> simp_all [TyOK]
 case sl t =>
  split at h
  ·rename_i e he
   refine ⟨e,he,fun k ht=>?_⟩
   subst ht
   exact intB_ok h
  ·simp at h
 case unit =>
  split at h
  ·rename_i fs hfs; exact ⟨fs,hfs,fldB_ok h⟩
  ·simp at h
 case pair a b =>
  split at h
  ·rename_i fs hfs; exact ⟨fs,hfs,fldB_ok h⟩
  ·simp at h
def layB (P:Program) (T n:Nat) (g:Bool):Bool:=Nat.blt 0 n && sizeB P T n && match P.underlying T with
 | some (.struct _) | some (.array _ _)=>g
 | some _ => !g
 | none=>false
def foB (P : Program) (fs : Array Field) (f o : Nat) : Bool := match fs[f]? with
  | some fl => fl.offset == o && match P.info? fl.type with
    | some i => Nat.blt 0 i.size
    | none => false
  | none => false
def foL (P:Program) (fs:Array Field):Nat→List Nat→Bool
 | _,[]=>true
 | f,o::os=>foB P fs f o && foL P fs (f + 1) os
theorem foL_ok {P : Program} {fs : Array Field} : ∀ {os : List Nat} {b : Nat}, foL P fs b os = true → ∀ (k o : Nat), os[k]? = some o → foB P fs (b + k) o = true
  | [], _, _, k, o, h => by simp at h
  | a :: os, b, h, k, o, hk => by
    simp only [foL, Bool.and_eq_true] at h
    cases k with
    | zero => simp at hk; subst hk; exact h.1
    | succ k =>
      simp at hk
      have := foL_ok h.2 k o hk
      rwa [show b + 1 + k = b + (k + 1) by omega] at this
def limB (P:Program) (e l:Nat):Bool:=match P.info? e with
 | some i=>Nat.ble (l * i.bytes) 140737488355328 && Nat.ble l maxLen
 | none=>false
def envB (P:Program) (E:Env):Bool :=
 (E.sl.all fun (T,e,t)=>(match P.underlying T with
  | some (.slice e')=>e' == e
  | _=>false) && infoB P e t && !(e == 0)) &&
 (E.ty.all fun (T,t)=>tyB P T t && infoB P T t) &&
 (E.lay.all fun (T,n,g)=>layB P T n g) &&
 (E.fo.all fun (T,os)=>match P.underlying T with
  | some (.struct fs)=>foL P fs 0 os
  | _=>false) &&
 (E.lim.all fun (e,l)=>limB P e l) &&
 (E.ifs.all fun T=>match P.underlying T with
  | some (.interface _)=>true
  | _=>false)
theorem envB_ok {P:Program} {E:Env} (h:envB P E=true) (hq:∀ T t,lk E.eqs T=some t→P.eqGuardType P.depth T=false∧∀ (w:World) (Im:Nat→Prop) (x y:t.den) (vx vy:Array Value) (z:Bool),
  cellsR w Im t x vx.toList→cellsR w Im t y vy.toList→eqD t x y=some z→(Op.equal T (.agg vx) (.agg vy)).run P w=.ok z w):EnvOK P E:=by
 simp only [envB,Bool.and_eq_true,List.all_eq_true] at h
 obtain ⟨⟨⟨⟨⟨h1,h2⟩,h3⟩,h4⟩,h5⟩,h6⟩:=h
 refine ⟨fun T e t hl=>?_,fun T t hl=>?_,fun T n g hl=>?_,fun T os f o hl ho=>?_,fun T hl=>?_,fun e l hl=>?_,hq⟩
 ·have:=h1 _ (lk_mem hl)
  simp only [Bool.not_eq_true',beq_eq_false_iff_ne,ne_eq] at this
  obtain ⟨⟨g1,g2⟩,g3⟩:=this
  refine ⟨?_,infoB_ok g2,g3⟩
  split at g1
  ·rename_i e' he; rw [he]; simp only [beq_iff_eq] at g1; rw [g1]
  ·simp at g1
 ·have:=h2 _ (lk_mem hl)
  simp only [Bool.and_eq_true] at this
  exact ⟨tyB_ok this.1,infoB_ok this.2⟩
 ·have:=h3 _ (lk_mem hl)
  simp only [layB,Bool.and_eq_true,Nat.blt_eq] at this
  obtain ⟨⟨g1,g2⟩,g3⟩:=this
  refine ⟨g1,sizeB_ok g2,?_⟩
  split at g3
  ·rename_i d hd; exact ⟨_,hd,g3⟩
  ·rename_i d hd; exact ⟨_,hd,g3⟩
  ·rename_i d hd1 hd2 hd
   refine ⟨d,hd,?_⟩
   have g3:g=false:=by simpa using g3
   cases d <;> first | exact g3 | exact (hd1 _ rfl).elim | exact (hd2 _ _ rfl).elim | exact (hd _ rfl).elim | exact (hd _ _ rfl).elim
  ·simp at g3
 ·have:=h4 _ (lk_mem hl)
  simp only at this
  split at this
  ·rename_i fs hfs
   have:=foL_ok this f o ho
   rw [Nat.zero_add] at this
   unfold foB at this
   split at this
   ·rename_i fl hfl
    simp only [Bool.and_eq_true,beq_iff_eq] at this
    obtain ⟨g1,g2⟩:=this
    split at g2
    ·rename_i i hi
     simp only [Nat.blt_eq] at g2
     exact ⟨fs,fl,i.size - 1,hfs,hfl,g1,i,hi,by omega⟩
    ·simp at g2
   ·simp at this
  ·simp at this
 ·have:=h6 T (by simpa using hl)
  split at this
  ·rename_i ms hms; exact ⟨ms,hms⟩
  ·simp at this
 ·have:=h5 _ (lk_mem hl)
  simp only [limB] at this
  split at this
  ·rename_i i hi
   simp only [Bool.and_eq_true,Nat.ble_eq] at this
   exact ⟨i,hi,this.1,this.2⟩
  ·simp at this
end Go.Proofs.YtnhbcpmmdblkjaaDoorAm

namespace Go.Proofs.YtnhbcpmmdblkjaaDoorAm
open Go

def codeAt:Code→List Nat→Code
 | c,[]=>c
 | .seq a _,0::r=>codeAt a r
 | .seq _ b,_::r=>codeAt b r
 | .cond _ a _,0::r=>codeAt a r
 | .cond _ _ b,_::r=>codeAt b r
 | .block _ c,_::r=>codeAt c r
 | .loop c,_::r=>codeAt c r
 | c,_=>c
def altPiece (p:Pt) (G:{α:Type}→p.V→(Out→Option α)→Option α) (q:Piece):Piece :=
 ⟨q.maskIn,fun S K=>match p.dec S with
  | some v=>G v K
  | none=>q.run S K⟩
def altCallee (p:Pt) (G:{α:Type}→p.V→(HV→List Blk→Option α)→Option α) (q:Callee):Callee :=
 ⟨q.loan,fun args loans K=>match p.dec ⟨args,loans⟩ with
  | some v=>G v K
  | none=>q.run args loans K⟩
def AllOK (gd:Gd) (P:Program) (F:Fi) (l:List (Code×Piece)):Prop:=∀ q ∈ l,PieceOK gd P F q.1 q.2

section
variable {gd:Gd} {P:Program} {F:Fi}
theorem AllOK.nil:AllOK gd P F []:=fun q h=>by simp at h
theorem AllOK.cons {c:Code} {p:Piece} {l:List (Code×Piece)} (h:PieceOK gd P F c p) (t:AllOK gd P F l):AllOK gd P F ((c,p)::l):=fun q hq=>by
 rcases List.mem_cons.1 hq with rfl | hq
 ·exact h
 ·exact t q hq
theorem AllOK.of {c:Code} {l:List (Code×Piece)} (e:nodes F c=l) (h:AllOK gd P F l):NodesOK gd P F c:=by
 unfold NodesOK; rw [e]; exact h
theorem piece_alt {c:Code} {mi:Nat} {p:Pt} {G:{α:Type}→p.V→(Out→Option α)→Option α} {q:Piece} (h1:PieceOK gd P F c (mkPiece mi p G)) (h2:PieceOK gd P F c q):PieceOK gd P F c (altPiece p G q):=by
 intro α r S K h
 simp only [altPiece] at h
 split at h
 ·rename_i v hv
  exact h1 S K (by simp only [mkPiece,hv]; exact h)
 ·exact h2 S K h
theorem callee_alt {f:Nat} {l:Bool} {p:Pt} {G:{α:Type}→p.V→(HV→List Blk→Option α)→Option α} {q:Callee} (h1:CalleeOK gd P f (mkCallee l p G)) (h2:CalleeOK gd P f q):CalleeOK gd P f (altCallee p G q):=by
 intro α r args loans K h
 simp only [altCallee] at h
 split at h
 ·rename_i v hv
  exact h1 args loans K (by simp only [mkCallee,hv]; exact h)
 ·exact h2 args loans K h
theorem CTOK.nil:CTOK gd P []:=fun f k h=>by simp [lk] at h
theorem CTOK.cons {C:CT} {f:Nat} {k:Callee} (h:CalleeOK gd P f k) (t:CTOK gd P C):CTOK gd P ((f,k)::C):=by
 intro g k' e
 simp only [lk] at e
 split at e
 ·rename_i he
  have he:f=g:=by simpa using he
  simp only [Option.some.injEq] at e
  subst he; subst e
  exact @h
 ·exact t g k' e
end
end Go.Proofs.YtnhbcpmmdblkjaaDoorAm

namespace Go.Proofs.YtnhbcpmmdblkjaaDoorAm
open Go

def eqFB (P : Program) : List Field → Ty → Nat → Bool
  | [], .unit, _ => true
  | f :: fs, .pair a b, off => f.name != "_" && f.offset == off && P.plainKey f.type && (match P.underlying f.type, a with
    | some (.int k), .int k' => k == k'
    | some .bool, .bool => true
    | _, _ => false) && eqFB P fs b (off + 1)
  | _, _, _ => false
def eqB (P:Program) (T:Nat) (t:Ty):Bool:=match P.underlying T with
 | some (.struct fs) => !P.stoodInHeld T && !P.eqGuardType P.depth T && eqFB P fs.toList t 0
 | _=>false
theorem drop_one {β:Type} {l:List β} {n:Nat} {x:β} {r:List β} (h:l.drop n=x::r):l[n]?=some x∧l.drop (n + 1)=r:=by
 constructor
 ·have:=congrArg (fun l=>l[0]?) h
  simpa using this
 ·rw [← List.drop_drop,h]; rfl
theorem eqFields_ok {P : Program} (w : World) {Im : Nat → Prop} {vx vy : Array Value} (d : Nat) : ∀ {fs : List Field} {t : Ty} {off : Nat} {x y : t.den} {z : Bool}, eqFB P fs t off = true →
    cellsR w Im t x (vx.toList.drop off) → cellsR w Im t y (vy.toList.drop off) → eqD t x y = some z → (Op.eqFields (d + 1) vx vy fs).run P w = .ok z w
  | [], t, off, x, y, z, h, hx, hy, e => by
    cases t <;> simp [eqFB] at h
    simp only [eqD, Option.some.injEq] at e
    subst e
    simp [Op.eqFields]
  | f :: fs, t, off, x, y, z, h, hx, hy, e => by
    cases t <;> simp only [eqFB, Bool.and_eq_true, bne_iff_ne, ne_eq, beq_iff_eq, Bool.false_eq_true] at h
    rename_i a b
    obtain ⟨⟨⟨⟨hn, ho⟩, hp⟩, hk⟩, hr⟩ := h
    obtain ⟨c1, c2, e1, hx1, hx2⟩ := hx
    obtain ⟨d1, d2, e2, hy1, hy2⟩ := hy
    simp only [eqD] at e
    split at e
    · rename_i p q hpq hq
      simp only [Option.some.injEq] at e
      subst e
      have fin : ∀ u v : Value, c1 = [u] → d1 = [v] → (Op.equalIn (d + 1) f.type u v).run P w = .ok p w → (Op.eqFields (d + 1) vx vy (f :: fs)).run P w = .ok (p && q) w := by
        intro u v hu hv hrun
        subst hu; subst hv
        obtain ⟨g1, g2⟩ := drop_one e1
        obtain ⟨k1, k2⟩ := drop_one e2
        have p1 := run_part_plain w hp (xs := vx) (off := off) (v := u) (by simpa using g1)
        have p2 := run_part_plain w hp (xs := vy) (off := off) (v := v) (by simpa using k1)
        have ih := eqFields_ok w d hr (by rw [g2]; exact hx2) (by rw [k2]; exact hy2) hq
        simp only [Op.eqFields, hn, ne_eq, not_false_eq_true, if_true, Sem.run_bind, ho, p1, p2, hrun, Result.andThen_ok]
        cases p
        · simp
        · simpa using ih
      split at hk
      · rename_i k k' hu
        have hk : k = k' := by simpa using hk
        subst hk
        simp only [eqD, Option.some.injEq] at hpq
        subst hpq
        simp only [cellsR] at hx1 hy1
        exact fin _ _ hx1 hy1 (run_equalIn_int w d f.type k k _ _ hu)
      · rename_i hu
        simp only [eqD, Option.some.injEq] at hpq
        subst hpq
        simp only [cellsR] at hx1 hy1
        exact fin _ _ hx1 hy1 (run_equalIn_bool w d f.type _ _ hu)
      · simp at hk
    · simp at e
theorem eqB_ok {P:Program} {T:Nat} {t:Ty} (h:eqB P T t=true):P.eqGuardType P.depth T=false∧∀ (w:World) (Im:Nat→Prop) (x y:t.den) (vx vy:Array Value) (z:Bool),
  cellsR w Im t x vx.toList→cellsR w Im t y vy.toList→eqD t x y=some z→(Op.equal T (.agg vx) (.agg vy)).run P w=.ok z w:=by
 unfold eqB at h
 split at h
 ·rename_i fs hu
  simp only [Bool.and_eq_true,Bool.not_eq_true'] at h
  obtain ⟨⟨h1,h2⟩,h3⟩:=h
  refine ⟨h2,fun w Im x y vx vy z hx hy e=>?_⟩
  have hfs:P.fieldsOf T=fs:=by simp [Program.fieldsOf,hu]
  unfold Op.equal
  rw [show Op.maxDepth=9999 + 1 from rfl,run_equalIn_struct w 9999 T vx vy (by rw [hfs]; exact hu) h1,hfs]
  exact eqFields_ok w 9998 (off:=0) h3 (by simpa using hx) (by simpa using hy) e
 ·simp at h
theorem eqs_ok {P:Program} {E:Env} (h:(E.eqs.all fun (T,t)=>eqB P T t)=true):∀ T t,lk E.eqs T=some t→P.eqGuardType P.depth T=false∧∀ (w:World) (Im:Nat→Prop) (x y:t.den) (vx vy:Array Value) (z:Bool),
  cellsR w Im t x vx.toList→cellsR w Im t y vy.toList→eqD t x y=some z→(Op.equal T (.agg vx) (.agg vy)).run P w=.ok z w:=fun T t hl =>
 eqB_ok (List.all_eq_true.1 h _ (lk_mem hl))
end Go.Proofs.YtnhbcpmmdblkjaaDoorAm

namespace Go.Proofs.YtnhbcpmmdblkjaaDoorAm
open Go

theorem clone_ok {gd : Gd} {P : Program} {E : Env} (hE : EnvOK P E) (hP : P.follows .mixedOrders = true) {C : CT} (hC : CTOK gd P C) {F : Fi} {f : Nat} {fn : Func} (hf : P.funcs[f]? = some fn) (hn : (fn.name == "runtime.NumGoroutine") = false) {body : Code} (hb : fn.body = some body)
    (hres : fn.results.toList = F.results) (hN : NodesOK gd P F body) (hl : F.loans = 0) {t : Ty} {e l : Nat}
    (hnil : ∀ {α : Type} (K : HV → List Blk → Option α), runFn E C F fn [.nil] [] K = K (.own 0) [.arr e t [] false])
    (hnn : ∀ {α : Type} (xs : List t.den) (K : HV → List Blk → Option α), runFn E C F fn [.nn t xs] [] K = match decide (List.length ([] : List t.den) + List.length xs ≤ l) with | true => K (.own 0) [.arr e t xs false] | false => none) :
    CalleeOK gd P f (mkCallee false ⟨[.i (.sl t)], []⟩ fun v K => match decide (List.length ([] : List t.den) + List.length (v.1.1 : List t.den) ≤ l) with | true => K (.own 0) [.arr e t v.1.1 false] | false => none) := by
  refine callee_ok fun {α r} v K h => ?_
  obtain ⟨⟨xs, u⟩, u'⟩ := v
  cases u; cases u'
  simp only at h
  split at h
  · rename_i hd
    refine ⟨_, _, h, fun c vs S hh => ?_⟩
    obtain ⟨val, rest, e1, hv, hr⟩ := hh.cons
    have hr : rest = [] := hr
    subst hr
    simp only [SP.mkL, SP.mk] at hv
    obtain ⟨p, cap, e2, ⟨hcap, hp⟩, hdis⟩ := hv.sl
    cases p with
    | none =>
      have hc0 := hp rfl
      subst hc0
      have hx0 : xs = [] := by
        have : List.length xs = 0 := by omega
        exact List.length_eq_zero_iff.1 this
      subst hx0
      have hk := hnil (fun a b => some (a, b))
      obtain ⟨res, st', k1, k2⟩ := fn_snd (gd := gd) hE hP hC hf hn hb hres hN (loans := []) hl.symm hk
      simp only [Option.some.injEq, Prod.mk.injEq] at k1
      obtain ⟨rfl, rfl⟩ := k1
      have := k2 c vs S (by rw [e1]; exact ⟨_, _, rfl, HVR.nil.2 e2, rfl⟩)
      exact this
    | some a =>
      have hk := hnn xs (fun a b => some (a, b))
      rw [hd] at hk
      obtain ⟨res, st', k1, k2⟩ := fn_snd (gd := gd) hE hP hC hf hn hb hres hN (loans := []) hl.symm hk
      simp only [Option.some.injEq, Prod.mk.injEq] at k1
      obtain ⟨rfl, rfl⟩ := k1
      refine k2 c vs S (by
        rw [e1]
        refine ⟨_, _, rfl, ?_, rfl⟩
        rw [HVR.cell (by simp) (by simp) rfl] at hv ⊢
        simp only [HC] at hv ⊢
        refine ⟨⟨hv.1, fun n cap h => ?_⟩, hv.2⟩
        rw [e2] at h
        simp at h)
  · simp at h
end Go.Proofs.YtnhbcpmmdblkjaaDoorAm

namespace Go.Proofs.YtnhbcpmmdblkjaaDoorAm
open Go

def deepF (P : Program) : Ty → (Nat → Bool) × (List Field → Nat → Bool)
  | .int k => (fun T => intB P T k, fun _ _ => false)
  | .bool => (fun T => (match P.underlying T with
    | some .bool => true
    | _ => false), fun _ _ => false)
  | .str => (fun T => (match P.underlying T with
    | some .string => true
    | _ => false), fun _ _ => false)
  | .sl t => (fun T => (match P.underlying T with
    | some (.slice e) => P.cellsOf e == t.size && Nat.blt 0 t.size && (deepF P t).1 e
    | _ => false), fun _ _ => false)
  | .unit => (fun _ => false, fun fs _ => fs.isEmpty)
  | .pair a b => (fun T => (match P.underlying T with
    | some (.struct fs) => P.cellsOf T == a.size + b.size && (match fs.toList with
      | [] => false
      | f :: r => f.offset == 0 && P.cellsOf f.type == a.size && (deepF P a).1 f.type && (deepF P b).2 r a.size)
    | _ => false), fun fs off => (match fs with
      | [] => false
      | f :: r => f.offset == off && P.cellsOf f.type == a.size && (deepF P a).1 f.type && (deepF P b).2 r (off + a.size)))
def wfD:(t:Ty)→t.den→Prop
 | .int k,n=>(Lit.int k n).wf=true
 | .bool,_=>True
 | .str,s=>(s:ByteArray).size≤maxLen
 | .unit,_=>True
 | .pair a b,x=>wfD a x.1∧wfD b x.2
 | .sl t,xs=>List.length xs≤maxLen∧∀ x ∈ xs,wfD t x

section
variable {H:Type} {enc:TypeId×Value→H} {P:Program} {W:World} {spare:Nat→Bool} {held:Bool}
theorem row_snoc {β:Type} {R:β→List Value→Prop} {xs:List β} {x:β} {c1 c2:List Value} (h1:RowR R xs c1) (h2:R x c2):RowR R (xs++[x]) (c1++c2) :=
 h1.append ⟨c2,[],by simp,h2,rfl⟩
theorem cell_at {a:Addr} {i j:Nat} {v:Value} (h:W.cell? ((a.add i).add j)=some v):∃ cur e fr,W.heap[a.block]?=some (.cells cur e fr)∧(i + j=0→a.spot=none)∧cur[a.off + i + j]?=some v:=by
 have hb:((a.add i).add j).block=a.block:=by rw [ChangeShapes.block_add,ChangeShapes.block_add]
 have ho:((a.add i).add j).off=a.off + i + j:=by
  simp only [Addr.add]
  by_cases h1:i=0 <;> by_cases h2:j=0 <;> simp [h1,h2]
 unfold World.cell? at h
 rw [hb] at h
 split at h
 ·rename_i cur e fr hh
  refine ⟨cur,e,fr,hh,?_,?_⟩
  ·intro hz
   have h1:i=0:=by omega
   have h2:j=0:=by omega
   subst h1; subst h2
   simp only [Addr.add,if_true] at h
   split at h
   ·simp at h
   ·rename_i hs; simpa using hs
  ·split at h
   ·simp at h
   ·rw [ho] at h; exact h
 ·simp at h
mutual
theorem trod_data : ∀ {t : Ty} {T fuel : Nat} {cs : List Value} {y : DataW H × List MemPlace}, (deepF P t).1 T = true → DataW.trod enc P W 0 spare held fuel T cs = some y →
    ∃ x : t.den, cellsR W (fun b => b < W.heap.size) t x cs ∧ wfD t x
  | .int k, T, fuel, cs, y, hT, h => by
    simp only [deepF] at hT
    obtain ⟨n, e1, _, hw⟩ := DataW.trod_int (intB_ok hT) h
    exact ⟨n, e1, hw⟩
  | .bool, T, fuel, cs, y, hT, h => by
    simp only [deepF] at hT
    split at hT
    · rename_i hu
      obtain ⟨b, e1, _⟩ := DataW.trod_bool hu h
      exact ⟨b, e1, trivial⟩
    · simp at hT
  | .str, T, fuel, cs, y, hT, h => by
    simp only [deepF] at hT
    split at hT
    · rename_i hu
      obtain ⟨s, e1, _, hs⟩ := DataW.trod_string hu h
      exact ⟨s, e1, hs⟩
    · simp at hT
  | .unit, T, fuel, cs, y, hT, h => by simp [deepF] at hT
  | .pair a b, T, fuel, cs, y, hT, h => by
    simp only [deepF] at hT
    split at hT
    · rename_i fs hu
      simp only [Bool.and_eq_true, beq_iff_eq] at hT
      obtain ⟨hc, hf⟩ := hT
      obtain ⟨xs, n, _, _, hl, hxl, hx⟩ := DataW.trod_struct hu h
      have := trod_fields (t := .pair a b) (fs := fs.toList) (off := 0) (cs := cs) (xs := xs) (n := n) (by
        simp only [deepF]
        split at hf
        · simp at hf
        · rename_i f r hr
          simpa using hf) (by rw [hl, hc]; simp [Ty.size]) (by simpa using hxl) (fun i f hf => hx i f (by simpa using hf))
      obtain ⟨x, h1, h2⟩ := this
      refine ⟨x, ?_, h2⟩
      have e : (cs.drop 0).take (Ty.pair a b).size = cs := by
        rw [List.drop_zero]
        exact List.take_of_length_le (by rw [hl, hc]; simp [Ty.size])
      rwa [e] at h1
    · simp at hT
  | .sl t, T, fuel, cs, y, hT, h => by
    simp only [deepF] at hT
    split at hT
    · rename_i e hu
      simp only [Bool.and_eq_true, beq_iff_eq, Nat.blt_eq] at hT
      obtain ⟨⟨hc, hz⟩, hd⟩ := hT
      rcases DataW.trod_slice hu h with ⟨rfl, _⟩ | ⟨a, len, cap, elems, rest, n, _, rfl, _, _, hlc, hcm, hel, hget, _, _⟩
      · exact ⟨[], ⟨none, 0, rfl, ⟨Nat.le_refl _, fun _ => rfl⟩, .inl rfl⟩, by simp [wfD]⟩
      · rw [hc] at hget
        have one : ∀ i, i < len → ∃ (x : t.den) (ci : List Value), W.cells? 0 (a.add (i * t.size)) t.size = some ci ∧ cellsR W (fun b => b < W.heap.size) t x ci ∧ wfD t x := by
          intro i hi
          have hg := hget i hi
          have he : elems[i]? = some (elems[i]'(by omega)) := List.getElem?_eq_getElem _
          rw [he, Option.bind_eq_some_iff] at hg
          obtain ⟨ci, g1, g2⟩ := hg
          obtain ⟨x, k1, k2⟩ := trod_data (t := t) hd g2
          exact ⟨x, ci, g1, k1, k2⟩
        by_cases hlen : len = 0
        · subst hlen
          exact ⟨[], ⟨some a, cap, rfl, ⟨Nat.zero_le _, by simp⟩, .inl rfl⟩, by simp [wfD]⟩
        · obtain ⟨x0, c0, g0, _, _⟩ := one 0 (by omega)
          obtain ⟨_, gl, gc⟩ := World.cells?_some g0
          have hc0 : c0[0]? = some (c0[0]'(by omega)) := List.getElem?_eq_getElem _
          have g1 := gc 0 hz
          rw [hc0] at g1
          obtain ⟨cur, el, fr, hheap, hspot, _⟩ := cell_at g1
          have hspot := hspot (by simp)
          have seg : ∀ i, i < len → ∀ ci, W.cells? 0 (a.add (i * t.size)) t.size = some ci → ci = ((cur.toList.drop (a.off + i * t.size)).take t.size) ∧ a.off + i * t.size + t.size ≤ cur.size := by
            intro i hi ci hci
            obtain ⟨_, k1, k2⟩ := World.cells?_some hci
            have k3 : ∀ j, j < t.size → cur[a.off + i * t.size + j]? = ci[j]? := by
              intro j hj
              have hcj : ci[j]? = some (ci[j]'(by omega)) := List.getElem?_eq_getElem _
              have := k2 j hj
              rw [hcj] at this
              obtain ⟨cur', el', fr', h1, _, h2⟩ := cell_at this
              rw [hheap] at h1
              cases h1
              rw [hcj]; exact h2
            constructor
            · apply List.ext_getElem?
              intro j
              rw [List.getElem?_take]
              split
              · rename_i hj
                rw [List.getElem?_drop]
                have := k3 j hj
                simpa using this.symm
              · rename_i hj
                exact List.getElem?_eq_none (by omega)
            · have := k3 (t.size - 1) (by omega)
              have hcj : ci[t.size - 1]? = some (ci[t.size - 1]'(by omega)) := List.getElem?_eq_getElem _
              rw [hcj] at this
              have := (Array.getElem?_eq_some_iff.1 this).1
              omega
          have rows : ∀ k, k ≤ len → ∃ xs : List t.den, List.length xs = k ∧ RowR (cellsR W (fun b => b < W.heap.size) t) xs ((cur.toList.drop a.off).take (k * t.size)) ∧ ∀ x ∈ xs, wfD t x := by
            intro k
            induction k with
            | zero => intro _; exact ⟨[], rfl, by simp [RowR], by simp⟩
            | succ k ih =>
              intro hk
              obtain ⟨xs, e1, e2, e3⟩ := ih (by omega)
              obtain ⟨x, ci, g1, g2, g3⟩ := one k (by omega)
              obtain ⟨s1, s2⟩ := seg k (by omega) ci g1
              refine ⟨xs ++ [x], by simp [e1], ?_, ?_⟩
              · have := row_snoc e2 g2
                rw [s1] at this
                have e : List.take ((k + 1) * t.size) (List.drop a.off cur.toList) = List.take (k * t.size) (List.drop a.off cur.toList) ++ List.take t.size (List.drop (a.off + k * t.size) cur.toList) := by
                  rw [Nat.add_mul, Nat.one_mul, List.take_add, List.drop_drop]
                rw [e]; exact this
              · intro z hz
                rcases List.mem_append.1 hz with hz | hz
                · exact e3 z hz
                · simp at hz; subst hz; exact g3
          obtain ⟨xs, e1, e2, e3⟩ := rows len (Nat.le_refl _)
          have hfit : a.off + len * t.size ≤ cur.size := by
            obtain ⟨x, ci, g1, _, _⟩ := one (len - 1) (by omega)
            have := (seg (len - 1) (by omega) ci g1).2
            have e : (len - 1) * t.size + t.size = len * t.size := by
              have : len = (len - 1) + 1 := by omega
              conv => rhs; rw [this, Nat.add_mul, Nat.one_mul]
            omega
          refine ⟨xs, ⟨some a, cap, by rw [e1], ⟨by omega, by simp⟩, .inr ⟨a.block, a.off, cur, el, fr, ?_, ?_, hheap, by rw [e1]; exact hfit, by rw [e1]; exact e2⟩⟩, by simp only [wfD]; exact ⟨by omega, e3⟩⟩
          · cases a; simp at hspot; subst hspot; rfl
          · exact (Array.getElem?_eq_some_iff.1 hheap).1
    · simp at hT
theorem trod_fields : ∀ {t : Ty} {fs : List Field} {off n : Nat} {cs : List Value} {xs : List (DataW H × List MemPlace)}, (deepF P t).2 fs off = true → off + t.size ≤ cs.length → xs.length = fs.length →
    (∀ (i : Nat) (f : Field), fs[i]? = some f → DataW.trod enc P W 0 spare held n f.type ((cs.drop f.offset).take (P.cellsOf f.type)) = xs[i]?) →
    ∃ x : t.den, cellsR W (fun b => b < W.heap.size) t x ((cs.drop off).take t.size) ∧ wfD t x
  | .unit, fs, off, n, cs, xs, hT, hl, hx, h => by
    exact ⟨(), by simp [cellsR, Ty.size], trivial⟩
  | .pair a b, fs, off, n, cs, xs, hT, hl, hx, h => by
    simp only [deepF] at hT
    cases fs with
    | nil => simp at hT
    | cons f r =>
      simp only [Bool.and_eq_true, beq_iff_eq] at hT
      obtain ⟨⟨⟨h1, h2⟩, h3⟩, h4⟩ := hT
      cases xs with
      | nil => simp at hx
      | cons y ys =>
        simp only [Ty.size] at hl
        have h0 := h 0 f rfl
        simp only [List.getElem?_cons_zero, h1, h2] at h0
        obtain ⟨x1, k1, k2⟩ := trod_data (t := a) h3 h0
        obtain ⟨x2, k3, k4⟩ := trod_fields (t := b) (fs := r) (off := off + a.size) (xs := ys) (n := n) (cs := cs) h4 (by omega) (by simpa using hx) (fun i g hg => by simpa using h (i + 1) g (by simpa using hg))
        refine ⟨(x1, x2), ⟨_, _, ?_, k1, k3⟩, k2, k4⟩
        rw [Ty.size, List.take_add, List.drop_drop]
  | .int _, fs, off, n, cs, xs, hT, hl, hx, h => by simp [deepF] at hT
  | .bool, fs, off, n, cs, xs, hT, hl, hx, h => by simp [deepF] at hT
  | .str, fs, off, n, cs, xs, hT, hl, hx, h => by simp [deepF] at hT
  | .sl _, fs, off, n, cs, xs, hT, hl, hx, h => by simp [deepF] at hT
end
theorem okWide_ag {r : Reach} {base T : Nat} {t : Ty} {v : Value} (hT : (deepF P t).1 T = true) (h : Value.okWide P W r base T v) : isAg v = t.agg := by
  cases t with
  | int k =>
    simp only [deepF] at hT
    obtain ⟨n, rfl⟩ := WideShapes.okWide_int (intB_ok hT) h
    rfl
  | bool =>
    simp only [deepF] at hT
    split at hT
    · obtain ⟨n, rfl⟩ := WideShapes.okWide_bool ‹_› h
      rfl
    · simp at hT
  | str =>
    simp only [deepF] at hT
    split at hT
    · obtain ⟨n, rfl⟩ := WideShapes.okWide_string ‹_› h
      rfl
    · simp at hT
  | sl t =>
    simp only [deepF] at hT
    split at hT
    · obtain ⟨_, _, _, rfl⟩ := WideShapes.okWide_slice ‹_› h
      rfl
    · simp at hT
  | unit => simp [deepF] at hT
  | pair a b =>
    simp only [deepF] at hT
    split at hT
    · obtain ⟨_, rfl, _⟩ := WideShapes.okWide_struct ‹_› h
      rfl
    · simp at hT
def cx0 (W:World):Cx:=⟨W,fun b=>b < W.heap.size,fun _=>none,0⟩
theorem arg_ok {r:Reach} {base T:Nat} {t:Ty} {v:Value} {d:DataW H} {ps:List MemPlace} (hT:(deepF P t).1 T=true) (hv:Value.okWide P W r base T v) (h:DataW.Trod enc P W 0 spare held T v d ps) :
  ∃ x:t.den,HVR (cx0 W) (.iv t x) v∧wfD t x:=by
 obtain ⟨fuel,h⟩:=h
 obtain ⟨x,h1,h2⟩:=trod_data hT h
 exact ⟨x,HVR.mkIv h1 (okWide_ag hT hv),h2⟩
end
def gd0:Gd:=⟨0,fun _=>True,fun _ _ _ _=>trivial⟩
def isTrue (res:HV) (_:List Blk):Option Bool:=match res with
 | .iv .bool b=>some b
 | _=>none
theorem law_calls {P:Program} {f:Nat} {fn:Func} (hf:P.funcs[f]?=some fn) (hn:(fn.name == "runtime.NumGoroutine")=false) (hb:fn.body.isNone=false) {k:Callee} (hk:CalleeOK gd0 P f k) {args:List HV} {vs:List Value} {W:World}
  (hargs:HVL (cx0 W) args vs) (hrun:k.run args [] isTrue=some true):Calls P f vs.toArray W fun e W'=>e=.returned (.bool true)∧RowKit.Below W.heap.size W W':=by
 obtain ⟨res,st',h1,h2⟩:=hk _ _ _ hrun
 have hres:res=.iv .bool true:=by
  unfold isTrue at h1
  split at h1
  ·cases h1; rfl
  ·simp at h1
 subst hres
 have S:SG gd0 (cx0 W) []:={
  len:=rfl
  im:=fun b h=>h
  blk:=fun id x h=>by simp at h
  inj:=fun i j x y s s' _ h=>by simp at h
  g:=trivial
  low:=Nat.zero_le _
  own:=fun id s h=>by simp [cx0] at h }
 have hd:=h2 (cx0 W) vs S hargs
 have hcall:(callFunc f vs.toArray).run P W=.ok (.enter f vs.toArray) W:=by
  have h1:fn.name ≠ "runtime.NumGoroutine":=by simpa using hn
  have h2:¬ fn.body=none:=by intro e; simp [e] at hb
  simp [callFunc,hf,h1,h2]
 have fin:∀ e w'',(∃ v,e=Ending.returned v∧∃ c',c'.w=w''∧Nx (cx0 W) c'∧SG gd0 c' st'∧HVR c' (.iv .bool true) v)→e=.returned (.bool true)∧RowKit.Below W.heap.size W w'':=by
  rintro e w'' ⟨v,rfl,c',rfl,nx,_,hv⟩
  rw [HVR.bool] at hv
  subst hv
  exact ⟨rfl,⟨nx.os,nx.tape,nx.output,nx.size,fun k hk=>nx.heap k hk fun id s h=>by simp [cx0] at h⟩⟩
 rcases hd with ⟨v,w',e,r⟩ | ⟨g,a,w',e,r⟩
 ·have e:(callFunc f vs.toArray).run P W=.ok (.value v) w':=e
  rw [hcall] at e
  cases e
 ·have e:(callFunc f vs.toArray).run P W=.ok (.enter g a) w':=e
  rw [hcall] at e
  cases e
  exact r.mono fin
end Go.Proofs.YtnhbcpmmdblkjaaDoorAm
