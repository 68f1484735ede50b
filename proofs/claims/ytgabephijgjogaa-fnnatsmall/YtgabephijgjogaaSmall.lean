/-
  The walk of NatSmall: a loop over the library's iterator that goes through a slice from its end.
-/
import Derived.RangeFuncBox
import Derived.RangeFuncLeaves
import Derived.Shelf.Abstract
import Derived.WalkKit
import Derived.OwnWalkIn
import Derived.TacticsInMore
import Derived.LoopNIn
import Derived.LoopIn
import Derived.Test.YtgabephijgjogaaProg
namespace Go.Proofs.YtgabephijgjogaaSm
open Go Go.RowKit Go.Shelf
attribute [local go_sem] Oper.semAt_some

def upto {α : Type} (f : Nat → α) (k : Nat) : List α := (List.range k).map f
theorem upto_succ {α : Type} (f : Nat → α) (k : Nat) : upto f (k + 1) = upto f k ++ [f k] := by simp [upto, List.range_succ]
theorem upto_length {α : Type} (f : Nat → α) (k : Nat) : (upto f k).length = k := by simp [upto]
/-- What comes k-th out of 'len' numbers, from the end. -/
def down (len : Nat) (z : Nat → Int) (k : Nat) : Nat × Int := (len - 1 - k, z (len - 1 - k))

/-- What a round keeps: what lay below n₀, and the block Bs. -/
def Kpb (n₀ Bs : Nat) (A B : World) : Prop := Below n₀ A B ∧ B.heap[Bs]? = A.heap[Bs]?
theorem Kpb.refl (n₀ Bs : Nat) (A : World) : Kpb n₀ Bs A A := ⟨Below.refl _ _, rfl⟩
theorem Kpb.trans {n₀ Bs : Nat} {A B C : World} (h : Kpb n₀ Bs A B) (k : Kpb n₀ Bs B C) : Kpb n₀ Bs A C := ⟨h.1.trans k.1, k.2.trans h.2⟩
theorem Kpb.cell {n₀ Bs : Nat} {A B : World} (h : Kpb n₀ Bs A B) (o : Nat) : B.cell? ⟨Bs, o, none⟩ = A.cell? ⟨Bs, o, none⟩ := by
  simp only [World.cell?, h.2]
theorem kpb_b {n₀ Bs : Nat} {w : World} (hn : n₀ ≤ w.heap.size) (hB : Bs < w.heap.size) (W : World) (l : Nat) (o o' : Obj) (hl : w.heap.size ≤ l) (h : W.heap[l]? = some o) (h1 : o.isCells = false) (h2 : o.isWalk = false) : Kpb n₀ Bs W (W.putObj l o') :=
  ⟨belowK_b hn W l o o' hl h h1 h2, World.putObj_heap_other (by omega)⟩
theorem setCell_other (W : World) (b o : Nat) (v : Value) {k : Nat} (h : k ≠ b) : (W.setCell ⟨b, o, none⟩ v).heap[k]? = W.heap[k]? := by
  unfold World.setCell
  split <;> simp [Array.getElem?_modify, Ne.symm h]

set_option maxRecDepth 100000 in
set_option maxHeartbeats 2000000 in
/-- The iterator, where there is something. -/
theorem back1_in (F : Fence) (n : Nat) (h74 : F.fn 74) (hro : F.round = none) (hn : 1 ≤ n) (l Bs n₀ b off len cap : Nat) (z : Nat → Int) (hreach : len ≤ 1000) (hb : b < n₀) (J Jx : List (Nat × Int) → World → Prop)
    (hY : ∀ pre x W, J pre W → pre.length < len → YieldAt F (n - 1) Try.prog l #[.int .i64 (x.1 : Int), .int .i64 x.2] W fun e W' =>
      (e = .returned (.bool true) ∧ J (pre ++ [x]) W' ∧ Kpb n₀ Bs W W') ∨ (e = .returned (.bool false) ∧ Jx (pre ++ [x]) W'))
    (W : World) (hBs : W.cell? ⟨Bs, 0, none⟩ = some (.slice (some ⟨b, off, none⟩) len cap)) (hc : ∀ j, j < len → W.cell? ⟨b, off + j, none⟩ = some (.int .i64 (z j))) (h0 : J [] W) :
    CallsIn F n Try.prog 74 #[.func (.yield l) #[] #[], .pointer (some ⟨Bs, 0, none⟩)] W fun e W' => (∃ v, e = .returned v) ∧
      ((∃ ys, ys = upto (down len z) len ∧ J ys W') ∨ (∃ pre, (∃ k, k ≤ len ∧ pre = upto (down len z) k) ∧ Jx pre W')) := by
  refine callsIn_of_wp Try.func74 rfl h74 ?_ hro
  simp only [Try.ntmps74, List.size_toArray, List.length_cons, List.length_nil, Nat.reduceAdd, Nat.reduceSub, Array.replicate_succ, Array.replicate_zero, List.push_toArray, List.append_toArray, List.nil_append, List.cons_append]
  gi_wp2
  gi_loopw [3] (fun i wr => ∃ m : Nat, m ≤ len ∧ i = .int .i64 ((m : Int) - 1) ∧ J (upto (down len z) (len - m)) wr ∧ Kpb n₀ Bs W wr)
    (fun i _ => (intOf i + 1).toNat)
  case atStart => exact ⟨len, Nat.le_refl _, by rfl, by simpa [upto] using h0, Kpb.refl _ _ _⟩
  case round =>
    obtain ⟨m, hm, rfl, hJs, hnx⟩ := hrel
    cases m with
    | zero =>
      gi_wp2
      go_end0
      exact ⟨⟨_, rfl⟩, .inl ⟨_, rfl, by simpa using hJs⟩⟩
    | succ m =>
      have hcx := (hnx.1.cell (p := ⟨b, off + m, none⟩) hb).trans (hc m (by omega))
      have hBs' := (hnx.cell 0).trans hBs
      obtain ⟨fn, tmps, assign, body, hy, hR⟩ := hY _ (m, z m) wr hJs (by rw [upto_length]; omega)
      dsimp only at hy
      have e0 : ((m + 1 : Nat) : Int) - 1 = (m : Int) := by omega
      rw [e0]
      have e1 : upto (down len z) (len - (m + 1)) ++ [(m, z m)] = upto (down len z) (len - m) := by
        rw [show len - m = len - (m + 1) + 1 by omega, upto_succ]
        simp only [down, show len - 1 - (len - (m + 1)) = m by omega]
      gi_wp2
      refine hR.mono ?_
      rintro e W3 (⟨rfl, hJ3, hk3⟩ | ⟨rfl, hJx3⟩)
      · gi_wp2
        go_roundw
        case rel => exact ⟨m, by omega, by rfl, by rw [← e1]; exact hJ3, hnx.trans hk3⟩
        case measure => simp [intOf]
      · gi_wp2
        refine bodyPost_ret (results_none rfl _ _ _) rfl ?_
        exact ⟨⟨_, rfl⟩, .inr ⟨_, ⟨len - m, by omega, e1⟩, hJx3⟩⟩
set_option maxRecDepth 100000 in
set_option maxHeartbeats 1000000 in
/-- .. where there is nothing. -/
theorem back0_in (F : Fence) (n : Nat) (h74 : F.fn 74) (hro : F.round = none) (l Bs cap : Nat) (a : Option Addr) (J : List (Nat × Int) → World → Prop) (W : World) (hBs : W.cell? ⟨Bs, 0, none⟩ = some (.slice a 0 cap)) (h0 : J [] W) :
    CallsIn F n Try.prog 74 #[.func (.yield l) #[] #[], .pointer (some ⟨Bs, 0, none⟩)] W fun e W' => (∃ v, e = .returned v) ∧ J [] W' := by
  refine callsIn_of_wp Try.func74 rfl h74 ?_ hro
  simp only [Try.ntmps74, List.size_toArray, List.length_cons, List.length_nil, Nat.reduceAdd, Nat.reduceSub, Array.replicate_succ, Array.replicate_zero, List.push_toArray, List.append_toArray, List.nil_append, List.cons_append]
  gi_wp2
  gi_loopw [3] (fun i wr => i = .int .i64 (-1) ∧ J [] wr) (fun _ _ => 0)
  case atStart => exact ⟨rfl, h0⟩
  case round =>
    obtain ⟨rfl, hJs⟩ := hrel
    gi_wp2
    go_end0
    exact ⟨⟨_, rfl⟩, hJs⟩
set_option maxHeartbeats 1000000 in
theorem back_in (F : Fence) (n : Nat) (h45 : F.fn 45) (hro : F.round = none) (a : Option Addr) (len cap : Nat) (w : World) :
    CallsIn F n Try.prog 45 #[.slice a len cap] w fun e w' => e = .returned (.func (.func 74) #[] #[.pointer (some ⟨w.heap.size, 0, none⟩)]) ∧ w' = w.alloc (.cells #[.slice a len cap] 25) := by
  refine callsIn_of_wp Try.func45 rfl h45 ?_ hro
  simp only [Try.ntmps45, List.size_toArray, List.length_cons, List.length_nil, Nat.reduceAdd, Nat.reduceSub, Array.replicate_succ, Array.replicate_zero, List.push_toArray, List.append_toArray, List.nil_append, List.cons_append]
  gi_wp2
  go_ret
  exact ⟨rfl, rfl⟩
/-- The numbers of a slice, in blocks below n₀. -/
def Ints (n₀ : Nat) (W : World) (a : Option Addr) (len : Nat) (z : Nat → Int) : Prop :=
  len = 0 ∨ ∃ b off, a = some ⟨b, off, none⟩ ∧ b < n₀ ∧ ∀ j, j < len → W.cell? ⟨b, off + j, none⟩ = some (.int .i64 (z j))
theorem Ints.below {n₀ : Nat} {A B : World} (h : Below n₀ A B) {a : Option Addr} {len : Nat} {z : Nat → Int} : Ints n₀ A a len z → Ints n₀ B a len z
  | .inl e => .inl e
  | .inr ⟨b, off, e, hb, hc⟩ => .inr ⟨b, off, e, hb, fun j hj => (h.cell (p := ⟨b, off + j, none⟩) hb).trans (hc j hj)⟩
theorem back_stops (F : Fence) (n : Nat) (h74 : F.fn 74) (hro : F.round = none) (hn : 1 ≤ n) (Bs n₀ : Nat) (a : Option Addr) (len cap : Nat) (z : Nat → Int) (hreach : len ≤ 1000) (w : World) (hBs : Bs < w.heap.size) (hn₀ : n₀ ≤ w.heap.size)
    (hc : w.cell? ⟨Bs, 0, none⟩ = some (.slice a len cap)) (hI : Ints n₀ w a len z) :
    SeqStopsK F n Try.prog 74 #[.pointer (some ⟨Bs, 0, none⟩)] (fun x : Nat × Int => #[Value.int .i64 (x.1 : Int), Value.int .i64 x.2]) (Kpb n₀ Bs) (fun ys => ys = upto (down len z) len)
      (fun pre => ∃ k, k ≤ len ∧ pre = upto (down len z) k) len w := fun l J Jx W hW _ _ hY h0 => by
  have hc' := (hW.cell (p := ⟨Bs, 0, none⟩) hBs).trans hc
  rcases hI.below (hW.mono hn₀) with rfl | ⟨b, off, rfl, hb, hcs⟩
  · exact (back0_in F n h74 hro l Bs cap a J W hc' h0).mono fun e W' ⟨he, hj⟩ => ⟨he, .inl ⟨_, rfl, hj⟩⟩
  · exact back1_in F n h74 hro hn l Bs n₀ b off len cap z hreach hb J Jx hY W hc' hcs h0

/-- What the digits come to, from the last to the first. -/
def small (pre : List (Nat × Int)) : Int := pre.foldl (fun n p => bits BinOp.or IntKind.u64 (IntKind.u64.wrap (n * 65536)) (IntKind.u64.wrap p.2)) 0
theorem small_snoc (pre : List (Nat × Int)) (x : Nat × Int) : small (pre ++ [x]) = bits BinOp.or IntKind.u64 (IntKind.u64.wrap (small pre * 65536)) (IntKind.u64.wrap x.2) := by simp [small]
set_option maxRecDepth 100000 in
set_option maxHeartbeats 2000000 in
theorem small_in (F : Fence) (n : Nat) (h14 : F.fn 14) (h15 : F.fn 15) (h45 : F.fn 45) (h74 : F.fn 74) (hro : F.round = none) (hn : 3 ≤ n) (a : Option Addr) (len cap : Nat) (z : Nat → Int) (hlen : len ≤ 4) (w : World)
    (hOk : CallsIn F (n - 1) Try.prog 15 #[.slice a len cap] w fun e w' => e = .returned (.bool true) ∧ Below w.heap.size w w')
    (hI : Ints w.heap.size w a len z) :
    CallsIn F n Try.prog 14 #[.slice a len cap] w fun e W' => e = .returned (.tuple #[.int .u64 (small (upto (down len z) len)), .bool true]) ∧ Below w.heap.size w W' := by
  have h1 : 1 ≤ n := by omega
  refine callsIn_of_wp_marks Try.func14 rfl h14 ?_ hro
  simp only [Try.ntmps14, List.size_toArray, List.length_cons, List.length_nil, Nat.reduceAdd, Nat.reduceSub, Array.replicate_succ, Array.replicate_zero, List.push_toArray, List.append_toArray, List.nil_append, List.cons_append]
  gi_wp2_with (first | (gi_at_call 15; refine hOk.mono ?_; rintro e w1 ⟨rfl, hB1⟩) | (gi_at_call 45; refine (back_in F (n - 1) h45 hro _ _ _ _).mono ?_; rintro e w' ⟨rfl, rfl⟩))
  have hs1 := hB1.size
  have bS := Boxed.new w1 23 (.int .u64 0)
  have bN := Boxed.new (w1.alloc (.cells #[.int .u64 0] 23)) 25 (.slice a len cap)
  rw [World.size_alloc] at bN
  have hB0 : Below w.heap.size w ((w1.alloc (.cells #[.int .u64 0] 23)).alloc (.cells #[.slice a len cap] 25)) := (hB1.alloc hs1 _).alloc (by simp; omega) _
  refine wpIn_rangeFunc_ownG hro h1 (gf := 74) (lb := #[.pointer (some ⟨w1.heap.size + 1, 0, none⟩)]) rfl h74 (enters_of Try.func74 (by kernel_rfl) rfl)
    (back_stops F (n - 1) h74 hro (by omega) (w1.heap.size + 1) w.heap.size a len cap z (by omega) _ (by simp) (by simp; omega) bN.cell (hI.below hB0)) Kpb.trans (kpb_b (by simp; omega) (by simp)) (Below.refl _ _) (fun _ => rfl)
    (fun pre W => (W.cell? ⟨w1.heap.size, 0, none⟩ = some (.int .u64 (small pre)) ∧ W.frozen? ⟨w1.heap.size, 0, none⟩ = false) ∧ Below w.heap.size w W)
    (fun _ _ _ => False)
    (OwnFrom.and (Own.from (fun s A B row hs hg hr => ⟨cell_kept hs.1 hg hr, (frozen_kept hs.1 hg hr).trans hs.2⟩) _) (ownFrom_below (Nat.le_refl _) (by simp; omega)))
    (fun _ _ _ _ _ hs _ _ => hs)
    ⟨⟨(bS.alloc _).cell, (bS.alloc _).frozen⟩, hB0⟩
    (fun x => { tmps := #[.slice a len cap, undef, .int .u64 0, .bool false, .pointer (some ⟨w1.heap.size, 0, none⟩), undef, .int .i64 x.2, .slice a len cap, .bool true, .bool false, .bool false, .slice a len cap, .int .i64 len, .bool (decide (4 < (len : Int))), .bool (decide (4 < (len : Int))), .slice a len cap,
      .func (.func 74) #[] #[.pointer (some ⟨w1.heap.size + 1, 0, none⟩)], .int .i64 (x.1 : Int), .int .i64 x.2, undef, undef, undef, undef, undef, undef], defers := [] }) ?assign ?body ?done ?stop
  case assign =>
    intro l x W K hK
    gi_wp2
    exact hK
  case body =>
    rintro l pre x W ⟨⟨hc, hf⟩, hB⟩ _
    gi_wp2
    exact ⟨(KeepsOthers.setCell _ _ _).from _, ⟨(Below.refl w.heap.size W).setCell (p := ⟨w1.heap.size, 0, none⟩) hs1 _, setCell_other _ _ _ _ (by omega)⟩, ⟨by rw [small_snoc]; exact World.cell?_setCell_same' _ _ _ (by rw [hc]; rfl), by rw [World.frozen?_setCell]; exact hf⟩, hB.setCell (p := ⟨w1.heap.size, 0, none⟩) hs1 _⟩
  case done =>
    rintro D ys W hD rfl ⟨⟨hc, _⟩, hB⟩ hK
    gi_wp2
    refine ⟨by simp, .inl ⟨_, _, rfl, run_takeDeferred hK, ?_⟩⟩
    refine ⟨.tuple #[.int .u64 (small (upto (down len z) len)), .bool true], ?_, rfl, hB.trans (belowK_b (w := w) (Nat.le_refl _) W D _ _ (by simp at hD; omega) hK rfl rfl)⟩
    simp [results, Try.f14, go_sem]
  case stop =>
    rintro D c pre W _ _ h _
    exact h.elim
set_option maxRecDepth 100000 in
set_option maxHeartbeats 2000000 in
theorem small_long (F : Fence) (n : Nat) (h14 : F.fn 14) (h15 : F.fn 15) (hro : F.round = none) (hn : 3 ≤ n) (a : Option Addr) (len cap : Nat) (hlen : 4 < len) (w : World)
    (hOk : CallsIn F (n - 1) Try.prog 15 #[.slice a len cap] w fun e w' => e = .returned (.bool true) ∧ Below w.heap.size w w') :
    CallsIn F n Try.prog 14 #[.slice a len cap] w fun e W' => e = .returned (.tuple #[.int .u64 0, .bool false]) ∧ Below w.heap.size w W' := by
  have h1 : 1 ≤ n := by omega
  have hl : (4 : Int) < (len : Int) := by omega
  refine callsIn_of_wp_marks Try.func14 rfl h14 ?_ hro
  simp only [Try.ntmps14, List.size_toArray, List.length_cons, List.length_nil, Nat.reduceAdd, Nat.reduceSub, Array.replicate_succ, Array.replicate_zero, List.push_toArray, List.append_toArray, List.nil_append, List.cons_append]
  gi_wp2_with (gi_at_call 15; refine hOk.mono ?_; rintro e w1 ⟨rfl, hB1⟩)
  refine ⟨.tuple #[.int .u64 0, .bool false], ?_, rfl, hB1⟩
  simp [results, Try.f14, go_sem]
set_option maxRecDepth 100000 in
set_option maxHeartbeats 2000000 in
theorem small_bad (F : Fence) (n : Nat) (h14 : F.fn 14) (h15 : F.fn 15) (hro : F.round = none) (hn : 3 ≤ n) (a : Option Addr) (len cap : Nat) (w : World)
    (hOk : CallsIn F (n - 1) Try.prog 15 #[.slice a len cap] w fun e w' => e = .returned (.bool false) ∧ Below w.heap.size w w') :
    CallsIn F n Try.prog 14 #[.slice a len cap] w fun e W' => e = .returned (.tuple #[.int .u64 0, .bool false]) ∧ Below w.heap.size w W' := by
  have h1 : 1 ≤ n := by omega
  refine callsIn_of_wp_marks Try.func14 rfl h14 ?_ hro
  simp only [Try.ntmps14, List.size_toArray, List.length_cons, List.length_nil, Nat.reduceAdd, Nat.reduceSub, Array.replicate_succ, Array.replicate_zero, List.push_toArray, List.append_toArray, List.nil_append, List.cons_append]
  gi_wp2_with (gi_at_call 15; refine hOk.mono ?_; rintro e w1 ⟨rfl, hB1⟩)
  refine ⟨.tuple #[.int .u64 0, .bool false], ?_, rfl, hB1⟩
  simp [results, Try.f14, go_sem]
theorem small_list (xs : List Int) (h : xs.length ≤ 4) : small (upto (down xs.length (fun j => xs[j]?.getD 0)) xs.length) = xs.foldr (fun d n => bits BinOp.or IntKind.u64 (IntKind.u64.wrap (n * 65536)) (IntKind.u64.wrap d)) 0 := by
  rcases xs with _ | ⟨a, _ | ⟨b, _ | ⟨c, _ | ⟨d, _ | ⟨e, r⟩⟩⟩⟩⟩ <;> first | rfl | (simp at h; done) | (simp [small, upto, down, List.range_succ]; done)
end Go.Proofs.YtgabephijgjogaaSm
