/-
  What the program's functions on naturals compute, in plain words.
-/
import Derived.Test.YtnhbcpmmdblkjaaGreatDoorJ
namespace Go.Proofs.YtnhbcpmmdblkjaaGreatDoorAm
open Go
set_option linter.unusedVariables false
set_option linter.unusedSimpArgs false

theorem wkM {x y:Nat} (hx:x < 9223372036854775808) (hy:y < 9223372036854775808):bitI .or .i64 (x:Int) (y:Int)=((x ||| y:Nat):Int):=by
 have h:=Nat.or_lt_two_pow (n:=63) (by simpa using hx) (by simpa using hy)
 show IntKind.i64.wrap (((BitVec.ofInt 64 (x:Int) ||| BitVec.ofInt 64 (y:Int)).toNat:Nat):Int)=_
 rw [BitVec.ofInt_natCast,BitVec.ofInt_natCast,BitVec.toNat_or,BitVec.toNat_ofNat,BitVec.toNat_ofNat]
 rw [Nat.mod_eq_of_lt (by omega),Nat.mod_eq_of_lt (by omega),wd (by omega) (by omega)]
theorem wjv {x:Nat} (hx:x < 9223372036854775808):bitI .and .i64 (x:Int) 65535=((x % 65536:Nat):Int):=by
 have e:(65535:Int)=((65535:Nat):Int):=rfl
 have h:x &&& 65535=x % 65536:=Nat.and_two_pow_sub_one_eq_mod x 16
 rw [e]
 show IntKind.i64.wrap (((BitVec.ofInt 64 (x:Int) &&& BitVec.ofInt 64 ((65535:Nat):Int)).toNat:Nat):Int)=_
 rw [BitVec.ofInt_natCast,BitVec.ofInt_natCast,BitVec.toNat_and,BitVec.toNat_ofNat,BitVec.toNat_ofNat]
 rw [Nat.mod_eq_of_lt (by omega),Nat.mod_eq_of_lt (show 65535 < 2 ^ 64 by decide),h,wd (by omega) (by omega)]
theorem wpR {x k:Nat} (hk:k≤64):shrI .i64 (x:Int) (k:Int)=((x / 2 ^ k:Nat):Int):=by
 unfold shrI
 have h1:min (k:Int).toNat (IntKind.bits .i64)=k:=by simp [IntKind.bits]; omega
 have h2:(0:Int)≤2 ^ k:=Int.le_of_lt (Int.pow_pos (by decide))
 rw [h1,Int.fdiv_eq_ediv_of_nonneg _ h2,show (2:Int) ^ k=((2 ^ k:Nat):Int) from (Int.natCast_pow 2 k).symm]; rfl
theorem won {x k:Nat} (hk:k≤64) (hb:x * 2 ^ k < 9223372036854775808):shlI .i64 (x:Int) (k:Int)=((x * 2 ^ k:Nat):Int):=by
 unfold shlI
 have h1:min (k:Int).toNat (IntKind.bits .i64)=k:=by simp [IntKind.bits]; omega
 rw [h1,show (2:Int) ^ k=((2 ^ k:Nat):Int) from (Int.natCast_pow 2 k).symm,← Int.natCast_mul,wjl hb]
theorem woT {u v r:Nat} (h:u < 2 ^ r):v * 2 ^ r ||| u=v * 2 ^ r + u:=by
 have:=Nat.shiftLeft_add_eq_or_of_lt h v
 rw [Nat.shiftLeft_eq] at this
 exact this.symm
theorem wqG {u v r:Nat} (h:u < 2 ^ r):u ||| v * 2 ^ r=u + v * 2 ^ r:=by
 rw [Nat.or_comm,woT h,Nat.add_comm]
theorem wl9 {α : Type} (N : Nat) (l : List Int) (hb : l.length < 4611686018427387904) (k : List Int → Option α) : ∀ (i n : Nat), i ≤ l.length → i < n →
    wcC N n (l.take i) k = k (l.take (tlen l i)) := by
  intro i
  induction i with
  | zero =>
    intro n h hn
    obtain ⟨m, rfl⟩ : ∃ m, n = m + 1 := ⟨n - 1, by omega⟩
    rw [wcC.succ]
    unfold wgO
    simp [tlen]
  | succ i ih =>
    intro n h hn
    obtain ⟨m, rfl⟩ : ∃ m, n = m + 1 := ⟨n - 1, by omega⟩
    have hi : i < l.length := by omega
    have hlen : (l.take (i + 1)).length = i + 1 := by rw [List.length_take]; omega
    have hi2 : i < (l.take (i + 1)).length := by omega
    have hx : (l.take (i + 1))[i] = l.getD i 0 := by rw [List.getElem_take, wbb hi]
    have ht : (l.take (i + 1)).take i = l.take i := by rw [List.take_take, Nat.min_eq_left (by omega)]
    have hle : (i : Int) ≤ ((i + 1 : Nat) : Int) := by omega
    rw [wcC.succ]
    unfold wgO
    simp only [hlen, wkF i, cond_true, wi2 (show i < 4611686018427387904 by omega), wF, cond_false, Int.toNat_natCast, List.getElem?_eq_getElem hi2, hx, weF, decide_eq_true hle, ht]
    rw [tlen]
    by_cases h0 : l.getD i 0 = 0
    · simp only [h0, decide_true, cond_true, if_true]; exact ih m (by omega) (by omega)
    · simp only [h0, decide_false, cond_false, if_false]
theorem wfB {α:Type} (N:Nat) (l:List Int) (k:List Int→Option α) (hb:l.length < 4611686018427) (hN:l.length < N):wdk N l k=k (tl l):=by
 rw [wdk.eq]
 unfold wdk.b
 have:=wl9 N l (by omega) (fun x=>k x) l.length N (by omega) (by omega)
 rw [List.take_of_length_le (Nat.le_refl _)] at this
 exact this
theorem wsa {x y:Int} (hx:0≤x∧x < 65536) (hy:0≤y∧y < 65536):maxI (-1) (minI 1 (IntKind.i64.wrap (x - y)))=if x < y then -1 else if y < x then 1 else 0:=by
 rw [wd (by omega) (by omega)]
 unfold maxI minI
 split <;> split <;> (try split) <;> omega
theorem wkA {α : Type} (N : Nat) (a b : List Int) (ha : Dig a) (hb : Dig b) (hl : a.length = b.length) (hm : a.length < 4611686018427387904) (k : Int → Option α) (k1 : Option α) : ∀ (i n : Nat), i ≤ a.length → i < n →
    wbI N n a b ((i : Int) - 1) k k1 = if val (a.take i) < val (b.take i) then k (-1) else if val (b.take i) < val (a.take i) then k 1 else k1 := by
  intro i
  induction i with
  | zero =>
    intro n h hn
    obtain ⟨m, rfl⟩ : ∃ m, n = m + 1 := ⟨n - 1, by omega⟩
    rw [wbI.succ]
    unfold wga
    simp
  | succ i ih =>
    intro n h hn
    obtain ⟨m, rfl⟩ : ∃ m, n = m + 1 := ⟨n - 1, by omega⟩
    have hi : i < a.length := by omega
    have hi2 : i < b.length := by omega
    have e : ((i + 1 : Nat) : Int) - 1 = (i : Int) := by omega
    have e2 : IntKind.i64.wrap ((i : Int) - 1) = (i : Int) - 1 := wd (by omega) (by omega)
    rw [wbI.succ, e]
    unfold wga
    simp only [weF, wF, cond_true, cond_false, Int.toNat_natCast, List.getElem?_eq_getElem hi, List.getElem?_eq_getElem hi2, e2, wbb hi, wbb hi2, wsa (wg0 ha i) (wg0 hb i)]
    rw [ih m (by omega) (by omega)]
    by_cases h1 : a.getD i 0 < b.getD i 0
    · have h0 : ¬ a.getD i 0 = b.getD i 0 := by omega
      simp only [h0, h1, decide_false, Bool.not_false, cond_true, wiK ha hb h1, if_true]
    · by_cases h2 : b.getD i 0 < a.getD i 0
      · have := wiK hb ha h2
        have h0 : ¬ a.getD i 0 = b.getD i 0 := by omega
        simp only [h0, h1, h2, decide_false, Bool.not_false, cond_true, this, show ¬ val (a.take (i + 1)) < val (b.take (i + 1)) by omega, if_true, if_false]
      · have h0 : a.getD i 0 = b.getD i 0 := by omega
        have := wmw h0
        simp only [h0, decide_true, Bool.not_true, cond_false]
        by_cases h3 : val (a.take i) < val (b.take i)
        · simp only [h3, if_true, show val (a.take (i + 1)) < val (b.take (i + 1)) by omega]
        · by_cases h4 : val (b.take i) < val (a.take i)
          · simp only [h3, h4, if_true, if_false, show val (b.take (i + 1)) < val (a.take (i + 1)) by omega, show ¬ val (a.take (i + 1)) < val (b.take (i + 1)) by omega]
          · simp only [h3, h4, if_false, show ¬ val (b.take (i + 1)) < val (a.take (i + 1)) by omega, show ¬ val (a.take (i + 1)) < val (b.take (i + 1)) by omega]
theorem wg3 {α:Type} (N a b:Nat) (k:Int→Option α) (h1:a < cap) (h2:b < cap) (hN:cap < N):wdL N (digs a) (digs b) k=k (cmpN a b):=by
 have l1:=weT h1
 have l2:=weT h2
 have hN:=wfU hN
 rw [wdL.eq]
 unfold wdL.b cmpN
 by_cases c1:(digs a).length=(digs b).length
 ·have c2:(((digs a).length:Nat):Int)=((digs b).length:Int):=by omega
  simp only [c2,decide_true,Bool.not_true,cond_false]
  rw [wd (by omega) (by omega),wkA N _ _ (wdY a) (wdY b) (by omega) (by omega) _ _ (digs b).length N (by omega) (by omega)]
  rw [List.take_of_length_le (by omega),List.take_of_length_le (by omega),wcR,wcR]
  by_cases c3:a < b
  ·simp only [c3,if_true,show (a:Int) < b by omega]
  ·by_cases c4:b < a
   ·simp only [c3,c4,if_true,if_false,show (b:Int) < a by omega,show ¬ (a:Int) < b by omega]
   ·simp only [c3,c4,if_false,show ¬ (b:Int) < a by omega,show ¬ (a:Int) < b by omega]
 ·have c2:¬ (((digs a).length:Nat):Int)=((digs b).length:Int):=by omega
  have sg:=wsa (x:=((digs a).length:Int)) (y:=((digs b).length:Int)) (by omega) (by omega)
  simp only [c2,decide_false,Bool.not_false,cond_true,sg]
  by_cases c3:(digs a).length < (digs b).length
  ·simp only [wh2 c3,if_true,show (((digs a).length:Nat):Int) < ((digs b).length:Int) by omega]
  ·have c4:(digs b).length < (digs a).length:=by omega
   have:=wh2 c4
   simp only [this,if_true,if_false,show ¬ a < b by omega,show (((digs b).length:Nat):Int) < ((digs a).length:Int) by omega,show ¬ (((digs a).length:Nat):Int) < ((digs b).length:Int) by omega]
theorem wl4 {α : Type} (N : Nat) (a b bb : List Int) (la : Int) (ha : Dig a) (y : Int) (hy : 0 ≤ y ∧ y < 65536) (hla : a.length < 100000) (i : Nat) (hi2 : i < 100000) (ii : Int) : ∀ (d j n : Nat), j + d = a.length → d < n → ∀ (c : Int) (w : List Int), 0 ≤ c → c < 65536 → Dig w → i + a.length < w.length → w.length < 1000000 →
    ∃ c' w', (∀ k : List Int → Int → Int → List Int → Int → Int → List Int → Option α, wbC N n bb (i : Int) y c b la ii a (a.length : Int) (j : Int) w k = k bb i c' b la ii w') ∧ 0 ≤ c' ∧ c' < 65536 ∧ Dig w' ∧ w'.length = w.length ∧ (∀ m, i + a.length ≤ m → w'.getD m 0 = w.getD m 0) ∧ val w' + c' * 65536 ^ (i + a.length) = val w + c * 65536 ^ (i + j) + y * 65536 ^ (i + j) * val (a.drop j) := by
  intro d
  induction d with
  | zero =>
    intro j n h hn c w c0 c1 hw hl hl2
    obtain ⟨m, rfl⟩ : ∃ m, n = m + 1 := ⟨n - 1, by omega⟩
    refine ⟨c, w, fun k => ?_, c0, c1, hw, rfl, fun _ _ => rfl, ?_⟩
    · rw [wbC.succ]
      unfold wfW
      simp only [wcx (show ¬ j < a.length by omega), cond_false]
    · rw [List.drop_of_length_le (by omega), show j = a.length by omega]; simp [val]
  | succ d ih =>
    intro j n h hn c w c0 c1 hw hl hl2
    obtain ⟨m, rfl⟩ : ∃ m, n = m + 1 := ⟨n - 1, by omega⟩
    have hj : j < a.length := by omega
    have hij : i + j < w.length := by omega
    have x2 := whs ha hj
    have x3 := whs hw hij
    have x4 := wov hy x2
    have w0 : IntKind.i64.wrap ((i : Int) + (j : Int)) = ((i + j : Nat) : Int) := wfk (by omega)
    have w1 : IntKind.i64.wrap (y * a[j]) = y * a[j] := wd (by omega) (by omega)
    have w2 : IntKind.i64.wrap (w[i + j] + y * a[j]) = w[i + j] + y * a[j] := wd (by omega) (by omega)
    obtain ⟨t, ht⟩ : ∃ t : Nat, w[i + j] + y * a[j] + c = (t : Int) := ⟨(w[i + j] + y * a[j] + c).toNat, by omega⟩
    have w3 : IntKind.i64.wrap (t : Int) = (t : Int) := wjl (by omega)
    have t1 : shrI .i64 (t : Int) (16 : Int) = ((t / 65536 : Nat) : Int) := wpR (k := 16) (by omega)
    have t2 := wjv (x := t) (by omega)
    obtain ⟨c', w', e, e1, e2, e3, e4, e5, e6⟩ := ih (j + 1) m (by omega) (by omega) ((t / 65536 : Nat) : Int) (w.set (i + j) ((t % 65536 : Nat) : Int)) (by omega) (by omega) (wim hw _ (by omega) (by omega)) (by rw [wd4]; exact hl) (by rw [wd4]; exact hl2)
    refine ⟨c', w', fun k => ?_, e1, e2, e3, by rw [e4, wd4], fun p hp => ?_, ?_⟩
    · rw [wbC.succ]
      unfold wfW
      simp only [wc1 hj, wF, cond_true, cond_false, Int.toNat_natCast, w0, List.getElem?_eq_getElem hj, List.getElem?_eq_getElem hij, decide_eq_true hij, w1, w2, w3, ht, t1, t2, wdW (show j < 4611686018427387904 by omega)]
      exact e k
    · rw [e5 p hp, wc5 (by omega)]
    · rw [e6, wgF _ _ _ hij, ← wbb hij, wej a j, ← wbb hj, ← Nat.add_assoc, Int.pow_succ]
      have : ((t % 65536 : Nat) : Int) + 65536 * ((t / 65536 : Nat) : Int) = t := by omega
      grind
theorem wlm {α : Type} (N : Nat) (a b : List Int) (ha : Dig a) (hb : Dig b) (hla : a.length < 100000) (hlb : b.length < 100000) (hN : 200000 < N) (k : List Int → Option α) : ∀ (d i n : Nat), i + d = b.length → d < n → ∀ (w : List Int), Dig w → w.length = a.length + b.length + 1 → (∀ m, i + a.length ≤ m → w.getD m 0 = 0) →
    ∃ w', wbM N n a b (b.length : Int) i w k = k w' ∧ Dig w' ∧ w'.length = w.length ∧ val w' = val w + 65536 ^ i * val (b.drop i) * val a := by
  intro d
  induction d with
  | zero =>
    intro i n h hn w hw hl hz
    obtain ⟨m, rfl⟩ : ∃ m, n = m + 1 := ⟨n - 1, by omega⟩
    refine ⟨w, ?_, hw, rfl, ?_⟩
    · rw [wbM.succ]
      unfold wfX
      simp only [wcx (show ¬ i < b.length by omega), cond_false]
    · rw [List.drop_of_length_le (by omega)]; simp [val]
  | succ d ih =>
    intro i n h hn w hw hl hz
    obtain ⟨m, rfl⟩ : ∃ m, n = m + 1 := ⟨n - 1, by omega⟩
    have hi : i < b.length := by omega
    obtain ⟨c', w', e, c0, c1, hw', hl', hz', hv⟩ := wl4 (α := α) N a b a (b.length : Int) ha b[i] (whs hb hi) hla i (by omega) (i : Int) a.length 0 N (by omega) (by omega) 0 w (by omega) (by omega) hw (by omega) (by omega)
    rw [show ((0 : Nat) : Int) = 0 from rfl] at e
    have hib : i + a.length < w'.length := by omega
    have hz0 : w'[i + a.length] = 0 := by rw [wbb hib, hz' _ (by omega), hz _ (by omega)]
    obtain ⟨w2, f, f1, f2, f3⟩ := ih (i + 1) m (by omega) (by omega) (w'.set (i + a.length) c') (wim hw' _ c0 c1) (by rw [wd4, hl', hl]) (fun p hp => by
      rw [wc5 (by omega), hz' p (by omega), hz p (by omega)])
    refine ⟨w2, ?_, f1, by rw [f2, wd4, hl'], ?_⟩
    · rw [wbM.succ]
      unfold wfX
      have w0 : IntKind.i64.wrap ((i : Int) + (a.length : Int)) = ((i + a.length : Nat) : Int) := wfk (by omega)
      have w1 : IntKind.i64.wrap (0 + c') = c' := by rw [wd (by omega) (by omega)]; omega
      simp only [wc1 hi, cond_true, List.getElem?_eq_getElem hi, e, w0, wF, cond_false, Int.toNat_natCast, decide_eq_true hib, List.getElem?_eq_getElem hib, hz0, w1, wdW (show i < 4611686018427387904 by omega)]
      exact f
    · rw [f3, wgF _ _ _ hib, ← wbb hib, hz0, wej b i, ← wbb hi, Int.pow_succ]
      simp only [Int.zero_mul, Nat.add_zero, Int.add_zero, List.drop_zero] at hv
      grind
theorem wgv {α:Type} (N a b:Nat) (k:List Int→Option α) (h1:a < cap) (h2:b < cap) (hN:cap < N):wdF N (digs a) (digs b) k=k (digs (a * b)):=by
 have l1:=weT h1
 have l2:=weT h2
 have hN:=wfU hN
 rw [wdF.eq]
 unfold wdF.b
 have w0:IntKind.i64.wrap (((digs a).length:Int) + ((digs b).length:Int))=(((digs a).length + (digs b).length:Nat):Int):=wfk (by omega)
 have w1:IntKind.i64.wrap ((((digs a).length + (digs b).length:Nat):Int) + 1)=(((digs a).length + (digs b).length + 1:Nat):Int):=wdW (by omega)
 have e1:(((digs a).length + (digs b).length + 1:Nat):Int)≤((8796093022208:Nat):Int):=by omega
 simp only [w0,w1,weF,e1,decide_true,cond_true,Int.toNat_natCast,Int.le_refl]
 obtain ⟨w,e,hw,hl,hv⟩:=wlm N (digs b) (digs a) (wdY b) (wdY a) (by omega) (by omega) (by omega) (fun x211=>wdk N x211 (fun x212=>k x212)) (digs a).length 0 N (by omega) (by omega) (List.replicate ((digs a).length + (digs b).length + 1) 0) (wm4 _) (by simp; omega) (fun m _=>by
  rw [List.getD_eq_getElem?_getD,List.getElem?_replicate]; split <;> rfl)
 rw [List.length_replicate] at hl
 refine e.trans ?_
 rw [wfB N w _ (by omega) (by omega),wj9 hw (n:=a * b)]
 rw [hv,wk0,List.drop_zero,wcR,wcR]
 simp
end Go.Proofs.YtnhbcpmmdblkjaaGreatDoorAm
