/-
  What the reference's functions on naturals compute, in plain words: the four operations.
-/
import Derived.Test.YtnhbcpmmdblkjaaGreatDoorG
namespace Go.Proofs.YtnhbcpmmdblkjaaGreatDoorAm
open Go
set_option linter.unusedVariables false
set_option linter.unusedSimpArgs false

theorem wkH {a b q r:Int} {A D:Nat} (hA:a=A) (hD:b=D) (h:a=q * b + r) (h0:0≤r) (h1:r < b):q=((A / D:Nat):Int)∧r=((A % D:Nat):Int):=by
 subst hA hD
 have e1:(A:Int) / D=q:=by
  rw [h,Int.add_comm,Int.add_mul_ediv_right _ _ (by omega),Int.ediv_eq_zero_of_lt h0 h1]; omega
 have e2:(A:Int) % D=r:=by
  rw [h,Int.add_comm,Int.add_mul_emod_self_right,Int.emod_eq_of_lt h0 h1]
 exact ⟨by rw [← e1]; rfl,by rw [← e2]; rfl⟩
theorem wd4 {l:List Int} {i:Nat} {x:Int}:(l.set i x).length=l.length:=List.length_set
theorem wov {x y:Int} (hx:0≤x∧x < 65536) (hy:0≤y∧y < 65536):0≤x * y∧x * y≤4294836225:=by
 have h1:=Int.mul_nonneg hx.1 hy.1
 have h2:=Int.mul_le_mul (show x≤65535 by omega) (show y≤65535 by omega) hy.1 (by omega)
 omega
theorem wpP {x:Int} (h:0≤x):Int.tdiv x 65536=x / 65536:=Int.tdiv_eq_ediv_of_nonneg h
theorem wsg {x:Int} (h:0≤x):Int.tmod x 65536=x % 65536:=Int.tmod_eq_emod_of_nonneg h
theorem wiU {α : Type} (N : Nat) (l : List Int) (hd : Dig l) (hb : l.length < 4611686018427387904) (d : Int) (d0 : 0 < d) (d1 : d < 65536) (k : Int → List Int → Option α) : ∀ (i n : Nat), i ≤ l.length → i < n →
    ∀ (r : Int) (q : List Int), 0 ≤ r → r < d → Dig q → q.length + i = l.length → val (l.drop i) = val q * d + r →
    ∃ r' q', wO N n l d r ((i : Int) - 1) (List.replicate i 0 ++ q) k = k r' q' ∧ 0 ≤ r' ∧ r' < d ∧ Dig q' ∧ q'.length = l.length ∧ val l = val q' * d + r' := by
  intro i
  induction i with
  | zero =>
    intro n h hn r q r0 r1 hq hl hv
    obtain ⟨m, rfl⟩ : ∃ m, n = m + 1 := ⟨n - 1, by omega⟩
    refine ⟨r, q, ?_, r0, r1, hq, by omega, by simpa using hv⟩
    rw [wO.succ]
    unfold wfh
    simp
  | succ i ih =>
    intro n h hn r q r0 r1 hq hl hv
    obtain ⟨m, rfl⟩ : ∃ m, n = m + 1 := ⟨n - 1, by omega⟩
    have hi : i < l.length := by omega
    have hi2 : i < (List.replicate (i + 1) (0 : Int) ++ q).length := by simp; omega
    have e : ((i + 1 : Nat) : Int) - 1 = (i : Int) := by omega
    have e2 : IntKind.i64.wrap ((i : Int) - 1) = (i : Int) - 1 := wd (by omega) (by omega)
    have hx := whs hd hi
    have w1 : IntKind.i64.wrap (r * 65536) = r * 65536 := wd (by omega) (by omega)
    have w2 : IntKind.i64.wrap (r * 65536 + l[i]) = r * 65536 + l[i] := wd (by omega) (by omega)
    have t1 : Int.tdiv (r * 65536 + l[i]) d = (r * 65536 + l[i]) / d := Int.tdiv_eq_ediv_of_nonneg (by omega)
    have t2 : Int.tmod (r * 65536 + l[i]) d = (r * 65536 + l[i]) % d := Int.tmod_eq_emod_of_nonneg (by omega)
    have q0 : 0 ≤ (r * 65536 + l[i]) / d := Int.ediv_nonneg (by omega) (by omega)
    have q1 : (r * 65536 + l[i]) / d < 65536 := Int.ediv_lt_of_lt_mul d0 (by omega)
    have w3 : IntKind.i64.wrap ((r * 65536 + l[i]) / d) = (r * 65536 + l[i]) / d := wd (by omega) (by omega)
    have hd0 : ¬ d = 0 := by omega
    rw [wO.succ, e]
    unfold wfh
    simp only [weF, wF, cond_true, cond_false, Int.toNat_natCast, List.getElem?_eq_getElem hi, List.getElem?_eq_getElem hi2, decide_eq_true hi2, e2, w1, w2, t1, t2, w3, hd0, decide_false, wm6]
    refine ih m (by omega) (by omega) _ _ (Int.emod_nonneg _ (by omega)) (Int.emod_lt_of_pos _ d0) ?_ (by simp; omega) ?_
    · rw [wfn]; exact ⟨⟨q0, q1⟩, hq⟩
    · rw [wej, hv, ← wbb hi, val]
      have := Int.mul_ediv_add_emod (r * 65536 + l[i]) d
      grind
theorem wgJ {α:Type} (N a d:Nat) (k:Int→List Int→Option α) (h1:a < cap) (d0:0 < d) (d1:d < 65536) (hN:cap < N):wcz N (digs a) (d:Int) k=k ((a % d:Nat):Int) (digs (a / d)):=by
 have l1:=weT h1
 have hN:=wfU hN
 rw [wcz.eq]
 unfold wcz.b
 have e1:((digs a).length:Int)≤((8796093022208:Nat):Int):=by omega
 have e2:IntKind.i64.wrap (((digs a).length:Int) - 1)=((digs a).length:Int) - 1:=wd (by omega) (by omega)
 simp only [weF,e1,e2,decide_true,cond_true,Int.toNat_natCast,Int.le_refl]
 obtain ⟨r,q,e,r0,r1,hq,hl,hv⟩:=wiU N (digs a) (wdY a) (by omega) (d:Int) (by omega) (by omega) (fun x142 x143=>wcs N x143 (fun x144=>k x142 x144)) (digs a).length N (by omega) (by omega) 0 [] (by omega) (by omega) wgz (by simp) (by simp [val])
 rw [List.append_nil] at e
 rw [e,wgm N q _ (by omega) (by omega)]
 obtain ⟨u1,u2⟩:=wkH (wcR a) rfl hv r0 r1
 rw [wj9 hq u1,u2]
theorem wkX {α : Type} (N : Nat) (k : List Int → Option α) : ∀ (n v : Nat) (l : List Int), v < n → v < 18446744073709551616 → l.length + v < 8796093022208 + v → (digs v).length + l.length < 8796093022208 →
    wco N n (v : Int) l k = k (l ++ digs v) := by
  intro n
  induction n with
  | zero => intro v l h; omega
  | succ n ih =>
    intro v l h hv hl hl2
    rw [wco.succ]
    unfold wg6
    by_cases h0 : v = 0
    · subst h0; simp [wbS]
    · have c : (0 : Int) < (v : Int) := by omega
      have t1 : Int.tmod (v : Int) 65536 = ((v % 65536 : Nat) : Int) := by rw [Int.tmod_eq_emod_of_nonneg (by omega)]; rfl
      have t2 : Int.tdiv (v : Int) 65536 = ((v / 65536 : Nat) : Int) := by rw [Int.tdiv_eq_ediv_of_nonneg (by omega)]; rfl
      have w1 : IntKind.i64.wrap ((v % 65536 : Nat) : Int) = ((v % 65536 : Nat) : Int) := wjl (by omega)
      have w2 : IntKind.u64.wrap ((v / 65536 : Nat) : Int) = ((v / 65536 : Nat) : Int) := wd0 (by omega) (by omega)
      have e := wge h0
      rw [e, List.length_cons] at hl2
      have c2 : l.length + [((v % 65536 : Nat) : Int)].length ≤ 8796093022208 := by simp; omega
      simp only [c, decide_true, cond_true, t1, t2, w1, w2, c2]
      rw [ih _ _ (by omega) (by omega) (by simp; omega) (by simp; omega), e, List.append_assoc, List.singleton_append]
theorem wfm {α:Type} (N v:Nat) (k:List Int→Option α) (hv:v < 18446744073709551616) (hN:cap < N):wdB N (v:Int) k=k (digs v):=by
 have h0:=wkn
 have h1:v < 65536 ^ 4:=by omega
 have h2:=weJ h1
 have h3:v < N:=Nat.lt_trans (Nat.lt_of_lt_of_le hv h0) hN
 rw [wdB.eq]
 unfold wdB.b
 rw [wkX N _ N v [] h3 hv (by simp) (by simp; omega)]
 simp
theorem whE {α:Type} (N:Nat) (l:List Int) (i:Nat) (k:Int→Option α):weU N l (i:Int) k=k (l.getD i 0):=by
 rw [weU.eq]
 unfold weU.b
 by_cases h:i < l.length
 ·simp only [wc1 h,wF,cond_true,cond_false,Int.toNat_natCast,List.getElem?_eq_getElem h,wbb h]
 ·simp only [wcx h,cond_false]
  rw [wlJ (by omega)]
theorem wmQ {α : Type} (N : Nat) (a b : List Int) (ha : Dig a) (hb : Dig b) (hla : a.length < 100000) (hlb : b.length < 100000) (i : Nat) (hi : i < a.length) : ∀ (d j n : Nat), j + d = b.length → d < n → ∀ (c : Int) (w : List Int), 0 ≤ c → c < 65536 → Dig w → w.length = a.length + b.length →
    ∃ c' w', (∀ k : List Int → List Int → Int → Int → List Int → Option α, wbX N n a b i c j w k = k a b i c' w') ∧ 0 ≤ c' ∧ c' < 65536 ∧ Dig w' ∧ w'.length = w.length ∧ (∀ m, i + b.length ≤ m → w'.getD m 0 = w.getD m 0) ∧ val w' + c' * 65536 ^ (i + b.length) = val w + c * 65536 ^ (i + j) + a[i] * 65536 ^ (i + j) * val (b.drop j) := by
  intro d
  induction d with
  | zero =>
    intro j n h hn c w c0 c1 hw hl
    obtain ⟨m, rfl⟩ : ∃ m, n = m + 1 := ⟨n - 1, by omega⟩
    refine ⟨c, w, fun k => ?_, c0, c1, hw, rfl, fun _ _ => rfl, ?_⟩
    · rw [wbX.succ]
      unfold wgn
      simp only [wcx (show ¬ j < b.length by omega), cond_false]
    · rw [List.drop_of_length_le (by omega), show j = b.length by omega]; simp [val]
  | succ d ih =>
    intro j n h hn c w c0 c1 hw hl
    obtain ⟨m, rfl⟩ : ∃ m, n = m + 1 := ⟨n - 1, by omega⟩
    have hj : j < b.length := by omega
    have hij : i + j < w.length := by omega
    have x1 := whs ha hi
    have x2 := whs hb hj
    have x3 := whs hw hij
    have x4 := wov x1 x2
    have w0 : IntKind.i64.wrap ((i : Int) + (j : Int)) = ((i + j : Nat) : Int) := wfk (by omega)
    have w1 : IntKind.i64.wrap (a[i] * b[j]) = a[i] * b[j] := wd (by omega) (by omega)
    have w2 : IntKind.i64.wrap (w[i + j] + a[i] * b[j]) = w[i + j] + a[i] * b[j] := wd (by omega) (by omega)
    have w3 : IntKind.i64.wrap (w[i + j] + a[i] * b[j] + c) = w[i + j] + a[i] * b[j] + c := wd (by omega) (by omega)
    have t1 := wpP (x := w[i + j] + a[i] * b[j] + c) (by omega)
    have t2 := wsg (x := w[i + j] + a[i] * b[j] + c) (by omega)
    have w4 : IntKind.i64.wrap ((w[i + j] + a[i] * b[j] + c) / 65536) = (w[i + j] + a[i] * b[j] + c) / 65536 := wd (by omega) (by omega)
    obtain ⟨c', w', e, e1, e2, e3, e4, e5, e6⟩ := ih (j + 1) m (by omega) (by omega) ((w[i + j] + a[i] * b[j] + c) / 65536) (w.set (i + j) ((w[i + j] + a[i] * b[j] + c) % 65536)) (by omega) (by omega) (wim hw _ (by omega) (by omega)) (by rw [wd4]; exact hl)
    refine ⟨c', w', fun k => ?_, e1, e2, e3, by rw [e4, wd4], fun p hp => ?_, ?_⟩
    · rw [wbX.succ]
      unfold wgn
      simp only [wc1 hj, wF, cond_true, cond_false, Int.toNat_natCast, w0, List.getElem?_eq_getElem hi, List.getElem?_eq_getElem hj, List.getElem?_eq_getElem hij, decide_eq_true hij, w1, w2, w3, t1, t2, w4, wdW (show j < 4611686018427387904 by omega)]
      exact e k
    · rw [e5 p hp, wc5 (by omega)]
    · rw [e6, wgF _ _ _ hij, ← wbb hij, wej b j, ← wbb hj, ← Nat.add_assoc, Int.pow_succ]
      have := Int.mul_ediv_add_emod (w[i + j] + a[i] * b[j] + c) 65536
      grind
theorem wl6 {α:Type} (N:Nat) (a b:List Int) (ha:Dig a) (hb:Dig b) (hla:a.length < 100000) (hlb:b.length < 100000) (i:Nat) (hi:i < a.length) (hN:b.length < N) (w:List Int) (hw:Dig w) (hl:w.length=a.length + b.length) :
  ∃ c' w',(∀ k:List Int→List Int→Int→Int→List Int→Option α,wbX N N a b i 0 0 w k=k a b i c' w')∧0≤c'∧c' < 65536∧Dig w'∧w'.length=w.length∧(∀ m,i + b.length≤m→w'.getD m 0=w.getD m 0)∧val w' + c' * 65536 ^ (i + b.length)=val w + a[i] * 65536 ^ i * val b:=by
 obtain ⟨c',w',e,e1,e2,e3,e4,e5,e6⟩:=wmQ (α:=α) N a b ha hb hla hlb i hi b.length 0 N (by omega) hN 0 w (by omega) (by omega) hw hl
 exact ⟨c',w',e,e1,e2,e3,e4,e5,by simpa using e6⟩
theorem wl3 {α : Type} (N : Nat) (a b : List Int) (ha : Dig a) (hb : Dig b) (hla : a.length < 100000) (hlb : b.length < 100000) (hN : 200000 < N) (k : List Int → Option α) : ∀ (d i n : Nat), i + d = a.length → d < n → ∀ (w : List Int), Dig w → w.length = a.length + b.length → (∀ m, i + b.length ≤ m → w.getD m 0 = 0) →
    ∃ w', wcd N n a b i w k = k w' ∧ Dig w' ∧ w'.length = w.length ∧ val w' = val w + 65536 ^ i * val (a.drop i) * val b := by
  intro d
  induction d with
  | zero =>
    intro i n h hn w hw hl hz
    obtain ⟨m, rfl⟩ : ∃ m, n = m + 1 := ⟨n - 1, by omega⟩
    refine ⟨w, ?_, hw, rfl, ?_⟩
    · rw [wcd.succ]
      unfold wgk
      simp only [wcx (show ¬ i < a.length by omega), cond_false]
    · rw [List.drop_of_length_le (by omega)]; simp [val]
  | succ d ih =>
    intro i n h hn w hw hl hz
    obtain ⟨m, rfl⟩ : ∃ m, n = m + 1 := ⟨n - 1, by omega⟩
    have hi : i < a.length := by omega
    obtain ⟨c', w', e, c0, c1, hw', hl', hz', hv⟩ := wl6 (α := α) N a b ha hb hla hlb i hi (by omega) w hw hl
    have hib : i + b.length < w'.length := by omega
    obtain ⟨w2, f, f1, f2, f3⟩ := ih (i + 1) m (by omega) (by omega) (w'.set (i + b.length) c') (wim hw' _ c0 c1) (by rw [wd4, hl', hl]) (fun p hp => by
      rw [wc5 (by omega), hz' p (by omega), hz p (by omega)])
    refine ⟨w2, ?_, f1, by rw [f2, wd4, hl'], ?_⟩
    · rw [wcd.succ]
      unfold wgk
      have w0 : IntKind.i64.wrap ((i : Int) + (b.length : Int)) = ((i + b.length : Nat) : Int) := wfk (by omega)
      simp only [wc1 hi, cond_true, e, w0, wF, cond_false, Int.toNat_natCast, decide_eq_true hib, List.getElem?_eq_getElem hib, wdW (show i < 4611686018427387904 by omega)]
      exact f
    · rw [f3, wgF _ _ _ hib, hz' _ (by omega), hz _ (by omega), wej a i, ← wbb hi, Int.pow_succ]
      grind
theorem wen {α:Type} (N a b:Nat) (k:List Int→Option α) (h1:a < cap) (h2:b < cap) (hN:cap < N):wdf N (digs a) (digs b) k=k (digs (a * b)):=by
 have l1:=weT h1
 have l2:=weT h2
 have hN:=wfU hN
 rw [wdf.eq]
 unfold wdf.b
 have w0:IntKind.i64.wrap (((digs a).length:Int) + ((digs b).length:Int))=(((digs a).length + (digs b).length:Nat):Int):=wfk (by omega)
 have e1:(((digs a).length + (digs b).length:Nat):Int)≤((8796093022208:Nat):Int):=by omega
 simp only [w0,weF,e1,decide_true,cond_true,Int.toNat_natCast,Int.le_refl]
 obtain ⟨w,e,hw,hl,hv⟩:=wl3 N (digs a) (digs b) (wdY a) (wdY b) (by omega) (by omega) (by omega) (fun x211=>wcs N x211 (fun x212=>k x212)) (digs a).length 0 N (by omega) (by omega) (List.replicate ((digs a).length + (digs b).length) 0) (wm4 _) (by simp) (fun m _=>by
  rw [List.getD_eq_getElem?_getD,List.getElem?_replicate]; split <;> rfl)
 rw [List.length_replicate] at hl
 refine e.trans ?_
 rw [wgm N w _ (by omega) (by omega),wj9 hw (n:=a * b)]
 rw [hv,wk0,List.drop_zero,wcR,wcR]
 simp
theorem wgQ {α:Type} (N a d:Nat) (k:List Int→Option α) (h1:a < cap) (h2:d < 65536) (hN:cap < N):wc0 N (digs a) (d:Int) k=k (digs (a * d)):=by
 rw [wc0.eq]
 unfold wc0.b
 by_cases h0:d=0
 ·subst h0; simp [wbS]
 ·have h3:¬ ((d:Int)=0):=by omega
  have:=wii
  simp only [h3,decide_false,cond_false,← whI h0 h2]
  rw [wen N a d _ h1 (by omega) hN]
theorem wlT {α : Type} (N : Nat) (l : List Int) (hb : l.length < 4611686018427) (t : Nat) (k : List Int → Option α) : ∀ (d i n : Nat), i + d = l.length → t ≤ i → d < n →
    wb7 N n l i ((l.drop t).take (i - t)) k = k (l.drop t) := by
  intro d
  induction d with
  | zero =>
    intro i n h ht hn
    obtain ⟨m, rfl⟩ : ∃ m, n = m + 1 := ⟨n - 1, by omega⟩
    rw [wb7.succ]
    unfold wgw
    simp only [wcx (show ¬ i < l.length by omega), cond_false]
    rw [List.take_of_length_le (by rw [List.length_drop]; omega)]
  | succ d ih =>
    intro i n h ht hn
    obtain ⟨m, rfl⟩ : ∃ m, n = m + 1 := ⟨n - 1, by omega⟩
    have hi : i < l.length := by omega
    have hl : ((l.drop t).take (i - t)).length + [l[i]].length ≤ 8796093022208 := by simp; omega
    have hd : i - t < (l.drop t).length := by rw [List.length_drop]; omega
    have e : (l.drop t).take (i - t) ++ [l[i]] = (l.drop t).take (i + 1 - t) := by
      rw [show i + 1 - t = (i - t) + 1 by omega, List.take_succ_eq_append_getElem hd, List.getElem_drop]
      congr 3; omega
    rw [wb7.succ]
    unfold wgw
    simp only [wc1 hi, wF, cond_true, cond_false, Int.toNat_natCast, List.getElem?_eq_getElem hi, wdW (show i < 4611686018427387904 by omega), decide_eq_true hl, e]
    exact ih (i + 1) m (by omega) (by omega) (by omega)
theorem wmZ {α:Type} (N:Nat) (l:List Int) (t:Nat) (k:List Int→Option α) (hb:l.length < 4611686018427) (ht:t≤l.length) (hN:l.length < N):we8 N l (t:Int) k=k (l.drop t):=by
 rw [we8.eq]
 unfold we8.b
 have:=wlT N l hb t (fun x=>k x) (l.length - t) t N (by omega) (by omega) (by omega)
 simpa using this
theorem wlb {α : Type} (N : Nat) (l : List Int) (r : List Int) (hb : l.length + r.length < 4611686018427) (k : List Int → Option α) : ∀ (d i n : Nat), i + d = l.length → d < n →
    wb8 N n l i (r ++ l.take i) k = k (r ++ l) := by
  intro d
  induction d with
  | zero =>
    intro i n h hn
    obtain ⟨m, rfl⟩ : ∃ m, n = m + 1 := ⟨n - 1, by omega⟩
    rw [wb8.succ]
    unfold wgu
    simp only [wcx (show ¬ i < l.length by omega), cond_false]
    rw [List.take_of_length_le (by omega)]
  | succ d ih =>
    intro i n h hn
    obtain ⟨m, rfl⟩ : ∃ m, n = m + 1 := ⟨n - 1, by omega⟩
    have hi : i < l.length := by omega
    have hl : (r ++ l.take i).length + [l[i]].length ≤ 8796093022208 := by simp; omega
    have e : (r ++ l.take i) ++ [l[i]] = r ++ l.take (i + 1) := by
      rw [List.take_succ_eq_append_getElem hi, List.append_assoc]
    rw [wb8.succ]
    unfold wgu
    simp only [wc1 hi, wF, cond_true, cond_false, Int.toNat_natCast, List.getElem?_eq_getElem hi, wdW (show i < 4611686018427387904 by omega), decide_eq_true hl, e]
    exact ih (i + 1) m (by omega) (by omega)
theorem wjF {α:Type} (N a s:Nat) (k:List Int→Option α) (h1:a < cap) (hs:s < 1000000) (hN:cap < N):weN N (digs a) (s:Int) k=k (digs (a * 65536 ^ s)):=by
 have l1:=weT h1
 have hN:=wfU hN
 rw [weN.eq]
 unfold weN.b
 by_cases h0:a=0
 ·subst h0; simp [wbS]
 ·have h2:=wfR h0
  have h3:¬ (((digs a).length:Int)=0):=by have:=List.length_pos_iff.2 h2; omega
  have e1:(s:Int)≤((8796093022208:Nat):Int):=by omega
  simp only [h3,decide_false,cond_false,weF,e1,decide_true,cond_true,Int.toNat_natCast,Int.le_refl]
  have:=wlb N (digs a) (List.replicate s 0) (by simp; omega) (fun x=>k x) (digs a).length 0 N (by omega) (by omega)
  rw [wrt h0] at this
  simpa using this
end Go.Proofs.YtnhbcpmmdblkjaaGreatDoorAm
