/-
  Naturals as lists of digits to the base 65536, the low one first.
-/
import Derived.Test.YtnhbcpmmdblkjaaGreatDoorB
namespace Go.Proofs.YtnhbcpmmdblkjaaGreatDoorAm
open Go
set_option linter.unusedVariables false
set_option linter.unusedSimpArgs false

def val:List Int→Int
 | []=>0
 | x::l=>x + 65536 * val l
def Dig (l:List Int):Prop:=∀ x ∈ l,0≤x∧x < 65536
def digs (n:Nat):List Int:=if h:n=0 then [] else ((n % 65536:Nat):Int)::digs (n / 65536)
termination_by n
decreasing_by omega
def Nrm (l:List Int):Prop:=Dig l∧∀ h:l ≠ [],l.getLast h ≠ 0
theorem wbS:digs 0=[]:=by rw [digs]; simp
theorem wge {n:Nat} (h:n ≠ 0):digs n=((n % 65536:Nat):Int)::digs (n / 65536):=by rw [digs]; simp [h]
theorem wfR {n:Nat} (h:n ≠ 0):digs n ≠ []:=by rw [wge h]; simp
theorem wgz:Dig []:=by intro x hx; simp at hx
theorem wfn {x:Int} {l:List Int}:Dig (x::l)↔(0≤x∧x < 65536)∧Dig l:=by simp [Dig]
theorem wgY {l m:List Int}:Dig (l++m)↔Dig l∧Dig m:=by
 unfold Dig
 constructor
 ·intro h; exact ⟨fun x hx=>h x (by simp [hx]),fun x hx=>h x (by simp [hx])⟩
 ·intro ⟨h1,h2⟩ x hx; exact (List.mem_append.1 hx).elim (h1 x) (h2 x)
theorem wm4 (n:Nat):Dig (List.replicate n 0):=by intro x hx; rw [List.eq_of_mem_replicate hx]; omega
theorem wkG {l:List Int} (h:Dig l) (n:Nat):Dig (l.take n):=fun x hx=>h x (List.mem_of_mem_take hx)
theorem wpc {l:List Int} (h:Dig l) (n:Nat):Dig (l.drop n):=fun x hx=>h x (List.mem_of_mem_drop hx)
theorem wim {l:List Int} (h:Dig l) (i:Nat) {x:Int} (h0:0≤x) (h1:x < 65536):Dig (l.set i x):=by
 intro y hy; exact (List.mem_or_eq_of_mem_set hy).elim (h y) (fun h'=>h' ▸ ⟨h0,h1⟩)
theorem whs {l:List Int} (h:Dig l) {i:Nat} (hi:i < l.length):0≤l[i]∧l[i] < 65536:=h _ (List.getElem_mem hi)
theorem wg0 {l:List Int} (h:Dig l) (i:Nat):0≤l.getD i 0∧l.getD i 0 < 65536:=by
 rw [List.getD_eq_getElem?_getD]
 by_cases hi:i < l.length
 ·rw [List.getElem?_eq_getElem hi]; exact whs h hi
 ·rw [List.getElem?_eq_none (by omega)]; simp
theorem wdY (n : Nat) : Dig (digs n) := by
  induction n using Nat.strongRecOn with
  | ind n ih =>
    by_cases h : n = 0
    · rw [h, wbS]; exact wgz
    · rw [wge h, wfn]; exact ⟨by omega, ih _ (by omega)⟩
theorem wcR (n : Nat) : val (digs n) = n := by
  induction n using Nat.strongRecOn with
  | ind n ih =>
    by_cases h : n = 0
    · rw [h, wbS]; rfl
    · rw [wge h, val, ih _ (by omega)]; omega
theorem wgV:∀ {l:List Int},Dig l→0≤val l
 | [],_=>by simp [val]
 | x::l,h=>by rw [wfn] at h; have:=wgV h.2; rw [val]; omega
theorem wkr:∀ {l:List Int},Dig l→val l < 65536 ^ l.length
 | [],_=>by simp [val]
 | x::l,h=>by rw [wfn] at h; have:=wkr h.2; rw [val,List.length_cons,Int.pow_succ]; omega
theorem wfA (l m : List Int) : val (l ++ m) = val l + 65536 ^ l.length * val m := by
  induction l with
  | nil => simp [val]
  | cons x l ih =>
    rw [List.cons_append, val, ih, val, List.length_cons, Int.pow_succ, Int.mul_add, Int.mul_comm (65536 ^ l.length) 65536, Int.mul_assoc]; omega
theorem wk0 (n:Nat):val (List.replicate n 0)=0:=by
 induction n with
 | zero=>rfl
 | succ n ih=>rw [List.replicate_succ,val,ih]; rfl
theorem wiv (l:List Int) (i:Nat) (h:i≤l.length):val l=val (l.take i) + 65536 ^ i * val (l.drop i):=by
 have:=wfA (l.take i) (l.drop i)
 rw [List.take_append_drop,List.length_take,Nat.min_eq_left h] at this
 exact this
theorem weR (l:List Int) (i:Nat):val (l.take (i + 1))=val (l.take i) + 65536 ^ i * l.getD i 0:=by
 by_cases hi:i < l.length
 ·rw [List.take_succ_eq_append_getElem hi,wfA,List.length_take,Nat.min_eq_left (by omega)]
  simp [val,List.getD_eq_getElem?_getD,List.getElem?_eq_getElem hi]
 ·rw [List.take_of_length_le (by omega),List.take_of_length_le (by omega),List.getD_eq_getElem?_getD,List.getElem?_eq_none (by omega)]; simp
theorem wej (l:List Int) (i:Nat):val (l.drop i)=l.getD i 0 + 65536 * val (l.drop (i + 1)):=by
 by_cases hi:i < l.length
 ·have e:=List.drop_eq_getElem_cons hi
  rw [e,val]; simp [List.getD_eq_getElem?_getD,List.getElem?_eq_getElem hi]
 ·rw [List.drop_of_length_le (by omega),List.drop_of_length_le (by omega),List.getD_eq_getElem?_getD,List.getElem?_eq_none (by omega)]; simp [val]
theorem wgF : ∀ (l : List Int) (i : Nat) (x : Int), i < l.length → val (l.set i x) = val l + (x - l.getD i 0) * 65536 ^ i
  | [], i, x, h => by simp at h
  | y :: l, 0, x, h => by simp [val]; omega
  | y :: l, i + 1, x, h => by
    have := wgF l i x (by simpa using h)
    rw [List.set_cons_succ, val, val, this, List.getD_cons_succ, Int.pow_succ, Int.mul_add, ← Int.mul_assoc, Int.mul_comm (x - l.getD i 0) (65536 ^ i * 65536 : Int)]
    rw [Int.mul_comm (65536 : Int) (x - l.getD i 0), Int.mul_comm (65536 ^ i : Int) 65536, Int.mul_assoc (65536 : Int), Int.mul_comm (65536 ^ i : Int) (x - l.getD i 0), ← Int.mul_assoc, Int.mul_comm (65536 : Int) (x - l.getD i 0)]
    omega
theorem wc5 {l:List Int} {i j:Nat} {x:Int} (h:i ≠ j):(l.set i x).getD j 0=l.getD j 0:=by
 rw [List.getD_eq_getElem?_getD,List.getD_eq_getElem?_getD,List.getElem?_set_ne h]
theorem wfG {l:List Int} {i:Nat} {x:Int} (h:i < l.length):(l.set i x).getD i 0=x:=by
 rw [List.getD_eq_getElem?_getD,List.getElem?_set_self h]; rfl
theorem wbb {l:List Int} {i:Nat} (h:i < l.length):l[i]=l.getD i 0:=by
 rw [List.getD_eq_getElem?_getD,List.getElem?_eq_getElem h]; rfl
theorem wlJ {l:List Int} {i:Nat} (h:l.length≤i):l.getD i 0=0:=by
 rw [List.getD_eq_getElem?_getD,List.getElem?_eq_none h]; rfl
theorem wnZ : ∀ {l : List Int}, (∀ i, l.getD i 0 = 0) → val l = 0
  | [], _ => rfl
  | x :: l, h => by
    have h0 := h 0
    have := wnZ (l := l) (fun i => by have := h (i + 1); simpa using this)
    simp at h0
    rw [val, this, h0]; rfl
theorem woP (n : Nat) : Nrm (digs n) := by
  refine ⟨wdY n, ?_⟩
  induction n using Nat.strongRecOn with
  | ind n ih =>
    intro h
    have h0 : n ≠ 0 := by intro e; apply h; rw [e, wbS]
    have e := wge h0
    simp only [e]
    by_cases h1 : n / 65536 = 0
    · simp only [h1, wbS, List.getLast_singleton]; omega
    · rw [List.getLast_cons (wfR h1)]; exact ih _ (by omega) _
theorem wnK : ∀ {l : List Int}, Nrm l → l = digs (val l).toNat
  | [], _ => by simp [val, wbS]
  | x :: l, h => by
    obtain ⟨h1, h2⟩ := h
    rw [wfn] at h1
    have hv := wgV h1.2
    have hp : 0 < val (x :: l) ∧ l = digs (val l).toNat := by
      by_cases hl : l = []
      · subst hl
        have := h2 (by simp)
        simp at this
        refine ⟨by simp [val]; omega, by simp [val, wbS]⟩
      · have hn : Nrm l := ⟨h1.2, fun hh => by have := h2 (by simp); rwa [List.getLast_cons hh] at this⟩
        have e := wnK hn
        refine ⟨?_, e⟩
        have : (val l).toNat ≠ 0 := by intro e0; rw [e0, wbS] at e; exact hl e
        rw [val]; omega
    have e0 : (val (x :: l)).toNat ≠ 0 := by omega
    rw [wge e0]
    have a1 : (((val (x :: l)).toNat % 65536 : Nat) : Int) = x := by rw [val]; omega
    have a2 : (val (x :: l)).toNat / 65536 = (val l).toNat := by rw [val]; omega
    rw [a1, a2, ← hp.2]
theorem woz {l:List Int} {n:Nat} (h:Nrm l) (hv:val l=n):l=digs n:=by rw [wnK h,hv]; rfl
theorem weJ : ∀ {m n : Nat}, n < 65536 ^ m → (digs n).length ≤ m := by
  intro m
  induction m with
  | zero => intro n h; have : n = 0 := by simpa using h
            subst this; simp [wbS]
  | succ m ih =>
    intro n h
    by_cases h0 : n = 0
    · subst h0; simp [wbS]
    · rw [wge h0, List.length_cons]
      have := ih (n := n / 65536) (by rw [Nat.pow_succ] at h; omega)
      omega
theorem we0 (n:Nat):n < 65536 ^ (digs n).length:=by
 have:=wkr (wdY n)
 rw [wcR] at this
 have e:(((65536 ^ (digs n).length:Nat)):Int)=(65536:Int) ^ (digs n).length:=Int.natCast_pow _ _
 omega
theorem wf8 {n : Nat} (h : n ≠ 0) : 65536 ^ ((digs n).length - 1) ≤ n := by
  induction n using Nat.strongRecOn with
  | ind n ih =>
    rw [wge h, List.length_cons, Nat.add_sub_cancel]
    by_cases h1 : n / 65536 = 0
    · rw [h1, wbS]; simp; omega
    · have := ih _ (by omega) h1
      have h2 : (digs (n / 65536)).length ≠ 0 := by intro e; exact wfR h1 (List.length_eq_zero_iff.1 e)
      obtain ⟨m, hm⟩ : ∃ m, (digs (n / 65536)).length = m + 1 := ⟨(digs (n / 65536)).length - 1, by omega⟩
      rw [hm] at this ⊢
      rw [Nat.add_sub_cancel] at this
      rw [Nat.pow_succ]; omega
theorem we5 {n:Nat}:(digs n).length=0↔n=0:=by
 constructor
 ·intro h; by_cases h0:n=0
  ·exact h0
  ·exact absurd (List.length_eq_zero_iff.1 h) (wfR h0)
 ·intro h; rw [h,wbS]; rfl
theorem wia {m n:Nat} (h:(digs n).length≤m):n < 65536 ^ m :=
 Nat.lt_of_lt_of_le (we0 n) (Nat.pow_le_pow_right (by omega) h)
theorem wgd {a b:Nat} (h:a≤b):(digs a).length≤(digs b).length :=
 weJ (Nat.lt_of_le_of_lt h (we0 b))
theorem wnt {l:List Int} (h:Dig l) (hv:l ≠ []→65536 ^ (l.length - 1)≤val l):Nrm l:=by
 refine ⟨h,fun hne e=>?_⟩
 have e2:=List.dropLast_concat_getLast hne
 have hv:=hv hne
 rw [← e2,e] at hv h
 rw [wgY] at h
 have:=wkr h.1
 rw [wfA] at hv
 simp [val] at hv this
 omega
theorem wfd (n i : Nat) : (digs n).getD i 0 = ((n / 65536 ^ i % 65536 : Nat) : Int) := by
  induction i generalizing n with
  | zero =>
    by_cases h : n = 0
    · rw [h, wbS]; simp
    · rw [wge h]; simp
  | succ i ih =>
    by_cases h : n = 0
    · rw [h, wbS]; simp
    · rw [wge h, List.getD_cons_succ, ih, Nat.pow_succ, Nat.mul_comm (65536 ^ i) 65536, ← Nat.div_div_eq_div_mul]
theorem wpU (n i : Nat) : (digs n).drop i = digs (n / 65536 ^ i) := by
  induction i generalizing n with
  | zero => simp
  | succ i ih =>
    by_cases h : n = 0
    · rw [h, wbS]; simp [wbS]
    · rw [wge h, List.drop_succ_cons, ih, Nat.pow_succ, Nat.mul_comm (65536 ^ i) 65536, ← Nat.div_div_eq_div_mul]
theorem wrt {n:Nat} (h:n ≠ 0) (k:Nat):List.replicate k 0++digs n=digs (n * 65536 ^ k):=by
 refine woz ⟨?_,?_⟩ ?_
 ·rw [wgY]; exact ⟨wm4 k,wdY n⟩
 ·intro hh
  rw [List.getLast_append_of_ne_nil _ (wfR h)]
  exact (woP n).2 _
 ·rw [wfA,wk0,wcR,List.length_replicate,Int.natCast_mul,Int.natCast_pow,Int.zero_add,Int.mul_comm]; rfl
theorem whI {n:Nat} (h0:n ≠ 0) (h:n < 65536):digs n=[(n:Int)]:=by
 rw [wge h0,Nat.mod_eq_of_lt h,Nat.div_eq_of_lt h,wbS]
theorem whp {n:Nat} (h:n ≠ 0):n / 65536 ^ ((digs n).length - 1) ≠ 0∧n / 65536 ^ ((digs n).length - 1) < 65536:=by
 have h1:=wf8 h
 have h2:=we0 n
 have h3:0 < (digs n).length:=by have:=wfR h; exact List.length_pos_iff.2 this
 have hp:0 < 65536 ^ ((digs n).length - 1):=Nat.pow_pos (by omega)
 constructor
 ·have:=Nat.div_le_div_right (c:=65536 ^ ((digs n).length - 1)) h1
  rw [Nat.div_self hp] at this; omega
 ·rw [Nat.div_lt_iff_lt_mul hp]
  have:65536 * 65536 ^ ((digs n).length - 1)=65536 ^ (digs n).length:=by
   rw [Nat.mul_comm,← Nat.pow_succ]; congr 1; omega
  omega
def cmpN (a b:Nat):Int:=if a < b then -1 else if b < a then 1 else 0
def tlen (l:List Int):Nat→Nat
 | 0=>0
 | n + 1=>if l.getD n 0=0 then tlen l n else n + 1
def tl (l:List Int):List Int:=l.take (tlen l l.length)
theorem wqK (l:List Int) (n:Nat):tlen l n≤n:=by
 induction n with
 | zero=>simp [tlen]
 | succ n ih=>rw [tlen]; split <;> omega
theorem wrY (l : List Int) (n : Nat) : val (l.take (tlen l n)) = val (l.take n) := by
  induction n with
  | zero => simp [tlen]
  | succ n ih =>
    rw [tlen]; split
    next h => rw [ih, weR, h]; omega
    next h => rfl
theorem wrU (l : List Int) (n : Nat) : tlen l n = 0 ∨ l.getD (tlen l n - 1) 0 ≠ 0 := by
  induction n with
  | zero => simp [tlen]
  | succ n ih =>
    rw [tlen]; split
    next h => exact ih
    next h => right; simpa using h
theorem wt8 (l:List Int):val (tl l)=val l:=by
 unfold tl; rw [wrY,List.take_of_length_le (by omega)]
theorem wt3 {l:List Int} (h:Dig l):Nrm (tl l):=by
 refine ⟨wkG h _,fun hne=>?_⟩
 unfold tl at hne ⊢
 have hle:=wqK l l.length
 have hlen:(l.take (tlen l l.length)).length=tlen l l.length:=by rw [List.length_take]; omega
 have h0:tlen l l.length ≠ 0:=by intro e; apply hne; rw [e]; simp
 rcases wrU l l.length with h1 | h1
 ·exact absurd h1 h0
 ·rw [List.getLast_eq_getElem,List.getElem_take]
  simp only [hlen]
  rwa [wbb (by omega)]
theorem wu8 {l:List Int} (h:Dig l):tl l=digs (val l).toNat:=by
 rw [wnK (wt3 h),wt8]
theorem wj9 {l:List Int} {n:Nat} (h:Dig l) (hv:val l=n):tl l=digs n:=by rw [wu8 h,hv]; rfl
theorem wsY (n:Nat):tl (digs n)=digs n:=wj9 (wdY n) (wcR n)
theorem wnd (k:Nat):∃ n:Nat,n=k:=⟨_,rfl⟩
noncomputable def capE:Nat:=Classical.choose (wnd 3000)
noncomputable def wpF:Nat:=Classical.choose (wnd 2900)
theorem wqw:capE=3000:=Classical.choose_spec (wnd 3000)
theorem wmV:wpF=2900:=Classical.choose_spec (wnd 2900)
theorem wpa (k:Nat):∃ n:Nat,n=65536 ^ k:=⟨_,rfl⟩
noncomputable def cap:Nat:=Classical.choose (wpa capE)
noncomputable def cap0:Nat:=Classical.choose (wpa wpF)
theorem wr7:cap=65536 ^ capE:=Classical.choose_spec (wpa capE)
theorem woE:cap0=65536 ^ wpF:=Classical.choose_spec (wpa wpF)
theorem wjq {i j:Nat} (h:i≤j):65536 ^ i≤65536 ^ j:=Nat.pow_le_pow_right (by omega) h
theorem wpd {n i:Nat} (h:n≤65536 ^ i) (hi:i≤3000):n≤cap:=by
 rw [wr7]; exact Nat.le_trans h (wjq (by rw [wqw]; exact hi))
theorem wtw {n i:Nat} (h:n≤65536 ^ i) (hi:i≤2900):n≤cap0:=by
 rw [woE]; exact Nat.le_trans h (wjq (by rw [wmV]; exact hi))
theorem wii:1099511627776≤cap:=wpd (i:=4) (by decide) (by decide)
theorem wix:281474976710656 * cap0≤cap:=by
 refine wpd (i:=3 + wpF) ?_ (by rw [wmV]; decide)
 rw [woE,Nat.pow_add]
 exact Nat.le_refl _
theorem wh9 {n k:Nat} (h:n < 65536 ^ k) (hk:k≤2900):n < cap0:=Nat.lt_of_lt_of_le h (wtw (Nat.le_refl _) hk)
theorem wo1 {n k:Nat} (h:n < 65536 ^ k) (hk:k≤3000):n < cap:=Nat.lt_of_lt_of_le h (wpd (Nat.le_refl _) hk)
theorem weT {n:Nat} (h:n < cap):(digs n).length≤3000:=by
 have:=weJ (m:=capE) (by rwa [← wr7])
 rwa [wqw] at this
theorem wkn:18446744073709551616≤cap:=wpd (i:=4) (by decide) (by decide)
theorem wk5 {a b k m:Nat} (ha:a < 65536 ^ k) (hb:b < 65536 ^ m):a * b < 65536 ^ (k + m):=by
 rw [Nat.pow_add]; exact Nat.mul_lt_mul'' ha hb
theorem wmW (i:Nat):(0:Int) < 65536 ^ i:=Int.pow_pos (by omega)
theorem wjl {i:Nat} (h:i < 9223372036854775808):IntKind.i64.wrap (i:Int)=i:=wd (by omega) (by omega)
theorem wfk {i j:Nat} (h:i + j < 9223372036854775808):IntKind.i64.wrap ((i:Int) + (j:Int))=((i + j:Nat):Int):=by
 rw [wd (by omega) (by omega)]; omega
theorem wrj {i j:Nat} (h:j≤i) (h2:i < 9223372036854775808):IntKind.i64.wrap ((i:Int) - (j:Int))=((i - j:Nat):Int):=by
 rw [wd (by omega) (by omega)]; omega
theorem wi2 {i:Nat} (h:i < 4611686018427387904):IntKind.i64.wrap (((i + 1:Nat):Int) - 1)=(i:Int):=by
 rw [wd (by omega) (by omega)]; omega
theorem wm6 (i:Nat) (x:Int) (r:List Int):(List.replicate (i + 1) 0++r).set i x=List.replicate i 0++x::r:=by
 rw [show List.replicate (i + 1) (0:Int)=List.replicate i 0++[0] by rw [List.replicate_succ']]
 rw [List.append_assoc,List.set_append_right _ _ (by simp)]
 simp
end Go.Proofs.YtnhbcpmmdblkjaaGreatDoorAm
