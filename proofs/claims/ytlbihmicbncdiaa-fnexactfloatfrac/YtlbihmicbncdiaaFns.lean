/-
  The functions that the program computes, as the abstract machine tells them. Printed by amp.py.
-/
import Derived.Test.YtlbihmicbncdiaaAmb
namespace Go.Proofs.YtlbihmicbncdiaaAm
open Go
noncomputable section
set_option linter.unusedVariables false
set_option linter.unusedSimpArgs false

/-- loop.example/pinfold/spec.l1Width -/
noncomputable def spec_l1Width.b {α : Type} (N : Nat) (a9 : Int) (k0 : Bool → Option α) : Option α :=
  let x10 := (decide (a9 = (32 : Int)))
  bif x10 then
    k0 true
  else
    let x11 := (decide (a9 = (64 : Int)))
    k0 x11
theorem spec_l1Width.ex : ∃ f : ((α : Type) → Nat → Int → (Bool → Option α) → Option α), f = fun α => @spec_l1Width.b α := ⟨_, rfl⟩
noncomputable def spec_l1Width {α : Type} : Nat → Int → (Bool → Option α) → Option α := Classical.choose spec_l1Width.ex α
theorem spec_l1Width.eq : @spec_l1Width = @spec_l1Width.b := funext fun α => congrFun (Classical.choose_spec spec_l1Width.ex) α

/-- loop.example/pinfold/spec.BitTop -/
noncomputable def spec_BitTop.b {α : Type} (N : Nat) (a13 : Int) (k0 : Int → Option α) : Option α :=
  let x14 := (decide (a13 = (32 : Int)))
  bif x14 then
    k0 (2139095040 : Int)
  else
    let x15 := (decide (a13 = (64 : Int)))
    bif x15 then
      k0 (9218868437227405312 : Int)
    else
      k0 (0 : Int)
theorem spec_BitTop.ex : ∃ f : ((α : Type) → Nat → Int → (Int → Option α) → Option α), f = fun α => @spec_BitTop.b α := ⟨_, rfl⟩
noncomputable def spec_BitTop {α : Type} : Nat → Int → (Int → Option α) → Option α := Classical.choose spec_BitTop.ex α
theorem spec_BitTop.eq : @spec_BitTop = @spec_BitTop.b := funext fun α => congrFun (Classical.choose_spec spec_BitTop.ex) α

/-- loop.example/pinfold/spec.BitOk -/
noncomputable def spec_BitOk.b {α : Type} (N : Nat) (a7 : Int) (a8 : Int) (k0 : Bool → Option α) : Option α :=
  spec_l1Width N a7
    (fun x12 =>
      bif x12 then
        spec_BitTop N a7
          (fun x16 =>
            let x17 := IntKind.i64.wrap (0 - x16)
            let x18 := decide (x17 ≤ a8)
            bif x18 then
              spec_BitTop N a7
                (fun x19 =>
                  let x20 := decide (a8 ≤ x19)
                  k0 x20)
            else
              k0 false)
      else
        k0 false)
theorem spec_BitOk.ex : ∃ f : ((α : Type) → Nat → Int → Int → (Bool → Option α) → Option α), f = fun α => @spec_BitOk.b α := ⟨_, rfl⟩
noncomputable def spec_BitOk {α : Type} : Nat → Int → Int → (Bool → Option α) → Option α := Classical.choose spec_BitOk.ex α
theorem spec_BitOk.eq : @spec_BitOk = @spec_BitOk.b := funext fun α => congrFun (Classical.choose_spec spec_BitOk.ex) α

/-- loop.example/pinfold/spec.l1Least -/
noncomputable def spec_l1Least.b {α : Type} (N : Nat) (a29 : Int) (k0 : Int → Option α) : Option α :=
  let x30 := (decide (a29 = (32 : Int)))
  bif x30 then
    k0 (-149 : Int)
  else
    k0 (-1074 : Int)
theorem spec_l1Least.ex : ∃ f : ((α : Type) → Nat → Int → (Int → Option α) → Option α), f = fun α => @spec_l1Least.b α := ⟨_, rfl⟩
noncomputable def spec_l1Least {α : Type} : Nat → Int → (Int → Option α) → Option α := Classical.choose spec_l1Least.ex α
theorem spec_l1Least.eq : @spec_l1Least = @spec_l1Least.b := funext fun α => congrFun (Classical.choose_spec spec_l1Least.ex) α

/-- loop.example/pinfold/spec.l1Frac -/
noncomputable def spec_l1Frac.b {α : Type} (N : Nat) (a42 : Int) (k0 : Int → Option α) : Option α :=
  let x43 := (decide (a42 = (32 : Int)))
  bif x43 then
    k0 (23 : Int)
  else
    k0 (52 : Int)
theorem spec_l1Frac.ex : ∃ f : ((α : Type) → Nat → Int → (Int → Option α) → Option α), f = fun α => @spec_l1Frac.b α := ⟨_, rfl⟩
noncomputable def spec_l1Frac {α : Type} : Nat → Int → (Int → Option α) → Option α := Classical.choose spec_l1Frac.ex α
theorem spec_l1Frac.eq : @spec_l1Frac = @spec_l1Frac.b := funext fun α => congrFun (Classical.choose_spec spec_l1Frac.ex) α

noncomputable def spec_BitPartOf_J5.b {α : Type} (N : Nat) (v32 : Int) (v33 : Int) (v34 : Bool × Int × Int × Unit) (v35 : Bool × Int × Int × Unit) (k0 : Int → Int → (Bool × Int × Int × Unit) → (Bool × Int × Int × Unit) → Option α) : Option α :=
  let x36 := (decide (v33 < (0 : Int)))
  bif x36 then
    let x37 := IntKind.i64.wrap (0 - v33)
    k0 v32 x37 v34 v35
  else
    k0 v32 v33 v34 v35
theorem spec_BitPartOf_J5.ex : ∃ f : ((α : Type) → Nat → Int → Int → (Bool × Int × Int × Unit) → (Bool × Int × Int × Unit) → (Int → Int → (Bool × Int × Int × Unit) → (Bool × Int × Int × Unit) → Option α) → Option α), f = fun α => @spec_BitPartOf_J5.b α := ⟨_, rfl⟩
noncomputable def spec_BitPartOf_J5 {α : Type} : Nat → Int → Int → (Bool × Int × Int × Unit) → (Bool × Int × Int × Unit) → (Int → Int → (Bool × Int × Int × Unit) → (Bool × Int × Int × Unit) → Option α) → Option α := Classical.choose spec_BitPartOf_J5.ex α
theorem spec_BitPartOf_J5.eq : @spec_BitPartOf_J5 = @spec_BitPartOf_J5.b := funext fun α => congrFun (Classical.choose_spec spec_BitPartOf_J5.ex) α
noncomputable def spec_BitPartOf_J10.b {α : Type} (N : Nat) (v50 : Int) (v51 : Int) (v52 : Bool × Int × Int × Unit) (v53 : Bool × Int × Int × Unit) (k0 : (Bool × Int × Int × Unit) → (Bool × Int × Int × Unit) → Option α) : Option α :=
  let x54 := (decide ((0 : Int) < v51))
  bif x54 then
    let x55 := IntKind.u64.wrap v50
    let x56 := IntKind.u64.wrap (v53.2.1 + x55)
    let x57 := IntKind.i64.wrap (v53.2.2.1 + v51)
    let x58 := (IntKind.i64.wrap (x57 - (1 : Int)))
    k0 v52 (v53.1, (x56, (x58, ())))
  else
    k0 v52 v53
theorem spec_BitPartOf_J10.ex : ∃ f : ((α : Type) → Nat → Int → Int → (Bool × Int × Int × Unit) → (Bool × Int × Int × Unit) → ((Bool × Int × Int × Unit) → (Bool × Int × Int × Unit) → Option α) → Option α), f = fun α => @spec_BitPartOf_J10.b α := ⟨_, rfl⟩
noncomputable def spec_BitPartOf_J10 {α : Type} : Nat → Int → Int → (Bool × Int × Int × Unit) → (Bool × Int × Int × Unit) → ((Bool × Int × Int × Unit) → (Bool × Int × Int × Unit) → Option α) → Option α := Classical.choose spec_BitPartOf_J10.ex α
theorem spec_BitPartOf_J10.eq : @spec_BitPartOf_J10 = @spec_BitPartOf_J10.b := funext fun α => congrFun (Classical.choose_spec spec_BitPartOf_J10.ex) α
/-- loop.example/pinfold/spec.BitPartOf -/
noncomputable def spec_BitPartOf.b {α : Type} (N : Nat) (a5 : Int) (a6 : Int) (k0 : (Bool × Int × Int × Unit) → Bool → Option α) : Option α :=
  spec_BitOk N a5 a6
    (fun x21 =>
      let x22 := !x21
      bif x22 then
        k0 (false, ((0 : Int), ((0 : Int), ()))) false
      else
        spec_BitTop N a5
          (fun x23 =>
            let x24 := decide (a6 = x23)
            bif x24 then
              k0 (false, ((0 : Int), ((0 : Int), ()))) false
            else
              spec_BitTop N a5
                (fun x25 =>
                  let x26 := IntKind.i64.wrap (0 - x25)
                  let x27 := decide (a6 = x26)
                  bif x27 then
                    k0 (false, ((0 : Int), ((0 : Int), ()))) false
                  else
                    let x28 := (decide (a6 < (0 : Int)))
                    spec_l1Least N a5
                      (fun x31 =>
                        spec_BitPartOf_J5 N a5 a6 (false, ((0 : Int), ((0 : Int), ()))) (x28, ((0 : Int), (x31, ())))
                          (fun x38 x39 x40 x41 =>
                            spec_l1Frac N x38
                              (fun x44 =>
                                let x45 := IntKind.u64.wrap x44
                                bif (decide (x45 < (0 : Int))) then
                                  none
                                else
                                  let x46 := (shlI .i64 (1 : Int) x45)
                                  bif (decide (x46 = (0 : Int))) then
                                    none
                                  else
                                    let x47 := IntKind.i64.wrap (Int.tdiv x39 x46)
                                    bif (decide (x46 = (0 : Int))) then
                                      none
                                    else
                                      let x48 := Int.tmod x39 x46
                                      let x49 := IntKind.u64.wrap x48
                                      spec_BitPartOf_J10 N x46 x47 x40 (x41.1, (x49, (x41.2.2.1, ())))
                                        (fun _ x60 =>
                                          k0 x60 true)))))))
theorem spec_BitPartOf.ex : ∃ f : ((α : Type) → Nat → Int → Int → ((Bool × Int × Int × Unit) → Bool → Option α) → Option α), f = fun α => @spec_BitPartOf.b α := ⟨_, rfl⟩
noncomputable def spec_BitPartOf {α : Type} : Nat → Int → Int → ((Bool × Int × Int × Unit) → Bool → Option α) → Option α := Classical.choose spec_BitPartOf.ex α
theorem spec_BitPartOf.eq : @spec_BitPartOf = @spec_BitPartOf.b := funext fun α => congrFun (Classical.choose_spec spec_BitPartOf.ex) α

noncomputable def spec_NatOf_L0r {α : Type} (N : Nat) (next : Int → List Int → Option α) (k0 : List Int → Option α) (v69 : Int) (v70 : List Int) : Option α :=
  let x71 := (decide ((0 : Int) < v69))
  bif x71 then
    let x72 := (Int.tmod v69 (65536 : Int))
    let x73 := IntKind.i64.wrap x72
    let x74 := [x73]
    bif decide (v70.length + x74.length ≤ 8796093022208) then
      let x75 := v70 ++ x74
      let x76 := (IntKind.u64.wrap (Int.tdiv v69 (65536 : Int)))
      next x76 x75
    else
      none
  else
    k0 v70
noncomputable def spec_NatOf_L0.b {α : Type} (N n : Nat) (v69 : Int) (v70 : List Int) (k0 : List Int → Option α) : Option α :=
  Nat.rec (motive := fun _ => Int → List Int → Option α) (fun _ _ => none) (fun _ next => spec_NatOf_L0r N next k0) n v69 v70
theorem spec_NatOf_L0.ex : ∃ f : ((α : Type) → Nat → Nat → Int → List Int → (List Int → Option α) → Option α), f = fun α => @spec_NatOf_L0.b α := ⟨_, rfl⟩
noncomputable def spec_NatOf_L0 {α : Type} : Nat → Nat → Int → List Int → (List Int → Option α) → Option α := Classical.choose spec_NatOf_L0.ex α
theorem spec_NatOf_L0.eq : @spec_NatOf_L0 = @spec_NatOf_L0.b := funext fun α => congrFun (Classical.choose_spec spec_NatOf_L0.ex) α
theorem spec_NatOf_L0.zero {α : Type} (N : Nat) (v69 : Int) (v70 : List Int) (k0 : List Int → Option α) : spec_NatOf_L0 N 0 v69 v70 k0 = none := by rw [spec_NatOf_L0.eq]; rfl
theorem spec_NatOf_L0.succ {α : Type} (N n : Nat) (v69 : Int) (v70 : List Int) (k0 : List Int → Option α) : spec_NatOf_L0 N (n + 1) v69 v70 k0 = spec_NatOf_L0r N (fun y0 y1 => spec_NatOf_L0 N n y0 y1 k0) k0 v69 v70 := by rw [spec_NatOf_L0.eq]; rfl
/-- loop.example/pinfold/spec.NatOf -/
noncomputable def spec_NatOf.b {α : Type} (N : Nat) (a68 : Int) (k0 : List Int → Option α) : Option α :=
  spec_NatOf_L0 N N a68 []
    (fun x77 =>
      k0 x77)
theorem spec_NatOf.ex : ∃ f : ((α : Type) → Nat → Int → (List Int → Option α) → Option α), f = fun α => @spec_NatOf.b α := ⟨_, rfl⟩
noncomputable def spec_NatOf {α : Type} : Nat → Int → (List Int → Option α) → Option α := Classical.choose spec_NatOf.ex α
theorem spec_NatOf.eq : @spec_NatOf = @spec_NatOf.b := funext fun α => congrFun (Classical.choose_spec spec_NatOf.ex) α

noncomputable def spec_l5Shl_L0r {α : Type} (N : Nat) (next : List Int → Int → List Int → Option α) (k0 : List Int → Option α) (v99 : List Int) (v100 : Int) (v101 : List Int) : Option α :=
  let x102 := ((v99.length : Nat) : Int)
  let x103 := decide (v100 < x102)
  bif x103 then
    bif (decide (v100 < (0 : Int))) then
      none
    else
      match v99[v100.toNat]? with
      | some x104 =>
        let x105 := [x104]
        bif decide (v101.length + x105.length ≤ 8796093022208) then
          let x106 := v101 ++ x105
          let x107 := (IntKind.i64.wrap (v100 + (1 : Int)))
          next v99 x107 x106
        else
          none
      | none => none
  else
    k0 v101
noncomputable def spec_l5Shl_L0.b {α : Type} (N n : Nat) (v99 : List Int) (v100 : Int) (v101 : List Int) (k0 : List Int → Option α) : Option α :=
  Nat.rec (motive := fun _ => List Int → Int → List Int → Option α) (fun _ _ _ => none) (fun _ next => spec_l5Shl_L0r N next k0) n v99 v100 v101
theorem spec_l5Shl_L0.ex : ∃ f : ((α : Type) → Nat → Nat → List Int → Int → List Int → (List Int → Option α) → Option α), f = fun α => @spec_l5Shl_L0.b α := ⟨_, rfl⟩
noncomputable def spec_l5Shl_L0 {α : Type} : Nat → Nat → List Int → Int → List Int → (List Int → Option α) → Option α := Classical.choose spec_l5Shl_L0.ex α
theorem spec_l5Shl_L0.eq : @spec_l5Shl_L0 = @spec_l5Shl_L0.b := funext fun α => congrFun (Classical.choose_spec spec_l5Shl_L0.ex) α
theorem spec_l5Shl_L0.zero {α : Type} (N : Nat) (v99 : List Int) (v100 : Int) (v101 : List Int) (k0 : List Int → Option α) : spec_l5Shl_L0 N 0 v99 v100 v101 k0 = none := by rw [spec_l5Shl_L0.eq]; rfl
theorem spec_l5Shl_L0.succ {α : Type} (N n : Nat) (v99 : List Int) (v100 : Int) (v101 : List Int) (k0 : List Int → Option α) : spec_l5Shl_L0 N (n + 1) v99 v100 v101 k0 = spec_l5Shl_L0r N (fun y0 y1 y2 => spec_l5Shl_L0 N n y0 y1 y2 k0) k0 v99 v100 v101 := by rw [spec_l5Shl_L0.eq]; rfl
/-- loop.example/pinfold/spec.l5Shl -/
noncomputable def spec_l5Shl.b {α : Type} (N : Nat) (a94 : List Int) (a95 : Int) (k0 : List Int → Option α) : Option α :=
  let x96 := ((a94.length : Nat) : Int)
  let x97 := (decide (x96 = (0 : Int)))
  bif x97 then
    k0 []
  else
    bif (decide ((0 : Int) ≤ a95)) then
      bif decide (a95 ≤ a95) then
        bif (decide (a95 ≤ ((8796093022208 : Nat) : Int))) then
          let x98 := (List.replicate a95.toNat (0 : Int))
          spec_l5Shl_L0 N N a94 (0 : Int) x98
            (fun x108 =>
              k0 x108)
        else
          none
      else
        none
    else
      none
theorem spec_l5Shl.ex : ∃ f : ((α : Type) → Nat → List Int → Int → (List Int → Option α) → Option α), f = fun α => @spec_l5Shl.b α := ⟨_, rfl⟩
noncomputable def spec_l5Shl {α : Type} : Nat → List Int → Int → (List Int → Option α) → Option α := Classical.choose spec_l5Shl.ex α
theorem spec_l5Shl.eq : @spec_l5Shl = @spec_l5Shl.b := funext fun α => congrFun (Classical.choose_spec spec_l5Shl.ex) α

/-- loop.example/pinfold/spec.l5Pow2 -/
noncomputable def spec_l5Pow2.b {α : Type} (N : Nat) (a88 : Int) (k0 : List Int → Option α) : Option α :=
  let x89 := (Int.tmod a88 (16 : Int))
  let x90 := IntKind.u64.wrap x89
  bif (decide (x90 < (0 : Int))) then
    none
  else
    let x91 := (shlI .i64 (1 : Int) x90)
    let x92 := [x91]
    let x93 := (IntKind.i64.wrap (Int.tdiv a88 (16 : Int)))
    spec_l5Shl N x92 x93
      (fun x109 =>
        k0 x109)
theorem spec_l5Pow2.ex : ∃ f : ((α : Type) → Nat → Int → (List Int → Option α) → Option α), f = fun α => @spec_l5Pow2.b α := ⟨_, rfl⟩
noncomputable def spec_l5Pow2 {α : Type} : Nat → Int → (List Int → Option α) → Option α := Classical.choose spec_l5Pow2.ex α
theorem spec_l5Pow2.eq : @spec_l5Pow2 = @spec_l5Pow2.b := funext fun α => congrFun (Classical.choose_spec spec_l5Pow2.ex) α

noncomputable def spec_l5Trim_L0r {α : Type} (N : Nat) (next : List Int → Int → Option α) (k0 : List Int → Int → Option α) (v157 : List Int) (v158 : Int) : Option α :=
  let x159 := (decide ((0 : Int) < v158))
  bif x159 then
    let x160 := (IntKind.i64.wrap (v158 - (1 : Int)))
    bif (decide (x160 < (0 : Int))) then
      none
    else
      match v157[x160.toNat]? with
      | some x161 =>
        let x162 := (decide (x161 = (0 : Int)))
        bif x162 then
          let x163 := (IntKind.i64.wrap (v158 - (1 : Int)))
          next v157 x163
        else
          k0 v157 v158
      | none => none
  else
    k0 v157 v158
noncomputable def spec_l5Trim_L0.b {α : Type} (N n : Nat) (v157 : List Int) (v158 : Int) (k0 : List Int → Int → Option α) : Option α :=
  Nat.rec (motive := fun _ => List Int → Int → Option α) (fun _ _ => none) (fun _ next => spec_l5Trim_L0r N next k0) n v157 v158
theorem spec_l5Trim_L0.ex : ∃ f : ((α : Type) → Nat → Nat → List Int → Int → (List Int → Int → Option α) → Option α), f = fun α => @spec_l5Trim_L0.b α := ⟨_, rfl⟩
noncomputable def spec_l5Trim_L0 {α : Type} : Nat → Nat → List Int → Int → (List Int → Int → Option α) → Option α := Classical.choose spec_l5Trim_L0.ex α
theorem spec_l5Trim_L0.eq : @spec_l5Trim_L0 = @spec_l5Trim_L0.b := funext fun α => congrFun (Classical.choose_spec spec_l5Trim_L0.ex) α
theorem spec_l5Trim_L0.zero {α : Type} (N : Nat) (v157 : List Int) (v158 : Int) (k0 : List Int → Int → Option α) : spec_l5Trim_L0 N 0 v157 v158 k0 = none := by rw [spec_l5Trim_L0.eq]; rfl
theorem spec_l5Trim_L0.succ {α : Type} (N n : Nat) (v157 : List Int) (v158 : Int) (k0 : List Int → Int → Option α) : spec_l5Trim_L0 N (n + 1) v157 v158 k0 = spec_l5Trim_L0r N (fun y0 y1 => spec_l5Trim_L0 N n y0 y1 k0) k0 v157 v158 := by rw [spec_l5Trim_L0.eq]; rfl
noncomputable def spec_l5Trim_L2r {α : Type} (N : Nat) (next : List Int → Int → Int → List Int → Option α) (k0 : List Int → Option α) (v166 : List Int) (v167 : Int) (v168 : Int) (v169 : List Int) : Option α :=
  let x170 := decide (v168 < v167)
  bif x170 then
    bif (decide (v168 < (0 : Int))) then
      none
    else
      match v166[v168.toNat]? with
      | some x171 =>
        let x172 := [x171]
        bif decide (v169.length + x172.length ≤ 8796093022208) then
          let x173 := v169 ++ x172
          let x174 := (IntKind.i64.wrap (v168 + (1 : Int)))
          next v166 v167 x174 x173
        else
          none
      | none => none
  else
    k0 v169
noncomputable def spec_l5Trim_L2.b {α : Type} (N n : Nat) (v166 : List Int) (v167 : Int) (v168 : Int) (v169 : List Int) (k0 : List Int → Option α) : Option α :=
  Nat.rec (motive := fun _ => List Int → Int → Int → List Int → Option α) (fun _ _ _ _ => none) (fun _ next => spec_l5Trim_L2r N next k0) n v166 v167 v168 v169
theorem spec_l5Trim_L2.ex : ∃ f : ((α : Type) → Nat → Nat → List Int → Int → Int → List Int → (List Int → Option α) → Option α), f = fun α => @spec_l5Trim_L2.b α := ⟨_, rfl⟩
noncomputable def spec_l5Trim_L2 {α : Type} : Nat → Nat → List Int → Int → Int → List Int → (List Int → Option α) → Option α := Classical.choose spec_l5Trim_L2.ex α
theorem spec_l5Trim_L2.eq : @spec_l5Trim_L2 = @spec_l5Trim_L2.b := funext fun α => congrFun (Classical.choose_spec spec_l5Trim_L2.ex) α
theorem spec_l5Trim_L2.zero {α : Type} (N : Nat) (v166 : List Int) (v167 : Int) (v168 : Int) (v169 : List Int) (k0 : List Int → Option α) : spec_l5Trim_L2 N 0 v166 v167 v168 v169 k0 = none := by rw [spec_l5Trim_L2.eq]; rfl
theorem spec_l5Trim_L2.succ {α : Type} (N n : Nat) (v166 : List Int) (v167 : Int) (v168 : Int) (v169 : List Int) (k0 : List Int → Option α) : spec_l5Trim_L2 N (n + 1) v166 v167 v168 v169 k0 = spec_l5Trim_L2r N (fun y0 y1 y2 y3 => spec_l5Trim_L2 N n y0 y1 y2 y3 k0) k0 v166 v167 v168 v169 := by rw [spec_l5Trim_L2.eq]; rfl
/-- loop.example/pinfold/spec.l5Trim -/
noncomputable def spec_l5Trim.b {α : Type} (N : Nat) (a155 : List Int) (k0 : List Int → Option α) : Option α :=
  let x156 := ((a155.length : Nat) : Int)
  spec_l5Trim_L0 N N a155 x156
    (fun x164 x165 =>
      spec_l5Trim_L2 N N x164 x165 (0 : Int) []
        (fun x175 =>
          k0 x175))
theorem spec_l5Trim.ex : ∃ f : ((α : Type) → Nat → List Int → (List Int → Option α) → Option α), f = fun α => @spec_l5Trim.b α := ⟨_, rfl⟩
noncomputable def spec_l5Trim {α : Type} : Nat → List Int → (List Int → Option α) → Option α := Classical.choose spec_l5Trim.ex α
theorem spec_l5Trim.eq : @spec_l5Trim = @spec_l5Trim.b := funext fun α => congrFun (Classical.choose_spec spec_l5Trim.ex) α

noncomputable def spec_l5Mul_L2r {α : Type} (N : Nat) (next : List Int → List Int → Int → Int → Int → List Int → Option α) (k0 : List Int → List Int → Int → Int → List Int → Option α) (v123 : List Int) (v124 : List Int) (v125 : Int) (v126 : Int) (v127 : Int) (v128 : List Int) : Option α :=
  let x129 := ((v124.length : Nat) : Int)
  let x130 := decide (v127 < x129)
  bif x130 then
    let x131 := IntKind.i64.wrap (v125 + v127)
    bif (decide (x131 < (0 : Int))) then
      none
    else
      bif decide (x131.toNat < v128.length) then
        match v128[x131.toNat]? with
        | some x132 =>
          bif (decide (v125 < (0 : Int))) then
            none
          else
            match v123[v125.toNat]? with
            | some x133 =>
              bif (decide (v127 < (0 : Int))) then
                none
              else
                match v124[v127.toNat]? with
                | some x134 =>
                  let x135 := IntKind.i64.wrap (x133 * x134)
                  let x136 := IntKind.i64.wrap (x132 + x135)
                  let x137 := IntKind.i64.wrap (x136 + v126)
                  let x138 := IntKind.i64.wrap (v125 + v127)
                  let x139 := (Int.tmod x137 (65536 : Int))
                  bif (decide (x138 < (0 : Int))) then
                    none
                  else
                    bif decide (x138.toNat < v128.length) then
                      match v128[x138.toNat]? with
                      | some x140 =>
                        let x141 := v128.set x138.toNat x139
                        let x142 := (IntKind.i64.wrap (Int.tdiv x137 (65536 : Int)))
                        let x143 := (IntKind.i64.wrap (v127 + (1 : Int)))
                        next v123 v124 v125 x142 x143 x141
                      | none => none
                    else
                      none
                | none => none
            | none => none
        | none => none
      else
        none
  else
    k0 v123 v124 v125 v126 v128
noncomputable def spec_l5Mul_L2.b {α : Type} (N n : Nat) (v123 : List Int) (v124 : List Int) (v125 : Int) (v126 : Int) (v127 : Int) (v128 : List Int) (k0 : List Int → List Int → Int → Int → List Int → Option α) : Option α :=
  Nat.rec (motive := fun _ => List Int → List Int → Int → Int → Int → List Int → Option α) (fun _ _ _ _ _ _ => none) (fun _ next => spec_l5Mul_L2r N next k0) n v123 v124 v125 v126 v127 v128
theorem spec_l5Mul_L2.ex : ∃ f : ((α : Type) → Nat → Nat → List Int → List Int → Int → Int → Int → List Int → (List Int → List Int → Int → Int → List Int → Option α) → Option α), f = fun α => @spec_l5Mul_L2.b α := ⟨_, rfl⟩
noncomputable def spec_l5Mul_L2 {α : Type} : Nat → Nat → List Int → List Int → Int → Int → Int → List Int → (List Int → List Int → Int → Int → List Int → Option α) → Option α := Classical.choose spec_l5Mul_L2.ex α
theorem spec_l5Mul_L2.eq : @spec_l5Mul_L2 = @spec_l5Mul_L2.b := funext fun α => congrFun (Classical.choose_spec spec_l5Mul_L2.ex) α
theorem spec_l5Mul_L2.zero {α : Type} (N : Nat) (v123 : List Int) (v124 : List Int) (v125 : Int) (v126 : Int) (v127 : Int) (v128 : List Int) (k0 : List Int → List Int → Int → Int → List Int → Option α) : spec_l5Mul_L2 N 0 v123 v124 v125 v126 v127 v128 k0 = none := by rw [spec_l5Mul_L2.eq]; rfl
theorem spec_l5Mul_L2.succ {α : Type} (N n : Nat) (v123 : List Int) (v124 : List Int) (v125 : Int) (v126 : Int) (v127 : Int) (v128 : List Int) (k0 : List Int → List Int → Int → Int → List Int → Option α) : spec_l5Mul_L2 N (n + 1) v123 v124 v125 v126 v127 v128 k0 = spec_l5Mul_L2r N (fun y0 y1 y2 y3 y4 y5 => spec_l5Mul_L2 N n y0 y1 y2 y3 y4 y5 k0) k0 v123 v124 v125 v126 v127 v128 := by rw [spec_l5Mul_L2.eq]; rfl
noncomputable def spec_l5Mul_L0r {α : Type} (N : Nat) (next : List Int → List Int → Int → List Int → Option α) (k0 : List Int → Option α) (v117 : List Int) (v118 : List Int) (v119 : Int) (v120 : List Int) : Option α :=
  let x121 := ((v117.length : Nat) : Int)
  let x122 := decide (v119 < x121)
  bif x122 then
    spec_l5Mul_L2 N N v117 v118 v119 (0 : Int) (0 : Int) v120
      (fun x144 x145 x146 x147 x148 =>
        let x149 := ((x145.length : Nat) : Int)
        let x150 := IntKind.i64.wrap (x146 + x149)
        bif (decide (x150 < (0 : Int))) then
          none
        else
          bif decide (x150.toNat < x148.length) then
            match x148[x150.toNat]? with
            | some x151 =>
              let x152 := x148.set x150.toNat x147
              let x153 := (IntKind.i64.wrap (x146 + (1 : Int)))
              next x144 x145 x153 x152
            | none => none
          else
            none)
  else
    k0 v120
noncomputable def spec_l5Mul_L0.b {α : Type} (N n : Nat) (v117 : List Int) (v118 : List Int) (v119 : Int) (v120 : List Int) (k0 : List Int → Option α) : Option α :=
  Nat.rec (motive := fun _ => List Int → List Int → Int → List Int → Option α) (fun _ _ _ _ => none) (fun _ next => spec_l5Mul_L0r N next k0) n v117 v118 v119 v120
theorem spec_l5Mul_L0.ex : ∃ f : ((α : Type) → Nat → Nat → List Int → List Int → Int → List Int → (List Int → Option α) → Option α), f = fun α => @spec_l5Mul_L0.b α := ⟨_, rfl⟩
noncomputable def spec_l5Mul_L0 {α : Type} : Nat → Nat → List Int → List Int → Int → List Int → (List Int → Option α) → Option α := Classical.choose spec_l5Mul_L0.ex α
theorem spec_l5Mul_L0.eq : @spec_l5Mul_L0 = @spec_l5Mul_L0.b := funext fun α => congrFun (Classical.choose_spec spec_l5Mul_L0.ex) α
theorem spec_l5Mul_L0.zero {α : Type} (N : Nat) (v117 : List Int) (v118 : List Int) (v119 : Int) (v120 : List Int) (k0 : List Int → Option α) : spec_l5Mul_L0 N 0 v117 v118 v119 v120 k0 = none := by rw [spec_l5Mul_L0.eq]; rfl
theorem spec_l5Mul_L0.succ {α : Type} (N n : Nat) (v117 : List Int) (v118 : List Int) (v119 : Int) (v120 : List Int) (k0 : List Int → Option α) : spec_l5Mul_L0 N (n + 1) v117 v118 v119 v120 k0 = spec_l5Mul_L0r N (fun y0 y1 y2 y3 => spec_l5Mul_L0 N n y0 y1 y2 y3 k0) k0 v117 v118 v119 v120 := by rw [spec_l5Mul_L0.eq]; rfl
/-- loop.example/pinfold/spec.l5Mul -/
noncomputable def spec_l5Mul.b {α : Type} (N : Nat) (a111 : List Int) (a112 : List Int) (k0 : List Int → Option α) : Option α :=
  let x113 := ((a111.length : Nat) : Int)
  let x114 := ((a112.length : Nat) : Int)
  let x115 := IntKind.i64.wrap (x113 + x114)
  bif (decide ((0 : Int) ≤ x115)) then
    bif decide (x115 ≤ x115) then
      bif (decide (x115 ≤ ((8796093022208 : Nat) : Int))) then
        let x116 := (List.replicate x115.toNat (0 : Int))
        spec_l5Mul_L0 N N a111 a112 (0 : Int) x116
          (fun x154 =>
            spec_l5Trim N x154
              (fun x176 =>
                k0 x176))
      else
        none
    else
      none
  else
    none
theorem spec_l5Mul.ex : ∃ f : ((α : Type) → Nat → List Int → List Int → (List Int → Option α) → Option α), f = fun α => @spec_l5Mul.b α := ⟨_, rfl⟩
noncomputable def spec_l5Mul {α : Type} : Nat → List Int → List Int → (List Int → Option α) → Option α := Classical.choose spec_l5Mul.ex α
theorem spec_l5Mul.eq : @spec_l5Mul = @spec_l5Mul.b := funext fun α => congrFun (Classical.choose_spec spec_l5Mul.ex) α

noncomputable def spec_l8Of_J3.b {α : Type} (N : Nat) (v80 : Bool) (v81 : Bool × Int × Int × Unit) (v82 : Bool) (v83 : List Int) (v84 : List Int) (v85 : List Int) (v86 : List Int) (k0 : Bool → Bool → List Int → List Int → List Int → List Int → Option α) : Option α :=
  let x87 := (decide ((0 : Int) ≤ v81.2.2.1))
  bif x87 then
    spec_l5Pow2 N v81.2.2.1
      (fun x110 =>
        spec_l5Mul N v85 x110
          (fun x177 =>
            k0 v80 v82 v83 v84 x177 v86))
  else
    let x178 := IntKind.i64.wrap (0 - v81.2.2.1)
    spec_l5Pow2 N x178
      (fun x179 =>
        k0 v80 v82 v83 v84 v85 x179)
theorem spec_l8Of_J3.ex : ∃ f : ((α : Type) → Nat → Bool → (Bool × Int × Int × Unit) → Bool → List Int → List Int → List Int → List Int → (Bool → Bool → List Int → List Int → List Int → List Int → Option α) → Option α), f = fun α => @spec_l8Of_J3.b α := ⟨_, rfl⟩
noncomputable def spec_l8Of_J3 {α : Type} : Nat → Bool → (Bool × Int × Int × Unit) → Bool → List Int → List Int → List Int → List Int → (Bool → Bool → List Int → List Int → List Int → List Int → Option α) → Option α := Classical.choose spec_l8Of_J3.ex α
theorem spec_l8Of_J3.eq : @spec_l8Of_J3 = @spec_l8Of_J3.b := funext fun α => congrFun (Classical.choose_spec spec_l8Of_J3.ex) α
/-- loop.example/pinfold/spec.l8Of -/
noncomputable def spec_l8Of.b {α : Type} (N : Nat) (a64 : Int) (a65 : Int) (k0 : Bool → List Int → List Int → Option α) : Option α :=
  spec_BitPartOf N a64 a65
    (fun x66 _ =>
      spec_NatOf N x66.2.1
        (fun x78 =>
          let x79 := [(1 : Int)]
          spec_l8Of_J3 N false x66 x66.1 [] [] x78 x79
            (fun _ x181 _ _ x184 x185 =>
              k0 x181 x184 x185)))
theorem spec_l8Of.ex : ∃ f : ((α : Type) → Nat → Int → Int → (Bool → List Int → List Int → Option α) → Option α), f = fun α => @spec_l8Of.b α := ⟨_, rfl⟩
noncomputable def spec_l8Of {α : Type} : Nat → Int → Int → (Bool → List Int → List Int → Option α) → Option α := Classical.choose spec_l8Of.ex α
theorem spec_l8Of.eq : @spec_l8Of = @spec_l8Of.b := funext fun α => congrFun (Classical.choose_spec spec_l8Of.ex) α

noncomputable def spec_l5Cmp_L0r {α : Type} (N : Nat) (next : List Int → List Int → Int → Option α) (k0 : Int → Option α) (k1 : Option α) (v215 : List Int) (v216 : List Int) (v217 : Int) : Option α :=
  let x218 := (decide ((0 : Int) ≤ v217))
  bif x218 then
    bif (decide (v217 < (0 : Int))) then
      none
    else
      match v215[v217.toNat]? with
      | some x219 =>
        bif (decide (v217 < (0 : Int))) then
          none
        else
          match v216[v217.toNat]? with
          | some x220 =>
            let x221 := decide (x219 < x220)
            bif x221 then
              k0 (-1 : Int)
            else
              bif (decide (v217 < (0 : Int))) then
                none
              else
                match v215[v217.toNat]? with
                | some x222 =>
                  bif (decide (v217 < (0 : Int))) then
                    none
                  else
                    match v216[v217.toNat]? with
                    | some x223 =>
                      let x224 := decide (x223 < x222)
                      bif x224 then
                        k0 (1 : Int)
                      else
                        let x225 := (IntKind.i64.wrap (v217 - (1 : Int)))
                        next v215 v216 x225
                    | none => none
                | none => none
          | none => none
      | none => none
  else
    k1
noncomputable def spec_l5Cmp_L0.b {α : Type} (N n : Nat) (v215 : List Int) (v216 : List Int) (v217 : Int) (k0 : Int → Option α) (k1 : Option α) : Option α :=
  Nat.rec (motive := fun _ => List Int → List Int → Int → Option α) (fun _ _ _ => none) (fun _ next => spec_l5Cmp_L0r N next k0 k1) n v215 v216 v217
theorem spec_l5Cmp_L0.ex : ∃ f : ((α : Type) → Nat → Nat → List Int → List Int → Int → (Int → Option α) → (Option α) → Option α), f = fun α => @spec_l5Cmp_L0.b α := ⟨_, rfl⟩
noncomputable def spec_l5Cmp_L0 {α : Type} : Nat → Nat → List Int → List Int → Int → (Int → Option α) → (Option α) → Option α := Classical.choose spec_l5Cmp_L0.ex α
theorem spec_l5Cmp_L0.eq : @spec_l5Cmp_L0 = @spec_l5Cmp_L0.b := funext fun α => congrFun (Classical.choose_spec spec_l5Cmp_L0.ex) α
theorem spec_l5Cmp_L0.zero {α : Type} (N : Nat) (v215 : List Int) (v216 : List Int) (v217 : Int) (k0 : Int → Option α) (k1 : Option α) : spec_l5Cmp_L0 N 0 v215 v216 v217 k0 k1 = none := by rw [spec_l5Cmp_L0.eq]; rfl
theorem spec_l5Cmp_L0.succ {α : Type} (N n : Nat) (v215 : List Int) (v216 : List Int) (v217 : Int) (k0 : Int → Option α) (k1 : Option α) : spec_l5Cmp_L0 N (n + 1) v215 v216 v217 k0 k1 = spec_l5Cmp_L0r N (fun y0 y1 y2 => spec_l5Cmp_L0 N n y0 y1 y2 k0 k1) k0 k1 v215 v216 v217 := by rw [spec_l5Cmp_L0.eq]; rfl
/-- loop.example/pinfold/spec.l5Cmp -/
noncomputable def spec_l5Cmp.b {α : Type} (N : Nat) (a205 : List Int) (a206 : List Int) (k0 : Int → Option α) : Option α :=
  let x207 := ((a205.length : Nat) : Int)
  let x208 := ((a206.length : Nat) : Int)
  let x209 := decide (x207 < x208)
  bif x209 then
    k0 (-1 : Int)
  else
    let x210 := ((a205.length : Nat) : Int)
    let x211 := ((a206.length : Nat) : Int)
    let x212 := decide (x211 < x210)
    bif x212 then
      k0 (1 : Int)
    else
      let x213 := ((a205.length : Nat) : Int)
      let x214 := (IntKind.i64.wrap (x213 - (1 : Int)))
      spec_l5Cmp_L0 N N a205 a206 x214
        (fun x226 =>
          k0 x226)
        (
          k0 (0 : Int))
theorem spec_l5Cmp.ex : ∃ f : ((α : Type) → Nat → List Int → List Int → (Int → Option α) → Option α), f = fun α => @spec_l5Cmp.b α := ⟨_, rfl⟩
noncomputable def spec_l5Cmp {α : Type} : Nat → List Int → List Int → (Int → Option α) → Option α := Classical.choose spec_l5Cmp.ex α
theorem spec_l5Cmp.eq : @spec_l5Cmp = @spec_l5Cmp.b := funext fun α => congrFun (Classical.choose_spec spec_l5Cmp.ex) α

noncomputable def spec_l5DivSmall_L0r {α : Type} (N : Nat) (next : List Int → Int → Int → Int → List Int → Option α) (k0 : Int → List Int → Option α) (v239 : List Int) (v240 : Int) (v241 : Int) (v242 : Int) (v243 : List Int) : Option α :=
  let x244 := (decide ((0 : Int) ≤ v242))
  bif x244 then
    let x245 := (IntKind.i64.wrap (v241 * (65536 : Int)))
    bif (decide (v242 < (0 : Int))) then
      none
    else
      match v239[v242.toNat]? with
      | some x246 =>
        let x247 := IntKind.i64.wrap (x245 + x246)
        bif (decide (v240 = (0 : Int))) then
          none
        else
          let x248 := IntKind.i64.wrap (Int.tdiv x247 v240)
          bif (decide (v242 < (0 : Int))) then
            none
          else
            bif decide (v242.toNat < v243.length) then
              match v243[v242.toNat]? with
              | some x249 =>
                let x250 := v243.set v242.toNat x248
                bif (decide (v240 = (0 : Int))) then
                  none
                else
                  let x251 := Int.tmod x247 v240
                  let x252 := (IntKind.i64.wrap (v242 - (1 : Int)))
                  next v239 v240 x251 x252 x250
              | none => none
            else
              none
      | none => none
  else
    k0 v241 v243
noncomputable def spec_l5DivSmall_L0.b {α : Type} (N n : Nat) (v239 : List Int) (v240 : Int) (v241 : Int) (v242 : Int) (v243 : List Int) (k0 : Int → List Int → Option α) : Option α :=
  Nat.rec (motive := fun _ => List Int → Int → Int → Int → List Int → Option α) (fun _ _ _ _ _ => none) (fun _ next => spec_l5DivSmall_L0r N next k0) n v239 v240 v241 v242 v243
theorem spec_l5DivSmall_L0.ex : ∃ f : ((α : Type) → Nat → Nat → List Int → Int → Int → Int → List Int → (Int → List Int → Option α) → Option α), f = fun α => @spec_l5DivSmall_L0.b α := ⟨_, rfl⟩
noncomputable def spec_l5DivSmall_L0 {α : Type} : Nat → Nat → List Int → Int → Int → Int → List Int → (Int → List Int → Option α) → Option α := Classical.choose spec_l5DivSmall_L0.ex α
theorem spec_l5DivSmall_L0.eq : @spec_l5DivSmall_L0 = @spec_l5DivSmall_L0.b := funext fun α => congrFun (Classical.choose_spec spec_l5DivSmall_L0.ex) α
theorem spec_l5DivSmall_L0.zero {α : Type} (N : Nat) (v239 : List Int) (v240 : Int) (v241 : Int) (v242 : Int) (v243 : List Int) (k0 : Int → List Int → Option α) : spec_l5DivSmall_L0 N 0 v239 v240 v241 v242 v243 k0 = none := by rw [spec_l5DivSmall_L0.eq]; rfl
theorem spec_l5DivSmall_L0.succ {α : Type} (N n : Nat) (v239 : List Int) (v240 : Int) (v241 : Int) (v242 : Int) (v243 : List Int) (k0 : Int → List Int → Option α) : spec_l5DivSmall_L0 N (n + 1) v239 v240 v241 v242 v243 k0 = spec_l5DivSmall_L0r N (fun y0 y1 y2 y3 y4 => spec_l5DivSmall_L0 N n y0 y1 y2 y3 y4 k0) k0 v239 v240 v241 v242 v243 := by rw [spec_l5DivSmall_L0.eq]; rfl
/-- loop.example/pinfold/spec.l5DivSmall -/
noncomputable def spec_l5DivSmall.b {α : Type} (N : Nat) (a233 : List Int) (a234 : Int) (k0 : Int → List Int → Option α) : Option α :=
  let x235 := ((a233.length : Nat) : Int)
  bif (decide ((0 : Int) ≤ x235)) then
    bif decide (x235 ≤ x235) then
      bif (decide (x235 ≤ ((8796093022208 : Nat) : Int))) then
        let x236 := (List.replicate x235.toNat (0 : Int))
        let x237 := ((a233.length : Nat) : Int)
        let x238 := (IntKind.i64.wrap (x237 - (1 : Int)))
        spec_l5DivSmall_L0 N N a233 a234 (0 : Int) x238 x236
          (fun x253 x254 =>
            spec_l5Trim N x254
              (fun x255 =>
                k0 x253 x255))
      else
        none
    else
      none
  else
    none
theorem spec_l5DivSmall.ex : ∃ f : ((α : Type) → Nat → List Int → Int → (Int → List Int → Option α) → Option α), f = fun α => @spec_l5DivSmall.b α := ⟨_, rfl⟩
noncomputable def spec_l5DivSmall {α : Type} : Nat → List Int → Int → (Int → List Int → Option α) → Option α := Classical.choose spec_l5DivSmall.ex α
theorem spec_l5DivSmall.eq : @spec_l5DivSmall = @spec_l5DivSmall.b := funext fun α => congrFun (Classical.choose_spec spec_l5DivSmall.ex) α

/-- loop.example/pinfold/spec.l5Times -/
noncomputable def spec_l5Times.b {α : Type} (N : Nat) (a265 : List Int) (a266 : Int) (k0 : List Int → Option α) : Option α :=
  let x267 := (decide (a266 = (0 : Int)))
  bif x267 then
    k0 []
  else
    let x268 := [a266]
    spec_l5Mul N a265 x268
      (fun x269 =>
        k0 x269)
theorem spec_l5Times.ex : ∃ f : ((α : Type) → Nat → List Int → Int → (List Int → Option α) → Option α), f = fun α => @spec_l5Times.b α := ⟨_, rfl⟩
noncomputable def spec_l5Times {α : Type} : Nat → List Int → Int → (List Int → Option α) → Option α := Classical.choose spec_l5Times.ex α
theorem spec_l5Times.eq : @spec_l5Times = @spec_l5Times.b := funext fun α => congrFun (Classical.choose_spec spec_l5Times.ex) α

noncomputable def spec_l5Top_L0r {α : Type} (N : Nat) (next : List Int → Int → List Int → Option α) (k0 : List Int → Option α) (v282 : List Int) (v283 : Int) (v284 : List Int) : Option α :=
  let x285 := ((v282.length : Nat) : Int)
  let x286 := decide (v283 < x285)
  bif x286 then
    bif (decide (v283 < (0 : Int))) then
      none
    else
      match v282[v283.toNat]? with
      | some x287 =>
        let x288 := [x287]
        bif decide (v284.length + x288.length ≤ 8796093022208) then
          let x289 := v284 ++ x288
          let x290 := (IntKind.i64.wrap (v283 + (1 : Int)))
          next v282 x290 x289
        else
          none
      | none => none
  else
    k0 v284
noncomputable def spec_l5Top_L0.b {α : Type} (N n : Nat) (v282 : List Int) (v283 : Int) (v284 : List Int) (k0 : List Int → Option α) : Option α :=
  Nat.rec (motive := fun _ => List Int → Int → List Int → Option α) (fun _ _ _ => none) (fun _ next => spec_l5Top_L0r N next k0) n v282 v283 v284
theorem spec_l5Top_L0.ex : ∃ f : ((α : Type) → Nat → Nat → List Int → Int → List Int → (List Int → Option α) → Option α), f = fun α => @spec_l5Top_L0.b α := ⟨_, rfl⟩
noncomputable def spec_l5Top_L0 {α : Type} : Nat → Nat → List Int → Int → List Int → (List Int → Option α) → Option α := Classical.choose spec_l5Top_L0.ex α
theorem spec_l5Top_L0.eq : @spec_l5Top_L0 = @spec_l5Top_L0.b := funext fun α => congrFun (Classical.choose_spec spec_l5Top_L0.ex) α
theorem spec_l5Top_L0.zero {α : Type} (N : Nat) (v282 : List Int) (v283 : Int) (v284 : List Int) (k0 : List Int → Option α) : spec_l5Top_L0 N 0 v282 v283 v284 k0 = none := by rw [spec_l5Top_L0.eq]; rfl
theorem spec_l5Top_L0.succ {α : Type} (N n : Nat) (v282 : List Int) (v283 : Int) (v284 : List Int) (k0 : List Int → Option α) : spec_l5Top_L0 N (n + 1) v282 v283 v284 k0 = spec_l5Top_L0r N (fun y0 y1 y2 => spec_l5Top_L0 N n y0 y1 y2 k0) k0 v282 v283 v284 := by rw [spec_l5Top_L0.eq]; rfl
/-- loop.example/pinfold/spec.l5Top -/
noncomputable def spec_l5Top.b {α : Type} (N : Nat) (a280 : List Int) (a281 : Int) (k0 : List Int → Option α) : Option α :=
  spec_l5Top_L0 N N a280 a281 []
    (fun x291 =>
      k0 x291)
theorem spec_l5Top.ex : ∃ f : ((α : Type) → Nat → List Int → Int → (List Int → Option α) → Option α), f = fun α => @spec_l5Top.b α := ⟨_, rfl⟩
noncomputable def spec_l5Top {α : Type} : Nat → List Int → Int → (List Int → Option α) → Option α := Classical.choose spec_l5Top.ex α
theorem spec_l5Top.eq : @spec_l5Top = @spec_l5Top.b := funext fun α => congrFun (Classical.choose_spec spec_l5Top.ex) α

/-- loop.example/pinfold/spec.l5At -/
noncomputable def spec_l5At.b {α : Type} (N : Nat) (a326 : List Int) (a327 : Int) (k0 : Int → Option α) : Option α :=
  let x328 := ((a326.length : Nat) : Int)
  let x329 := decide (a327 < x328)
  bif x329 then
    bif (decide (a327 < (0 : Int))) then
      none
    else
      match a326[a327.toNat]? with
      | some x330 =>
        k0 x330
      | none => none
  else
    k0 (0 : Int)
theorem spec_l5At.ex : ∃ f : ((α : Type) → Nat → List Int → Int → (Int → Option α) → Option α), f = fun α => @spec_l5At.b α := ⟨_, rfl⟩
noncomputable def spec_l5At {α : Type} : Nat → List Int → Int → (Int → Option α) → Option α := Classical.choose spec_l5At.ex α
theorem spec_l5At.eq : @spec_l5At = @spec_l5At.b := funext fun α => congrFun (Classical.choose_spec spec_l5At.ex) α

noncomputable def spec_l5Add_J2.b {α : Type} (N : Nat) (v310 : List Int) (v311 : List Int) (v312 : Int) (k0 : List Int → List Int → Int → Option α) : Option α :=
  let x313 := ((v311.length : Nat) : Int)
  let x314 := decide (v312 < x313)
  bif x314 then
    let x315 := ((v311.length : Nat) : Int)
    k0 v310 v311 x315
  else
    k0 v310 v311 v312
theorem spec_l5Add_J2.ex : ∃ f : ((α : Type) → Nat → List Int → List Int → Int → (List Int → List Int → Int → Option α) → Option α), f = fun α => @spec_l5Add_J2.b α := ⟨_, rfl⟩
noncomputable def spec_l5Add_J2 {α : Type} : Nat → List Int → List Int → Int → (List Int → List Int → Int → Option α) → Option α := Classical.choose spec_l5Add_J2.ex α
theorem spec_l5Add_J2.eq : @spec_l5Add_J2 = @spec_l5Add_J2.b := funext fun α => congrFun (Classical.choose_spec spec_l5Add_J2.ex) α
noncomputable def spec_l5Add_L0r {α : Type} (N : Nat) (next : List Int → List Int → Int → Int → Int → List Int → Option α) (k0 : Int → List Int → Option α) (v319 : List Int) (v320 : List Int) (v321 : Int) (v322 : Int) (v323 : Int) (v324 : List Int) : Option α :=
  let x325 := decide (v323 < v321)
  bif x325 then
    spec_l5At N v319 v323
      (fun x331 =>
        spec_l5At N v320 v323
          (fun x332 =>
            let x333 := IntKind.i64.wrap (x331 + x332)
            let x334 := IntKind.i64.wrap (x333 + v322)
            let x335 := (Int.tmod x334 (65536 : Int))
            let x336 := [x335]
            bif decide (v324.length + x336.length ≤ 8796093022208) then
              let x337 := v324 ++ x336
              let x338 := (IntKind.i64.wrap (Int.tdiv x334 (65536 : Int)))
              let x339 := (IntKind.i64.wrap (v323 + (1 : Int)))
              next v319 v320 v321 x338 x339 x337
            else
              none))
  else
    k0 v322 v324
noncomputable def spec_l5Add_L0.b {α : Type} (N n : Nat) (v319 : List Int) (v320 : List Int) (v321 : Int) (v322 : Int) (v323 : Int) (v324 : List Int) (k0 : Int → List Int → Option α) : Option α :=
  Nat.rec (motive := fun _ => List Int → List Int → Int → Int → Int → List Int → Option α) (fun _ _ _ _ _ _ => none) (fun _ next => spec_l5Add_L0r N next k0) n v319 v320 v321 v322 v323 v324
theorem spec_l5Add_L0.ex : ∃ f : ((α : Type) → Nat → Nat → List Int → List Int → Int → Int → Int → List Int → (Int → List Int → Option α) → Option α), f = fun α => @spec_l5Add_L0.b α := ⟨_, rfl⟩
noncomputable def spec_l5Add_L0 {α : Type} : Nat → Nat → List Int → List Int → Int → Int → Int → List Int → (Int → List Int → Option α) → Option α := Classical.choose spec_l5Add_L0.ex α
theorem spec_l5Add_L0.eq : @spec_l5Add_L0 = @spec_l5Add_L0.b := funext fun α => congrFun (Classical.choose_spec spec_l5Add_L0.ex) α
theorem spec_l5Add_L0.zero {α : Type} (N : Nat) (v319 : List Int) (v320 : List Int) (v321 : Int) (v322 : Int) (v323 : Int) (v324 : List Int) (k0 : Int → List Int → Option α) : spec_l5Add_L0 N 0 v319 v320 v321 v322 v323 v324 k0 = none := by rw [spec_l5Add_L0.eq]; rfl
theorem spec_l5Add_L0.succ {α : Type} (N n : Nat) (v319 : List Int) (v320 : List Int) (v321 : Int) (v322 : Int) (v323 : Int) (v324 : List Int) (k0 : Int → List Int → Option α) : spec_l5Add_L0 N (n + 1) v319 v320 v321 v322 v323 v324 k0 = spec_l5Add_L0r N (fun y0 y1 y2 y3 y4 y5 => spec_l5Add_L0 N n y0 y1 y2 y3 y4 y5 k0) k0 v319 v320 v321 v322 v323 v324 := by rw [spec_l5Add_L0.eq]; rfl
noncomputable def spec_l5Add_J12.b {α : Type} (N : Nat) (v342 : Int) (v343 : List Int) (k0 : List Int → Option α) : Option α :=
  let x344 := (decide ((0 : Int) < v342))
  bif x344 then
    let x345 := [v342]
    bif decide (v343.length + x345.length ≤ 8796093022208) then
      let x346 := v343 ++ x345
      k0 x346
    else
      none
  else
    k0 v343
theorem spec_l5Add_J12.ex : ∃ f : ((α : Type) → Nat → Int → List Int → (List Int → Option α) → Option α), f = fun α => @spec_l5Add_J12.b α := ⟨_, rfl⟩
noncomputable def spec_l5Add_J12 {α : Type} : Nat → Int → List Int → (List Int → Option α) → Option α := Classical.choose spec_l5Add_J12.ex α
theorem spec_l5Add_J12.eq : @spec_l5Add_J12 = @spec_l5Add_J12.b := funext fun α => congrFun (Classical.choose_spec spec_l5Add_J12.ex) α
/-- loop.example/pinfold/spec.l5Add -/
noncomputable def spec_l5Add.b {α : Type} (N : Nat) (a307 : List Int) (a308 : List Int) (k0 : List Int → Option α) : Option α :=
  let x309 := ((a307.length : Nat) : Int)
  spec_l5Add_J2 N a307 a308 x309
    (fun x316 x317 x318 =>
      spec_l5Add_L0 N N x316 x317 x318 (0 : Int) (0 : Int) []
        (fun x340 x341 =>
          spec_l5Add_J12 N x340 x341
            (fun x347 =>
              k0 x347)))
theorem spec_l5Add.ex : ∃ f : ((α : Type) → Nat → List Int → List Int → (List Int → Option α) → Option α), f = fun α => @spec_l5Add.b α := ⟨_, rfl⟩
noncomputable def spec_l5Add {α : Type} : Nat → List Int → List Int → (List Int → Option α) → Option α := Classical.choose spec_l5Add.ex α
theorem spec_l5Add.eq : @spec_l5Add = @spec_l5Add.b := funext fun α => congrFun (Classical.choose_spec spec_l5Add.ex) α

noncomputable def spec_l5Sub_J8.b {α : Type} (N : Nat) (v400 : List Int) (v401 : List Int) (v402 : Int) (v403 : Int) (v404 : Int) (v405 : List Int) (k0 : List Int → List Int → Int → Int → Int → List Int → Option α) : Option α :=
  let x406 := (decide (v404 < (0 : Int)))
  bif x406 then
    let x407 := (IntKind.i64.wrap (v404 + (65536 : Int)))
    k0 v400 v401 (1 : Int) v403 x407 v405
  else
    k0 v400 v401 v402 v403 v404 v405
theorem spec_l5Sub_J8.ex : ∃ f : ((α : Type) → Nat → List Int → List Int → Int → Int → Int → List Int → (List Int → List Int → Int → Int → Int → List Int → Option α) → Option α), f = fun α => @spec_l5Sub_J8.b α := ⟨_, rfl⟩
noncomputable def spec_l5Sub_J8 {α : Type} : Nat → List Int → List Int → Int → Int → Int → List Int → (List Int → List Int → Int → Int → Int → List Int → Option α) → Option α := Classical.choose spec_l5Sub_J8.ex α
theorem spec_l5Sub_J8.eq : @spec_l5Sub_J8 = @spec_l5Sub_J8.b := funext fun α => congrFun (Classical.choose_spec spec_l5Sub_J8.ex) α
noncomputable def spec_l5Sub_L0r {α : Type} (N : Nat) (next : List Int → List Int → Int → Int → List Int → Option α) (k0 : List Int → Option α) (v389 : List Int) (v390 : List Int) (v391 : Int) (v392 : Int) (v393 : List Int) : Option α :=
  let x394 := ((v389.length : Nat) : Int)
  let x395 := decide (v392 < x394)
  bif x395 then
    bif (decide (v392 < (0 : Int))) then
      none
    else
      match v389[v392.toNat]? with
      | some x396 =>
        spec_l5At N v390 v392
          (fun x397 =>
            let x398 := IntKind.i64.wrap (x396 - x397)
            let x399 := IntKind.i64.wrap (x398 - v391)
            spec_l5Sub_J8 N v389 v390 (0 : Int) v392 x399 v393
              (fun x408 x409 x410 x411 x412 x413 =>
                let x414 := [x412]
                bif decide (x413.length + x414.length ≤ 8796093022208) then
                  let x415 := x413 ++ x414
                  let x416 := (IntKind.i64.wrap (x411 + (1 : Int)))
                  next x408 x409 x410 x416 x415
                else
                  none))
      | none => none
  else
    k0 v393
noncomputable def spec_l5Sub_L0.b {α : Type} (N n : Nat) (v389 : List Int) (v390 : List Int) (v391 : Int) (v392 : Int) (v393 : List Int) (k0 : List Int → Option α) : Option α :=
  Nat.rec (motive := fun _ => List Int → List Int → Int → Int → List Int → Option α) (fun _ _ _ _ _ => none) (fun _ next => spec_l5Sub_L0r N next k0) n v389 v390 v391 v392 v393
theorem spec_l5Sub_L0.ex : ∃ f : ((α : Type) → Nat → Nat → List Int → List Int → Int → Int → List Int → (List Int → Option α) → Option α), f = fun α => @spec_l5Sub_L0.b α := ⟨_, rfl⟩
noncomputable def spec_l5Sub_L0 {α : Type} : Nat → Nat → List Int → List Int → Int → Int → List Int → (List Int → Option α) → Option α := Classical.choose spec_l5Sub_L0.ex α
theorem spec_l5Sub_L0.eq : @spec_l5Sub_L0 = @spec_l5Sub_L0.b := funext fun α => congrFun (Classical.choose_spec spec_l5Sub_L0.ex) α
theorem spec_l5Sub_L0.zero {α : Type} (N : Nat) (v389 : List Int) (v390 : List Int) (v391 : Int) (v392 : Int) (v393 : List Int) (k0 : List Int → Option α) : spec_l5Sub_L0 N 0 v389 v390 v391 v392 v393 k0 = none := by rw [spec_l5Sub_L0.eq]; rfl
theorem spec_l5Sub_L0.succ {α : Type} (N n : Nat) (v389 : List Int) (v390 : List Int) (v391 : Int) (v392 : Int) (v393 : List Int) (k0 : List Int → Option α) : spec_l5Sub_L0 N (n + 1) v389 v390 v391 v392 v393 k0 = spec_l5Sub_L0r N (fun y0 y1 y2 y3 y4 => spec_l5Sub_L0 N n y0 y1 y2 y3 y4 k0) k0 v389 v390 v391 v392 v393 := by rw [spec_l5Sub_L0.eq]; rfl
/-- loop.example/pinfold/spec.l5Sub -/
noncomputable def spec_l5Sub.b {α : Type} (N : Nat) (a387 : List Int) (a388 : List Int) (k0 : List Int → Option α) : Option α :=
  spec_l5Sub_L0 N N a387 a388 (0 : Int) (0 : Int) []
    (fun x417 =>
      spec_l5Trim N x417
        (fun x418 =>
          k0 x418))
theorem spec_l5Sub.ex : ∃ f : ((α : Type) → Nat → List Int → List Int → (List Int → Option α) → Option α), f = fun α => @spec_l5Sub.b α := ⟨_, rfl⟩
noncomputable def spec_l5Sub {α : Type} : Nat → List Int → List Int → (List Int → Option α) → Option α := Classical.choose spec_l5Sub.ex α
theorem spec_l5Sub.eq : @spec_l5Sub = @spec_l5Sub.b := funext fun α => congrFun (Classical.choose_spec spec_l5Sub.ex) α

noncomputable def spec_l5Div_J17.b {α : Type} (N : Nat) (v358 : Int) (v359 : Int) (v360 : Int) (v361 : Int) (v362 : List Int) (v363 : List Int) (v364 : List Int) (v365 : List Int) (k0 : Int → Int → Int → Int → List Int → List Int → List Int → List Int → Option α) : Option α :=
  let x366 := (decide ((65536 : Int) ≤ v361))
  bif x366 then
    k0 v358 v359 v360 (65535 : Int) v362 v363 v364 v365
  else
    k0 v358 v359 v360 v361 v362 v363 v364 v365
theorem spec_l5Div_J17.ex : ∃ f : ((α : Type) → Nat → Int → Int → Int → Int → List Int → List Int → List Int → List Int → (Int → Int → Int → Int → List Int → List Int → List Int → List Int → Option α) → Option α), f = fun α => @spec_l5Div_J17.b α := ⟨_, rfl⟩
noncomputable def spec_l5Div_J17 {α : Type} : Nat → Int → Int → Int → Int → List Int → List Int → List Int → List Int → (Int → Int → Int → Int → List Int → List Int → List Int → List Int → Option α) → Option α := Classical.choose spec_l5Div_J17.ex α
theorem spec_l5Div_J17.eq : @spec_l5Div_J17 = @spec_l5Div_J17.b := funext fun α => congrFun (Classical.choose_spec spec_l5Div_J17.ex) α
noncomputable def spec_l5Div_L2r {α : Type} (N : Nat) (next : Int → Int → Int → Int → List Int → List Int → List Int → List Int → List Int → Option α) (k0 : Int → Int → Int → Int → List Int → List Int → List Int → List Int → List Int → Option α) (v376 : Int) (v377 : Int) (v378 : Int) (v379 : Int) (v380 : List Int) (v381 : List Int) (v382 : List Int) (v383 : List Int) (v384 : List Int) : Option α :=
  spec_l5Cmp N v384 v383
    (fun x385 =>
      let x386 := (decide ((0 : Int) < x385))
      bif x386 then
        spec_l5Sub N v384 v381
          (fun x419 =>
            let x420 := (IntKind.i64.wrap (v379 - (1 : Int)))
            next v376 v377 v378 x420 v380 v381 v382 v383 x419)
      else
        k0 v376 v377 v378 v379 v380 v381 v382 v383 v384)
noncomputable def spec_l5Div_L2.b {α : Type} (N n : Nat) (v376 : Int) (v377 : Int) (v378 : Int) (v379 : Int) (v380 : List Int) (v381 : List Int) (v382 : List Int) (v383 : List Int) (v384 : List Int) (k0 : Int → Int → Int → Int → List Int → List Int → List Int → List Int → List Int → Option α) : Option α :=
  Nat.rec (motive := fun _ => Int → Int → Int → Int → List Int → List Int → List Int → List Int → List Int → Option α) (fun _ _ _ _ _ _ _ _ _ => none) (fun _ next => spec_l5Div_L2r N next k0) n v376 v377 v378 v379 v380 v381 v382 v383 v384
theorem spec_l5Div_L2.ex : ∃ f : ((α : Type) → Nat → Nat → Int → Int → Int → Int → List Int → List Int → List Int → List Int → List Int → (Int → Int → Int → Int → List Int → List Int → List Int → List Int → List Int → Option α) → Option α), f = fun α => @spec_l5Div_L2.b α := ⟨_, rfl⟩
noncomputable def spec_l5Div_L2 {α : Type} : Nat → Nat → Int → Int → Int → Int → List Int → List Int → List Int → List Int → List Int → (Int → Int → Int → Int → List Int → List Int → List Int → List Int → List Int → Option α) → Option α := Classical.choose spec_l5Div_L2.ex α
theorem spec_l5Div_L2.eq : @spec_l5Div_L2 = @spec_l5Div_L2.b := funext fun α => congrFun (Classical.choose_spec spec_l5Div_L2.ex) α
theorem spec_l5Div_L2.zero {α : Type} (N : Nat) (v376 : Int) (v377 : Int) (v378 : Int) (v379 : Int) (v380 : List Int) (v381 : List Int) (v382 : List Int) (v383 : List Int) (v384 : List Int) (k0 : Int → Int → Int → Int → List Int → List Int → List Int → List Int → List Int → Option α) : spec_l5Div_L2 N 0 v376 v377 v378 v379 v380 v381 v382 v383 v384 k0 = none := by rw [spec_l5Div_L2.eq]; rfl
theorem spec_l5Div_L2.succ {α : Type} (N n : Nat) (v376 : Int) (v377 : Int) (v378 : Int) (v379 : Int) (v380 : List Int) (v381 : List Int) (v382 : List Int) (v383 : List Int) (v384 : List Int) (k0 : Int → Int → Int → Int → List Int → List Int → List Int → List Int → List Int → Option α) : spec_l5Div_L2 N (n + 1) v376 v377 v378 v379 v380 v381 v382 v383 v384 k0 = spec_l5Div_L2r N (fun y0 y1 y2 y3 y4 y5 y6 y7 y8 => spec_l5Div_L2 N n y0 y1 y2 y3 y4 y5 y6 y7 y8 k0) k0 v376 v377 v378 v379 v380 v381 v382 v383 v384 := by rw [spec_l5Div_L2.eq]; rfl
noncomputable def spec_l5Div_L0r {α : Type} (N : Nat) (next : Int → Int → Int → List Int → List Int → List Int → List Int → Option α) (k0 : Int → List Int → List Int → Option α) (v295 : Int) (v296 : Int) (v297 : Int) (v298 : List Int) (v299 : List Int) (v300 : List Int) (v301 : List Int) : Option α :=
  let x302 := (decide ((0 : Int) ≤ v297))
  bif x302 then
    spec_l5Shl N v301 (1 : Int)
      (fun x303 =>
        bif (decide (v297 < (0 : Int))) then
          none
        else
          bif decide (v297.toNat < v298.length) then
            match v298[v297.toNat]? with
            | some x304 =>
              let x305 := IntKind.u64.wrap x304
              spec_NatOf N x305
                (fun x306 =>
                  spec_l5Add N x303 x306
                    (fun x348 =>
                      spec_l5Trim N x348
                        (fun x349 =>
                          spec_l5At N x349 v296
                            (fun x350 =>
                              let x351 := (IntKind.i64.wrap (x350 * (65536 : Int)))
                              let x352 := (IntKind.i64.wrap (v296 - (1 : Int)))
                              spec_l5At N x349 x352
                                (fun x353 =>
                                  let x354 := IntKind.i64.wrap (x351 + x353)
                                  let x355 := (IntKind.i64.wrap (v296 - (1 : Int)))
                                  bif (decide (x355 < (0 : Int))) then
                                    none
                                  else
                                    bif decide (x355.toNat < v299.length) then
                                      match v299[x355.toNat]? with
                                      | some x356 =>
                                        bif (decide (x356 = (0 : Int))) then
                                          none
                                        else
                                          let x357 := IntKind.i64.wrap (Int.tdiv x354 x356)
                                          spec_l5Div_J17 N v295 v296 v297 x357 v298 v299 v300 x349
                                            (fun x367 x368 x369 x370 x371 x372 x373 x374 =>
                                              spec_l5Times N x372 x370
                                                (fun x375 =>
                                                  spec_l5Div_L2 N N x367 x368 x369 x370 x371 x372 x373 x374 x375
                                                    (fun x421 x422 x423 x424 x425 x426 x427 x428 x429 =>
                                                      bif (decide (x423 < (0 : Int))) then
                                                        none
                                                      else
                                                        bif decide (x423.toNat < x427.length) then
                                                          match x427[x423.toNat]? with
                                                          | some x430 =>
                                                            let x431 := x427.set x423.toNat x424
                                                            spec_l5Sub N x428 x429
                                                              (fun x432 =>
                                                                let x433 := (IntKind.i64.wrap (x423 - (1 : Int)))
                                                                next x421 x422 x433 x425 x426 x431 x432)
                                                          | none => none
                                                        else
                                                          none)))
                                      | none => none
                                    else
                                      none)))))
            | none => none
          else
            none)
  else
    k0 v295 v300 v301
noncomputable def spec_l5Div_L0.b {α : Type} (N n : Nat) (v295 : Int) (v296 : Int) (v297 : Int) (v298 : List Int) (v299 : List Int) (v300 : List Int) (v301 : List Int) (k0 : Int → List Int → List Int → Option α) : Option α :=
  Nat.rec (motive := fun _ => Int → Int → Int → List Int → List Int → List Int → List Int → Option α) (fun _ _ _ _ _ _ _ => none) (fun _ next => spec_l5Div_L0r N next k0) n v295 v296 v297 v298 v299 v300 v301
theorem spec_l5Div_L0.ex : ∃ f : ((α : Type) → Nat → Nat → Int → Int → Int → List Int → List Int → List Int → List Int → (Int → List Int → List Int → Option α) → Option α), f = fun α => @spec_l5Div_L0.b α := ⟨_, rfl⟩
noncomputable def spec_l5Div_L0 {α : Type} : Nat → Nat → Int → Int → Int → List Int → List Int → List Int → List Int → (Int → List Int → List Int → Option α) → Option α := Classical.choose spec_l5Div_L0.ex α
theorem spec_l5Div_L0.eq : @spec_l5Div_L0 = @spec_l5Div_L0.b := funext fun α => congrFun (Classical.choose_spec spec_l5Div_L0.ex) α
theorem spec_l5Div_L0.zero {α : Type} (N : Nat) (v295 : Int) (v296 : Int) (v297 : Int) (v298 : List Int) (v299 : List Int) (v300 : List Int) (v301 : List Int) (k0 : Int → List Int → List Int → Option α) : spec_l5Div_L0 N 0 v295 v296 v297 v298 v299 v300 v301 k0 = none := by rw [spec_l5Div_L0.eq]; rfl
theorem spec_l5Div_L0.succ {α : Type} (N n : Nat) (v295 : Int) (v296 : Int) (v297 : Int) (v298 : List Int) (v299 : List Int) (v300 : List Int) (v301 : List Int) (k0 : Int → List Int → List Int → Option α) : spec_l5Div_L0 N (n + 1) v295 v296 v297 v298 v299 v300 v301 k0 = spec_l5Div_L0r N (fun y0 y1 y2 y3 y4 y5 y6 => spec_l5Div_L0 N n y0 y1 y2 y3 y4 y5 y6 k0) k0 v295 v296 v297 v298 v299 v300 v301 := by rw [spec_l5Div_L0.eq]; rfl
/-- loop.example/pinfold/spec.l5Div -/
noncomputable def spec_l5Div.b {α : Type} (N : Nat) (a203 : List Int) (a204 : List Int) (k0 : List Int → List Int → Option α) : Option α :=
  spec_l5Cmp N a203 a204
    (fun x227 =>
      let x228 := (decide (x227 < (0 : Int)))
      bif x228 then
        spec_l5Trim N a203
          (fun x229 =>
            k0 [] x229)
      else
        let x230 := ((a204.length : Nat) : Int)
        let x231 := (decide (x230 = (1 : Int)))
        bif x231 then
          match a204[0]? with
          | some x232 =>
            spec_l5DivSmall N a203 x232
              (fun x256 x257 =>
                let x258 := IntKind.u64.wrap x256
                spec_NatOf N x258
                  (fun x259 =>
                    k0 x257 x259))
          | none => none
        else
          let x260 := ((a204.length : Nat) : Int)
          let x261 := (IntKind.i64.wrap (x260 - (1 : Int)))
          bif (decide (x261 < (0 : Int))) then
            none
          else
            match a204[x261.toNat]? with
            | some x262 =>
              let x263 := (IntKind.i64.wrap (x262 + (1 : Int)))
              bif (decide (x263 = (0 : Int))) then
                none
              else
                let x264 := (IntKind.i64.wrap (Int.tdiv (65536 : Int) x263))
                spec_l5Times N a203 x264
                  (fun x270 =>
                    spec_l5Times N a204 x264
                      (fun x271 =>
                        let x272 := ((x271.length : Nat) : Int)
                        let x273 := ((x270.length : Nat) : Int)
                        let x274 := IntKind.i64.wrap (x273 - x272)
                        let x275 := (IntKind.i64.wrap (x274 + (1 : Int)))
                        bif (decide ((0 : Int) ≤ x275)) then
                          bif decide (x275 ≤ x275) then
                            bif (decide (x275 ≤ ((8796093022208 : Nat) : Int))) then
                              let x276 := (List.replicate x275.toNat (0 : Int))
                              let x277 := ((x270.length : Nat) : Int)
                              let x278 := IntKind.i64.wrap (x277 - x272)
                              let x279 := (IntKind.i64.wrap (x278 + (1 : Int)))
                              spec_l5Top N x270 x279
                                (fun x292 =>
                                  let x293 := ((x270.length : Nat) : Int)
                                  let x294 := IntKind.i64.wrap (x293 - x272)
                                  spec_l5Div_L0 N N x264 x272 x294 x270 x271 x276 x292
                                    (fun x434 x435 x436 =>
                                      spec_l5DivSmall N x436 x434
                                        (fun _ x438 =>
                                          spec_l5Trim N x435
                                            (fun x439 =>
                                              k0 x439 x438))))
                            else
                              none
                          else
                            none
                        else
                          none))
            | none => none)
theorem spec_l5Div.ex : ∃ f : ((α : Type) → Nat → List Int → List Int → (List Int → List Int → Option α) → Option α), f = fun α => @spec_l5Div.b α := ⟨_, rfl⟩
noncomputable def spec_l5Div {α : Type} : Nat → List Int → List Int → (List Int → List Int → Option α) → Option α := Classical.choose spec_l5Div.ex α
theorem spec_l5Div.eq : @spec_l5Div = @spec_l5Div.b := funext fun α => congrFun (Classical.choose_spec spec_l5Div.ex) α

noncomputable def spec_l5Gcd_L0r {α : Type} (N : Nat) (next : List Int → List Int → Option α) (k0 : List Int → Option α) (v199 : List Int) (v200 : List Int) : Option α :=
  let x201 := ((v200.length : Nat) : Int)
  let x202 := (decide ((0 : Int) < x201))
  bif x202 then
    spec_l5Div N v199 v200
      (fun _ x441 =>
        next v200 x441)
  else
    k0 v199
noncomputable def spec_l5Gcd_L0.b {α : Type} (N n : Nat) (v199 : List Int) (v200 : List Int) (k0 : List Int → Option α) : Option α :=
  Nat.rec (motive := fun _ => List Int → List Int → Option α) (fun _ _ => none) (fun _ next => spec_l5Gcd_L0r N next k0) n v199 v200
theorem spec_l5Gcd_L0.ex : ∃ f : ((α : Type) → Nat → Nat → List Int → List Int → (List Int → Option α) → Option α), f = fun α => @spec_l5Gcd_L0.b α := ⟨_, rfl⟩
noncomputable def spec_l5Gcd_L0 {α : Type} : Nat → Nat → List Int → List Int → (List Int → Option α) → Option α := Classical.choose spec_l5Gcd_L0.ex α
theorem spec_l5Gcd_L0.eq : @spec_l5Gcd_L0 = @spec_l5Gcd_L0.b := funext fun α => congrFun (Classical.choose_spec spec_l5Gcd_L0.ex) α
theorem spec_l5Gcd_L0.zero {α : Type} (N : Nat) (v199 : List Int) (v200 : List Int) (k0 : List Int → Option α) : spec_l5Gcd_L0 N 0 v199 v200 k0 = none := by rw [spec_l5Gcd_L0.eq]; rfl
theorem spec_l5Gcd_L0.succ {α : Type} (N n : Nat) (v199 : List Int) (v200 : List Int) (k0 : List Int → Option α) : spec_l5Gcd_L0 N (n + 1) v199 v200 k0 = spec_l5Gcd_L0r N (fun y0 y1 => spec_l5Gcd_L0 N n y0 y1 k0) k0 v199 v200 := by rw [spec_l5Gcd_L0.eq]; rfl
/-- loop.example/pinfold/spec.l5Gcd -/
noncomputable def spec_l5Gcd.b {α : Type} (N : Nat) (a195 : List Int) (a196 : List Int) (k0 : List Int → Option α) : Option α :=
  spec_l5Trim N a195
    (fun x197 =>
      spec_l5Trim N a196
        (fun x198 =>
          spec_l5Gcd_L0 N N x197 x198
            (fun x442 =>
              k0 x442)))
theorem spec_l5Gcd.ex : ∃ f : ((α : Type) → Nat → List Int → List Int → (List Int → Option α) → Option α), f = fun α => @spec_l5Gcd.b α := ⟨_, rfl⟩
noncomputable def spec_l5Gcd {α : Type} : Nat → List Int → List Int → (List Int → Option α) → Option α := Classical.choose spec_l5Gcd.ex α
theorem spec_l5Gcd.eq : @spec_l5Gcd = @spec_l5Gcd.b := funext fun α => congrFun (Classical.choose_spec spec_l5Gcd.ex) α

/-- loop.example/pinfold/spec.l6Make -/
noncomputable def spec_l6Make.b {α : Type} (N : Nat) (a189 : Bool) (a190 : List Int) (a191 : List Int) (k0 : Bool → Bool → List Int → List Int → Option α) : Option α :=
  let x192 := ((a190.length : Nat) : Int)
  let x193 := (decide (x192 = (0 : Int)))
  bif x193 then
    let x194 := [(1 : Int)]
    k0 false true [] x194
  else
    spec_l5Gcd N a190 a191
      (fun x443 =>
        spec_l5Div N a190 x443
          (fun x444 _ =>
            spec_l5Div N a191 x443
              (fun x446 _ =>
                let x448 := ((x444.length : Nat) : Int)
                let x449 := (decide ((256 : Int) < x448))
                bif x449 then
                  k0 false false [] []
                else
                  let x450 := ((x446.length : Nat) : Int)
                  let x451 := (decide ((256 : Int) < x450))
                  bif x451 then
                    k0 false false [] []
                  else
                    k0 a189 true x444 x446)))
theorem spec_l6Make.ex : ∃ f : ((α : Type) → Nat → Bool → List Int → List Int → (Bool → Bool → List Int → List Int → Option α) → Option α), f = fun α => @spec_l6Make.b α := ⟨_, rfl⟩
noncomputable def spec_l6Make {α : Type} : Nat → Bool → List Int → List Int → (Bool → Bool → List Int → List Int → Option α) → Option α := Classical.choose spec_l6Make.ex α
theorem spec_l6Make.eq : @spec_l6Make = @spec_l6Make.b := funext fun α => congrFun (Classical.choose_spec spec_l6Make.ex) α

/-- loop.example/pinfold/spec.FloatFrac -/
noncomputable def spec_FloatFrac.b {α : Type} (N : Nat) (a3 : Int) (a4 : Int) (k0 : Bool → Bool → List Int → List Int → Option α) : Option α :=
  spec_BitPartOf N a3 a4
    (fun _ x62 =>
      let x63 := !x62
      bif x63 then
        k0 false false [] []
      else
        spec_l8Of N a3 a4
          (fun x186 x187 x188 =>
            spec_l6Make N x186 x187 x188
              (fun x452 x453 x454 x455 =>
                k0 x452 x453 x454 x455)))
theorem spec_FloatFrac.ex : ∃ f : ((α : Type) → Nat → Int → Int → (Bool → Bool → List Int → List Int → Option α) → Option α), f = fun α => @spec_FloatFrac.b α := ⟨_, rfl⟩
noncomputable def spec_FloatFrac {α : Type} : Nat → Int → Int → (Bool → Bool → List Int → List Int → Option α) → Option α := Classical.choose spec_FloatFrac.ex α
theorem spec_FloatFrac.eq : @spec_FloatFrac = @spec_FloatFrac.b := funext fun α => congrFun (Classical.choose_spec spec_FloatFrac.ex) α

/-- loop.example/pinfold/impl.formatOf -/
noncomputable def impl_formatOf.b {α : Type} (N : Nat) (a464 : Int) (k0 : (Int × Int × Int × Int × Unit) → Bool → Option α) : Option α :=
  let x465 := (decide (a464 = (32 : Int)))
  bif x465 then
    k0 ((23 : Int), ((-149 : Int), ((127 : Int), ((2139095040 : Int), ())))) true
  else
    let x466 := (decide (a464 = (64 : Int)))
    bif x466 then
      k0 ((52 : Int), ((-1074 : Int), ((1023 : Int), ((9218868437227405312 : Int), ())))) true
    else
      k0 ((0 : Int), ((0 : Int), ((0 : Int), ((0 : Int), ())))) false
theorem impl_formatOf.ex : ∃ f : ((α : Type) → Nat → Int → ((Int × Int × Int × Int × Unit) → Bool → Option α) → Option α), f = fun α => @impl_formatOf.b α := ⟨_, rfl⟩
noncomputable def impl_formatOf {α : Type} : Nat → Int → ((Int × Int × Int × Int × Unit) → Bool → Option α) → Option α := Classical.choose impl_formatOf.ex α
theorem impl_formatOf.eq : @impl_formatOf = @impl_formatOf.b := funext fun α => congrFun (Classical.choose_spec impl_formatOf.ex) α

/-- loop.example/pinfold/impl.in -/
noncomputable def impl_in.b {α : Type} (N : Nat) (a474 : Int) (a475 : Int) (a476 : Int) (k0 : Bool → Option α) : Option α :=
  let x477 := decide (a475 ≤ a474)
  bif x477 then
    let x478 := decide (a474 ≤ a476)
    k0 x478
  else
    k0 false
theorem impl_in.ex : ∃ f : ((α : Type) → Nat → Int → Int → Int → (Bool → Option α) → Option α), f = fun α => @impl_in.b α := ⟨_, rfl⟩
noncomputable def impl_in {α : Type} : Nat → Int → Int → Int → (Bool → Option α) → Option α := Classical.choose impl_in.ex α
theorem impl_in.eq : @impl_in = @impl_in.b := funext fun α => congrFun (Classical.choose_spec impl_in.ex) α

/-- loop.example/pinfold/impl.BitOk -/
noncomputable def impl_BitOk.b {α : Type} (N : Nat) (a469 : Int) (a470 : Int) (k0 : Bool → Option α) : Option α :=
  impl_formatOf N a469
    (fun x471 x472 =>
      bif x472 then
        let x473 := IntKind.i64.wrap (0 - x471.2.2.2.1)
        impl_in N a470 x473 x471.2.2.2.1
          (fun x479 =>
            k0 x479)
      else
        k0 false)
theorem impl_BitOk.ex : ∃ f : ((α : Type) → Nat → Int → Int → (Bool → Option α) → Option α), f = fun α => @impl_BitOk.b α := ⟨_, rfl⟩
noncomputable def impl_BitOk {α : Type} : Nat → Int → Int → (Bool → Option α) → Option α := Classical.choose impl_BitOk.ex α
theorem impl_BitOk.eq : @impl_BitOk = @impl_BitOk.b := funext fun α => congrFun (Classical.choose_spec impl_BitOk.ex) α

/-- loop.example/pinfold/impl.size -/
noncomputable def impl_size.b {α : Type} (N : Nat) (a482 : Int) (k0 : Int → Option α) : Option α :=
  let x483 := IntKind.i64.wrap (0 - a482)
  let x484 := maxI a482 x483
  k0 x484
theorem impl_size.ex : ∃ f : ((α : Type) → Nat → Int → (Int → Option α) → Option α), f = fun α => @impl_size.b α := ⟨_, rfl⟩
noncomputable def impl_size {α : Type} : Nat → Int → (Int → Option α) → Option α := Classical.choose impl_size.ex α
theorem impl_size.eq : @impl_size = @impl_size.b := funext fun α => congrFun (Classical.choose_spec impl_size.ex) α

/-- loop.example/pinfold/impl.BitPartOf -/
noncomputable def impl_BitPartOf.b {α : Type} (N : Nat) (a462 : Int) (a463 : Int) (k0 : (Bool × Int × Int × Unit) → Bool → Option α) : Option α :=
  impl_formatOf N a462
    (fun x467 _ =>
      impl_BitOk N a462 a463
        (fun x480 =>
          let x481 := !x480
          bif x481 then
            k0 (false, ((0 : Int), ((0 : Int), ()))) false
          else
            impl_size N a463
              (fun x485 =>
                let x486 := decide (x485 = x467.2.2.2.1)
                bif x486 then
                  k0 (false, ((0 : Int), ((0 : Int), ()))) false
                else
                  impl_size N a463
                    (fun x487 =>
                      bif (decide (x467.1 < (0 : Int))) then
                        none
                      else
                        let x488 := (shlI .i64 (1 : Int) x467.1)
                        let x489 := (IntKind.i64.wrap (x488 - (1 : Int)))
                        let x490 := bitI .and .i64 x487 x489
                        impl_size N a463
                          (fun x491 =>
                            bif (decide (x467.1 < (0 : Int))) then
                              none
                            else
                              let x492 := shrI .i64 x491 x467.1
                              let x493 := (decide (x492 = (0 : Int)))
                              bif x493 then
                                let x494 := (decide (a463 < (0 : Int)))
                                let x495 := IntKind.u64.wrap x490
                                k0 (x494, (x495, (x467.2.1, ()))) true
                              else
                                let x496 := (decide (a463 < (0 : Int)))
                                bif (decide (x467.1 < (0 : Int))) then
                                  none
                                else
                                  let x497 := (shlI .i64 (1 : Int) x467.1)
                                  let x498 := bitI .or .i64 x490 x497
                                  let x499 := IntKind.u64.wrap x498
                                  let x500 := IntKind.i64.wrap (x467.2.1 + x492)
                                  let x501 := (IntKind.i64.wrap (x500 - (1 : Int)))
                                  k0 (x496, (x499, (x501, ()))) true)))))
theorem impl_BitPartOf.ex : ∃ f : ((α : Type) → Nat → Int → Int → ((Bool × Int × Int × Unit) → Bool → Option α) → Option α), f = fun α => @impl_BitPartOf.b α := ⟨_, rfl⟩
noncomputable def impl_BitPartOf {α : Type} : Nat → Int → Int → ((Bool × Int × Int × Unit) → Bool → Option α) → Option α := Classical.choose impl_BitPartOf.ex α
theorem impl_BitPartOf.eq : @impl_BitPartOf = @impl_BitPartOf.b := funext fun α => congrFun (Classical.choose_spec impl_BitPartOf.ex) α

noncomputable def impl_natOf_L0r {α : Type} (N : Nat) (next : Int → List Int → Option α) (k0 : List Int → Option α) (v1100 : Int) (v1101 : List Int) : Option α :=
  let x1102 := (decide ((0 : Int) < v1100))
  bif x1102 then
    let x1103 := (bitI .and .u64 v1100 (65535 : Int))
    let x1104 := IntKind.i64.wrap x1103
    let x1105 := [x1104]
    bif decide (v1101.length + x1105.length ≤ 8796093022208) then
      let x1106 := v1101 ++ x1105
      let x1107 := (shrI .u64 v1100 (16 : Int))
      next x1107 x1106
    else
      none
  else
    k0 v1101
noncomputable def impl_natOf_L0.b {α : Type} (N n : Nat) (v1100 : Int) (v1101 : List Int) (k0 : List Int → Option α) : Option α :=
  Nat.rec (motive := fun _ => Int → List Int → Option α) (fun _ _ => none) (fun _ next => impl_natOf_L0r N next k0) n v1100 v1101
theorem impl_natOf_L0.ex : ∃ f : ((α : Type) → Nat → Nat → Int → List Int → (List Int → Option α) → Option α), f = fun α => @impl_natOf_L0.b α := ⟨_, rfl⟩
noncomputable def impl_natOf_L0 {α : Type} : Nat → Nat → Int → List Int → (List Int → Option α) → Option α := Classical.choose impl_natOf_L0.ex α
theorem impl_natOf_L0.eq : @impl_natOf_L0 = @impl_natOf_L0.b := funext fun α => congrFun (Classical.choose_spec impl_natOf_L0.ex) α
theorem impl_natOf_L0.zero {α : Type} (N : Nat) (v1100 : Int) (v1101 : List Int) (k0 : List Int → Option α) : impl_natOf_L0 N 0 v1100 v1101 k0 = none := by rw [impl_natOf_L0.eq]; rfl
theorem impl_natOf_L0.succ {α : Type} (N n : Nat) (v1100 : Int) (v1101 : List Int) (k0 : List Int → Option α) : impl_natOf_L0 N (n + 1) v1100 v1101 k0 = impl_natOf_L0r N (fun y0 y1 => impl_natOf_L0 N n y0 y1 k0) k0 v1100 v1101 := by rw [impl_natOf_L0.eq]; rfl
/-- loop.example/pinfold/impl.natOf -/
noncomputable def impl_natOf.b {α : Type} (N : Nat) (a1099 : Int) (k0 : List Int → Option α) : Option α :=
  impl_natOf_L0 N N a1099 []
    (fun x1108 =>
      k0 x1108)
theorem impl_natOf.ex : ∃ f : ((α : Type) → Nat → Int → (List Int → Option α) → Option α), f = fun α => @impl_natOf.b α := ⟨_, rfl⟩
noncomputable def impl_natOf {α : Type} : Nat → Int → (List Int → Option α) → Option α := Classical.choose impl_natOf.ex α
theorem impl_natOf.eq : @impl_natOf = @impl_natOf.b := funext fun α => congrFun (Classical.choose_spec impl_natOf.ex) α

/-- slices.Clone[[]int,int] -/
noncomputable def slices_Clone_int_int {α : Type} (N : Nat) (a1 : List Int) (k0 : List Int → Option α) : Option α :=
  bif decide (([] : List Int).length + a1.length ≤ 8796093022208) then k0 a1 else none

noncomputable def impl_trim_L0r {α : Type} (N : Nat) (next : List Int → Option α) (k0 : List Int → Option α) (v1229 : List Int) : Option α :=
  let x1230 := ((v1229.length : Nat) : Int)
  let x1231 := (decide ((0 : Int) < x1230))
  bif x1231 then
    let x1232 := ((v1229.length : Nat) : Int)
    let x1233 := (IntKind.i64.wrap (x1232 - (1 : Int)))
    bif (decide (x1233 < (0 : Int))) then
      none
    else
      match v1229[x1233.toNat]? with
      | some x1234 =>
        let x1235 := (decide (x1234 = (0 : Int)))
        bif x1235 then
          let x1236 := ((v1229.length : Nat) : Int)
          let x1237 := (IntKind.i64.wrap (x1236 - (1 : Int)))
          bif (decide ((0 : Int) ≤ x1237)) then
            bif (decide (x1237 ≤ ((v1229.length : Nat) : Int))) then
              let x1238 := v1229.take x1237.toNat
              next x1238
            else
              none
          else
            none
        else
          k0 v1229
      | none => none
  else
    k0 v1229
noncomputable def impl_trim_L0.b {α : Type} (N n : Nat) (v1229 : List Int) (k0 : List Int → Option α) : Option α :=
  Nat.rec (motive := fun _ => List Int → Option α) (fun _ => none) (fun _ next => impl_trim_L0r N next k0) n v1229
theorem impl_trim_L0.ex : ∃ f : ((α : Type) → Nat → Nat → List Int → (List Int → Option α) → Option α), f = fun α => @impl_trim_L0.b α := ⟨_, rfl⟩
noncomputable def impl_trim_L0 {α : Type} : Nat → Nat → List Int → (List Int → Option α) → Option α := Classical.choose impl_trim_L0.ex α
theorem impl_trim_L0.eq : @impl_trim_L0 = @impl_trim_L0.b := funext fun α => congrFun (Classical.choose_spec impl_trim_L0.ex) α
theorem impl_trim_L0.zero {α : Type} (N : Nat) (v1229 : List Int) (k0 : List Int → Option α) : impl_trim_L0 N 0 v1229 k0 = none := by rw [impl_trim_L0.eq]; rfl
theorem impl_trim_L0.succ {α : Type} (N n : Nat) (v1229 : List Int) (k0 : List Int → Option α) : impl_trim_L0 N (n + 1) v1229 k0 = impl_trim_L0r N (fun y0 => impl_trim_L0 N n y0 k0) k0 v1229 := by rw [impl_trim_L0.eq]; rfl
/-- loop.example/pinfold/impl.trim -/
noncomputable def impl_trim.b {α : Type} (N : Nat) (a1228 : List Int) (k0 : List Int → Option α) : Option α :=
  impl_trim_L0 N N a1228
    (fun x1239 =>
      k0 x1239)
theorem impl_trim.ex : ∃ f : ((α : Type) → Nat → List Int → (List Int → Option α) → Option α), f = fun α => @impl_trim.b α := ⟨_, rfl⟩
noncomputable def impl_trim {α : Type} : Nat → List Int → (List Int → Option α) → Option α := Classical.choose impl_trim.ex α
theorem impl_trim.eq : @impl_trim = @impl_trim.b := funext fun α => congrFun (Classical.choose_spec impl_trim.ex) α

noncomputable def impl_natShift_J10.b {α : Type} (N : Nat) (v1199 : List Int) (v1200 : Int) (v1201 : Int) (v1202 : Int) (v1203 : Int) (v1204 : Int) (v1205 : List Int) (k0 : List Int → Int → Int → Int → Int → List Int → Option α) : Option α :=
  let x1206 := IntKind.i64.wrap (v1200 + v1202)
  let x1207 := (IntKind.i64.wrap (x1206 + (1 : Int)))
  let x1208 := ((v1199.length : Nat) : Int)
  let x1209 := decide (x1207 < x1208)
  bif x1209 then
    bif (decide (v1202 < (0 : Int))) then
      none
    else
      bif decide (v1202.toNat < v1205.length) then
        match v1205[v1202.toNat]? with
        | some x1210 =>
          let x1211 := IntKind.i64.wrap (v1200 + v1202)
          let x1212 := (IntKind.i64.wrap (x1211 + (1 : Int)))
          bif (decide (x1212 < (0 : Int))) then
            none
          else
            match v1199[x1212.toNat]? with
            | some x1213 =>
              let x1214 := (IntKind.i64.wrap ((16 : Int) - v1201))
              bif (decide (x1214 < (0 : Int))) then
                none
              else
                let x1215 := shlI .i64 x1213 x1214
                let x1216 := (bitI .and .i64 x1215 (65535 : Int))
                let x1217 := bitI .or .i64 x1210 x1216
                bif (decide (v1202 < (0 : Int))) then
                  none
                else
                  bif decide (v1202.toNat < v1205.length) then
                    match v1205[v1202.toNat]? with
                    | some x1218 =>
                      let x1219 := v1205.set v1202.toNat x1217
                      k0 v1199 v1200 v1201 v1203 v1204 x1219
                    | none => none
                  else
                    none
            | none => none
        | none => none
      else
        none
  else
    k0 v1199 v1200 v1201 v1203 v1204 v1205
theorem impl_natShift_J10.ex : ∃ f : ((α : Type) → Nat → List Int → Int → Int → Int → Int → Int → List Int → (List Int → Int → Int → Int → Int → List Int → Option α) → Option α), f = fun α => @impl_natShift_J10.b α := ⟨_, rfl⟩
noncomputable def impl_natShift_J10 {α : Type} : Nat → List Int → Int → Int → Int → Int → Int → List Int → (List Int → Int → Int → Int → Int → List Int → Option α) → Option α := Classical.choose impl_natShift_J10.ex α
theorem impl_natShift_J10.eq : @impl_natShift_J10 = @impl_natShift_J10.b := funext fun α => congrFun (Classical.choose_spec impl_natShift_J10.ex) α
noncomputable def impl_natShift_L0r {α : Type} (N : Nat) (next : List Int → Int → Int → Int → Int → List Int → Option α) (k0 : List Int → Option α) (v1188 : List Int) (v1189 : Int) (v1190 : Int) (v1191 : Int) (v1192 : Int) (v1193 : List Int) : Option α :=
  let x1194 := decide (v1192 < v1191)
  bif x1194 then
    bif (decide (v1192 < (0 : Int))) then
      none
    else
      bif decide (v1192.toNat < v1193.length) then
        match v1193[v1192.toNat]? with
        | some x1195 =>
          bif (decide (v1190 < (0 : Int))) then
            none
          else
            let x1196 := shrI .i64 x1195 v1190
            bif (decide (v1192 < (0 : Int))) then
              none
            else
              bif decide (v1192.toNat < v1193.length) then
                match v1193[v1192.toNat]? with
                | some x1197 =>
                  let x1198 := v1193.set v1192.toNat x1196
                  impl_natShift_J10 N v1188 v1189 v1190 v1192 v1191 v1192 x1198
                    (fun x1220 x1221 x1222 x1223 x1224 x1225 =>
                      let x1226 := (IntKind.i64.wrap (x1224 + (1 : Int)))
                      next x1220 x1221 x1222 x1223 x1226 x1225)
                | none => none
              else
                none
        | none => none
      else
        none
  else
    k0 v1193
noncomputable def impl_natShift_L0.b {α : Type} (N n : Nat) (v1188 : List Int) (v1189 : Int) (v1190 : Int) (v1191 : Int) (v1192 : Int) (v1193 : List Int) (k0 : List Int → Option α) : Option α :=
  Nat.rec (motive := fun _ => List Int → Int → Int → Int → Int → List Int → Option α) (fun _ _ _ _ _ _ => none) (fun _ next => impl_natShift_L0r N next k0) n v1188 v1189 v1190 v1191 v1192 v1193
theorem impl_natShift_L0.ex : ∃ f : ((α : Type) → Nat → Nat → List Int → Int → Int → Int → Int → List Int → (List Int → Option α) → Option α), f = fun α => @impl_natShift_L0.b α := ⟨_, rfl⟩
noncomputable def impl_natShift_L0 {α : Type} : Nat → Nat → List Int → Int → Int → Int → Int → List Int → (List Int → Option α) → Option α := Classical.choose impl_natShift_L0.ex α
theorem impl_natShift_L0.eq : @impl_natShift_L0 = @impl_natShift_L0.b := funext fun α => congrFun (Classical.choose_spec impl_natShift_L0.ex) α
theorem impl_natShift_L0.zero {α : Type} (N : Nat) (v1188 : List Int) (v1189 : Int) (v1190 : Int) (v1191 : Int) (v1192 : Int) (v1193 : List Int) (k0 : List Int → Option α) : impl_natShift_L0 N 0 v1188 v1189 v1190 v1191 v1192 v1193 k0 = none := by rw [impl_natShift_L0.eq]; rfl
theorem impl_natShift_L0.succ {α : Type} (N n : Nat) (v1188 : List Int) (v1189 : Int) (v1190 : Int) (v1191 : Int) (v1192 : Int) (v1193 : List Int) (k0 : List Int → Option α) : impl_natShift_L0 N (n + 1) v1188 v1189 v1190 v1191 v1192 v1193 k0 = impl_natShift_L0r N (fun y0 y1 y2 y3 y4 y5 => impl_natShift_L0 N n y0 y1 y2 y3 y4 y5 k0) k0 v1188 v1189 v1190 v1191 v1192 v1193 := by rw [impl_natShift_L0.eq]; rfl
noncomputable def impl_natShift_L2r {α : Type} (N : Nat) (next : Int → List Int → Int → Int → List Int → Option α) (k0 : List Int → Option α) (v1247 : Int) (v1248 : List Int) (v1249 : Int) (v1250 : Int) (v1251 : List Int) : Option α :=
  let x1252 := decide (v1250 < v1249)
  bif x1252 then
    bif (decide (v1250 < (0 : Int))) then
      none
    else
      match v1248[v1250.toNat]? with
      | some x1253 =>
        let x1254 := (Int.tmod v1247 (16 : Int))
        bif (decide (x1254 < (0 : Int))) then
          none
        else
          let x1255 := shlI .i64 x1253 x1254
          let x1256 := (IntKind.i64.wrap (Int.tdiv v1247 (16 : Int)))
          let x1257 := IntKind.i64.wrap (x1256 + v1250)
          bif (decide (x1257 < (0 : Int))) then
            none
          else
            bif decide (x1257.toNat < v1251.length) then
              match v1251[x1257.toNat]? with
              | some x1258 =>
                let x1259 := (bitI .and .i64 x1255 (65535 : Int))
                let x1260 := bitI .or .i64 x1258 x1259
                bif (decide (x1257 < (0 : Int))) then
                  none
                else
                  bif decide (x1257.toNat < v1251.length) then
                    match v1251[x1257.toNat]? with
                    | some x1261 =>
                      let x1262 := v1251.set x1257.toNat x1260
                      let x1263 := (IntKind.i64.wrap (Int.tdiv v1247 (16 : Int)))
                      let x1264 := IntKind.i64.wrap (x1263 + v1250)
                      let x1265 := (IntKind.i64.wrap (x1264 + (1 : Int)))
                      let x1266 := (shrI .i64 x1255 (16 : Int))
                      bif (decide (x1265 < (0 : Int))) then
                        none
                      else
                        bif decide (x1265.toNat < x1262.length) then
                          match x1262[x1265.toNat]? with
                          | some x1267 =>
                            let x1268 := x1262.set x1265.toNat x1266
                            let x1269 := (IntKind.i64.wrap (v1250 + (1 : Int)))
                            next v1247 v1248 v1249 x1269 x1268
                          | none => none
                        else
                          none
                    | none => none
                  else
                    none
              | none => none
            else
              none
      | none => none
  else
    k0 v1251
noncomputable def impl_natShift_L2.b {α : Type} (N n : Nat) (v1247 : Int) (v1248 : List Int) (v1249 : Int) (v1250 : Int) (v1251 : List Int) (k0 : List Int → Option α) : Option α :=
  Nat.rec (motive := fun _ => Int → List Int → Int → Int → List Int → Option α) (fun _ _ _ _ _ => none) (fun _ next => impl_natShift_L2r N next k0) n v1247 v1248 v1249 v1250 v1251
theorem impl_natShift_L2.ex : ∃ f : ((α : Type) → Nat → Nat → Int → List Int → Int → Int → List Int → (List Int → Option α) → Option α), f = fun α => @impl_natShift_L2.b α := ⟨_, rfl⟩
noncomputable def impl_natShift_L2 {α : Type} : Nat → Nat → Int → List Int → Int → Int → List Int → (List Int → Option α) → Option α := Classical.choose impl_natShift_L2.ex α
theorem impl_natShift_L2.eq : @impl_natShift_L2 = @impl_natShift_L2.b := funext fun α => congrFun (Classical.choose_spec impl_natShift_L2.ex) α
theorem impl_natShift_L2.zero {α : Type} (N : Nat) (v1247 : Int) (v1248 : List Int) (v1249 : Int) (v1250 : Int) (v1251 : List Int) (k0 : List Int → Option α) : impl_natShift_L2 N 0 v1247 v1248 v1249 v1250 v1251 k0 = none := by rw [impl_natShift_L2.eq]; rfl
theorem impl_natShift_L2.succ {α : Type} (N n : Nat) (v1247 : Int) (v1248 : List Int) (v1249 : Int) (v1250 : Int) (v1251 : List Int) (k0 : List Int → Option α) : impl_natShift_L2 N (n + 1) v1247 v1248 v1249 v1250 v1251 k0 = impl_natShift_L2r N (fun y0 y1 y2 y3 y4 => impl_natShift_L2 N n y0 y1 y2 y3 y4 k0) k0 v1247 v1248 v1249 v1250 v1251 := by rw [impl_natShift_L2.eq]; rfl
/-- loop.example/pinfold/impl.natShift -/
noncomputable def impl_natShift.b {α : Type} (N : Nat) (a1176 : List Int) (a1177 : Int) (k0 : List Int → Option α) : Option α :=
  let x1178 := (decide (a1177 < (0 : Int)))
  bif x1178 then
    let x1179 := IntKind.i64.wrap (0 - a1177)
    let x1180 := (IntKind.i64.wrap (Int.tdiv x1179 (16 : Int)))
    let x1181 := IntKind.i64.wrap (0 - a1177)
    let x1182 := (Int.tmod x1181 (16 : Int))
    let x1183 := ((a1176.length : Nat) : Int)
    let x1184 := decide (x1183 ≤ x1180)
    bif x1184 then
      k0 []
    else
      bif (decide ((0 : Int) ≤ x1180)) then
        bif (decide (x1180 ≤ ((a1176.length : Nat) : Int))) then
          let x1185 := a1176.drop x1180.toNat
          slices_Clone_int_int N x1185
            (fun x1186 =>
              let x1187 := ((x1186.length : Nat) : Int)
              impl_natShift_L0 N N a1176 x1180 x1182 x1187 (0 : Int) x1186
                (fun x1227 =>
                  impl_trim N x1227
                    (fun x1240 =>
                      k0 x1240)))
        else
          none
      else
        none
  else
    let x1241 := (IntKind.i64.wrap (Int.tdiv a1177 (16 : Int)))
    let x1242 := ((a1176.length : Nat) : Int)
    let x1243 := IntKind.i64.wrap (x1241 + x1242)
    let x1244 := (IntKind.i64.wrap (x1243 + (1 : Int)))
    bif (decide ((0 : Int) ≤ x1244)) then
      bif decide (x1244 ≤ x1244) then
        bif (decide (x1244 ≤ ((8796093022208 : Nat) : Int))) then
          let x1245 := (List.replicate x1244.toNat (0 : Int))
          let x1246 := ((a1176.length : Nat) : Int)
          impl_natShift_L2 N N a1177 a1176 x1246 (0 : Int) x1245
            (fun x1270 =>
              impl_trim N x1270
                (fun x1271 =>
                  k0 x1271))
        else
          none
      else
        none
    else
      none
theorem impl_natShift.ex : ∃ f : ((α : Type) → Nat → List Int → Int → (List Int → Option α) → Option α), f = fun α => @impl_natShift.b α := ⟨_, rfl⟩
noncomputable def impl_natShift {α : Type} : Nat → List Int → Int → (List Int → Option α) → Option α := Classical.choose impl_natShift.ex α
theorem impl_natShift.eq : @impl_natShift = @impl_natShift.b := funext fun α => congrFun (Classical.choose_spec impl_natShift.ex) α

/-- loop.example/pinfold/impl.whole -/
noncomputable def impl_whole.b {α : Type} (N : Nat) (a1273 : Bool) (a1274 : List Int) (k0 : Bool → List Int → List Int → Option α) : Option α :=
  bif a1273 then
    let x1275 := ((a1274.length : Nat) : Int)
    let x1276 := (decide ((0 : Int) < x1275))
    let x1277 := [(1 : Int)]
    k0 x1276 a1274 x1277
  else
    let x1278 := [(1 : Int)]
    k0 false a1274 x1278
theorem impl_whole.ex : ∃ f : ((α : Type) → Nat → Bool → List Int → (Bool → List Int → List Int → Option α) → Option α), f = fun α => @impl_whole.b α := ⟨_, rfl⟩
noncomputable def impl_whole {α : Type} : Nat → Bool → List Int → (Bool → List Int → List Int → Option α) → Option α := Classical.choose impl_whole.ex α
theorem impl_whole.eq : @impl_whole = @impl_whole.b := funext fun α => congrFun (Classical.choose_spec impl_whole.ex) α

noncomputable def impl_natCmp_L0r {α : Type} (N : Nat) (next : List Int → List Int → Int → Option α) (k0 : Int → Option α) (k1 : Option α) (v1365 : List Int) (v1366 : List Int) (v1367 : Int) : Option α :=
  let x1368 := (decide ((0 : Int) ≤ v1367))
  bif x1368 then
    bif (decide (v1367 < (0 : Int))) then
      none
    else
      match v1365[v1367.toNat]? with
      | some x1369 =>
        bif (decide (v1367 < (0 : Int))) then
          none
        else
          match v1366[v1367.toNat]? with
          | some x1370 =>
            let x1371 := !(decide (x1369 = x1370))
            bif x1371 then
              bif (decide (v1367 < (0 : Int))) then
                none
              else
                match v1365[v1367.toNat]? with
                | some x1372 =>
                  bif (decide (v1367 < (0 : Int))) then
                    none
                  else
                    match v1366[v1367.toNat]? with
                    | some x1373 =>
                      let x1374 := IntKind.i64.wrap (x1372 - x1373)
                      let x1375 := (minI (1 : Int) x1374)
                      let x1376 := (maxI (-1 : Int) x1375)
                      k0 x1376
                    | none => none
                | none => none
            else
              let x1377 := (IntKind.i64.wrap (v1367 - (1 : Int)))
              next v1365 v1366 x1377
          | none => none
      | none => none
  else
    k1
noncomputable def impl_natCmp_L0.b {α : Type} (N n : Nat) (v1365 : List Int) (v1366 : List Int) (v1367 : Int) (k0 : Int → Option α) (k1 : Option α) : Option α :=
  Nat.rec (motive := fun _ => List Int → List Int → Int → Option α) (fun _ _ _ => none) (fun _ next => impl_natCmp_L0r N next k0 k1) n v1365 v1366 v1367
theorem impl_natCmp_L0.ex : ∃ f : ((α : Type) → Nat → Nat → List Int → List Int → Int → (Int → Option α) → (Option α) → Option α), f = fun α => @impl_natCmp_L0.b α := ⟨_, rfl⟩
noncomputable def impl_natCmp_L0 {α : Type} : Nat → Nat → List Int → List Int → Int → (Int → Option α) → (Option α) → Option α := Classical.choose impl_natCmp_L0.ex α
theorem impl_natCmp_L0.eq : @impl_natCmp_L0 = @impl_natCmp_L0.b := funext fun α => congrFun (Classical.choose_spec impl_natCmp_L0.ex) α
theorem impl_natCmp_L0.zero {α : Type} (N : Nat) (v1365 : List Int) (v1366 : List Int) (v1367 : Int) (k0 : Int → Option α) (k1 : Option α) : impl_natCmp_L0 N 0 v1365 v1366 v1367 k0 k1 = none := by rw [impl_natCmp_L0.eq]; rfl
theorem impl_natCmp_L0.succ {α : Type} (N n : Nat) (v1365 : List Int) (v1366 : List Int) (v1367 : Int) (k0 : Int → Option α) (k1 : Option α) : impl_natCmp_L0 N (n + 1) v1365 v1366 v1367 k0 k1 = impl_natCmp_L0r N (fun y0 y1 y2 => impl_natCmp_L0 N n y0 y1 y2 k0 k1) k0 k1 v1365 v1366 v1367 := by rw [impl_natCmp_L0.eq]; rfl
/-- loop.example/pinfold/impl.natCmp -/
noncomputable def impl_natCmp.b {α : Type} (N : Nat) (a1353 : List Int) (a1354 : List Int) (k0 : Int → Option α) : Option α :=
  let x1355 := ((a1353.length : Nat) : Int)
  let x1356 := ((a1354.length : Nat) : Int)
  let x1357 := !(decide (x1355 = x1356))
  bif x1357 then
    let x1358 := ((a1353.length : Nat) : Int)
    let x1359 := ((a1354.length : Nat) : Int)
    let x1360 := IntKind.i64.wrap (x1358 - x1359)
    let x1361 := (minI (1 : Int) x1360)
    let x1362 := (maxI (-1 : Int) x1361)
    k0 x1362
  else
    let x1363 := ((a1353.length : Nat) : Int)
    let x1364 := (IntKind.i64.wrap (x1363 - (1 : Int)))
    impl_natCmp_L0 N N a1353 a1354 x1364
      (fun x1378 =>
        k0 x1378)
      (
        k0 (0 : Int))
theorem impl_natCmp.ex : ∃ f : ((α : Type) → Nat → List Int → List Int → (Int → Option α) → Option α), f = fun α => @impl_natCmp.b α := ⟨_, rfl⟩
noncomputable def impl_natCmp {α : Type} : Nat → List Int → List Int → (Int → Option α) → Option α := Classical.choose impl_natCmp.ex α
theorem impl_natCmp.eq : @impl_natCmp = @impl_natCmp.b := funext fun α => congrFun (Classical.choose_spec impl_natCmp.ex) α

noncomputable def math_bits_Len64_J1.b {α : Type} (N : Nat) (v1414 : Int) (v1415 : Int) (k0 : Int → Int → Option α) : Option α :=
  let x1416 := (decide ((4294967296 : Int) ≤ v1414))
  bif x1416 then
    let x1417 := (shrI .u64 v1414 (32 : Int))
    k0 x1417 (32 : Int)
  else
    k0 v1414 v1415
theorem math_bits_Len64_J1.ex : ∃ f : ((α : Type) → Nat → Int → Int → (Int → Int → Option α) → Option α), f = fun α => @math_bits_Len64_J1.b α := ⟨_, rfl⟩
noncomputable def math_bits_Len64_J1 {α : Type} : Nat → Int → Int → (Int → Int → Option α) → Option α := Classical.choose math_bits_Len64_J1.ex α
theorem math_bits_Len64_J1.eq : @math_bits_Len64_J1 = @math_bits_Len64_J1.b := funext fun α => congrFun (Classical.choose_spec math_bits_Len64_J1.ex) α
noncomputable def math_bits_Len64_J4.b {α : Type} (N : Nat) (v1420 : Int) (v1421 : Int) (k0 : Int → Int → Option α) : Option α :=
  let x1422 := (decide ((65536 : Int) ≤ v1420))
  bif x1422 then
    let x1423 := (shrI .u64 v1420 (16 : Int))
    let x1424 := (IntKind.i64.wrap (v1421 + (16 : Int)))
    k0 x1423 x1424
  else
    k0 v1420 v1421
theorem math_bits_Len64_J4.ex : ∃ f : ((α : Type) → Nat → Int → Int → (Int → Int → Option α) → Option α), f = fun α => @math_bits_Len64_J4.b α := ⟨_, rfl⟩
noncomputable def math_bits_Len64_J4 {α : Type} : Nat → Int → Int → (Int → Int → Option α) → Option α := Classical.choose math_bits_Len64_J4.ex α
theorem math_bits_Len64_J4.eq : @math_bits_Len64_J4 = @math_bits_Len64_J4.b := funext fun α => congrFun (Classical.choose_spec math_bits_Len64_J4.ex) α
noncomputable def math_bits_Len64_J7.b {α : Type} (N : Nat) (v1427 : Int) (v1428 : Int) (k0 : Int → Int → Option α) : Option α :=
  let x1429 := (decide ((256 : Int) ≤ v1427))
  bif x1429 then
    let x1430 := (shrI .u64 v1427 (8 : Int))
    let x1431 := (IntKind.i64.wrap (v1428 + (8 : Int)))
    k0 x1430 x1431
  else
    k0 v1427 v1428
theorem math_bits_Len64_J7.ex : ∃ f : ((α : Type) → Nat → Int → Int → (Int → Int → Option α) → Option α), f = fun α => @math_bits_Len64_J7.b α := ⟨_, rfl⟩
noncomputable def math_bits_Len64_J7 {α : Type} : Nat → Int → Int → (Int → Int → Option α) → Option α := Classical.choose math_bits_Len64_J7.ex α
theorem math_bits_Len64_J7.eq : @math_bits_Len64_J7 = @math_bits_Len64_J7.b := funext fun α => congrFun (Classical.choose_spec math_bits_Len64_J7.ex) α
/-- math/bits.Len64 -/
noncomputable def math_bits_Len64.b {α : Type} (N : Nat) (a1413 : Int) (k0 : Int → Option α) : Option α :=
  math_bits_Len64_J1 N a1413 (0 : Int)
    (fun x1418 x1419 =>
      math_bits_Len64_J4 N x1418 x1419
        (fun x1425 x1426 =>
          math_bits_Len64_J7 N x1425 x1426
            (fun x1432 x1433 =>
              let x1434 := IntKind.u8.wrap x1432
              bif (decide (x1434 < (0 : Int))) then
                none
              else
                match ((⟨#[0, 1, 2, 2, 3, 3, 3, 3, 4, 4, 4, 4, 4, 4, 4, 4, 5, 5, 5, 5, 5, 5, 5, 5, 5, 5, 5, 5, 5, 5, 5, 5, 6, 6, 6, 6, 6, 6, 6, 6, 6, 6, 6, 6, 6, 6, 6, 6, 6, 6, 6, 6, 6, 6, 6, 6, 6, 6, 6, 6, 6, 6, 6, 6, 7, 7, 7, 7, 7, 7, 7, 7, 7, 7, 7, 7, 7, 7, 7, 7, 7, 7, 7, 7, 7, 7, 7, 7, 7, 7, 7, 7, 7, 7, 7, 7, 7, 7, 7, 7, 7, 7, 7, 7, 7, 7, 7, 7, 7, 7, 7, 7, 7, 7, 7, 7, 7, 7, 7, 7, 7, 7, 7, 7, 7, 7, 7, 7, 8, 8, 8, 8, 8, 8, 8, 8, 8, 8, 8, 8, 8, 8, 8, 8, 8, 8, 8, 8, 8, 8, 8, 8, 8, 8, 8, 8, 8, 8, 8, 8, 8, 8, 8, 8, 8, 8, 8, 8, 8, 8, 8, 8, 8, 8, 8, 8, 8, 8, 8, 8, 8, 8, 8, 8, 8, 8, 8, 8, 8, 8, 8, 8, 8, 8, 8, 8, 8, 8, 8, 8, 8, 8, 8, 8, 8, 8, 8, 8, 8, 8, 8, 8, 8, 8, 8, 8, 8, 8, 8, 8, 8, 8, 8, 8, 8, 8, 8, 8, 8, 8, 8, 8, 8, 8, 8, 8, 8, 8, 8, 8, 8, 8, 8, 8, 8, 8, 8, 8, 8, 8, 8, 8, 8, 8, 8, 8]⟩ : ByteArray)[x1434.toNat]? : Option UInt8) with
                | some x1435 =>
                  let x1436 := ((x1435.toNat : Nat) : Int)
                  let x1437 := IntKind.i64.wrap x1436
                  let x1438 := IntKind.i64.wrap (x1433 + x1437)
                  k0 x1438
                | none => none)))
theorem math_bits_Len64.ex : ∃ f : ((α : Type) → Nat → Int → (Int → Option α) → Option α), f = fun α => @math_bits_Len64.b α := ⟨_, rfl⟩
noncomputable def math_bits_Len64 {α : Type} : Nat → Int → (Int → Option α) → Option α := Classical.choose math_bits_Len64.ex α
theorem math_bits_Len64.eq : @math_bits_Len64 = @math_bits_Len64.b := funext fun α => congrFun (Classical.choose_spec math_bits_Len64.ex) α

/-- math/bits.Len -/
noncomputable def math_bits_Len.b {α : Type} (N : Nat) (a1412 : Int) (k0 : Int → Option α) : Option α :=
  math_bits_Len64 N a1412
    (fun x1439 =>
      k0 x1439)
theorem math_bits_Len.ex : ∃ f : ((α : Type) → Nat → Int → (Int → Option α) → Option α), f = fun α => @math_bits_Len.b α := ⟨_, rfl⟩
noncomputable def math_bits_Len {α : Type} : Nat → Int → (Int → Option α) → Option α := Classical.choose math_bits_Len.ex α
theorem math_bits_Len.eq : @math_bits_Len = @math_bits_Len.b := funext fun α => congrFun (Classical.choose_spec math_bits_Len.ex) α

noncomputable def impl_natDiv_L0r {α : Type} (N : Nat) (next : List Int → List Int → Int → Int → List Int → Option α) (k0 : Int → List Int → Option α) (v1387 : List Int) (v1388 : List Int) (v1389 : Int) (v1390 : Int) (v1391 : List Int) : Option α :=
  let x1392 := (decide ((0 : Int) ≤ v1390))
  bif x1392 then
    let x1393 := (shlI .i64 v1389 (16 : Int))
    bif (decide (v1390 < (0 : Int))) then
      none
    else
      match v1387[v1390.toNat]? with
      | some x1394 =>
        let x1395 := bitI .or .i64 x1393 x1394
        match v1388[0]? with
        | some x1396 =>
          bif (decide (x1396 = (0 : Int))) then
            none
          else
            let x1397 := IntKind.i64.wrap (Int.tdiv x1395 x1396)
            match v1388[0]? with
            | some x1398 =>
              bif (decide (x1398 = (0 : Int))) then
                none
              else
                let x1399 := Int.tmod x1395 x1398
                bif (decide (v1390 < (0 : Int))) then
                  none
                else
                  bif decide (v1390.toNat < v1391.length) then
                    match v1391[v1390.toNat]? with
                    | some x1400 =>
                      let x1401 := v1391.set v1390.toNat x1397
                      let x1402 := (IntKind.i64.wrap (v1390 - (1 : Int)))
                      next v1387 v1388 x1399 x1402 x1401
                    | none => none
                  else
                    none
            | none => none
        | none => none
      | none => none
  else
    k0 v1389 v1391
noncomputable def impl_natDiv_L0.b {α : Type} (N n : Nat) (v1387 : List Int) (v1388 : List Int) (v1389 : Int) (v1390 : Int) (v1391 : List Int) (k0 : Int → List Int → Option α) : Option α :=
  Nat.rec (motive := fun _ => List Int → List Int → Int → Int → List Int → Option α) (fun _ _ _ _ _ => none) (fun _ next => impl_natDiv_L0r N next k0) n v1387 v1388 v1389 v1390 v1391
theorem impl_natDiv_L0.ex : ∃ f : ((α : Type) → Nat → Nat → List Int → List Int → Int → Int → List Int → (Int → List Int → Option α) → Option α), f = fun α => @impl_natDiv_L0.b α := ⟨_, rfl⟩
noncomputable def impl_natDiv_L0 {α : Type} : Nat → Nat → List Int → List Int → Int → Int → List Int → (Int → List Int → Option α) → Option α := Classical.choose impl_natDiv_L0.ex α
theorem impl_natDiv_L0.eq : @impl_natDiv_L0 = @impl_natDiv_L0.b := funext fun α => congrFun (Classical.choose_spec impl_natDiv_L0.ex) α
theorem impl_natDiv_L0.zero {α : Type} (N : Nat) (v1387 : List Int) (v1388 : List Int) (v1389 : Int) (v1390 : Int) (v1391 : List Int) (k0 : Int → List Int → Option α) : impl_natDiv_L0 N 0 v1387 v1388 v1389 v1390 v1391 k0 = none := by rw [impl_natDiv_L0.eq]; rfl
theorem impl_natDiv_L0.succ {α : Type} (N n : Nat) (v1387 : List Int) (v1388 : List Int) (v1389 : Int) (v1390 : Int) (v1391 : List Int) (k0 : Int → List Int → Option α) : impl_natDiv_L0 N (n + 1) v1387 v1388 v1389 v1390 v1391 k0 = impl_natDiv_L0r N (fun y0 y1 y2 y3 y4 => impl_natDiv_L0 N n y0 y1 y2 y3 y4 k0) k0 v1387 v1388 v1389 v1390 v1391 := by rw [impl_natDiv_L0.eq]; rfl
noncomputable def impl_natDiv_L2r {α : Type} (N : Nat) (next : List Int → Int → List Int → Int → List Int → Option α) (k0 : Int → List Int → Int → List Int → Option α) (v1448 : List Int) (v1449 : Int) (v1450 : List Int) (v1451 : Int) (v1452 : List Int) : Option α :=
  let x1453 := ((v1452.length : Nat) : Int)
  let x1454 := ((v1448.length : Nat) : Int)
  let x1455 := (IntKind.i64.wrap (x1454 + (1 : Int)))
  let x1456 := decide (x1453 < x1455)
  bif x1456 then
    let x1457 := [(0 : Int)]
    bif decide (v1452.length + x1457.length ≤ 8796093022208) then
      let x1458 := v1452 ++ x1457
      next v1448 v1449 v1450 v1451 x1458
    else
      none
  else
    k0 v1449 v1450 v1451 v1452
noncomputable def impl_natDiv_L2.b {α : Type} (N n : Nat) (v1448 : List Int) (v1449 : Int) (v1450 : List Int) (v1451 : Int) (v1452 : List Int) (k0 : Int → List Int → Int → List Int → Option α) : Option α :=
  Nat.rec (motive := fun _ => List Int → Int → List Int → Int → List Int → Option α) (fun _ _ _ _ _ => none) (fun _ next => impl_natDiv_L2r N next k0) n v1448 v1449 v1450 v1451 v1452
theorem impl_natDiv_L2.ex : ∃ f : ((α : Type) → Nat → Nat → List Int → Int → List Int → Int → List Int → (Int → List Int → Int → List Int → Option α) → Option α), f = fun α => @impl_natDiv_L2.b α := ⟨_, rfl⟩
noncomputable def impl_natDiv_L2 {α : Type} : Nat → Nat → List Int → Int → List Int → Int → List Int → (Int → List Int → Int → List Int → Option α) → Option α := Classical.choose impl_natDiv_L2.ex α
theorem impl_natDiv_L2.eq : @impl_natDiv_L2 = @impl_natDiv_L2.b := funext fun α => congrFun (Classical.choose_spec impl_natDiv_L2.ex) α
theorem impl_natDiv_L2.zero {α : Type} (N : Nat) (v1448 : List Int) (v1449 : Int) (v1450 : List Int) (v1451 : Int) (v1452 : List Int) (k0 : Int → List Int → Int → List Int → Option α) : impl_natDiv_L2 N 0 v1448 v1449 v1450 v1451 v1452 k0 = none := by rw [impl_natDiv_L2.eq]; rfl
theorem impl_natDiv_L2.succ {α : Type} (N n : Nat) (v1448 : List Int) (v1449 : Int) (v1450 : List Int) (v1451 : Int) (v1452 : List Int) (k0 : Int → List Int → Int → List Int → Option α) : impl_natDiv_L2 N (n + 1) v1448 v1449 v1450 v1451 v1452 k0 = impl_natDiv_L2r N (fun y0 y1 y2 y3 y4 => impl_natDiv_L2 N n y0 y1 y2 y3 y4 k0) k0 v1448 v1449 v1450 v1451 v1452 := by rw [impl_natDiv_L2.eq]; rfl
noncomputable def impl_natDiv_L6r {α : Type} (N : Nat) (next : Int → List Int → Int → Int → Int → Int → List Int → List Int → Option α) (k0 : Int → List Int → Int → Int → Int → List Int → List Int → Option α) (v1489 : Int) (v1490 : List Int) (v1491 : Int) (v1492 : Int) (v1493 : Int) (v1494 : Int) (v1495 : List Int) (v1496 : List Int) : Option α :=
  let x1497 := (decide ((65536 : Int) ≤ v1493))
  bif x1497 then
    let x1498 := (IntKind.i64.wrap (v1493 - (1 : Int)))
    let x1499 := (IntKind.i64.wrap (v1491 - (1 : Int)))
    bif (decide (x1499 < (0 : Int))) then
      none
    else
      match v1490[x1499.toNat]? with
      | some x1500 =>
        let x1501 := IntKind.i64.wrap (v1494 + x1500)
        let x1502 := (decide ((65536 : Int) ≤ x1501))
        bif x1502 then
          k0 v1489 v1490 v1491 v1492 x1498 v1495 v1496
        else
          next v1489 v1490 v1491 v1492 x1498 x1501 v1495 v1496
      | none => none
  else
    let x1503 := (IntKind.i64.wrap (v1491 - (2 : Int)))
    bif (decide (x1503 < (0 : Int))) then
      none
    else
      match v1490[x1503.toNat]? with
      | some x1504 =>
        let x1505 := IntKind.i64.wrap (v1493 * x1504)
        let x1506 := (shlI .i64 v1494 (16 : Int))
        let x1507 := IntKind.i64.wrap (v1492 + v1491)
        let x1508 := (IntKind.i64.wrap (x1507 - (2 : Int)))
        bif (decide (x1508 < (0 : Int))) then
          none
        else
          bif decide (x1508.toNat < v1495.length) then
            match v1495[x1508.toNat]? with
            | some x1509 =>
              let x1510 := bitI .or .i64 x1506 x1509
              let x1511 := decide (x1510 < x1505)
              bif x1511 then
                let x1512 := (IntKind.i64.wrap (v1493 - (1 : Int)))
                let x1513 := (IntKind.i64.wrap (v1491 - (1 : Int)))
                bif (decide (x1513 < (0 : Int))) then
                  none
                else
                  match v1490[x1513.toNat]? with
                  | some x1514 =>
                    let x1515 := IntKind.i64.wrap (v1494 + x1514)
                    let x1516 := (decide ((65536 : Int) ≤ x1515))
                    bif x1516 then
                      k0 v1489 v1490 v1491 v1492 x1512 v1495 v1496
                    else
                      next v1489 v1490 v1491 v1492 x1512 x1515 v1495 v1496
                  | none => none
              else
                k0 v1489 v1490 v1491 v1492 v1493 v1495 v1496
            | none => none
          else
            none
      | none => none
noncomputable def impl_natDiv_L6.b {α : Type} (N n : Nat) (v1489 : Int) (v1490 : List Int) (v1491 : Int) (v1492 : Int) (v1493 : Int) (v1494 : Int) (v1495 : List Int) (v1496 : List Int) (k0 : Int → List Int → Int → Int → Int → List Int → List Int → Option α) : Option α :=
  Nat.rec (motive := fun _ => Int → List Int → Int → Int → Int → Int → List Int → List Int → Option α) (fun _ _ _ _ _ _ _ _ => none) (fun _ next => impl_natDiv_L6r N next k0) n v1489 v1490 v1491 v1492 v1493 v1494 v1495 v1496
theorem impl_natDiv_L6.ex : ∃ f : ((α : Type) → Nat → Nat → Int → List Int → Int → Int → Int → Int → List Int → List Int → (Int → List Int → Int → Int → Int → List Int → List Int → Option α) → Option α), f = fun α => @impl_natDiv_L6.b α := ⟨_, rfl⟩
noncomputable def impl_natDiv_L6 {α : Type} : Nat → Nat → Int → List Int → Int → Int → Int → Int → List Int → List Int → (Int → List Int → Int → Int → Int → List Int → List Int → Option α) → Option α := Classical.choose impl_natDiv_L6.ex α
theorem impl_natDiv_L6.eq : @impl_natDiv_L6 = @impl_natDiv_L6.b := funext fun α => congrFun (Classical.choose_spec impl_natDiv_L6.ex) α
theorem impl_natDiv_L6.zero {α : Type} (N : Nat) (v1489 : Int) (v1490 : List Int) (v1491 : Int) (v1492 : Int) (v1493 : Int) (v1494 : Int) (v1495 : List Int) (v1496 : List Int) (k0 : Int → List Int → Int → Int → Int → List Int → List Int → Option α) : impl_natDiv_L6 N 0 v1489 v1490 v1491 v1492 v1493 v1494 v1495 v1496 k0 = none := by rw [impl_natDiv_L6.eq]; rfl
theorem impl_natDiv_L6.succ {α : Type} (N n : Nat) (v1489 : Int) (v1490 : List Int) (v1491 : Int) (v1492 : Int) (v1493 : Int) (v1494 : Int) (v1495 : List Int) (v1496 : List Int) (k0 : Int → List Int → Int → Int → Int → List Int → List Int → Option α) : impl_natDiv_L6 N (n + 1) v1489 v1490 v1491 v1492 v1493 v1494 v1495 v1496 k0 = impl_natDiv_L6r N (fun y0 y1 y2 y3 y4 y5 y6 y7 => impl_natDiv_L6 N n y0 y1 y2 y3 y4 y5 y6 y7 k0) k0 v1489 v1490 v1491 v1492 v1493 v1494 v1495 v1496 := by rw [impl_natDiv_L6.eq]; rfl
noncomputable def impl_natDiv_J34.b {α : Type} (N : Nat) (v1543 : Int) (v1544 : List Int) (v1545 : Int) (v1546 : Int) (v1547 : Int) (v1548 : Int) (v1549 : Int) (v1550 : Int) (v1551 : List Int) (v1552 : Int) (v1553 : Int) (v1554 : List Int) (v1555 : List Int) (k0 : Int → List Int → Int → Int → Int → Int → Int → Int → List Int → Int → Int → List Int → List Int → Option α) : Option α :=
  let x1556 := (decide (v1550 < (0 : Int)))
  bif x1556 then
    let x1557 := IntKind.i64.wrap (0 - v1550)
    let x1558 := (IntKind.i64.wrap (x1557 + (65536 : Int)))
    let x1559 := (IntKind.i64.wrap (x1558 - (1 : Int)))
    let x1560 := (IntKind.i64.wrap (Int.tdiv x1559 (65536 : Int)))
    let x1561 := (IntKind.i64.wrap (x1560 * (65536 : Int)))
    let x1562 := IntKind.i64.wrap (v1550 + x1561)
    k0 v1543 v1544 v1545 v1546 v1547 x1560 v1549 x1562 v1551 v1552 v1553 v1554 v1555
  else
    k0 v1543 v1544 v1545 v1546 v1547 v1548 v1549 v1550 v1551 v1552 v1553 v1554 v1555
theorem impl_natDiv_J34.ex : ∃ f : ((α : Type) → Nat → Int → List Int → Int → Int → Int → Int → Int → Int → List Int → Int → Int → List Int → List Int → (Int → List Int → Int → Int → Int → Int → Int → Int → List Int → Int → Int → List Int → List Int → Option α) → Option α), f = fun α => @impl_natDiv_J34.b α := ⟨_, rfl⟩
noncomputable def impl_natDiv_J34 {α : Type} : Nat → Int → List Int → Int → Int → Int → Int → Int → Int → List Int → Int → Int → List Int → List Int → (Int → List Int → Int → Int → Int → Int → Int → Int → List Int → Int → Int → List Int → List Int → Option α) → Option α := Classical.choose impl_natDiv_J34.ex α
theorem impl_natDiv_J34.eq : @impl_natDiv_J34 = @impl_natDiv_J34.b := funext fun α => congrFun (Classical.choose_spec impl_natDiv_J34.ex) α
noncomputable def impl_natDiv_L8r {α : Type} (N : Nat) (next : Int → List Int → Int → Int → Int → Int → List Int → Int → Int → List Int → List Int → Option α) (k0 : Int → List Int → Int → Int → Int → Int → List Int → List Int → Option α) (v1525 : Int) (v1526 : List Int) (v1527 : Int) (v1528 : Int) (v1529 : Int) (v1530 : Int) (v1531 : List Int) (v1532 : Int) (v1533 : Int) (v1534 : List Int) (v1535 : List Int) : Option α :=
  let x1536 := decide (v1533 < v1532)
  bif x1536 then
    bif (decide (v1533 < (0 : Int))) then
      none
    else
      match v1531[v1533.toNat]? with
      | some x1537 =>
        let x1538 := IntKind.i64.wrap (v1528 + v1533)
        bif (decide (x1538 < (0 : Int))) then
          none
        else
          bif decide (x1538.toNat < v1534.length) then
            match v1534[x1538.toNat]? with
            | some x1539 =>
              let x1540 := IntKind.i64.wrap (x1539 - v1530)
              let x1541 := IntKind.i64.wrap (v1529 * x1537)
              let x1542 := IntKind.i64.wrap (x1540 - x1541)
              impl_natDiv_J34 N v1525 v1526 v1527 v1528 v1529 (0 : Int) v1533 x1542 v1531 v1532 v1533 v1534 v1535
                (fun x1563 x1564 x1565 x1566 x1567 x1568 x1569 x1570 x1571 x1572 x1573 x1574 x1575 =>
                  let x1576 := IntKind.i64.wrap (x1566 + x1569)
                  bif (decide (x1576 < (0 : Int))) then
                    none
                  else
                    bif decide (x1576.toNat < x1574.length) then
                      match x1574[x1576.toNat]? with
                      | some x1577 =>
                        let x1578 := x1574.set x1576.toNat x1570
                        let x1579 := (IntKind.i64.wrap (x1573 + (1 : Int)))
                        next x1563 x1564 x1565 x1566 x1567 x1568 x1571 x1572 x1579 x1578 x1575
                      | none => none
                    else
                      none)
            | none => none
          else
            none
      | none => none
  else
    k0 v1525 v1526 v1527 v1528 v1529 v1530 v1534 v1535
noncomputable def impl_natDiv_L8.b {α : Type} (N n : Nat) (v1525 : Int) (v1526 : List Int) (v1527 : Int) (v1528 : Int) (v1529 : Int) (v1530 : Int) (v1531 : List Int) (v1532 : Int) (v1533 : Int) (v1534 : List Int) (v1535 : List Int) (k0 : Int → List Int → Int → Int → Int → Int → List Int → List Int → Option α) : Option α :=
  Nat.rec (motive := fun _ => Int → List Int → Int → Int → Int → Int → List Int → Int → Int → List Int → List Int → Option α) (fun _ _ _ _ _ _ _ _ _ _ _ => none) (fun _ next => impl_natDiv_L8r N next k0) n v1525 v1526 v1527 v1528 v1529 v1530 v1531 v1532 v1533 v1534 v1535
theorem impl_natDiv_L8.ex : ∃ f : ((α : Type) → Nat → Nat → Int → List Int → Int → Int → Int → Int → List Int → Int → Int → List Int → List Int → (Int → List Int → Int → Int → Int → Int → List Int → List Int → Option α) → Option α), f = fun α => @impl_natDiv_L8.b α := ⟨_, rfl⟩
noncomputable def impl_natDiv_L8 {α : Type} : Nat → Nat → Int → List Int → Int → Int → Int → Int → List Int → Int → Int → List Int → List Int → (Int → List Int → Int → Int → Int → Int → List Int → List Int → Option α) → Option α := Classical.choose impl_natDiv_L8.ex α
theorem impl_natDiv_L8.eq : @impl_natDiv_L8 = @impl_natDiv_L8.b := funext fun α => congrFun (Classical.choose_spec impl_natDiv_L8.ex) α
theorem impl_natDiv_L8.zero {α : Type} (N : Nat) (v1525 : Int) (v1526 : List Int) (v1527 : Int) (v1528 : Int) (v1529 : Int) (v1530 : Int) (v1531 : List Int) (v1532 : Int) (v1533 : Int) (v1534 : List Int) (v1535 : List Int) (k0 : Int → List Int → Int → Int → Int → Int → List Int → List Int → Option α) : impl_natDiv_L8 N 0 v1525 v1526 v1527 v1528 v1529 v1530 v1531 v1532 v1533 v1534 v1535 k0 = none := by rw [impl_natDiv_L8.eq]; rfl
theorem impl_natDiv_L8.succ {α : Type} (N n : Nat) (v1525 : Int) (v1526 : List Int) (v1527 : Int) (v1528 : Int) (v1529 : Int) (v1530 : Int) (v1531 : List Int) (v1532 : Int) (v1533 : Int) (v1534 : List Int) (v1535 : List Int) (k0 : Int → List Int → Int → Int → Int → Int → List Int → List Int → Option α) : impl_natDiv_L8 N (n + 1) v1525 v1526 v1527 v1528 v1529 v1530 v1531 v1532 v1533 v1534 v1535 k0 = impl_natDiv_L8r N (fun y0 y1 y2 y3 y4 y5 y6 y7 y8 y9 y10 => impl_natDiv_L8 N n y0 y1 y2 y3 y4 y5 y6 y7 y8 y9 y10 k0) k0 v1525 v1526 v1527 v1528 v1529 v1530 v1531 v1532 v1533 v1534 v1535 := by rw [impl_natDiv_L8.eq]; rfl
noncomputable def impl_natDiv_L10r {α : Type} (N : Nat) (next : Int → List Int → Int → Int → Int → Int → List Int → Int → Int → List Int → List Int → Option α) (k0 : Int → List Int → Int → Int → Int → Int → List Int → List Int → Option α) (v1605 : Int) (v1606 : List Int) (v1607 : Int) (v1608 : Int) (v1609 : Int) (v1610 : Int) (v1611 : List Int) (v1612 : Int) (v1613 : Int) (v1614 : List Int) (v1615 : List Int) : Option α :=
  let x1616 := decide (v1613 < v1612)
  bif x1616 then
    bif (decide (v1613 < (0 : Int))) then
      none
    else
      match v1611[v1613.toNat]? with
      | some x1617 =>
        let x1618 := IntKind.i64.wrap (v1608 + v1613)
        bif (decide (x1618 < (0 : Int))) then
          none
        else
          bif decide (x1618.toNat < v1614.length) then
            match v1614[x1618.toNat]? with
            | some x1619 =>
              let x1620 := IntKind.i64.wrap (x1619 + x1617)
              let x1621 := IntKind.i64.wrap (x1620 + v1610)
              let x1622 := IntKind.i64.wrap (v1608 + v1613)
              let x1623 := (bitI .and .i64 x1621 (65535 : Int))
              let x1624 := (shrI .i64 x1621 (16 : Int))
              bif (decide (x1622 < (0 : Int))) then
                none
              else
                bif decide (x1622.toNat < v1614.length) then
                  match v1614[x1622.toNat]? with
                  | some x1625 =>
                    let x1626 := v1614.set x1622.toNat x1623
                    let x1627 := (IntKind.i64.wrap (v1613 + (1 : Int)))
                    next v1605 v1606 v1607 v1608 v1609 x1624 v1611 v1612 x1627 x1626 v1615
                  | none => none
                else
                  none
            | none => none
          else
            none
      | none => none
  else
    k0 v1605 v1606 v1607 v1608 v1609 v1610 v1614 v1615
noncomputable def impl_natDiv_L10.b {α : Type} (N n : Nat) (v1605 : Int) (v1606 : List Int) (v1607 : Int) (v1608 : Int) (v1609 : Int) (v1610 : Int) (v1611 : List Int) (v1612 : Int) (v1613 : Int) (v1614 : List Int) (v1615 : List Int) (k0 : Int → List Int → Int → Int → Int → Int → List Int → List Int → Option α) : Option α :=
  Nat.rec (motive := fun _ => Int → List Int → Int → Int → Int → Int → List Int → Int → Int → List Int → List Int → Option α) (fun _ _ _ _ _ _ _ _ _ _ _ => none) (fun _ next => impl_natDiv_L10r N next k0) n v1605 v1606 v1607 v1608 v1609 v1610 v1611 v1612 v1613 v1614 v1615
theorem impl_natDiv_L10.ex : ∃ f : ((α : Type) → Nat → Nat → Int → List Int → Int → Int → Int → Int → List Int → Int → Int → List Int → List Int → (Int → List Int → Int → Int → Int → Int → List Int → List Int → Option α) → Option α), f = fun α => @impl_natDiv_L10.b α := ⟨_, rfl⟩
noncomputable def impl_natDiv_L10 {α : Type} : Nat → Nat → Int → List Int → Int → Int → Int → Int → List Int → Int → Int → List Int → List Int → (Int → List Int → Int → Int → Int → Int → List Int → List Int → Option α) → Option α := Classical.choose impl_natDiv_L10.ex α
theorem impl_natDiv_L10.eq : @impl_natDiv_L10 = @impl_natDiv_L10.b := funext fun α => congrFun (Classical.choose_spec impl_natDiv_L10.ex) α
theorem impl_natDiv_L10.zero {α : Type} (N : Nat) (v1605 : Int) (v1606 : List Int) (v1607 : Int) (v1608 : Int) (v1609 : Int) (v1610 : Int) (v1611 : List Int) (v1612 : Int) (v1613 : Int) (v1614 : List Int) (v1615 : List Int) (k0 : Int → List Int → Int → Int → Int → Int → List Int → List Int → Option α) : impl_natDiv_L10 N 0 v1605 v1606 v1607 v1608 v1609 v1610 v1611 v1612 v1613 v1614 v1615 k0 = none := by rw [impl_natDiv_L10.eq]; rfl
theorem impl_natDiv_L10.succ {α : Type} (N n : Nat) (v1605 : Int) (v1606 : List Int) (v1607 : Int) (v1608 : Int) (v1609 : Int) (v1610 : Int) (v1611 : List Int) (v1612 : Int) (v1613 : Int) (v1614 : List Int) (v1615 : List Int) (k0 : Int → List Int → Int → Int → Int → Int → List Int → List Int → Option α) : impl_natDiv_L10 N (n + 1) v1605 v1606 v1607 v1608 v1609 v1610 v1611 v1612 v1613 v1614 v1615 k0 = impl_natDiv_L10r N (fun y0 y1 y2 y3 y4 y5 y6 y7 y8 y9 y10 => impl_natDiv_L10 N n y0 y1 y2 y3 y4 y5 y6 y7 y8 y9 y10 k0) k0 v1605 v1606 v1607 v1608 v1609 v1610 v1611 v1612 v1613 v1614 v1615 := by rw [impl_natDiv_L10.eq]; rfl
noncomputable def impl_natDiv_J40.b {α : Type} (N : Nat) (v1593 : Int) (v1594 : List Int) (v1595 : Int) (v1596 : Int) (v1597 : Int) (v1598 : List Int) (v1599 : List Int) (k0 : Int → List Int → Int → Int → Int → List Int → List Int → Option α) : Option α :=
  let x1600 := IntKind.i64.wrap (v1596 + v1595)
  bif (decide (x1600 < (0 : Int))) then
    none
  else
    bif decide (x1600.toNat < v1598.length) then
      match v1598[x1600.toNat]? with
      | some x1601 =>
        let x1602 := (decide (x1601 < (0 : Int)))
        bif x1602 then
          let x1603 := (IntKind.i64.wrap (v1597 - (1 : Int)))
          let x1604 := ((v1594.length : Nat) : Int)
          impl_natDiv_L10 N N v1593 v1594 v1595 v1596 x1603 (0 : Int) v1594 x1604 (0 : Int) v1598 v1599
            (fun x1628 x1629 x1630 x1631 x1632 x1633 x1634 x1635 =>
              let x1636 := IntKind.i64.wrap (x1631 + x1630)
              bif (decide (x1636 < (0 : Int))) then
                none
              else
                bif decide (x1636.toNat < x1634.length) then
                  match x1634[x1636.toNat]? with
                  | some x1637 =>
                    let x1638 := IntKind.i64.wrap (x1637 + x1633)
                    bif (decide (x1636 < (0 : Int))) then
                      none
                    else
                      bif decide (x1636.toNat < x1634.length) then
                        match x1634[x1636.toNat]? with
                        | some x1639 =>
                          let x1640 := x1634.set x1636.toNat x1638
                          k0 x1628 x1629 x1630 x1631 x1632 x1640 x1635
                        | none => none
                      else
                        none
                  | none => none
                else
                  none)
        else
          k0 v1593 v1594 v1595 v1596 v1597 v1598 v1599
      | none => none
    else
      none
theorem impl_natDiv_J40.ex : ∃ f : ((α : Type) → Nat → Int → List Int → Int → Int → Int → List Int → List Int → (Int → List Int → Int → Int → Int → List Int → List Int → Option α) → Option α), f = fun α => @impl_natDiv_J40.b α := ⟨_, rfl⟩
noncomputable def impl_natDiv_J40 {α : Type} : Nat → Int → List Int → Int → Int → Int → List Int → List Int → (Int → List Int → Int → Int → Int → List Int → List Int → Option α) → Option α := Classical.choose impl_natDiv_J40.ex α
theorem impl_natDiv_J40.eq : @impl_natDiv_J40 = @impl_natDiv_J40.b := funext fun α => congrFun (Classical.choose_spec impl_natDiv_J40.ex) α
noncomputable def impl_natDiv_L4r {α : Type} (N : Nat) (next : Int → List Int → Int → Int → List Int → List Int → Option α) (k0 : Int → List Int → List Int → Option α) (v1469 : Int) (v1470 : List Int) (v1471 : Int) (v1472 : Int) (v1473 : List Int) (v1474 : List Int) : Option α :=
  let x1475 := (decide ((0 : Int) ≤ v1472))
  bif x1475 then
    let x1476 := IntKind.i64.wrap (v1472 + v1471)
    bif (decide (x1476 < (0 : Int))) then
      none
    else
      bif decide (x1476.toNat < v1473.length) then
        match v1473[x1476.toNat]? with
        | some x1477 =>
          let x1478 := (shlI .i64 x1477 (16 : Int))
          let x1479 := IntKind.i64.wrap (v1472 + v1471)
          let x1480 := (IntKind.i64.wrap (x1479 - (1 : Int)))
          bif (decide (x1480 < (0 : Int))) then
            none
          else
            bif decide (x1480.toNat < v1473.length) then
              match v1473[x1480.toNat]? with
              | some x1481 =>
                let x1482 := bitI .or .i64 x1478 x1481
                let x1483 := (IntKind.i64.wrap (v1471 - (1 : Int)))
                bif (decide (x1483 < (0 : Int))) then
                  none
                else
                  match v1470[x1483.toNat]? with
                  | some x1484 =>
                    bif (decide (x1484 = (0 : Int))) then
                      none
                    else
                      let x1485 := IntKind.i64.wrap (Int.tdiv x1482 x1484)
                      let x1486 := (IntKind.i64.wrap (v1471 - (1 : Int)))
                      bif (decide (x1486 < (0 : Int))) then
                        none
                      else
                        match v1470[x1486.toNat]? with
                        | some x1487 =>
                          bif (decide (x1487 = (0 : Int))) then
                            none
                          else
                            let x1488 := Int.tmod x1482 x1487
                            impl_natDiv_L6 N N v1469 v1470 v1471 v1472 x1485 x1488 v1473 v1474
                              (fun x1517 x1518 x1519 x1520 x1521 x1522 x1523 =>
                                let x1524 := ((x1518.length : Nat) : Int)
                                impl_natDiv_L8 N N x1517 x1518 x1519 x1520 x1521 (0 : Int) x1518 x1524 (0 : Int) x1522 x1523
                                  (fun x1580 x1581 x1582 x1583 x1584 x1585 x1586 x1587 =>
                                    let x1588 := IntKind.i64.wrap (x1583 + x1582)
                                    bif (decide (x1588 < (0 : Int))) then
                                      none
                                    else
                                      bif decide (x1588.toNat < x1586.length) then
                                        match x1586[x1588.toNat]? with
                                        | some x1589 =>
                                          let x1590 := IntKind.i64.wrap (x1589 - x1585)
                                          bif (decide (x1588 < (0 : Int))) then
                                            none
                                          else
                                            bif decide (x1588.toNat < x1586.length) then
                                              match x1586[x1588.toNat]? with
                                              | some x1591 =>
                                                let x1592 := x1586.set x1588.toNat x1590
                                                impl_natDiv_J40 N x1580 x1581 x1582 x1583 x1584 x1592 x1587
                                                  (fun x1641 x1642 x1643 x1644 x1645 x1646 x1647 =>
                                                    bif (decide (x1644 < (0 : Int))) then
                                                      none
                                                    else
                                                      bif decide (x1644.toNat < x1647.length) then
                                                        match x1647[x1644.toNat]? with
                                                        | some x1648 =>
                                                          let x1649 := x1647.set x1644.toNat x1645
                                                          let x1650 := (IntKind.i64.wrap (x1644 - (1 : Int)))
                                                          next x1641 x1642 x1643 x1650 x1646 x1649
                                                        | none => none
                                                      else
                                                        none)
                                              | none => none
                                            else
                                              none
                                        | none => none
                                      else
                                        none))
                        | none => none
                  | none => none
              | none => none
            else
              none
        | none => none
      else
        none
  else
    k0 v1469 v1473 v1474
noncomputable def impl_natDiv_L4.b {α : Type} (N n : Nat) (v1469 : Int) (v1470 : List Int) (v1471 : Int) (v1472 : Int) (v1473 : List Int) (v1474 : List Int) (k0 : Int → List Int → List Int → Option α) : Option α :=
  Nat.rec (motive := fun _ => Int → List Int → Int → Int → List Int → List Int → Option α) (fun _ _ _ _ _ _ => none) (fun _ next => impl_natDiv_L4r N next k0) n v1469 v1470 v1471 v1472 v1473 v1474
theorem impl_natDiv_L4.ex : ∃ f : ((α : Type) → Nat → Nat → Int → List Int → Int → Int → List Int → List Int → (Int → List Int → List Int → Option α) → Option α), f = fun α => @impl_natDiv_L4.b α := ⟨_, rfl⟩
noncomputable def impl_natDiv_L4 {α : Type} : Nat → Nat → Int → List Int → Int → Int → List Int → List Int → (Int → List Int → List Int → Option α) → Option α := Classical.choose impl_natDiv_L4.ex α
theorem impl_natDiv_L4.eq : @impl_natDiv_L4 = @impl_natDiv_L4.b := funext fun α => congrFun (Classical.choose_spec impl_natDiv_L4.ex) α
theorem impl_natDiv_L4.zero {α : Type} (N : Nat) (v1469 : Int) (v1470 : List Int) (v1471 : Int) (v1472 : Int) (v1473 : List Int) (v1474 : List Int) (k0 : Int → List Int → List Int → Option α) : impl_natDiv_L4 N 0 v1469 v1470 v1471 v1472 v1473 v1474 k0 = none := by rw [impl_natDiv_L4.eq]; rfl
theorem impl_natDiv_L4.succ {α : Type} (N n : Nat) (v1469 : Int) (v1470 : List Int) (v1471 : Int) (v1472 : Int) (v1473 : List Int) (v1474 : List Int) (k0 : Int → List Int → List Int → Option α) : impl_natDiv_L4 N (n + 1) v1469 v1470 v1471 v1472 v1473 v1474 k0 = impl_natDiv_L4r N (fun y0 y1 y2 y3 y4 y5 => impl_natDiv_L4 N n y0 y1 y2 y3 y4 y5 k0) k0 v1469 v1470 v1471 v1472 v1473 v1474 := by rw [impl_natDiv_L4.eq]; rfl
/-- loop.example/pinfold/impl.natDiv -/
noncomputable def impl_natDiv.b {α : Type} (N : Nat) (a1351 : List Int) (a1352 : List Int) (k0 : List Int → List Int → Option α) : Option α :=
  impl_natCmp N a1351 a1352
    (fun x1379 =>
      let x1380 := (decide (x1379 < (0 : Int)))
      bif x1380 then
        k0 [] a1351
      else
        let x1381 := ((a1352.length : Nat) : Int)
        let x1382 := (decide (x1381 = (1 : Int)))
        bif x1382 then
          let x1383 := ((a1351.length : Nat) : Int)
          bif (decide ((0 : Int) ≤ x1383)) then
            bif decide (x1383 ≤ x1383) then
              bif (decide (x1383 ≤ ((8796093022208 : Nat) : Int))) then
                let x1384 := (List.replicate x1383.toNat (0 : Int))
                let x1385 := ((a1351.length : Nat) : Int)
                let x1386 := (IntKind.i64.wrap (x1385 - (1 : Int)))
                impl_natDiv_L0 N N a1351 a1352 (0 : Int) x1386 x1384
                  (fun x1403 x1404 =>
                    impl_trim N x1404
                      (fun x1405 =>
                        let x1406 := [x1403]
                        impl_trim N x1406
                          (fun x1407 =>
                            k0 x1405 x1407)))
              else
                none
            else
              none
          else
            none
        else
          let x1408 := ((a1352.length : Nat) : Int)
          let x1409 := (IntKind.i64.wrap (x1408 - (1 : Int)))
          bif (decide (x1409 < (0 : Int))) then
            none
          else
            match a1352[x1409.toNat]? with
            | some x1410 =>
              let x1411 := IntKind.u64.wrap x1410
              math_bits_Len N x1411
                (fun x1440 =>
                  let x1441 := (IntKind.i64.wrap ((16 : Int) - x1440))
                  impl_natShift N a1352 x1441
                    (fun x1442 =>
                      impl_natShift N a1351 x1441
                        (fun x1443 =>
                          slices_Clone_int_int N x1443
                            (fun x1444 =>
                              let x1445 := [(0 : Int)]
                              bif decide (x1444.length + x1445.length ≤ 8796093022208) then
                                let x1446 := x1444 ++ x1445
                                let x1447 := ((x1442.length : Nat) : Int)
                                impl_natDiv_L2 N N a1351 x1441 x1442 x1447 x1446
                                  (fun x1459 x1460 x1461 x1462 =>
                                    let x1463 := ((x1462.length : Nat) : Int)
                                    let x1464 := IntKind.i64.wrap (x1463 - x1461)
                                    bif (decide ((0 : Int) ≤ x1464)) then
                                      bif decide (x1464 ≤ x1464) then
                                        bif (decide (x1464 ≤ ((8796093022208 : Nat) : Int))) then
                                          let x1465 := (List.replicate x1464.toNat (0 : Int))
                                          let x1466 := ((x1462.length : Nat) : Int)
                                          let x1467 := IntKind.i64.wrap (x1466 - x1461)
                                          let x1468 := (IntKind.i64.wrap (x1467 - (1 : Int)))
                                          impl_natDiv_L4 N N x1459 x1460 x1461 x1468 x1462 x1465
                                            (fun x1651 x1652 x1653 =>
                                              impl_trim N x1653
                                                (fun x1654 =>
                                                  impl_trim N x1652
                                                    (fun x1655 =>
                                                      let x1656 := IntKind.i64.wrap (0 - x1651)
                                                      impl_natShift N x1655 x1656
                                                        (fun x1657 =>
                                                          k0 x1654 x1657))))
                                        else
                                          none
                                      else
                                        none
                                    else
                                      none)
                              else
                                none))))
            | none => none)
theorem impl_natDiv.ex : ∃ f : ((α : Type) → Nat → List Int → List Int → (List Int → List Int → Option α) → Option α), f = fun α => @impl_natDiv.b α := ⟨_, rfl⟩
noncomputable def impl_natDiv {α : Type} : Nat → List Int → List Int → (List Int → List Int → Option α) → Option α := Classical.choose impl_natDiv.ex α
theorem impl_natDiv.eq : @impl_natDiv = @impl_natDiv.b := funext fun α => congrFun (Classical.choose_spec impl_natDiv.ex) α

noncomputable def impl_natGcd_L0r {α : Type} (N : Nat) (next : List Int → List Int → Option α) (k0 : List Int → Option α) (v1290 : List Int) (v1291 : List Int) : Option α :=
  let x1292 := ((v1291.length : Nat) : Int)
  let x1293 := (decide ((0 : Int) < x1292))
  bif x1293 then
    impl_natDiv N v1290 v1291
      (fun _ x1659 =>
        next v1291 x1659)
  else
    k0 v1290
noncomputable def impl_natGcd_L0.b {α : Type} (N n : Nat) (v1290 : List Int) (v1291 : List Int) (k0 : List Int → Option α) : Option α :=
  Nat.rec (motive := fun _ => List Int → List Int → Option α) (fun _ _ => none) (fun _ next => impl_natGcd_L0r N next k0) n v1290 v1291
theorem impl_natGcd_L0.ex : ∃ f : ((α : Type) → Nat → Nat → List Int → List Int → (List Int → Option α) → Option α), f = fun α => @impl_natGcd_L0.b α := ⟨_, rfl⟩
noncomputable def impl_natGcd_L0 {α : Type} : Nat → Nat → List Int → List Int → (List Int → Option α) → Option α := Classical.choose impl_natGcd_L0.ex α
theorem impl_natGcd_L0.eq : @impl_natGcd_L0 = @impl_natGcd_L0.b := funext fun α => congrFun (Classical.choose_spec impl_natGcd_L0.ex) α
theorem impl_natGcd_L0.zero {α : Type} (N : Nat) (v1290 : List Int) (v1291 : List Int) (k0 : List Int → Option α) : impl_natGcd_L0 N 0 v1290 v1291 k0 = none := by rw [impl_natGcd_L0.eq]; rfl
theorem impl_natGcd_L0.succ {α : Type} (N n : Nat) (v1290 : List Int) (v1291 : List Int) (k0 : List Int → Option α) : impl_natGcd_L0 N (n + 1) v1290 v1291 k0 = impl_natGcd_L0r N (fun y0 y1 => impl_natGcd_L0 N n y0 y1 k0) k0 v1290 v1291 := by rw [impl_natGcd_L0.eq]; rfl
/-- loop.example/pinfold/impl.natGcd -/
noncomputable def impl_natGcd.b {α : Type} (N : Nat) (a1288 : List Int) (a1289 : List Int) (k0 : List Int → Option α) : Option α :=
  impl_natGcd_L0 N N a1288 a1289
    (fun x1660 =>
      k0 x1660)
theorem impl_natGcd.ex : ∃ f : ((α : Type) → Nat → List Int → List Int → (List Int → Option α) → Option α), f = fun α => @impl_natGcd.b α := ⟨_, rfl⟩
noncomputable def impl_natGcd {α : Type} : Nat → List Int → List Int → (List Int → Option α) → Option α := Classical.choose impl_natGcd.ex α
theorem impl_natGcd.eq : @impl_natGcd = @impl_natGcd.b := funext fun α => congrFun (Classical.choose_spec impl_natGcd.ex) α

noncomputable def impl_lowest_J2.b {α : Type} (N : Nat) (v1662 : Bool) (v1663 : List Int) (v1664 : List Int) (v1665 : List Int) (v1666 : Bool) (v1667 : List Int) (v1668 : List Int) (k0 : Bool → List Int → List Int → Bool → List Int → List Int → Option α) : Option α :=
  let x1669 := [(1 : Int)]
  impl_natCmp N v1665 x1669
    (fun x1670 =>
      let x1671 := (!(decide (x1670 = (0 : Int))))
      bif x1671 then
        impl_natDiv N v1663 v1665
          (fun x1672 _ =>
            impl_natDiv N v1664 v1665
              (fun x1674 _ =>
                k0 v1662 x1672 x1674 v1666 v1667 v1668))
      else
        k0 v1662 v1663 v1664 v1666 v1667 v1668)
theorem impl_lowest_J2.ex : ∃ f : ((α : Type) → Nat → Bool → List Int → List Int → List Int → Bool → List Int → List Int → (Bool → List Int → List Int → Bool → List Int → List Int → Option α) → Option α), f = fun α => @impl_lowest_J2.b α := ⟨_, rfl⟩
noncomputable def impl_lowest_J2 {α : Type} : Nat → Bool → List Int → List Int → List Int → Bool → List Int → List Int → (Bool → List Int → List Int → Bool → List Int → List Int → Option α) → Option α := Classical.choose impl_lowest_J2.ex α
theorem impl_lowest_J2.eq : @impl_lowest_J2 = @impl_lowest_J2.b := funext fun α => congrFun (Classical.choose_spec impl_lowest_J2.ex) α
/-- loop.example/pinfold/impl.lowest -/
noncomputable def impl_lowest.b {α : Type} (N : Nat) (a1285 : Bool) (a1286 : List Int) (a1287 : List Int) (k0 : (Bool × (List Int) × (List Int) × Unit) → Option α) : Option α :=
  impl_natGcd N a1286 a1287
    (fun x1661 =>
      impl_lowest_J2 N a1285 a1286 a1287 x1661 false [] []
        (fun x1676 x1677 x1678 _ _ _ =>
          bif x1676 then
            let x1682 := ((x1677.length : Nat) : Int)
            let x1683 := (decide ((0 : Int) < x1682))
            k0 (x1683, (x1677, (x1678, ())))
          else
            k0 (false, (x1677, (x1678, ())))))
theorem impl_lowest.ex : ∃ f : ((α : Type) → Nat → Bool → List Int → List Int → ((Bool × (List Int) × (List Int) × Unit) → Option α) → Option α), f = fun α => @impl_lowest.b α := ⟨_, rfl⟩
noncomputable def impl_lowest {α : Type} : Nat → Bool → List Int → List Int → ((Bool × (List Int) × (List Int) × Unit) → Option α) → Option α := Classical.choose impl_lowest.ex α
theorem impl_lowest.eq : @impl_lowest = @impl_lowest.b := funext fun α => congrFun (Classical.choose_spec impl_lowest.ex) α

/-- loop.example/pinfold/impl.value -/
noncomputable def impl_value.b {α : Type} (N : Nat) (a1095 : Int) (a1096 : Int) (k0 : (Bool × (List Int) × (List Int) × Unit) → Option α) : Option α :=
  impl_BitPartOf N a1095 a1096
    (fun x1097 _ =>
      impl_natOf N x1097.2.1
        (fun x1109 =>
          let x1110 := (decide ((0 : Int) ≤ x1097.2.2.1))
          bif x1110 then
            impl_natShift N x1109 x1097.2.2.1
              (fun x1272 =>
                impl_whole N x1097.1 x1272
                  (fun x1279 x1280 x1281 =>
                    k0 (x1279, (x1280, (x1281, ())))))
          else
            let x1282 := [(1 : Int)]
            let x1283 := IntKind.i64.wrap (0 - x1097.2.2.1)
            impl_natShift N x1282 x1283
              (fun x1284 =>
                impl_lowest N x1097.1 x1109 x1284
                  (fun x1684 =>
                    k0 x1684))))
theorem impl_value.ex : ∃ f : ((α : Type) → Nat → Int → Int → ((Bool × (List Int) × (List Int) × Unit) → Option α) → Option α), f = fun α => @impl_value.b α := ⟨_, rfl⟩
noncomputable def impl_value {α : Type} : Nat → Int → Int → ((Bool × (List Int) × (List Int) × Unit) → Option α) → Option α := Classical.choose impl_value.ex α
theorem impl_value.eq : @impl_value = @impl_value.b := funext fun α => congrFun (Classical.choose_spec impl_value.ex) α

/-- slices.Clip[[]int,int] -/
noncomputable def slices_Clip_int_int.b {α : Type} (N : Nat) (a1693 : List Int) (k0 : List Int → Option α) : Option α :=
  let x1694 := ((a1693.length : Nat) : Int)
  let x1695 := ((a1693.length : Nat) : Int)
  bif (decide ((0 : Int) ≤ x1695)) then
    bif (decide (x1695 ≤ ((a1693.length : Nat) : Int))) then
      bif (decide ((0 : Int) ≤ x1694)) then
        bif (decide (x1694 ≤ ((x1695.toNat : Nat) : Int))) then
          let x1696 := a1693.take x1694.toNat
          k0 x1696
        else
          none
      else
        none
    else
      none
  else
    none
theorem slices_Clip_int_int.ex : ∃ f : ((α : Type) → Nat → List Int → (List Int → Option α) → Option α), f = fun α => @slices_Clip_int_int.b α := ⟨_, rfl⟩
noncomputable def slices_Clip_int_int {α : Type} : Nat → List Int → (List Int → Option α) → Option α := Classical.choose slices_Clip_int_int.ex α
theorem slices_Clip_int_int.eq : @slices_Clip_int_int = @slices_Clip_int_int.b := funext fun α => congrFun (Classical.choose_spec slices_Clip_int_int.ex) α

/-- loop.example/pinfold/impl.clone[int] -/
noncomputable def impl_clone_int.b {α : Type} (N : Nat) (a1691 : List Int) (k0 : List Int → Option α) : Option α :=
  slices_Clone_int_int N a1691
    (fun x1692 =>
      slices_Clip_int_int N x1692
        (fun x1697 =>
          k0 x1697))
theorem impl_clone_int.ex : ∃ f : ((α : Type) → Nat → List Int → (List Int → Option α) → Option α), f = fun α => @impl_clone_int.b α := ⟨_, rfl⟩
noncomputable def impl_clone_int {α : Type} : Nat → List Int → (List Int → Option α) → Option α := Classical.choose impl_clone_int.ex α
theorem impl_clone_int.eq : @impl_clone_int = @impl_clone_int.b := funext fun α => congrFun (Classical.choose_spec impl_clone_int.ex) α

/-- loop.example/pinfold/impl.given -/
noncomputable def impl_given.b {α : Type} (N : Nat) (a1686 : Bool × (List Int) × (List Int) × Unit) (k0 : Bool → Bool → List Int → List Int → Option α) : Option α :=
  let x1687 := ((a1686.2.1.length : Nat) : Int)
  let x1688 := (decide ((256 : Int) < x1687))
  bif x1688 then
    k0 false false [] []
  else
    let x1689 := ((a1686.2.2.1.length : Nat) : Int)
    let x1690 := (decide ((256 : Int) < x1689))
    bif x1690 then
      k0 false false [] []
    else
      impl_clone_int N a1686.2.1
        (fun x1698 =>
          impl_clone_int N a1686.2.2.1
            (fun x1699 =>
              k0 a1686.1 true x1698 x1699))
theorem impl_given.ex : ∃ f : ((α : Type) → Nat → (Bool × (List Int) × (List Int) × Unit) → (Bool → Bool → List Int → List Int → Option α) → Option α), f = fun α => @impl_given.b α := ⟨_, rfl⟩
noncomputable def impl_given {α : Type} : Nat → (Bool × (List Int) × (List Int) × Unit) → (Bool → Bool → List Int → List Int → Option α) → Option α := Classical.choose impl_given.ex α
theorem impl_given.eq : @impl_given = @impl_given.b := funext fun α => congrFun (Classical.choose_spec impl_given.ex) α

/-- loop.example/pinfold/impl.FloatFrac -/
noncomputable def impl_FloatFrac.b {α : Type} (N : Nat) (a460 : Int) (a461 : Int) (k0 : Bool → Bool → List Int → List Int → Option α) : Option α :=
  impl_BitPartOf N a460 a461
    (fun _ x503 =>
      let x504 := !x503
      bif x504 then
        k0 false false [] []
      else
        impl_value N a460 a461
          (fun x1685 =>
            impl_given N x1685
              (fun x1700 x1701 x1702 x1703 =>
                k0 x1700 x1701 x1702 x1703)))
theorem impl_FloatFrac.ex : ∃ f : ((α : Type) → Nat → Int → Int → (Bool → Bool → List Int → List Int → Option α) → Option α), f = fun α => @impl_FloatFrac.b α := ⟨_, rfl⟩
noncomputable def impl_FloatFrac {α : Type} : Nat → Int → Int → (Bool → Bool → List Int → List Int → Option α) → Option α := Classical.choose impl_FloatFrac.ex α
theorem impl_FloatFrac.eq : @impl_FloatFrac = @impl_FloatFrac.b := funext fun α => congrFun (Classical.choose_spec impl_FloatFrac.ex) α

noncomputable def laws_eqIntS_L0r {α : Type} (N : Nat) (next : List Int → List Int → Int → Option α) (k0 : Bool → Option α) (k1 : Option α) (v1716 : List Int) (v1717 : List Int) (v1718 : Int) : Option α :=
  let x1719 := ((v1716.length : Nat) : Int)
  let x1720 := decide (v1718 < x1719)
  bif x1720 then
    bif (decide (v1718 < (0 : Int))) then
      none
    else
      match v1716[v1718.toNat]? with
      | some x1721 =>
        bif (decide (v1718 < (0 : Int))) then
          none
        else
          match v1717[v1718.toNat]? with
          | some x1722 =>
            let x1723 := !(decide (x1721 = x1722))
            bif x1723 then
              k0 false
            else
              let x1724 := (IntKind.i64.wrap (v1718 + (1 : Int)))
              next v1716 v1717 x1724
          | none => none
      | none => none
  else
    k1
noncomputable def laws_eqIntS_L0.b {α : Type} (N n : Nat) (v1716 : List Int) (v1717 : List Int) (v1718 : Int) (k0 : Bool → Option α) (k1 : Option α) : Option α :=
  Nat.rec (motive := fun _ => List Int → List Int → Int → Option α) (fun _ _ _ => none) (fun _ next => laws_eqIntS_L0r N next k0 k1) n v1716 v1717 v1718
theorem laws_eqIntS_L0.ex : ∃ f : ((α : Type) → Nat → Nat → List Int → List Int → Int → (Bool → Option α) → (Option α) → Option α), f = fun α => @laws_eqIntS_L0.b α := ⟨_, rfl⟩
noncomputable def laws_eqIntS_L0 {α : Type} : Nat → Nat → List Int → List Int → Int → (Bool → Option α) → (Option α) → Option α := Classical.choose laws_eqIntS_L0.ex α
theorem laws_eqIntS_L0.eq : @laws_eqIntS_L0 = @laws_eqIntS_L0.b := funext fun α => congrFun (Classical.choose_spec laws_eqIntS_L0.ex) α
theorem laws_eqIntS_L0.zero {α : Type} (N : Nat) (v1716 : List Int) (v1717 : List Int) (v1718 : Int) (k0 : Bool → Option α) (k1 : Option α) : laws_eqIntS_L0 N 0 v1716 v1717 v1718 k0 k1 = none := by rw [laws_eqIntS_L0.eq]; rfl
theorem laws_eqIntS_L0.succ {α : Type} (N n : Nat) (v1716 : List Int) (v1717 : List Int) (v1718 : Int) (k0 : Bool → Option α) (k1 : Option α) : laws_eqIntS_L0 N (n + 1) v1716 v1717 v1718 k0 k1 = laws_eqIntS_L0r N (fun y0 y1 y2 => laws_eqIntS_L0 N n y0 y1 y2 k0 k1) k0 k1 v1716 v1717 v1718 := by rw [laws_eqIntS_L0.eq]; rfl
/-- loop.example/pinfold/laws.eqIntS -/
noncomputable def laws_eqIntS.b {α : Type} (N : Nat) (a1711 : List Int) (a1712 : List Int) (k0 : Bool → Option α) : Option α :=
  let x1713 := ((a1711.length : Nat) : Int)
  let x1714 := ((a1712.length : Nat) : Int)
  let x1715 := !(decide (x1713 = x1714))
  bif x1715 then
    k0 false
  else
    laws_eqIntS_L0 N N a1711 a1712 (0 : Int)
      (fun x1725 =>
        k0 x1725)
      (
        k0 true)
theorem laws_eqIntS.ex : ∃ f : ((α : Type) → Nat → List Int → List Int → (Bool → Option α) → Option α), f = fun α => @laws_eqIntS.b α := ⟨_, rfl⟩
noncomputable def laws_eqIntS {α : Type} : Nat → List Int → List Int → (Bool → Option α) → Option α := Classical.choose laws_eqIntS.ex α
theorem laws_eqIntS.eq : @laws_eqIntS = @laws_eqIntS.b := funext fun α => congrFun (Classical.choose_spec laws_eqIntS.ex) α

/-- loop.example/pinfold/laws.eqFrac -/
noncomputable def laws_eqFrac.b {α : Type} (N : Nat) (a1708 : Bool × (List Int) × (List Int) × Unit) (a1709 : Bool × (List Int) × (List Int) × Unit) (k0 : Bool → Option α) : Option α :=
  let x1710 := !(a1708.1 == a1709.1)
  bif x1710 then
    k0 false
  else
    laws_eqIntS N a1708.2.1 a1709.2.1
      (fun x1726 =>
        let x1727 := !x1726
        bif x1727 then
          k0 false
        else
          laws_eqIntS N a1708.2.2.1 a1709.2.2.1
            (fun x1728 =>
              let x1729 := !x1728
              bif x1729 then
                k0 false
              else
                k0 true))
theorem laws_eqFrac.ex : ∃ f : ((α : Type) → Nat → (Bool × (List Int) × (List Int) × Unit) → (Bool × (List Int) × (List Int) × Unit) → (Bool → Option α) → Option α), f = fun α => @laws_eqFrac.b α := ⟨_, rfl⟩
noncomputable def laws_eqFrac {α : Type} : Nat → (Bool × (List Int) × (List Int) × Unit) → (Bool × (List Int) × (List Int) × Unit) → (Bool → Option α) → Option α := Classical.choose laws_eqFrac.ex α
theorem laws_eqFrac.eq : @laws_eqFrac = @laws_eqFrac.b := funext fun α => congrFun (Classical.choose_spec laws_eqFrac.ex) α

noncomputable def laws_markIntS_L0r {α : Type} (N : Nat) (next : Int → Int → List Int → Option α) (k0 : Int → List Int → Option α) (v1739 : Int) (v1740 : Int) (v1741 : List Int) : Option α :=
  let x1742 := ((v1741.length : Nat) : Int)
  let x1743 := decide (v1740 < x1742)
  bif x1743 then
    bif (decide (v1740 < (0 : Int))) then
      none
    else
      bif decide (v1740.toNat < v1741.length) then
        match v1741[v1740.toNat]? with
        | some x1744 =>
          let x1745 := v1741.set v1740.toNat v1739
          let x1746 := (IntKind.i64.wrap (v1739 + (1 : Int)))
          let x1747 := (IntKind.i64.wrap (v1740 + (1 : Int)))
          next x1746 x1747 x1745
        | none => none
      else
        none
  else
    k0 v1739 v1741
noncomputable def laws_markIntS_L0.b {α : Type} (N n : Nat) (v1739 : Int) (v1740 : Int) (v1741 : List Int) (k0 : Int → List Int → Option α) : Option α :=
  Nat.rec (motive := fun _ => Int → Int → List Int → Option α) (fun _ _ _ => none) (fun _ next => laws_markIntS_L0r N next k0) n v1739 v1740 v1741
theorem laws_markIntS_L0.ex : ∃ f : ((α : Type) → Nat → Nat → Int → Int → List Int → (Int → List Int → Option α) → Option α), f = fun α => @laws_markIntS_L0.b α := ⟨_, rfl⟩
noncomputable def laws_markIntS_L0 {α : Type} : Nat → Nat → Int → Int → List Int → (Int → List Int → Option α) → Option α := Classical.choose laws_markIntS_L0.ex α
theorem laws_markIntS_L0.eq : @laws_markIntS_L0 = @laws_markIntS_L0.b := funext fun α => congrFun (Classical.choose_spec laws_markIntS_L0.ex) α
theorem laws_markIntS_L0.zero {α : Type} (N : Nat) (v1739 : Int) (v1740 : Int) (v1741 : List Int) (k0 : Int → List Int → Option α) : laws_markIntS_L0 N 0 v1739 v1740 v1741 k0 = none := by rw [laws_markIntS_L0.eq]; rfl
theorem laws_markIntS_L0.succ {α : Type} (N n : Nat) (v1739 : Int) (v1740 : Int) (v1741 : List Int) (k0 : Int → List Int → Option α) : laws_markIntS_L0 N (n + 1) v1739 v1740 v1741 k0 = laws_markIntS_L0r N (fun y0 y1 y2 => laws_markIntS_L0 N n y0 y1 y2 k0) k0 v1739 v1740 v1741 := by rw [laws_markIntS_L0.eq]; rfl
/-- loop.example/pinfold/laws.markIntS -/
noncomputable def laws_markIntS.b {α : Type} (N : Nat) (a1737 : Int) (a1738 : List Int) (k0 : Int → List Int → Option α) : Option α :=
  laws_markIntS_L0 N N a1737 (0 : Int) a1738
    (fun x1748 x1749 =>
      k0 x1748 x1749)
theorem laws_markIntS.ex : ∃ f : ((α : Type) → Nat → Int → List Int → (Int → List Int → Option α) → Option α), f = fun α => @laws_markIntS.b α := ⟨_, rfl⟩
noncomputable def laws_markIntS {α : Type} : Nat → Int → List Int → (Int → List Int → Option α) → Option α := Classical.choose laws_markIntS.ex α
theorem laws_markIntS.eq : @laws_markIntS = @laws_markIntS.b := funext fun α => congrFun (Classical.choose_spec laws_markIntS.ex) α

/-- loop.example/pinfold/laws.markFrac -/
noncomputable def laws_markFrac.b {α : Type} (N : Nat) (a1733 : Bool) (a1734 : Int) (a1735 : List Int) (a1736 : List Int) (k0 : Int → List Int → List Int → Option α) : Option α :=
  laws_markIntS N a1734 a1735
    (fun x1750 x1751 =>
      laws_markIntS N x1750 a1736
        (fun x1752 x1753 =>
          k0 x1752 x1751 x1753))
theorem laws_markFrac.ex : ∃ f : ((α : Type) → Nat → Bool → Int → List Int → List Int → (Int → List Int → List Int → Option α) → Option α), f = fun α => @laws_markFrac.b α := ⟨_, rfl⟩
noncomputable def laws_markFrac {α : Type} : Nat → Bool → Int → List Int → List Int → (Int → List Int → List Int → Option α) → Option α := Classical.choose laws_markFrac.ex α
theorem laws_markFrac.eq : @laws_markFrac = @laws_markFrac.b := funext fun α => congrFun (Classical.choose_spec laws_markFrac.ex) α

noncomputable def laws_heldIntS_L0r {α : Type} (N : Nat) (next : List Int → Int → Int → Option α) (k0 : Int → Option α) (k1 : Int → Option α) (v1761 : List Int) (v1762 : Int) (v1763 : Int) : Option α :=
  let x1764 := ((v1761.length : Nat) : Int)
  let x1765 := decide (v1763 < x1764)
  bif x1765 then
    bif (decide (v1763 < (0 : Int))) then
      none
    else
      match v1761[v1763.toNat]? with
      | some x1766 =>
        let x1767 := !(decide (x1766 = v1762))
        bif x1767 then
          k0 (-1 : Int)
        else
          let x1768 := (IntKind.i64.wrap (v1762 + (1 : Int)))
          let x1769 := (IntKind.i64.wrap (v1763 + (1 : Int)))
          next v1761 x1768 x1769
      | none => none
  else
    k1 v1762
noncomputable def laws_heldIntS_L0.b {α : Type} (N n : Nat) (v1761 : List Int) (v1762 : Int) (v1763 : Int) (k0 : Int → Option α) (k1 : Int → Option α) : Option α :=
  Nat.rec (motive := fun _ => List Int → Int → Int → Option α) (fun _ _ _ => none) (fun _ next => laws_heldIntS_L0r N next k0 k1) n v1761 v1762 v1763
theorem laws_heldIntS_L0.ex : ∃ f : ((α : Type) → Nat → Nat → List Int → Int → Int → (Int → Option α) → (Int → Option α) → Option α), f = fun α => @laws_heldIntS_L0.b α := ⟨_, rfl⟩
noncomputable def laws_heldIntS_L0 {α : Type} : Nat → Nat → List Int → Int → Int → (Int → Option α) → (Int → Option α) → Option α := Classical.choose laws_heldIntS_L0.ex α
theorem laws_heldIntS_L0.eq : @laws_heldIntS_L0 = @laws_heldIntS_L0.b := funext fun α => congrFun (Classical.choose_spec laws_heldIntS_L0.ex) α
theorem laws_heldIntS_L0.zero {α : Type} (N : Nat) (v1761 : List Int) (v1762 : Int) (v1763 : Int) (k0 : Int → Option α) (k1 : Int → Option α) : laws_heldIntS_L0 N 0 v1761 v1762 v1763 k0 k1 = none := by rw [laws_heldIntS_L0.eq]; rfl
theorem laws_heldIntS_L0.succ {α : Type} (N n : Nat) (v1761 : List Int) (v1762 : Int) (v1763 : Int) (k0 : Int → Option α) (k1 : Int → Option α) : laws_heldIntS_L0 N (n + 1) v1761 v1762 v1763 k0 k1 = laws_heldIntS_L0r N (fun y0 y1 y2 => laws_heldIntS_L0 N n y0 y1 y2 k0 k1) k0 k1 v1761 v1762 v1763 := by rw [laws_heldIntS_L0.eq]; rfl
/-- loop.example/pinfold/laws.heldIntS -/
noncomputable def laws_heldIntS.b {α : Type} (N : Nat) (a1759 : List Int) (a1760 : Int) (k0 : Int → Option α) : Option α :=
  laws_heldIntS_L0 N N a1759 a1760 (0 : Int)
    (fun x1770 =>
      k0 x1770)
    (fun x1771 =>
      k0 x1771)
theorem laws_heldIntS.ex : ∃ f : ((α : Type) → Nat → List Int → Int → (Int → Option α) → Option α), f = fun α => @laws_heldIntS.b α := ⟨_, rfl⟩
noncomputable def laws_heldIntS {α : Type} : Nat → List Int → Int → (Int → Option α) → Option α := Classical.choose laws_heldIntS.ex α
theorem laws_heldIntS.eq : @laws_heldIntS = @laws_heldIntS.b := funext fun α => congrFun (Classical.choose_spec laws_heldIntS.ex) α

/-- loop.example/pinfold/laws.heldFrac -/
noncomputable def laws_heldFrac.b {α : Type} (N : Nat) (a1757 : Bool × (List Int) × (List Int) × Unit) (a1758 : Int) (k0 : Int → Option α) : Option α :=
  laws_heldIntS N a1757.2.1 a1758
    (fun x1772 =>
      let x1773 := (decide (x1772 < (0 : Int)))
      bif x1773 then
        k0 (-1 : Int)
      else
        laws_heldIntS N a1757.2.2.1 x1772
          (fun x1774 =>
            let x1775 := (decide (x1774 < (0 : Int)))
            bif x1775 then
              k0 (-1 : Int)
            else
              k0 x1774))
theorem laws_heldFrac.ex : ∃ f : ((α : Type) → Nat → (Bool × (List Int) × (List Int) × Unit) → Int → (Int → Option α) → Option α), f = fun α => @laws_heldFrac.b α := ⟨_, rfl⟩
noncomputable def laws_heldFrac {α : Type} : Nat → (Bool × (List Int) × (List Int) × Unit) → Int → (Int → Option α) → Option α := Classical.choose laws_heldFrac.ex α
theorem laws_heldFrac.eq : @laws_heldFrac = @laws_heldFrac.b := funext fun α => congrFun (Classical.choose_spec laws_heldFrac.ex) α

/-- loop.example/pinfold/laws.FnExactFloatFrac -/
noncomputable def laws_FnExactFloatFrac.b {α : Type} (N : Nat) (a1 : Int) (a2 : Int) (k0 : Bool → Option α) : Option α :=
  spec_FloatFrac N a1 a2
    (fun x456 x457 x458 x459 =>
      impl_FloatFrac N a1 a2
        (fun x1704 x1705 x1706 x1707 =>
          laws_eqFrac N (x1704, (x1706, (x1707, ()))) (x456, (x458, (x459, ())))
            (fun x1730 =>
              let x1731 := !x1730
              bif x1731 then
                k0 false
              else
                let x1732 := !(x1705 == x457)
                bif x1732 then
                  k0 false
                else
                  laws_markFrac N x1704 (1 : Int) x1706 x1707
                    (fun x1754 x1755 x1756 =>
                      laws_heldFrac N (x1704, (x1755, (x1756, ()))) (1 : Int)
                        (fun x1776 =>
                          let x1777 := (decide (x1776 < (0 : Int)))
                          bif x1777 then
                            k0 false
                          else
                            let x1778 := !(decide (x1776 = x1754))
                            bif x1778 then
                              k0 false
                            else
                              impl_FloatFrac N a1 a2
                                (fun x1779 x1780 x1781 x1782 =>
                                  laws_eqFrac N (x1779, (x1781, (x1782, ()))) (x456, (x458, (x459, ())))
                                    (fun x1783 =>
                                      let x1784 := !x1783
                                      bif x1784 then
                                        k0 false
                                      else
                                        let x1785 := !(x1780 == x457)
                                        bif x1785 then
                                          k0 false
                                        else
                                          laws_heldFrac N (x1704, (x1755, (x1756, ()))) (1 : Int)
                                            (fun x1786 =>
                                              let x1787 := (decide (x1786 < (0 : Int)))
                                              bif x1787 then
                                                k0 false
                                              else
                                                let x1788 := !(decide (x1786 = x1754))
                                                bif x1788 then
                                                  k0 false
                                                else
                                                  k0 true))))))))
theorem laws_FnExactFloatFrac.ex : ∃ f : ((α : Type) → Nat → Int → Int → (Bool → Option α) → Option α), f = fun α => @laws_FnExactFloatFrac.b α := ⟨_, rfl⟩
noncomputable def laws_FnExactFloatFrac {α : Type} : Nat → Int → Int → (Bool → Option α) → Option α := Classical.choose laws_FnExactFloatFrac.ex α
theorem laws_FnExactFloatFrac.eq : @laws_FnExactFloatFrac = @laws_FnExactFloatFrac.b := funext fun α => congrFun (Classical.choose_spec laws_FnExactFloatFrac.ex) α

end
end Go.Proofs.YtlbihmicbncdiaaAm
