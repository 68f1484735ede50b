/-
  The functions that the program computes, as the abstract machine tells them. Printed by amp.py.
-/
import Derived.Test.YtgabephijgjogaaAmb
namespace Go.Proofs.YtgabephijgjogaaAm
open Go
noncomputable section
set_option linter.unusedVariables false
set_option linter.unusedSimpArgs false

noncomputable def laws_toIntS_L0r {α : Type} (N : Nat) (next : List Int → Int → List Int → Option α) (k0 : List Int → Option α) (v8 : List Int) (v9 : Int) (v10 : List Int) : Option α :=
  let x11 := ((v8.length : Nat) : Int)
  let x12 := decide (v9 < x11)
  bif x12 then
    bif (decide (v9 < (0 : Int))) then
      none
    else
      match v8[v9.toNat]? with
      | some x13 =>
        bif (decide (v9 < (0 : Int))) then
          none
        else
          bif decide (v9.toNat < v10.length) then
            match v10[v9.toNat]? with
            | some x14 =>
              let x15 := v10.set v9.toNat x13
              let x16 := (IntKind.i64.wrap (v9 + (1 : Int)))
              next v8 x16 x15
            | none => none
          else
            none
      | none => none
  else
    k0 v10
noncomputable def laws_toIntS_L0.b {α : Type} (N n : Nat) (v8 : List Int) (v9 : Int) (v10 : List Int) (k0 : List Int → Option α) : Option α :=
  Nat.rec (motive := fun _ => List Int → Int → List Int → Option α) (fun _ _ _ => none) (fun _ next => laws_toIntS_L0r N next k0) n v8 v9 v10
theorem laws_toIntS_L0.ex : ∃ f : ((α : Type) → Nat → Nat → List Int → Int → List Int → (List Int → Option α) → Option α), f = fun α => @laws_toIntS_L0.b α := ⟨_, rfl⟩
noncomputable def laws_toIntS_L0 {α : Type} : Nat → Nat → List Int → Int → List Int → (List Int → Option α) → Option α := Classical.choose laws_toIntS_L0.ex α
theorem laws_toIntS_L0.eq : @laws_toIntS_L0 = @laws_toIntS_L0.b := funext fun α => congrFun (Classical.choose_spec laws_toIntS_L0.ex) α
theorem laws_toIntS_L0.zero {α : Type} (N : Nat) (v8 : List Int) (v9 : Int) (v10 : List Int) (k0 : List Int → Option α) : laws_toIntS_L0 N 0 v8 v9 v10 k0 = none := by rw [laws_toIntS_L0.eq]; rfl
theorem laws_toIntS_L0.succ {α : Type} (N n : Nat) (v8 : List Int) (v9 : Int) (v10 : List Int) (k0 : List Int → Option α) : laws_toIntS_L0 N (n + 1) v8 v9 v10 k0 = laws_toIntS_L0r N (fun y0 y1 y2 => laws_toIntS_L0 N n y0 y1 y2 k0) k0 v8 v9 v10 := by rw [laws_toIntS_L0.eq]; rfl
/-- loop.example/pinfold/laws.toIntS -/
noncomputable def laws_toIntS.b {α : Type} (N : Nat) (a5 : List Int) (k0 : List Int → Option α) : Option α :=
  let x6 := ((a5.length : Nat) : Int)
  bif (decide ((0 : Int) ≤ x6)) then
    bif decide (x6 ≤ x6) then
      bif (decide (x6 ≤ ((8796093022208 : Nat) : Int))) then
        let x7 := (List.replicate x6.toNat (0 : Int))
        laws_toIntS_L0 N N a5 (0 : Int) x7
          (fun x17 =>
            k0 x17)
      else
        none
    else
      none
  else
    none
theorem laws_toIntS.ex : ∃ f : ((α : Type) → Nat → List Int → (List Int → Option α) → Option α), f = fun α => @laws_toIntS.b α := ⟨_, rfl⟩
noncomputable def laws_toIntS {α : Type} : Nat → List Int → (List Int → Option α) → Option α := Classical.choose laws_toIntS.ex α
theorem laws_toIntS.eq : @laws_toIntS = @laws_toIntS.b := funext fun α => congrFun (Classical.choose_spec laws_toIntS.ex) α

noncomputable def spec_NatOk_L0r {α : Type} (N : Nat) (next : List Int → Int → Option α) (k0 : Bool → Option α) (k1 : List Int → Option α) (v404 : List Int) (v405 : Int) : Option α :=
  let x406 := ((v404.length : Nat) : Int)
  let x407 := decide (v405 < x406)
  bif x407 then
    bif (decide (v405 < (0 : Int))) then
      none
    else
      match v404[v405.toNat]? with
      | some x408 =>
        let x409 := (decide (x408 < (0 : Int)))
        bif x409 then
          k0 false
        else
          bif (decide (v405 < (0 : Int))) then
            none
          else
            match v404[v405.toNat]? with
            | some x410 =>
              let x411 := (decide ((65536 : Int) ≤ x410))
              bif x411 then
                k0 false
              else
                let x412 := (IntKind.i64.wrap (v405 + (1 : Int)))
                next v404 x412
            | none => none
      | none => none
  else
    k1 v404
noncomputable def spec_NatOk_L0.b {α : Type} (N n : Nat) (v404 : List Int) (v405 : Int) (k0 : Bool → Option α) (k1 : List Int → Option α) : Option α :=
  Nat.rec (motive := fun _ => List Int → Int → Option α) (fun _ _ => none) (fun _ next => spec_NatOk_L0r N next k0 k1) n v404 v405
theorem spec_NatOk_L0.ex : ∃ f : ((α : Type) → Nat → Nat → List Int → Int → (Bool → Option α) → (List Int → Option α) → Option α), f = fun α => @spec_NatOk_L0.b α := ⟨_, rfl⟩
noncomputable def spec_NatOk_L0 {α : Type} : Nat → Nat → List Int → Int → (Bool → Option α) → (List Int → Option α) → Option α := Classical.choose spec_NatOk_L0.ex α
theorem spec_NatOk_L0.eq : @spec_NatOk_L0 = @spec_NatOk_L0.b := funext fun α => congrFun (Classical.choose_spec spec_NatOk_L0.ex) α
theorem spec_NatOk_L0.zero {α : Type} (N : Nat) (v404 : List Int) (v405 : Int) (k0 : Bool → Option α) (k1 : List Int → Option α) : spec_NatOk_L0 N 0 v404 v405 k0 k1 = none := by rw [spec_NatOk_L0.eq]; rfl
theorem spec_NatOk_L0.succ {α : Type} (N n : Nat) (v404 : List Int) (v405 : Int) (k0 : Bool → Option α) (k1 : List Int → Option α) : spec_NatOk_L0 N (n + 1) v404 v405 k0 k1 = spec_NatOk_L0r N (fun y0 y1 => spec_NatOk_L0 N n y0 y1 k0 k1) k0 k1 v404 v405 := by rw [spec_NatOk_L0.eq]; rfl
/-- loop.example/pinfold/spec.NatOk -/
noncomputable def spec_NatOk.b {α : Type} (N : Nat) (a401 : List Int) (k0 : Bool → Option α) : Option α :=
  let x402 := ((a401.length : Nat) : Int)
  let x403 := (decide ((256 : Int) < x402))
  bif x403 then
    k0 false
  else
    spec_NatOk_L0 N N a401 (0 : Int)
      (fun x413 =>
        k0 x413)
      (fun x414 =>
        let x415 := ((x414.length : Nat) : Int)
        let x416 := (decide (x415 = (0 : Int)))
        bif x416 then
          k0 true
        else
          let x417 := ((x414.length : Nat) : Int)
          let x418 := (IntKind.i64.wrap (x417 - (1 : Int)))
          bif (decide (x418 < (0 : Int))) then
            none
          else
            match x414[x418.toNat]? with
            | some x419 =>
              let x420 := (!(decide (x419 = (0 : Int))))
              k0 x420
            | none => none)
theorem spec_NatOk.ex : ∃ f : ((α : Type) → Nat → List Int → (Bool → Option α) → Option α), f = fun α => @spec_NatOk.b α := ⟨_, rfl⟩
noncomputable def spec_NatOk {α : Type} : Nat → List Int → (Bool → Option α) → Option α := Classical.choose spec_NatOk.ex α
theorem spec_NatOk.eq : @spec_NatOk = @spec_NatOk.b := funext fun α => congrFun (Classical.choose_spec spec_NatOk.ex) α

noncomputable def spec_l5Shl_L0r {α : Type} (N : Nat) (next : List Int → Int → List Int → Option α) (k0 : List Int → Option α) (v440 : List Int) (v441 : Int) (v442 : List Int) : Option α :=
  let x443 := ((v440.length : Nat) : Int)
  let x444 := decide (v441 < x443)
  bif x444 then
    bif (decide (v441 < (0 : Int))) then
      none
    else
      match v440[v441.toNat]? with
      | some x445 =>
        let x446 := [x445]
        bif decide (v442.length + x446.length ≤ 8796093022208) then
          let x447 := v442 ++ x446
          let x448 := (IntKind.i64.wrap (v441 + (1 : Int)))
          next v440 x448 x447
        else
          none
      | none => none
  else
    k0 v442
noncomputable def spec_l5Shl_L0.b {α : Type} (N n : Nat) (v440 : List Int) (v441 : Int) (v442 : List Int) (k0 : List Int → Option α) : Option α :=
  Nat.rec (motive := fun _ => List Int → Int → List Int → Option α) (fun _ _ _ => none) (fun _ next => spec_l5Shl_L0r N next k0) n v440 v441 v442
theorem spec_l5Shl_L0.ex : ∃ f : ((α : Type) → Nat → Nat → List Int → Int → List Int → (List Int → Option α) → Option α), f = fun α => @spec_l5Shl_L0.b α := ⟨_, rfl⟩
noncomputable def spec_l5Shl_L0 {α : Type} : Nat → Nat → List Int → Int → List Int → (List Int → Option α) → Option α := Classical.choose spec_l5Shl_L0.ex α
theorem spec_l5Shl_L0.eq : @spec_l5Shl_L0 = @spec_l5Shl_L0.b := funext fun α => congrFun (Classical.choose_spec spec_l5Shl_L0.ex) α
theorem spec_l5Shl_L0.zero {α : Type} (N : Nat) (v440 : List Int) (v441 : Int) (v442 : List Int) (k0 : List Int → Option α) : spec_l5Shl_L0 N 0 v440 v441 v442 k0 = none := by rw [spec_l5Shl_L0.eq]; rfl
theorem spec_l5Shl_L0.succ {α : Type} (N n : Nat) (v440 : List Int) (v441 : Int) (v442 : List Int) (k0 : List Int → Option α) : spec_l5Shl_L0 N (n + 1) v440 v441 v442 k0 = spec_l5Shl_L0r N (fun y0 y1 y2 => spec_l5Shl_L0 N n y0 y1 y2 k0) k0 v440 v441 v442 := by rw [spec_l5Shl_L0.eq]; rfl
/-- loop.example/pinfold/spec.l5Shl -/
noncomputable def spec_l5Shl.b {α : Type} (N : Nat) (a435 : List Int) (a436 : Int) (k0 : List Int → Option α) : Option α :=
  let x437 := ((a435.length : Nat) : Int)
  let x438 := (decide (x437 = (0 : Int)))
  bif x438 then
    k0 []
  else
    bif (decide ((0 : Int) ≤ a436)) then
      bif decide (a436 ≤ a436) then
        bif (decide (a436 ≤ ((8796093022208 : Nat) : Int))) then
          let x439 := (List.replicate a436.toNat (0 : Int))
          spec_l5Shl_L0 N N a435 (0 : Int) x439
            (fun x449 =>
              k0 x449)
        else
          none
      else
        none
    else
      none
theorem spec_l5Shl.ex : ∃ f : ((α : Type) → Nat → List Int → Int → (List Int → Option α) → Option α), f = fun α => @spec_l5Shl.b α := ⟨_, rfl⟩
noncomputable def spec_l5Shl {α : Type} : Nat → List Int → Int → (List Int → Option α) → Option α := Classical.choose spec_l5Shl.ex α
theorem spec_l5Shl.eq : @spec_l5Shl = @spec_l5Shl.b := funext fun α => congrFun (Classical.choose_spec spec_l5Shl.ex) α

/-- loop.example/pinfold/spec.l5Pow2 -/
noncomputable def spec_l5Pow2.b {α : Type} (N : Nat) (a429 : Int) (k0 : List Int → Option α) : Option α :=
  let x430 := (Int.tmod a429 (16 : Int))
  let x431 := IntKind.u64.wrap x430
  bif (decide (x431 < (0 : Int))) then
    none
  else
    let x432 := (shlI .i64 (1 : Int) x431)
    let x433 := [x432]
    let x434 := (IntKind.i64.wrap (Int.tdiv a429 (16 : Int)))
    spec_l5Shl N x433 x434
      (fun x450 =>
        k0 x450)
theorem spec_l5Pow2.ex : ∃ f : ((α : Type) → Nat → Int → (List Int → Option α) → Option α), f = fun α => @spec_l5Pow2.b α := ⟨_, rfl⟩
noncomputable def spec_l5Pow2 {α : Type} : Nat → Int → (List Int → Option α) → Option α := Classical.choose spec_l5Pow2.ex α
theorem spec_l5Pow2.eq : @spec_l5Pow2 = @spec_l5Pow2.b := funext fun α => congrFun (Classical.choose_spec spec_l5Pow2.ex) α

noncomputable def spec_l5Trim_L0r {α : Type} (N : Nat) (next : List Int → Int → Option α) (k0 : List Int → Int → Option α) (v498 : List Int) (v499 : Int) : Option α :=
  let x500 := (decide ((0 : Int) < v499))
  bif x500 then
    let x501 := (IntKind.i64.wrap (v499 - (1 : Int)))
    bif (decide (x501 < (0 : Int))) then
      none
    else
      match v498[x501.toNat]? with
      | some x502 =>
        let x503 := (decide (x502 = (0 : Int)))
        bif x503 then
          let x504 := (IntKind.i64.wrap (v499 - (1 : Int)))
          next v498 x504
        else
          k0 v498 v499
      | none => none
  else
    k0 v498 v499
noncomputable def spec_l5Trim_L0.b {α : Type} (N n : Nat) (v498 : List Int) (v499 : Int) (k0 : List Int → Int → Option α) : Option α :=
  Nat.rec (motive := fun _ => List Int → Int → Option α) (fun _ _ => none) (fun _ next => spec_l5Trim_L0r N next k0) n v498 v499
theorem spec_l5Trim_L0.ex : ∃ f : ((α : Type) → Nat → Nat → List Int → Int → (List Int → Int → Option α) → Option α), f = fun α => @spec_l5Trim_L0.b α := ⟨_, rfl⟩
noncomputable def spec_l5Trim_L0 {α : Type} : Nat → Nat → List Int → Int → (List Int → Int → Option α) → Option α := Classical.choose spec_l5Trim_L0.ex α
theorem spec_l5Trim_L0.eq : @spec_l5Trim_L0 = @spec_l5Trim_L0.b := funext fun α => congrFun (Classical.choose_spec spec_l5Trim_L0.ex) α
theorem spec_l5Trim_L0.zero {α : Type} (N : Nat) (v498 : List Int) (v499 : Int) (k0 : List Int → Int → Option α) : spec_l5Trim_L0 N 0 v498 v499 k0 = none := by rw [spec_l5Trim_L0.eq]; rfl
theorem spec_l5Trim_L0.succ {α : Type} (N n : Nat) (v498 : List Int) (v499 : Int) (k0 : List Int → Int → Option α) : spec_l5Trim_L0 N (n + 1) v498 v499 k0 = spec_l5Trim_L0r N (fun y0 y1 => spec_l5Trim_L0 N n y0 y1 k0) k0 v498 v499 := by rw [spec_l5Trim_L0.eq]; rfl
noncomputable def spec_l5Trim_L2r {α : Type} (N : Nat) (next : List Int → Int → Int → List Int → Option α) (k0 : List Int → Option α) (v507 : List Int) (v508 : Int) (v509 : Int) (v510 : List Int) : Option α :=
  let x511 := decide (v509 < v508)
  bif x511 then
    bif (decide (v509 < (0 : Int))) then
      none
    else
      match v507[v509.toNat]? with
      | some x512 =>
        let x513 := [x512]
        bif decide (v510.length + x513.length ≤ 8796093022208) then
          let x514 := v510 ++ x513
          let x515 := (IntKind.i64.wrap (v509 + (1 : Int)))
          next v507 v508 x515 x514
        else
          none
      | none => none
  else
    k0 v510
noncomputable def spec_l5Trim_L2.b {α : Type} (N n : Nat) (v507 : List Int) (v508 : Int) (v509 : Int) (v510 : List Int) (k0 : List Int → Option α) : Option α :=
  Nat.rec (motive := fun _ => List Int → Int → Int → List Int → Option α) (fun _ _ _ _ => none) (fun _ next => spec_l5Trim_L2r N next k0) n v507 v508 v509 v510
theorem spec_l5Trim_L2.ex : ∃ f : ((α : Type) → Nat → Nat → List Int → Int → Int → List Int → (List Int → Option α) → Option α), f = fun α => @spec_l5Trim_L2.b α := ⟨_, rfl⟩
noncomputable def spec_l5Trim_L2 {α : Type} : Nat → Nat → List Int → Int → Int → List Int → (List Int → Option α) → Option α := Classical.choose spec_l5Trim_L2.ex α
theorem spec_l5Trim_L2.eq : @spec_l5Trim_L2 = @spec_l5Trim_L2.b := funext fun α => congrFun (Classical.choose_spec spec_l5Trim_L2.ex) α
theorem spec_l5Trim_L2.zero {α : Type} (N : Nat) (v507 : List Int) (v508 : Int) (v509 : Int) (v510 : List Int) (k0 : List Int → Option α) : spec_l5Trim_L2 N 0 v507 v508 v509 v510 k0 = none := by rw [spec_l5Trim_L2.eq]; rfl
theorem spec_l5Trim_L2.succ {α : Type} (N n : Nat) (v507 : List Int) (v508 : Int) (v509 : Int) (v510 : List Int) (k0 : List Int → Option α) : spec_l5Trim_L2 N (n + 1) v507 v508 v509 v510 k0 = spec_l5Trim_L2r N (fun y0 y1 y2 y3 => spec_l5Trim_L2 N n y0 y1 y2 y3 k0) k0 v507 v508 v509 v510 := by rw [spec_l5Trim_L2.eq]; rfl
/-- loop.example/pinfold/spec.l5Trim -/
noncomputable def spec_l5Trim.b {α : Type} (N : Nat) (a496 : List Int) (k0 : List Int → Option α) : Option α :=
  let x497 := ((a496.length : Nat) : Int)
  spec_l5Trim_L0 N N a496 x497
    (fun x505 x506 =>
      spec_l5Trim_L2 N N x505 x506 (0 : Int) []
        (fun x516 =>
          k0 x516))
theorem spec_l5Trim.ex : ∃ f : ((α : Type) → Nat → List Int → (List Int → Option α) → Option α), f = fun α => @spec_l5Trim.b α := ⟨_, rfl⟩
noncomputable def spec_l5Trim {α : Type} : Nat → List Int → (List Int → Option α) → Option α := Classical.choose spec_l5Trim.ex α
theorem spec_l5Trim.eq : @spec_l5Trim = @spec_l5Trim.b := funext fun α => congrFun (Classical.choose_spec spec_l5Trim.ex) α

noncomputable def spec_l5Mul_L2r {α : Type} (N : Nat) (next : List Int → List Int → Int → Int → Int → List Int → Option α) (k0 : List Int → List Int → Int → Int → List Int → Option α) (v464 : List Int) (v465 : List Int) (v466 : Int) (v467 : Int) (v468 : Int) (v469 : List Int) : Option α :=
  let x470 := ((v465.length : Nat) : Int)
  let x471 := decide (v468 < x470)
  bif x471 then
    let x472 := IntKind.i64.wrap (v466 + v468)
    bif (decide (x472 < (0 : Int))) then
      none
    else
      bif decide (x472.toNat < v469.length) then
        match v469[x472.toNat]? with
        | some x473 =>
          bif (decide (v466 < (0 : Int))) then
            none
          else
            match v464[v466.toNat]? with
            | some x474 =>
              bif (decide (v468 < (0 : Int))) then
                none
              else
                match v465[v468.toNat]? with
                | some x475 =>
                  let x476 := IntKind.i64.wrap (x474 * x475)
                  let x477 := IntKind.i64.wrap (x473 + x476)
                  let x478 := IntKind.i64.wrap (x477 + v467)
                  let x479 := IntKind.i64.wrap (v466 + v468)
                  let x480 := (Int.tmod x478 (65536 : Int))
                  bif (decide (x479 < (0 : Int))) then
                    none
                  else
                    bif decide (x479.toNat < v469.length) then
                      match v469[x479.toNat]? with
                      | some x481 =>
                        let x482 := v469.set x479.toNat x480
                        let x483 := (IntKind.i64.wrap (Int.tdiv x478 (65536 : Int)))
                        let x484 := (IntKind.i64.wrap (v468 + (1 : Int)))
                        next v464 v465 v466 x483 x484 x482
                      | none => none
                    else
                      none
                | none => none
            | none => none
        | none => none
      else
        none
  else
    k0 v464 v465 v466 v467 v469
noncomputable def spec_l5Mul_L2.b {α : Type} (N n : Nat) (v464 : List Int) (v465 : List Int) (v466 : Int) (v467 : Int) (v468 : Int) (v469 : List Int) (k0 : List Int → List Int → Int → Int → List Int → Option α) : Option α :=
  Nat.rec (motive := fun _ => List Int → List Int → Int → Int → Int → List Int → Option α) (fun _ _ _ _ _ _ => none) (fun _ next => spec_l5Mul_L2r N next k0) n v464 v465 v466 v467 v468 v469
theorem spec_l5Mul_L2.ex : ∃ f : ((α : Type) → Nat → Nat → List Int → List Int → Int → Int → Int → List Int → (List Int → List Int → Int → Int → List Int → Option α) → Option α), f = fun α => @spec_l5Mul_L2.b α := ⟨_, rfl⟩
noncomputable def spec_l5Mul_L2 {α : Type} : Nat → Nat → List Int → List Int → Int → Int → Int → List Int → (List Int → List Int → Int → Int → List Int → Option α) → Option α := Classical.choose spec_l5Mul_L2.ex α
theorem spec_l5Mul_L2.eq : @spec_l5Mul_L2 = @spec_l5Mul_L2.b := funext fun α => congrFun (Classical.choose_spec spec_l5Mul_L2.ex) α
theorem spec_l5Mul_L2.zero {α : Type} (N : Nat) (v464 : List Int) (v465 : List Int) (v466 : Int) (v467 : Int) (v468 : Int) (v469 : List Int) (k0 : List Int → List Int → Int → Int → List Int → Option α) : spec_l5Mul_L2 N 0 v464 v465 v466 v467 v468 v469 k0 = none := by rw [spec_l5Mul_L2.eq]; rfl
theorem spec_l5Mul_L2.succ {α : Type} (N n : Nat) (v464 : List Int) (v465 : List Int) (v466 : Int) (v467 : Int) (v468 : Int) (v469 : List Int) (k0 : List Int → List Int → Int → Int → List Int → Option α) : spec_l5Mul_L2 N (n + 1) v464 v465 v466 v467 v468 v469 k0 = spec_l5Mul_L2r N (fun y0 y1 y2 y3 y4 y5 => spec_l5Mul_L2 N n y0 y1 y2 y3 y4 y5 k0) k0 v464 v465 v466 v467 v468 v469 := by rw [spec_l5Mul_L2.eq]; rfl
noncomputable def spec_l5Mul_L0r {α : Type} (N : Nat) (next : List Int → List Int → Int → List Int → Option α) (k0 : List Int → Option α) (v458 : List Int) (v459 : List Int) (v460 : Int) (v461 : List Int) : Option α :=
  let x462 := ((v458.length : Nat) : Int)
  let x463 := decide (v460 < x462)
  bif x463 then
    spec_l5Mul_L2 N N v458 v459 v460 (0 : Int) (0 : Int) v461
      (fun x485 x486 x487 x488 x489 =>
        let x490 := ((x486.length : Nat) : Int)
        let x491 := IntKind.i64.wrap (x487 + x490)
        bif (decide (x491 < (0 : Int))) then
          none
        else
          bif decide (x491.toNat < x489.length) then
            match x489[x491.toNat]? with
            | some x492 =>
              let x493 := x489.set x491.toNat x488
              let x494 := (IntKind.i64.wrap (x487 + (1 : Int)))
              next x485 x486 x494 x493
            | none => none
          else
            none)
  else
    k0 v461
noncomputable def spec_l5Mul_L0.b {α : Type} (N n : Nat) (v458 : List Int) (v459 : List Int) (v460 : Int) (v461 : List Int) (k0 : List Int → Option α) : Option α :=
  Nat.rec (motive := fun _ => List Int → List Int → Int → List Int → Option α) (fun _ _ _ _ => none) (fun _ next => spec_l5Mul_L0r N next k0) n v458 v459 v460 v461
theorem spec_l5Mul_L0.ex : ∃ f : ((α : Type) → Nat → Nat → List Int → List Int → Int → List Int → (List Int → Option α) → Option α), f = fun α => @spec_l5Mul_L0.b α := ⟨_, rfl⟩
noncomputable def spec_l5Mul_L0 {α : Type} : Nat → Nat → List Int → List Int → Int → List Int → (List Int → Option α) → Option α := Classical.choose spec_l5Mul_L0.ex α
theorem spec_l5Mul_L0.eq : @spec_l5Mul_L0 = @spec_l5Mul_L0.b := funext fun α => congrFun (Classical.choose_spec spec_l5Mul_L0.ex) α
theorem spec_l5Mul_L0.zero {α : Type} (N : Nat) (v458 : List Int) (v459 : List Int) (v460 : Int) (v461 : List Int) (k0 : List Int → Option α) : spec_l5Mul_L0 N 0 v458 v459 v460 v461 k0 = none := by rw [spec_l5Mul_L0.eq]; rfl
theorem spec_l5Mul_L0.succ {α : Type} (N n : Nat) (v458 : List Int) (v459 : List Int) (v460 : Int) (v461 : List Int) (k0 : List Int → Option α) : spec_l5Mul_L0 N (n + 1) v458 v459 v460 v461 k0 = spec_l5Mul_L0r N (fun y0 y1 y2 y3 => spec_l5Mul_L0 N n y0 y1 y2 y3 k0) k0 v458 v459 v460 v461 := by rw [spec_l5Mul_L0.eq]; rfl
/-- loop.example/pinfold/spec.l5Mul -/
noncomputable def spec_l5Mul.b {α : Type} (N : Nat) (a452 : List Int) (a453 : List Int) (k0 : List Int → Option α) : Option α :=
  let x454 := ((a452.length : Nat) : Int)
  let x455 := ((a453.length : Nat) : Int)
  let x456 := IntKind.i64.wrap (x454 + x455)
  bif (decide ((0 : Int) ≤ x456)) then
    bif decide (x456 ≤ x456) then
      bif (decide (x456 ≤ ((8796093022208 : Nat) : Int))) then
        let x457 := (List.replicate x456.toNat (0 : Int))
        spec_l5Mul_L0 N N a452 a453 (0 : Int) x457
          (fun x495 =>
            spec_l5Trim N x495
              (fun x517 =>
                k0 x517))
      else
        none
    else
      none
  else
    none
theorem spec_l5Mul.ex : ∃ f : ((α : Type) → Nat → List Int → List Int → (List Int → Option α) → Option α), f = fun α => @spec_l5Mul.b α := ⟨_, rfl⟩
noncomputable def spec_l5Mul {α : Type} : Nat → List Int → List Int → (List Int → Option α) → Option α := Classical.choose spec_l5Mul.ex α
theorem spec_l5Mul.eq : @spec_l5Mul = @spec_l5Mul.b := funext fun α => congrFun (Classical.choose_spec spec_l5Mul.ex) α

noncomputable def spec_l5Cmp_L0r {α : Type} (N : Nat) (next : List Int → List Int → Int → Option α) (k0 : Int → Option α) (k1 : Option α) (v533 : List Int) (v534 : List Int) (v535 : Int) : Option α :=
  let x536 := (decide ((0 : Int) ≤ v535))
  bif x536 then
    bif (decide (v535 < (0 : Int))) then
      none
    else
      match v533[v535.toNat]? with
      | some x537 =>
        bif (decide (v535 < (0 : Int))) then
          none
        else
          match v534[v535.toNat]? with
          | some x538 =>
            let x539 := decide (x537 < x538)
            bif x539 then
              k0 (-1 : Int)
            else
              bif (decide (v535 < (0 : Int))) then
                none
              else
                match v533[v535.toNat]? with
                | some x540 =>
                  bif (decide (v535 < (0 : Int))) then
                    none
                  else
                    match v534[v535.toNat]? with
                    | some x541 =>
                      let x542 := decide (x541 < x540)
                      bif x542 then
                        k0 (1 : Int)
                      else
                        let x543 := (IntKind.i64.wrap (v535 - (1 : Int)))
                        next v533 v534 x543
                    | none => none
                | none => none
          | none => none
      | none => none
  else
    k1
noncomputable def spec_l5Cmp_L0.b {α : Type} (N n : Nat) (v533 : List Int) (v534 : List Int) (v535 : Int) (k0 : Int → Option α) (k1 : Option α) : Option α :=
  Nat.rec (motive := fun _ => List Int → List Int → Int → Option α) (fun _ _ _ => none) (fun _ next => spec_l5Cmp_L0r N next k0 k1) n v533 v534 v535
theorem spec_l5Cmp_L0.ex : ∃ f : ((α : Type) → Nat → Nat → List Int → List Int → Int → (Int → Option α) → (Option α) → Option α), f = fun α => @spec_l5Cmp_L0.b α := ⟨_, rfl⟩
noncomputable def spec_l5Cmp_L0 {α : Type} : Nat → Nat → List Int → List Int → Int → (Int → Option α) → (Option α) → Option α := Classical.choose spec_l5Cmp_L0.ex α
theorem spec_l5Cmp_L0.eq : @spec_l5Cmp_L0 = @spec_l5Cmp_L0.b := funext fun α => congrFun (Classical.choose_spec spec_l5Cmp_L0.ex) α
theorem spec_l5Cmp_L0.zero {α : Type} (N : Nat) (v533 : List Int) (v534 : List Int) (v535 : Int) (k0 : Int → Option α) (k1 : Option α) : spec_l5Cmp_L0 N 0 v533 v534 v535 k0 k1 = none := by rw [spec_l5Cmp_L0.eq]; rfl
theorem spec_l5Cmp_L0.succ {α : Type} (N n : Nat) (v533 : List Int) (v534 : List Int) (v535 : Int) (k0 : Int → Option α) (k1 : Option α) : spec_l5Cmp_L0 N (n + 1) v533 v534 v535 k0 k1 = spec_l5Cmp_L0r N (fun y0 y1 y2 => spec_l5Cmp_L0 N n y0 y1 y2 k0 k1) k0 k1 v533 v534 v535 := by rw [spec_l5Cmp_L0.eq]; rfl
/-- loop.example/pinfold/spec.l5Cmp -/
noncomputable def spec_l5Cmp.b {α : Type} (N : Nat) (a523 : List Int) (a524 : List Int) (k0 : Int → Option α) : Option α :=
  let x525 := ((a523.length : Nat) : Int)
  let x526 := ((a524.length : Nat) : Int)
  let x527 := decide (x525 < x526)
  bif x527 then
    k0 (-1 : Int)
  else
    let x528 := ((a523.length : Nat) : Int)
    let x529 := ((a524.length : Nat) : Int)
    let x530 := decide (x529 < x528)
    bif x530 then
      k0 (1 : Int)
    else
      let x531 := ((a523.length : Nat) : Int)
      let x532 := (IntKind.i64.wrap (x531 - (1 : Int)))
      spec_l5Cmp_L0 N N a523 a524 x532
        (fun x544 =>
          k0 x544)
        (
          k0 (0 : Int))
theorem spec_l5Cmp.ex : ∃ f : ((α : Type) → Nat → List Int → List Int → (Int → Option α) → Option α), f = fun α => @spec_l5Cmp.b α := ⟨_, rfl⟩
noncomputable def spec_l5Cmp {α : Type} : Nat → List Int → List Int → (Int → Option α) → Option α := Classical.choose spec_l5Cmp.ex α
theorem spec_l5Cmp.eq : @spec_l5Cmp = @spec_l5Cmp.b := funext fun α => congrFun (Classical.choose_spec spec_l5Cmp.ex) α

noncomputable def spec_l5DivSmall_L0r {α : Type} (N : Nat) (next : List Int → Int → Int → Int → List Int → Option α) (k0 : Int → List Int → Option α) (v557 : List Int) (v558 : Int) (v559 : Int) (v560 : Int) (v561 : List Int) : Option α :=
  let x562 := (decide ((0 : Int) ≤ v560))
  bif x562 then
    let x563 := (IntKind.i64.wrap (v559 * (65536 : Int)))
    bif (decide (v560 < (0 : Int))) then
      none
    else
      match v557[v560.toNat]? with
      | some x564 =>
        let x565 := IntKind.i64.wrap (x563 + x564)
        bif (decide (v558 = (0 : Int))) then
          none
        else
          let x566 := IntKind.i64.wrap (Int.tdiv x565 v558)
          bif (decide (v560 < (0 : Int))) then
            none
          else
            bif decide (v560.toNat < v561.length) then
              match v561[v560.toNat]? with
              | some x567 =>
                let x568 := v561.set v560.toNat x566
                bif (decide (v558 = (0 : Int))) then
                  none
                else
                  let x569 := Int.tmod x565 v558
                  let x570 := (IntKind.i64.wrap (v560 - (1 : Int)))
                  next v557 v558 x569 x570 x568
              | none => none
            else
              none
      | none => none
  else
    k0 v559 v561
noncomputable def spec_l5DivSmall_L0.b {α : Type} (N n : Nat) (v557 : List Int) (v558 : Int) (v559 : Int) (v560 : Int) (v561 : List Int) (k0 : Int → List Int → Option α) : Option α :=
  Nat.rec (motive := fun _ => List Int → Int → Int → Int → List Int → Option α) (fun _ _ _ _ _ => none) (fun _ next => spec_l5DivSmall_L0r N next k0) n v557 v558 v559 v560 v561
theorem spec_l5DivSmall_L0.ex : ∃ f : ((α : Type) → Nat → Nat → List Int → Int → Int → Int → List Int → (Int → List Int → Option α) → Option α), f = fun α => @spec_l5DivSmall_L0.b α := ⟨_, rfl⟩
noncomputable def spec_l5DivSmall_L0 {α : Type} : Nat → Nat → List Int → Int → Int → Int → List Int → (Int → List Int → Option α) → Option α := Classical.choose spec_l5DivSmall_L0.ex α
theorem spec_l5DivSmall_L0.eq : @spec_l5DivSmall_L0 = @spec_l5DivSmall_L0.b := funext fun α => congrFun (Classical.choose_spec spec_l5DivSmall_L0.ex) α
theorem spec_l5DivSmall_L0.zero {α : Type} (N : Nat) (v557 : List Int) (v558 : Int) (v559 : Int) (v560 : Int) (v561 : List Int) (k0 : Int → List Int → Option α) : spec_l5DivSmall_L0 N 0 v557 v558 v559 v560 v561 k0 = none := by rw [spec_l5DivSmall_L0.eq]; rfl
theorem spec_l5DivSmall_L0.succ {α : Type} (N n : Nat) (v557 : List Int) (v558 : Int) (v559 : Int) (v560 : Int) (v561 : List Int) (k0 : Int → List Int → Option α) : spec_l5DivSmall_L0 N (n + 1) v557 v558 v559 v560 v561 k0 = spec_l5DivSmall_L0r N (fun y0 y1 y2 y3 y4 => spec_l5DivSmall_L0 N n y0 y1 y2 y3 y4 k0) k0 v557 v558 v559 v560 v561 := by rw [spec_l5DivSmall_L0.eq]; rfl
/-- loop.example/pinfold/spec.l5DivSmall -/
noncomputable def spec_l5DivSmall.b {α : Type} (N : Nat) (a551 : List Int) (a552 : Int) (k0 : Int → List Int → Option α) : Option α :=
  let x553 := ((a551.length : Nat) : Int)
  bif (decide ((0 : Int) ≤ x553)) then
    bif decide (x553 ≤ x553) then
      bif (decide (x553 ≤ ((8796093022208 : Nat) : Int))) then
        let x554 := (List.replicate x553.toNat (0 : Int))
        let x555 := ((a551.length : Nat) : Int)
        let x556 := (IntKind.i64.wrap (x555 - (1 : Int)))
        spec_l5DivSmall_L0 N N a551 a552 (0 : Int) x556 x554
          (fun x571 x572 =>
            spec_l5Trim N x572
              (fun x573 =>
                k0 x571 x573))
      else
        none
    else
      none
  else
    none
theorem spec_l5DivSmall.ex : ∃ f : ((α : Type) → Nat → List Int → Int → (Int → List Int → Option α) → Option α), f = fun α => @spec_l5DivSmall.b α := ⟨_, rfl⟩
noncomputable def spec_l5DivSmall {α : Type} : Nat → List Int → Int → (Int → List Int → Option α) → Option α := Classical.choose spec_l5DivSmall.ex α
theorem spec_l5DivSmall.eq : @spec_l5DivSmall = @spec_l5DivSmall.b := funext fun α => congrFun (Classical.choose_spec spec_l5DivSmall.ex) α

noncomputable def spec_NatOf_L0r {α : Type} (N : Nat) (next : Int → List Int → Option α) (k0 : List Int → Option α) (v578 : Int) (v579 : List Int) : Option α :=
  let x580 := (decide ((0 : Int) < v578))
  bif x580 then
    let x581 := (Int.tmod v578 (65536 : Int))
    let x582 := IntKind.i64.wrap x581
    let x583 := [x582]
    bif decide (v579.length + x583.length ≤ 8796093022208) then
      let x584 := v579 ++ x583
      let x585 := (IntKind.u64.wrap (Int.tdiv v578 (65536 : Int)))
      next x585 x584
    else
      none
  else
    k0 v579
noncomputable def spec_NatOf_L0.b {α : Type} (N n : Nat) (v578 : Int) (v579 : List Int) (k0 : List Int → Option α) : Option α :=
  Nat.rec (motive := fun _ => Int → List Int → Option α) (fun _ _ => none) (fun _ next => spec_NatOf_L0r N next k0) n v578 v579
theorem spec_NatOf_L0.ex : ∃ f : ((α : Type) → Nat → Nat → Int → List Int → (List Int → Option α) → Option α), f = fun α => @spec_NatOf_L0.b α := ⟨_, rfl⟩
noncomputable def spec_NatOf_L0 {α : Type} : Nat → Nat → Int → List Int → (List Int → Option α) → Option α := Classical.choose spec_NatOf_L0.ex α
theorem spec_NatOf_L0.eq : @spec_NatOf_L0 = @spec_NatOf_L0.b := funext fun α => congrFun (Classical.choose_spec spec_NatOf_L0.ex) α
theorem spec_NatOf_L0.zero {α : Type} (N : Nat) (v578 : Int) (v579 : List Int) (k0 : List Int → Option α) : spec_NatOf_L0 N 0 v578 v579 k0 = none := by rw [spec_NatOf_L0.eq]; rfl
theorem spec_NatOf_L0.succ {α : Type} (N n : Nat) (v578 : Int) (v579 : List Int) (k0 : List Int → Option α) : spec_NatOf_L0 N (n + 1) v578 v579 k0 = spec_NatOf_L0r N (fun y0 y1 => spec_NatOf_L0 N n y0 y1 k0) k0 v578 v579 := by rw [spec_NatOf_L0.eq]; rfl
/-- loop.example/pinfold/spec.NatOf -/
noncomputable def spec_NatOf.b {α : Type} (N : Nat) (a577 : Int) (k0 : List Int → Option α) : Option α :=
  spec_NatOf_L0 N N a577 []
    (fun x586 =>
      k0 x586)
theorem spec_NatOf.ex : ∃ f : ((α : Type) → Nat → Int → (List Int → Option α) → Option α), f = fun α => @spec_NatOf.b α := ⟨_, rfl⟩
noncomputable def spec_NatOf {α : Type} : Nat → Int → (List Int → Option α) → Option α := Classical.choose spec_NatOf.ex α
theorem spec_NatOf.eq : @spec_NatOf = @spec_NatOf.b := funext fun α => congrFun (Classical.choose_spec spec_NatOf.ex) α

/-- loop.example/pinfold/spec.l5Times -/
noncomputable def spec_l5Times.b {α : Type} (N : Nat) (a593 : List Int) (a594 : Int) (k0 : List Int → Option α) : Option α :=
  let x595 := (decide (a594 = (0 : Int)))
  bif x595 then
    k0 []
  else
    let x596 := [a594]
    spec_l5Mul N a593 x596
      (fun x597 =>
        k0 x597)
theorem spec_l5Times.ex : ∃ f : ((α : Type) → Nat → List Int → Int → (List Int → Option α) → Option α), f = fun α => @spec_l5Times.b α := ⟨_, rfl⟩
noncomputable def spec_l5Times {α : Type} : Nat → List Int → Int → (List Int → Option α) → Option α := Classical.choose spec_l5Times.ex α
theorem spec_l5Times.eq : @spec_l5Times = @spec_l5Times.b := funext fun α => congrFun (Classical.choose_spec spec_l5Times.ex) α

noncomputable def spec_l5Top_L0r {α : Type} (N : Nat) (next : List Int → Int → List Int → Option α) (k0 : List Int → Option α) (v610 : List Int) (v611 : Int) (v612 : List Int) : Option α :=
  let x613 := ((v610.length : Nat) : Int)
  let x614 := decide (v611 < x613)
  bif x614 then
    bif (decide (v611 < (0 : Int))) then
      none
    else
      match v610[v611.toNat]? with
      | some x615 =>
        let x616 := [x615]
        bif decide (v612.length + x616.length ≤ 8796093022208) then
          let x617 := v612 ++ x616
          let x618 := (IntKind.i64.wrap (v611 + (1 : Int)))
          next v610 x618 x617
        else
          none
      | none => none
  else
    k0 v612
noncomputable def spec_l5Top_L0.b {α : Type} (N n : Nat) (v610 : List Int) (v611 : Int) (v612 : List Int) (k0 : List Int → Option α) : Option α :=
  Nat.rec (motive := fun _ => List Int → Int → List Int → Option α) (fun _ _ _ => none) (fun _ next => spec_l5Top_L0r N next k0) n v610 v611 v612
theorem spec_l5Top_L0.ex : ∃ f : ((α : Type) → Nat → Nat → List Int → Int → List Int → (List Int → Option α) → Option α), f = fun α => @spec_l5Top_L0.b α := ⟨_, rfl⟩
noncomputable def spec_l5Top_L0 {α : Type} : Nat → Nat → List Int → Int → List Int → (List Int → Option α) → Option α := Classical.choose spec_l5Top_L0.ex α
theorem spec_l5Top_L0.eq : @spec_l5Top_L0 = @spec_l5Top_L0.b := funext fun α => congrFun (Classical.choose_spec spec_l5Top_L0.ex) α
theorem spec_l5Top_L0.zero {α : Type} (N : Nat) (v610 : List Int) (v611 : Int) (v612 : List Int) (k0 : List Int → Option α) : spec_l5Top_L0 N 0 v610 v611 v612 k0 = none := by rw [spec_l5Top_L0.eq]; rfl
theorem spec_l5Top_L0.succ {α : Type} (N n : Nat) (v610 : List Int) (v611 : Int) (v612 : List Int) (k0 : List Int → Option α) : spec_l5Top_L0 N (n + 1) v610 v611 v612 k0 = spec_l5Top_L0r N (fun y0 y1 y2 => spec_l5Top_L0 N n y0 y1 y2 k0) k0 v610 v611 v612 := by rw [spec_l5Top_L0.eq]; rfl
/-- loop.example/pinfold/spec.l5Top -/
noncomputable def spec_l5Top.b {α : Type} (N : Nat) (a608 : List Int) (a609 : Int) (k0 : List Int → Option α) : Option α :=
  spec_l5Top_L0 N N a608 a609 []
    (fun x619 =>
      k0 x619)
theorem spec_l5Top.ex : ∃ f : ((α : Type) → Nat → List Int → Int → (List Int → Option α) → Option α), f = fun α => @spec_l5Top.b α := ⟨_, rfl⟩
noncomputable def spec_l5Top {α : Type} : Nat → List Int → Int → (List Int → Option α) → Option α := Classical.choose spec_l5Top.ex α
theorem spec_l5Top.eq : @spec_l5Top = @spec_l5Top.b := funext fun α => congrFun (Classical.choose_spec spec_l5Top.ex) α

/-- loop.example/pinfold/spec.l5At -/
noncomputable def spec_l5At.b {α : Type} (N : Nat) (a654 : List Int) (a655 : Int) (k0 : Int → Option α) : Option α :=
  let x656 := ((a654.length : Nat) : Int)
  let x657 := decide (a655 < x656)
  bif x657 then
    bif (decide (a655 < (0 : Int))) then
      none
    else
      match a654[a655.toNat]? with
      | some x658 =>
        k0 x658
      | none => none
  else
    k0 (0 : Int)
theorem spec_l5At.ex : ∃ f : ((α : Type) → Nat → List Int → Int → (Int → Option α) → Option α), f = fun α => @spec_l5At.b α := ⟨_, rfl⟩
noncomputable def spec_l5At {α : Type} : Nat → List Int → Int → (Int → Option α) → Option α := Classical.choose spec_l5At.ex α
theorem spec_l5At.eq : @spec_l5At = @spec_l5At.b := funext fun α => congrFun (Classical.choose_spec spec_l5At.ex) α

noncomputable def spec_l5Add_J2.b {α : Type} (N : Nat) (v638 : List Int) (v639 : List Int) (v640 : Int) (k0 : List Int → List Int → Int → Option α) : Option α :=
  let x641 := ((v639.length : Nat) : Int)
  let x642 := decide (v640 < x641)
  bif x642 then
    let x643 := ((v639.length : Nat) : Int)
    k0 v638 v639 x643
  else
    k0 v638 v639 v640
theorem spec_l5Add_J2.ex : ∃ f : ((α : Type) → Nat → List Int → List Int → Int → (List Int → List Int → Int → Option α) → Option α), f = fun α => @spec_l5Add_J2.b α := ⟨_, rfl⟩
noncomputable def spec_l5Add_J2 {α : Type} : Nat → List Int → List Int → Int → (List Int → List Int → Int → Option α) → Option α := Classical.choose spec_l5Add_J2.ex α
theorem spec_l5Add_J2.eq : @spec_l5Add_J2 = @spec_l5Add_J2.b := funext fun α => congrFun (Classical.choose_spec spec_l5Add_J2.ex) α
noncomputable def spec_l5Add_L0r {α : Type} (N : Nat) (next : List Int → List Int → Int → Int → Int → List Int → Option α) (k0 : Int → List Int → Option α) (v647 : List Int) (v648 : List Int) (v649 : Int) (v650 : Int) (v651 : Int) (v652 : List Int) : Option α :=
  let x653 := decide (v651 < v649)
  bif x653 then
    spec_l5At N v647 v651
      (fun x659 =>
        spec_l5At N v648 v651
          (fun x660 =>
            let x661 := IntKind.i64.wrap (x659 + x660)
            let x662 := IntKind.i64.wrap (x661 + v650)
            let x663 := (Int.tmod x662 (65536 : Int))
            let x664 := [x663]
            bif decide (v652.length + x664.length ≤ 8796093022208) then
              let x665 := v652 ++ x664
              let x666 := (IntKind.i64.wrap (Int.tdiv x662 (65536 : Int)))
              let x667 := (IntKind.i64.wrap (v651 + (1 : Int)))
              next v647 v648 v649 x666 x667 x665
            else
              none))
  else
    k0 v650 v652
noncomputable def spec_l5Add_L0.b {α : Type} (N n : Nat) (v647 : List Int) (v648 : List Int) (v649 : Int) (v650 : Int) (v651 : Int) (v652 : List Int) (k0 : Int → List Int → Option α) : Option α :=
  Nat.rec (motive := fun _ => List Int → List Int → Int → Int → Int → List Int → Option α) (fun _ _ _ _ _ _ => none) (fun _ next => spec_l5Add_L0r N next k0) n v647 v648 v649 v650 v651 v652
theorem spec_l5Add_L0.ex : ∃ f : ((α : Type) → Nat → Nat → List Int → List Int → Int → Int → Int → List Int → (Int → List Int → Option α) → Option α), f = fun α => @spec_l5Add_L0.b α := ⟨_, rfl⟩
noncomputable def spec_l5Add_L0 {α : Type} : Nat → Nat → List Int → List Int → Int → Int → Int → List Int → (Int → List Int → Option α) → Option α := Classical.choose spec_l5Add_L0.ex α
theorem spec_l5Add_L0.eq : @spec_l5Add_L0 = @spec_l5Add_L0.b := funext fun α => congrFun (Classical.choose_spec spec_l5Add_L0.ex) α
theorem spec_l5Add_L0.zero {α : Type} (N : Nat) (v647 : List Int) (v648 : List Int) (v649 : Int) (v650 : Int) (v651 : Int) (v652 : List Int) (k0 : Int → List Int → Option α) : spec_l5Add_L0 N 0 v647 v648 v649 v650 v651 v652 k0 = none := by rw [spec_l5Add_L0.eq]; rfl
theorem spec_l5Add_L0.succ {α : Type} (N n : Nat) (v647 : List Int) (v648 : List Int) (v649 : Int) (v650 : Int) (v651 : Int) (v652 : List Int) (k0 : Int → List Int → Option α) : spec_l5Add_L0 N (n + 1) v647 v648 v649 v650 v651 v652 k0 = spec_l5Add_L0r N (fun y0 y1 y2 y3 y4 y5 => spec_l5Add_L0 N n y0 y1 y2 y3 y4 y5 k0) k0 v647 v648 v649 v650 v651 v652 := by rw [spec_l5Add_L0.eq]; rfl
noncomputable def spec_l5Add_J12.b {α : Type} (N : Nat) (v670 : Int) (v671 : List Int) (k0 : List Int → Option α) : Option α :=
  let x672 := (decide ((0 : Int) < v670))
  bif x672 then
    let x673 := [v670]
    bif decide (v671.length + x673.length ≤ 8796093022208) then
      let x674 := v671 ++ x673
      k0 x674
    else
      none
  else
    k0 v671
theorem spec_l5Add_J12.ex : ∃ f : ((α : Type) → Nat → Int → List Int → (List Int → Option α) → Option α), f = fun α => @spec_l5Add_J12.b α := ⟨_, rfl⟩
noncomputable def spec_l5Add_J12 {α : Type} : Nat → Int → List Int → (List Int → Option α) → Option α := Classical.choose spec_l5Add_J12.ex α
theorem spec_l5Add_J12.eq : @spec_l5Add_J12 = @spec_l5Add_J12.b := funext fun α => congrFun (Classical.choose_spec spec_l5Add_J12.ex) α
/-- loop.example/pinfold/spec.l5Add -/
noncomputable def spec_l5Add.b {α : Type} (N : Nat) (a635 : List Int) (a636 : List Int) (k0 : List Int → Option α) : Option α :=
  let x637 := ((a635.length : Nat) : Int)
  spec_l5Add_J2 N a635 a636 x637
    (fun x644 x645 x646 =>
      spec_l5Add_L0 N N x644 x645 x646 (0 : Int) (0 : Int) []
        (fun x668 x669 =>
          spec_l5Add_J12 N x668 x669
            (fun x675 =>
              k0 x675)))
theorem spec_l5Add.ex : ∃ f : ((α : Type) → Nat → List Int → List Int → (List Int → Option α) → Option α), f = fun α => @spec_l5Add.b α := ⟨_, rfl⟩
noncomputable def spec_l5Add {α : Type} : Nat → List Int → List Int → (List Int → Option α) → Option α := Classical.choose spec_l5Add.ex α
theorem spec_l5Add.eq : @spec_l5Add = @spec_l5Add.b := funext fun α => congrFun (Classical.choose_spec spec_l5Add.ex) α

noncomputable def spec_l5Sub_J8.b {α : Type} (N : Nat) (v728 : List Int) (v729 : List Int) (v730 : Int) (v731 : Int) (v732 : Int) (v733 : List Int) (k0 : List Int → List Int → Int → Int → Int → List Int → Option α) : Option α :=
  let x734 := (decide (v732 < (0 : Int)))
  bif x734 then
    let x735 := (IntKind.i64.wrap (v732 + (65536 : Int)))
    k0 v728 v729 (1 : Int) v731 x735 v733
  else
    k0 v728 v729 v730 v731 v732 v733
theorem spec_l5Sub_J8.ex : ∃ f : ((α : Type) → Nat → List Int → List Int → Int → Int → Int → List Int → (List Int → List Int → Int → Int → Int → List Int → Option α) → Option α), f = fun α => @spec_l5Sub_J8.b α := ⟨_, rfl⟩
noncomputable def spec_l5Sub_J8 {α : Type} : Nat → List Int → List Int → Int → Int → Int → List Int → (List Int → List Int → Int → Int → Int → List Int → Option α) → Option α := Classical.choose spec_l5Sub_J8.ex α
theorem spec_l5Sub_J8.eq : @spec_l5Sub_J8 = @spec_l5Sub_J8.b := funext fun α => congrFun (Classical.choose_spec spec_l5Sub_J8.ex) α
noncomputable def spec_l5Sub_L0r {α : Type} (N : Nat) (next : List Int → List Int → Int → Int → List Int → Option α) (k0 : List Int → Option α) (v717 : List Int) (v718 : List Int) (v719 : Int) (v720 : Int) (v721 : List Int) : Option α :=
  let x722 := ((v717.length : Nat) : Int)
  let x723 := decide (v720 < x722)
  bif x723 then
    bif (decide (v720 < (0 : Int))) then
      none
    else
      match v717[v720.toNat]? with
      | some x724 =>
        spec_l5At N v718 v720
          (fun x725 =>
            let x726 := IntKind.i64.wrap (x724 - x725)
            let x727 := IntKind.i64.wrap (x726 - v719)
            spec_l5Sub_J8 N v717 v718 (0 : Int) v720 x727 v721
              (fun x736 x737 x738 x739 x740 x741 =>
                let x742 := [x740]
                bif decide (x741.length + x742.length ≤ 8796093022208) then
                  let x743 := x741 ++ x742
                  let x744 := (IntKind.i64.wrap (x739 + (1 : Int)))
                  next x736 x737 x738 x744 x743
                else
                  none))
      | none => none
  else
    k0 v721
noncomputable def spec_l5Sub_L0.b {α : Type} (N n : Nat) (v717 : List Int) (v718 : List Int) (v719 : Int) (v720 : Int) (v721 : List Int) (k0 : List Int → Option α) : Option α :=
  Nat.rec (motive := fun _ => List Int → List Int → Int → Int → List Int → Option α) (fun _ _ _ _ _ => none) (fun _ next => spec_l5Sub_L0r N next k0) n v717 v718 v719 v720 v721
theorem spec_l5Sub_L0.ex : ∃ f : ((α : Type) → Nat → Nat → List Int → List Int → Int → Int → List Int → (List Int → Option α) → Option α), f = fun α => @spec_l5Sub_L0.b α := ⟨_, rfl⟩
noncomputable def spec_l5Sub_L0 {α : Type} : Nat → Nat → List Int → List Int → Int → Int → List Int → (List Int → Option α) → Option α := Classical.choose spec_l5Sub_L0.ex α
theorem spec_l5Sub_L0.eq : @spec_l5Sub_L0 = @spec_l5Sub_L0.b := funext fun α => congrFun (Classical.choose_spec spec_l5Sub_L0.ex) α
theorem spec_l5Sub_L0.zero {α : Type} (N : Nat) (v717 : List Int) (v718 : List Int) (v719 : Int) (v720 : Int) (v721 : List Int) (k0 : List Int → Option α) : spec_l5Sub_L0 N 0 v717 v718 v719 v720 v721 k0 = none := by rw [spec_l5Sub_L0.eq]; rfl
theorem spec_l5Sub_L0.succ {α : Type} (N n : Nat) (v717 : List Int) (v718 : List Int) (v719 : Int) (v720 : Int) (v721 : List Int) (k0 : List Int → Option α) : spec_l5Sub_L0 N (n + 1) v717 v718 v719 v720 v721 k0 = spec_l5Sub_L0r N (fun y0 y1 y2 y3 y4 => spec_l5Sub_L0 N n y0 y1 y2 y3 y4 k0) k0 v717 v718 v719 v720 v721 := by rw [spec_l5Sub_L0.eq]; rfl
/-- loop.example/pinfold/spec.l5Sub -/
noncomputable def spec_l5Sub.b {α : Type} (N : Nat) (a715 : List Int) (a716 : List Int) (k0 : List Int → Option α) : Option α :=
  spec_l5Sub_L0 N N a715 a716 (0 : Int) (0 : Int) []
    (fun x745 =>
      spec_l5Trim N x745
        (fun x746 =>
          k0 x746))
theorem spec_l5Sub.ex : ∃ f : ((α : Type) → Nat → List Int → List Int → (List Int → Option α) → Option α), f = fun α => @spec_l5Sub.b α := ⟨_, rfl⟩
noncomputable def spec_l5Sub {α : Type} : Nat → List Int → List Int → (List Int → Option α) → Option α := Classical.choose spec_l5Sub.ex α
theorem spec_l5Sub.eq : @spec_l5Sub = @spec_l5Sub.b := funext fun α => congrFun (Classical.choose_spec spec_l5Sub.ex) α

noncomputable def spec_l5Div_J17.b {α : Type} (N : Nat) (v686 : Int) (v687 : Int) (v688 : Int) (v689 : Int) (v690 : List Int) (v691 : List Int) (v692 : List Int) (v693 : List Int) (k0 : Int → Int → Int → Int → List Int → List Int → List Int → List Int → Option α) : Option α :=
  let x694 := (decide ((65536 : Int) ≤ v689))
  bif x694 then
    k0 v686 v687 v688 (65535 : Int) v690 v691 v692 v693
  else
    k0 v686 v687 v688 v689 v690 v691 v692 v693
theorem spec_l5Div_J17.ex : ∃ f : ((α : Type) → Nat → Int → Int → Int → Int → List Int → List Int → List Int → List Int → (Int → Int → Int → Int → List Int → List Int → List Int → List Int → Option α) → Option α), f = fun α => @spec_l5Div_J17.b α := ⟨_, rfl⟩
noncomputable def spec_l5Div_J17 {α : Type} : Nat → Int → Int → Int → Int → List Int → List Int → List Int → List Int → (Int → Int → Int → Int → List Int → List Int → List Int → List Int → Option α) → Option α := Classical.choose spec_l5Div_J17.ex α
theorem spec_l5Div_J17.eq : @spec_l5Div_J17 = @spec_l5Div_J17.b := funext fun α => congrFun (Classical.choose_spec spec_l5Div_J17.ex) α
noncomputable def spec_l5Div_L2r {α : Type} (N : Nat) (next : Int → Int → Int → Int → List Int → List Int → List Int → List Int → List Int → Option α) (k0 : Int → Int → Int → Int → List Int → List Int → List Int → List Int → List Int → Option α) (v704 : Int) (v705 : Int) (v706 : Int) (v707 : Int) (v708 : List Int) (v709 : List Int) (v710 : List Int) (v711 : List Int) (v712 : List Int) : Option α :=
  spec_l5Cmp N v712 v711
    (fun x713 =>
      let x714 := (decide ((0 : Int) < x713))
      bif x714 then
        spec_l5Sub N v712 v709
          (fun x747 =>
            let x748 := (IntKind.i64.wrap (v707 - (1 : Int)))
            next v704 v705 v706 x748 v708 v709 v710 v711 x747)
      else
        k0 v704 v705 v706 v707 v708 v709 v710 v711 v712)
noncomputable def spec_l5Div_L2.b {α : Type} (N n : Nat) (v704 : Int) (v705 : Int) (v706 : Int) (v707 : Int) (v708 : List Int) (v709 : List Int) (v710 : List Int) (v711 : List Int) (v712 : List Int) (k0 : Int → Int → Int → Int → List Int → List Int → List Int → List Int → List Int → Option α) : Option α :=
  Nat.rec (motive := fun _ => Int → Int → Int → Int → List Int → List Int → List Int → List Int → List Int → Option α) (fun _ _ _ _ _ _ _ _ _ => none) (fun _ next => spec_l5Div_L2r N next k0) n v704 v705 v706 v707 v708 v709 v710 v711 v712
theorem spec_l5Div_L2.ex : ∃ f : ((α : Type) → Nat → Nat → Int → Int → Int → Int → List Int → List Int → List Int → List Int → List Int → (Int → Int → Int → Int → List Int → List Int → List Int → List Int → List Int → Option α) → Option α), f = fun α => @spec_l5Div_L2.b α := ⟨_, rfl⟩
noncomputable def spec_l5Div_L2 {α : Type} : Nat → Nat → Int → Int → Int → Int → List Int → List Int → List Int → List Int → List Int → (Int → Int → Int → Int → List Int → List Int → List Int → List Int → List Int → Option α) → Option α := Classical.choose spec_l5Div_L2.ex α
theorem spec_l5Div_L2.eq : @spec_l5Div_L2 = @spec_l5Div_L2.b := funext fun α => congrFun (Classical.choose_spec spec_l5Div_L2.ex) α
theorem spec_l5Div_L2.zero {α : Type} (N : Nat) (v704 : Int) (v705 : Int) (v706 : Int) (v707 : Int) (v708 : List Int) (v709 : List Int) (v710 : List Int) (v711 : List Int) (v712 : List Int) (k0 : Int → Int → Int → Int → List Int → List Int → List Int → List Int → List Int → Option α) : spec_l5Div_L2 N 0 v704 v705 v706 v707 v708 v709 v710 v711 v712 k0 = none := by rw [spec_l5Div_L2.eq]; rfl
theorem spec_l5Div_L2.succ {α : Type} (N n : Nat) (v704 : Int) (v705 : Int) (v706 : Int) (v707 : Int) (v708 : List Int) (v709 : List Int) (v710 : List Int) (v711 : List Int) (v712 : List Int) (k0 : Int → Int → Int → Int → List Int → List Int → List Int → List Int → List Int → Option α) : spec_l5Div_L2 N (n + 1) v704 v705 v706 v707 v708 v709 v710 v711 v712 k0 = spec_l5Div_L2r N (fun y0 y1 y2 y3 y4 y5 y6 y7 y8 => spec_l5Div_L2 N n y0 y1 y2 y3 y4 y5 y6 y7 y8 k0) k0 v704 v705 v706 v707 v708 v709 v710 v711 v712 := by rw [spec_l5Div_L2.eq]; rfl
noncomputable def spec_l5Div_L0r {α : Type} (N : Nat) (next : Int → Int → Int → List Int → List Int → List Int → List Int → Option α) (k0 : Int → List Int → List Int → Option α) (v623 : Int) (v624 : Int) (v625 : Int) (v626 : List Int) (v627 : List Int) (v628 : List Int) (v629 : List Int) : Option α :=
  let x630 := (decide ((0 : Int) ≤ v625))
  bif x630 then
    spec_l5Shl N v629 (1 : Int)
      (fun x631 =>
        bif (decide (v625 < (0 : Int))) then
          none
        else
          bif decide (v625.toNat < v626.length) then
            match v626[v625.toNat]? with
            | some x632 =>
              let x633 := IntKind.u64.wrap x632
              spec_NatOf N x633
                (fun x634 =>
                  spec_l5Add N x631 x634
                    (fun x676 =>
                      spec_l5Trim N x676
                        (fun x677 =>
                          spec_l5At N x677 v624
                            (fun x678 =>
                              let x679 := (IntKind.i64.wrap (x678 * (65536 : Int)))
                              let x680 := (IntKind.i64.wrap (v624 - (1 : Int)))
                              spec_l5At N x677 x680
                                (fun x681 =>
                                  let x682 := IntKind.i64.wrap (x679 + x681)
                                  let x683 := (IntKind.i64.wrap (v624 - (1 : Int)))
                                  bif (decide (x683 < (0 : Int))) then
                                    none
                                  else
                                    bif decide (x683.toNat < v627.length) then
                                      match v627[x683.toNat]? with
                                      | some x684 =>
                                        bif (decide (x684 = (0 : Int))) then
                                          none
                                        else
                                          let x685 := IntKind.i64.wrap (Int.tdiv x682 x684)
                                          spec_l5Div_J17 N v623 v624 v625 x685 v626 v627 v628 x677
                                            (fun x695 x696 x697 x698 x699 x700 x701 x702 =>
                                              spec_l5Times N x700 x698
                                                (fun x703 =>
                                                  spec_l5Div_L2 N N x695 x696 x697 x698 x699 x700 x701 x702 x703
                                                    (fun x749 x750 x751 x752 x753 x754 x755 x756 x757 =>
                                                      bif (decide (x751 < (0 : Int))) then
                                                        none
                                                      else
                                                        bif decide (x751.toNat < x755.length) then
                                                          match x755[x751.toNat]? with
                                                          | some x758 =>
                                                            let x759 := x755.set x751.toNat x752
                                                            spec_l5Sub N x756 x757
                                                              (fun x760 =>
                                                                let x761 := (IntKind.i64.wrap (x751 - (1 : Int)))
                                                                next x749 x750 x761 x753 x754 x759 x760)
                                                          | none => none
                                                        else
                                                          none)))
                                      | none => none
                                    else
                                      none)))))
            | none => none
          else
            none)
  else
    k0 v623 v628 v629
noncomputable def spec_l5Div_L0.b {α : Type} (N n : Nat) (v623 : Int) (v624 : Int) (v625 : Int) (v626 : List Int) (v627 : List Int) (v628 : List Int) (v629 : List Int) (k0 : Int → List Int → List Int → Option α) : Option α :=
  Nat.rec (motive := fun _ => Int → Int → Int → List Int → List Int → List Int → List Int → Option α) (fun _ _ _ _ _ _ _ => none) (fun _ next => spec_l5Div_L0r N next k0) n v623 v624 v625 v626 v627 v628 v629
theorem spec_l5Div_L0.ex : ∃ f : ((α : Type) → Nat → Nat → Int → Int → Int → List Int → List Int → List Int → List Int → (Int → List Int → List Int → Option α) → Option α), f = fun α => @spec_l5Div_L0.b α := ⟨_, rfl⟩
noncomputable def spec_l5Div_L0 {α : Type} : Nat → Nat → Int → Int → Int → List Int → List Int → List Int → List Int → (Int → List Int → List Int → Option α) → Option α := Classical.choose spec_l5Div_L0.ex α
theorem spec_l5Div_L0.eq : @spec_l5Div_L0 = @spec_l5Div_L0.b := funext fun α => congrFun (Classical.choose_spec spec_l5Div_L0.ex) α
theorem spec_l5Div_L0.zero {α : Type} (N : Nat) (v623 : Int) (v624 : Int) (v625 : Int) (v626 : List Int) (v627 : List Int) (v628 : List Int) (v629 : List Int) (k0 : Int → List Int → List Int → Option α) : spec_l5Div_L0 N 0 v623 v624 v625 v626 v627 v628 v629 k0 = none := by rw [spec_l5Div_L0.eq]; rfl
theorem spec_l5Div_L0.succ {α : Type} (N n : Nat) (v623 : Int) (v624 : Int) (v625 : Int) (v626 : List Int) (v627 : List Int) (v628 : List Int) (v629 : List Int) (k0 : Int → List Int → List Int → Option α) : spec_l5Div_L0 N (n + 1) v623 v624 v625 v626 v627 v628 v629 k0 = spec_l5Div_L0r N (fun y0 y1 y2 y3 y4 y5 y6 => spec_l5Div_L0 N n y0 y1 y2 y3 y4 y5 y6 k0) k0 v623 v624 v625 v626 v627 v628 v629 := by rw [spec_l5Div_L0.eq]; rfl
/-- loop.example/pinfold/spec.l5Div -/
noncomputable def spec_l5Div.b {α : Type} (N : Nat) (a521 : List Int) (a522 : List Int) (k0 : List Int → List Int → Option α) : Option α :=
  spec_l5Cmp N a521 a522
    (fun x545 =>
      let x546 := (decide (x545 < (0 : Int)))
      bif x546 then
        spec_l5Trim N a521
          (fun x547 =>
            k0 [] x547)
      else
        let x548 := ((a522.length : Nat) : Int)
        let x549 := (decide (x548 = (1 : Int)))
        bif x549 then
          match a522[0]? with
          | some x550 =>
            spec_l5DivSmall N a521 x550
              (fun x574 x575 =>
                let x576 := IntKind.u64.wrap x574
                spec_NatOf N x576
                  (fun x587 =>
                    k0 x575 x587))
          | none => none
        else
          let x588 := ((a522.length : Nat) : Int)
          let x589 := (IntKind.i64.wrap (x588 - (1 : Int)))
          bif (decide (x589 < (0 : Int))) then
            none
          else
            match a522[x589.toNat]? with
            | some x590 =>
              let x591 := (IntKind.i64.wrap (x590 + (1 : Int)))
              bif (decide (x591 = (0 : Int))) then
                none
              else
                let x592 := (IntKind.i64.wrap (Int.tdiv (65536 : Int) x591))
                spec_l5Times N a521 x592
                  (fun x598 =>
                    spec_l5Times N a522 x592
                      (fun x599 =>
                        let x600 := ((x599.length : Nat) : Int)
                        let x601 := ((x598.length : Nat) : Int)
                        let x602 := IntKind.i64.wrap (x601 - x600)
                        let x603 := (IntKind.i64.wrap (x602 + (1 : Int)))
                        bif (decide ((0 : Int) ≤ x603)) then
                          bif decide (x603 ≤ x603) then
                            bif (decide (x603 ≤ ((8796093022208 : Nat) : Int))) then
                              let x604 := (List.replicate x603.toNat (0 : Int))
                              let x605 := ((x598.length : Nat) : Int)
                              let x606 := IntKind.i64.wrap (x605 - x600)
                              let x607 := (IntKind.i64.wrap (x606 + (1 : Int)))
                              spec_l5Top N x598 x607
                                (fun x620 =>
                                  let x621 := ((x598.length : Nat) : Int)
                                  let x622 := IntKind.i64.wrap (x621 - x600)
                                  spec_l5Div_L0 N N x592 x600 x622 x598 x599 x604 x620
                                    (fun x762 x763 x764 =>
                                      spec_l5DivSmall N x764 x762
                                        (fun _ x766 =>
                                          spec_l5Trim N x763
                                            (fun x767 =>
                                              k0 x767 x766))))
                            else
                              none
                          else
                            none
                        else
                          none))
            | none => none)
theorem spec_l5Div.ex : ∃ f : ((α : Type) → Nat → List Int → List Int → (List Int → List Int → Option α) → Option α), f = fun α => @spec_l5Div.b α := ⟨_, rfl⟩
noncomputable def spec_l5Div {α : Type} : Nat → List Int → List Int → (List Int → List Int → Option α) → Option α := Classical.choose spec_l5Div.ex α
theorem spec_l5Div.eq : @spec_l5Div = @spec_l5Div.b := funext fun α => congrFun (Classical.choose_spec spec_l5Div.ex) α

/-- loop.example/pinfold/spec.l5Shift -/
noncomputable def spec_l5Shift.b {α : Type} (N : Nat) (a426 : List Int) (a427 : Int) (k0 : List Int → Option α) : Option α :=
  let x428 := (decide ((0 : Int) ≤ a427))
  bif x428 then
    spec_l5Pow2 N a427
      (fun x451 =>
        spec_l5Mul N a426 x451
          (fun x518 =>
            k0 x518))
  else
    let x519 := IntKind.i64.wrap (0 - a427)
    spec_l5Pow2 N x519
      (fun x520 =>
        spec_l5Div N a426 x520
          (fun x768 _ =>
            k0 x768))
theorem spec_l5Shift.ex : ∃ f : ((α : Type) → Nat → List Int → Int → (List Int → Option α) → Option α), f = fun α => @spec_l5Shift.b α := ⟨_, rfl⟩
noncomputable def spec_l5Shift {α : Type} : Nat → List Int → Int → (List Int → Option α) → Option α := Classical.choose spec_l5Shift.ex α
theorem spec_l5Shift.eq : @spec_l5Shift = @spec_l5Shift.b := funext fun α => congrFun (Classical.choose_spec spec_l5Shift.ex) α

/-- loop.example/pinfold/spec.l5Fits -/
noncomputable def spec_l5Fits.b {α : Type} (N : Nat) (a774 : List Int) (k0 : List Int → Bool → Option α) : Option α :=
  let x775 := ((a774.length : Nat) : Int)
  let x776 := (decide ((256 : Int) < x775))
  bif x776 then
    k0 [] false
  else
    k0 a774 true
theorem spec_l5Fits.ex : ∃ f : ((α : Type) → Nat → List Int → (List Int → Bool → Option α) → Option α), f = fun α => @spec_l5Fits.b α := ⟨_, rfl⟩
noncomputable def spec_l5Fits {α : Type} : Nat → List Int → (List Int → Bool → Option α) → Option α := Classical.choose spec_l5Fits.ex α
theorem spec_l5Fits.eq : @spec_l5Fits = @spec_l5Fits.b := funext fun α => congrFun (Classical.choose_spec spec_l5Fits.ex) α

/-- loop.example/pinfold/spec.NatShift -/
noncomputable def spec_NatShift.b {α : Type} (N : Nat) (a399 : List Int) (a400 : Int) (k0 : List Int → Bool → Option α) : Option α :=
  spec_NatOk N a399
    (fun x421 =>
      let x422 := !x421
      bif x422 then
        k0 [] false
      else
        let x423 := (IntKind.i64.wrap (0 - (4096 : Int)))
        let x424 := decide (a400 < x423)
        bif x424 then
          k0 [] false
        else
          let x425 := (decide ((4096 : Int) < a400))
          bif x425 then
            k0 [] false
          else
            spec_l5Shift N a399 a400
              (fun x770 =>
                spec_l5Fits N x770
                  (fun x777 x778 =>
                    k0 x777 x778)))
theorem spec_NatShift.ex : ∃ f : ((α : Type) → Nat → List Int → Int → (List Int → Bool → Option α) → Option α), f = fun α => @spec_NatShift.b α := ⟨_, rfl⟩
noncomputable def spec_NatShift {α : Type} : Nat → List Int → Int → (List Int → Bool → Option α) → Option α := Classical.choose spec_NatShift.ex α
theorem spec_NatShift.eq : @spec_NatShift = @spec_NatShift.b := funext fun α => congrFun (Classical.choose_spec spec_NatShift.ex) α

/-- loop.example/pinfold/impl.in -/
noncomputable def impl_in.b {α : Type} (N : Nat) (a798 : Int) (a799 : Int) (a800 : Int) (k0 : Bool → Option α) : Option α :=
  let x801 := decide (a799 ≤ a798)
  bif x801 then
    let x802 := decide (a798 ≤ a800)
    k0 x802
  else
    k0 false
theorem impl_in.ex : ∃ f : ((α : Type) → Nat → Int → Int → Int → (Bool → Option α) → Option α), f = fun α => @impl_in.b α := ⟨_, rfl⟩
noncomputable def impl_in {α : Type} : Nat → Int → Int → Int → (Bool → Option α) → Option α := Classical.choose impl_in.ex α
theorem impl_in.eq : @impl_in = @impl_in.b := funext fun α => congrFun (Classical.choose_spec impl_in.ex) α

/-- loop.example/pinfold/impl.NatOk$1 -/
noncomputable def impl_NatOk_1.b {α : Type} (N : Nat) (a797 : Int) (k0 : Bool → Option α) : Option α :=
  impl_in N a797 (0 : Int) (65535 : Int)
    (fun x803 =>
      let x804 := !x803
      k0 x804)
theorem impl_NatOk_1.ex : ∃ f : ((α : Type) → Nat → Int → (Bool → Option α) → Option α), f = fun α => @impl_NatOk_1.b α := ⟨_, rfl⟩
noncomputable def impl_NatOk_1 {α : Type} : Nat → Int → (Bool → Option α) → Option α := Classical.choose impl_NatOk_1.ex α
theorem impl_NatOk_1.eq : @impl_NatOk_1 = @impl_NatOk_1.b := funext fun α => congrFun (Classical.choose_spec impl_NatOk_1.ex) α

noncomputable def slices_IndexFunc_int_int__impl_NatOk_1_L0r {α : Type} (N : Nat) (next : List Int → Int → Int → Option α) (k0 : Int → Option α) (k1 : Option α) (v792 : List Int) (v793 : Int) (v794 : Int) : Option α :=
  let x795 := decide (v794 < v793)
  bif x795 then
    bif (decide (v794 < (0 : Int))) then
      none
    else
      match v792[v794.toNat]? with
      | some x796 =>
        impl_NatOk_1 N x796
          (fun x805 =>
            bif x805 then
              k0 v794
            else
              let x806 := (IntKind.i64.wrap (v794 + (1 : Int)))
              next v792 v793 x806)
      | none => none
  else
    k1
noncomputable def slices_IndexFunc_int_int__impl_NatOk_1_L0.b {α : Type} (N n : Nat) (v792 : List Int) (v793 : Int) (v794 : Int) (k0 : Int → Option α) (k1 : Option α) : Option α :=
  Nat.rec (motive := fun _ => List Int → Int → Int → Option α) (fun _ _ _ => none) (fun _ next => slices_IndexFunc_int_int__impl_NatOk_1_L0r N next k0 k1) n v792 v793 v794
theorem slices_IndexFunc_int_int__impl_NatOk_1_L0.ex : ∃ f : ((α : Type) → Nat → Nat → List Int → Int → Int → (Int → Option α) → (Option α) → Option α), f = fun α => @slices_IndexFunc_int_int__impl_NatOk_1_L0.b α := ⟨_, rfl⟩
noncomputable def slices_IndexFunc_int_int__impl_NatOk_1_L0 {α : Type} : Nat → Nat → List Int → Int → Int → (Int → Option α) → (Option α) → Option α := Classical.choose slices_IndexFunc_int_int__impl_NatOk_1_L0.ex α
theorem slices_IndexFunc_int_int__impl_NatOk_1_L0.eq : @slices_IndexFunc_int_int__impl_NatOk_1_L0 = @slices_IndexFunc_int_int__impl_NatOk_1_L0.b := funext fun α => congrFun (Classical.choose_spec slices_IndexFunc_int_int__impl_NatOk_1_L0.ex) α
theorem slices_IndexFunc_int_int__impl_NatOk_1_L0.zero {α : Type} (N : Nat) (v792 : List Int) (v793 : Int) (v794 : Int) (k0 : Int → Option α) (k1 : Option α) : slices_IndexFunc_int_int__impl_NatOk_1_L0 N 0 v792 v793 v794 k0 k1 = none := by rw [slices_IndexFunc_int_int__impl_NatOk_1_L0.eq]; rfl
theorem slices_IndexFunc_int_int__impl_NatOk_1_L0.succ {α : Type} (N n : Nat) (v792 : List Int) (v793 : Int) (v794 : Int) (k0 : Int → Option α) (k1 : Option α) : slices_IndexFunc_int_int__impl_NatOk_1_L0 N (n + 1) v792 v793 v794 k0 k1 = slices_IndexFunc_int_int__impl_NatOk_1_L0r N (fun y0 y1 y2 => slices_IndexFunc_int_int__impl_NatOk_1_L0 N n y0 y1 y2 k0 k1) k0 k1 v792 v793 v794 := by rw [slices_IndexFunc_int_int__impl_NatOk_1_L0.eq]; rfl
/-- slices.IndexFunc[[]int,int] -/
noncomputable def slices_IndexFunc_int_int__impl_NatOk_1.b {α : Type} (N : Nat) (a790 : List Int) (k0 : Int → Option α) : Option α :=
  let x791 := ((a790.length : Nat) : Int)
  slices_IndexFunc_int_int__impl_NatOk_1_L0 N N a790 x791 (0 : Int)
    (fun x807 =>
      k0 x807)
    (
      k0 (-1 : Int))
theorem slices_IndexFunc_int_int__impl_NatOk_1.ex : ∃ f : ((α : Type) → Nat → List Int → (Int → Option α) → Option α), f = fun α => @slices_IndexFunc_int_int__impl_NatOk_1.b α := ⟨_, rfl⟩
noncomputable def slices_IndexFunc_int_int__impl_NatOk_1 {α : Type} : Nat → List Int → (Int → Option α) → Option α := Classical.choose slices_IndexFunc_int_int__impl_NatOk_1.ex α
theorem slices_IndexFunc_int_int__impl_NatOk_1.eq : @slices_IndexFunc_int_int__impl_NatOk_1 = @slices_IndexFunc_int_int__impl_NatOk_1.b := funext fun α => congrFun (Classical.choose_spec slices_IndexFunc_int_int__impl_NatOk_1.ex) α

/-- slices.ContainsFunc[[]int,int] -/
noncomputable def slices_ContainsFunc_int_int__impl_NatOk_1.b {α : Type} (N : Nat) (a789 : List Int) (k0 : Bool → Option α) : Option α :=
  slices_IndexFunc_int_int__impl_NatOk_1 N a789
    (fun x808 =>
      let x809 := (decide ((0 : Int) ≤ x808))
      k0 x809)
theorem slices_ContainsFunc_int_int__impl_NatOk_1.ex : ∃ f : ((α : Type) → Nat → List Int → (Bool → Option α) → Option α), f = fun α => @slices_ContainsFunc_int_int__impl_NatOk_1.b α := ⟨_, rfl⟩
noncomputable def slices_ContainsFunc_int_int__impl_NatOk_1 {α : Type} : Nat → List Int → (Bool → Option α) → Option α := Classical.choose slices_ContainsFunc_int_int__impl_NatOk_1.ex α
theorem slices_ContainsFunc_int_int__impl_NatOk_1.eq : @slices_ContainsFunc_int_int__impl_NatOk_1 = @slices_ContainsFunc_int_int__impl_NatOk_1.b := funext fun α => congrFun (Classical.choose_spec slices_ContainsFunc_int_int__impl_NatOk_1.ex) α

/-- loop.example/pinfold/impl.NatOk -/
noncomputable def impl_NatOk.b {α : Type} (N : Nat) (a784 : List Int) (k0 : Bool → Option α) : Option α :=
  let x785 := ((a784.length : Nat) : Int)
  let x786 := (decide (x785 ≤ (256 : Int)))
  bif x786 then
    let x787 := ((a784.length : Nat) : Int)
    let x788 := (decide (x787 = (0 : Int)))
    bif x788 then
      slices_ContainsFunc_int_int__impl_NatOk_1 N a784
        (fun x810 =>
          let x811 := !x810
          k0 x811)
    else
      let x812 := ((a784.length : Nat) : Int)
      let x813 := (IntKind.i64.wrap (x812 - (1 : Int)))
      bif (decide (x813 < (0 : Int))) then
        none
      else
        match a784[x813.toNat]? with
        | some x814 =>
          let x815 := (!(decide (x814 = (0 : Int))))
          bif x815 then
            slices_ContainsFunc_int_int__impl_NatOk_1 N a784
              (fun x816 =>
                let x817 := !x816
                k0 x817)
          else
            k0 false
        | none => none
  else
    k0 false
theorem impl_NatOk.ex : ∃ f : ((α : Type) → Nat → List Int → (Bool → Option α) → Option α), f = fun α => @impl_NatOk.b α := ⟨_, rfl⟩
noncomputable def impl_NatOk {α : Type} : Nat → List Int → (Bool → Option α) → Option α := Classical.choose impl_NatOk.ex α
theorem impl_NatOk.eq : @impl_NatOk = @impl_NatOk.b := funext fun α => congrFun (Classical.choose_spec impl_NatOk.ex) α

/-- slices.Clone[[]int,int] -/
noncomputable def slices_Clone_int_int {α : Type} (N : Nat) (a1 : List Int) (k0 : List Int → Option α) : Option α :=
  bif decide (([] : List Int).length + a1.length ≤ 8796093022208) then k0 a1 else none

noncomputable def impl_trim_L0r {α : Type} (N : Nat) (next : List Int → Option α) (k0 : List Int → Option α) (v940 : List Int) : Option α :=
  let x941 := ((v940.length : Nat) : Int)
  let x942 := (decide ((0 : Int) < x941))
  bif x942 then
    let x943 := ((v940.length : Nat) : Int)
    let x944 := (IntKind.i64.wrap (x943 - (1 : Int)))
    bif (decide (x944 < (0 : Int))) then
      none
    else
      match v940[x944.toNat]? with
      | some x945 =>
        let x946 := (decide (x945 = (0 : Int)))
        bif x946 then
          let x947 := ((v940.length : Nat) : Int)
          let x948 := (IntKind.i64.wrap (x947 - (1 : Int)))
          bif (decide ((0 : Int) ≤ x948)) then
            bif (decide (x948 ≤ ((v940.length : Nat) : Int))) then
              let x949 := v940.take x948.toNat
              next x949
            else
              none
          else
            none
        else
          k0 v940
      | none => none
  else
    k0 v940
noncomputable def impl_trim_L0.b {α : Type} (N n : Nat) (v940 : List Int) (k0 : List Int → Option α) : Option α :=
  Nat.rec (motive := fun _ => List Int → Option α) (fun _ => none) (fun _ next => impl_trim_L0r N next k0) n v940
theorem impl_trim_L0.ex : ∃ f : ((α : Type) → Nat → Nat → List Int → (List Int → Option α) → Option α), f = fun α => @impl_trim_L0.b α := ⟨_, rfl⟩
noncomputable def impl_trim_L0 {α : Type} : Nat → Nat → List Int → (List Int → Option α) → Option α := Classical.choose impl_trim_L0.ex α
theorem impl_trim_L0.eq : @impl_trim_L0 = @impl_trim_L0.b := funext fun α => congrFun (Classical.choose_spec impl_trim_L0.ex) α
theorem impl_trim_L0.zero {α : Type} (N : Nat) (v940 : List Int) (k0 : List Int → Option α) : impl_trim_L0 N 0 v940 k0 = none := by rw [impl_trim_L0.eq]; rfl
theorem impl_trim_L0.succ {α : Type} (N n : Nat) (v940 : List Int) (k0 : List Int → Option α) : impl_trim_L0 N (n + 1) v940 k0 = impl_trim_L0r N (fun y0 => impl_trim_L0 N n y0 k0) k0 v940 := by rw [impl_trim_L0.eq]; rfl
/-- loop.example/pinfold/impl.trim -/
noncomputable def impl_trim.b {α : Type} (N : Nat) (a939 : List Int) (k0 : List Int → Option α) : Option α :=
  impl_trim_L0 N N a939
    (fun x950 =>
      k0 x950)
theorem impl_trim.ex : ∃ f : ((α : Type) → Nat → List Int → (List Int → Option α) → Option α), f = fun α => @impl_trim.b α := ⟨_, rfl⟩
noncomputable def impl_trim {α : Type} : Nat → List Int → (List Int → Option α) → Option α := Classical.choose impl_trim.ex α
theorem impl_trim.eq : @impl_trim = @impl_trim.b := funext fun α => congrFun (Classical.choose_spec impl_trim.ex) α

noncomputable def impl_natShift_J10.b {α : Type} (N : Nat) (v910 : List Int) (v911 : Int) (v912 : Int) (v913 : Int) (v914 : Int) (v915 : Int) (v916 : List Int) (k0 : List Int → Int → Int → Int → Int → List Int → Option α) : Option α :=
  let x917 := IntKind.i64.wrap (v911 + v913)
  let x918 := (IntKind.i64.wrap (x917 + (1 : Int)))
  let x919 := ((v910.length : Nat) : Int)
  let x920 := decide (x918 < x919)
  bif x920 then
    bif (decide (v913 < (0 : Int))) then
      none
    else
      bif decide (v913.toNat < v916.length) then
        match v916[v913.toNat]? with
        | some x921 =>
          let x922 := IntKind.i64.wrap (v911 + v913)
          let x923 := (IntKind.i64.wrap (x922 + (1 : Int)))
          bif (decide (x923 < (0 : Int))) then
            none
          else
            match v910[x923.toNat]? with
            | some x924 =>
              let x925 := (IntKind.i64.wrap ((16 : Int) - v912))
              bif (decide (x925 < (0 : Int))) then
                none
              else
                let x926 := shlI .i64 x924 x925
                let x927 := (bitI .and .i64 x926 (65535 : Int))
                let x928 := bitI .or .i64 x921 x927
                bif (decide (v913 < (0 : Int))) then
                  none
                else
                  bif decide (v913.toNat < v916.length) then
                    match v916[v913.toNat]? with
                    | some x929 =>
                      let x930 := v916.set v913.toNat x928
                      k0 v910 v911 v912 v914 v915 x930
                    | none => none
                  else
                    none
            | none => none
        | none => none
      else
        none
  else
    k0 v910 v911 v912 v914 v915 v916
theorem impl_natShift_J10.ex : ∃ f : ((α : Type) → Nat → List Int → Int → Int → Int → Int → Int → List Int → (List Int → Int → Int → Int → Int → List Int → Option α) → Option α), f = fun α => @impl_natShift_J10.b α := ⟨_, rfl⟩
noncomputable def impl_natShift_J10 {α : Type} : Nat → List Int → Int → Int → Int → Int → Int → List Int → (List Int → Int → Int → Int → Int → List Int → Option α) → Option α := Classical.choose impl_natShift_J10.ex α
theorem impl_natShift_J10.eq : @impl_natShift_J10 = @impl_natShift_J10.b := funext fun α => congrFun (Classical.choose_spec impl_natShift_J10.ex) α
noncomputable def impl_natShift_L0r {α : Type} (N : Nat) (next : List Int → Int → Int → Int → Int → List Int → Option α) (k0 : List Int → Option α) (v899 : List Int) (v900 : Int) (v901 : Int) (v902 : Int) (v903 : Int) (v904 : List Int) : Option α :=
  let x905 := decide (v903 < v902)
  bif x905 then
    bif (decide (v903 < (0 : Int))) then
      none
    else
      bif decide (v903.toNat < v904.length) then
        match v904[v903.toNat]? with
        | some x906 =>
          bif (decide (v901 < (0 : Int))) then
            none
          else
            let x907 := shrI .i64 x906 v901
            bif (decide (v903 < (0 : Int))) then
              none
            else
              bif decide (v903.toNat < v904.length) then
                match v904[v903.toNat]? with
                | some x908 =>
                  let x909 := v904.set v903.toNat x907
                  impl_natShift_J10 N v899 v900 v901 v903 v902 v903 x909
                    (fun x931 x932 x933 x934 x935 x936 =>
                      let x937 := (IntKind.i64.wrap (x935 + (1 : Int)))
                      next x931 x932 x933 x934 x937 x936)
                | none => none
              else
                none
        | none => none
      else
        none
  else
    k0 v904
noncomputable def impl_natShift_L0.b {α : Type} (N n : Nat) (v899 : List Int) (v900 : Int) (v901 : Int) (v902 : Int) (v903 : Int) (v904 : List Int) (k0 : List Int → Option α) : Option α :=
  Nat.rec (motive := fun _ => List Int → Int → Int → Int → Int → List Int → Option α) (fun _ _ _ _ _ _ => none) (fun _ next => impl_natShift_L0r N next k0) n v899 v900 v901 v902 v903 v904
theorem impl_natShift_L0.ex : ∃ f : ((α : Type) → Nat → Nat → List Int → Int → Int → Int → Int → List Int → (List Int → Option α) → Option α), f = fun α => @impl_natShift_L0.b α := ⟨_, rfl⟩
noncomputable def impl_natShift_L0 {α : Type} : Nat → Nat → List Int → Int → Int → Int → Int → List Int → (List Int → Option α) → Option α := Classical.choose impl_natShift_L0.ex α
theorem impl_natShift_L0.eq : @impl_natShift_L0 = @impl_natShift_L0.b := funext fun α => congrFun (Classical.choose_spec impl_natShift_L0.ex) α
theorem impl_natShift_L0.zero {α : Type} (N : Nat) (v899 : List Int) (v900 : Int) (v901 : Int) (v902 : Int) (v903 : Int) (v904 : List Int) (k0 : List Int → Option α) : impl_natShift_L0 N 0 v899 v900 v901 v902 v903 v904 k0 = none := by rw [impl_natShift_L0.eq]; rfl
theorem impl_natShift_L0.succ {α : Type} (N n : Nat) (v899 : List Int) (v900 : Int) (v901 : Int) (v902 : Int) (v903 : Int) (v904 : List Int) (k0 : List Int → Option α) : impl_natShift_L0 N (n + 1) v899 v900 v901 v902 v903 v904 k0 = impl_natShift_L0r N (fun y0 y1 y2 y3 y4 y5 => impl_natShift_L0 N n y0 y1 y2 y3 y4 y5 k0) k0 v899 v900 v901 v902 v903 v904 := by rw [impl_natShift_L0.eq]; rfl
noncomputable def impl_natShift_L2r {α : Type} (N : Nat) (next : Int → List Int → Int → Int → List Int → Option α) (k0 : List Int → Option α) (v958 : Int) (v959 : List Int) (v960 : Int) (v961 : Int) (v962 : List Int) : Option α :=
  let x963 := decide (v961 < v960)
  bif x963 then
    bif (decide (v961 < (0 : Int))) then
      none
    else
      match v959[v961.toNat]? with
      | some x964 =>
        let x965 := (Int.tmod v958 (16 : Int))
        bif (decide (x965 < (0 : Int))) then
          none
        else
          let x966 := shlI .i64 x964 x965
          let x967 := (IntKind.i64.wrap (Int.tdiv v958 (16 : Int)))
          let x968 := IntKind.i64.wrap (x967 + v961)
          bif (decide (x968 < (0 : Int))) then
            none
          else
            bif decide (x968.toNat < v962.length) then
              match v962[x968.toNat]? with
              | some x969 =>
                let x970 := (bitI .and .i64 x966 (65535 : Int))
                let x971 := bitI .or .i64 x969 x970
                bif (decide (x968 < (0 : Int))) then
                  none
                else
                  bif decide (x968.toNat < v962.length) then
                    match v962[x968.toNat]? with
                    | some x972 =>
                      let x973 := v962.set x968.toNat x971
                      let x974 := (IntKind.i64.wrap (Int.tdiv v958 (16 : Int)))
                      let x975 := IntKind.i64.wrap (x974 + v961)
                      let x976 := (IntKind.i64.wrap (x975 + (1 : Int)))
                      let x977 := (shrI .i64 x966 (16 : Int))
                      bif (decide (x976 < (0 : Int))) then
                        none
                      else
                        bif decide (x976.toNat < x973.length) then
                          match x973[x976.toNat]? with
                          | some x978 =>
                            let x979 := x973.set x976.toNat x977
                            let x980 := (IntKind.i64.wrap (v961 + (1 : Int)))
                            next v958 v959 v960 x980 x979
                          | none => none
                        else
                          none
                    | none => none
                  else
                    none
              | none => none
            else
              none
      | none => none
  else
    k0 v962
noncomputable def impl_natShift_L2.b {α : Type} (N n : Nat) (v958 : Int) (v959 : List Int) (v960 : Int) (v961 : Int) (v962 : List Int) (k0 : List Int → Option α) : Option α :=
  Nat.rec (motive := fun _ => Int → List Int → Int → Int → List Int → Option α) (fun _ _ _ _ _ => none) (fun _ next => impl_natShift_L2r N next k0) n v958 v959 v960 v961 v962
theorem impl_natShift_L2.ex : ∃ f : ((α : Type) → Nat → Nat → Int → List Int → Int → Int → List Int → (List Int → Option α) → Option α), f = fun α => @impl_natShift_L2.b α := ⟨_, rfl⟩
noncomputable def impl_natShift_L2 {α : Type} : Nat → Nat → Int → List Int → Int → Int → List Int → (List Int → Option α) → Option α := Classical.choose impl_natShift_L2.ex α
theorem impl_natShift_L2.eq : @impl_natShift_L2 = @impl_natShift_L2.b := funext fun α => congrFun (Classical.choose_spec impl_natShift_L2.ex) α
theorem impl_natShift_L2.zero {α : Type} (N : Nat) (v958 : Int) (v959 : List Int) (v960 : Int) (v961 : Int) (v962 : List Int) (k0 : List Int → Option α) : impl_natShift_L2 N 0 v958 v959 v960 v961 v962 k0 = none := by rw [impl_natShift_L2.eq]; rfl
theorem impl_natShift_L2.succ {α : Type} (N n : Nat) (v958 : Int) (v959 : List Int) (v960 : Int) (v961 : Int) (v962 : List Int) (k0 : List Int → Option α) : impl_natShift_L2 N (n + 1) v958 v959 v960 v961 v962 k0 = impl_natShift_L2r N (fun y0 y1 y2 y3 y4 => impl_natShift_L2 N n y0 y1 y2 y3 y4 k0) k0 v958 v959 v960 v961 v962 := by rw [impl_natShift_L2.eq]; rfl
/-- loop.example/pinfold/impl.natShift -/
noncomputable def impl_natShift.b {α : Type} (N : Nat) (a887 : List Int) (a888 : Int) (k0 : List Int → Option α) : Option α :=
  let x889 := (decide (a888 < (0 : Int)))
  bif x889 then
    let x890 := IntKind.i64.wrap (0 - a888)
    let x891 := (IntKind.i64.wrap (Int.tdiv x890 (16 : Int)))
    let x892 := IntKind.i64.wrap (0 - a888)
    let x893 := (Int.tmod x892 (16 : Int))
    let x894 := ((a887.length : Nat) : Int)
    let x895 := decide (x894 ≤ x891)
    bif x895 then
      k0 []
    else
      bif (decide ((0 : Int) ≤ x891)) then
        bif (decide (x891 ≤ ((a887.length : Nat) : Int))) then
          let x896 := a887.drop x891.toNat
          slices_Clone_int_int N x896
            (fun x897 =>
              let x898 := ((x897.length : Nat) : Int)
              impl_natShift_L0 N N a887 x891 x893 x898 (0 : Int) x897
                (fun x938 =>
                  impl_trim N x938
                    (fun x951 =>
                      k0 x951)))
        else
          none
      else
        none
  else
    let x952 := (IntKind.i64.wrap (Int.tdiv a888 (16 : Int)))
    let x953 := ((a887.length : Nat) : Int)
    let x954 := IntKind.i64.wrap (x952 + x953)
    let x955 := (IntKind.i64.wrap (x954 + (1 : Int)))
    bif (decide ((0 : Int) ≤ x955)) then
      bif decide (x955 ≤ x955) then
        bif (decide (x955 ≤ ((8796093022208 : Nat) : Int))) then
          let x956 := (List.replicate x955.toNat (0 : Int))
          let x957 := ((a887.length : Nat) : Int)
          impl_natShift_L2 N N a888 a887 x957 (0 : Int) x956
            (fun x981 =>
              impl_trim N x981
                (fun x982 =>
                  k0 x982))
        else
          none
      else
        none
    else
      none
theorem impl_natShift.ex : ∃ f : ((α : Type) → Nat → List Int → Int → (List Int → Option α) → Option α), f = fun α => @impl_natShift.b α := ⟨_, rfl⟩
noncomputable def impl_natShift {α : Type} : Nat → List Int → Int → (List Int → Option α) → Option α := Classical.choose impl_natShift.ex α
theorem impl_natShift.eq : @impl_natShift = @impl_natShift.b := funext fun α => congrFun (Classical.choose_spec impl_natShift.ex) α

/-- slices.Clip[[]int,int] -/
noncomputable def slices_Clip_int_int.b {α : Type} (N : Nat) (a992 : List Int) (k0 : List Int → Option α) : Option α :=
  let x993 := ((a992.length : Nat) : Int)
  let x994 := ((a992.length : Nat) : Int)
  bif (decide ((0 : Int) ≤ x994)) then
    bif (decide (x994 ≤ ((a992.length : Nat) : Int))) then
      bif (decide ((0 : Int) ≤ x993)) then
        bif (decide (x993 ≤ ((x994.toNat : Nat) : Int))) then
          let x995 := a992.take x993.toNat
          k0 x995
        else
          none
      else
        none
    else
      none
  else
    none
theorem slices_Clip_int_int.ex : ∃ f : ((α : Type) → Nat → List Int → (List Int → Option α) → Option α), f = fun α => @slices_Clip_int_int.b α := ⟨_, rfl⟩
noncomputable def slices_Clip_int_int {α : Type} : Nat → List Int → (List Int → Option α) → Option α := Classical.choose slices_Clip_int_int.ex α
theorem slices_Clip_int_int.eq : @slices_Clip_int_int = @slices_Clip_int_int.b := funext fun α => congrFun (Classical.choose_spec slices_Clip_int_int.ex) α

/-- loop.example/pinfold/impl.clone[int] -/
noncomputable def impl_clone_int.b {α : Type} (N : Nat) (a990 : List Int) (k0 : List Int → Option α) : Option α :=
  slices_Clone_int_int N a990
    (fun x991 =>
      slices_Clip_int_int N x991
        (fun x996 =>
          k0 x996))
theorem impl_clone_int.ex : ∃ f : ((α : Type) → Nat → List Int → (List Int → Option α) → Option α), f = fun α => @impl_clone_int.b α := ⟨_, rfl⟩
noncomputable def impl_clone_int {α : Type} : Nat → List Int → (List Int → Option α) → Option α := Classical.choose impl_clone_int.ex α
theorem impl_clone_int.eq : @impl_clone_int = @impl_clone_int.b := funext fun α => congrFun (Classical.choose_spec impl_clone_int.ex) α

/-- loop.example/pinfold/impl.told -/
noncomputable def impl_told.b {α : Type} (N : Nat) (a984 : List Int) (a985 : Bool) (k0 : Bool → List Int → Option α) : Option α :=
  impl_trim N a984
    (fun x986 =>
      let x987 := !a985
      bif x987 then
        k0 false []
      else
        let x988 := ((x986.length : Nat) : Int)
        let x989 := (decide ((256 : Int) < x988))
        bif x989 then
          k0 false []
        else
          impl_clone_int N x986
            (fun x997 =>
              k0 true x997))
theorem impl_told.ex : ∃ f : ((α : Type) → Nat → List Int → Bool → (Bool → List Int → Option α) → Option α), f = fun α => @impl_told.b α := ⟨_, rfl⟩
noncomputable def impl_told {α : Type} : Nat → List Int → Bool → (Bool → List Int → Option α) → Option α := Classical.choose impl_told.ex α
theorem impl_told.eq : @impl_told = @impl_told.b := funext fun α => congrFun (Classical.choose_spec impl_told.ex) α

/-- loop.example/pinfold/impl.NatShift -/
noncomputable def impl_NatShift.b {α : Type} (N : Nat) (a782 : List Int) (a783 : Int) (k0 : Bool → List Int → Option α) : Option α :=
  impl_NatOk N a782
    (fun x818 =>
      let x819 := !x818
      bif x819 then
        k0 false []
      else
        impl_in N a783 (-4096 : Int) (4096 : Int)
          (fun x820 =>
            let x821 := !x820
            bif x821 then
              k0 false []
            else
              impl_natShift N a782 a783
                (fun x983 =>
                  impl_told N x983 true
                    (fun x998 x999 =>
                      k0 x998 x999))))
theorem impl_NatShift.ex : ∃ f : ((α : Type) → Nat → List Int → Int → (Bool → List Int → Option α) → Option α), f = fun α => @impl_NatShift.b α := ⟨_, rfl⟩
noncomputable def impl_NatShift {α : Type} : Nat → List Int → Int → (Bool → List Int → Option α) → Option α := Classical.choose impl_NatShift.ex α
theorem impl_NatShift.eq : @impl_NatShift = @impl_NatShift.b := funext fun α => congrFun (Classical.choose_spec impl_NatShift.ex) α

noncomputable def laws_eqIntS_L0r {α : Type} (N : Nat) (next : List Int → List Int → Int → Option α) (k0 : Bool → Option α) (k1 : Option α) (v1007 : List Int) (v1008 : List Int) (v1009 : Int) : Option α :=
  let x1010 := ((v1007.length : Nat) : Int)
  let x1011 := decide (v1009 < x1010)
  bif x1011 then
    bif (decide (v1009 < (0 : Int))) then
      none
    else
      match v1007[v1009.toNat]? with
      | some x1012 =>
        bif (decide (v1009 < (0 : Int))) then
          none
        else
          match v1008[v1009.toNat]? with
          | some x1013 =>
            let x1014 := !(decide (x1012 = x1013))
            bif x1014 then
              k0 false
            else
              let x1015 := (IntKind.i64.wrap (v1009 + (1 : Int)))
              next v1007 v1008 x1015
          | none => none
      | none => none
  else
    k1
noncomputable def laws_eqIntS_L0.b {α : Type} (N n : Nat) (v1007 : List Int) (v1008 : List Int) (v1009 : Int) (k0 : Bool → Option α) (k1 : Option α) : Option α :=
  Nat.rec (motive := fun _ => List Int → List Int → Int → Option α) (fun _ _ _ => none) (fun _ next => laws_eqIntS_L0r N next k0 k1) n v1007 v1008 v1009
theorem laws_eqIntS_L0.ex : ∃ f : ((α : Type) → Nat → Nat → List Int → List Int → Int → (Bool → Option α) → (Option α) → Option α), f = fun α => @laws_eqIntS_L0.b α := ⟨_, rfl⟩
noncomputable def laws_eqIntS_L0 {α : Type} : Nat → Nat → List Int → List Int → Int → (Bool → Option α) → (Option α) → Option α := Classical.choose laws_eqIntS_L0.ex α
theorem laws_eqIntS_L0.eq : @laws_eqIntS_L0 = @laws_eqIntS_L0.b := funext fun α => congrFun (Classical.choose_spec laws_eqIntS_L0.ex) α
theorem laws_eqIntS_L0.zero {α : Type} (N : Nat) (v1007 : List Int) (v1008 : List Int) (v1009 : Int) (k0 : Bool → Option α) (k1 : Option α) : laws_eqIntS_L0 N 0 v1007 v1008 v1009 k0 k1 = none := by rw [laws_eqIntS_L0.eq]; rfl
theorem laws_eqIntS_L0.succ {α : Type} (N n : Nat) (v1007 : List Int) (v1008 : List Int) (v1009 : Int) (k0 : Bool → Option α) (k1 : Option α) : laws_eqIntS_L0 N (n + 1) v1007 v1008 v1009 k0 k1 = laws_eqIntS_L0r N (fun y0 y1 y2 => laws_eqIntS_L0 N n y0 y1 y2 k0 k1) k0 k1 v1007 v1008 v1009 := by rw [laws_eqIntS_L0.eq]; rfl
/-- loop.example/pinfold/laws.eqIntS -/
noncomputable def laws_eqIntS.b {α : Type} (N : Nat) (a1002 : List Int) (a1003 : List Int) (k0 : Bool → Option α) : Option α :=
  let x1004 := ((a1002.length : Nat) : Int)
  let x1005 := ((a1003.length : Nat) : Int)
  let x1006 := !(decide (x1004 = x1005))
  bif x1006 then
    k0 false
  else
    laws_eqIntS_L0 N N a1002 a1003 (0 : Int)
      (fun x1016 =>
        k0 x1016)
      (
        k0 true)
theorem laws_eqIntS.ex : ∃ f : ((α : Type) → Nat → List Int → List Int → (Bool → Option α) → Option α), f = fun α => @laws_eqIntS.b α := ⟨_, rfl⟩
noncomputable def laws_eqIntS {α : Type} : Nat → List Int → List Int → (Bool → Option α) → Option α := Classical.choose laws_eqIntS.ex α
theorem laws_eqIntS.eq : @laws_eqIntS = @laws_eqIntS.b := funext fun α => congrFun (Classical.choose_spec laws_eqIntS.ex) α

noncomputable def laws_markIntS_L0r {α : Type} (N : Nat) (next : Int → Int → List Int → Option α) (k0 : Int → List Int → Option α) (v1025 : Int) (v1026 : Int) (v1027 : List Int) : Option α :=
  let x1028 := ((v1027.length : Nat) : Int)
  let x1029 := decide (v1026 < x1028)
  bif x1029 then
    bif (decide (v1026 < (0 : Int))) then
      none
    else
      bif decide (v1026.toNat < v1027.length) then
        match v1027[v1026.toNat]? with
        | some x1030 =>
          let x1031 := v1027.set v1026.toNat v1025
          let x1032 := (IntKind.i64.wrap (v1025 + (1 : Int)))
          let x1033 := (IntKind.i64.wrap (v1026 + (1 : Int)))
          next x1032 x1033 x1031
        | none => none
      else
        none
  else
    k0 v1025 v1027
noncomputable def laws_markIntS_L0.b {α : Type} (N n : Nat) (v1025 : Int) (v1026 : Int) (v1027 : List Int) (k0 : Int → List Int → Option α) : Option α :=
  Nat.rec (motive := fun _ => Int → Int → List Int → Option α) (fun _ _ _ => none) (fun _ next => laws_markIntS_L0r N next k0) n v1025 v1026 v1027
theorem laws_markIntS_L0.ex : ∃ f : ((α : Type) → Nat → Nat → Int → Int → List Int → (Int → List Int → Option α) → Option α), f = fun α => @laws_markIntS_L0.b α := ⟨_, rfl⟩
noncomputable def laws_markIntS_L0 {α : Type} : Nat → Nat → Int → Int → List Int → (Int → List Int → Option α) → Option α := Classical.choose laws_markIntS_L0.ex α
theorem laws_markIntS_L0.eq : @laws_markIntS_L0 = @laws_markIntS_L0.b := funext fun α => congrFun (Classical.choose_spec laws_markIntS_L0.ex) α
theorem laws_markIntS_L0.zero {α : Type} (N : Nat) (v1025 : Int) (v1026 : Int) (v1027 : List Int) (k0 : Int → List Int → Option α) : laws_markIntS_L0 N 0 v1025 v1026 v1027 k0 = none := by rw [laws_markIntS_L0.eq]; rfl
theorem laws_markIntS_L0.succ {α : Type} (N n : Nat) (v1025 : Int) (v1026 : Int) (v1027 : List Int) (k0 : Int → List Int → Option α) : laws_markIntS_L0 N (n + 1) v1025 v1026 v1027 k0 = laws_markIntS_L0r N (fun y0 y1 y2 => laws_markIntS_L0 N n y0 y1 y2 k0) k0 v1025 v1026 v1027 := by rw [laws_markIntS_L0.eq]; rfl
/-- loop.example/pinfold/laws.markIntS -/
noncomputable def laws_markIntS.b {α : Type} (N : Nat) (a1023 : Int) (a1024 : List Int) (k0 : Int → List Int → Option α) : Option α :=
  laws_markIntS_L0 N N a1023 (0 : Int) a1024
    (fun x1034 x1035 =>
      k0 x1034 x1035)
theorem laws_markIntS.ex : ∃ f : ((α : Type) → Nat → Int → List Int → (Int → List Int → Option α) → Option α), f = fun α => @laws_markIntS.b α := ⟨_, rfl⟩
noncomputable def laws_markIntS {α : Type} : Nat → Int → List Int → (Int → List Int → Option α) → Option α := Classical.choose laws_markIntS.ex α
theorem laws_markIntS.eq : @laws_markIntS = @laws_markIntS.b := funext fun α => congrFun (Classical.choose_spec laws_markIntS.ex) α

noncomputable def laws_heldIntS_L0r {α : Type} (N : Nat) (next : List Int → Int → Int → Option α) (k0 : Int → Option α) (k1 : Int → Option α) (v1046 : List Int) (v1047 : Int) (v1048 : Int) : Option α :=
  let x1049 := ((v1046.length : Nat) : Int)
  let x1050 := decide (v1048 < x1049)
  bif x1050 then
    bif (decide (v1048 < (0 : Int))) then
      none
    else
      match v1046[v1048.toNat]? with
      | some x1051 =>
        let x1052 := !(decide (x1051 = v1047))
        bif x1052 then
          k0 (-1 : Int)
        else
          let x1053 := (IntKind.i64.wrap (v1047 + (1 : Int)))
          let x1054 := (IntKind.i64.wrap (v1048 + (1 : Int)))
          next v1046 x1053 x1054
      | none => none
  else
    k1 v1047
noncomputable def laws_heldIntS_L0.b {α : Type} (N n : Nat) (v1046 : List Int) (v1047 : Int) (v1048 : Int) (k0 : Int → Option α) (k1 : Int → Option α) : Option α :=
  Nat.rec (motive := fun _ => List Int → Int → Int → Option α) (fun _ _ _ => none) (fun _ next => laws_heldIntS_L0r N next k0 k1) n v1046 v1047 v1048
theorem laws_heldIntS_L0.ex : ∃ f : ((α : Type) → Nat → Nat → List Int → Int → Int → (Int → Option α) → (Int → Option α) → Option α), f = fun α => @laws_heldIntS_L0.b α := ⟨_, rfl⟩
noncomputable def laws_heldIntS_L0 {α : Type} : Nat → Nat → List Int → Int → Int → (Int → Option α) → (Int → Option α) → Option α := Classical.choose laws_heldIntS_L0.ex α
theorem laws_heldIntS_L0.eq : @laws_heldIntS_L0 = @laws_heldIntS_L0.b := funext fun α => congrFun (Classical.choose_spec laws_heldIntS_L0.ex) α
theorem laws_heldIntS_L0.zero {α : Type} (N : Nat) (v1046 : List Int) (v1047 : Int) (v1048 : Int) (k0 : Int → Option α) (k1 : Int → Option α) : laws_heldIntS_L0 N 0 v1046 v1047 v1048 k0 k1 = none := by rw [laws_heldIntS_L0.eq]; rfl
theorem laws_heldIntS_L0.succ {α : Type} (N n : Nat) (v1046 : List Int) (v1047 : Int) (v1048 : Int) (k0 : Int → Option α) (k1 : Int → Option α) : laws_heldIntS_L0 N (n + 1) v1046 v1047 v1048 k0 k1 = laws_heldIntS_L0r N (fun y0 y1 y2 => laws_heldIntS_L0 N n y0 y1 y2 k0 k1) k0 k1 v1046 v1047 v1048 := by rw [laws_heldIntS_L0.eq]; rfl
/-- loop.example/pinfold/laws.heldIntS -/
noncomputable def laws_heldIntS.b {α : Type} (N : Nat) (a1044 : List Int) (a1045 : Int) (k0 : Int → Option α) : Option α :=
  laws_heldIntS_L0 N N a1044 a1045 (0 : Int)
    (fun x1055 =>
      k0 x1055)
    (fun x1056 =>
      k0 x1056)
theorem laws_heldIntS.ex : ∃ f : ((α : Type) → Nat → List Int → Int → (Int → Option α) → Option α), f = fun α => @laws_heldIntS.b α := ⟨_, rfl⟩
noncomputable def laws_heldIntS {α : Type} : Nat → List Int → Int → (Int → Option α) → Option α := Classical.choose laws_heldIntS.ex α
theorem laws_heldIntS.eq : @laws_heldIntS = @laws_heldIntS.b := funext fun α => congrFun (Classical.choose_spec laws_heldIntS.ex) α

/-- loop.example/pinfold/laws.FnExactNatShift -/
noncomputable def laws_FnExactNatShift.b {α : Type} (N : Nat) (a1 : List Int) (a2 : Int) (k0 : Bool → Option α) : Option α :=
  let x3 := ((a1.length : Nat) : Int)
  let x4 := (decide ((1048576 : Int) < x3))
  bif x4 then
    k0 true
  else
    laws_toIntS N a1
      (fun x18 =>
        spec_NatShift N x18 a2
          (fun x779 x780 =>
            laws_toIntS N a1
              (fun x781 =>
                impl_NatShift N x781 a2
                  (fun x1000 x1001 =>
                    laws_eqIntS N x1001 x779
                      (fun x1017 =>
                        let x1018 := !x1017
                        bif x1018 then
                          k0 false
                        else
                          let x1019 := !(x1000 == x780)
                          bif x1019 then
                            k0 false
                          else
                            laws_toIntS N a1
                              (fun x1020 =>
                                laws_eqIntS N x781 x1020
                                  (fun x1021 =>
                                    let x1022 := !x1021
                                    bif x1022 then
                                      k0 false
                                    else
                                      laws_markIntS N (1 : Int) x781
                                        (fun x1036 _ =>
                                          let x1038 := (decide (x1036 < (0 : Int)))
                                          bif x1038 then
                                            k0 false
                                          else
                                            laws_eqIntS N x1001 x779
                                              (fun x1039 =>
                                                let x1040 := !x1039
                                                bif x1040 then
                                                  k0 false
                                                else
                                                  let x1041 := !(x1000 == x780)
                                                  bif x1041 then
                                                    k0 false
                                                  else
                                                    laws_markIntS N (1 : Int) x1001
                                                      (fun x1042 x1043 =>
                                                        laws_heldIntS N x1043 (1 : Int)
                                                          (fun x1057 =>
                                                            let x1058 := (decide (x1057 < (0 : Int)))
                                                            bif x1058 then
                                                              k0 false
                                                            else
                                                              let x1059 := !(decide (x1057 = x1042))
                                                              bif x1059 then
                                                                k0 false
                                                              else
                                                                laws_toIntS N a1
                                                                  (fun x1060 =>
                                                                    impl_NatShift N x1060 a2
                                                                      (fun x1061 x1062 =>
                                                                        laws_eqIntS N x1062 x779
                                                                          (fun x1063 =>
                                                                            let x1064 := !x1063
                                                                            bif x1064 then
                                                                              k0 false
                                                                            else
                                                                              let x1065 := !(x1061 == x780)
                                                                              bif x1065 then
                                                                                k0 false
                                                                              else
                                                                                laws_heldIntS N x1043 (1 : Int)
                                                                                  (fun x1066 =>
                                                                                    let x1067 := (decide (x1066 < (0 : Int)))
                                                                                    bif x1067 then
                                                                                      k0 false
                                                                                    else
                                                                                      let x1068 := !(decide (x1066 = x1042))
                                                                                      bif x1068 then
                                                                                        k0 false
                                                                                      else
                                                                                        k0 true)))))))))))))))
theorem laws_FnExactNatShift.ex : ∃ f : ((α : Type) → Nat → List Int → Int → (Bool → Option α) → Option α), f = fun α => @laws_FnExactNatShift.b α := ⟨_, rfl⟩
noncomputable def laws_FnExactNatShift {α : Type} : Nat → List Int → Int → (Bool → Option α) → Option α := Classical.choose laws_FnExactNatShift.ex α
theorem laws_FnExactNatShift.eq : @laws_FnExactNatShift = @laws_FnExactNatShift.b := funext fun α => congrFun (Classical.choose_spec laws_FnExactNatShift.ex) α

end
end Go.Proofs.YtgabephijgjogaaAm
