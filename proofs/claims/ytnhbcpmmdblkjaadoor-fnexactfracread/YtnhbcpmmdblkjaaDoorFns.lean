/-
  The functions that the program computes, as the abstract machine tells them. Printed by amp.py.
-/
import Derived.Test.YtnhbcpmmdblkjaaDoorAmc
namespace Go.Proofs.YtnhbcpmmdblkjaaDoorAm
open Go
noncomputable section
set_option linter.unusedVariables false
set_option linter.unusedSimpArgs false

noncomputable def spec_l5Trim_L0r {α : Type} (N : Nat) (next : List Int → Int → Option α) (k0 : List Int → Int → Option α) (v920 : List Int) (v921 : Int) : Option α :=
 let x922 := (decide ((0 : Int) < v921))
 bif x922 then
  let x923 := (IntKind.i64.wrap (v921 - (1 : Int)))
  bif (decide (x923 < (0 : Int))) then
   none
  else
   match v920[x923.toNat]? with
   | some x924 =>
    let x925 := (decide (x924 = (0 : Int)))
    bif x925 then
     let x926 := (IntKind.i64.wrap (v921 - (1 : Int)))
     next v920 x926
    else
     k0 v920 v921
   | none => none
 else
  k0 v920 v921
noncomputable def spec_l5Trim_L0.b {α : Type} (N n : Nat) (v920 : List Int) (v921 : Int) (k0 : List Int → Int → Option α) : Option α :=
  Nat.rec (motive := fun _ => List Int → Int → Option α) (fun _ _ => none) (fun _ next => spec_l5Trim_L0r N next k0) n v920 v921
theorem spec_l5Trim_L0.ex : ∃ f : ((α : Type) → Nat → Nat → List Int → Int → (List Int → Int → Option α) → Option α), f = fun α => @spec_l5Trim_L0.b α := ⟨_, rfl⟩
noncomputable def spec_l5Trim_L0 {α : Type} : Nat → Nat → List Int → Int → (List Int → Int → Option α) → Option α := Classical.choose spec_l5Trim_L0.ex α
theorem spec_l5Trim_L0.eq : @spec_l5Trim_L0 = @spec_l5Trim_L0.b := funext fun α => congrFun (Classical.choose_spec spec_l5Trim_L0.ex) α
theorem spec_l5Trim_L0.zero {α : Type} (N : Nat) (v920 : List Int) (v921 : Int) (k0 : List Int → Int → Option α) : spec_l5Trim_L0 N 0 v920 v921 k0 = none := by rw [spec_l5Trim_L0.eq]; rfl
theorem spec_l5Trim_L0.succ {α : Type} (N n : Nat) (v920 : List Int) (v921 : Int) (k0 : List Int → Int → Option α) : spec_l5Trim_L0 N (n + 1) v920 v921 k0 = spec_l5Trim_L0r N (fun y0 y1 => spec_l5Trim_L0 N n y0 y1 k0) k0 v920 v921 := by rw [spec_l5Trim_L0.eq]; rfl
noncomputable def spec_l5Trim_L2r {α : Type} (N : Nat) (next : List Int → Int → Int → List Int → Option α) (k0 : List Int → Option α) (v929 : List Int) (v930 : Int) (v931 : Int) (v932 : List Int) : Option α :=
 let x933 := decide (v931 < v930)
 bif x933 then
  bif (decide (v931 < (0 : Int))) then
   none
  else
   match v929[v931.toNat]? with
   | some x934 =>
    let x935 := [x934]
    bif decide (v932.length + x935.length ≤ 8796093022208) then
     let x936 := v932 ++ x935
     let x937 := (IntKind.i64.wrap (v931 + (1 : Int)))
     next v929 v930 x937 x936
    else
     none
   | none => none
 else
  k0 v932
noncomputable def spec_l5Trim_L2.b {α : Type} (N n : Nat) (v929 : List Int) (v930 : Int) (v931 : Int) (v932 : List Int) (k0 : List Int → Option α) : Option α :=
  Nat.rec (motive := fun _ => List Int → Int → Int → List Int → Option α) (fun _ _ _ _ => none) (fun _ next => spec_l5Trim_L2r N next k0) n v929 v930 v931 v932
theorem spec_l5Trim_L2.ex : ∃ f : ((α : Type) → Nat → Nat → List Int → Int → Int → List Int → (List Int → Option α) → Option α), f = fun α => @spec_l5Trim_L2.b α := ⟨_, rfl⟩
noncomputable def spec_l5Trim_L2 {α : Type} : Nat → Nat → List Int → Int → Int → List Int → (List Int → Option α) → Option α := Classical.choose spec_l5Trim_L2.ex α
theorem spec_l5Trim_L2.eq : @spec_l5Trim_L2 = @spec_l5Trim_L2.b := funext fun α => congrFun (Classical.choose_spec spec_l5Trim_L2.ex) α
theorem spec_l5Trim_L2.zero {α : Type} (N : Nat) (v929 : List Int) (v930 : Int) (v931 : Int) (v932 : List Int) (k0 : List Int → Option α) : spec_l5Trim_L2 N 0 v929 v930 v931 v932 k0 = none := by rw [spec_l5Trim_L2.eq]; rfl
theorem spec_l5Trim_L2.succ {α : Type} (N n : Nat) (v929 : List Int) (v930 : Int) (v931 : Int) (v932 : List Int) (k0 : List Int → Option α) : spec_l5Trim_L2 N (n + 1) v929 v930 v931 v932 k0 = spec_l5Trim_L2r N (fun y0 y1 y2 y3 => spec_l5Trim_L2 N n y0 y1 y2 y3 k0) k0 v929 v930 v931 v932 := by rw [spec_l5Trim_L2.eq]; rfl
/-- spec.l5Trim -/
noncomputable def spec_l5Trim.b {α : Type} (N : Nat) (a918 : List Int) (k0 : List Int → Option α) : Option α :=
 let x919 := ((a918.length : Nat) : Int)
 spec_l5Trim_L0 N N a918 x919
  (fun x927 x928 =>
   spec_l5Trim_L2 N N x927 x928 (0 : Int) []
    (fun x938 =>
     k0 x938))
theorem spec_l5Trim.ex : ∃ f : ((α : Type) → Nat → List Int → (List Int → Option α) → Option α), f = fun α => @spec_l5Trim.b α := ⟨_, rfl⟩
noncomputable def spec_l5Trim {α : Type} : Nat → List Int → (List Int → Option α) → Option α := Classical.choose spec_l5Trim.ex α
theorem spec_l5Trim.eq : @spec_l5Trim = @spec_l5Trim.b := funext fun α => congrFun (Classical.choose_spec spec_l5Trim.ex) α

noncomputable def spec_l5Mul_L2r {α : Type} (N : Nat) (next : List Int → List Int → Int → Int → Int → List Int → Option α) (k0 : List Int → List Int → Int → Int → List Int → Option α) (v886 : List Int) (v887 : List Int) (v888 : Int) (v889 : Int) (v890 : Int) (v891 : List Int) : Option α :=
 let x892 := ((v887.length : Nat) : Int)
 let x893 := decide (v890 < x892)
 bif x893 then
  let x894 := IntKind.i64.wrap (v888 + v890)
  bif (decide (x894 < (0 : Int))) then
   none
  else
   bif decide (x894.toNat < v891.length) then
    match v891[x894.toNat]? with
    | some x895 =>
     bif (decide (v888 < (0 : Int))) then
      none
     else
      match v886[v888.toNat]? with
      | some x896 =>
       bif (decide (v890 < (0 : Int))) then
        none
       else
        match v887[v890.toNat]? with
        | some x897 =>
         let x898 := IntKind.i64.wrap (x896 * x897)
         let x899 := IntKind.i64.wrap (x895 + x898)
         let x900 := IntKind.i64.wrap (x899 + v889)
         let x901 := IntKind.i64.wrap (v888 + v890)
         let x902 := (Int.tmod x900 (65536 : Int))
         bif (decide (x901 < (0 : Int))) then
          none
         else
          bif decide (x901.toNat < v891.length) then
           match v891[x901.toNat]? with
           | some x903 =>
            let x904 := v891.set x901.toNat x902
            let x905 := (IntKind.i64.wrap (Int.tdiv x900 (65536 : Int)))
            let x906 := (IntKind.i64.wrap (v890 + (1 : Int)))
            next v886 v887 v888 x905 x906 x904
           | none => none
          else
           none
        | none => none
      | none => none
    | none => none
   else
    none
 else
  k0 v886 v887 v888 v889 v891
noncomputable def spec_l5Mul_L2.b {α : Type} (N n : Nat) (v886 : List Int) (v887 : List Int) (v888 : Int) (v889 : Int) (v890 : Int) (v891 : List Int) (k0 : List Int → List Int → Int → Int → List Int → Option α) : Option α :=
  Nat.rec (motive := fun _ => List Int → List Int → Int → Int → Int → List Int → Option α) (fun _ _ _ _ _ _ => none) (fun _ next => spec_l5Mul_L2r N next k0) n v886 v887 v888 v889 v890 v891
theorem spec_l5Mul_L2.ex : ∃ f : ((α : Type) → Nat → Nat → List Int → List Int → Int → Int → Int → List Int → (List Int → List Int → Int → Int → List Int → Option α) → Option α), f = fun α => @spec_l5Mul_L2.b α := ⟨_, rfl⟩
noncomputable def spec_l5Mul_L2 {α : Type} : Nat → Nat → List Int → List Int → Int → Int → Int → List Int → (List Int → List Int → Int → Int → List Int → Option α) → Option α := Classical.choose spec_l5Mul_L2.ex α
theorem spec_l5Mul_L2.eq : @spec_l5Mul_L2 = @spec_l5Mul_L2.b := funext fun α => congrFun (Classical.choose_spec spec_l5Mul_L2.ex) α
theorem spec_l5Mul_L2.zero {α : Type} (N : Nat) (v886 : List Int) (v887 : List Int) (v888 : Int) (v889 : Int) (v890 : Int) (v891 : List Int) (k0 : List Int → List Int → Int → Int → List Int → Option α) : spec_l5Mul_L2 N 0 v886 v887 v888 v889 v890 v891 k0 = none := by rw [spec_l5Mul_L2.eq]; rfl
theorem spec_l5Mul_L2.succ {α : Type} (N n : Nat) (v886 : List Int) (v887 : List Int) (v888 : Int) (v889 : Int) (v890 : Int) (v891 : List Int) (k0 : List Int → List Int → Int → Int → List Int → Option α) : spec_l5Mul_L2 N (n + 1) v886 v887 v888 v889 v890 v891 k0 = spec_l5Mul_L2r N (fun y0 y1 y2 y3 y4 y5 => spec_l5Mul_L2 N n y0 y1 y2 y3 y4 y5 k0) k0 v886 v887 v888 v889 v890 v891 := by rw [spec_l5Mul_L2.eq]; rfl
noncomputable def spec_l5Mul_L0r {α : Type} (N : Nat) (next : List Int → List Int → Int → List Int → Option α) (k0 : List Int → Option α) (v880 : List Int) (v881 : List Int) (v882 : Int) (v883 : List Int) : Option α :=
 let x884 := ((v880.length : Nat) : Int)
 let x885 := decide (v882 < x884)
 bif x885 then
  spec_l5Mul_L2 N N v880 v881 v882 (0 : Int) (0 : Int) v883
   (fun x907 x908 x909 x910 x911 =>
    let x912 := ((x908.length : Nat) : Int)
    let x913 := IntKind.i64.wrap (x909 + x912)
    bif (decide (x913 < (0 : Int))) then
     none
    else
     bif decide (x913.toNat < x911.length) then
      match x911[x913.toNat]? with
      | some x914 =>
       let x915 := x911.set x913.toNat x910
       let x916 := (IntKind.i64.wrap (x909 + (1 : Int)))
       next x907 x908 x916 x915
      | none => none
     else
      none)
 else
  k0 v883
noncomputable def spec_l5Mul_L0.b {α : Type} (N n : Nat) (v880 : List Int) (v881 : List Int) (v882 : Int) (v883 : List Int) (k0 : List Int → Option α) : Option α :=
  Nat.rec (motive := fun _ => List Int → List Int → Int → List Int → Option α) (fun _ _ _ _ => none) (fun _ next => spec_l5Mul_L0r N next k0) n v880 v881 v882 v883
theorem spec_l5Mul_L0.ex : ∃ f : ((α : Type) → Nat → Nat → List Int → List Int → Int → List Int → (List Int → Option α) → Option α), f = fun α => @spec_l5Mul_L0.b α := ⟨_, rfl⟩
noncomputable def spec_l5Mul_L0 {α : Type} : Nat → Nat → List Int → List Int → Int → List Int → (List Int → Option α) → Option α := Classical.choose spec_l5Mul_L0.ex α
theorem spec_l5Mul_L0.eq : @spec_l5Mul_L0 = @spec_l5Mul_L0.b := funext fun α => congrFun (Classical.choose_spec spec_l5Mul_L0.ex) α
theorem spec_l5Mul_L0.zero {α : Type} (N : Nat) (v880 : List Int) (v881 : List Int) (v882 : Int) (v883 : List Int) (k0 : List Int → Option α) : spec_l5Mul_L0 N 0 v880 v881 v882 v883 k0 = none := by rw [spec_l5Mul_L0.eq]; rfl
theorem spec_l5Mul_L0.succ {α : Type} (N n : Nat) (v880 : List Int) (v881 : List Int) (v882 : Int) (v883 : List Int) (k0 : List Int → Option α) : spec_l5Mul_L0 N (n + 1) v880 v881 v882 v883 k0 = spec_l5Mul_L0r N (fun y0 y1 y2 y3 => spec_l5Mul_L0 N n y0 y1 y2 y3 k0) k0 v880 v881 v882 v883 := by rw [spec_l5Mul_L0.eq]; rfl
/-- spec.l5Mul -/
noncomputable def spec_l5Mul.b {α : Type} (N : Nat) (a874 : List Int) (a875 : List Int) (k0 : List Int → Option α) : Option α :=
 let x876 := ((a874.length : Nat) : Int)
 let x877 := ((a875.length : Nat) : Int)
 let x878 := IntKind.i64.wrap (x876 + x877)
 bif (decide ((0 : Int) ≤ x878)) then
  bif decide (x878 ≤ x878) then
   bif (decide (x878 ≤ ((8796093022208 : Nat) : Int))) then
    let x879 := (List.replicate x878.toNat (0 : Int))
    spec_l5Mul_L0 N N a874 a875 (0 : Int) x879
     (fun x917 =>
      spec_l5Trim N x917
       (fun x939 =>
        k0 x939))
   else
    none
  else
   none
 else
  none
theorem spec_l5Mul.ex : ∃ f : ((α : Type) → Nat → List Int → List Int → (List Int → Option α) → Option α), f = fun α => @spec_l5Mul.b α := ⟨_, rfl⟩
noncomputable def spec_l5Mul {α : Type} : Nat → List Int → List Int → (List Int → Option α) → Option α := Classical.choose spec_l5Mul.ex α
theorem spec_l5Mul.eq : @spec_l5Mul = @spec_l5Mul.b := funext fun α => congrFun (Classical.choose_spec spec_l5Mul.ex) α

/-- spec.l5Times -/
noncomputable def spec_l5Times.b {α : Type} (N : Nat) (a870 : List Int) (a871 : Int) (k0 : List Int → Option α) : Option α :=
 let x872 := (decide (a871 = (0 : Int)))
 bif x872 then
  k0 []
 else
  let x873 := [a871]
  spec_l5Mul N a870 x873
   (fun x940 =>
    k0 x940)
theorem spec_l5Times.ex : ∃ f : ((α : Type) → Nat → List Int → Int → (List Int → Option α) → Option α), f = fun α => @spec_l5Times.b α := ⟨_, rfl⟩
noncomputable def spec_l5Times {α : Type} : Nat → List Int → Int → (List Int → Option α) → Option α := Classical.choose spec_l5Times.ex α
theorem spec_l5Times.eq : @spec_l5Times = @spec_l5Times.b := funext fun α => congrFun (Classical.choose_spec spec_l5Times.ex) α

noncomputable def spec_NatOf_L0r {α : Type} (N : Nat) (next : Int → List Int → Option α) (k0 : List Int → Option α) (v947 : Int) (v948 : List Int) : Option α :=
 let x949 := (decide ((0 : Int) < v947))
 bif x949 then
  let x950 := (Int.tmod v947 (65536 : Int))
  let x951 := IntKind.i64.wrap x950
  let x952 := [x951]
  bif decide (v948.length + x952.length ≤ 8796093022208) then
   let x953 := v948 ++ x952
   let x954 := (IntKind.u64.wrap (Int.tdiv v947 (65536 : Int)))
   next x954 x953
  else
   none
 else
  k0 v948
noncomputable def spec_NatOf_L0.b {α : Type} (N n : Nat) (v947 : Int) (v948 : List Int) (k0 : List Int → Option α) : Option α :=
  Nat.rec (motive := fun _ => Int → List Int → Option α) (fun _ _ => none) (fun _ next => spec_NatOf_L0r N next k0) n v947 v948
theorem spec_NatOf_L0.ex : ∃ f : ((α : Type) → Nat → Nat → Int → List Int → (List Int → Option α) → Option α), f = fun α => @spec_NatOf_L0.b α := ⟨_, rfl⟩
noncomputable def spec_NatOf_L0 {α : Type} : Nat → Nat → Int → List Int → (List Int → Option α) → Option α := Classical.choose spec_NatOf_L0.ex α
theorem spec_NatOf_L0.eq : @spec_NatOf_L0 = @spec_NatOf_L0.b := funext fun α => congrFun (Classical.choose_spec spec_NatOf_L0.ex) α
theorem spec_NatOf_L0.zero {α : Type} (N : Nat) (v947 : Int) (v948 : List Int) (k0 : List Int → Option α) : spec_NatOf_L0 N 0 v947 v948 k0 = none := by rw [spec_NatOf_L0.eq]; rfl
theorem spec_NatOf_L0.succ {α : Type} (N n : Nat) (v947 : Int) (v948 : List Int) (k0 : List Int → Option α) : spec_NatOf_L0 N (n + 1) v947 v948 k0 = spec_NatOf_L0r N (fun y0 y1 => spec_NatOf_L0 N n y0 y1 k0) k0 v947 v948 := by rw [spec_NatOf_L0.eq]; rfl
/-- spec.NatOf -/
noncomputable def spec_NatOf.b {α : Type} (N : Nat) (a946 : Int) (k0 : List Int → Option α) : Option α :=
 spec_NatOf_L0 N N a946 []
  (fun x955 =>
   k0 x955)
theorem spec_NatOf.ex : ∃ f : ((α : Type) → Nat → Int → (List Int → Option α) → Option α), f = fun α => @spec_NatOf.b α := ⟨_, rfl⟩
noncomputable def spec_NatOf {α : Type} : Nat → Int → (List Int → Option α) → Option α := Classical.choose spec_NatOf.ex α
theorem spec_NatOf.eq : @spec_NatOf = @spec_NatOf.b := funext fun α => congrFun (Classical.choose_spec spec_NatOf.ex) α

/-- spec.l5At -/
noncomputable def spec_l5At.b {α : Type} (N : Nat) (a976 : List Int) (a977 : Int) (k0 : Int → Option α) : Option α :=
 let x978 := ((a976.length : Nat) : Int)
 let x979 := decide (a977 < x978)
 bif x979 then
  bif (decide (a977 < (0 : Int))) then
   none
  else
   match a976[a977.toNat]? with
   | some x980 =>
    k0 x980
   | none => none
 else
  k0 (0 : Int)
theorem spec_l5At.ex : ∃ f : ((α : Type) → Nat → List Int → Int → (Int → Option α) → Option α), f = fun α => @spec_l5At.b α := ⟨_, rfl⟩
noncomputable def spec_l5At {α : Type} : Nat → List Int → Int → (Int → Option α) → Option α := Classical.choose spec_l5At.ex α
theorem spec_l5At.eq : @spec_l5At = @spec_l5At.b := funext fun α => congrFun (Classical.choose_spec spec_l5At.ex) α

noncomputable def spec_l5Add_J2.b {α : Type} (N : Nat) (v960 : List Int) (v961 : List Int) (v962 : Int) (k0 : List Int → List Int → Int → Option α) : Option α :=
 let x963 := ((v961.length : Nat) : Int)
 let x964 := decide (v962 < x963)
 bif x964 then
  let x965 := ((v961.length : Nat) : Int)
  k0 v960 v961 x965
 else
  k0 v960 v961 v962
theorem spec_l5Add_J2.ex : ∃ f : ((α : Type) → Nat → List Int → List Int → Int → (List Int → List Int → Int → Option α) → Option α), f = fun α => @spec_l5Add_J2.b α := ⟨_, rfl⟩
noncomputable def spec_l5Add_J2 {α : Type} : Nat → List Int → List Int → Int → (List Int → List Int → Int → Option α) → Option α := Classical.choose spec_l5Add_J2.ex α
theorem spec_l5Add_J2.eq : @spec_l5Add_J2 = @spec_l5Add_J2.b := funext fun α => congrFun (Classical.choose_spec spec_l5Add_J2.ex) α
noncomputable def spec_l5Add_L0r {α : Type} (N : Nat) (next : List Int → List Int → Int → Int → Int → List Int → Option α) (k0 : Int → List Int → Option α) (v969 : List Int) (v970 : List Int) (v971 : Int) (v972 : Int) (v973 : Int) (v974 : List Int) : Option α :=
 let x975 := decide (v973 < v971)
 bif x975 then
  spec_l5At N v969 v973
   (fun x981 =>
    spec_l5At N v970 v973
     (fun x982 =>
      let x983 := IntKind.i64.wrap (x981 + x982)
      let x984 := IntKind.i64.wrap (x983 + v972)
      let x985 := (Int.tmod x984 (65536 : Int))
      let x986 := [x985]
      bif decide (v974.length + x986.length ≤ 8796093022208) then
       let x987 := v974 ++ x986
       let x988 := (IntKind.i64.wrap (Int.tdiv x984 (65536 : Int)))
       let x989 := (IntKind.i64.wrap (v973 + (1 : Int)))
       next v969 v970 v971 x988 x989 x987
      else
       none))
 else
  k0 v972 v974
noncomputable def spec_l5Add_L0.b {α : Type} (N n : Nat) (v969 : List Int) (v970 : List Int) (v971 : Int) (v972 : Int) (v973 : Int) (v974 : List Int) (k0 : Int → List Int → Option α) : Option α :=
  Nat.rec (motive := fun _ => List Int → List Int → Int → Int → Int → List Int → Option α) (fun _ _ _ _ _ _ => none) (fun _ next => spec_l5Add_L0r N next k0) n v969 v970 v971 v972 v973 v974
theorem spec_l5Add_L0.ex : ∃ f : ((α : Type) → Nat → Nat → List Int → List Int → Int → Int → Int → List Int → (Int → List Int → Option α) → Option α), f = fun α => @spec_l5Add_L0.b α := ⟨_, rfl⟩
noncomputable def spec_l5Add_L0 {α : Type} : Nat → Nat → List Int → List Int → Int → Int → Int → List Int → (Int → List Int → Option α) → Option α := Classical.choose spec_l5Add_L0.ex α
theorem spec_l5Add_L0.eq : @spec_l5Add_L0 = @spec_l5Add_L0.b := funext fun α => congrFun (Classical.choose_spec spec_l5Add_L0.ex) α
theorem spec_l5Add_L0.zero {α : Type} (N : Nat) (v969 : List Int) (v970 : List Int) (v971 : Int) (v972 : Int) (v973 : Int) (v974 : List Int) (k0 : Int → List Int → Option α) : spec_l5Add_L0 N 0 v969 v970 v971 v972 v973 v974 k0 = none := by rw [spec_l5Add_L0.eq]; rfl
theorem spec_l5Add_L0.succ {α : Type} (N n : Nat) (v969 : List Int) (v970 : List Int) (v971 : Int) (v972 : Int) (v973 : Int) (v974 : List Int) (k0 : Int → List Int → Option α) : spec_l5Add_L0 N (n + 1) v969 v970 v971 v972 v973 v974 k0 = spec_l5Add_L0r N (fun y0 y1 y2 y3 y4 y5 => spec_l5Add_L0 N n y0 y1 y2 y3 y4 y5 k0) k0 v969 v970 v971 v972 v973 v974 := by rw [spec_l5Add_L0.eq]; rfl
noncomputable def spec_l5Add_J12.b {α : Type} (N : Nat) (v992 : Int) (v993 : List Int) (k0 : List Int → Option α) : Option α :=
 let x994 := (decide ((0 : Int) < v992))
 bif x994 then
  let x995 := [v992]
  bif decide (v993.length + x995.length ≤ 8796093022208) then
   let x996 := v993 ++ x995
   k0 x996
  else
   none
 else
  k0 v993
theorem spec_l5Add_J12.ex : ∃ f : ((α : Type) → Nat → Int → List Int → (List Int → Option α) → Option α), f = fun α => @spec_l5Add_J12.b α := ⟨_, rfl⟩
noncomputable def spec_l5Add_J12 {α : Type} : Nat → Int → List Int → (List Int → Option α) → Option α := Classical.choose spec_l5Add_J12.ex α
theorem spec_l5Add_J12.eq : @spec_l5Add_J12 = @spec_l5Add_J12.b := funext fun α => congrFun (Classical.choose_spec spec_l5Add_J12.ex) α
/-- spec.l5Add -/
noncomputable def spec_l5Add.b {α : Type} (N : Nat) (a957 : List Int) (a958 : List Int) (k0 : List Int → Option α) : Option α :=
 let x959 := ((a957.length : Nat) : Int)
 spec_l5Add_J2 N a957 a958 x959
  (fun x966 x967 x968 =>
   spec_l5Add_L0 N N x966 x967 x968 (0 : Int) (0 : Int) []
    (fun x990 x991 =>
     spec_l5Add_J12 N x990 x991
      (fun x997 =>
       k0 x997)))
theorem spec_l5Add.ex : ∃ f : ((α : Type) → Nat → List Int → List Int → (List Int → Option α) → Option α), f = fun α => @spec_l5Add.b α := ⟨_, rfl⟩
noncomputable def spec_l5Add {α : Type} : Nat → List Int → List Int → (List Int → Option α) → Option α := Classical.choose spec_l5Add.ex α
theorem spec_l5Add.eq : @spec_l5Add = @spec_l5Add.b := funext fun α => congrFun (Classical.choose_spec spec_l5Add.ex) α

/-- spec.l5Fits -/
noncomputable def spec_l5Fits.b {α : Type} (N : Nat) (a1007 : List Int) (k0 : List Int → Bool → Option α) : Option α :=
 let x1008 := ((a1007.length : Nat) : Int)
 let x1009 := (decide ((256 : Int) < x1008))
 bif x1009 then
  k0 [] false
 else
  k0 a1007 true
theorem spec_l5Fits.ex : ∃ f : ((α : Type) → Nat → List Int → (List Int → Bool → Option α) → Option α), f = fun α => @spec_l5Fits.b α := ⟨_, rfl⟩
noncomputable def spec_l5Fits {α : Type} : Nat → List Int → (List Int → Bool → Option α) → Option α := Classical.choose spec_l5Fits.ex α
theorem spec_l5Fits.eq : @spec_l5Fits = @spec_l5Fits.b := funext fun α => congrFun (Classical.choose_spec spec_l5Fits.ex) α

noncomputable def spec_NatRead_L0r {α : Type} (N : Nat) (next : ByteArray → Int → List Int → Option α) (k0 : List Int → Bool → Option α) (k1 : List Int → Option α) (v859 : ByteArray) (v860 : Int) (v861 : List Int) : Option α :=
 let x862 := ((v859.size : Nat) : Int)
 let x863 := decide (v860 < x862)
 bif x863 then
  bif (decide (v860 < (0 : Int))) then
   none
  else
   match (v859[v860.toNat]? : Option UInt8) with
   | some x864 =>
    let x865 := ((x864.toNat : Nat) : Int)
    let x866 := (decide (x865 < (48 : Int)))
    bif x866 then
     k0 [] false
    else
     bif (decide (v860 < (0 : Int))) then
      none
     else
      match (v859[v860.toNat]? : Option UInt8) with
      | some x867 =>
       let x868 := ((x867.toNat : Nat) : Int)
       let x869 := (decide ((57 : Int) < x868))
       bif x869 then
        k0 [] false
       else
        spec_l5Times N v861 (10 : Int)
         (fun x941 =>
          bif (decide (v860 < (0 : Int))) then
           none
          else
           match (v859[v860.toNat]? : Option UInt8) with
           | some x942 =>
            let x943 := ((x942.toNat : Nat) : Int)
            let x944 := (IntKind.u8.wrap (x943 - (48 : Int)))
            let x945 := IntKind.u64.wrap x944
            spec_NatOf N x945
             (fun x956 =>
              spec_l5Add N x941 x956
               (fun x998 =>
                spec_l5Trim N x998
                 (fun x999 =>
                  let x1000 := (IntKind.i64.wrap (v860 + (1 : Int)))
                  next v859 x1000 x999)))
           | none => none)
      | none => none
   | none => none
 else
  k1 v861
noncomputable def spec_NatRead_L0.b {α : Type} (N n : Nat) (v859 : ByteArray) (v860 : Int) (v861 : List Int) (k0 : List Int → Bool → Option α) (k1 : List Int → Option α) : Option α :=
  Nat.rec (motive := fun _ => ByteArray → Int → List Int → Option α) (fun _ _ _ => none) (fun _ next => spec_NatRead_L0r N next k0 k1) n v859 v860 v861
theorem spec_NatRead_L0.ex : ∃ f : ((α : Type) → Nat → Nat → ByteArray → Int → List Int → (List Int → Bool → Option α) → (List Int → Option α) → Option α), f = fun α => @spec_NatRead_L0.b α := ⟨_, rfl⟩
noncomputable def spec_NatRead_L0 {α : Type} : Nat → Nat → ByteArray → Int → List Int → (List Int → Bool → Option α) → (List Int → Option α) → Option α := Classical.choose spec_NatRead_L0.ex α
theorem spec_NatRead_L0.eq : @spec_NatRead_L0 = @spec_NatRead_L0.b := funext fun α => congrFun (Classical.choose_spec spec_NatRead_L0.ex) α
theorem spec_NatRead_L0.zero {α : Type} (N : Nat) (v859 : ByteArray) (v860 : Int) (v861 : List Int) (k0 : List Int → Bool → Option α) (k1 : List Int → Option α) : spec_NatRead_L0 N 0 v859 v860 v861 k0 k1 = none := by rw [spec_NatRead_L0.eq]; rfl
theorem spec_NatRead_L0.succ {α : Type} (N n : Nat) (v859 : ByteArray) (v860 : Int) (v861 : List Int) (k0 : List Int → Bool → Option α) (k1 : List Int → Option α) : spec_NatRead_L0 N (n + 1) v859 v860 v861 k0 k1 = spec_NatRead_L0r N (fun y0 y1 y2 => spec_NatRead_L0 N n y0 y1 y2 k0 k1) k0 k1 v859 v860 v861 := by rw [spec_NatRead_L0.eq]; rfl
/-- spec.NatRead -/
noncomputable def spec_NatRead.b {α : Type} (N : Nat) (a849 : ByteArray) (k0 : List Int → Bool → Option α) : Option α :=
 let x850 := ((a849.size : Nat) : Int)
 let x851 := (decide (x850 = (0 : Int)))
 bif x851 then
  k0 [] false
 else
  let x852 := ((a849.size : Nat) : Int)
  let x853 := (decide ((1300 : Int) < x852))
  bif x853 then
   k0 [] false
  else
   let x854 := ((a849.size : Nat) : Int)
   let x855 := (decide ((1 : Int) < x854))
   bif x855 then
    match (a849[0]? : Option UInt8) with
    | some x856 =>
     let x857 := ((x856.toNat : Nat) : Int)
     let x858 := (decide (x857 = (48 : Int)))
     bif x858 then
      k0 [] false
     else
      spec_NatRead_L0 N N a849 (0 : Int) []
       (fun x1001 x1002 =>
        k0 x1001 x1002)
       (fun x1003 =>
        spec_l5Fits N x1003
         (fun x1010 x1011 =>
          k0 x1010 x1011))
    | none => none
   else
    spec_NatRead_L0 N N a849 (0 : Int) []
     (fun x1012 x1013 =>
      k0 x1012 x1013)
     (fun x1014 =>
      spec_l5Fits N x1014
       (fun x1015 x1016 =>
        k0 x1015 x1016))
theorem spec_NatRead.ex : ∃ f : ((α : Type) → Nat → ByteArray → (List Int → Bool → Option α) → Option α), f = fun α => @spec_NatRead.b α := ⟨_, rfl⟩
noncomputable def spec_NatRead {α : Type} : Nat → ByteArray → (List Int → Bool → Option α) → Option α := Classical.choose spec_NatRead.ex α
theorem spec_NatRead.eq : @spec_NatRead = @spec_NatRead.b := funext fun α => congrFun (Classical.choose_spec spec_NatRead.ex) α

noncomputable def spec_NatOk_L0r {α : Type} (N : Nat) (next : List Int → Int → Option α) (k0 : Bool → Option α) (k1 : List Int → Option α) (v1027 : List Int) (v1028 : Int) : Option α :=
 let x1029 := ((v1027.length : Nat) : Int)
 let x1030 := decide (v1028 < x1029)
 bif x1030 then
  bif (decide (v1028 < (0 : Int))) then
   none
  else
   match v1027[v1028.toNat]? with
   | some x1031 =>
    let x1032 := (decide (x1031 < (0 : Int)))
    bif x1032 then
     k0 false
    else
     bif (decide (v1028 < (0 : Int))) then
      none
     else
      match v1027[v1028.toNat]? with
      | some x1033 =>
       let x1034 := (decide ((65536 : Int) ≤ x1033))
       bif x1034 then
        k0 false
       else
        let x1035 := (IntKind.i64.wrap (v1028 + (1 : Int)))
        next v1027 x1035
      | none => none
   | none => none
 else
  k1 v1027
noncomputable def spec_NatOk_L0.b {α : Type} (N n : Nat) (v1027 : List Int) (v1028 : Int) (k0 : Bool → Option α) (k1 : List Int → Option α) : Option α :=
  Nat.rec (motive := fun _ => List Int → Int → Option α) (fun _ _ => none) (fun _ next => spec_NatOk_L0r N next k0 k1) n v1027 v1028
theorem spec_NatOk_L0.ex : ∃ f : ((α : Type) → Nat → Nat → List Int → Int → (Bool → Option α) → (List Int → Option α) → Option α), f = fun α => @spec_NatOk_L0.b α := ⟨_, rfl⟩
noncomputable def spec_NatOk_L0 {α : Type} : Nat → Nat → List Int → Int → (Bool → Option α) → (List Int → Option α) → Option α := Classical.choose spec_NatOk_L0.ex α
theorem spec_NatOk_L0.eq : @spec_NatOk_L0 = @spec_NatOk_L0.b := funext fun α => congrFun (Classical.choose_spec spec_NatOk_L0.ex) α
theorem spec_NatOk_L0.zero {α : Type} (N : Nat) (v1027 : List Int) (v1028 : Int) (k0 : Bool → Option α) (k1 : List Int → Option α) : spec_NatOk_L0 N 0 v1027 v1028 k0 k1 = none := by rw [spec_NatOk_L0.eq]; rfl
theorem spec_NatOk_L0.succ {α : Type} (N n : Nat) (v1027 : List Int) (v1028 : Int) (k0 : Bool → Option α) (k1 : List Int → Option α) : spec_NatOk_L0 N (n + 1) v1027 v1028 k0 k1 = spec_NatOk_L0r N (fun y0 y1 => spec_NatOk_L0 N n y0 y1 k0 k1) k0 k1 v1027 v1028 := by rw [spec_NatOk_L0.eq]; rfl
/-- spec.NatOk -/
noncomputable def spec_NatOk.b {α : Type} (N : Nat) (a1024 : List Int) (k0 : Bool → Option α) : Option α :=
 let x1025 := ((a1024.length : Nat) : Int)
 let x1026 := (decide ((256 : Int) < x1025))
 bif x1026 then
  k0 false
 else
  spec_NatOk_L0 N N a1024 (0 : Int)
   (fun x1036 =>
    k0 x1036)
   (fun x1037 =>
    let x1038 := ((x1037.length : Nat) : Int)
    let x1039 := (decide (x1038 = (0 : Int)))
    bif x1039 then
     k0 true
    else
     let x1040 := ((x1037.length : Nat) : Int)
     let x1041 := (IntKind.i64.wrap (x1040 - (1 : Int)))
     bif (decide (x1041 < (0 : Int))) then
      none
     else
      match x1037[x1041.toNat]? with
      | some x1042 =>
       let x1043 := (!(decide (x1042 = (0 : Int))))
       k0 x1043
      | none => none)
theorem spec_NatOk.ex : ∃ f : ((α : Type) → Nat → List Int → (Bool → Option α) → Option α), f = fun α => @spec_NatOk.b α := ⟨_, rfl⟩
noncomputable def spec_NatOk {α : Type} : Nat → List Int → (Bool → Option α) → Option α := Classical.choose spec_NatOk.ex α
theorem spec_NatOk.eq : @spec_NatOk = @spec_NatOk.b := funext fun α => congrFun (Classical.choose_spec spec_NatOk.ex) α

noncomputable def spec_l5Cmp_L0r {α : Type} (N : Nat) (next : List Int → List Int → Int → Option α) (k0 : Int → Option α) (k1 : Option α) (v1072 : List Int) (v1073 : List Int) (v1074 : Int) : Option α :=
 let x1075 := (decide ((0 : Int) ≤ v1074))
 bif x1075 then
  bif (decide (v1074 < (0 : Int))) then
   none
  else
   match v1072[v1074.toNat]? with
   | some x1076 =>
    bif (decide (v1074 < (0 : Int))) then
     none
    else
     match v1073[v1074.toNat]? with
     | some x1077 =>
      let x1078 := decide (x1076 < x1077)
      bif x1078 then
       k0 (-1 : Int)
      else
       bif (decide (v1074 < (0 : Int))) then
        none
       else
        match v1072[v1074.toNat]? with
        | some x1079 =>
         bif (decide (v1074 < (0 : Int))) then
          none
         else
          match v1073[v1074.toNat]? with
          | some x1080 =>
           let x1081 := decide (x1080 < x1079)
           bif x1081 then
            k0 (1 : Int)
           else
            let x1082 := (IntKind.i64.wrap (v1074 - (1 : Int)))
            next v1072 v1073 x1082
          | none => none
        | none => none
     | none => none
   | none => none
 else
  k1
noncomputable def spec_l5Cmp_L0.b {α : Type} (N n : Nat) (v1072 : List Int) (v1073 : List Int) (v1074 : Int) (k0 : Int → Option α) (k1 : Option α) : Option α :=
  Nat.rec (motive := fun _ => List Int → List Int → Int → Option α) (fun _ _ _ => none) (fun _ next => spec_l5Cmp_L0r N next k0 k1) n v1072 v1073 v1074
theorem spec_l5Cmp_L0.ex : ∃ f : ((α : Type) → Nat → Nat → List Int → List Int → Int → (Int → Option α) → (Option α) → Option α), f = fun α => @spec_l5Cmp_L0.b α := ⟨_, rfl⟩
noncomputable def spec_l5Cmp_L0 {α : Type} : Nat → Nat → List Int → List Int → Int → (Int → Option α) → (Option α) → Option α := Classical.choose spec_l5Cmp_L0.ex α
theorem spec_l5Cmp_L0.eq : @spec_l5Cmp_L0 = @spec_l5Cmp_L0.b := funext fun α => congrFun (Classical.choose_spec spec_l5Cmp_L0.ex) α
theorem spec_l5Cmp_L0.zero {α : Type} (N : Nat) (v1072 : List Int) (v1073 : List Int) (v1074 : Int) (k0 : Int → Option α) (k1 : Option α) : spec_l5Cmp_L0 N 0 v1072 v1073 v1074 k0 k1 = none := by rw [spec_l5Cmp_L0.eq]; rfl
theorem spec_l5Cmp_L0.succ {α : Type} (N n : Nat) (v1072 : List Int) (v1073 : List Int) (v1074 : Int) (k0 : Int → Option α) (k1 : Option α) : spec_l5Cmp_L0 N (n + 1) v1072 v1073 v1074 k0 k1 = spec_l5Cmp_L0r N (fun y0 y1 y2 => spec_l5Cmp_L0 N n y0 y1 y2 k0 k1) k0 k1 v1072 v1073 v1074 := by rw [spec_l5Cmp_L0.eq]; rfl
/-- spec.l5Cmp -/
noncomputable def spec_l5Cmp.b {α : Type} (N : Nat) (a1062 : List Int) (a1063 : List Int) (k0 : Int → Option α) : Option α :=
 let x1064 := ((a1062.length : Nat) : Int)
 let x1065 := ((a1063.length : Nat) : Int)
 let x1066 := decide (x1064 < x1065)
 bif x1066 then
  k0 (-1 : Int)
 else
  let x1067 := ((a1062.length : Nat) : Int)
  let x1068 := ((a1063.length : Nat) : Int)
  let x1069 := decide (x1068 < x1067)
  bif x1069 then
   k0 (1 : Int)
  else
   let x1070 := ((a1062.length : Nat) : Int)
   let x1071 := (IntKind.i64.wrap (x1070 - (1 : Int)))
   spec_l5Cmp_L0 N N a1062 a1063 x1071
    (fun x1083 =>
     k0 x1083)
    (
     k0 (0 : Int))
theorem spec_l5Cmp.ex : ∃ f : ((α : Type) → Nat → List Int → List Int → (Int → Option α) → Option α), f = fun α => @spec_l5Cmp.b α := ⟨_, rfl⟩
noncomputable def spec_l5Cmp {α : Type} : Nat → List Int → List Int → (Int → Option α) → Option α := Classical.choose spec_l5Cmp.ex α
theorem spec_l5Cmp.eq : @spec_l5Cmp = @spec_l5Cmp.b := funext fun α => congrFun (Classical.choose_spec spec_l5Cmp.ex) α

noncomputable def spec_l5DivSmall_L0r {α : Type} (N : Nat) (next : List Int → Int → Int → Int → List Int → Option α) (k0 : Int → List Int → Option α) (v1096 : List Int) (v1097 : Int) (v1098 : Int) (v1099 : Int) (v1100 : List Int) : Option α :=
 let x1101 := (decide ((0 : Int) ≤ v1099))
 bif x1101 then
  let x1102 := (IntKind.i64.wrap (v1098 * (65536 : Int)))
  bif (decide (v1099 < (0 : Int))) then
   none
  else
   match v1096[v1099.toNat]? with
   | some x1103 =>
    let x1104 := IntKind.i64.wrap (x1102 + x1103)
    bif (decide (v1097 = (0 : Int))) then
     none
    else
     let x1105 := IntKind.i64.wrap (Int.tdiv x1104 v1097)
     bif (decide (v1099 < (0 : Int))) then
      none
     else
      bif decide (v1099.toNat < v1100.length) then
       match v1100[v1099.toNat]? with
       | some x1106 =>
        let x1107 := v1100.set v1099.toNat x1105
        bif (decide (v1097 = (0 : Int))) then
         none
        else
         let x1108 := Int.tmod x1104 v1097
         let x1109 := (IntKind.i64.wrap (v1099 - (1 : Int)))
         next v1096 v1097 x1108 x1109 x1107
       | none => none
      else
       none
   | none => none
 else
  k0 v1098 v1100
noncomputable def spec_l5DivSmall_L0.b {α : Type} (N n : Nat) (v1096 : List Int) (v1097 : Int) (v1098 : Int) (v1099 : Int) (v1100 : List Int) (k0 : Int → List Int → Option α) : Option α :=
  Nat.rec (motive := fun _ => List Int → Int → Int → Int → List Int → Option α) (fun _ _ _ _ _ => none) (fun _ next => spec_l5DivSmall_L0r N next k0) n v1096 v1097 v1098 v1099 v1100
theorem spec_l5DivSmall_L0.ex : ∃ f : ((α : Type) → Nat → Nat → List Int → Int → Int → Int → List Int → (Int → List Int → Option α) → Option α), f = fun α => @spec_l5DivSmall_L0.b α := ⟨_, rfl⟩
noncomputable def spec_l5DivSmall_L0 {α : Type} : Nat → Nat → List Int → Int → Int → Int → List Int → (Int → List Int → Option α) → Option α := Classical.choose spec_l5DivSmall_L0.ex α
theorem spec_l5DivSmall_L0.eq : @spec_l5DivSmall_L0 = @spec_l5DivSmall_L0.b := funext fun α => congrFun (Classical.choose_spec spec_l5DivSmall_L0.ex) α
theorem spec_l5DivSmall_L0.zero {α : Type} (N : Nat) (v1096 : List Int) (v1097 : Int) (v1098 : Int) (v1099 : Int) (v1100 : List Int) (k0 : Int → List Int → Option α) : spec_l5DivSmall_L0 N 0 v1096 v1097 v1098 v1099 v1100 k0 = none := by rw [spec_l5DivSmall_L0.eq]; rfl
theorem spec_l5DivSmall_L0.succ {α : Type} (N n : Nat) (v1096 : List Int) (v1097 : Int) (v1098 : Int) (v1099 : Int) (v1100 : List Int) (k0 : Int → List Int → Option α) : spec_l5DivSmall_L0 N (n + 1) v1096 v1097 v1098 v1099 v1100 k0 = spec_l5DivSmall_L0r N (fun y0 y1 y2 y3 y4 => spec_l5DivSmall_L0 N n y0 y1 y2 y3 y4 k0) k0 v1096 v1097 v1098 v1099 v1100 := by rw [spec_l5DivSmall_L0.eq]; rfl
/-- spec.l5DivSmall -/
noncomputable def spec_l5DivSmall.b {α : Type} (N : Nat) (a1090 : List Int) (a1091 : Int) (k0 : Int → List Int → Option α) : Option α :=
 let x1092 := ((a1090.length : Nat) : Int)
 bif (decide ((0 : Int) ≤ x1092)) then
  bif decide (x1092 ≤ x1092) then
   bif (decide (x1092 ≤ ((8796093022208 : Nat) : Int))) then
    let x1093 := (List.replicate x1092.toNat (0 : Int))
    let x1094 := ((a1090.length : Nat) : Int)
    let x1095 := (IntKind.i64.wrap (x1094 - (1 : Int)))
    spec_l5DivSmall_L0 N N a1090 a1091 (0 : Int) x1095 x1093
     (fun x1110 x1111 =>
      spec_l5Trim N x1111
       (fun x1112 =>
        k0 x1110 x1112))
   else
    none
  else
   none
 else
  none
theorem spec_l5DivSmall.ex : ∃ f : ((α : Type) → Nat → List Int → Int → (Int → List Int → Option α) → Option α), f = fun α => @spec_l5DivSmall.b α := ⟨_, rfl⟩
noncomputable def spec_l5DivSmall {α : Type} : Nat → List Int → Int → (Int → List Int → Option α) → Option α := Classical.choose spec_l5DivSmall.ex α
theorem spec_l5DivSmall.eq : @spec_l5DivSmall = @spec_l5DivSmall.b := funext fun α => congrFun (Classical.choose_spec spec_l5DivSmall.ex) α

noncomputable def spec_l5Top_L0r {α : Type} (N : Nat) (next : List Int → Int → List Int → Option α) (k0 : List Int → Option α) (v1134 : List Int) (v1135 : Int) (v1136 : List Int) : Option α :=
 let x1137 := ((v1134.length : Nat) : Int)
 let x1138 := decide (v1135 < x1137)
 bif x1138 then
  bif (decide (v1135 < (0 : Int))) then
   none
  else
   match v1134[v1135.toNat]? with
   | some x1139 =>
    let x1140 := [x1139]
    bif decide (v1136.length + x1140.length ≤ 8796093022208) then
     let x1141 := v1136 ++ x1140
     let x1142 := (IntKind.i64.wrap (v1135 + (1 : Int)))
     next v1134 x1142 x1141
    else
     none
   | none => none
 else
  k0 v1136
noncomputable def spec_l5Top_L0.b {α : Type} (N n : Nat) (v1134 : List Int) (v1135 : Int) (v1136 : List Int) (k0 : List Int → Option α) : Option α :=
  Nat.rec (motive := fun _ => List Int → Int → List Int → Option α) (fun _ _ _ => none) (fun _ next => spec_l5Top_L0r N next k0) n v1134 v1135 v1136
theorem spec_l5Top_L0.ex : ∃ f : ((α : Type) → Nat → Nat → List Int → Int → List Int → (List Int → Option α) → Option α), f = fun α => @spec_l5Top_L0.b α := ⟨_, rfl⟩
noncomputable def spec_l5Top_L0 {α : Type} : Nat → Nat → List Int → Int → List Int → (List Int → Option α) → Option α := Classical.choose spec_l5Top_L0.ex α
theorem spec_l5Top_L0.eq : @spec_l5Top_L0 = @spec_l5Top_L0.b := funext fun α => congrFun (Classical.choose_spec spec_l5Top_L0.ex) α
theorem spec_l5Top_L0.zero {α : Type} (N : Nat) (v1134 : List Int) (v1135 : Int) (v1136 : List Int) (k0 : List Int → Option α) : spec_l5Top_L0 N 0 v1134 v1135 v1136 k0 = none := by rw [spec_l5Top_L0.eq]; rfl
theorem spec_l5Top_L0.succ {α : Type} (N n : Nat) (v1134 : List Int) (v1135 : Int) (v1136 : List Int) (k0 : List Int → Option α) : spec_l5Top_L0 N (n + 1) v1134 v1135 v1136 k0 = spec_l5Top_L0r N (fun y0 y1 y2 => spec_l5Top_L0 N n y0 y1 y2 k0) k0 v1134 v1135 v1136 := by rw [spec_l5Top_L0.eq]; rfl
/-- spec.l5Top -/
noncomputable def spec_l5Top.b {α : Type} (N : Nat) (a1132 : List Int) (a1133 : Int) (k0 : List Int → Option α) : Option α :=
 spec_l5Top_L0 N N a1132 a1133 []
  (fun x1143 =>
   k0 x1143)
theorem spec_l5Top.ex : ∃ f : ((α : Type) → Nat → List Int → Int → (List Int → Option α) → Option α), f = fun α => @spec_l5Top.b α := ⟨_, rfl⟩
noncomputable def spec_l5Top {α : Type} : Nat → List Int → Int → (List Int → Option α) → Option α := Classical.choose spec_l5Top.ex α
theorem spec_l5Top.eq : @spec_l5Top = @spec_l5Top.b := funext fun α => congrFun (Classical.choose_spec spec_l5Top.ex) α

noncomputable def spec_l5Shl_L0r {α : Type} (N : Nat) (next : List Int → Int → List Int → Option α) (k0 : List Int → Option α) (v1160 : List Int) (v1161 : Int) (v1162 : List Int) : Option α :=
 let x1163 := ((v1160.length : Nat) : Int)
 let x1164 := decide (v1161 < x1163)
 bif x1164 then
  bif (decide (v1161 < (0 : Int))) then
   none
  else
   match v1160[v1161.toNat]? with
   | some x1165 =>
    let x1166 := [x1165]
    bif decide (v1162.length + x1166.length ≤ 8796093022208) then
     let x1167 := v1162 ++ x1166
     let x1168 := (IntKind.i64.wrap (v1161 + (1 : Int)))
     next v1160 x1168 x1167
    else
     none
   | none => none
 else
  k0 v1162
noncomputable def spec_l5Shl_L0.b {α : Type} (N n : Nat) (v1160 : List Int) (v1161 : Int) (v1162 : List Int) (k0 : List Int → Option α) : Option α :=
  Nat.rec (motive := fun _ => List Int → Int → List Int → Option α) (fun _ _ _ => none) (fun _ next => spec_l5Shl_L0r N next k0) n v1160 v1161 v1162
theorem spec_l5Shl_L0.ex : ∃ f : ((α : Type) → Nat → Nat → List Int → Int → List Int → (List Int → Option α) → Option α), f = fun α => @spec_l5Shl_L0.b α := ⟨_, rfl⟩
noncomputable def spec_l5Shl_L0 {α : Type} : Nat → Nat → List Int → Int → List Int → (List Int → Option α) → Option α := Classical.choose spec_l5Shl_L0.ex α
theorem spec_l5Shl_L0.eq : @spec_l5Shl_L0 = @spec_l5Shl_L0.b := funext fun α => congrFun (Classical.choose_spec spec_l5Shl_L0.ex) α
theorem spec_l5Shl_L0.zero {α : Type} (N : Nat) (v1160 : List Int) (v1161 : Int) (v1162 : List Int) (k0 : List Int → Option α) : spec_l5Shl_L0 N 0 v1160 v1161 v1162 k0 = none := by rw [spec_l5Shl_L0.eq]; rfl
theorem spec_l5Shl_L0.succ {α : Type} (N n : Nat) (v1160 : List Int) (v1161 : Int) (v1162 : List Int) (k0 : List Int → Option α) : spec_l5Shl_L0 N (n + 1) v1160 v1161 v1162 k0 = spec_l5Shl_L0r N (fun y0 y1 y2 => spec_l5Shl_L0 N n y0 y1 y2 k0) k0 v1160 v1161 v1162 := by rw [spec_l5Shl_L0.eq]; rfl
/-- spec.l5Shl -/
noncomputable def spec_l5Shl.b {α : Type} (N : Nat) (a1155 : List Int) (a1156 : Int) (k0 : List Int → Option α) : Option α :=
 let x1157 := ((a1155.length : Nat) : Int)
 let x1158 := (decide (x1157 = (0 : Int)))
 bif x1158 then
  k0 []
 else
  bif (decide ((0 : Int) ≤ a1156)) then
   bif decide (a1156 ≤ a1156) then
    bif (decide (a1156 ≤ ((8796093022208 : Nat) : Int))) then
     let x1159 := (List.replicate a1156.toNat (0 : Int))
     spec_l5Shl_L0 N N a1155 (0 : Int) x1159
      (fun x1169 =>
       k0 x1169)
    else
     none
   else
    none
  else
   none
theorem spec_l5Shl.ex : ∃ f : ((α : Type) → Nat → List Int → Int → (List Int → Option α) → Option α), f = fun α => @spec_l5Shl.b α := ⟨_, rfl⟩
noncomputable def spec_l5Shl {α : Type} : Nat → List Int → Int → (List Int → Option α) → Option α := Classical.choose spec_l5Shl.ex α
theorem spec_l5Shl.eq : @spec_l5Shl = @spec_l5Shl.b := funext fun α => congrFun (Classical.choose_spec spec_l5Shl.ex) α

noncomputable def spec_l5Sub_J8.b {α : Type} (N : Nat) (v1226 : List Int) (v1227 : List Int) (v1228 : Int) (v1229 : Int) (v1230 : Int) (v1231 : List Int) (k0 : List Int → List Int → Int → Int → Int → List Int → Option α) : Option α :=
 let x1232 := (decide (v1230 < (0 : Int)))
 bif x1232 then
  let x1233 := (IntKind.i64.wrap (v1230 + (65536 : Int)))
  k0 v1226 v1227 (1 : Int) v1229 x1233 v1231
 else
  k0 v1226 v1227 v1228 v1229 v1230 v1231
theorem spec_l5Sub_J8.ex : ∃ f : ((α : Type) → Nat → List Int → List Int → Int → Int → Int → List Int → (List Int → List Int → Int → Int → Int → List Int → Option α) → Option α), f = fun α => @spec_l5Sub_J8.b α := ⟨_, rfl⟩
noncomputable def spec_l5Sub_J8 {α : Type} : Nat → List Int → List Int → Int → Int → Int → List Int → (List Int → List Int → Int → Int → Int → List Int → Option α) → Option α := Classical.choose spec_l5Sub_J8.ex α
theorem spec_l5Sub_J8.eq : @spec_l5Sub_J8 = @spec_l5Sub_J8.b := funext fun α => congrFun (Classical.choose_spec spec_l5Sub_J8.ex) α
noncomputable def spec_l5Sub_L0r {α : Type} (N : Nat) (next : List Int → List Int → Int → Int → List Int → Option α) (k0 : List Int → Option α) (v1215 : List Int) (v1216 : List Int) (v1217 : Int) (v1218 : Int) (v1219 : List Int) : Option α :=
 let x1220 := ((v1215.length : Nat) : Int)
 let x1221 := decide (v1218 < x1220)
 bif x1221 then
  bif (decide (v1218 < (0 : Int))) then
   none
  else
   match v1215[v1218.toNat]? with
   | some x1222 =>
    spec_l5At N v1216 v1218
     (fun x1223 =>
      let x1224 := IntKind.i64.wrap (x1222 - x1223)
      let x1225 := IntKind.i64.wrap (x1224 - v1217)
      spec_l5Sub_J8 N v1215 v1216 (0 : Int) v1218 x1225 v1219
       (fun x1234 x1235 x1236 x1237 x1238 x1239 =>
        let x1240 := [x1238]
        bif decide (x1239.length + x1240.length ≤ 8796093022208) then
         let x1241 := x1239 ++ x1240
         let x1242 := (IntKind.i64.wrap (x1237 + (1 : Int)))
         next x1234 x1235 x1236 x1242 x1241
        else
         none))
   | none => none
 else
  k0 v1219
noncomputable def spec_l5Sub_L0.b {α : Type} (N n : Nat) (v1215 : List Int) (v1216 : List Int) (v1217 : Int) (v1218 : Int) (v1219 : List Int) (k0 : List Int → Option α) : Option α :=
  Nat.rec (motive := fun _ => List Int → List Int → Int → Int → List Int → Option α) (fun _ _ _ _ _ => none) (fun _ next => spec_l5Sub_L0r N next k0) n v1215 v1216 v1217 v1218 v1219
theorem spec_l5Sub_L0.ex : ∃ f : ((α : Type) → Nat → Nat → List Int → List Int → Int → Int → List Int → (List Int → Option α) → Option α), f = fun α => @spec_l5Sub_L0.b α := ⟨_, rfl⟩
noncomputable def spec_l5Sub_L0 {α : Type} : Nat → Nat → List Int → List Int → Int → Int → List Int → (List Int → Option α) → Option α := Classical.choose spec_l5Sub_L0.ex α
theorem spec_l5Sub_L0.eq : @spec_l5Sub_L0 = @spec_l5Sub_L0.b := funext fun α => congrFun (Classical.choose_spec spec_l5Sub_L0.ex) α
theorem spec_l5Sub_L0.zero {α : Type} (N : Nat) (v1215 : List Int) (v1216 : List Int) (v1217 : Int) (v1218 : Int) (v1219 : List Int) (k0 : List Int → Option α) : spec_l5Sub_L0 N 0 v1215 v1216 v1217 v1218 v1219 k0 = none := by rw [spec_l5Sub_L0.eq]; rfl
theorem spec_l5Sub_L0.succ {α : Type} (N n : Nat) (v1215 : List Int) (v1216 : List Int) (v1217 : Int) (v1218 : Int) (v1219 : List Int) (k0 : List Int → Option α) : spec_l5Sub_L0 N (n + 1) v1215 v1216 v1217 v1218 v1219 k0 = spec_l5Sub_L0r N (fun y0 y1 y2 y3 y4 => spec_l5Sub_L0 N n y0 y1 y2 y3 y4 k0) k0 v1215 v1216 v1217 v1218 v1219 := by rw [spec_l5Sub_L0.eq]; rfl
/-- spec.l5Sub -/
noncomputable def spec_l5Sub.b {α : Type} (N : Nat) (a1213 : List Int) (a1214 : List Int) (k0 : List Int → Option α) : Option α :=
 spec_l5Sub_L0 N N a1213 a1214 (0 : Int) (0 : Int) []
  (fun x1243 =>
   spec_l5Trim N x1243
    (fun x1244 =>
     k0 x1244))
theorem spec_l5Sub.ex : ∃ f : ((α : Type) → Nat → List Int → List Int → (List Int → Option α) → Option α), f = fun α => @spec_l5Sub.b α := ⟨_, rfl⟩
noncomputable def spec_l5Sub {α : Type} : Nat → List Int → List Int → (List Int → Option α) → Option α := Classical.choose spec_l5Sub.ex α
theorem spec_l5Sub.eq : @spec_l5Sub = @spec_l5Sub.b := funext fun α => congrFun (Classical.choose_spec spec_l5Sub.ex) α

noncomputable def spec_l5Div_J17.b {α : Type} (N : Nat) (v1184 : Int) (v1185 : Int) (v1186 : Int) (v1187 : Int) (v1188 : List Int) (v1189 : List Int) (v1190 : List Int) (v1191 : List Int) (k0 : Int → Int → Int → Int → List Int → List Int → List Int → List Int → Option α) : Option α :=
 let x1192 := (decide ((65536 : Int) ≤ v1187))
 bif x1192 then
  k0 v1184 v1185 v1186 (65535 : Int) v1188 v1189 v1190 v1191
 else
  k0 v1184 v1185 v1186 v1187 v1188 v1189 v1190 v1191
theorem spec_l5Div_J17.ex : ∃ f : ((α : Type) → Nat → Int → Int → Int → Int → List Int → List Int → List Int → List Int → (Int → Int → Int → Int → List Int → List Int → List Int → List Int → Option α) → Option α), f = fun α => @spec_l5Div_J17.b α := ⟨_, rfl⟩
noncomputable def spec_l5Div_J17 {α : Type} : Nat → Int → Int → Int → Int → List Int → List Int → List Int → List Int → (Int → Int → Int → Int → List Int → List Int → List Int → List Int → Option α) → Option α := Classical.choose spec_l5Div_J17.ex α
theorem spec_l5Div_J17.eq : @spec_l5Div_J17 = @spec_l5Div_J17.b := funext fun α => congrFun (Classical.choose_spec spec_l5Div_J17.ex) α
noncomputable def spec_l5Div_L2r {α : Type} (N : Nat) (next : Int → Int → Int → Int → List Int → List Int → List Int → List Int → List Int → Option α) (k0 : Int → Int → Int → Int → List Int → List Int → List Int → List Int → List Int → Option α) (v1202 : Int) (v1203 : Int) (v1204 : Int) (v1205 : Int) (v1206 : List Int) (v1207 : List Int) (v1208 : List Int) (v1209 : List Int) (v1210 : List Int) : Option α :=
 spec_l5Cmp N v1210 v1209
  (fun x1211 =>
   let x1212 := (decide ((0 : Int) < x1211))
   bif x1212 then
    spec_l5Sub N v1210 v1207
     (fun x1245 =>
      let x1246 := (IntKind.i64.wrap (v1205 - (1 : Int)))
      next v1202 v1203 v1204 x1246 v1206 v1207 v1208 v1209 x1245)
   else
    k0 v1202 v1203 v1204 v1205 v1206 v1207 v1208 v1209 v1210)
noncomputable def spec_l5Div_L2.b {α : Type} (N n : Nat) (v1202 : Int) (v1203 : Int) (v1204 : Int) (v1205 : Int) (v1206 : List Int) (v1207 : List Int) (v1208 : List Int) (v1209 : List Int) (v1210 : List Int) (k0 : Int → Int → Int → Int → List Int → List Int → List Int → List Int → List Int → Option α) : Option α :=
  Nat.rec (motive := fun _ => Int → Int → Int → Int → List Int → List Int → List Int → List Int → List Int → Option α) (fun _ _ _ _ _ _ _ _ _ => none) (fun _ next => spec_l5Div_L2r N next k0) n v1202 v1203 v1204 v1205 v1206 v1207 v1208 v1209 v1210
theorem spec_l5Div_L2.ex : ∃ f : ((α : Type) → Nat → Nat → Int → Int → Int → Int → List Int → List Int → List Int → List Int → List Int → (Int → Int → Int → Int → List Int → List Int → List Int → List Int → List Int → Option α) → Option α), f = fun α => @spec_l5Div_L2.b α := ⟨_, rfl⟩
noncomputable def spec_l5Div_L2 {α : Type} : Nat → Nat → Int → Int → Int → Int → List Int → List Int → List Int → List Int → List Int → (Int → Int → Int → Int → List Int → List Int → List Int → List Int → List Int → Option α) → Option α := Classical.choose spec_l5Div_L2.ex α
theorem spec_l5Div_L2.eq : @spec_l5Div_L2 = @spec_l5Div_L2.b := funext fun α => congrFun (Classical.choose_spec spec_l5Div_L2.ex) α
theorem spec_l5Div_L2.zero {α : Type} (N : Nat) (v1202 : Int) (v1203 : Int) (v1204 : Int) (v1205 : Int) (v1206 : List Int) (v1207 : List Int) (v1208 : List Int) (v1209 : List Int) (v1210 : List Int) (k0 : Int → Int → Int → Int → List Int → List Int → List Int → List Int → List Int → Option α) : spec_l5Div_L2 N 0 v1202 v1203 v1204 v1205 v1206 v1207 v1208 v1209 v1210 k0 = none := by rw [spec_l5Div_L2.eq]; rfl
theorem spec_l5Div_L2.succ {α : Type} (N n : Nat) (v1202 : Int) (v1203 : Int) (v1204 : Int) (v1205 : Int) (v1206 : List Int) (v1207 : List Int) (v1208 : List Int) (v1209 : List Int) (v1210 : List Int) (k0 : Int → Int → Int → Int → List Int → List Int → List Int → List Int → List Int → Option α) : spec_l5Div_L2 N (n + 1) v1202 v1203 v1204 v1205 v1206 v1207 v1208 v1209 v1210 k0 = spec_l5Div_L2r N (fun y0 y1 y2 y3 y4 y5 y6 y7 y8 => spec_l5Div_L2 N n y0 y1 y2 y3 y4 y5 y6 y7 y8 k0) k0 v1202 v1203 v1204 v1205 v1206 v1207 v1208 v1209 v1210 := by rw [spec_l5Div_L2.eq]; rfl
noncomputable def spec_l5Div_L0r {α : Type} (N : Nat) (next : Int → Int → Int → List Int → List Int → List Int → List Int → Option α) (k0 : Int → List Int → List Int → Option α) (v1147 : Int) (v1148 : Int) (v1149 : Int) (v1150 : List Int) (v1151 : List Int) (v1152 : List Int) (v1153 : List Int) : Option α :=
 let x1154 := (decide ((0 : Int) ≤ v1149))
 bif x1154 then
  spec_l5Shl N v1153 (1 : Int)
   (fun x1170 =>
    bif (decide (v1149 < (0 : Int))) then
     none
    else
     bif decide (v1149.toNat < v1150.length) then
      match v1150[v1149.toNat]? with
      | some x1171 =>
       let x1172 := IntKind.u64.wrap x1171
       spec_NatOf N x1172
        (fun x1173 =>
         spec_l5Add N x1170 x1173
          (fun x1174 =>
           spec_l5Trim N x1174
            (fun x1175 =>
             spec_l5At N x1175 v1148
              (fun x1176 =>
               let x1177 := (IntKind.i64.wrap (x1176 * (65536 : Int)))
               let x1178 := (IntKind.i64.wrap (v1148 - (1 : Int)))
               spec_l5At N x1175 x1178
                (fun x1179 =>
                 let x1180 := IntKind.i64.wrap (x1177 + x1179)
                 let x1181 := (IntKind.i64.wrap (v1148 - (1 : Int)))
                 bif (decide (x1181 < (0 : Int))) then
                  none
                 else
                  bif decide (x1181.toNat < v1151.length) then
                   match v1151[x1181.toNat]? with
                   | some x1182 =>
                    bif (decide (x1182 = (0 : Int))) then
                     none
                    else
                     let x1183 := IntKind.i64.wrap (Int.tdiv x1180 x1182)
                     spec_l5Div_J17 N v1147 v1148 v1149 x1183 v1150 v1151 v1152 x1175
                      (fun x1193 x1194 x1195 x1196 x1197 x1198 x1199 x1200 =>
                       spec_l5Times N x1198 x1196
                        (fun x1201 =>
                         spec_l5Div_L2 N N x1193 x1194 x1195 x1196 x1197 x1198 x1199 x1200 x1201
                          (fun x1247 x1248 x1249 x1250 x1251 x1252 x1253 x1254 x1255 =>
                           bif (decide (x1249 < (0 : Int))) then
                            none
                           else
                            bif decide (x1249.toNat < x1253.length) then
                             match x1253[x1249.toNat]? with
                             | some x1256 =>
                              let x1257 := x1253.set x1249.toNat x1250
                              spec_l5Sub N x1254 x1255
                               (fun x1258 =>
                                let x1259 := (IntKind.i64.wrap (x1249 - (1 : Int)))
                                next x1247 x1248 x1259 x1251 x1252 x1257 x1258)
                             | none => none
                            else
                             none)))
                   | none => none
                  else
                   none)))))
      | none => none
     else
      none)
 else
  k0 v1147 v1152 v1153
noncomputable def spec_l5Div_L0.b {α : Type} (N n : Nat) (v1147 : Int) (v1148 : Int) (v1149 : Int) (v1150 : List Int) (v1151 : List Int) (v1152 : List Int) (v1153 : List Int) (k0 : Int → List Int → List Int → Option α) : Option α :=
  Nat.rec (motive := fun _ => Int → Int → Int → List Int → List Int → List Int → List Int → Option α) (fun _ _ _ _ _ _ _ => none) (fun _ next => spec_l5Div_L0r N next k0) n v1147 v1148 v1149 v1150 v1151 v1152 v1153
theorem spec_l5Div_L0.ex : ∃ f : ((α : Type) → Nat → Nat → Int → Int → Int → List Int → List Int → List Int → List Int → (Int → List Int → List Int → Option α) → Option α), f = fun α => @spec_l5Div_L0.b α := ⟨_, rfl⟩
noncomputable def spec_l5Div_L0 {α : Type} : Nat → Nat → Int → Int → Int → List Int → List Int → List Int → List Int → (Int → List Int → List Int → Option α) → Option α := Classical.choose spec_l5Div_L0.ex α
theorem spec_l5Div_L0.eq : @spec_l5Div_L0 = @spec_l5Div_L0.b := funext fun α => congrFun (Classical.choose_spec spec_l5Div_L0.ex) α
theorem spec_l5Div_L0.zero {α : Type} (N : Nat) (v1147 : Int) (v1148 : Int) (v1149 : Int) (v1150 : List Int) (v1151 : List Int) (v1152 : List Int) (v1153 : List Int) (k0 : Int → List Int → List Int → Option α) : spec_l5Div_L0 N 0 v1147 v1148 v1149 v1150 v1151 v1152 v1153 k0 = none := by rw [spec_l5Div_L0.eq]; rfl
theorem spec_l5Div_L0.succ {α : Type} (N n : Nat) (v1147 : Int) (v1148 : Int) (v1149 : Int) (v1150 : List Int) (v1151 : List Int) (v1152 : List Int) (v1153 : List Int) (k0 : Int → List Int → List Int → Option α) : spec_l5Div_L0 N (n + 1) v1147 v1148 v1149 v1150 v1151 v1152 v1153 k0 = spec_l5Div_L0r N (fun y0 y1 y2 y3 y4 y5 y6 => spec_l5Div_L0 N n y0 y1 y2 y3 y4 y5 y6 k0) k0 v1147 v1148 v1149 v1150 v1151 v1152 v1153 := by rw [spec_l5Div_L0.eq]; rfl
/-- spec.l5Div -/
noncomputable def spec_l5Div.b {α : Type} (N : Nat) (a1060 : List Int) (a1061 : List Int) (k0 : List Int → List Int → Option α) : Option α :=
 spec_l5Cmp N a1060 a1061
  (fun x1084 =>
   let x1085 := (decide (x1084 < (0 : Int)))
   bif x1085 then
    spec_l5Trim N a1060
     (fun x1086 =>
      k0 [] x1086)
   else
    let x1087 := ((a1061.length : Nat) : Int)
    let x1088 := (decide (x1087 = (1 : Int)))
    bif x1088 then
     match a1061[0]? with
     | some x1089 =>
      spec_l5DivSmall N a1060 x1089
       (fun x1113 x1114 =>
        let x1115 := IntKind.u64.wrap x1113
        spec_NatOf N x1115
         (fun x1116 =>
          k0 x1114 x1116))
     | none => none
    else
     let x1117 := ((a1061.length : Nat) : Int)
     let x1118 := (IntKind.i64.wrap (x1117 - (1 : Int)))
     bif (decide (x1118 < (0 : Int))) then
      none
     else
      match a1061[x1118.toNat]? with
      | some x1119 =>
       let x1120 := (IntKind.i64.wrap (x1119 + (1 : Int)))
       bif (decide (x1120 = (0 : Int))) then
        none
       else
        let x1121 := (IntKind.i64.wrap (Int.tdiv (65536 : Int) x1120))
        spec_l5Times N a1060 x1121
         (fun x1122 =>
          spec_l5Times N a1061 x1121
           (fun x1123 =>
            let x1124 := ((x1123.length : Nat) : Int)
            let x1125 := ((x1122.length : Nat) : Int)
            let x1126 := IntKind.i64.wrap (x1125 - x1124)
            let x1127 := (IntKind.i64.wrap (x1126 + (1 : Int)))
            bif (decide ((0 : Int) ≤ x1127)) then
             bif decide (x1127 ≤ x1127) then
              bif (decide (x1127 ≤ ((8796093022208 : Nat) : Int))) then
               let x1128 := (List.replicate x1127.toNat (0 : Int))
               let x1129 := ((x1122.length : Nat) : Int)
               let x1130 := IntKind.i64.wrap (x1129 - x1124)
               let x1131 := (IntKind.i64.wrap (x1130 + (1 : Int)))
               spec_l5Top N x1122 x1131
                (fun x1144 =>
                 let x1145 := ((x1122.length : Nat) : Int)
                 let x1146 := IntKind.i64.wrap (x1145 - x1124)
                 spec_l5Div_L0 N N x1121 x1124 x1146 x1122 x1123 x1128 x1144
                  (fun x1260 x1261 x1262 =>
                   spec_l5DivSmall N x1262 x1260
                    (fun _ x1264 =>
                     spec_l5Trim N x1261
                      (fun x1265 =>
                       k0 x1265 x1264))))
              else
               none
             else
              none
            else
             none))
      | none => none)
theorem spec_l5Div.ex : ∃ f : ((α : Type) → Nat → List Int → List Int → (List Int → List Int → Option α) → Option α), f = fun α => @spec_l5Div.b α := ⟨_, rfl⟩
noncomputable def spec_l5Div {α : Type} : Nat → List Int → List Int → (List Int → List Int → Option α) → Option α := Classical.choose spec_l5Div.ex α
theorem spec_l5Div.eq : @spec_l5Div = @spec_l5Div.b := funext fun α => congrFun (Classical.choose_spec spec_l5Div.ex) α

noncomputable def spec_l5Gcd_L0r {α : Type} (N : Nat) (next : List Int → List Int → Option α) (k0 : List Int → Option α) (v1056 : List Int) (v1057 : List Int) : Option α :=
 let x1058 := ((v1057.length : Nat) : Int)
 let x1059 := (decide ((0 : Int) < x1058))
 bif x1059 then
  spec_l5Div N v1056 v1057
   (fun _ x1267 =>
    next v1057 x1267)
 else
  k0 v1056
noncomputable def spec_l5Gcd_L0.b {α : Type} (N n : Nat) (v1056 : List Int) (v1057 : List Int) (k0 : List Int → Option α) : Option α :=
  Nat.rec (motive := fun _ => List Int → List Int → Option α) (fun _ _ => none) (fun _ next => spec_l5Gcd_L0r N next k0) n v1056 v1057
theorem spec_l5Gcd_L0.ex : ∃ f : ((α : Type) → Nat → Nat → List Int → List Int → (List Int → Option α) → Option α), f = fun α => @spec_l5Gcd_L0.b α := ⟨_, rfl⟩
noncomputable def spec_l5Gcd_L0 {α : Type} : Nat → Nat → List Int → List Int → (List Int → Option α) → Option α := Classical.choose spec_l5Gcd_L0.ex α
theorem spec_l5Gcd_L0.eq : @spec_l5Gcd_L0 = @spec_l5Gcd_L0.b := funext fun α => congrFun (Classical.choose_spec spec_l5Gcd_L0.ex) α
theorem spec_l5Gcd_L0.zero {α : Type} (N : Nat) (v1056 : List Int) (v1057 : List Int) (k0 : List Int → Option α) : spec_l5Gcd_L0 N 0 v1056 v1057 k0 = none := by rw [spec_l5Gcd_L0.eq]; rfl
theorem spec_l5Gcd_L0.succ {α : Type} (N n : Nat) (v1056 : List Int) (v1057 : List Int) (k0 : List Int → Option α) : spec_l5Gcd_L0 N (n + 1) v1056 v1057 k0 = spec_l5Gcd_L0r N (fun y0 y1 => spec_l5Gcd_L0 N n y0 y1 k0) k0 v1056 v1057 := by rw [spec_l5Gcd_L0.eq]; rfl
/-- spec.l5Gcd -/
noncomputable def spec_l5Gcd.b {α : Type} (N : Nat) (a1052 : List Int) (a1053 : List Int) (k0 : List Int → Option α) : Option α :=
 spec_l5Trim N a1052
  (fun x1054 =>
   spec_l5Trim N a1053
    (fun x1055 =>
     spec_l5Gcd_L0 N N x1054 x1055
      (fun x1268 =>
       k0 x1268)))
theorem spec_l5Gcd.ex : ∃ f : ((α : Type) → Nat → List Int → List Int → (List Int → Option α) → Option α), f = fun α => @spec_l5Gcd.b α := ⟨_, rfl⟩
noncomputable def spec_l5Gcd {α : Type} : Nat → List Int → List Int → (List Int → Option α) → Option α := Classical.choose spec_l5Gcd.ex α
theorem spec_l5Gcd.eq : @spec_l5Gcd = @spec_l5Gcd.b := funext fun α => congrFun (Classical.choose_spec spec_l5Gcd.ex) α

/-- spec.l6One -/
noncomputable def spec_l6One.b {α : Type} (N : Nat) (a1270 : List Int) (k0 : Bool → Option α) : Option α :=
 let x1271 := ((a1270.length : Nat) : Int)
 let x1272 := (decide (x1271 = (1 : Int)))
 bif x1272 then
  match a1270[0]? with
  | some x1273 =>
   let x1274 := (decide (x1273 = (1 : Int)))
   k0 x1274
  | none => none
 else
  k0 false
theorem spec_l6One.ex : ∃ f : ((α : Type) → Nat → List Int → (Bool → Option α) → Option α), f = fun α => @spec_l6One.b α := ⟨_, rfl⟩
noncomputable def spec_l6One {α : Type} : Nat → List Int → (Bool → Option α) → Option α := Classical.choose spec_l6One.ex α
theorem spec_l6One.eq : @spec_l6One = @spec_l6One.b := funext fun α => congrFun (Classical.choose_spec spec_l6One.ex) α

/-- spec.FracOk -/
noncomputable def spec_FracOk.b {α : Type} (N : Nat) (a1023 : Bool × (List Int) × (List Int) × Unit) (k0 : Bool → Option α) : Option α :=
 spec_NatOk N a1023.2.1
  (fun x1044 =>
   let x1045 := !x1044
   bif x1045 then
    k0 false
   else
    spec_NatOk N a1023.2.2.1
     (fun x1046 =>
      let x1047 := !x1046
      bif x1047 then
       k0 false
      else
       let x1048 := ((a1023.2.2.1.length : Nat) : Int)
       let x1049 := (decide (x1048 = (0 : Int)))
       bif x1049 then
        k0 false
       else
        let x1050 := ((a1023.2.1.length : Nat) : Int)
        let x1051 := (decide (x1050 = (0 : Int)))
        bif x1051 then
         bif a1023.1 then
          k0 false
         else
          spec_l5Gcd N a1023.2.1 a1023.2.2.1
           (fun x1269 =>
            spec_l6One N x1269
             (fun x1275 =>
              k0 x1275))
        else
         spec_l5Gcd N a1023.2.1 a1023.2.2.1
          (fun x1276 =>
           spec_l6One N x1276
            (fun x1277 =>
             k0 x1277))))
theorem spec_FracOk.ex : ∃ f : ((α : Type) → Nat → (Bool × (List Int) × (List Int) × Unit) → (Bool → Option α) → Option α), f = fun α => @spec_FracOk.b α := ⟨_, rfl⟩
noncomputable def spec_FracOk {α : Type} : Nat → (Bool × (List Int) × (List Int) × Unit) → (Bool → Option α) → Option α := Classical.choose spec_FracOk.ex α
theorem spec_FracOk.eq : @spec_FracOk = @spec_FracOk.b := funext fun α => congrFun (Classical.choose_spec spec_FracOk.ex) α

noncomputable def spec_FracRead_J2.b {α : Type} (N : Nat) (v649 : ByteArray) (v650 : Bool) (v651 : Bool) (v652 : List Int) (v653 : List Int) (k0 : ByteArray → Bool → Bool → List Int → List Int → Option α) : Option α :=
 bif v650 then
  bif (decide ((1 : Int) ≤ ((v649.size : Nat) : Int))) then
   let x654 := v649.extract 1 v649.size
   k0 x654 v650 v651 v652 v653
  else
   none
 else
  k0 v649 v650 v651 v652 v653
theorem spec_FracRead_J2.ex : ∃ f : ((α : Type) → Nat → ByteArray → Bool → Bool → List Int → List Int → (ByteArray → Bool → Bool → List Int → List Int → Option α) → Option α), f = fun α => @spec_FracRead_J2.b α := ⟨_, rfl⟩
noncomputable def spec_FracRead_J2 {α : Type} : Nat → ByteArray → Bool → Bool → List Int → List Int → (ByteArray → Bool → Bool → List Int → List Int → Option α) → Option α := Classical.choose spec_FracRead_J2.ex α
theorem spec_FracRead_J2.eq : @spec_FracRead_J2 = @spec_FracRead_J2.b := funext fun α => congrFun (Classical.choose_spec spec_FracRead_J2.ex) α
noncomputable def spec_FracRead_L0r {α : Type} (N : Nat) (next : ByteArray → Bool → ByteArray → ByteArray → Int → Bool → List Int → List Int → Option α) (k0 : (Bool × (List Int) × (List Int) × Unit) → Bool → Option α) (k1 : Bool → ByteArray → ByteArray → Bool → List Int → List Int → Option α) (v660 : ByteArray) (v661 : Bool) (v662 : ByteArray) (v663 : ByteArray) (v664 : Int) (v665 : Bool) (v666 : List Int) (v667 : List Int) : Option α :=
 let x668 := ((v660.size : Nat) : Int)
 let x669 := decide (v664 < x668)
 bif x669 then
  bif (decide (v664 < (0 : Int))) then
   none
  else
   match (v660[v664.toNat]? : Option UInt8) with
   | some x670 =>
    let x671 := ((x670.toNat : Nat) : Int)
    let x672 := (decide (x671 = (47 : Int)))
    bif x672 then
     bif (decide ((0 : Int) ≤ v664)) then
      bif (decide (v664 ≤ ((v660.size : Nat) : Int))) then
       let x673 := v660.extract 0 v664.toNat
       let x674 := (IntKind.i64.wrap (v664 + (1 : Int)))
       bif (decide ((0 : Int) ≤ x674)) then
        bif (decide (x674 ≤ ((v660.size : Nat) : Int))) then
         let x675 := v660.extract x674.toNat v660.size
         let x676 := (eqS x675 (⟨#[49]⟩ : ByteArray))
         bif x676 then
          k0 (false, ([], ([], ()))) false
         else
          k1 v661 x673 x675 v665 v666 v667
        else
         none
       else
        none
      else
       none
     else
      none
    else
     let x677 := (IntKind.i64.wrap (v664 + (1 : Int)))
     next v660 v661 v662 v663 x677 v665 v666 v667
   | none => none
 else
  k1 v661 v662 v663 v665 v666 v667
noncomputable def spec_FracRead_L0.b {α : Type} (N n : Nat) (v660 : ByteArray) (v661 : Bool) (v662 : ByteArray) (v663 : ByteArray) (v664 : Int) (v665 : Bool) (v666 : List Int) (v667 : List Int) (k0 : (Bool × (List Int) × (List Int) × Unit) → Bool → Option α) (k1 : Bool → ByteArray → ByteArray → Bool → List Int → List Int → Option α) : Option α :=
  Nat.rec (motive := fun _ => ByteArray → Bool → ByteArray → ByteArray → Int → Bool → List Int → List Int → Option α) (fun _ _ _ _ _ _ _ _ => none) (fun _ next => spec_FracRead_L0r N next k0 k1) n v660 v661 v662 v663 v664 v665 v666 v667
theorem spec_FracRead_L0.ex : ∃ f : ((α : Type) → Nat → Nat → ByteArray → Bool → ByteArray → ByteArray → Int → Bool → List Int → List Int → ((Bool × (List Int) × (List Int) × Unit) → Bool → Option α) → (Bool → ByteArray → ByteArray → Bool → List Int → List Int → Option α) → Option α), f = fun α => @spec_FracRead_L0.b α := ⟨_, rfl⟩
noncomputable def spec_FracRead_L0 {α : Type} : Nat → Nat → ByteArray → Bool → ByteArray → ByteArray → Int → Bool → List Int → List Int → ((Bool × (List Int) × (List Int) × Unit) → Bool → Option α) → (Bool → ByteArray → ByteArray → Bool → List Int → List Int → Option α) → Option α := Classical.choose spec_FracRead_L0.ex α
theorem spec_FracRead_L0.eq : @spec_FracRead_L0 = @spec_FracRead_L0.b := funext fun α => congrFun (Classical.choose_spec spec_FracRead_L0.ex) α
theorem spec_FracRead_L0.zero {α : Type} (N : Nat) (v660 : ByteArray) (v661 : Bool) (v662 : ByteArray) (v663 : ByteArray) (v664 : Int) (v665 : Bool) (v666 : List Int) (v667 : List Int) (k0 : (Bool × (List Int) × (List Int) × Unit) → Bool → Option α) (k1 : Bool → ByteArray → ByteArray → Bool → List Int → List Int → Option α) : spec_FracRead_L0 N 0 v660 v661 v662 v663 v664 v665 v666 v667 k0 k1 = none := by rw [spec_FracRead_L0.eq]; rfl
theorem spec_FracRead_L0.succ {α : Type} (N n : Nat) (v660 : ByteArray) (v661 : Bool) (v662 : ByteArray) (v663 : ByteArray) (v664 : Int) (v665 : Bool) (v666 : List Int) (v667 : List Int) (k0 : (Bool × (List Int) × (List Int) × Unit) → Bool → Option α) (k1 : Bool → ByteArray → ByteArray → Bool → List Int → List Int → Option α) : spec_FracRead_L0 N (n + 1) v660 v661 v662 v663 v664 v665 v666 v667 k0 k1 = spec_FracRead_L0r N (fun y0 y1 y2 y3 y4 y5 y6 y7 => spec_FracRead_L0 N n y0 y1 y2 y3 y4 y5 y6 y7 k0 k1) k0 k1 v660 v661 v662 v663 v664 v665 v666 v667 := by rw [spec_FracRead_L0.eq]; rfl
/-- spec.FracRead -/
noncomputable def spec_FracRead.b {α : Type} (N : Nat) (a643 : ByteArray) (k0 : (Bool × (List Int) × (List Int) × Unit) → Bool → Option α) : Option α :=
 let x644 := ((a643.size : Nat) : Int)
 let x645 := (decide ((0 : Int) < x644))
 bif x645 then
  match (a643[0]? : Option UInt8) with
  | some x646 =>
   let x647 := ((x646.toNat : Nat) : Int)
   let x648 := (decide (x647 = (45 : Int)))
   spec_FracRead_J2 N a643 x648 false [] []
    (fun x655 x656 x657 x658 x659 =>
     spec_FracRead_L0 N N x655 x656 x655 (⟨#[49]⟩ : ByteArray) (0 : Int) x657 x658 x659
      (fun x678 x679 =>
       k0 x678 x679)
      (fun x680 x681 x682 _ _ _ =>
       spec_NatRead N x681
        (fun x1017 x1018 =>
         spec_NatRead N x682
          (fun x1019 x1020 =>
           let x1021 := !x1018
           bif x1021 then
            k0 (false, ([], ([], ()))) false
           else
            let x1022 := !x1020
            bif x1022 then
             k0 (false, ([], ([], ()))) false
            else
             spec_FracOk N (x680, (x1017, (x1019, ())))
              (fun x1278 =>
               let x1279 := !x1278
               bif x1279 then
                k0 (false, ([], ([], ()))) false
               else
                k0 (x680, (x1017, (x1019, ()))) true)))))
  | none => none
 else
  spec_FracRead_J2 N a643 false false [] []
   (fun x1280 x1281 x1282 x1283 x1284 =>
    spec_FracRead_L0 N N x1280 x1281 x1280 (⟨#[49]⟩ : ByteArray) (0 : Int) x1282 x1283 x1284
     (fun x1285 x1286 =>
      k0 x1285 x1286)
     (fun x1287 x1288 x1289 _ _ _ =>
      spec_NatRead N x1288
       (fun x1293 x1294 =>
        spec_NatRead N x1289
         (fun x1295 x1296 =>
          let x1297 := !x1294
          bif x1297 then
           k0 (false, ([], ([], ()))) false
          else
           let x1298 := !x1296
           bif x1298 then
            k0 (false, ([], ([], ()))) false
           else
            spec_FracOk N (x1287, (x1293, (x1295, ())))
             (fun x1299 =>
              let x1300 := !x1299
              bif x1300 then
               k0 (false, ([], ([], ()))) false
              else
               k0 (x1287, (x1293, (x1295, ()))) true)))))
theorem spec_FracRead.ex : ∃ f : ((α : Type) → Nat → ByteArray → ((Bool × (List Int) × (List Int) × Unit) → Bool → Option α) → Option α), f = fun α => @spec_FracRead.b α := ⟨_, rfl⟩
noncomputable def spec_FracRead {α : Type} : Nat → ByteArray → ((Bool × (List Int) × (List Int) × Unit) → Bool → Option α) → Option α := Classical.choose spec_FracRead.ex α
theorem spec_FracRead.eq : @spec_FracRead = @spec_FracRead.b := funext fun α => congrFun (Classical.choose_spec spec_FracRead.ex) α

/-- internal/stringslite.HasPrefix -/
noncomputable def internal_stringslite_HasPrefix.b {α : Type} (N : Nat) (a1308 : ByteArray) (a1309 : ByteArray) (k0 : Bool → Option α) : Option α :=
 let x1310 := ((a1308.size : Nat) : Int)
 let x1311 := ((a1309.size : Nat) : Int)
 let x1312 := decide (x1311 ≤ x1310)
 bif x1312 then
  let x1313 := ((a1309.size : Nat) : Int)
  bif (decide ((0 : Int) ≤ x1313)) then
   bif (decide (x1313 ≤ ((a1308.size : Nat) : Int))) then
    let x1314 := a1308.extract 0 x1313.toNat
    let x1315 := eqS x1314 a1309
    k0 x1315
   else
    none
  else
   none
 else
  k0 false
theorem internal_stringslite_HasPrefix.ex : ∃ f : ((α : Type) → Nat → ByteArray → ByteArray → (Bool → Option α) → Option α), f = fun α => @internal_stringslite_HasPrefix.b α := ⟨_, rfl⟩
noncomputable def internal_stringslite_HasPrefix {α : Type} : Nat → ByteArray → ByteArray → (Bool → Option α) → Option α := Classical.choose internal_stringslite_HasPrefix.ex α
theorem internal_stringslite_HasPrefix.eq : @internal_stringslite_HasPrefix = @internal_stringslite_HasPrefix.b := funext fun α => congrFun (Classical.choose_spec internal_stringslite_HasPrefix.ex) α

/-- internal/stringslite.CutPrefix -/
noncomputable def internal_stringslite_CutPrefix.b {α : Type} (N : Nat) (a1306 : ByteArray) (a1307 : ByteArray) (k0 : ByteArray → Bool → Option α) : Option α :=
 internal_stringslite_HasPrefix N a1306 a1307
  (fun x1316 =>
   let x1317 := !x1316
   bif x1317 then
    k0 a1306 false
   else
    let x1318 := ((a1307.size : Nat) : Int)
    bif (decide ((0 : Int) ≤ x1318)) then
     bif (decide (x1318 ≤ ((a1306.size : Nat) : Int))) then
      let x1319 := a1306.extract x1318.toNat a1306.size
      k0 x1319 true
     else
      none
    else
     none)
theorem internal_stringslite_CutPrefix.ex : ∃ f : ((α : Type) → Nat → ByteArray → ByteArray → (ByteArray → Bool → Option α) → Option α), f = fun α => @internal_stringslite_CutPrefix.b α := ⟨_, rfl⟩
noncomputable def internal_stringslite_CutPrefix {α : Type} : Nat → ByteArray → ByteArray → (ByteArray → Bool → Option α) → Option α := Classical.choose internal_stringslite_CutPrefix.ex α
theorem internal_stringslite_CutPrefix.eq : @internal_stringslite_CutPrefix = @internal_stringslite_CutPrefix.b := funext fun α => congrFun (Classical.choose_spec internal_stringslite_CutPrefix.ex) α

/-- strings.CutPrefix -/
noncomputable def strings_CutPrefix.b {α : Type} (N : Nat) (a1304 : ByteArray) (a1305 : ByteArray) (k0 : ByteArray → Bool → Option α) : Option α :=
 internal_stringslite_CutPrefix N a1304 a1305
  (fun x1320 x1321 =>
   k0 x1320 x1321)
theorem strings_CutPrefix.ex : ∃ f : ((α : Type) → Nat → ByteArray → ByteArray → (ByteArray → Bool → Option α) → Option α), f = fun α => @strings_CutPrefix.b α := ⟨_, rfl⟩
noncomputable def strings_CutPrefix {α : Type} : Nat → ByteArray → ByteArray → (ByteArray → Bool → Option α) → Option α := Classical.choose strings_CutPrefix.ex α
theorem strings_CutPrefix.eq : @strings_CutPrefix = @strings_CutPrefix.b := funext fun α => congrFun (Classical.choose_spec strings_CutPrefix.ex) α

-- prim internal_stringslite_Index
/-- internal/stringslite.Cut -/
noncomputable def internal_stringslite_Cut.b {α : Type} (N : Nat) (a1326 : ByteArray) (a1327 : ByteArray) (k0 : ByteArray → ByteArray → Bool → Option α) : Option α :=
 internal_stringslite_Index N a1326 a1327
  (fun x1328 =>
   let x1329 := (decide ((0 : Int) ≤ x1328))
   bif x1329 then
    bif (decide ((0 : Int) ≤ x1328)) then
     bif (decide (x1328 ≤ ((a1326.size : Nat) : Int))) then
      let x1330 := a1326.extract 0 x1328.toNat
      let x1331 := ((a1327.size : Nat) : Int)
      let x1332 := IntKind.i64.wrap (x1328 + x1331)
      bif (decide ((0 : Int) ≤ x1332)) then
       bif (decide (x1332 ≤ ((a1326.size : Nat) : Int))) then
        let x1333 := a1326.extract x1332.toNat a1326.size
        k0 x1330 x1333 true
       else
        none
      else
       none
     else
      none
    else
     none
   else
    k0 a1326 ByteArray.empty false)
theorem internal_stringslite_Cut.ex : ∃ f : ((α : Type) → Nat → ByteArray → ByteArray → (ByteArray → ByteArray → Bool → Option α) → Option α), f = fun α => @internal_stringslite_Cut.b α := ⟨_, rfl⟩
noncomputable def internal_stringslite_Cut {α : Type} : Nat → ByteArray → ByteArray → (ByteArray → ByteArray → Bool → Option α) → Option α := Classical.choose internal_stringslite_Cut.ex α
theorem internal_stringslite_Cut.eq : @internal_stringslite_Cut = @internal_stringslite_Cut.b := funext fun α => congrFun (Classical.choose_spec internal_stringslite_Cut.ex) α

/-- strings.Cut -/
noncomputable def strings_Cut.b {α : Type} (N : Nat) (a1324 : ByteArray) (a1325 : ByteArray) (k0 : ByteArray → ByteArray → Bool → Option α) : Option α :=
 internal_stringslite_Cut N a1324 a1325
  (fun x1334 x1335 x1336 =>
   k0 x1334 x1335 x1336)
theorem strings_Cut.ex : ∃ f : ((α : Type) → Nat → ByteArray → ByteArray → (ByteArray → ByteArray → Bool → Option α) → Option α), f = fun α => @strings_Cut.b α := ⟨_, rfl⟩
noncomputable def strings_Cut {α : Type} : Nat → ByteArray → ByteArray → (ByteArray → ByteArray → Bool → Option α) → Option α := Classical.choose strings_Cut.ex α
theorem strings_Cut.eq : @strings_Cut = @strings_Cut.b := funext fun α => congrFun (Classical.choose_spec strings_Cut.ex) α

noncomputable def impl_isDigits_L0r {α : Type} (N : Nat) (next : ByteArray → Int → Int → Option α) (k0 : Bool → Option α) (k1 : ByteArray → Option α) (v1345 : ByteArray) (v1346 : Int) (v1347 : Int) : Option α :=
 let x1348 := decide (v1347 < v1346)
 bif x1348 then
  bif (decide (v1347 < (0 : Int))) then
   none
  else
   match (v1345[v1347.toNat]? : Option UInt8) with
   | some x1349 =>
    let x1350 := ((x1349.toNat : Nat) : Int)
    let x1351 := (decide (x1350 < (48 : Int)))
    bif x1351 then
     k0 false
    else
     bif (decide (v1347 < (0 : Int))) then
      none
     else
      match (v1345[v1347.toNat]? : Option UInt8) with
      | some x1352 =>
       let x1353 := ((x1352.toNat : Nat) : Int)
       let x1354 := (decide ((57 : Int) < x1353))
       bif x1354 then
        k0 false
       else
        let x1355 := (IntKind.i64.wrap (v1347 + (1 : Int)))
        next v1345 v1346 x1355
      | none => none
   | none => none
 else
  k1 v1345
noncomputable def impl_isDigits_L0.b {α : Type} (N n : Nat) (v1345 : ByteArray) (v1346 : Int) (v1347 : Int) (k0 : Bool → Option α) (k1 : ByteArray → Option α) : Option α :=
  Nat.rec (motive := fun _ => ByteArray → Int → Int → Option α) (fun _ _ _ => none) (fun _ next => impl_isDigits_L0r N next k0 k1) n v1345 v1346 v1347
theorem impl_isDigits_L0.ex : ∃ f : ((α : Type) → Nat → Nat → ByteArray → Int → Int → (Bool → Option α) → (ByteArray → Option α) → Option α), f = fun α => @impl_isDigits_L0.b α := ⟨_, rfl⟩
noncomputable def impl_isDigits_L0 {α : Type} : Nat → Nat → ByteArray → Int → Int → (Bool → Option α) → (ByteArray → Option α) → Option α := Classical.choose impl_isDigits_L0.ex α
theorem impl_isDigits_L0.eq : @impl_isDigits_L0 = @impl_isDigits_L0.b := funext fun α => congrFun (Classical.choose_spec impl_isDigits_L0.ex) α
theorem impl_isDigits_L0.zero {α : Type} (N : Nat) (v1345 : ByteArray) (v1346 : Int) (v1347 : Int) (k0 : Bool → Option α) (k1 : ByteArray → Option α) : impl_isDigits_L0 N 0 v1345 v1346 v1347 k0 k1 = none := by rw [impl_isDigits_L0.eq]; rfl
theorem impl_isDigits_L0.succ {α : Type} (N n : Nat) (v1345 : ByteArray) (v1346 : Int) (v1347 : Int) (k0 : Bool → Option α) (k1 : ByteArray → Option α) : impl_isDigits_L0 N (n + 1) v1345 v1346 v1347 k0 k1 = impl_isDigits_L0r N (fun y0 y1 y2 => impl_isDigits_L0 N n y0 y1 y2 k0 k1) k0 k1 v1345 v1346 v1347 := by rw [impl_isDigits_L0.eq]; rfl
/-- impl.isDigits -/
noncomputable def impl_isDigits.b {α : Type} (N : Nat) (a1343 : ByteArray) (k0 : Bool → Option α) : Option α :=
 let x1344 := ((a1343.size : Nat) : Int)
 impl_isDigits_L0 N N a1343 x1344 (0 : Int)
  (fun x1356 =>
   k0 x1356)
  (fun x1357 =>
   let x1358 := !eqS x1357 ByteArray.empty
   k0 x1358)
theorem impl_isDigits.ex : ∃ f : ((α : Type) → Nat → ByteArray → (Bool → Option α) → Option α), f = fun α => @impl_isDigits.b α := ⟨_, rfl⟩
noncomputable def impl_isDigits {α : Type} : Nat → ByteArray → (Bool → Option α) → Option α := Classical.choose impl_isDigits.ex α
theorem impl_isDigits.eq : @impl_isDigits = @impl_isDigits.b := funext fun α => congrFun (Classical.choose_spec impl_isDigits.ex) α

noncomputable def impl_trim_L0r {α : Type} (N : Nat) (next : List Int → Option α) (k0 : List Int → Option α) (v1566 : List Int) : Option α :=
 let x1567 := ((v1566.length : Nat) : Int)
 let x1568 := (decide ((0 : Int) < x1567))
 bif x1568 then
  let x1569 := ((v1566.length : Nat) : Int)
  let x1570 := (IntKind.i64.wrap (x1569 - (1 : Int)))
  bif (decide (x1570 < (0 : Int))) then
   none
  else
   match v1566[x1570.toNat]? with
   | some x1571 =>
    let x1572 := (decide (x1571 = (0 : Int)))
    bif x1572 then
     let x1573 := ((v1566.length : Nat) : Int)
     let x1574 := (IntKind.i64.wrap (x1573 - (1 : Int)))
     bif (decide ((0 : Int) ≤ x1574)) then
      bif (decide (x1574 ≤ ((v1566.length : Nat) : Int))) then
       let x1575 := v1566.take x1574.toNat
       next x1575
      else
       none
     else
      none
    else
     k0 v1566
   | none => none
 else
  k0 v1566
noncomputable def impl_trim_L0.b {α : Type} (N n : Nat) (v1566 : List Int) (k0 : List Int → Option α) : Option α :=
  Nat.rec (motive := fun _ => List Int → Option α) (fun _ => none) (fun _ next => impl_trim_L0r N next k0) n v1566
theorem impl_trim_L0.ex : ∃ f : ((α : Type) → Nat → Nat → List Int → (List Int → Option α) → Option α), f = fun α => @impl_trim_L0.b α := ⟨_, rfl⟩
noncomputable def impl_trim_L0 {α : Type} : Nat → Nat → List Int → (List Int → Option α) → Option α := Classical.choose impl_trim_L0.ex α
theorem impl_trim_L0.eq : @impl_trim_L0 = @impl_trim_L0.b := funext fun α => congrFun (Classical.choose_spec impl_trim_L0.ex) α
theorem impl_trim_L0.zero {α : Type} (N : Nat) (v1566 : List Int) (k0 : List Int → Option α) : impl_trim_L0 N 0 v1566 k0 = none := by rw [impl_trim_L0.eq]; rfl
theorem impl_trim_L0.succ {α : Type} (N n : Nat) (v1566 : List Int) (k0 : List Int → Option α) : impl_trim_L0 N (n + 1) v1566 k0 = impl_trim_L0r N (fun y0 => impl_trim_L0 N n y0 k0) k0 v1566 := by rw [impl_trim_L0.eq]; rfl
/-- impl.trim -/
noncomputable def impl_trim.b {α : Type} (N : Nat) (a1565 : List Int) (k0 : List Int → Option α) : Option α :=
 impl_trim_L0 N N a1565
  (fun x1576 =>
   k0 x1576)
theorem impl_trim.ex : ∃ f : ((α : Type) → Nat → List Int → (List Int → Option α) → Option α), f = fun α => @impl_trim.b α := ⟨_, rfl⟩
noncomputable def impl_trim {α : Type} : Nat → List Int → (List Int → Option α) → Option α := Classical.choose impl_trim.ex α
theorem impl_trim.eq : @impl_trim = @impl_trim.b := funext fun α => congrFun (Classical.choose_spec impl_trim.ex) α

noncomputable def impl_natMul_L2r {α : Type} (N : Nat) (next : List Int → Int → Int → Int → List Int → Int → Int → List Int → Int → Int → List Int → Option α) (k0 : List Int → Int → Int → List Int → Int → Int → List Int → Option α) (v1526 : List Int) (v1527 : Int) (v1528 : Int) (v1529 : Int) (v1530 : List Int) (v1531 : Int) (v1532 : Int) (v1533 : List Int) (v1534 : Int) (v1535 : Int) (v1536 : List Int) : Option α :=
 let x1537 := decide (v1535 < v1534)
 bif x1537 then
  bif (decide (v1535 < (0 : Int))) then
   none
  else
   match v1533[v1535.toNat]? with
   | some x1538 =>
    let x1539 := IntKind.i64.wrap (v1527 + v1535)
    bif (decide (x1539 < (0 : Int))) then
     none
    else
     bif decide (x1539.toNat < v1536.length) then
      match v1536[x1539.toNat]? with
      | some x1540 =>
       let x1541 := IntKind.i64.wrap (v1528 * x1538)
       let x1542 := IntKind.i64.wrap (x1540 + x1541)
       let x1543 := IntKind.i64.wrap (x1542 + v1529)
       let x1544 := IntKind.i64.wrap (v1527 + v1535)
       let x1545 := (bitI .and .i64 x1543 (65535 : Int))
       bif (decide (x1544 < (0 : Int))) then
        none
       else
        bif decide (x1544.toNat < v1536.length) then
         match v1536[x1544.toNat]? with
         | some x1546 =>
          let x1547 := v1536.set x1544.toNat x1545
          let x1548 := (shrI .i64 x1543 (16 : Int))
          let x1549 := (IntKind.i64.wrap (v1535 + (1 : Int)))
          next v1526 v1527 v1528 x1548 v1530 v1531 v1532 v1533 v1534 x1549 x1547
         | none => none
        else
         none
      | none => none
     else
      none
   | none => none
 else
  k0 v1526 v1527 v1529 v1530 v1531 v1532 v1536
noncomputable def impl_natMul_L2.b {α : Type} (N n : Nat) (v1526 : List Int) (v1527 : Int) (v1528 : Int) (v1529 : Int) (v1530 : List Int) (v1531 : Int) (v1532 : Int) (v1533 : List Int) (v1534 : Int) (v1535 : Int) (v1536 : List Int) (k0 : List Int → Int → Int → List Int → Int → Int → List Int → Option α) : Option α :=
  Nat.rec (motive := fun _ => List Int → Int → Int → Int → List Int → Int → Int → List Int → Int → Int → List Int → Option α) (fun _ _ _ _ _ _ _ _ _ _ _ => none) (fun _ next => impl_natMul_L2r N next k0) n v1526 v1527 v1528 v1529 v1530 v1531 v1532 v1533 v1534 v1535 v1536
theorem impl_natMul_L2.ex : ∃ f : ((α : Type) → Nat → Nat → List Int → Int → Int → Int → List Int → Int → Int → List Int → Int → Int → List Int → (List Int → Int → Int → List Int → Int → Int → List Int → Option α) → Option α), f = fun α => @impl_natMul_L2.b α := ⟨_, rfl⟩
noncomputable def impl_natMul_L2 {α : Type} : Nat → Nat → List Int → Int → Int → Int → List Int → Int → Int → List Int → Int → Int → List Int → (List Int → Int → Int → List Int → Int → Int → List Int → Option α) → Option α := Classical.choose impl_natMul_L2.ex α
theorem impl_natMul_L2.eq : @impl_natMul_L2 = @impl_natMul_L2.b := funext fun α => congrFun (Classical.choose_spec impl_natMul_L2.ex) α
theorem impl_natMul_L2.zero {α : Type} (N : Nat) (v1526 : List Int) (v1527 : Int) (v1528 : Int) (v1529 : Int) (v1530 : List Int) (v1531 : Int) (v1532 : Int) (v1533 : List Int) (v1534 : Int) (v1535 : Int) (v1536 : List Int) (k0 : List Int → Int → Int → List Int → Int → Int → List Int → Option α) : impl_natMul_L2 N 0 v1526 v1527 v1528 v1529 v1530 v1531 v1532 v1533 v1534 v1535 v1536 k0 = none := by rw [impl_natMul_L2.eq]; rfl
theorem impl_natMul_L2.succ {α : Type} (N n : Nat) (v1526 : List Int) (v1527 : Int) (v1528 : Int) (v1529 : Int) (v1530 : List Int) (v1531 : Int) (v1532 : Int) (v1533 : List Int) (v1534 : Int) (v1535 : Int) (v1536 : List Int) (k0 : List Int → Int → Int → List Int → Int → Int → List Int → Option α) : impl_natMul_L2 N (n + 1) v1526 v1527 v1528 v1529 v1530 v1531 v1532 v1533 v1534 v1535 v1536 k0 = impl_natMul_L2r N (fun y0 y1 y2 y3 y4 y5 y6 y7 y8 y9 y10 => impl_natMul_L2 N n y0 y1 y2 y3 y4 y5 y6 y7 y8 y9 y10 k0) k0 v1526 v1527 v1528 v1529 v1530 v1531 v1532 v1533 v1534 v1535 v1536 := by rw [impl_natMul_L2.eq]; rfl
noncomputable def impl_natMul_L0r {α : Type} (N : Nat) (next : List Int → List Int → Int → Int → List Int → Option α) (k0 : List Int → Option α) (v1518 : List Int) (v1519 : List Int) (v1520 : Int) (v1521 : Int) (v1522 : List Int) : Option α :=
 let x1523 := decide (v1521 < v1520)
 bif x1523 then
  bif (decide (v1521 < (0 : Int))) then
   none
  else
   match v1519[v1521.toNat]? with
   | some x1524 =>
    let x1525 := ((v1518.length : Nat) : Int)
    impl_natMul_L2 N N v1518 v1521 x1524 (0 : Int) v1519 v1520 v1521 v1518 x1525 (0 : Int) v1522
     (fun x1550 x1551 x1552 x1553 x1554 x1555 x1556 =>
      let x1557 := ((x1550.length : Nat) : Int)
      let x1558 := IntKind.i64.wrap (x1551 + x1557)
      bif (decide (x1558 < (0 : Int))) then
       none
      else
       bif decide (x1558.toNat < x1556.length) then
        match x1556[x1558.toNat]? with
        | some x1559 =>
         let x1560 := IntKind.i64.wrap (x1559 + x1552)
         bif (decide (x1558 < (0 : Int))) then
          none
         else
          bif decide (x1558.toNat < x1556.length) then
           match x1556[x1558.toNat]? with
           | some x1561 =>
            let x1562 := x1556.set x1558.toNat x1560
            let x1563 := (IntKind.i64.wrap (x1555 + (1 : Int)))
            next x1550 x1553 x1554 x1563 x1562
           | none => none
          else
           none
        | none => none
       else
        none)
   | none => none
 else
  k0 v1522
noncomputable def impl_natMul_L0.b {α : Type} (N n : Nat) (v1518 : List Int) (v1519 : List Int) (v1520 : Int) (v1521 : Int) (v1522 : List Int) (k0 : List Int → Option α) : Option α :=
  Nat.rec (motive := fun _ => List Int → List Int → Int → Int → List Int → Option α) (fun _ _ _ _ _ => none) (fun _ next => impl_natMul_L0r N next k0) n v1518 v1519 v1520 v1521 v1522
theorem impl_natMul_L0.ex : ∃ f : ((α : Type) → Nat → Nat → List Int → List Int → Int → Int → List Int → (List Int → Option α) → Option α), f = fun α => @impl_natMul_L0.b α := ⟨_, rfl⟩
noncomputable def impl_natMul_L0 {α : Type} : Nat → Nat → List Int → List Int → Int → Int → List Int → (List Int → Option α) → Option α := Classical.choose impl_natMul_L0.ex α
theorem impl_natMul_L0.eq : @impl_natMul_L0 = @impl_natMul_L0.b := funext fun α => congrFun (Classical.choose_spec impl_natMul_L0.ex) α
theorem impl_natMul_L0.zero {α : Type} (N : Nat) (v1518 : List Int) (v1519 : List Int) (v1520 : Int) (v1521 : Int) (v1522 : List Int) (k0 : List Int → Option α) : impl_natMul_L0 N 0 v1518 v1519 v1520 v1521 v1522 k0 = none := by rw [impl_natMul_L0.eq]; rfl
theorem impl_natMul_L0.succ {α : Type} (N n : Nat) (v1518 : List Int) (v1519 : List Int) (v1520 : Int) (v1521 : Int) (v1522 : List Int) (k0 : List Int → Option α) : impl_natMul_L0 N (n + 1) v1518 v1519 v1520 v1521 v1522 k0 = impl_natMul_L0r N (fun y0 y1 y2 y3 y4 => impl_natMul_L0 N n y0 y1 y2 y3 y4 k0) k0 v1518 v1519 v1520 v1521 v1522 := by rw [impl_natMul_L0.eq]; rfl
/-- impl.natMul -/
noncomputable def impl_natMul.b {α : Type} (N : Nat) (a1510 : List Int) (a1511 : List Int) (k0 : List Int → Option α) : Option α :=
 let x1512 := ((a1510.length : Nat) : Int)
 let x1513 := ((a1511.length : Nat) : Int)
 let x1514 := IntKind.i64.wrap (x1512 + x1513)
 let x1515 := (IntKind.i64.wrap (x1514 + (1 : Int)))
 bif (decide ((0 : Int) ≤ x1515)) then
  bif decide (x1515 ≤ x1515) then
   bif (decide (x1515 ≤ ((8796093022208 : Nat) : Int))) then
    let x1516 := (List.replicate x1515.toNat (0 : Int))
    let x1517 := ((a1510.length : Nat) : Int)
    impl_natMul_L0 N N a1511 a1510 x1517 (0 : Int) x1516
     (fun x1564 =>
      impl_trim N x1564
       (fun x1577 =>
        k0 x1577))
   else
    none
  else
   none
 else
  none
theorem impl_natMul.ex : ∃ f : ((α : Type) → Nat → List Int → List Int → (List Int → Option α) → Option α), f = fun α => @impl_natMul.b α := ⟨_, rfl⟩
noncomputable def impl_natMul {α : Type} : Nat → List Int → List Int → (List Int → Option α) → Option α := Classical.choose impl_natMul.ex α
theorem impl_natMul.eq : @impl_natMul = @impl_natMul.b := funext fun α => congrFun (Classical.choose_spec impl_natMul.ex) α

noncomputable def impl_natOf_L0r {α : Type} (N : Nat) (next : Int → List Int → Option α) (k0 : List Int → Option α) (v1584 : Int) (v1585 : List Int) : Option α :=
 let x1586 := (decide ((0 : Int) < v1584))
 bif x1586 then
  let x1587 := (bitI .and .u64 v1584 (65535 : Int))
  let x1588 := IntKind.i64.wrap x1587
  let x1589 := [x1588]
  bif decide (v1585.length + x1589.length ≤ 8796093022208) then
   let x1590 := v1585 ++ x1589
   let x1591 := (shrI .u64 v1584 (16 : Int))
   next x1591 x1590
  else
   none
 else
  k0 v1585
noncomputable def impl_natOf_L0.b {α : Type} (N n : Nat) (v1584 : Int) (v1585 : List Int) (k0 : List Int → Option α) : Option α :=
  Nat.rec (motive := fun _ => Int → List Int → Option α) (fun _ _ => none) (fun _ next => impl_natOf_L0r N next k0) n v1584 v1585
theorem impl_natOf_L0.ex : ∃ f : ((α : Type) → Nat → Nat → Int → List Int → (List Int → Option α) → Option α), f = fun α => @impl_natOf_L0.b α := ⟨_, rfl⟩
noncomputable def impl_natOf_L0 {α : Type} : Nat → Nat → Int → List Int → (List Int → Option α) → Option α := Classical.choose impl_natOf_L0.ex α
theorem impl_natOf_L0.eq : @impl_natOf_L0 = @impl_natOf_L0.b := funext fun α => congrFun (Classical.choose_spec impl_natOf_L0.ex) α
theorem impl_natOf_L0.zero {α : Type} (N : Nat) (v1584 : Int) (v1585 : List Int) (k0 : List Int → Option α) : impl_natOf_L0 N 0 v1584 v1585 k0 = none := by rw [impl_natOf_L0.eq]; rfl
theorem impl_natOf_L0.succ {α : Type} (N n : Nat) (v1584 : Int) (v1585 : List Int) (k0 : List Int → Option α) : impl_natOf_L0 N (n + 1) v1584 v1585 k0 = impl_natOf_L0r N (fun y0 y1 => impl_natOf_L0 N n y0 y1 k0) k0 v1584 v1585 := by rw [impl_natOf_L0.eq]; rfl
/-- impl.natOf -/
noncomputable def impl_natOf.b {α : Type} (N : Nat) (a1583 : Int) (k0 : List Int → Option α) : Option α :=
 impl_natOf_L0 N N a1583 []
  (fun x1592 =>
   k0 x1592)
theorem impl_natOf.ex : ∃ f : ((α : Type) → Nat → Int → (List Int → Option α) → Option α), f = fun α => @impl_natOf.b α := ⟨_, rfl⟩
noncomputable def impl_natOf {α : Type} : Nat → Int → (List Int → Option α) → Option α := Classical.choose impl_natOf.ex α
theorem impl_natOf.eq : @impl_natOf = @impl_natOf.b := funext fun α => congrFun (Classical.choose_spec impl_natOf.ex) α

noncomputable def impl_natAdd_L0r {α : Type} (N : Nat) (next : List Int → Int → Int → List Int → Option α) (k0 : List Int → Option α) (v1604 : List Int) (v1605 : Int) (v1606 : Int) (v1607 : List Int) : Option α :=
 let x1608 := decide (v1606 < v1605)
 bif x1608 then
  bif (decide (v1606 < (0 : Int))) then
   none
  else
   match v1604[v1606.toNat]? with
   | some x1609 =>
    bif (decide (v1606 < (0 : Int))) then
     none
    else
     bif decide (v1606.toNat < v1607.length) then
      match v1607[v1606.toNat]? with
      | some x1610 =>
       let x1611 := IntKind.i64.wrap (x1610 + x1609)
       bif (decide (v1606 < (0 : Int))) then
        none
       else
        bif decide (v1606.toNat < v1607.length) then
         match v1607[v1606.toNat]? with
         | some x1612 =>
          let x1613 := v1607.set v1606.toNat x1611
          let x1614 := (IntKind.i64.wrap (v1606 + (1 : Int)))
          next v1604 v1605 x1614 x1613
         | none => none
        else
         none
      | none => none
     else
      none
   | none => none
 else
  k0 v1607
noncomputable def impl_natAdd_L0.b {α : Type} (N n : Nat) (v1604 : List Int) (v1605 : Int) (v1606 : Int) (v1607 : List Int) (k0 : List Int → Option α) : Option α :=
  Nat.rec (motive := fun _ => List Int → Int → Int → List Int → Option α) (fun _ _ _ _ => none) (fun _ next => impl_natAdd_L0r N next k0) n v1604 v1605 v1606 v1607
theorem impl_natAdd_L0.ex : ∃ f : ((α : Type) → Nat → Nat → List Int → Int → Int → List Int → (List Int → Option α) → Option α), f = fun α => @impl_natAdd_L0.b α := ⟨_, rfl⟩
noncomputable def impl_natAdd_L0 {α : Type} : Nat → Nat → List Int → Int → Int → List Int → (List Int → Option α) → Option α := Classical.choose impl_natAdd_L0.ex α
theorem impl_natAdd_L0.eq : @impl_natAdd_L0 = @impl_natAdd_L0.b := funext fun α => congrFun (Classical.choose_spec impl_natAdd_L0.ex) α
theorem impl_natAdd_L0.zero {α : Type} (N : Nat) (v1604 : List Int) (v1605 : Int) (v1606 : Int) (v1607 : List Int) (k0 : List Int → Option α) : impl_natAdd_L0 N 0 v1604 v1605 v1606 v1607 k0 = none := by rw [impl_natAdd_L0.eq]; rfl
theorem impl_natAdd_L0.succ {α : Type} (N n : Nat) (v1604 : List Int) (v1605 : Int) (v1606 : Int) (v1607 : List Int) (k0 : List Int → Option α) : impl_natAdd_L0 N (n + 1) v1604 v1605 v1606 v1607 k0 = impl_natAdd_L0r N (fun y0 y1 y2 y3 => impl_natAdd_L0 N n y0 y1 y2 y3 k0) k0 v1604 v1605 v1606 v1607 := by rw [impl_natAdd_L0.eq]; rfl
noncomputable def impl_natAdd_L2r {α : Type} (N : Nat) (next : Int → Int → List Int → Option α) (k0 : List Int → Option α) (v1618 : Int) (v1619 : Int) (v1620 : List Int) : Option α :=
 let x1621 := decide (v1619 < v1618)
 bif x1621 then
  let x1622 := (IntKind.i64.wrap (v1619 + (1 : Int)))
  bif (decide (x1622 < (0 : Int))) then
   none
  else
   bif decide (x1622.toNat < v1620.length) then
    match v1620[x1622.toNat]? with
    | some x1623 =>
     bif (decide (v1619 < (0 : Int))) then
      none
     else
      bif decide (v1619.toNat < v1620.length) then
       match v1620[v1619.toNat]? with
       | some x1624 =>
        let x1625 := (shrI .i64 x1624 (16 : Int))
        let x1626 := IntKind.i64.wrap (x1623 + x1625)
        bif (decide (x1622 < (0 : Int))) then
         none
        else
         bif decide (x1622.toNat < v1620.length) then
          match v1620[x1622.toNat]? with
          | some x1627 =>
           let x1628 := v1620.set x1622.toNat x1626
           bif (decide (v1619 < (0 : Int))) then
            none
           else
            bif decide (v1619.toNat < x1628.length) then
             match x1628[v1619.toNat]? with
             | some x1629 =>
              let x1630 := (bitI .and .i64 x1629 (65535 : Int))
              bif (decide (v1619 < (0 : Int))) then
               none
              else
               bif decide (v1619.toNat < x1628.length) then
                match x1628[v1619.toNat]? with
                | some x1631 =>
                 let x1632 := x1628.set v1619.toNat x1630
                 let x1633 := (IntKind.i64.wrap (v1619 + (1 : Int)))
                 next v1618 x1633 x1632
                | none => none
               else
                none
             | none => none
            else
             none
          | none => none
         else
          none
       | none => none
      else
       none
    | none => none
   else
    none
 else
  k0 v1620
noncomputable def impl_natAdd_L2.b {α : Type} (N n : Nat) (v1618 : Int) (v1619 : Int) (v1620 : List Int) (k0 : List Int → Option α) : Option α :=
  Nat.rec (motive := fun _ => Int → Int → List Int → Option α) (fun _ _ _ => none) (fun _ next => impl_natAdd_L2r N next k0) n v1618 v1619 v1620
theorem impl_natAdd_L2.ex : ∃ f : ((α : Type) → Nat → Nat → Int → Int → List Int → (List Int → Option α) → Option α), f = fun α => @impl_natAdd_L2.b α := ⟨_, rfl⟩
noncomputable def impl_natAdd_L2 {α : Type} : Nat → Nat → Int → Int → List Int → (List Int → Option α) → Option α := Classical.choose impl_natAdd_L2.ex α
theorem impl_natAdd_L2.eq : @impl_natAdd_L2 = @impl_natAdd_L2.b := funext fun α => congrFun (Classical.choose_spec impl_natAdd_L2.ex) α
theorem impl_natAdd_L2.zero {α : Type} (N : Nat) (v1618 : Int) (v1619 : Int) (v1620 : List Int) (k0 : List Int → Option α) : impl_natAdd_L2 N 0 v1618 v1619 v1620 k0 = none := by rw [impl_natAdd_L2.eq]; rfl
theorem impl_natAdd_L2.succ {α : Type} (N n : Nat) (v1618 : Int) (v1619 : Int) (v1620 : List Int) (k0 : List Int → Option α) : impl_natAdd_L2 N (n + 1) v1618 v1619 v1620 k0 = impl_natAdd_L2r N (fun y0 y1 y2 => impl_natAdd_L2 N n y0 y1 y2 k0) k0 v1618 v1619 v1620 := by rw [impl_natAdd_L2.eq]; rfl
/-- impl.natAdd -/
noncomputable def impl_natAdd.b {α : Type} (N : Nat) (a1594 : List Int) (a1595 : List Int) (k0 : List Int → Option α) : Option α :=
 let x1596 := ((a1594.length : Nat) : Int)
 let x1597 := ((a1595.length : Nat) : Int)
 let x1598 := maxI x1596 x1597
 let x1599 := (IntKind.i64.wrap (x1598 + (1 : Int)))
 bif (decide ((0 : Int) ≤ x1599)) then
  bif decide (x1599 ≤ x1599) then
   bif (decide (x1599 ≤ ((8796093022208 : Nat) : Int))) then
    let x1600 := (List.replicate x1599.toNat (0 : Int))
    let x1601 := List.take (min a1594.length x1600.length) a1594 ++ List.drop (min a1594.length x1600.length) x1600
    let x1603 := ((a1595.length : Nat) : Int)
    impl_natAdd_L0 N N a1595 x1603 (0 : Int) x1601
     (fun x1615 =>
      let x1616 := ((x1615.length : Nat) : Int)
      let x1617 := (IntKind.i64.wrap (x1616 - (1 : Int)))
      impl_natAdd_L2 N N x1617 (0 : Int) x1615
       (fun x1634 =>
        impl_trim N x1634
         (fun x1635 =>
          k0 x1635)))
   else
    none
  else
   none
 else
  none
theorem impl_natAdd.ex : ∃ f : ((α : Type) → Nat → List Int → List Int → (List Int → Option α) → Option α), f = fun α => @impl_natAdd.b α := ⟨_, rfl⟩
noncomputable def impl_natAdd {α : Type} : Nat → List Int → List Int → (List Int → Option α) → Option α := Classical.choose impl_natAdd.ex α
theorem impl_natAdd.eq : @impl_natAdd = @impl_natAdd.b := funext fun α => congrFun (Classical.choose_spec impl_natAdd.ex) α

noncomputable def impl_natRead_L0r {α : Type} (N : Nat) (next : ByteArray → List Int → Int → Int → Option α) (k0 : List Int → Option α) (v1504 : ByteArray) (v1505 : List Int) (v1506 : Int) (v1507 : Int) : Option α :=
 let x1508 := decide (v1507 < v1506)
 bif x1508 then
  let x1509 := [(10 : Int)]
  impl_natMul N v1505 x1509
   (fun x1578 =>
    bif (decide (v1507 < (0 : Int))) then
     none
    else
     match (v1504[v1507.toNat]? : Option UInt8) with
     | some x1579 =>
      let x1580 := ((x1579.toNat : Nat) : Int)
      let x1581 := (IntKind.u8.wrap (x1580 - (48 : Int)))
      let x1582 := IntKind.u64.wrap x1581
      impl_natOf N x1582
       (fun x1593 =>
        impl_natAdd N x1578 x1593
         (fun x1636 =>
          let x1637 := (IntKind.i64.wrap (v1507 + (1 : Int)))
          next v1504 x1636 v1506 x1637))
     | none => none)
 else
  k0 v1505
noncomputable def impl_natRead_L0.b {α : Type} (N n : Nat) (v1504 : ByteArray) (v1505 : List Int) (v1506 : Int) (v1507 : Int) (k0 : List Int → Option α) : Option α :=
  Nat.rec (motive := fun _ => ByteArray → List Int → Int → Int → Option α) (fun _ _ _ _ => none) (fun _ next => impl_natRead_L0r N next k0) n v1504 v1505 v1506 v1507
theorem impl_natRead_L0.ex : ∃ f : ((α : Type) → Nat → Nat → ByteArray → List Int → Int → Int → (List Int → Option α) → Option α), f = fun α => @impl_natRead_L0.b α := ⟨_, rfl⟩
noncomputable def impl_natRead_L0 {α : Type} : Nat → Nat → ByteArray → List Int → Int → Int → (List Int → Option α) → Option α := Classical.choose impl_natRead_L0.ex α
theorem impl_natRead_L0.eq : @impl_natRead_L0 = @impl_natRead_L0.b := funext fun α => congrFun (Classical.choose_spec impl_natRead_L0.ex) α
theorem impl_natRead_L0.zero {α : Type} (N : Nat) (v1504 : ByteArray) (v1505 : List Int) (v1506 : Int) (v1507 : Int) (k0 : List Int → Option α) : impl_natRead_L0 N 0 v1504 v1505 v1506 v1507 k0 = none := by rw [impl_natRead_L0.eq]; rfl
theorem impl_natRead_L0.succ {α : Type} (N n : Nat) (v1504 : ByteArray) (v1505 : List Int) (v1506 : Int) (v1507 : Int) (k0 : List Int → Option α) : impl_natRead_L0 N (n + 1) v1504 v1505 v1506 v1507 k0 = impl_natRead_L0r N (fun y0 y1 y2 y3 => impl_natRead_L0 N n y0 y1 y2 y3 k0) k0 v1504 v1505 v1506 v1507 := by rw [impl_natRead_L0.eq]; rfl
/-- impl.natRead -/
noncomputable def impl_natRead.b {α : Type} (N : Nat) (a1502 : ByteArray) (k0 : List Int → Option α) : Option α :=
 let x1503 := ((a1502.size : Nat) : Int)
 impl_natRead_L0 N N a1502 [] x1503 (0 : Int)
  (fun x1638 =>
   k0 x1638)
theorem impl_natRead.ex : ∃ f : ((α : Type) → Nat → ByteArray → (List Int → Option α) → Option α), f = fun α => @impl_natRead.b α := ⟨_, rfl⟩
noncomputable def impl_natRead {α : Type} : Nat → ByteArray → (List Int → Option α) → Option α := Classical.choose impl_natRead.ex α
theorem impl_natRead.eq : @impl_natRead = @impl_natRead.b := funext fun α => congrFun (Classical.choose_spec impl_natRead.ex) α

/-- slices.Clone[[]int,int] -/
noncomputable def slices_Clone_int_int {α : Type} (N : Nat) (a1 : List Int) (k0 : List Int → Option α) : Option α :=
  bif decide (([] : List Int).length + a1.length ≤ 8796093022208) then k0 a1 else none

/-- slices.Clip[[]int,int] -/
noncomputable def slices_Clip_int_int.b {α : Type} (N : Nat) (a1648 : List Int) (k0 : List Int → Option α) : Option α :=
 let x1649 := ((a1648.length : Nat) : Int)
 let x1650 := ((a1648.length : Nat) : Int)
 bif (decide ((0 : Int) ≤ x1650)) then
  bif (decide (x1650 ≤ ((a1648.length : Nat) : Int))) then
   bif (decide ((0 : Int) ≤ x1649)) then
    bif (decide (x1649 ≤ ((x1650.toNat : Nat) : Int))) then
     let x1651 := a1648.take x1649.toNat
     k0 x1651
    else
     none
   else
    none
  else
   none
 else
  none
theorem slices_Clip_int_int.ex : ∃ f : ((α : Type) → Nat → List Int → (List Int → Option α) → Option α), f = fun α => @slices_Clip_int_int.b α := ⟨_, rfl⟩
noncomputable def slices_Clip_int_int {α : Type} : Nat → List Int → (List Int → Option α) → Option α := Classical.choose slices_Clip_int_int.ex α
theorem slices_Clip_int_int.eq : @slices_Clip_int_int = @slices_Clip_int_int.b := funext fun α => congrFun (Classical.choose_spec slices_Clip_int_int.ex) α

/-- impl.clone[int] -/
noncomputable def impl_clone_int.b {α : Type} (N : Nat) (a1646 : List Int) (k0 : List Int → Option α) : Option α :=
 slices_Clone_int_int N a1646
  (fun x1647 =>
   slices_Clip_int_int N x1647
    (fun x1652 =>
     k0 x1652))
theorem impl_clone_int.ex : ∃ f : ((α : Type) → Nat → List Int → (List Int → Option α) → Option α), f = fun α => @impl_clone_int.b α := ⟨_, rfl⟩
noncomputable def impl_clone_int {α : Type} : Nat → List Int → (List Int → Option α) → Option α := Classical.choose impl_clone_int.ex α
theorem impl_clone_int.eq : @impl_clone_int = @impl_clone_int.b := funext fun α => congrFun (Classical.choose_spec impl_clone_int.ex) α

/-- impl.told -/
noncomputable def impl_told.b {α : Type} (N : Nat) (a1640 : List Int) (a1641 : Bool) (k0 : Bool → List Int → Option α) : Option α :=
 impl_trim N a1640
  (fun x1642 =>
   let x1643 := !a1641
   bif x1643 then
    k0 false []
   else
    let x1644 := ((x1642.length : Nat) : Int)
    let x1645 := (decide ((256 : Int) < x1644))
    bif x1645 then
     k0 false []
    else
     impl_clone_int N x1642
      (fun x1653 =>
       k0 true x1653))
theorem impl_told.ex : ∃ f : ((α : Type) → Nat → List Int → Bool → (Bool → List Int → Option α) → Option α), f = fun α => @impl_told.b α := ⟨_, rfl⟩
noncomputable def impl_told {α : Type} : Nat → List Int → Bool → (Bool → List Int → Option α) → Option α := Classical.choose impl_told.ex α
theorem impl_told.eq : @impl_told = @impl_told.b := funext fun α => congrFun (Classical.choose_spec impl_told.ex) α

/-- impl.NatRead -/
noncomputable def impl_NatRead.b {α : Type} (N : Nat) (a1340 : ByteArray) (k0 : Bool → List Int → Option α) : Option α :=
 let x1341 := ((a1340.size : Nat) : Int)
 let x1342 := (decide ((1300 : Int) < x1341))
 bif x1342 then
  k0 false []
 else
  impl_isDigits N a1340
   (fun x1359 =>
    let x1360 := !x1359
    bif x1360 then
     k0 false []
    else
     match (a1340[0]? : Option UInt8) with
     | some x1361 =>
      let x1362 := ((x1361.toNat : Nat) : Int)
      let x1363 := (decide (x1362 = (48 : Int)))
      bif x1363 then
       let x1364 := ((a1340.size : Nat) : Int)
       let x1365 := (decide ((1 : Int) < x1364))
       bif x1365 then
        k0 false []
       else
        impl_natRead N a1340
         (fun x1639 =>
          impl_told N x1639 true
           (fun x1654 x1655 =>
            k0 x1654 x1655))
      else
       impl_natRead N a1340
        (fun x1656 =>
         impl_told N x1656 true
          (fun x1657 x1658 =>
           k0 x1657 x1658))
     | none => none)
theorem impl_NatRead.ex : ∃ f : ((α : Type) → Nat → ByteArray → (Bool → List Int → Option α) → Option α), f = fun α => @impl_NatRead.b α := ⟨_, rfl⟩
noncomputable def impl_NatRead {α : Type} : Nat → ByteArray → (Bool → List Int → Option α) → Option α := Classical.choose impl_NatRead.ex α
theorem impl_NatRead.eq : @impl_NatRead = @impl_NatRead.b := funext fun α => congrFun (Classical.choose_spec impl_NatRead.ex) α

/-- impl.in -/
noncomputable def impl_in.b {α : Type} (N : Nat) (a1712 : Int) (a1713 : Int) (a1714 : Int) (k0 : Bool → Option α) : Option α :=
 let x1715 := decide (a1713 ≤ a1712)
 bif x1715 then
  let x1716 := decide (a1712 ≤ a1714)
  k0 x1716
 else
  k0 false
theorem impl_in.ex : ∃ f : ((α : Type) → Nat → Int → Int → Int → (Bool → Option α) → Option α), f = fun α => @impl_in.b α := ⟨_, rfl⟩
noncomputable def impl_in {α : Type} : Nat → Int → Int → Int → (Bool → Option α) → Option α := Classical.choose impl_in.ex α
theorem impl_in.eq : @impl_in = @impl_in.b := funext fun α => congrFun (Classical.choose_spec impl_in.ex) α

/-- impl.NatOk$1 -/
noncomputable def impl_NatOk_1.b {α : Type} (N : Nat) (a1711 : Int) (k0 : Bool → Option α) : Option α :=
 impl_in N a1711 (0 : Int) (65535 : Int)
  (fun x1717 =>
   let x1718 := !x1717
   k0 x1718)
theorem impl_NatOk_1.ex : ∃ f : ((α : Type) → Nat → Int → (Bool → Option α) → Option α), f = fun α => @impl_NatOk_1.b α := ⟨_, rfl⟩
noncomputable def impl_NatOk_1 {α : Type} : Nat → Int → (Bool → Option α) → Option α := Classical.choose impl_NatOk_1.ex α
theorem impl_NatOk_1.eq : @impl_NatOk_1 = @impl_NatOk_1.b := funext fun α => congrFun (Classical.choose_spec impl_NatOk_1.ex) α

noncomputable def slices_IndexFunc_int_int__impl_NatOk_1_L0r {α : Type} (N : Nat) (next : List Int → Int → Int → Option α) (k0 : Int → Option α) (k1 : Option α) (v1706 : List Int) (v1707 : Int) (v1708 : Int) : Option α :=
 let x1709 := decide (v1708 < v1707)
 bif x1709 then
  bif (decide (v1708 < (0 : Int))) then
   none
  else
   match v1706[v1708.toNat]? with
   | some x1710 =>
    impl_NatOk_1 N x1710
     (fun x1719 =>
      bif x1719 then
       k0 v1708
      else
       let x1720 := (IntKind.i64.wrap (v1708 + (1 : Int)))
       next v1706 v1707 x1720)
   | none => none
 else
  k1
noncomputable def slices_IndexFunc_int_int__impl_NatOk_1_L0.b {α : Type} (N n : Nat) (v1706 : List Int) (v1707 : Int) (v1708 : Int) (k0 : Int → Option α) (k1 : Option α) : Option α :=
  Nat.rec (motive := fun _ => List Int → Int → Int → Option α) (fun _ _ _ => none) (fun _ next => slices_IndexFunc_int_int__impl_NatOk_1_L0r N next k0 k1) n v1706 v1707 v1708
theorem slices_IndexFunc_int_int__impl_NatOk_1_L0.ex : ∃ f : ((α : Type) → Nat → Nat → List Int → Int → Int → (Int → Option α) → (Option α) → Option α), f = fun α => @slices_IndexFunc_int_int__impl_NatOk_1_L0.b α := ⟨_, rfl⟩
noncomputable def slices_IndexFunc_int_int__impl_NatOk_1_L0 {α : Type} : Nat → Nat → List Int → Int → Int → (Int → Option α) → (Option α) → Option α := Classical.choose slices_IndexFunc_int_int__impl_NatOk_1_L0.ex α
theorem slices_IndexFunc_int_int__impl_NatOk_1_L0.eq : @slices_IndexFunc_int_int__impl_NatOk_1_L0 = @slices_IndexFunc_int_int__impl_NatOk_1_L0.b := funext fun α => congrFun (Classical.choose_spec slices_IndexFunc_int_int__impl_NatOk_1_L0.ex) α
theorem slices_IndexFunc_int_int__impl_NatOk_1_L0.zero {α : Type} (N : Nat) (v1706 : List Int) (v1707 : Int) (v1708 : Int) (k0 : Int → Option α) (k1 : Option α) : slices_IndexFunc_int_int__impl_NatOk_1_L0 N 0 v1706 v1707 v1708 k0 k1 = none := by rw [slices_IndexFunc_int_int__impl_NatOk_1_L0.eq]; rfl
theorem slices_IndexFunc_int_int__impl_NatOk_1_L0.succ {α : Type} (N n : Nat) (v1706 : List Int) (v1707 : Int) (v1708 : Int) (k0 : Int → Option α) (k1 : Option α) : slices_IndexFunc_int_int__impl_NatOk_1_L0 N (n + 1) v1706 v1707 v1708 k0 k1 = slices_IndexFunc_int_int__impl_NatOk_1_L0r N (fun y0 y1 y2 => slices_IndexFunc_int_int__impl_NatOk_1_L0 N n y0 y1 y2 k0 k1) k0 k1 v1706 v1707 v1708 := by rw [slices_IndexFunc_int_int__impl_NatOk_1_L0.eq]; rfl
/-- slices.IndexFunc[[]int,int] -/
noncomputable def slices_IndexFunc_int_int__impl_NatOk_1.b {α : Type} (N : Nat) (a1704 : List Int) (k0 : Int → Option α) : Option α :=
 let x1705 := ((a1704.length : Nat) : Int)
 slices_IndexFunc_int_int__impl_NatOk_1_L0 N N a1704 x1705 (0 : Int)
  (fun x1721 =>
   k0 x1721)
  (
   k0 (-1 : Int))
theorem slices_IndexFunc_int_int__impl_NatOk_1.ex : ∃ f : ((α : Type) → Nat → List Int → (Int → Option α) → Option α), f = fun α => @slices_IndexFunc_int_int__impl_NatOk_1.b α := ⟨_, rfl⟩
noncomputable def slices_IndexFunc_int_int__impl_NatOk_1 {α : Type} : Nat → List Int → (Int → Option α) → Option α := Classical.choose slices_IndexFunc_int_int__impl_NatOk_1.ex α
theorem slices_IndexFunc_int_int__impl_NatOk_1.eq : @slices_IndexFunc_int_int__impl_NatOk_1 = @slices_IndexFunc_int_int__impl_NatOk_1.b := funext fun α => congrFun (Classical.choose_spec slices_IndexFunc_int_int__impl_NatOk_1.ex) α

/-- slices.ContainsFunc[[]int,int] -/
noncomputable def slices_ContainsFunc_int_int__impl_NatOk_1.b {α : Type} (N : Nat) (a1703 : List Int) (k0 : Bool → Option α) : Option α :=
 slices_IndexFunc_int_int__impl_NatOk_1 N a1703
  (fun x1722 =>
   let x1723 := (decide ((0 : Int) ≤ x1722))
   k0 x1723)
theorem slices_ContainsFunc_int_int__impl_NatOk_1.ex : ∃ f : ((α : Type) → Nat → List Int → (Bool → Option α) → Option α), f = fun α => @slices_ContainsFunc_int_int__impl_NatOk_1.b α := ⟨_, rfl⟩
noncomputable def slices_ContainsFunc_int_int__impl_NatOk_1 {α : Type} : Nat → List Int → (Bool → Option α) → Option α := Classical.choose slices_ContainsFunc_int_int__impl_NatOk_1.ex α
theorem slices_ContainsFunc_int_int__impl_NatOk_1.eq : @slices_ContainsFunc_int_int__impl_NatOk_1 = @slices_ContainsFunc_int_int__impl_NatOk_1.b := funext fun α => congrFun (Classical.choose_spec slices_ContainsFunc_int_int__impl_NatOk_1.ex) α

/-- impl.NatOk -/
noncomputable def impl_NatOk.b {α : Type} (N : Nat) (a1698 : List Int) (k0 : Bool → Option α) : Option α :=
 let x1699 := ((a1698.length : Nat) : Int)
 let x1700 := (decide (x1699 ≤ (256 : Int)))
 bif x1700 then
  let x1701 := ((a1698.length : Nat) : Int)
  let x1702 := (decide (x1701 = (0 : Int)))
  bif x1702 then
   slices_ContainsFunc_int_int__impl_NatOk_1 N a1698
    (fun x1724 =>
     let x1725 := !x1724
     k0 x1725)
  else
   let x1726 := ((a1698.length : Nat) : Int)
   let x1727 := (IntKind.i64.wrap (x1726 - (1 : Int)))
   bif (decide (x1727 < (0 : Int))) then
    none
   else
    match a1698[x1727.toNat]? with
    | some x1728 =>
     let x1729 := (!(decide (x1728 = (0 : Int))))
     bif x1729 then
      slices_ContainsFunc_int_int__impl_NatOk_1 N a1698
       (fun x1730 =>
        let x1731 := !x1730
        k0 x1731)
     else
      k0 false
    | none => none
 else
  k0 false
theorem impl_NatOk.ex : ∃ f : ((α : Type) → Nat → List Int → (Bool → Option α) → Option α), f = fun α => @impl_NatOk.b α := ⟨_, rfl⟩
noncomputable def impl_NatOk {α : Type} : Nat → List Int → (Bool → Option α) → Option α := Classical.choose impl_NatOk.ex α
theorem impl_NatOk.eq : @impl_NatOk = @impl_NatOk.b := funext fun α => congrFun (Classical.choose_spec impl_NatOk.ex) α

/-- impl.nats$1 -/
noncomputable def impl_nats_1.b {α : Type} (N : Nat) (a1697 : List Int) (k0 : Bool → Option α) : Option α :=
 impl_NatOk N a1697
  (fun x1732 =>
   let x1733 := !x1732
   k0 x1733)
theorem impl_nats_1.ex : ∃ f : ((α : Type) → Nat → List Int → (Bool → Option α) → Option α), f = fun α => @impl_nats_1.b α := ⟨_, rfl⟩
noncomputable def impl_nats_1 {α : Type} : Nat → List Int → (Bool → Option α) → Option α := Classical.choose impl_nats_1.ex α
theorem impl_nats_1.eq : @impl_nats_1 = @impl_nats_1.b := funext fun α => congrFun (Classical.choose_spec impl_nats_1.ex) α

noncomputable def slices_IndexFunc_int_int__impl_nats_1_L0r {α : Type} (N : Nat) (next : List (List Int) → Int → Int → Option α) (k0 : Int → Option α) (k1 : Option α) (v1692 : List (List Int)) (v1693 : Int) (v1694 : Int) : Option α :=
 let x1695 := decide (v1694 < v1693)
 bif x1695 then
  bif (decide (v1694 < (0 : Int))) then
   none
  else
   match v1692[v1694.toNat]? with
   | some x1696 =>
    impl_nats_1 N x1696
     (fun x1734 =>
      bif x1734 then
       k0 v1694
      else
       let x1735 := (IntKind.i64.wrap (v1694 + (1 : Int)))
       next v1692 v1693 x1735)
   | none => none
 else
  k1
noncomputable def slices_IndexFunc_int_int__impl_nats_1_L0.b {α : Type} (N n : Nat) (v1692 : List (List Int)) (v1693 : Int) (v1694 : Int) (k0 : Int → Option α) (k1 : Option α) : Option α :=
  Nat.rec (motive := fun _ => List (List Int) → Int → Int → Option α) (fun _ _ _ => none) (fun _ next => slices_IndexFunc_int_int__impl_nats_1_L0r N next k0 k1) n v1692 v1693 v1694
theorem slices_IndexFunc_int_int__impl_nats_1_L0.ex : ∃ f : ((α : Type) → Nat → Nat → List (List Int) → Int → Int → (Int → Option α) → (Option α) → Option α), f = fun α => @slices_IndexFunc_int_int__impl_nats_1_L0.b α := ⟨_, rfl⟩
noncomputable def slices_IndexFunc_int_int__impl_nats_1_L0 {α : Type} : Nat → Nat → List (List Int) → Int → Int → (Int → Option α) → (Option α) → Option α := Classical.choose slices_IndexFunc_int_int__impl_nats_1_L0.ex α
theorem slices_IndexFunc_int_int__impl_nats_1_L0.eq : @slices_IndexFunc_int_int__impl_nats_1_L0 = @slices_IndexFunc_int_int__impl_nats_1_L0.b := funext fun α => congrFun (Classical.choose_spec slices_IndexFunc_int_int__impl_nats_1_L0.ex) α
theorem slices_IndexFunc_int_int__impl_nats_1_L0.zero {α : Type} (N : Nat) (v1692 : List (List Int)) (v1693 : Int) (v1694 : Int) (k0 : Int → Option α) (k1 : Option α) : slices_IndexFunc_int_int__impl_nats_1_L0 N 0 v1692 v1693 v1694 k0 k1 = none := by rw [slices_IndexFunc_int_int__impl_nats_1_L0.eq]; rfl
theorem slices_IndexFunc_int_int__impl_nats_1_L0.succ {α : Type} (N n : Nat) (v1692 : List (List Int)) (v1693 : Int) (v1694 : Int) (k0 : Int → Option α) (k1 : Option α) : slices_IndexFunc_int_int__impl_nats_1_L0 N (n + 1) v1692 v1693 v1694 k0 k1 = slices_IndexFunc_int_int__impl_nats_1_L0r N (fun y0 y1 y2 => slices_IndexFunc_int_int__impl_nats_1_L0 N n y0 y1 y2 k0 k1) k0 k1 v1692 v1693 v1694 := by rw [slices_IndexFunc_int_int__impl_nats_1_L0.eq]; rfl
/-- slices.IndexFunc[[][]int,[]int] -/
noncomputable def slices_IndexFunc_int_int__impl_nats_1.b {α : Type} (N : Nat) (a1690 : List (List Int)) (k0 : Int → Option α) : Option α :=
 let x1691 := ((a1690.length : Nat) : Int)
 slices_IndexFunc_int_int__impl_nats_1_L0 N N a1690 x1691 (0 : Int)
  (fun x1736 =>
   k0 x1736)
  (
   k0 (-1 : Int))
theorem slices_IndexFunc_int_int__impl_nats_1.ex : ∃ f : ((α : Type) → Nat → List (List Int) → (Int → Option α) → Option α), f = fun α => @slices_IndexFunc_int_int__impl_nats_1.b α := ⟨_, rfl⟩
noncomputable def slices_IndexFunc_int_int__impl_nats_1 {α : Type} : Nat → List (List Int) → (Int → Option α) → Option α := Classical.choose slices_IndexFunc_int_int__impl_nats_1.ex α
theorem slices_IndexFunc_int_int__impl_nats_1.eq : @slices_IndexFunc_int_int__impl_nats_1 = @slices_IndexFunc_int_int__impl_nats_1.b := funext fun α => congrFun (Classical.choose_spec slices_IndexFunc_int_int__impl_nats_1.ex) α

/-- slices.ContainsFunc[[][]int,[]int] -/
noncomputable def slices_ContainsFunc_int_int__impl_nats_1.b {α : Type} (N : Nat) (a1689 : List (List Int)) (k0 : Bool → Option α) : Option α :=
 slices_IndexFunc_int_int__impl_nats_1 N a1689
  (fun x1737 =>
   let x1738 := (decide ((0 : Int) ≤ x1737))
   k0 x1738)
theorem slices_ContainsFunc_int_int__impl_nats_1.ex : ∃ f : ((α : Type) → Nat → List (List Int) → (Bool → Option α) → Option α), f = fun α => @slices_ContainsFunc_int_int__impl_nats_1.b α := ⟨_, rfl⟩
noncomputable def slices_ContainsFunc_int_int__impl_nats_1 {α : Type} : Nat → List (List Int) → (Bool → Option α) → Option α := Classical.choose slices_ContainsFunc_int_int__impl_nats_1.ex α
theorem slices_ContainsFunc_int_int__impl_nats_1.eq : @slices_ContainsFunc_int_int__impl_nats_1 = @slices_ContainsFunc_int_int__impl_nats_1.b := funext fun α => congrFun (Classical.choose_spec slices_ContainsFunc_int_int__impl_nats_1.ex) α

/-- impl.nats -/
noncomputable def impl_nats.b {α : Type} (N : Nat) (a1688 : List (List Int)) (k0 : Bool → Option α) : Option α :=
 slices_ContainsFunc_int_int__impl_nats_1 N a1688
  (fun x1739 =>
   let x1740 := !x1739
   k0 x1740)
theorem impl_nats.ex : ∃ f : ((α : Type) → Nat → List (List Int) → (Bool → Option α) → Option α), f = fun α => @impl_nats.b α := ⟨_, rfl⟩
noncomputable def impl_nats {α : Type} : Nat → List (List Int) → (Bool → Option α) → Option α := Classical.choose impl_nats.ex α
theorem impl_nats.eq : @impl_nats = @impl_nats.b := funext fun α => congrFun (Classical.choose_spec impl_nats.ex) α

noncomputable def impl_natCmp_L0r {α : Type} (N : Nat) (next : List Int → List Int → Int → Option α) (k0 : Int → Option α) (k1 : Option α) (v1823 : List Int) (v1824 : List Int) (v1825 : Int) : Option α :=
 let x1826 := (decide ((0 : Int) ≤ v1825))
 bif x1826 then
  bif (decide (v1825 < (0 : Int))) then
   none
  else
   match v1823[v1825.toNat]? with
   | some x1827 =>
    bif (decide (v1825 < (0 : Int))) then
     none
    else
     match v1824[v1825.toNat]? with
     | some x1828 =>
      let x1829 := !(decide (x1827 = x1828))
      bif x1829 then
       bif (decide (v1825 < (0 : Int))) then
        none
       else
        match v1823[v1825.toNat]? with
        | some x1830 =>
         bif (decide (v1825 < (0 : Int))) then
          none
         else
          match v1824[v1825.toNat]? with
          | some x1831 =>
           let x1832 := IntKind.i64.wrap (x1830 - x1831)
           let x1833 := (minI (1 : Int) x1832)
           let x1834 := (maxI (-1 : Int) x1833)
           k0 x1834
          | none => none
        | none => none
      else
       let x1835 := (IntKind.i64.wrap (v1825 - (1 : Int)))
       next v1823 v1824 x1835
     | none => none
   | none => none
 else
  k1
noncomputable def impl_natCmp_L0.b {α : Type} (N n : Nat) (v1823 : List Int) (v1824 : List Int) (v1825 : Int) (k0 : Int → Option α) (k1 : Option α) : Option α :=
  Nat.rec (motive := fun _ => List Int → List Int → Int → Option α) (fun _ _ _ => none) (fun _ next => impl_natCmp_L0r N next k0 k1) n v1823 v1824 v1825
theorem impl_natCmp_L0.ex : ∃ f : ((α : Type) → Nat → Nat → List Int → List Int → Int → (Int → Option α) → (Option α) → Option α), f = fun α => @impl_natCmp_L0.b α := ⟨_, rfl⟩
noncomputable def impl_natCmp_L0 {α : Type} : Nat → Nat → List Int → List Int → Int → (Int → Option α) → (Option α) → Option α := Classical.choose impl_natCmp_L0.ex α
theorem impl_natCmp_L0.eq : @impl_natCmp_L0 = @impl_natCmp_L0.b := funext fun α => congrFun (Classical.choose_spec impl_natCmp_L0.ex) α
theorem impl_natCmp_L0.zero {α : Type} (N : Nat) (v1823 : List Int) (v1824 : List Int) (v1825 : Int) (k0 : Int → Option α) (k1 : Option α) : impl_natCmp_L0 N 0 v1823 v1824 v1825 k0 k1 = none := by rw [impl_natCmp_L0.eq]; rfl
theorem impl_natCmp_L0.succ {α : Type} (N n : Nat) (v1823 : List Int) (v1824 : List Int) (v1825 : Int) (k0 : Int → Option α) (k1 : Option α) : impl_natCmp_L0 N (n + 1) v1823 v1824 v1825 k0 k1 = impl_natCmp_L0r N (fun y0 y1 y2 => impl_natCmp_L0 N n y0 y1 y2 k0 k1) k0 k1 v1823 v1824 v1825 := by rw [impl_natCmp_L0.eq]; rfl
/-- impl.natCmp -/
noncomputable def impl_natCmp.b {α : Type} (N : Nat) (a1811 : List Int) (a1812 : List Int) (k0 : Int → Option α) : Option α :=
 let x1813 := ((a1811.length : Nat) : Int)
 let x1814 := ((a1812.length : Nat) : Int)
 let x1815 := !(decide (x1813 = x1814))
 bif x1815 then
  let x1816 := ((a1811.length : Nat) : Int)
  let x1817 := ((a1812.length : Nat) : Int)
  let x1818 := IntKind.i64.wrap (x1816 - x1817)
  let x1819 := (minI (1 : Int) x1818)
  let x1820 := (maxI (-1 : Int) x1819)
  k0 x1820
 else
  let x1821 := ((a1811.length : Nat) : Int)
  let x1822 := (IntKind.i64.wrap (x1821 - (1 : Int)))
  impl_natCmp_L0 N N a1811 a1812 x1822
   (fun x1836 =>
    k0 x1836)
   (
    k0 (0 : Int))
theorem impl_natCmp.ex : ∃ f : ((α : Type) → Nat → List Int → List Int → (Int → Option α) → Option α), f = fun α => @impl_natCmp.b α := ⟨_, rfl⟩
noncomputable def impl_natCmp {α : Type} : Nat → List Int → List Int → (Int → Option α) → Option α := Classical.choose impl_natCmp.ex α
theorem impl_natCmp.eq : @impl_natCmp = @impl_natCmp.b := funext fun α => congrFun (Classical.choose_spec impl_natCmp.ex) α

noncomputable def math_bits_Len64_J1.b {α : Type} (N : Nat) (v1872 : Int) (v1873 : Int) (k0 : Int → Int → Option α) : Option α :=
 let x1874 := (decide ((4294967296 : Int) ≤ v1872))
 bif x1874 then
  let x1875 := (shrI .u64 v1872 (32 : Int))
  k0 x1875 (32 : Int)
 else
  k0 v1872 v1873
theorem math_bits_Len64_J1.ex : ∃ f : ((α : Type) → Nat → Int → Int → (Int → Int → Option α) → Option α), f = fun α => @math_bits_Len64_J1.b α := ⟨_, rfl⟩
noncomputable def math_bits_Len64_J1 {α : Type} : Nat → Int → Int → (Int → Int → Option α) → Option α := Classical.choose math_bits_Len64_J1.ex α
theorem math_bits_Len64_J1.eq : @math_bits_Len64_J1 = @math_bits_Len64_J1.b := funext fun α => congrFun (Classical.choose_spec math_bits_Len64_J1.ex) α
noncomputable def math_bits_Len64_J4.b {α : Type} (N : Nat) (v1878 : Int) (v1879 : Int) (k0 : Int → Int → Option α) : Option α :=
 let x1880 := (decide ((65536 : Int) ≤ v1878))
 bif x1880 then
  let x1881 := (shrI .u64 v1878 (16 : Int))
  let x1882 := (IntKind.i64.wrap (v1879 + (16 : Int)))
  k0 x1881 x1882
 else
  k0 v1878 v1879
theorem math_bits_Len64_J4.ex : ∃ f : ((α : Type) → Nat → Int → Int → (Int → Int → Option α) → Option α), f = fun α => @math_bits_Len64_J4.b α := ⟨_, rfl⟩
noncomputable def math_bits_Len64_J4 {α : Type} : Nat → Int → Int → (Int → Int → Option α) → Option α := Classical.choose math_bits_Len64_J4.ex α
theorem math_bits_Len64_J4.eq : @math_bits_Len64_J4 = @math_bits_Len64_J4.b := funext fun α => congrFun (Classical.choose_spec math_bits_Len64_J4.ex) α
noncomputable def math_bits_Len64_J7.b {α : Type} (N : Nat) (v1885 : Int) (v1886 : Int) (k0 : Int → Int → Option α) : Option α :=
 let x1887 := (decide ((256 : Int) ≤ v1885))
 bif x1887 then
  let x1888 := (shrI .u64 v1885 (8 : Int))
  let x1889 := (IntKind.i64.wrap (v1886 + (8 : Int)))
  k0 x1888 x1889
 else
  k0 v1885 v1886
theorem math_bits_Len64_J7.ex : ∃ f : ((α : Type) → Nat → Int → Int → (Int → Int → Option α) → Option α), f = fun α => @math_bits_Len64_J7.b α := ⟨_, rfl⟩
noncomputable def math_bits_Len64_J7 {α : Type} : Nat → Int → Int → (Int → Int → Option α) → Option α := Classical.choose math_bits_Len64_J7.ex α
theorem math_bits_Len64_J7.eq : @math_bits_Len64_J7 = @math_bits_Len64_J7.b := funext fun α => congrFun (Classical.choose_spec math_bits_Len64_J7.ex) α
/-- math/bits.Len64 -/
noncomputable def math_bits_Len64.b {α : Type} (N : Nat) (a1871 : Int) (k0 : Int → Option α) : Option α :=
 math_bits_Len64_J1 N a1871 (0 : Int)
  (fun x1876 x1877 =>
   math_bits_Len64_J4 N x1876 x1877
    (fun x1883 x1884 =>
     math_bits_Len64_J7 N x1883 x1884
      (fun x1890 x1891 =>
       let x1892 := IntKind.u8.wrap x1890
       bif (decide (x1892 < (0 : Int))) then
        none
       else
        match ((⟨#[0, 1, 2, 2, 3, 3, 3, 3, 4, 4, 4, 4, 4, 4, 4, 4, 5, 5, 5, 5, 5, 5, 5, 5, 5, 5, 5, 5, 5, 5, 5, 5, 6, 6, 6, 6, 6, 6, 6, 6, 6, 6, 6, 6, 6, 6, 6, 6, 6, 6, 6, 6, 6, 6, 6, 6, 6, 6, 6, 6, 6, 6, 6, 6, 7, 7, 7, 7, 7, 7, 7, 7, 7, 7, 7, 7, 7, 7, 7, 7, 7, 7, 7, 7, 7, 7, 7, 7, 7, 7, 7, 7, 7, 7, 7, 7, 7, 7, 7, 7, 7, 7, 7, 7, 7, 7, 7, 7, 7, 7, 7, 7, 7, 7, 7, 7, 7, 7, 7, 7, 7, 7, 7, 7, 7, 7, 7, 7, 8, 8, 8, 8, 8, 8, 8, 8, 8, 8, 8, 8, 8, 8, 8, 8, 8, 8, 8, 8, 8, 8, 8, 8, 8, 8, 8, 8, 8, 8, 8, 8, 8, 8, 8, 8, 8, 8, 8, 8, 8, 8, 8, 8, 8, 8, 8, 8, 8, 8, 8, 8, 8, 8, 8, 8, 8, 8, 8, 8, 8, 8, 8, 8, 8, 8, 8, 8, 8, 8, 8, 8, 8, 8, 8, 8, 8, 8, 8, 8, 8, 8, 8, 8, 8, 8, 8, 8, 8, 8, 8, 8, 8, 8, 8, 8, 8, 8, 8, 8, 8, 8, 8, 8, 8, 8, 8, 8, 8, 8, 8, 8, 8, 8, 8, 8, 8, 8, 8, 8, 8, 8, 8, 8, 8, 8, 8, 8]⟩ : ByteArray)[x1892.toNat]? : Option UInt8) with
        | some x1893 =>
         let x1894 := ((x1893.toNat : Nat) : Int)
         let x1895 := IntKind.i64.wrap x1894
         let x1896 := IntKind.i64.wrap (x1891 + x1895)
         k0 x1896
        | none => none)))
theorem math_bits_Len64.ex : ∃ f : ((α : Type) → Nat → Int → (Int → Option α) → Option α), f = fun α => @math_bits_Len64.b α := ⟨_, rfl⟩
noncomputable def math_bits_Len64 {α : Type} : Nat → Int → (Int → Option α) → Option α := Classical.choose math_bits_Len64.ex α
theorem math_bits_Len64.eq : @math_bits_Len64 = @math_bits_Len64.b := funext fun α => congrFun (Classical.choose_spec math_bits_Len64.ex) α

/-- math/bits.Len -/
noncomputable def math_bits_Len.b {α : Type} (N : Nat) (a1870 : Int) (k0 : Int → Option α) : Option α :=
 math_bits_Len64 N a1870
  (fun x1897 =>
   k0 x1897)
theorem math_bits_Len.ex : ∃ f : ((α : Type) → Nat → Int → (Int → Option α) → Option α), f = fun α => @math_bits_Len.b α := ⟨_, rfl⟩
noncomputable def math_bits_Len {α : Type} : Nat → Int → (Int → Option α) → Option α := Classical.choose math_bits_Len.ex α
theorem math_bits_Len.eq : @math_bits_Len = @math_bits_Len.b := funext fun α => congrFun (Classical.choose_spec math_bits_Len.ex) α

noncomputable def impl_natShift_J10.b {α : Type} (N : Nat) (v1976 : List Int) (v1977 : Int) (v1978 : Int) (v1979 : Int) (v1980 : Int) (v1981 : Int) (v1982 : List Int) (k0 : List Int → Int → Int → Int → Int → List Int → Option α) : Option α :=
 let x1983 := IntKind.i64.wrap (v1977 + v1979)
 let x1984 := (IntKind.i64.wrap (x1983 + (1 : Int)))
 let x1985 := ((v1976.length : Nat) : Int)
 let x1986 := decide (x1984 < x1985)
 bif x1986 then
  bif (decide (v1979 < (0 : Int))) then
   none
  else
   bif decide (v1979.toNat < v1982.length) then
    match v1982[v1979.toNat]? with
    | some x1987 =>
     let x1988 := IntKind.i64.wrap (v1977 + v1979)
     let x1989 := (IntKind.i64.wrap (x1988 + (1 : Int)))
     bif (decide (x1989 < (0 : Int))) then
      none
     else
      match v1976[x1989.toNat]? with
      | some x1990 =>
       let x1991 := (IntKind.i64.wrap ((16 : Int) - v1978))
       bif (decide (x1991 < (0 : Int))) then
        none
       else
        let x1992 := shlI .i64 x1990 x1991
        let x1993 := (bitI .and .i64 x1992 (65535 : Int))
        let x1994 := bitI .or .i64 x1987 x1993
        bif (decide (v1979 < (0 : Int))) then
         none
        else
         bif decide (v1979.toNat < v1982.length) then
          match v1982[v1979.toNat]? with
          | some x1995 =>
           let x1996 := v1982.set v1979.toNat x1994
           k0 v1976 v1977 v1978 v1980 v1981 x1996
          | none => none
         else
          none
      | none => none
    | none => none
   else
    none
 else
  k0 v1976 v1977 v1978 v1980 v1981 v1982
theorem impl_natShift_J10.ex : ∃ f : ((α : Type) → Nat → List Int → Int → Int → Int → Int → Int → List Int → (List Int → Int → Int → Int → Int → List Int → Option α) → Option α), f = fun α => @impl_natShift_J10.b α := ⟨_, rfl⟩
noncomputable def impl_natShift_J10 {α : Type} : Nat → List Int → Int → Int → Int → Int → Int → List Int → (List Int → Int → Int → Int → Int → List Int → Option α) → Option α := Classical.choose impl_natShift_J10.ex α
theorem impl_natShift_J10.eq : @impl_natShift_J10 = @impl_natShift_J10.b := funext fun α => congrFun (Classical.choose_spec impl_natShift_J10.ex) α
noncomputable def impl_natShift_L0r {α : Type} (N : Nat) (next : List Int → Int → Int → Int → Int → List Int → Option α) (k0 : List Int → Option α) (v1965 : List Int) (v1966 : Int) (v1967 : Int) (v1968 : Int) (v1969 : Int) (v1970 : List Int) : Option α :=
 let x1971 := decide (v1969 < v1968)
 bif x1971 then
  bif (decide (v1969 < (0 : Int))) then
   none
  else
   bif decide (v1969.toNat < v1970.length) then
    match v1970[v1969.toNat]? with
    | some x1972 =>
     bif (decide (v1967 < (0 : Int))) then
      none
     else
      let x1973 := shrI .i64 x1972 v1967
      bif (decide (v1969 < (0 : Int))) then
       none
      else
       bif decide (v1969.toNat < v1970.length) then
        match v1970[v1969.toNat]? with
        | some x1974 =>
         let x1975 := v1970.set v1969.toNat x1973
         impl_natShift_J10 N v1965 v1966 v1967 v1969 v1968 v1969 x1975
          (fun x1997 x1998 x1999 x2000 x2001 x2002 =>
           let x2003 := (IntKind.i64.wrap (x2001 + (1 : Int)))
           next x1997 x1998 x1999 x2000 x2003 x2002)
        | none => none
       else
        none
    | none => none
   else
    none
 else
  k0 v1970
noncomputable def impl_natShift_L0.b {α : Type} (N n : Nat) (v1965 : List Int) (v1966 : Int) (v1967 : Int) (v1968 : Int) (v1969 : Int) (v1970 : List Int) (k0 : List Int → Option α) : Option α :=
  Nat.rec (motive := fun _ => List Int → Int → Int → Int → Int → List Int → Option α) (fun _ _ _ _ _ _ => none) (fun _ next => impl_natShift_L0r N next k0) n v1965 v1966 v1967 v1968 v1969 v1970
theorem impl_natShift_L0.ex : ∃ f : ((α : Type) → Nat → Nat → List Int → Int → Int → Int → Int → List Int → (List Int → Option α) → Option α), f = fun α => @impl_natShift_L0.b α := ⟨_, rfl⟩
noncomputable def impl_natShift_L0 {α : Type} : Nat → Nat → List Int → Int → Int → Int → Int → List Int → (List Int → Option α) → Option α := Classical.choose impl_natShift_L0.ex α
theorem impl_natShift_L0.eq : @impl_natShift_L0 = @impl_natShift_L0.b := funext fun α => congrFun (Classical.choose_spec impl_natShift_L0.ex) α
theorem impl_natShift_L0.zero {α : Type} (N : Nat) (v1965 : List Int) (v1966 : Int) (v1967 : Int) (v1968 : Int) (v1969 : Int) (v1970 : List Int) (k0 : List Int → Option α) : impl_natShift_L0 N 0 v1965 v1966 v1967 v1968 v1969 v1970 k0 = none := by rw [impl_natShift_L0.eq]; rfl
theorem impl_natShift_L0.succ {α : Type} (N n : Nat) (v1965 : List Int) (v1966 : Int) (v1967 : Int) (v1968 : Int) (v1969 : Int) (v1970 : List Int) (k0 : List Int → Option α) : impl_natShift_L0 N (n + 1) v1965 v1966 v1967 v1968 v1969 v1970 k0 = impl_natShift_L0r N (fun y0 y1 y2 y3 y4 y5 => impl_natShift_L0 N n y0 y1 y2 y3 y4 y5 k0) k0 v1965 v1966 v1967 v1968 v1969 v1970 := by rw [impl_natShift_L0.eq]; rfl
noncomputable def impl_natShift_L2r {α : Type} (N : Nat) (next : Int → List Int → Int → Int → List Int → Option α) (k0 : List Int → Option α) (v2012 : Int) (v2013 : List Int) (v2014 : Int) (v2015 : Int) (v2016 : List Int) : Option α :=
 let x2017 := decide (v2015 < v2014)
 bif x2017 then
  bif (decide (v2015 < (0 : Int))) then
   none
  else
   match v2013[v2015.toNat]? with
   | some x2018 =>
    let x2019 := (Int.tmod v2012 (16 : Int))
    bif (decide (x2019 < (0 : Int))) then
     none
    else
     let x2020 := shlI .i64 x2018 x2019
     let x2021 := (IntKind.i64.wrap (Int.tdiv v2012 (16 : Int)))
     let x2022 := IntKind.i64.wrap (x2021 + v2015)
     bif (decide (x2022 < (0 : Int))) then
      none
     else
      bif decide (x2022.toNat < v2016.length) then
       match v2016[x2022.toNat]? with
       | some x2023 =>
        let x2024 := (bitI .and .i64 x2020 (65535 : Int))
        let x2025 := bitI .or .i64 x2023 x2024
        bif (decide (x2022 < (0 : Int))) then
         none
        else
         bif decide (x2022.toNat < v2016.length) then
          match v2016[x2022.toNat]? with
          | some x2026 =>
           let x2027 := v2016.set x2022.toNat x2025
           let x2028 := (IntKind.i64.wrap (Int.tdiv v2012 (16 : Int)))
           let x2029 := IntKind.i64.wrap (x2028 + v2015)
           let x2030 := (IntKind.i64.wrap (x2029 + (1 : Int)))
           let x2031 := (shrI .i64 x2020 (16 : Int))
           bif (decide (x2030 < (0 : Int))) then
            none
           else
            bif decide (x2030.toNat < x2027.length) then
             match x2027[x2030.toNat]? with
             | some x2032 =>
              let x2033 := x2027.set x2030.toNat x2031
              let x2034 := (IntKind.i64.wrap (v2015 + (1 : Int)))
              next v2012 v2013 v2014 x2034 x2033
             | none => none
            else
             none
          | none => none
         else
          none
       | none => none
      else
       none
   | none => none
 else
  k0 v2016
noncomputable def impl_natShift_L2.b {α : Type} (N n : Nat) (v2012 : Int) (v2013 : List Int) (v2014 : Int) (v2015 : Int) (v2016 : List Int) (k0 : List Int → Option α) : Option α :=
  Nat.rec (motive := fun _ => Int → List Int → Int → Int → List Int → Option α) (fun _ _ _ _ _ => none) (fun _ next => impl_natShift_L2r N next k0) n v2012 v2013 v2014 v2015 v2016
theorem impl_natShift_L2.ex : ∃ f : ((α : Type) → Nat → Nat → Int → List Int → Int → Int → List Int → (List Int → Option α) → Option α), f = fun α => @impl_natShift_L2.b α := ⟨_, rfl⟩
noncomputable def impl_natShift_L2 {α : Type} : Nat → Nat → Int → List Int → Int → Int → List Int → (List Int → Option α) → Option α := Classical.choose impl_natShift_L2.ex α
theorem impl_natShift_L2.eq : @impl_natShift_L2 = @impl_natShift_L2.b := funext fun α => congrFun (Classical.choose_spec impl_natShift_L2.ex) α
theorem impl_natShift_L2.zero {α : Type} (N : Nat) (v2012 : Int) (v2013 : List Int) (v2014 : Int) (v2015 : Int) (v2016 : List Int) (k0 : List Int → Option α) : impl_natShift_L2 N 0 v2012 v2013 v2014 v2015 v2016 k0 = none := by rw [impl_natShift_L2.eq]; rfl
theorem impl_natShift_L2.succ {α : Type} (N n : Nat) (v2012 : Int) (v2013 : List Int) (v2014 : Int) (v2015 : Int) (v2016 : List Int) (k0 : List Int → Option α) : impl_natShift_L2 N (n + 1) v2012 v2013 v2014 v2015 v2016 k0 = impl_natShift_L2r N (fun y0 y1 y2 y3 y4 => impl_natShift_L2 N n y0 y1 y2 y3 y4 k0) k0 v2012 v2013 v2014 v2015 v2016 := by rw [impl_natShift_L2.eq]; rfl
/-- impl.natShift -/
noncomputable def impl_natShift.b {α : Type} (N : Nat) (a1953 : List Int) (a1954 : Int) (k0 : List Int → Option α) : Option α :=
 let x1955 := (decide (a1954 < (0 : Int)))
 bif x1955 then
  let x1956 := IntKind.i64.wrap (0 - a1954)
  let x1957 := (IntKind.i64.wrap (Int.tdiv x1956 (16 : Int)))
  let x1958 := IntKind.i64.wrap (0 - a1954)
  let x1959 := (Int.tmod x1958 (16 : Int))
  let x1960 := ((a1953.length : Nat) : Int)
  let x1961 := decide (x1960 ≤ x1957)
  bif x1961 then
   k0 []
  else
   bif (decide ((0 : Int) ≤ x1957)) then
    bif (decide (x1957 ≤ ((a1953.length : Nat) : Int))) then
     let x1962 := a1953.drop x1957.toNat
     slices_Clone_int_int N x1962
      (fun x1963 =>
       let x1964 := ((x1963.length : Nat) : Int)
       impl_natShift_L0 N N a1953 x1957 x1959 x1964 (0 : Int) x1963
        (fun x2004 =>
         impl_trim N x2004
          (fun x2005 =>
           k0 x2005)))
    else
     none
   else
    none
 else
  let x2006 := (IntKind.i64.wrap (Int.tdiv a1954 (16 : Int)))
  let x2007 := ((a1953.length : Nat) : Int)
  let x2008 := IntKind.i64.wrap (x2006 + x2007)
  let x2009 := (IntKind.i64.wrap (x2008 + (1 : Int)))
  bif (decide ((0 : Int) ≤ x2009)) then
   bif decide (x2009 ≤ x2009) then
    bif (decide (x2009 ≤ ((8796093022208 : Nat) : Int))) then
     let x2010 := (List.replicate x2009.toNat (0 : Int))
     let x2011 := ((a1953.length : Nat) : Int)
     impl_natShift_L2 N N a1954 a1953 x2011 (0 : Int) x2010
      (fun x2035 =>
       impl_trim N x2035
        (fun x2036 =>
         k0 x2036))
    else
     none
   else
    none
  else
   none
theorem impl_natShift.ex : ∃ f : ((α : Type) → Nat → List Int → Int → (List Int → Option α) → Option α), f = fun α => @impl_natShift.b α := ⟨_, rfl⟩
noncomputable def impl_natShift {α : Type} : Nat → List Int → Int → (List Int → Option α) → Option α := Classical.choose impl_natShift.ex α
theorem impl_natShift.eq : @impl_natShift = @impl_natShift.b := funext fun α => congrFun (Classical.choose_spec impl_natShift.ex) α

noncomputable def impl_natDiv_L0r {α : Type} (N : Nat) (next : List Int → List Int → Int → Int → List Int → Option α) (k0 : Int → List Int → Option α) (v1845 : List Int) (v1846 : List Int) (v1847 : Int) (v1848 : Int) (v1849 : List Int) : Option α :=
 let x1850 := (decide ((0 : Int) ≤ v1848))
 bif x1850 then
  let x1851 := (shlI .i64 v1847 (16 : Int))
  bif (decide (v1848 < (0 : Int))) then
   none
  else
   match v1845[v1848.toNat]? with
   | some x1852 =>
    let x1853 := bitI .or .i64 x1851 x1852
    match v1846[0]? with
    | some x1854 =>
     bif (decide (x1854 = (0 : Int))) then
      none
     else
      let x1855 := IntKind.i64.wrap (Int.tdiv x1853 x1854)
      match v1846[0]? with
      | some x1856 =>
       bif (decide (x1856 = (0 : Int))) then
        none
       else
        let x1857 := Int.tmod x1853 x1856
        bif (decide (v1848 < (0 : Int))) then
         none
        else
         bif decide (v1848.toNat < v1849.length) then
          match v1849[v1848.toNat]? with
          | some x1858 =>
           let x1859 := v1849.set v1848.toNat x1855
           let x1860 := (IntKind.i64.wrap (v1848 - (1 : Int)))
           next v1845 v1846 x1857 x1860 x1859
          | none => none
         else
          none
      | none => none
    | none => none
   | none => none
 else
  k0 v1847 v1849
noncomputable def impl_natDiv_L0.b {α : Type} (N n : Nat) (v1845 : List Int) (v1846 : List Int) (v1847 : Int) (v1848 : Int) (v1849 : List Int) (k0 : Int → List Int → Option α) : Option α :=
  Nat.rec (motive := fun _ => List Int → List Int → Int → Int → List Int → Option α) (fun _ _ _ _ _ => none) (fun _ next => impl_natDiv_L0r N next k0) n v1845 v1846 v1847 v1848 v1849
theorem impl_natDiv_L0.ex : ∃ f : ((α : Type) → Nat → Nat → List Int → List Int → Int → Int → List Int → (Int → List Int → Option α) → Option α), f = fun α => @impl_natDiv_L0.b α := ⟨_, rfl⟩
noncomputable def impl_natDiv_L0 {α : Type} : Nat → Nat → List Int → List Int → Int → Int → List Int → (Int → List Int → Option α) → Option α := Classical.choose impl_natDiv_L0.ex α
theorem impl_natDiv_L0.eq : @impl_natDiv_L0 = @impl_natDiv_L0.b := funext fun α => congrFun (Classical.choose_spec impl_natDiv_L0.ex) α
theorem impl_natDiv_L0.zero {α : Type} (N : Nat) (v1845 : List Int) (v1846 : List Int) (v1847 : Int) (v1848 : Int) (v1849 : List Int) (k0 : Int → List Int → Option α) : impl_natDiv_L0 N 0 v1845 v1846 v1847 v1848 v1849 k0 = none := by rw [impl_natDiv_L0.eq]; rfl
theorem impl_natDiv_L0.succ {α : Type} (N n : Nat) (v1845 : List Int) (v1846 : List Int) (v1847 : Int) (v1848 : Int) (v1849 : List Int) (k0 : Int → List Int → Option α) : impl_natDiv_L0 N (n + 1) v1845 v1846 v1847 v1848 v1849 k0 = impl_natDiv_L0r N (fun y0 y1 y2 y3 y4 => impl_natDiv_L0 N n y0 y1 y2 y3 y4 k0) k0 v1845 v1846 v1847 v1848 v1849 := by rw [impl_natDiv_L0.eq]; rfl
noncomputable def impl_natDiv_L2r {α : Type} (N : Nat) (next : List Int → Int → List Int → Int → List Int → Option α) (k0 : Int → List Int → Int → List Int → Option α) (v2043 : List Int) (v2044 : Int) (v2045 : List Int) (v2046 : Int) (v2047 : List Int) : Option α :=
 let x2048 := ((v2047.length : Nat) : Int)
 let x2049 := ((v2043.length : Nat) : Int)
 let x2050 := (IntKind.i64.wrap (x2049 + (1 : Int)))
 let x2051 := decide (x2048 < x2050)
 bif x2051 then
  let x2052 := [(0 : Int)]
  bif decide (v2047.length + x2052.length ≤ 8796093022208) then
   let x2053 := v2047 ++ x2052
   next v2043 v2044 v2045 v2046 x2053
  else
   none
 else
  k0 v2044 v2045 v2046 v2047
noncomputable def impl_natDiv_L2.b {α : Type} (N n : Nat) (v2043 : List Int) (v2044 : Int) (v2045 : List Int) (v2046 : Int) (v2047 : List Int) (k0 : Int → List Int → Int → List Int → Option α) : Option α :=
  Nat.rec (motive := fun _ => List Int → Int → List Int → Int → List Int → Option α) (fun _ _ _ _ _ => none) (fun _ next => impl_natDiv_L2r N next k0) n v2043 v2044 v2045 v2046 v2047
theorem impl_natDiv_L2.ex : ∃ f : ((α : Type) → Nat → Nat → List Int → Int → List Int → Int → List Int → (Int → List Int → Int → List Int → Option α) → Option α), f = fun α => @impl_natDiv_L2.b α := ⟨_, rfl⟩
noncomputable def impl_natDiv_L2 {α : Type} : Nat → Nat → List Int → Int → List Int → Int → List Int → (Int → List Int → Int → List Int → Option α) → Option α := Classical.choose impl_natDiv_L2.ex α
theorem impl_natDiv_L2.eq : @impl_natDiv_L2 = @impl_natDiv_L2.b := funext fun α => congrFun (Classical.choose_spec impl_natDiv_L2.ex) α
theorem impl_natDiv_L2.zero {α : Type} (N : Nat) (v2043 : List Int) (v2044 : Int) (v2045 : List Int) (v2046 : Int) (v2047 : List Int) (k0 : Int → List Int → Int → List Int → Option α) : impl_natDiv_L2 N 0 v2043 v2044 v2045 v2046 v2047 k0 = none := by rw [impl_natDiv_L2.eq]; rfl
theorem impl_natDiv_L2.succ {α : Type} (N n : Nat) (v2043 : List Int) (v2044 : Int) (v2045 : List Int) (v2046 : Int) (v2047 : List Int) (k0 : Int → List Int → Int → List Int → Option α) : impl_natDiv_L2 N (n + 1) v2043 v2044 v2045 v2046 v2047 k0 = impl_natDiv_L2r N (fun y0 y1 y2 y3 y4 => impl_natDiv_L2 N n y0 y1 y2 y3 y4 k0) k0 v2043 v2044 v2045 v2046 v2047 := by rw [impl_natDiv_L2.eq]; rfl
noncomputable def impl_natDiv_L6r {α : Type} (N : Nat) (next : Int → List Int → Int → Int → Int → Int → List Int → List Int → Option α) (k0 : Int → List Int → Int → Int → Int → List Int → List Int → Option α) (v2084 : Int) (v2085 : List Int) (v2086 : Int) (v2087 : Int) (v2088 : Int) (v2089 : Int) (v2090 : List Int) (v2091 : List Int) : Option α :=
 let x2092 := (decide ((65536 : Int) ≤ v2088))
 bif x2092 then
  let x2093 := (IntKind.i64.wrap (v2088 - (1 : Int)))
  let x2094 := (IntKind.i64.wrap (v2086 - (1 : Int)))
  bif (decide (x2094 < (0 : Int))) then
   none
  else
   match v2085[x2094.toNat]? with
   | some x2095 =>
    let x2096 := IntKind.i64.wrap (v2089 + x2095)
    let x2097 := (decide ((65536 : Int) ≤ x2096))
    bif x2097 then
     k0 v2084 v2085 v2086 v2087 x2093 v2090 v2091
    else
     next v2084 v2085 v2086 v2087 x2093 x2096 v2090 v2091
   | none => none
 else
  let x2098 := (IntKind.i64.wrap (v2086 - (2 : Int)))
  bif (decide (x2098 < (0 : Int))) then
   none
  else
   match v2085[x2098.toNat]? with
   | some x2099 =>
    let x2100 := IntKind.i64.wrap (v2088 * x2099)
    let x2101 := (shlI .i64 v2089 (16 : Int))
    let x2102 := IntKind.i64.wrap (v2087 + v2086)
    let x2103 := (IntKind.i64.wrap (x2102 - (2 : Int)))
    bif (decide (x2103 < (0 : Int))) then
     none
    else
     bif decide (x2103.toNat < v2090.length) then
      match v2090[x2103.toNat]? with
      | some x2104 =>
       let x2105 := bitI .or .i64 x2101 x2104
       let x2106 := decide (x2105 < x2100)
       bif x2106 then
        let x2107 := (IntKind.i64.wrap (v2088 - (1 : Int)))
        let x2108 := (IntKind.i64.wrap (v2086 - (1 : Int)))
        bif (decide (x2108 < (0 : Int))) then
         none
        else
         match v2085[x2108.toNat]? with
         | some x2109 =>
          let x2110 := IntKind.i64.wrap (v2089 + x2109)
          let x2111 := (decide ((65536 : Int) ≤ x2110))
          bif x2111 then
           k0 v2084 v2085 v2086 v2087 x2107 v2090 v2091
          else
           next v2084 v2085 v2086 v2087 x2107 x2110 v2090 v2091
         | none => none
       else
        k0 v2084 v2085 v2086 v2087 v2088 v2090 v2091
      | none => none
     else
      none
   | none => none
noncomputable def impl_natDiv_L6.b {α : Type} (N n : Nat) (v2084 : Int) (v2085 : List Int) (v2086 : Int) (v2087 : Int) (v2088 : Int) (v2089 : Int) (v2090 : List Int) (v2091 : List Int) (k0 : Int → List Int → Int → Int → Int → List Int → List Int → Option α) : Option α :=
  Nat.rec (motive := fun _ => Int → List Int → Int → Int → Int → Int → List Int → List Int → Option α) (fun _ _ _ _ _ _ _ _ => none) (fun _ next => impl_natDiv_L6r N next k0) n v2084 v2085 v2086 v2087 v2088 v2089 v2090 v2091
theorem impl_natDiv_L6.ex : ∃ f : ((α : Type) → Nat → Nat → Int → List Int → Int → Int → Int → Int → List Int → List Int → (Int → List Int → Int → Int → Int → List Int → List Int → Option α) → Option α), f = fun α => @impl_natDiv_L6.b α := ⟨_, rfl⟩
noncomputable def impl_natDiv_L6 {α : Type} : Nat → Nat → Int → List Int → Int → Int → Int → Int → List Int → List Int → (Int → List Int → Int → Int → Int → List Int → List Int → Option α) → Option α := Classical.choose impl_natDiv_L6.ex α
theorem impl_natDiv_L6.eq : @impl_natDiv_L6 = @impl_natDiv_L6.b := funext fun α => congrFun (Classical.choose_spec impl_natDiv_L6.ex) α
theorem impl_natDiv_L6.zero {α : Type} (N : Nat) (v2084 : Int) (v2085 : List Int) (v2086 : Int) (v2087 : Int) (v2088 : Int) (v2089 : Int) (v2090 : List Int) (v2091 : List Int) (k0 : Int → List Int → Int → Int → Int → List Int → List Int → Option α) : impl_natDiv_L6 N 0 v2084 v2085 v2086 v2087 v2088 v2089 v2090 v2091 k0 = none := by rw [impl_natDiv_L6.eq]; rfl
theorem impl_natDiv_L6.succ {α : Type} (N n : Nat) (v2084 : Int) (v2085 : List Int) (v2086 : Int) (v2087 : Int) (v2088 : Int) (v2089 : Int) (v2090 : List Int) (v2091 : List Int) (k0 : Int → List Int → Int → Int → Int → List Int → List Int → Option α) : impl_natDiv_L6 N (n + 1) v2084 v2085 v2086 v2087 v2088 v2089 v2090 v2091 k0 = impl_natDiv_L6r N (fun y0 y1 y2 y3 y4 y5 y6 y7 => impl_natDiv_L6 N n y0 y1 y2 y3 y4 y5 y6 y7 k0) k0 v2084 v2085 v2086 v2087 v2088 v2089 v2090 v2091 := by rw [impl_natDiv_L6.eq]; rfl
noncomputable def impl_natDiv_J34.b {α : Type} (N : Nat) (v2138 : Int) (v2139 : List Int) (v2140 : Int) (v2141 : Int) (v2142 : Int) (v2143 : Int) (v2144 : Int) (v2145 : Int) (v2146 : List Int) (v2147 : Int) (v2148 : Int) (v2149 : List Int) (v2150 : List Int) (k0 : Int → List Int → Int → Int → Int → Int → Int → Int → List Int → Int → Int → List Int → List Int → Option α) : Option α :=
 let x2151 := (decide (v2145 < (0 : Int)))
 bif x2151 then
  let x2152 := IntKind.i64.wrap (0 - v2145)
  let x2153 := (IntKind.i64.wrap (x2152 + (65536 : Int)))
  let x2154 := (IntKind.i64.wrap (x2153 - (1 : Int)))
  let x2155 := (IntKind.i64.wrap (Int.tdiv x2154 (65536 : Int)))
  let x2156 := (IntKind.i64.wrap (x2155 * (65536 : Int)))
  let x2157 := IntKind.i64.wrap (v2145 + x2156)
  k0 v2138 v2139 v2140 v2141 v2142 x2155 v2144 x2157 v2146 v2147 v2148 v2149 v2150
 else
  k0 v2138 v2139 v2140 v2141 v2142 v2143 v2144 v2145 v2146 v2147 v2148 v2149 v2150
theorem impl_natDiv_J34.ex : ∃ f : ((α : Type) → Nat → Int → List Int → Int → Int → Int → Int → Int → Int → List Int → Int → Int → List Int → List Int → (Int → List Int → Int → Int → Int → Int → Int → Int → List Int → Int → Int → List Int → List Int → Option α) → Option α), f = fun α => @impl_natDiv_J34.b α := ⟨_, rfl⟩
noncomputable def impl_natDiv_J34 {α : Type} : Nat → Int → List Int → Int → Int → Int → Int → Int → Int → List Int → Int → Int → List Int → List Int → (Int → List Int → Int → Int → Int → Int → Int → Int → List Int → Int → Int → List Int → List Int → Option α) → Option α := Classical.choose impl_natDiv_J34.ex α
theorem impl_natDiv_J34.eq : @impl_natDiv_J34 = @impl_natDiv_J34.b := funext fun α => congrFun (Classical.choose_spec impl_natDiv_J34.ex) α
noncomputable def impl_natDiv_L8r {α : Type} (N : Nat) (next : Int → List Int → Int → Int → Int → Int → List Int → Int → Int → List Int → List Int → Option α) (k0 : Int → List Int → Int → Int → Int → Int → List Int → List Int → Option α) (v2120 : Int) (v2121 : List Int) (v2122 : Int) (v2123 : Int) (v2124 : Int) (v2125 : Int) (v2126 : List Int) (v2127 : Int) (v2128 : Int) (v2129 : List Int) (v2130 : List Int) : Option α :=
 let x2131 := decide (v2128 < v2127)
 bif x2131 then
  bif (decide (v2128 < (0 : Int))) then
   none
  else
   match v2126[v2128.toNat]? with
   | some x2132 =>
    let x2133 := IntKind.i64.wrap (v2123 + v2128)
    bif (decide (x2133 < (0 : Int))) then
     none
    else
     bif decide (x2133.toNat < v2129.length) then
      match v2129[x2133.toNat]? with
      | some x2134 =>
       let x2135 := IntKind.i64.wrap (x2134 - v2125)
       let x2136 := IntKind.i64.wrap (v2124 * x2132)
       let x2137 := IntKind.i64.wrap (x2135 - x2136)
       impl_natDiv_J34 N v2120 v2121 v2122 v2123 v2124 (0 : Int) v2128 x2137 v2126 v2127 v2128 v2129 v2130
        (fun x2158 x2159 x2160 x2161 x2162 x2163 x2164 x2165 x2166 x2167 x2168 x2169 x2170 =>
         let x2171 := IntKind.i64.wrap (x2161 + x2164)
         bif (decide (x2171 < (0 : Int))) then
          none
         else
          bif decide (x2171.toNat < x2169.length) then
           match x2169[x2171.toNat]? with
           | some x2172 =>
            let x2173 := x2169.set x2171.toNat x2165
            let x2174 := (IntKind.i64.wrap (x2168 + (1 : Int)))
            next x2158 x2159 x2160 x2161 x2162 x2163 x2166 x2167 x2174 x2173 x2170
           | none => none
          else
           none)
      | none => none
     else
      none
   | none => none
 else
  k0 v2120 v2121 v2122 v2123 v2124 v2125 v2129 v2130
noncomputable def impl_natDiv_L8.b {α : Type} (N n : Nat) (v2120 : Int) (v2121 : List Int) (v2122 : Int) (v2123 : Int) (v2124 : Int) (v2125 : Int) (v2126 : List Int) (v2127 : Int) (v2128 : Int) (v2129 : List Int) (v2130 : List Int) (k0 : Int → List Int → Int → Int → Int → Int → List Int → List Int → Option α) : Option α :=
  Nat.rec (motive := fun _ => Int → List Int → Int → Int → Int → Int → List Int → Int → Int → List Int → List Int → Option α) (fun _ _ _ _ _ _ _ _ _ _ _ => none) (fun _ next => impl_natDiv_L8r N next k0) n v2120 v2121 v2122 v2123 v2124 v2125 v2126 v2127 v2128 v2129 v2130
theorem impl_natDiv_L8.ex : ∃ f : ((α : Type) → Nat → Nat → Int → List Int → Int → Int → Int → Int → List Int → Int → Int → List Int → List Int → (Int → List Int → Int → Int → Int → Int → List Int → List Int → Option α) → Option α), f = fun α => @impl_natDiv_L8.b α := ⟨_, rfl⟩
noncomputable def impl_natDiv_L8 {α : Type} : Nat → Nat → Int → List Int → Int → Int → Int → Int → List Int → Int → Int → List Int → List Int → (Int → List Int → Int → Int → Int → Int → List Int → List Int → Option α) → Option α := Classical.choose impl_natDiv_L8.ex α
theorem impl_natDiv_L8.eq : @impl_natDiv_L8 = @impl_natDiv_L8.b := funext fun α => congrFun (Classical.choose_spec impl_natDiv_L8.ex) α
theorem impl_natDiv_L8.zero {α : Type} (N : Nat) (v2120 : Int) (v2121 : List Int) (v2122 : Int) (v2123 : Int) (v2124 : Int) (v2125 : Int) (v2126 : List Int) (v2127 : Int) (v2128 : Int) (v2129 : List Int) (v2130 : List Int) (k0 : Int → List Int → Int → Int → Int → Int → List Int → List Int → Option α) : impl_natDiv_L8 N 0 v2120 v2121 v2122 v2123 v2124 v2125 v2126 v2127 v2128 v2129 v2130 k0 = none := by rw [impl_natDiv_L8.eq]; rfl
theorem impl_natDiv_L8.succ {α : Type} (N n : Nat) (v2120 : Int) (v2121 : List Int) (v2122 : Int) (v2123 : Int) (v2124 : Int) (v2125 : Int) (v2126 : List Int) (v2127 : Int) (v2128 : Int) (v2129 : List Int) (v2130 : List Int) (k0 : Int → List Int → Int → Int → Int → Int → List Int → List Int → Option α) : impl_natDiv_L8 N (n + 1) v2120 v2121 v2122 v2123 v2124 v2125 v2126 v2127 v2128 v2129 v2130 k0 = impl_natDiv_L8r N (fun y0 y1 y2 y3 y4 y5 y6 y7 y8 y9 y10 => impl_natDiv_L8 N n y0 y1 y2 y3 y4 y5 y6 y7 y8 y9 y10 k0) k0 v2120 v2121 v2122 v2123 v2124 v2125 v2126 v2127 v2128 v2129 v2130 := by rw [impl_natDiv_L8.eq]; rfl
noncomputable def impl_natDiv_L10r {α : Type} (N : Nat) (next : Int → List Int → Int → Int → Int → Int → List Int → Int → Int → List Int → List Int → Option α) (k0 : Int → List Int → Int → Int → Int → Int → List Int → List Int → Option α) (v2200 : Int) (v2201 : List Int) (v2202 : Int) (v2203 : Int) (v2204 : Int) (v2205 : Int) (v2206 : List Int) (v2207 : Int) (v2208 : Int) (v2209 : List Int) (v2210 : List Int) : Option α :=
 let x2211 := decide (v2208 < v2207)
 bif x2211 then
  bif (decide (v2208 < (0 : Int))) then
   none
  else
   match v2206[v2208.toNat]? with
   | some x2212 =>
    let x2213 := IntKind.i64.wrap (v2203 + v2208)
    bif (decide (x2213 < (0 : Int))) then
     none
    else
     bif decide (x2213.toNat < v2209.length) then
      match v2209[x2213.toNat]? with
      | some x2214 =>
       let x2215 := IntKind.i64.wrap (x2214 + x2212)
       let x2216 := IntKind.i64.wrap (x2215 + v2205)
       let x2217 := IntKind.i64.wrap (v2203 + v2208)
       let x2218 := (bitI .and .i64 x2216 (65535 : Int))
       let x2219 := (shrI .i64 x2216 (16 : Int))
       bif (decide (x2217 < (0 : Int))) then
        none
       else
        bif decide (x2217.toNat < v2209.length) then
         match v2209[x2217.toNat]? with
         | some x2220 =>
          let x2221 := v2209.set x2217.toNat x2218
          let x2222 := (IntKind.i64.wrap (v2208 + (1 : Int)))
          next v2200 v2201 v2202 v2203 v2204 x2219 v2206 v2207 x2222 x2221 v2210
         | none => none
        else
         none
      | none => none
     else
      none
   | none => none
 else
  k0 v2200 v2201 v2202 v2203 v2204 v2205 v2209 v2210
noncomputable def impl_natDiv_L10.b {α : Type} (N n : Nat) (v2200 : Int) (v2201 : List Int) (v2202 : Int) (v2203 : Int) (v2204 : Int) (v2205 : Int) (v2206 : List Int) (v2207 : Int) (v2208 : Int) (v2209 : List Int) (v2210 : List Int) (k0 : Int → List Int → Int → Int → Int → Int → List Int → List Int → Option α) : Option α :=
  Nat.rec (motive := fun _ => Int → List Int → Int → Int → Int → Int → List Int → Int → Int → List Int → List Int → Option α) (fun _ _ _ _ _ _ _ _ _ _ _ => none) (fun _ next => impl_natDiv_L10r N next k0) n v2200 v2201 v2202 v2203 v2204 v2205 v2206 v2207 v2208 v2209 v2210
theorem impl_natDiv_L10.ex : ∃ f : ((α : Type) → Nat → Nat → Int → List Int → Int → Int → Int → Int → List Int → Int → Int → List Int → List Int → (Int → List Int → Int → Int → Int → Int → List Int → List Int → Option α) → Option α), f = fun α => @impl_natDiv_L10.b α := ⟨_, rfl⟩
noncomputable def impl_natDiv_L10 {α : Type} : Nat → Nat → Int → List Int → Int → Int → Int → Int → List Int → Int → Int → List Int → List Int → (Int → List Int → Int → Int → Int → Int → List Int → List Int → Option α) → Option α := Classical.choose impl_natDiv_L10.ex α
theorem impl_natDiv_L10.eq : @impl_natDiv_L10 = @impl_natDiv_L10.b := funext fun α => congrFun (Classical.choose_spec impl_natDiv_L10.ex) α
theorem impl_natDiv_L10.zero {α : Type} (N : Nat) (v2200 : Int) (v2201 : List Int) (v2202 : Int) (v2203 : Int) (v2204 : Int) (v2205 : Int) (v2206 : List Int) (v2207 : Int) (v2208 : Int) (v2209 : List Int) (v2210 : List Int) (k0 : Int → List Int → Int → Int → Int → Int → List Int → List Int → Option α) : impl_natDiv_L10 N 0 v2200 v2201 v2202 v2203 v2204 v2205 v2206 v2207 v2208 v2209 v2210 k0 = none := by rw [impl_natDiv_L10.eq]; rfl
theorem impl_natDiv_L10.succ {α : Type} (N n : Nat) (v2200 : Int) (v2201 : List Int) (v2202 : Int) (v2203 : Int) (v2204 : Int) (v2205 : Int) (v2206 : List Int) (v2207 : Int) (v2208 : Int) (v2209 : List Int) (v2210 : List Int) (k0 : Int → List Int → Int → Int → Int → Int → List Int → List Int → Option α) : impl_natDiv_L10 N (n + 1) v2200 v2201 v2202 v2203 v2204 v2205 v2206 v2207 v2208 v2209 v2210 k0 = impl_natDiv_L10r N (fun y0 y1 y2 y3 y4 y5 y6 y7 y8 y9 y10 => impl_natDiv_L10 N n y0 y1 y2 y3 y4 y5 y6 y7 y8 y9 y10 k0) k0 v2200 v2201 v2202 v2203 v2204 v2205 v2206 v2207 v2208 v2209 v2210 := by rw [impl_natDiv_L10.eq]; rfl
noncomputable def impl_natDiv_J40.b {α : Type} (N : Nat) (v2188 : Int) (v2189 : List Int) (v2190 : Int) (v2191 : Int) (v2192 : Int) (v2193 : List Int) (v2194 : List Int) (k0 : Int → List Int → Int → Int → Int → List Int → List Int → Option α) : Option α :=
 let x2195 := IntKind.i64.wrap (v2191 + v2190)
 bif (decide (x2195 < (0 : Int))) then
  none
 else
  bif decide (x2195.toNat < v2193.length) then
   match v2193[x2195.toNat]? with
   | some x2196 =>
    let x2197 := (decide (x2196 < (0 : Int)))
    bif x2197 then
     let x2198 := (IntKind.i64.wrap (v2192 - (1 : Int)))
     let x2199 := ((v2189.length : Nat) : Int)
     impl_natDiv_L10 N N v2188 v2189 v2190 v2191 x2198 (0 : Int) v2189 x2199 (0 : Int) v2193 v2194
      (fun x2223 x2224 x2225 x2226 x2227 x2228 x2229 x2230 =>
       let x2231 := IntKind.i64.wrap (x2226 + x2225)
       bif (decide (x2231 < (0 : Int))) then
        none
       else
        bif decide (x2231.toNat < x2229.length) then
         match x2229[x2231.toNat]? with
         | some x2232 =>
          let x2233 := IntKind.i64.wrap (x2232 + x2228)
          bif (decide (x2231 < (0 : Int))) then
           none
          else
           bif decide (x2231.toNat < x2229.length) then
            match x2229[x2231.toNat]? with
            | some x2234 =>
             let x2235 := x2229.set x2231.toNat x2233
             k0 x2223 x2224 x2225 x2226 x2227 x2235 x2230
            | none => none
           else
            none
         | none => none
        else
         none)
    else
     k0 v2188 v2189 v2190 v2191 v2192 v2193 v2194
   | none => none
  else
   none
theorem impl_natDiv_J40.ex : ∃ f : ((α : Type) → Nat → Int → List Int → Int → Int → Int → List Int → List Int → (Int → List Int → Int → Int → Int → List Int → List Int → Option α) → Option α), f = fun α => @impl_natDiv_J40.b α := ⟨_, rfl⟩
noncomputable def impl_natDiv_J40 {α : Type} : Nat → Int → List Int → Int → Int → Int → List Int → List Int → (Int → List Int → Int → Int → Int → List Int → List Int → Option α) → Option α := Classical.choose impl_natDiv_J40.ex α
theorem impl_natDiv_J40.eq : @impl_natDiv_J40 = @impl_natDiv_J40.b := funext fun α => congrFun (Classical.choose_spec impl_natDiv_J40.ex) α
noncomputable def impl_natDiv_L4r {α : Type} (N : Nat) (next : Int → List Int → Int → Int → List Int → List Int → Option α) (k0 : Int → List Int → List Int → Option α) (v2064 : Int) (v2065 : List Int) (v2066 : Int) (v2067 : Int) (v2068 : List Int) (v2069 : List Int) : Option α :=
 let x2070 := (decide ((0 : Int) ≤ v2067))
 bif x2070 then
  let x2071 := IntKind.i64.wrap (v2067 + v2066)
  bif (decide (x2071 < (0 : Int))) then
   none
  else
   bif decide (x2071.toNat < v2068.length) then
    match v2068[x2071.toNat]? with
    | some x2072 =>
     let x2073 := (shlI .i64 x2072 (16 : Int))
     let x2074 := IntKind.i64.wrap (v2067 + v2066)
     let x2075 := (IntKind.i64.wrap (x2074 - (1 : Int)))
     bif (decide (x2075 < (0 : Int))) then
      none
     else
      bif decide (x2075.toNat < v2068.length) then
       match v2068[x2075.toNat]? with
       | some x2076 =>
        let x2077 := bitI .or .i64 x2073 x2076
        let x2078 := (IntKind.i64.wrap (v2066 - (1 : Int)))
        bif (decide (x2078 < (0 : Int))) then
         none
        else
         match v2065[x2078.toNat]? with
         | some x2079 =>
          bif (decide (x2079 = (0 : Int))) then
           none
          else
           let x2080 := IntKind.i64.wrap (Int.tdiv x2077 x2079)
           let x2081 := (IntKind.i64.wrap (v2066 - (1 : Int)))
           bif (decide (x2081 < (0 : Int))) then
            none
           else
            match v2065[x2081.toNat]? with
            | some x2082 =>
             bif (decide (x2082 = (0 : Int))) then
              none
             else
              let x2083 := Int.tmod x2077 x2082
              impl_natDiv_L6 N N v2064 v2065 v2066 v2067 x2080 x2083 v2068 v2069
               (fun x2112 x2113 x2114 x2115 x2116 x2117 x2118 =>
                let x2119 := ((x2113.length : Nat) : Int)
                impl_natDiv_L8 N N x2112 x2113 x2114 x2115 x2116 (0 : Int) x2113 x2119 (0 : Int) x2117 x2118
                 (fun x2175 x2176 x2177 x2178 x2179 x2180 x2181 x2182 =>
                  let x2183 := IntKind.i64.wrap (x2178 + x2177)
                  bif (decide (x2183 < (0 : Int))) then
                   none
                  else
                   bif decide (x2183.toNat < x2181.length) then
                    match x2181[x2183.toNat]? with
                    | some x2184 =>
                     let x2185 := IntKind.i64.wrap (x2184 - x2180)
                     bif (decide (x2183 < (0 : Int))) then
                      none
                     else
                      bif decide (x2183.toNat < x2181.length) then
                       match x2181[x2183.toNat]? with
                       | some x2186 =>
                        let x2187 := x2181.set x2183.toNat x2185
                        impl_natDiv_J40 N x2175 x2176 x2177 x2178 x2179 x2187 x2182
                         (fun x2236 x2237 x2238 x2239 x2240 x2241 x2242 =>
                          bif (decide (x2239 < (0 : Int))) then
                           none
                          else
                           bif decide (x2239.toNat < x2242.length) then
                            match x2242[x2239.toNat]? with
                            | some x2243 =>
                             let x2244 := x2242.set x2239.toNat x2240
                             let x2245 := (IntKind.i64.wrap (x2239 - (1 : Int)))
                             next x2236 x2237 x2238 x2245 x2241 x2244
                            | none => none
                           else
                            none)
                       | none => none
                      else
                       none
                    | none => none
                   else
                    none))
            | none => none
         | none => none
       | none => none
      else
       none
    | none => none
   else
    none
 else
  k0 v2064 v2068 v2069
noncomputable def impl_natDiv_L4.b {α : Type} (N n : Nat) (v2064 : Int) (v2065 : List Int) (v2066 : Int) (v2067 : Int) (v2068 : List Int) (v2069 : List Int) (k0 : Int → List Int → List Int → Option α) : Option α :=
  Nat.rec (motive := fun _ => Int → List Int → Int → Int → List Int → List Int → Option α) (fun _ _ _ _ _ _ => none) (fun _ next => impl_natDiv_L4r N next k0) n v2064 v2065 v2066 v2067 v2068 v2069
theorem impl_natDiv_L4.ex : ∃ f : ((α : Type) → Nat → Nat → Int → List Int → Int → Int → List Int → List Int → (Int → List Int → List Int → Option α) → Option α), f = fun α => @impl_natDiv_L4.b α := ⟨_, rfl⟩
noncomputable def impl_natDiv_L4 {α : Type} : Nat → Nat → Int → List Int → Int → Int → List Int → List Int → (Int → List Int → List Int → Option α) → Option α := Classical.choose impl_natDiv_L4.ex α
theorem impl_natDiv_L4.eq : @impl_natDiv_L4 = @impl_natDiv_L4.b := funext fun α => congrFun (Classical.choose_spec impl_natDiv_L4.ex) α
theorem impl_natDiv_L4.zero {α : Type} (N : Nat) (v2064 : Int) (v2065 : List Int) (v2066 : Int) (v2067 : Int) (v2068 : List Int) (v2069 : List Int) (k0 : Int → List Int → List Int → Option α) : impl_natDiv_L4 N 0 v2064 v2065 v2066 v2067 v2068 v2069 k0 = none := by rw [impl_natDiv_L4.eq]; rfl
theorem impl_natDiv_L4.succ {α : Type} (N n : Nat) (v2064 : Int) (v2065 : List Int) (v2066 : Int) (v2067 : Int) (v2068 : List Int) (v2069 : List Int) (k0 : Int → List Int → List Int → Option α) : impl_natDiv_L4 N (n + 1) v2064 v2065 v2066 v2067 v2068 v2069 k0 = impl_natDiv_L4r N (fun y0 y1 y2 y3 y4 y5 => impl_natDiv_L4 N n y0 y1 y2 y3 y4 y5 k0) k0 v2064 v2065 v2066 v2067 v2068 v2069 := by rw [impl_natDiv_L4.eq]; rfl
/-- impl.natDiv -/
noncomputable def impl_natDiv.b {α : Type} (N : Nat) (a1809 : List Int) (a1810 : List Int) (k0 : List Int → List Int → Option α) : Option α :=
 impl_natCmp N a1809 a1810
  (fun x1837 =>
   let x1838 := (decide (x1837 < (0 : Int)))
   bif x1838 then
    k0 [] a1809
   else
    let x1839 := ((a1810.length : Nat) : Int)
    let x1840 := (decide (x1839 = (1 : Int)))
    bif x1840 then
     let x1841 := ((a1809.length : Nat) : Int)
     bif (decide ((0 : Int) ≤ x1841)) then
      bif decide (x1841 ≤ x1841) then
       bif (decide (x1841 ≤ ((8796093022208 : Nat) : Int))) then
        let x1842 := (List.replicate x1841.toNat (0 : Int))
        let x1843 := ((a1809.length : Nat) : Int)
        let x1844 := (IntKind.i64.wrap (x1843 - (1 : Int)))
        impl_natDiv_L0 N N a1809 a1810 (0 : Int) x1844 x1842
         (fun x1861 x1862 =>
          impl_trim N x1862
           (fun x1863 =>
            let x1864 := [x1861]
            impl_trim N x1864
             (fun x1865 =>
              k0 x1863 x1865)))
       else
        none
      else
       none
     else
      none
    else
     let x1866 := ((a1810.length : Nat) : Int)
     let x1867 := (IntKind.i64.wrap (x1866 - (1 : Int)))
     bif (decide (x1867 < (0 : Int))) then
      none
     else
      match a1810[x1867.toNat]? with
      | some x1868 =>
       let x1869 := IntKind.u64.wrap x1868
       math_bits_Len N x1869
        (fun x1898 =>
         let x1899 := (IntKind.i64.wrap ((16 : Int) - x1898))
         impl_natShift N a1810 x1899
          (fun x2037 =>
           impl_natShift N a1809 x1899
            (fun x2038 =>
             slices_Clone_int_int N x2038
              (fun x2039 =>
               let x2040 := [(0 : Int)]
               bif decide (x2039.length + x2040.length ≤ 8796093022208) then
                let x2041 := x2039 ++ x2040
                let x2042 := ((x2037.length : Nat) : Int)
                impl_natDiv_L2 N N a1809 x1899 x2037 x2042 x2041
                 (fun x2054 x2055 x2056 x2057 =>
                  let x2058 := ((x2057.length : Nat) : Int)
                  let x2059 := IntKind.i64.wrap (x2058 - x2056)
                  bif (decide ((0 : Int) ≤ x2059)) then
                   bif decide (x2059 ≤ x2059) then
                    bif (decide (x2059 ≤ ((8796093022208 : Nat) : Int))) then
                     let x2060 := (List.replicate x2059.toNat (0 : Int))
                     let x2061 := ((x2057.length : Nat) : Int)
                     let x2062 := IntKind.i64.wrap (x2061 - x2056)
                     let x2063 := (IntKind.i64.wrap (x2062 - (1 : Int)))
                     impl_natDiv_L4 N N x2054 x2055 x2056 x2063 x2057 x2060
                      (fun x2246 x2247 x2248 =>
                       impl_trim N x2248
                        (fun x2249 =>
                         impl_trim N x2247
                          (fun x2250 =>
                           let x2251 := IntKind.i64.wrap (0 - x2246)
                           impl_natShift N x2250 x2251
                            (fun x2252 =>
                             k0 x2249 x2252))))
                    else
                     none
                   else
                    none
                  else
                   none)
               else
                none))))
      | none => none)
theorem impl_natDiv.ex : ∃ f : ((α : Type) → Nat → List Int → List Int → (List Int → List Int → Option α) → Option α), f = fun α => @impl_natDiv.b α := ⟨_, rfl⟩
noncomputable def impl_natDiv {α : Type} : Nat → List Int → List Int → (List Int → List Int → Option α) → Option α := Classical.choose impl_natDiv.ex α
theorem impl_natDiv.eq : @impl_natDiv = @impl_natDiv.b := funext fun α => congrFun (Classical.choose_spec impl_natDiv.ex) α

noncomputable def impl_natGcd_L0r {α : Type} (N : Nat) (next : List Int → List Int → Option α) (k0 : List Int → Option α) (v1748 : List Int) (v1749 : List Int) : Option α :=
 let x1750 := ((v1749.length : Nat) : Int)
 let x1751 := (decide ((0 : Int) < x1750))
 bif x1751 then
  impl_natDiv N v1748 v1749
   (fun _ x2254 =>
    next v1749 x2254)
 else
  k0 v1748
noncomputable def impl_natGcd_L0.b {α : Type} (N n : Nat) (v1748 : List Int) (v1749 : List Int) (k0 : List Int → Option α) : Option α :=
  Nat.rec (motive := fun _ => List Int → List Int → Option α) (fun _ _ => none) (fun _ next => impl_natGcd_L0r N next k0) n v1748 v1749
theorem impl_natGcd_L0.ex : ∃ f : ((α : Type) → Nat → Nat → List Int → List Int → (List Int → Option α) → Option α), f = fun α => @impl_natGcd_L0.b α := ⟨_, rfl⟩
noncomputable def impl_natGcd_L0 {α : Type} : Nat → Nat → List Int → List Int → (List Int → Option α) → Option α := Classical.choose impl_natGcd_L0.ex α
theorem impl_natGcd_L0.eq : @impl_natGcd_L0 = @impl_natGcd_L0.b := funext fun α => congrFun (Classical.choose_spec impl_natGcd_L0.ex) α
theorem impl_natGcd_L0.zero {α : Type} (N : Nat) (v1748 : List Int) (v1749 : List Int) (k0 : List Int → Option α) : impl_natGcd_L0 N 0 v1748 v1749 k0 = none := by rw [impl_natGcd_L0.eq]; rfl
theorem impl_natGcd_L0.succ {α : Type} (N n : Nat) (v1748 : List Int) (v1749 : List Int) (k0 : List Int → Option α) : impl_natGcd_L0 N (n + 1) v1748 v1749 k0 = impl_natGcd_L0r N (fun y0 y1 => impl_natGcd_L0 N n y0 y1 k0) k0 v1748 v1749 := by rw [impl_natGcd_L0.eq]; rfl
/-- impl.natGcd -/
noncomputable def impl_natGcd.b {α : Type} (N : Nat) (a1746 : List Int) (a1747 : List Int) (k0 : List Int → Option α) : Option α :=
 impl_natGcd_L0 N N a1746 a1747
  (fun x2255 =>
   k0 x2255)
theorem impl_natGcd.ex : ∃ f : ((α : Type) → Nat → List Int → List Int → (List Int → Option α) → Option α), f = fun α => @impl_natGcd.b α := ⟨_, rfl⟩
noncomputable def impl_natGcd {α : Type} : Nat → List Int → List Int → (List Int → Option α) → Option α := Classical.choose impl_natGcd.ex α
theorem impl_natGcd.eq : @impl_natGcd = @impl_natGcd.b := funext fun α => congrFun (Classical.choose_spec impl_natGcd.ex) α

/-- impl.FracOk -/
noncomputable def impl_FracOk.b {α : Type} (N : Nat) (a1686 : Bool × (List Int) × (List Int) × Unit) (k0 : Bool → Option α) : Option α :=
 let x1687 := [a1686.2.1, a1686.2.2.1]
 impl_nats N x1687
  (fun x1741 =>
   bif x1741 then
    let x1742 := ((a1686.2.2.1.length : Nat) : Int)
    let x1743 := (decide ((0 : Int) < x1742))
    bif x1743 then
     let x1744 := ((a1686.2.1.length : Nat) : Int)
     let x1745 := (decide ((0 : Int) < x1744))
     bif x1745 then
      impl_natGcd N a1686.2.1 a1686.2.2.1
       (fun x2256 =>
        let x2257 := [(1 : Int)]
        impl_natCmp N x2256 x2257
         (fun x2258 =>
          let x2259 := (decide (x2258 = (0 : Int)))
          k0 x2259))
     else
      let x2260 := !a1686.1
      bif x2260 then
       impl_natGcd N a1686.2.1 a1686.2.2.1
        (fun x2261 =>
         let x2262 := [(1 : Int)]
         impl_natCmp N x2261 x2262
          (fun x2263 =>
           let x2264 := (decide (x2263 = (0 : Int)))
           k0 x2264))
      else
       k0 false
    else
     k0 false
   else
    k0 false)
theorem impl_FracOk.ex : ∃ f : ((α : Type) → Nat → (Bool × (List Int) × (List Int) × Unit) → (Bool → Option α) → Option α), f = fun α => @impl_FracOk.b α := ⟨_, rfl⟩
noncomputable def impl_FracOk {α : Type} : Nat → (Bool × (List Int) × (List Int) × Unit) → (Bool → Option α) → Option α := Classical.choose impl_FracOk.ex α
theorem impl_FracOk.eq : @impl_FracOk = @impl_FracOk.b := funext fun α => congrFun (Classical.choose_spec impl_FracOk.ex) α

-- prim strconv_Itoa
-- prim strings_Repeat
noncomputable def impl_natText_J7.b {α : Type} (N : Nat) (v2280 : ByteArray) (v2281 : List Int) (v2282 : List Int) (v2283 : Int) (k0 : ByteArray → List Int → Int → Option α) : Option α :=
 let x2284 := ((v2282.length : Nat) : Int)
 let x2285 := (decide ((0 : Int) < x2284))
 bif x2285 then
  match v2282[0]? with
  | some x2286 =>
   k0 v2280 v2281 x2286
  | none => none
 else
  k0 v2280 v2281 v2283
theorem impl_natText_J7.ex : ∃ f : ((α : Type) → Nat → ByteArray → List Int → List Int → Int → (ByteArray → List Int → Int → Option α) → Option α), f = fun α => @impl_natText_J7.b α := ⟨_, rfl⟩
noncomputable def impl_natText_J7 {α : Type} : Nat → ByteArray → List Int → List Int → Int → (ByteArray → List Int → Int → Option α) → Option α := Classical.choose impl_natText_J7.ex α
theorem impl_natText_J7.eq : @impl_natText_J7 = @impl_natText_J7.b := funext fun α => congrFun (Classical.choose_spec impl_natText_J7.ex) α
noncomputable def impl_natText_J10.b {α : Type} (N : Nat) (v2291 : ByteArray) (v2292 : List Int) (v2293 : ByteArray) (k0 : ByteArray → List Int → ByteArray → Option α) : Option α :=
 let x2294 := ((v2292.length : Nat) : Int)
 let x2295 := (decide ((0 : Int) < x2294))
 bif x2295 then
  let x2296 := ((v2293.size : Nat) : Int)
  let x2297 := (IntKind.i64.wrap ((4 : Int) - x2296))
  strings_Repeat N (⟨#[48]⟩ : ByteArray) x2297
   (fun x2298 =>
    bif decide (x2298.size + v2293.size ≤ 9223372036854775807) then
     let x2299 := x2298 ++ v2293
     k0 v2291 v2292 x2299
    else
     none)
 else
  k0 v2291 v2292 v2293
theorem impl_natText_J10.ex : ∃ f : ((α : Type) → Nat → ByteArray → List Int → ByteArray → (ByteArray → List Int → ByteArray → Option α) → Option α), f = fun α => @impl_natText_J10.b α := ⟨_, rfl⟩
noncomputable def impl_natText_J10 {α : Type} : Nat → ByteArray → List Int → ByteArray → (ByteArray → List Int → ByteArray → Option α) → Option α := Classical.choose impl_natText_J10.ex α
theorem impl_natText_J10.eq : @impl_natText_J10 = @impl_natText_J10.b := funext fun α => congrFun (Classical.choose_spec impl_natText_J10.ex) α
noncomputable def impl_natText_L0r {α : Type} (N : Nat) (next : List Int → ByteArray → Option α) (k0 : ByteArray → Option α) (v2273 : List Int) (v2274 : ByteArray) : Option α :=
 let x2275 := ((v2273.length : Nat) : Int)
 let x2276 := (decide ((0 : Int) < x2275))
 bif x2276 then
  let x2277 := [(10000 : Int)]
  impl_natDiv N v2273 x2277
   (fun x2278 x2279 =>
    impl_natText_J7 N v2274 x2278 x2279 (0 : Int)
     (fun x2287 x2288 x2289 =>
      strconv_Itoa N x2289
       (fun x2290 =>
        impl_natText_J10 N x2287 x2288 x2290
         (fun x2300 x2301 x2302 =>
          bif decide (x2302.size + x2300.size ≤ 9223372036854775807) then
           let x2303 := x2302 ++ x2300
           next x2301 x2303
          else
           none))))
 else
  k0 v2274
noncomputable def impl_natText_L0.b {α : Type} (N n : Nat) (v2273 : List Int) (v2274 : ByteArray) (k0 : ByteArray → Option α) : Option α :=
  Nat.rec (motive := fun _ => List Int → ByteArray → Option α) (fun _ _ => none) (fun _ next => impl_natText_L0r N next k0) n v2273 v2274
theorem impl_natText_L0.ex : ∃ f : ((α : Type) → Nat → Nat → List Int → ByteArray → (ByteArray → Option α) → Option α), f = fun α => @impl_natText_L0.b α := ⟨_, rfl⟩
noncomputable def impl_natText_L0 {α : Type} : Nat → Nat → List Int → ByteArray → (ByteArray → Option α) → Option α := Classical.choose impl_natText_L0.ex α
theorem impl_natText_L0.eq : @impl_natText_L0 = @impl_natText_L0.b := funext fun α => congrFun (Classical.choose_spec impl_natText_L0.ex) α
theorem impl_natText_L0.zero {α : Type} (N : Nat) (v2273 : List Int) (v2274 : ByteArray) (k0 : ByteArray → Option α) : impl_natText_L0 N 0 v2273 v2274 k0 = none := by rw [impl_natText_L0.eq]; rfl
theorem impl_natText_L0.succ {α : Type} (N n : Nat) (v2273 : List Int) (v2274 : ByteArray) (k0 : ByteArray → Option α) : impl_natText_L0 N (n + 1) v2273 v2274 k0 = impl_natText_L0r N (fun y0 y1 => impl_natText_L0 N n y0 y1 k0) k0 v2273 v2274 := by rw [impl_natText_L0.eq]; rfl
/-- impl.natText -/
noncomputable def impl_natText.b {α : Type} (N : Nat) (a2270 : List Int) (k0 : ByteArray → Option α) : Option α :=
 let x2271 := ((a2270.length : Nat) : Int)
 let x2272 := (decide (x2271 = (0 : Int)))
 bif x2272 then
  k0 (⟨#[48]⟩ : ByteArray)
 else
  impl_natText_L0 N N a2270 ByteArray.empty
   (fun x2304 =>
    k0 x2304)
theorem impl_natText.ex : ∃ f : ((α : Type) → Nat → List Int → (ByteArray → Option α) → Option α), f = fun α => @impl_natText.b α := ⟨_, rfl⟩
noncomputable def impl_natText {α : Type} : Nat → List Int → (ByteArray → Option α) → Option α := Classical.choose impl_natText.ex α
theorem impl_natText.eq : @impl_natText = @impl_natText.b := funext fun α => congrFun (Classical.choose_spec impl_natText.ex) α

noncomputable def impl_FracText_J4.b {α : Type} (N : Nat) (v2306 : ByteArray) (v2307 : Bool × (List Int) × (List Int) × Unit) (k0 : ByteArray → (Bool × (List Int) × (List Int) × Unit) → Option α) : Option α :=
 bif v2307.1 then
  bif (decide ((⟨#[45]⟩ : ByteArray).size + v2306.size ≤ 9223372036854775807)) then
   let x2308 := ((⟨#[45]⟩ : ByteArray) ++ v2306)
   k0 x2308 v2307
  else
   none
 else
  k0 v2306 v2307
theorem impl_FracText_J4.ex : ∃ f : ((α : Type) → Nat → ByteArray → (Bool × (List Int) × (List Int) × Unit) → (ByteArray → (Bool × (List Int) × (List Int) × Unit) → Option α) → Option α), f = fun α => @impl_FracText_J4.b α := ⟨_, rfl⟩
noncomputable def impl_FracText_J4 {α : Type} : Nat → ByteArray → (Bool × (List Int) × (List Int) × Unit) → (ByteArray → (Bool × (List Int) × (List Int) × Unit) → Option α) → Option α := Classical.choose impl_FracText_J4.ex α
theorem impl_FracText_J4.eq : @impl_FracText_J4 = @impl_FracText_J4.b := funext fun α => congrFun (Classical.choose_spec impl_FracText_J4.ex) α
noncomputable def impl_FracText_J6.b {α : Type} (N : Nat) (v2311 : ByteArray) (v2312 : Bool × (List Int) × (List Int) × Unit) (k0 : ByteArray → Option α) : Option α :=
 let x2313 := [(1 : Int)]
 impl_natCmp N v2312.2.2.1 x2313
  (fun x2314 =>
   let x2315 := (!(decide (x2314 = (0 : Int))))
   bif x2315 then
    impl_natText N v2312.2.2.1
     (fun x2316 =>
      bif (decide ((⟨#[47]⟩ : ByteArray).size + x2316.size ≤ 9223372036854775807)) then
       let x2317 := ((⟨#[47]⟩ : ByteArray) ++ x2316)
       bif decide (v2311.size + x2317.size ≤ 9223372036854775807) then
        let x2318 := v2311 ++ x2317
        k0 x2318
       else
        none
      else
       none)
   else
    k0 v2311)
theorem impl_FracText_J6.ex : ∃ f : ((α : Type) → Nat → ByteArray → (Bool × (List Int) × (List Int) × Unit) → (ByteArray → Option α) → Option α), f = fun α => @impl_FracText_J6.b α := ⟨_, rfl⟩
noncomputable def impl_FracText_J6 {α : Type} : Nat → ByteArray → (Bool × (List Int) × (List Int) × Unit) → (ByteArray → Option α) → Option α := Classical.choose impl_FracText_J6.ex α
theorem impl_FracText_J6.eq : @impl_FracText_J6 = @impl_FracText_J6.b := funext fun α => congrFun (Classical.choose_spec impl_FracText_J6.ex) α
/-- impl.FracText -/
noncomputable def impl_FracText.b {α : Type} (N : Nat) (a2267 : Bool × (List Int) × (List Int) × Unit) (k0 : ByteArray → Option α) : Option α :=
 impl_FracOk N a2267
  (fun x2268 =>
   let x2269 := !x2268
   bif x2269 then
    k0 ByteArray.empty
   else
    impl_natText N a2267.2.1
     (fun x2305 =>
      impl_FracText_J4 N x2305 a2267
       (fun x2309 x2310 =>
        impl_FracText_J6 N x2309 x2310
         (fun x2319 =>
          k0 x2319))))
theorem impl_FracText.ex : ∃ f : ((α : Type) → Nat → (Bool × (List Int) × (List Int) × Unit) → (ByteArray → Option α) → Option α), f = fun α => @impl_FracText.b α := ⟨_, rfl⟩
noncomputable def impl_FracText {α : Type} : Nat → (Bool × (List Int) × (List Int) × Unit) → (ByteArray → Option α) → Option α := Classical.choose impl_FracText.ex α
theorem impl_FracText.eq : @impl_FracText = @impl_FracText.b := funext fun α => congrFun (Classical.choose_spec impl_FracText.ex) α

noncomputable def impl_FracRead_J5.b {α : Type} (N : Nat) (v1662 : ByteArray) (v1663 : Bool) (v1664 : ByteArray) (v1665 : Bool) (v1666 : Bool) (v1667 : Bool) (v1668 : Bool) (v1669 : List Int) (v1670 : List Int) (v1671 : List Int) (v1672 : List Int) (k0 : ByteArray → Bool → Bool → Bool → Bool → List Int → List Int → List Int → List Int → Option α) : Option α :=
 bif v1665 then
  impl_NatRead N v1664
   (fun x1673 x1674 =>
    k0 v1662 v1663 v1666 x1673 v1668 v1669 x1674 v1671 v1672)
 else
  k0 v1662 v1663 v1666 v1667 v1668 v1669 v1670 v1671 v1672
theorem impl_FracRead_J5.ex : ∃ f : ((α : Type) → Nat → ByteArray → Bool → ByteArray → Bool → Bool → Bool → Bool → List Int → List Int → List Int → List Int → (ByteArray → Bool → Bool → Bool → Bool → List Int → List Int → List Int → List Int → Option α) → Option α), f = fun α => @impl_FracRead_J5.b α := ⟨_, rfl⟩
noncomputable def impl_FracRead_J5 {α : Type} : Nat → ByteArray → Bool → ByteArray → Bool → Bool → Bool → Bool → List Int → List Int → List Int → List Int → (ByteArray → Bool → Bool → Bool → Bool → List Int → List Int → List Int → List Int → Option α) → Option α := Classical.choose impl_FracRead_J5.ex α
theorem impl_FracRead_J5.eq : @impl_FracRead_J5 = @impl_FracRead_J5.b := funext fun α => congrFun (Classical.choose_spec impl_FracRead_J5.ex) α
/-- impl.FracRead -/
noncomputable def impl_FracRead.b {α : Type} (N : Nat) (a1303 : ByteArray) (k0 : Bool → Bool → List Int → List Int → Option α) : Option α :=
 strings_CutPrefix N a1303 (⟨#[45]⟩ : ByteArray)
  (fun x1322 x1323 =>
   strings_Cut N x1322 (⟨#[47]⟩ : ByteArray)
    (fun x1337 x1338 x1339 =>
     impl_NatRead N x1337
      (fun x1659 x1660 =>
       let x1661 := [(1 : Int)]
       impl_FracRead_J5 N a1303 x1323 x1338 x1339 x1659 true false x1660 x1661 [] []
        (fun x1675 x1676 x1677 x1678 _ x1680 x1681 _ _ =>
         let x1684 := !x1677
         bif x1684 then
          k0 false false [] []
         else
          let x1685 := !x1678
          bif x1685 then
           k0 false false [] []
          else
           impl_FracOk N (x1676, (x1680, (x1681, ())))
            (fun x2265 =>
             let x2266 := !x2265
             bif x2266 then
              k0 false false [] []
             else
              impl_FracText N (x1676, (x1680, (x1681, ())))
               (fun x2320 =>
                let x2321 := !eqS x2320 x1675
                bif x2321 then
                 k0 false false [] []
                else
                 k0 x1676 true x1680 x1681))))))
theorem impl_FracRead.ex : ∃ f : ((α : Type) → Nat → ByteArray → (Bool → Bool → List Int → List Int → Option α) → Option α), f = fun α => @impl_FracRead.b α := ⟨_, rfl⟩
noncomputable def impl_FracRead {α : Type} : Nat → ByteArray → (Bool → Bool → List Int → List Int → Option α) → Option α := Classical.choose impl_FracRead.ex α
theorem impl_FracRead.eq : @impl_FracRead = @impl_FracRead.b := funext fun α => congrFun (Classical.choose_spec impl_FracRead.ex) α

noncomputable def laws_eqIntS_L0r {α : Type} (N : Nat) (next : List Int → List Int → Int → Option α) (k0 : Bool → Option α) (k1 : Option α) (v2334 : List Int) (v2335 : List Int) (v2336 : Int) : Option α :=
 let x2337 := ((v2334.length : Nat) : Int)
 let x2338 := decide (v2336 < x2337)
 bif x2338 then
  bif (decide (v2336 < (0 : Int))) then
   none
  else
   match v2334[v2336.toNat]? with
   | some x2339 =>
    bif (decide (v2336 < (0 : Int))) then
     none
    else
     match v2335[v2336.toNat]? with
     | some x2340 =>
      let x2341 := !(decide (x2339 = x2340))
      bif x2341 then
       k0 false
      else
       let x2342 := (IntKind.i64.wrap (v2336 + (1 : Int)))
       next v2334 v2335 x2342
     | none => none
   | none => none
 else
  k1
noncomputable def laws_eqIntS_L0.b {α : Type} (N n : Nat) (v2334 : List Int) (v2335 : List Int) (v2336 : Int) (k0 : Bool → Option α) (k1 : Option α) : Option α :=
  Nat.rec (motive := fun _ => List Int → List Int → Int → Option α) (fun _ _ _ => none) (fun _ next => laws_eqIntS_L0r N next k0 k1) n v2334 v2335 v2336
theorem laws_eqIntS_L0.ex : ∃ f : ((α : Type) → Nat → Nat → List Int → List Int → Int → (Bool → Option α) → (Option α) → Option α), f = fun α => @laws_eqIntS_L0.b α := ⟨_, rfl⟩
noncomputable def laws_eqIntS_L0 {α : Type} : Nat → Nat → List Int → List Int → Int → (Bool → Option α) → (Option α) → Option α := Classical.choose laws_eqIntS_L0.ex α
theorem laws_eqIntS_L0.eq : @laws_eqIntS_L0 = @laws_eqIntS_L0.b := funext fun α => congrFun (Classical.choose_spec laws_eqIntS_L0.ex) α
theorem laws_eqIntS_L0.zero {α : Type} (N : Nat) (v2334 : List Int) (v2335 : List Int) (v2336 : Int) (k0 : Bool → Option α) (k1 : Option α) : laws_eqIntS_L0 N 0 v2334 v2335 v2336 k0 k1 = none := by rw [laws_eqIntS_L0.eq]; rfl
theorem laws_eqIntS_L0.succ {α : Type} (N n : Nat) (v2334 : List Int) (v2335 : List Int) (v2336 : Int) (k0 : Bool → Option α) (k1 : Option α) : laws_eqIntS_L0 N (n + 1) v2334 v2335 v2336 k0 k1 = laws_eqIntS_L0r N (fun y0 y1 y2 => laws_eqIntS_L0 N n y0 y1 y2 k0 k1) k0 k1 v2334 v2335 v2336 := by rw [laws_eqIntS_L0.eq]; rfl
/-- laws.eqIntS -/
noncomputable def laws_eqIntS.b {α : Type} (N : Nat) (a2329 : List Int) (a2330 : List Int) (k0 : Bool → Option α) : Option α :=
 let x2331 := ((a2329.length : Nat) : Int)
 let x2332 := ((a2330.length : Nat) : Int)
 let x2333 := !(decide (x2331 = x2332))
 bif x2333 then
  k0 false
 else
  laws_eqIntS_L0 N N a2329 a2330 (0 : Int)
   (fun x2343 =>
    k0 x2343)
   (
    k0 true)
theorem laws_eqIntS.ex : ∃ f : ((α : Type) → Nat → List Int → List Int → (Bool → Option α) → Option α), f = fun α => @laws_eqIntS.b α := ⟨_, rfl⟩
noncomputable def laws_eqIntS {α : Type} : Nat → List Int → List Int → (Bool → Option α) → Option α := Classical.choose laws_eqIntS.ex α
theorem laws_eqIntS.eq : @laws_eqIntS = @laws_eqIntS.b := funext fun α => congrFun (Classical.choose_spec laws_eqIntS.ex) α

/-- laws.eqFrac -/
noncomputable def laws_eqFrac.b {α : Type} (N : Nat) (a2326 : Bool × (List Int) × (List Int) × Unit) (a2327 : Bool × (List Int) × (List Int) × Unit) (k0 : Bool → Option α) : Option α :=
 let x2328 := !(a2326.1 == a2327.1)
 bif x2328 then
  k0 false
 else
  laws_eqIntS N a2326.2.1 a2327.2.1
   (fun x2344 =>
    let x2345 := !x2344
    bif x2345 then
     k0 false
    else
     laws_eqIntS N a2326.2.2.1 a2327.2.2.1
      (fun x2346 =>
       let x2347 := !x2346
       bif x2347 then
        k0 false
       else
        k0 true))
theorem laws_eqFrac.ex : ∃ f : ((α : Type) → Nat → (Bool × (List Int) × (List Int) × Unit) → (Bool × (List Int) × (List Int) × Unit) → (Bool → Option α) → Option α), f = fun α => @laws_eqFrac.b α := ⟨_, rfl⟩
noncomputable def laws_eqFrac {α : Type} : Nat → (Bool × (List Int) × (List Int) × Unit) → (Bool × (List Int) × (List Int) × Unit) → (Bool → Option α) → Option α := Classical.choose laws_eqFrac.ex α
theorem laws_eqFrac.eq : @laws_eqFrac = @laws_eqFrac.b := funext fun α => congrFun (Classical.choose_spec laws_eqFrac.ex) α

noncomputable def laws_markIntS_L0r {α : Type} (N : Nat) (next : Int → Int → List Int → Option α) (k0 : Int → List Int → Option α) (v2357 : Int) (v2358 : Int) (v2359 : List Int) : Option α :=
 let x2360 := ((v2359.length : Nat) : Int)
 let x2361 := decide (v2358 < x2360)
 bif x2361 then
  bif (decide (v2358 < (0 : Int))) then
   none
  else
   bif decide (v2358.toNat < v2359.length) then
    match v2359[v2358.toNat]? with
    | some x2362 =>
     let x2363 := v2359.set v2358.toNat v2357
     let x2364 := (IntKind.i64.wrap (v2357 + (1 : Int)))
     let x2365 := (IntKind.i64.wrap (v2358 + (1 : Int)))
     next x2364 x2365 x2363
    | none => none
   else
    none
 else
  k0 v2357 v2359
noncomputable def laws_markIntS_L0.b {α : Type} (N n : Nat) (v2357 : Int) (v2358 : Int) (v2359 : List Int) (k0 : Int → List Int → Option α) : Option α :=
  Nat.rec (motive := fun _ => Int → Int → List Int → Option α) (fun _ _ _ => none) (fun _ next => laws_markIntS_L0r N next k0) n v2357 v2358 v2359
theorem laws_markIntS_L0.ex : ∃ f : ((α : Type) → Nat → Nat → Int → Int → List Int → (Int → List Int → Option α) → Option α), f = fun α => @laws_markIntS_L0.b α := ⟨_, rfl⟩
noncomputable def laws_markIntS_L0 {α : Type} : Nat → Nat → Int → Int → List Int → (Int → List Int → Option α) → Option α := Classical.choose laws_markIntS_L0.ex α
theorem laws_markIntS_L0.eq : @laws_markIntS_L0 = @laws_markIntS_L0.b := funext fun α => congrFun (Classical.choose_spec laws_markIntS_L0.ex) α
theorem laws_markIntS_L0.zero {α : Type} (N : Nat) (v2357 : Int) (v2358 : Int) (v2359 : List Int) (k0 : Int → List Int → Option α) : laws_markIntS_L0 N 0 v2357 v2358 v2359 k0 = none := by rw [laws_markIntS_L0.eq]; rfl
theorem laws_markIntS_L0.succ {α : Type} (N n : Nat) (v2357 : Int) (v2358 : Int) (v2359 : List Int) (k0 : Int → List Int → Option α) : laws_markIntS_L0 N (n + 1) v2357 v2358 v2359 k0 = laws_markIntS_L0r N (fun y0 y1 y2 => laws_markIntS_L0 N n y0 y1 y2 k0) k0 v2357 v2358 v2359 := by rw [laws_markIntS_L0.eq]; rfl
/-- laws.markIntS -/
noncomputable def laws_markIntS.b {α : Type} (N : Nat) (a2355 : Int) (a2356 : List Int) (k0 : Int → List Int → Option α) : Option α :=
 laws_markIntS_L0 N N a2355 (0 : Int) a2356
  (fun x2366 x2367 =>
   k0 x2366 x2367)
theorem laws_markIntS.ex : ∃ f : ((α : Type) → Nat → Int → List Int → (Int → List Int → Option α) → Option α), f = fun α => @laws_markIntS.b α := ⟨_, rfl⟩
noncomputable def laws_markIntS {α : Type} : Nat → Int → List Int → (Int → List Int → Option α) → Option α := Classical.choose laws_markIntS.ex α
theorem laws_markIntS.eq : @laws_markIntS = @laws_markIntS.b := funext fun α => congrFun (Classical.choose_spec laws_markIntS.ex) α

/-- laws.markFrac -/
noncomputable def laws_markFrac.b {α : Type} (N : Nat) (a2351 : Bool) (a2352 : Int) (a2353 : List Int) (a2354 : List Int) (k0 : Int → List Int → List Int → Option α) : Option α :=
 laws_markIntS N a2352 a2353
  (fun x2368 x2369 =>
   laws_markIntS N x2368 a2354
    (fun x2370 x2371 =>
     k0 x2370 x2369 x2371))
theorem laws_markFrac.ex : ∃ f : ((α : Type) → Nat → Bool → Int → List Int → List Int → (Int → List Int → List Int → Option α) → Option α), f = fun α => @laws_markFrac.b α := ⟨_, rfl⟩
noncomputable def laws_markFrac {α : Type} : Nat → Bool → Int → List Int → List Int → (Int → List Int → List Int → Option α) → Option α := Classical.choose laws_markFrac.ex α
theorem laws_markFrac.eq : @laws_markFrac = @laws_markFrac.b := funext fun α => congrFun (Classical.choose_spec laws_markFrac.ex) α

noncomputable def laws_heldIntS_L0r {α : Type} (N : Nat) (next : List Int → Int → Int → Option α) (k0 : Int → Option α) (k1 : Int → Option α) (v2379 : List Int) (v2380 : Int) (v2381 : Int) : Option α :=
 let x2382 := ((v2379.length : Nat) : Int)
 let x2383 := decide (v2381 < x2382)
 bif x2383 then
  bif (decide (v2381 < (0 : Int))) then
   none
  else
   match v2379[v2381.toNat]? with
   | some x2384 =>
    let x2385 := !(decide (x2384 = v2380))
    bif x2385 then
     k0 (-1 : Int)
    else
     let x2386 := (IntKind.i64.wrap (v2380 + (1 : Int)))
     let x2387 := (IntKind.i64.wrap (v2381 + (1 : Int)))
     next v2379 x2386 x2387
   | none => none
 else
  k1 v2380
noncomputable def laws_heldIntS_L0.b {α : Type} (N n : Nat) (v2379 : List Int) (v2380 : Int) (v2381 : Int) (k0 : Int → Option α) (k1 : Int → Option α) : Option α :=
  Nat.rec (motive := fun _ => List Int → Int → Int → Option α) (fun _ _ _ => none) (fun _ next => laws_heldIntS_L0r N next k0 k1) n v2379 v2380 v2381
theorem laws_heldIntS_L0.ex : ∃ f : ((α : Type) → Nat → Nat → List Int → Int → Int → (Int → Option α) → (Int → Option α) → Option α), f = fun α => @laws_heldIntS_L0.b α := ⟨_, rfl⟩
noncomputable def laws_heldIntS_L0 {α : Type} : Nat → Nat → List Int → Int → Int → (Int → Option α) → (Int → Option α) → Option α := Classical.choose laws_heldIntS_L0.ex α
theorem laws_heldIntS_L0.eq : @laws_heldIntS_L0 = @laws_heldIntS_L0.b := funext fun α => congrFun (Classical.choose_spec laws_heldIntS_L0.ex) α
theorem laws_heldIntS_L0.zero {α : Type} (N : Nat) (v2379 : List Int) (v2380 : Int) (v2381 : Int) (k0 : Int → Option α) (k1 : Int → Option α) : laws_heldIntS_L0 N 0 v2379 v2380 v2381 k0 k1 = none := by rw [laws_heldIntS_L0.eq]; rfl
theorem laws_heldIntS_L0.succ {α : Type} (N n : Nat) (v2379 : List Int) (v2380 : Int) (v2381 : Int) (k0 : Int → Option α) (k1 : Int → Option α) : laws_heldIntS_L0 N (n + 1) v2379 v2380 v2381 k0 k1 = laws_heldIntS_L0r N (fun y0 y1 y2 => laws_heldIntS_L0 N n y0 y1 y2 k0 k1) k0 k1 v2379 v2380 v2381 := by rw [laws_heldIntS_L0.eq]; rfl
/-- laws.heldIntS -/
noncomputable def laws_heldIntS.b {α : Type} (N : Nat) (a2377 : List Int) (a2378 : Int) (k0 : Int → Option α) : Option α :=
 laws_heldIntS_L0 N N a2377 a2378 (0 : Int)
  (fun x2388 =>
   k0 x2388)
  (fun x2389 =>
   k0 x2389)
theorem laws_heldIntS.ex : ∃ f : ((α : Type) → Nat → List Int → Int → (Int → Option α) → Option α), f = fun α => @laws_heldIntS.b α := ⟨_, rfl⟩
noncomputable def laws_heldIntS {α : Type} : Nat → List Int → Int → (Int → Option α) → Option α := Classical.choose laws_heldIntS.ex α
theorem laws_heldIntS.eq : @laws_heldIntS = @laws_heldIntS.b := funext fun α => congrFun (Classical.choose_spec laws_heldIntS.ex) α

/-- laws.heldFrac -/
noncomputable def laws_heldFrac.b {α : Type} (N : Nat) (a2375 : Bool × (List Int) × (List Int) × Unit) (a2376 : Int) (k0 : Int → Option α) : Option α :=
 laws_heldIntS N a2375.2.1 a2376
  (fun x2390 =>
   let x2391 := (decide (x2390 < (0 : Int)))
   bif x2391 then
    k0 (-1 : Int)
   else
    laws_heldIntS N a2375.2.2.1 x2390
     (fun x2392 =>
      let x2393 := (decide (x2392 < (0 : Int)))
      bif x2393 then
       k0 (-1 : Int)
      else
       k0 x2392))
theorem laws_heldFrac.ex : ∃ f : ((α : Type) → Nat → (Bool × (List Int) × (List Int) × Unit) → Int → (Int → Option α) → Option α), f = fun α => @laws_heldFrac.b α := ⟨_, rfl⟩
noncomputable def laws_heldFrac {α : Type} : Nat → (Bool × (List Int) × (List Int) × Unit) → Int → (Int → Option α) → Option α := Classical.choose laws_heldFrac.ex α
theorem laws_heldFrac.eq : @laws_heldFrac = @laws_heldFrac.b := funext fun α => congrFun (Classical.choose_spec laws_heldFrac.ex) α

/-- laws.FnExactFracRead -/
noncomputable def laws_FnExactFracRead.b {α : Type} (N : Nat) (a1 : ByteArray) (k0 : Bool → Option α) : Option α :=
 let x2 := ((a1.size : Nat) : Int)
 let x3 := (decide ((1048576 : Int) < x2))
 bif x3 then
  k0 true
 else
  spec_FracRead N a1
   (fun x1301 x1302 =>
    impl_FracRead N a1
     (fun x2322 x2323 x2324 x2325 =>
      laws_eqFrac N (x2322, (x2324, (x2325, ()))) x1301
       (fun x2348 =>
        let x2349 := !x2348
        bif x2349 then
         k0 false
        else
         let x2350 := !(x2323 == x1302)
         bif x2350 then
          k0 false
         else
          laws_markFrac N x2322 (1 : Int) x2324 x2325
           (fun x2372 x2373 x2374 =>
            laws_heldFrac N (x2322, (x2373, (x2374, ()))) (1 : Int)
             (fun x2394 =>
              let x2395 := (decide (x2394 < (0 : Int)))
              bif x2395 then
               k0 false
              else
               let x2396 := !(decide (x2394 = x2372))
               bif x2396 then
                k0 false
               else
                impl_FracRead N a1
                 (fun x2397 x2398 x2399 x2400 =>
                  laws_eqFrac N (x2397, (x2399, (x2400, ()))) x1301
                   (fun x2401 =>
                    let x2402 := !x2401
                    bif x2402 then
                     k0 false
                    else
                     let x2403 := !(x2398 == x1302)
                     bif x2403 then
                      k0 false
                     else
                      laws_heldFrac N (x2322, (x2373, (x2374, ()))) (1 : Int)
                       (fun x2404 =>
                        let x2405 := (decide (x2404 < (0 : Int)))
                        bif x2405 then
                         k0 false
                        else
                         let x2406 := !(decide (x2404 = x2372))
                         bif x2406 then
                          k0 false
                         else
                          k0 true))))))))
theorem laws_FnExactFracRead.ex : ∃ f : ((α : Type) → Nat → ByteArray → (Bool → Option α) → Option α), f = fun α => @laws_FnExactFracRead.b α := ⟨_, rfl⟩
noncomputable def laws_FnExactFracRead {α : Type} : Nat → ByteArray → (Bool → Option α) → Option α := Classical.choose laws_FnExactFracRead.ex α
theorem laws_FnExactFracRead.eq : @laws_FnExactFracRead = @laws_FnExactFracRead.b := funext fun α => congrFun (Classical.choose_spec laws_FnExactFracRead.ex) α

end
end Go.Proofs.YtnhbcpmmdblkjaaDoorAm
