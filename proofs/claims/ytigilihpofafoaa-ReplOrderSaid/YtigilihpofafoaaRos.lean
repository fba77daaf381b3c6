/- ReplOrder: the family of templates: the replacement state; when each way was used: in the order that the state tells. -/
import Derived.Test.YtigilihpofafoaaRm
import Derived.Test.YtigilihpofafoaaLocY4
namespace Go.Proofs.Ytigilihpofafoaa.Ros
open Go Go.RowKit Loc Rm
set_option linter.unusedVariables false
def sA : Sh := .one (.int .u8)
def sB : Sh := .one (.int .i64)
def sC : Sh := .lst [.int .u8] 5
theorem sh0 : shOf Try.prog 5 = some sA := by kernel_rfl
theorem sh1 : shOf Try.prog 3 = some sB := by kernel_rfl
theorem sh2 : shOf Try.prog 33 = some sC := by kernel_rfl
theorem boolT : Try.prog.underlying 4 = some .bool := by kernel_rfl
def shs : List Sh := [sA, sB, sC]
def kget (l : List Int) (i : Nat) : Int := (l[i]?).getD 0
def cellI : LV → Int
  | .int _ n => n
  | _ => -7
noncomputable def keyOf (st : St) : List Int :=
  match st.h.get 1 with
  | some (.var cs _) => cs.map cellI
  | _ => []
/-- way 'w' was used: variable 4 + w -/
noncomputable def atV (w : Int) : SE := .v (4 + w.toNat)
noncomputable def ltAll (w : Int) : List Int → List SB
  | [] => [.lt (atV w) (.v 3)]
  | x :: l => .lt (atV w) (atV x) :: ltAll w l
noncomputable def chainF : List Int → List SB
  | [] => []
  | w :: l => ltAll w l ++ chainF l
/-- the first 'n' of the order; of a tree nothing is told -/
noncomputable def ordF (k : List Int) : List SB := cond (iBeq (kget k 0) 3) [] (chainF ((k.drop 2).take (kget k 1).toNat))
noncomputable def atC (n : Nat) (w : Nat) : LV := cond (Nat.blt w n) (.sym .i64 (.v (4 + w))) (.int .i64 ((w : Int) - 4))
noncomputable def Tk (D : List (Int × Int)) (S : List (Option Nat)) (n : Nat) (k : List Int) : Tm := { nt := 178, nx := 3, sl := [(0, .int .u8 (kget k 0)), (1, .int .i64 (kget k 1)), (2, .os 0 (.v 2)), (7, .ptr 1 0 0 []), (8, .ptr 2 0 0 []), (10, .sym .i64 (.v 3))], ob := [(1, [.int .u8 (kget k 0), .int .i64 (kget k 1), .int .u8 (kget k 2), .int .u8 (kget k 3), .int .u8 (kget k 4), .int .u8 (kget k 5), .int .u8 (kget k 6)]), (2, [atC n 0, atC n 1, atC n 2, atC n 3])], lo := [(0, 0, [.int .u8], 5)], src := S, dom := D, fa := .lt (.v 3) (.v 2) :: ordF k, ctr := some 3 }
noncomputable def Fm (D : List (Int × Int)) (S : List (Option Nat)) (n : Nat) : Fam := ⟨Tk D S n, keyOf⟩
noncomputable def K : List Itm := stopK 3 Try.f6
noncomputable def body : Code := match Try.f6.body with
  | some b => b
  | none => .skip
theorem hbody : Try.f6.body = some body := by kernel_rfl
def D11 : List (Int × Int) := [(1, 1), (1, 1), (1, 200), (0, 199), (-4, 199)]
def S11 : List (Option Nat) := [none, none, none, some 10, some 1200]
def C11 : List (Int × Int) := [(1, 1), (1, 1), (1, 200)]
def ks11 : List (List Int) := [[1, 1, 0, 0, 0, 0, 0]]
noncomputable def F11 : Fam := Fm D11 S11 1
def D12 : List (Int × Int) := [(1, 1), (2, 2), (1, 200), (0, 199), (-4, 199), (-4, 199)]
def S12 : List (Option Nat) := [none, none, none, some 10, some 1200, some 1201]
def C12 : List (Int × Int) := [(1, 1), (2, 2), (1, 200)]
def ks12 : List (List Int) := [[1, 2, 0, 1, 0, 0, 0], [1, 2, 1, 0, 0, 0, 0]]
noncomputable def F12 : Fam := Fm D12 S12 2
def D13 : List (Int × Int) := [(1, 1), (3, 3), (1, 200), (0, 199), (-4, 199), (-4, 199), (-4, 199)]
def S13 : List (Option Nat) := [none, none, none, some 10, some 1200, some 1201, some 1202]
def C13 : List (Int × Int) := [(1, 1), (3, 3), (1, 200)]
def ks13 : List (List Int) := [[1, 3, 0, 1, 2, 0, 0], [1, 3, 0, 2, 1, 0, 0], [1, 3, 1, 0, 2, 0, 0], [1, 3, 1, 2, 0, 0, 0], [1, 3, 2, 0, 1, 0, 0], [1, 3, 2, 1, 0, 0, 0]]
noncomputable def F13 : Fam := Fm D13 S13 3
def D14 : List (Int × Int) := [(1, 1), (4, 4), (1, 200), (0, 199), (-4, 199), (-4, 199), (-4, 199), (-4, 199)]
def S14 : List (Option Nat) := [none, none, none, some 10, some 1200, some 1201, some 1202, some 1203]
def C14 : List (Int × Int) := [(1, 1), (4, 4), (1, 200)]
def ks14 : List (List Int) := [[1, 4, 0, 1, 2, 3, 0], [1, 4, 0, 1, 3, 2, 0], [1, 4, 0, 2, 1, 3, 0], [1, 4, 0, 2, 3, 1, 0], [1, 4, 0, 3, 1, 2, 0], [1, 4, 0, 3, 2, 1, 0], [1, 4, 1, 0, 2, 3, 0], [1, 4, 1, 0, 3, 2, 0], [1, 4, 1, 2, 0, 3, 0], [1, 4, 1, 2, 3, 0, 0], [1, 4, 1, 3, 0, 2, 0], [1, 4, 1, 3, 2, 0, 0], [1, 4, 2, 0, 1, 3, 0], [1, 4, 2, 0, 3, 1, 0], [1, 4, 2, 1, 0, 3, 0], [1, 4, 2, 1, 3, 0, 0], [1, 4, 2, 3, 0, 1, 0], [1, 4, 2, 3, 1, 0, 0], [1, 4, 3, 0, 1, 2, 0], [1, 4, 3, 0, 2, 1, 0], [1, 4, 3, 1, 0, 2, 0], [1, 4, 3, 1, 2, 0, 0], [1, 4, 3, 2, 0, 1, 0], [1, 4, 3, 2, 1, 0, 0]]
noncomputable def F14 : Fam := Fm D14 S14 4
def D21 : List (Int × Int) := [(2, 2), (1, 1), (1, 200), (0, 199), (-4, 199)]
def S21 : List (Option Nat) := [none, none, none, some 10, some 1200]
def C21 : List (Int × Int) := [(2, 2), (1, 1), (1, 200)]
def ks21 : List (List Int) := [[2, 1, 0, 0, 0, 0, 0]]
noncomputable def F21 : Fam := Fm D21 S21 1
def D22 : List (Int × Int) := [(2, 2), (2, 2), (1, 200), (0, 199), (-4, 199), (-4, 199)]
def S22 : List (Option Nat) := [none, none, none, some 10, some 1200, some 1201]
def C22 : List (Int × Int) := [(2, 2), (2, 2), (1, 200)]
def ks22 : List (List Int) := [[2, 2, 0, 1, 0, 0, 0], [2, 2, 1, 0, 0, 0, 0]]
noncomputable def F22 : Fam := Fm D22 S22 2
def D23 : List (Int × Int) := [(2, 2), (3, 3), (1, 200), (0, 199), (-4, 199), (-4, 199), (-4, 199)]
def S23 : List (Option Nat) := [none, none, none, some 10, some 1200, some 1201, some 1202]
def C23 : List (Int × Int) := [(2, 2), (3, 3), (1, 200)]
def ks23 : List (List Int) := [[2, 3, 0, 1, 2, 0, 0], [2, 3, 0, 2, 1, 0, 0], [2, 3, 1, 0, 2, 0, 0], [2, 3, 1, 2, 0, 0, 0], [2, 3, 2, 0, 1, 0, 0], [2, 3, 2, 1, 0, 0, 0]]
noncomputable def F23 : Fam := Fm D23 S23 3
def D24 : List (Int × Int) := [(2, 2), (4, 4), (1, 200), (0, 199), (-4, 199), (-4, 199), (-4, 199), (-4, 199)]
def S24 : List (Option Nat) := [none, none, none, some 10, some 1200, some 1201, some 1202, some 1203]
def C24 : List (Int × Int) := [(2, 2), (4, 4), (1, 200)]
def ks24 : List (List Int) := [[2, 4, 0, 1, 2, 3, 0], [2, 4, 0, 1, 3, 2, 0], [2, 4, 0, 2, 1, 3, 0], [2, 4, 0, 2, 3, 1, 0], [2, 4, 0, 3, 1, 2, 0], [2, 4, 0, 3, 2, 1, 0], [2, 4, 1, 0, 2, 3, 0], [2, 4, 1, 0, 3, 2, 0], [2, 4, 1, 2, 0, 3, 0], [2, 4, 1, 2, 3, 0, 0], [2, 4, 1, 3, 0, 2, 0], [2, 4, 1, 3, 2, 0, 0], [2, 4, 2, 0, 1, 3, 0], [2, 4, 2, 0, 3, 1, 0], [2, 4, 2, 1, 0, 3, 0], [2, 4, 2, 1, 3, 0, 0], [2, 4, 2, 3, 0, 1, 0], [2, 4, 2, 3, 1, 0, 0], [2, 4, 3, 0, 1, 2, 0], [2, 4, 3, 0, 2, 1, 0], [2, 4, 3, 1, 0, 2, 0], [2, 4, 3, 1, 2, 0, 0], [2, 4, 3, 2, 0, 1, 0], [2, 4, 3, 2, 1, 0, 0]]
noncomputable def F24 : Fam := Fm D24 S24 4
def D31 : List (Int × Int) := [(3, 3), (1, 1), (1, 200), (0, 199), (-4, 199)]
def S31 : List (Option Nat) := [none, none, none, some 10, some 1200]
def C31 : List (Int × Int) := [(3, 3), (1, 1), (1, 200)]
def ks31 : List (List Int) := [[3, 1, 0, 0, 0, 0, 0], [3, 1, 0, 0, 0, 0, 3]]
noncomputable def F31 : Fam := Fm D31 S31 1
def D32 : List (Int × Int) := [(3, 3), (2, 2), (1, 200), (0, 199), (-4, 199), (-4, 199)]
def S32 : List (Option Nat) := [none, none, none, some 10, some 1200, some 1201]
def C32 : List (Int × Int) := [(3, 3), (2, 2), (1, 200)]
def ks32 : List (List Int) := [[3, 2, 0, 0, 0, 0, 0], [3, 2, 0, 0, 0, 0, 1], [3, 2, 0, 0, 0, 0, 3]]
noncomputable def F32 : Fam := Fm D32 S32 2
def D33 : List (Int × Int) := [(3, 3), (3, 3), (1, 200), (0, 199), (-4, 199), (-4, 199), (-4, 199)]
def S33 : List (Option Nat) := [none, none, none, some 10, some 1200, some 1201, some 1202]
def C33 : List (Int × Int) := [(3, 3), (3, 3), (1, 200)]
def ks33 : List (List Int) := [[3, 3, 0, 0, 0, 0, 0], [3, 3, 0, 0, 0, 0, 1], [3, 3, 0, 0, 0, 0, 3], [3, 3, 0, 0, 0, 0, 4], [3, 3, 0, 0, 0, 0, 5], [3, 3, 0, 0, 0, 0, 6], [3, 3, 0, 0, 0, 0, 7]]
noncomputable def F33 : Fam := Fm D33 S33 3
def D34 : List (Int × Int) := [(3, 3), (4, 4), (1, 200), (0, 199), (-4, 199), (-4, 199), (-4, 199), (-4, 199)]
def S34 : List (Option Nat) := [none, none, none, some 10, some 1200, some 1201, some 1202, some 1203]
def C34 : List (Int × Int) := [(3, 3), (4, 4), (1, 200)]
def ks34 : List (List Int) := [[3, 4, 0, 0, 0, 0, 0], [3, 4, 0, 0, 0, 0, 1], [3, 4, 0, 0, 0, 0, 2], [3, 4, 0, 0, 0, 0, 3], [3, 4, 0, 0, 0, 0, 4], [3, 4, 0, 0, 0, 0, 5], [3, 4, 0, 0, 0, 0, 6], [3, 4, 0, 0, 0, 0, 7]]
noncomputable def F34 : Fam := Fm D34 S34 4
def D41 : List (Int × Int) := [(4, 4), (1, 1), (1, 200), (0, 199), (-4, 199)]
def S41 : List (Option Nat) := [none, none, none, some 10, some 1200]
def C41 : List (Int × Int) := [(4, 4), (1, 1), (1, 200)]
def ks41 : List (List Int) := [[4, 1, 0, 0, 0, 0, 0]]
noncomputable def F41 : Fam := Fm D41 S41 1
def D42 : List (Int × Int) := [(4, 4), (2, 2), (1, 200), (0, 199), (-4, 199), (-4, 199)]
def S42 : List (Option Nat) := [none, none, none, some 10, some 1200, some 1201]
def C42 : List (Int × Int) := [(4, 4), (2, 2), (1, 200)]
def ks42 : List (List Int) := [[4, 2, 0, 1, 0, 0, 0], [4, 2, 1, 0, 0, 0, 0]]
noncomputable def F42 : Fam := Fm D42 S42 2
def D43 : List (Int × Int) := [(4, 4), (3, 3), (1, 200), (0, 199), (-4, 199), (-4, 199), (-4, 199)]
def S43 : List (Option Nat) := [none, none, none, some 10, some 1200, some 1201, some 1202]
def C43 : List (Int × Int) := [(4, 4), (3, 3), (1, 200)]
def ks43 : List (List Int) := [[4, 3, 0, 1, 2, 0, 0], [4, 3, 0, 2, 1, 0, 0], [4, 3, 1, 0, 2, 0, 0], [4, 3, 1, 2, 0, 0, 0], [4, 3, 2, 0, 1, 0, 0], [4, 3, 2, 1, 0, 0, 0]]
noncomputable def F43 : Fam := Fm D43 S43 3
def D44 : List (Int × Int) := [(4, 4), (4, 4), (1, 200), (0, 199), (-4, 199), (-4, 199), (-4, 199), (-4, 199)]
def S44 : List (Option Nat) := [none, none, none, some 10, some 1200, some 1201, some 1202, some 1203]
def C44 : List (Int × Int) := [(4, 4), (4, 4), (1, 200)]
def ks44 : List (List Int) := [[4, 4, 0, 1, 2, 3, 0], [4, 4, 0, 1, 3, 2, 0], [4, 4, 0, 2, 1, 3, 0], [4, 4, 0, 2, 3, 1, 0], [4, 4, 0, 3, 1, 2, 0], [4, 4, 0, 3, 2, 1, 0], [4, 4, 1, 0, 2, 3, 0], [4, 4, 1, 0, 3, 2, 0], [4, 4, 1, 2, 0, 3, 0], [4, 4, 1, 2, 3, 0, 0], [4, 4, 1, 3, 0, 2, 0], [4, 4, 1, 3, 2, 0, 0], [4, 4, 2, 0, 1, 3, 0], [4, 4, 2, 0, 3, 1, 0], [4, 4, 2, 1, 0, 3, 0], [4, 4, 2, 1, 3, 0, 0], [4, 4, 2, 3, 0, 1, 0], [4, 4, 2, 3, 1, 0, 0], [4, 4, 3, 0, 1, 2, 0], [4, 4, 3, 0, 2, 1, 0], [4, 4, 3, 1, 0, 2, 0], [4, 4, 3, 1, 2, 0, 0], [4, 4, 3, 2, 0, 1, 0], [4, 4, 3, 2, 1, 0, 0]]
noncomputable def F44 : Fam := Fm D44 S44 4
end Go.Proofs.Ytigilihpofafoaa.Ros
