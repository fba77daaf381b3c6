/- ViewTold: the walk: in 17 boxes of arguments all ways of the law's run end in 'true'; where the kind and the number of caches are valid and the list is neither empty nor too long, the state at the loop's stop is one of 2^caches, told by the set of the caches noted; each round leads to itself, one index on, or to a larger set. -/
import Derived.Test.YtchchjihincofaaLocY3
namespace Go.Proofs.Ytchchjihincofaa.ViewToldP
open Go Go.RowKit Loc
set_option linter.unusedVariables false
theorem mo : Try.prog.follows .mixedOrders = true := by kernel_rfl
theorem nogo : NoGo Try.prog := nogo_of (by kernel_rfl)
noncomputable def G0 : Know := ⟨fun _ => none, fun _ => false⟩
def witness : Array Value := #[.int .u8 0, .int .i64 0, .slice none 0 0]
def sA : Sh := .one (.int .u8)
def sB : Sh := .one (.int .i64)
def sC : Sh := .lst [.int .u8] 5
theorem sh0 : shOf Try.prog 5 = some sA := by kernel_rfl
theorem sh1 : shOf Try.prog 3 = some sB := by kernel_rfl
theorem sh2 : shOf Try.prog 30 = some sC := by kernel_rfl
theorem boolT : Try.prog.underlying 4 = some .bool := by kernel_rfl
def shs : List Sh := [sA, sB, sC]
def box0 : List (Int × Int) := [(0, 0), (-9223372036854775808, 9223372036854775807), (0, 9223372036854775807)]
theorem ok0 : BoxOk Try.prog G0 5 8000 shs box0 := fun rho ok => by kernel_rfl
def box1 : List (Int × Int) := [(4, 255), (-9223372036854775808, 9223372036854775807), (0, 9223372036854775807)]
theorem ok1 : BoxOk Try.prog G0 5 8000 shs box1 := fun rho ok => by kernel_rfl
def box2 : List (Int × Int) := [(1, 3), (-9223372036854775808, 0), (0, 9223372036854775807)]
theorem ok2 : BoxOk Try.prog G0 5 8000 shs box2 := fun rho ok => by kernel_rfl
def box3 : List (Int × Int) := [(1, 3), (5, 9223372036854775807), (0, 9223372036854775807)]
theorem ok3 : BoxOk Try.prog G0 5 8000 shs box3 := fun rho ok => by kernel_rfl
def box4 : List (Int × Int) := [(1, 3), (1, 4), (201, 9223372036854775807)]
theorem ok4 : BoxOk Try.prog G0 5 8000 shs box4 := fun rho ok => by kernel_rfl
def box5 : List (Int × Int) := [(1, 1), (1, 1), (0, 0)]
theorem ok5 : BoxOk Try.prog G0 5 8000 shs box5 := fun rho ok => by kernel_rfl
def box6 : List (Int × Int) := [(1, 1), (2, 2), (0, 0)]
theorem ok6 : BoxOk Try.prog G0 5 8000 shs box6 := fun rho ok => by kernel_rfl
def box7 : List (Int × Int) := [(1, 1), (3, 3), (0, 0)]
theorem ok7 : BoxOk Try.prog G0 5 8000 shs box7 := fun rho ok => by kernel_rfl
def box8 : List (Int × Int) := [(1, 1), (4, 4), (0, 0)]
theorem ok8 : BoxOk Try.prog G0 5 8000 shs box8 := fun rho ok => by kernel_rfl
def box9 : List (Int × Int) := [(2, 2), (1, 1), (0, 0)]
theorem ok9 : BoxOk Try.prog G0 5 8000 shs box9 := fun rho ok => by kernel_rfl
def box10 : List (Int × Int) := [(2, 2), (2, 2), (0, 0)]
theorem ok10 : BoxOk Try.prog G0 5 8000 shs box10 := fun rho ok => by kernel_rfl
def box11 : List (Int × Int) := [(2, 2), (3, 3), (0, 0)]
theorem ok11 : BoxOk Try.prog G0 5 8000 shs box11 := fun rho ok => by kernel_rfl
def box12 : List (Int × Int) := [(2, 2), (4, 4), (0, 0)]
theorem ok12 : BoxOk Try.prog G0 5 8000 shs box12 := fun rho ok => by kernel_rfl
def box13 : List (Int × Int) := [(3, 3), (1, 1), (0, 0)]
theorem ok13 : BoxOk Try.prog G0 5 8000 shs box13 := fun rho ok => by kernel_rfl
def box14 : List (Int × Int) := [(3, 3), (2, 2), (0, 0)]
theorem ok14 : BoxOk Try.prog G0 5 8000 shs box14 := fun rho ok => by kernel_rfl
def box15 : List (Int × Int) := [(3, 3), (3, 3), (0, 0)]
theorem ok15 : BoxOk Try.prog G0 5 8000 shs box15 := fun rho ok => by kernel_rfl
def box16 : List (Int × Int) := [(3, 3), (4, 4), (0, 0)]
theorem ok16 : BoxOk Try.prog G0 5 8000 shs box16 := fun rho ok => by kernel_rfl
def boxes : List (List (Int × Int)) := [box0, box1, box2, box3, box4, box5, box6, box7, box8, box9, box10, box11, box12, box13, box14, box15, box16]
noncomputable def K : List Itm := stopK 1 Try.f5
noncomputable def body : Code := match Try.f5.body with
  | some b => b
  | none => .skip
theorem hbody : Try.f5.body = some body := by kernel_rfl
def D11 : List (Int × Int) := [(1, 1), (1, 1), (1, 200)]
noncomputable def T11_0 : Tm := { nt := 118, nx := 2, sl := [(0, .int .u8 1), (1, .int .i64 1), (2, .os 0 (.v 2)), (7, .ptr 1 0 0 []), (8, .int .u64 1), (9, .int .u64 0), (10, .sym .i64 (.v 3))], ob := [(1, [.int .u8 1, .int .u64 0, .bool false])], lo := [(0, 0, [.int .u8], 5)], src := [none, none, none, some 10], dom := [(1, 1), (1, 1), (1, 200), (0, 199)], fa := [.lt (.v 3) (.v 2)], ctr := some 3 }
noncomputable def T11_1 : Tm := { nt := 118, nx := 2, sl := [(0, .int .u8 1), (1, .int .i64 1), (2, .os 0 (.v 2)), (7, .ptr 1 0 0 []), (8, .int .u64 1), (9, .int .u64 1), (10, .sym .i64 (.v 3))], ob := [(1, [.int .u8 1, .int .u64 1, .bool false])], lo := [(0, 0, [.int .u8], 5)], src := [none, none, none, some 10], dom := [(1, 1), (1, 1), (1, 200), (0, 199)], fa := [.lt (.v 3) (.v 2)], ctr := some 3 }
theorem round11_0 (rho : Nat → Int) (ok : ∀ i p, T11_0.dom[i]? = some p → p.1 ≤ rho i ∧ rho i ≤ p.2) : RoundOk Try.prog G0 8000 [1] Try.f5 T11_0 [T11_1] K (enOf T11_0.dom rho ok) :=
  RoundOk.of (m := 1) noR (by kernel_rfl)
theorem round11_1 (rho : Nat → Int) (ok : ∀ i p, T11_1.dom[i]? = some p → p.1 ≤ rho i ∧ rho i ≤ p.2) : RoundOk Try.prog G0 8000 [1] Try.f5 T11_1 [] K (enOf T11_1.dom rho ok) :=
  RoundOk.of (m := 1) noR (by kernel_rfl)
noncomputable def Ts11 : List Tm := [T11_0, T11_1]
theorem rounds11 : Rounds Try.prog G0 8000 [1] Try.f5 K Ts11 := ⟨round11_0, round11_1, trivial⟩
theorem start11 (rho : Nat → Int) (ok : ∀ i p, D11[i]? = some p → p.1 ≤ rho i ∧ rho i ≤ p.2) : StartOk Try.prog G0 8000 [1] Try.f5 body (symAs shs 0 0 D11) (symH shs 0 0 D11) (nls shs) Ts11 K (enOf D11 rho ok) :=
  StartOk.of (m := 1) noR (by kernel_rfl)
def D12 : List (Int × Int) := [(1, 1), (2, 2), (1, 200)]
noncomputable def T12_0 : Tm := { nt := 118, nx := 2, sl := [(0, .int .u8 1), (1, .int .i64 2), (2, .os 0 (.v 2)), (7, .ptr 1 0 0 []), (8, .int .u64 3), (9, .int .u64 0), (10, .sym .i64 (.v 3))], ob := [(1, [.int .u8 1, .int .u64 0, .bool false])], lo := [(0, 0, [.int .u8], 5)], src := [none, none, none, some 10], dom := [(1, 1), (2, 2), (1, 200), (0, 199)], fa := [.lt (.v 3) (.v 2)], ctr := some 3 }
noncomputable def T12_1 : Tm := { nt := 118, nx := 2, sl := [(0, .int .u8 1), (1, .int .i64 2), (2, .os 0 (.v 2)), (7, .ptr 1 0 0 []), (8, .int .u64 3), (9, .int .u64 1), (10, .sym .i64 (.v 3))], ob := [(1, [.int .u8 1, .int .u64 1, .bool false])], lo := [(0, 0, [.int .u8], 5)], src := [none, none, none, some 10], dom := [(1, 1), (2, 2), (1, 200), (0, 199)], fa := [.lt (.v 3) (.v 2)], ctr := some 3 }
noncomputable def T12_2 : Tm := { nt := 118, nx := 2, sl := [(0, .int .u8 1), (1, .int .i64 2), (2, .os 0 (.v 2)), (7, .ptr 1 0 0 []), (8, .int .u64 3), (9, .int .u64 2), (10, .sym .i64 (.v 3))], ob := [(1, [.int .u8 1, .int .u64 2, .bool false])], lo := [(0, 0, [.int .u8], 5)], src := [none, none, none, some 10], dom := [(1, 1), (2, 2), (1, 200), (0, 199)], fa := [.lt (.v 3) (.v 2)], ctr := some 3 }
noncomputable def T12_3 : Tm := { nt := 118, nx := 2, sl := [(0, .int .u8 1), (1, .int .i64 2), (2, .os 0 (.v 2)), (7, .ptr 1 0 0 []), (8, .int .u64 3), (9, .int .u64 3), (10, .sym .i64 (.v 3))], ob := [(1, [.int .u8 1, .int .u64 3, .bool false])], lo := [(0, 0, [.int .u8], 5)], src := [none, none, none, some 10], dom := [(1, 1), (2, 2), (1, 200), (0, 199)], fa := [.lt (.v 3) (.v 2)], ctr := some 3 }
theorem round12_0 (rho : Nat → Int) (ok : ∀ i p, T12_0.dom[i]? = some p → p.1 ≤ rho i ∧ rho i ≤ p.2) : RoundOk Try.prog G0 8000 [1] Try.f5 T12_0 [T12_1, T12_2, T12_3] K (enOf T12_0.dom rho ok) :=
  RoundOk.of (m := 2) noR (by kernel_rfl)
theorem round12_1 (rho : Nat → Int) (ok : ∀ i p, T12_1.dom[i]? = some p → p.1 ≤ rho i ∧ rho i ≤ p.2) : RoundOk Try.prog G0 8000 [1] Try.f5 T12_1 [T12_2, T12_3] K (enOf T12_1.dom rho ok) :=
  RoundOk.of (m := 2) noR (by kernel_rfl)
theorem round12_2 (rho : Nat → Int) (ok : ∀ i p, T12_2.dom[i]? = some p → p.1 ≤ rho i ∧ rho i ≤ p.2) : RoundOk Try.prog G0 8000 [1] Try.f5 T12_2 [T12_3] K (enOf T12_2.dom rho ok) :=
  RoundOk.of (m := 2) noR (by kernel_rfl)
theorem round12_3 (rho : Nat → Int) (ok : ∀ i p, T12_3.dom[i]? = some p → p.1 ≤ rho i ∧ rho i ≤ p.2) : RoundOk Try.prog G0 8000 [1] Try.f5 T12_3 [] K (enOf T12_3.dom rho ok) :=
  RoundOk.of (m := 2) noR (by kernel_rfl)
noncomputable def Ts12 : List Tm := [T12_0, T12_1, T12_2, T12_3]
theorem rounds12 : Rounds Try.prog G0 8000 [1] Try.f5 K Ts12 := ⟨round12_0, round12_1, round12_2, round12_3, trivial⟩
theorem start12 (rho : Nat → Int) (ok : ∀ i p, D12[i]? = some p → p.1 ≤ rho i ∧ rho i ≤ p.2) : StartOk Try.prog G0 8000 [1] Try.f5 body (symAs shs 0 0 D12) (symH shs 0 0 D12) (nls shs) Ts12 K (enOf D12 rho ok) :=
  StartOk.of (m := 1) noR (by kernel_rfl)
def D13 : List (Int × Int) := [(1, 1), (3, 3), (1, 200)]
noncomputable def T13_0 : Tm := { nt := 118, nx := 2, sl := [(0, .int .u8 1), (1, .int .i64 3), (2, .os 0 (.v 2)), (7, .ptr 1 0 0 []), (8, .int .u64 7), (9, .int .u64 0), (10, .sym .i64 (.v 3))], ob := [(1, [.int .u8 1, .int .u64 0, .bool false])], lo := [(0, 0, [.int .u8], 5)], src := [none, none, none, some 10], dom := [(1, 1), (3, 3), (1, 200), (0, 199)], fa := [.lt (.v 3) (.v 2)], ctr := some 3 }
noncomputable def T13_1 : Tm := { nt := 118, nx := 2, sl := [(0, .int .u8 1), (1, .int .i64 3), (2, .os 0 (.v 2)), (7, .ptr 1 0 0 []), (8, .int .u64 7), (9, .int .u64 1), (10, .sym .i64 (.v 3))], ob := [(1, [.int .u8 1, .int .u64 1, .bool false])], lo := [(0, 0, [.int .u8], 5)], src := [none, none, none, some 10], dom := [(1, 1), (3, 3), (1, 200), (0, 199)], fa := [.lt (.v 3) (.v 2)], ctr := some 3 }
noncomputable def T13_2 : Tm := { nt := 118, nx := 2, sl := [(0, .int .u8 1), (1, .int .i64 3), (2, .os 0 (.v 2)), (7, .ptr 1 0 0 []), (8, .int .u64 7), (9, .int .u64 2), (10, .sym .i64 (.v 3))], ob := [(1, [.int .u8 1, .int .u64 2, .bool false])], lo := [(0, 0, [.int .u8], 5)], src := [none, none, none, some 10], dom := [(1, 1), (3, 3), (1, 200), (0, 199)], fa := [.lt (.v 3) (.v 2)], ctr := some 3 }
noncomputable def T13_4 : Tm := { nt := 118, nx := 2, sl := [(0, .int .u8 1), (1, .int .i64 3), (2, .os 0 (.v 2)), (7, .ptr 1 0 0 []), (8, .int .u64 7), (9, .int .u64 4), (10, .sym .i64 (.v 3))], ob := [(1, [.int .u8 1, .int .u64 4, .bool false])], lo := [(0, 0, [.int .u8], 5)], src := [none, none, none, some 10], dom := [(1, 1), (3, 3), (1, 200), (0, 199)], fa := [.lt (.v 3) (.v 2)], ctr := some 3 }
noncomputable def T13_3 : Tm := { nt := 118, nx := 2, sl := [(0, .int .u8 1), (1, .int .i64 3), (2, .os 0 (.v 2)), (7, .ptr 1 0 0 []), (8, .int .u64 7), (9, .int .u64 3), (10, .sym .i64 (.v 3))], ob := [(1, [.int .u8 1, .int .u64 3, .bool false])], lo := [(0, 0, [.int .u8], 5)], src := [none, none, none, some 10], dom := [(1, 1), (3, 3), (1, 200), (0, 199)], fa := [.lt (.v 3) (.v 2)], ctr := some 3 }
noncomputable def T13_5 : Tm := { nt := 118, nx := 2, sl := [(0, .int .u8 1), (1, .int .i64 3), (2, .os 0 (.v 2)), (7, .ptr 1 0 0 []), (8, .int .u64 7), (9, .int .u64 5), (10, .sym .i64 (.v 3))], ob := [(1, [.int .u8 1, .int .u64 5, .bool false])], lo := [(0, 0, [.int .u8], 5)], src := [none, none, none, some 10], dom := [(1, 1), (3, 3), (1, 200), (0, 199)], fa := [.lt (.v 3) (.v 2)], ctr := some 3 }
noncomputable def T13_6 : Tm := { nt := 118, nx := 2, sl := [(0, .int .u8 1), (1, .int .i64 3), (2, .os 0 (.v 2)), (7, .ptr 1 0 0 []), (8, .int .u64 7), (9, .int .u64 6), (10, .sym .i64 (.v 3))], ob := [(1, [.int .u8 1, .int .u64 6, .bool false])], lo := [(0, 0, [.int .u8], 5)], src := [none, none, none, some 10], dom := [(1, 1), (3, 3), (1, 200), (0, 199)], fa := [.lt (.v 3) (.v 2)], ctr := some 3 }
noncomputable def T13_7 : Tm := { nt := 118, nx := 2, sl := [(0, .int .u8 1), (1, .int .i64 3), (2, .os 0 (.v 2)), (7, .ptr 1 0 0 []), (8, .int .u64 7), (9, .int .u64 7), (10, .sym .i64 (.v 3))], ob := [(1, [.int .u8 1, .int .u64 7, .bool false])], lo := [(0, 0, [.int .u8], 5)], src := [none, none, none, some 10], dom := [(1, 1), (3, 3), (1, 200), (0, 199)], fa := [.lt (.v 3) (.v 2)], ctr := some 3 }
theorem round13_0 (rho : Nat → Int) (ok : ∀ i p, T13_0.dom[i]? = some p → p.1 ≤ rho i ∧ rho i ≤ p.2) : RoundOk Try.prog G0 8000 [1] Try.f5 T13_0 [T13_1, T13_2, T13_4, T13_3, T13_5, T13_6, T13_7] K (enOf T13_0.dom rho ok) :=
  RoundOk.of (m := 3) noR (by kernel_rfl)
theorem round13_1 (rho : Nat → Int) (ok : ∀ i p, T13_1.dom[i]? = some p → p.1 ≤ rho i ∧ rho i ≤ p.2) : RoundOk Try.prog G0 8000 [1] Try.f5 T13_1 [T13_2, T13_4, T13_3, T13_5, T13_6, T13_7] K (enOf T13_1.dom rho ok) :=
  RoundOk.of (m := 3) noR (by kernel_rfl)
theorem round13_2 (rho : Nat → Int) (ok : ∀ i p, T13_2.dom[i]? = some p → p.1 ≤ rho i ∧ rho i ≤ p.2) : RoundOk Try.prog G0 8000 [1] Try.f5 T13_2 [T13_4, T13_3, T13_5, T13_6, T13_7] K (enOf T13_2.dom rho ok) :=
  RoundOk.of (m := 3) noR (by kernel_rfl)
theorem round13_4 (rho : Nat → Int) (ok : ∀ i p, T13_4.dom[i]? = some p → p.1 ≤ rho i ∧ rho i ≤ p.2) : RoundOk Try.prog G0 8000 [1] Try.f5 T13_4 [T13_3, T13_5, T13_6, T13_7] K (enOf T13_4.dom rho ok) :=
  RoundOk.of (m := 3) noR (by kernel_rfl)
theorem round13_3 (rho : Nat → Int) (ok : ∀ i p, T13_3.dom[i]? = some p → p.1 ≤ rho i ∧ rho i ≤ p.2) : RoundOk Try.prog G0 8000 [1] Try.f5 T13_3 [T13_5, T13_6, T13_7] K (enOf T13_3.dom rho ok) :=
  RoundOk.of (m := 3) noR (by kernel_rfl)
theorem round13_5 (rho : Nat → Int) (ok : ∀ i p, T13_5.dom[i]? = some p → p.1 ≤ rho i ∧ rho i ≤ p.2) : RoundOk Try.prog G0 8000 [1] Try.f5 T13_5 [T13_6, T13_7] K (enOf T13_5.dom rho ok) :=
  RoundOk.of (m := 3) noR (by kernel_rfl)
theorem round13_6 (rho : Nat → Int) (ok : ∀ i p, T13_6.dom[i]? = some p → p.1 ≤ rho i ∧ rho i ≤ p.2) : RoundOk Try.prog G0 8000 [1] Try.f5 T13_6 [T13_7] K (enOf T13_6.dom rho ok) :=
  RoundOk.of (m := 3) noR (by kernel_rfl)
theorem round13_7 (rho : Nat → Int) (ok : ∀ i p, T13_7.dom[i]? = some p → p.1 ≤ rho i ∧ rho i ≤ p.2) : RoundOk Try.prog G0 8000 [1] Try.f5 T13_7 [] K (enOf T13_7.dom rho ok) :=
  RoundOk.of (m := 3) noR (by kernel_rfl)
noncomputable def Ts13 : List Tm := [T13_0, T13_1, T13_2, T13_4, T13_3, T13_5, T13_6, T13_7]
theorem rounds13 : Rounds Try.prog G0 8000 [1] Try.f5 K Ts13 := ⟨round13_0, round13_1, round13_2, round13_4, round13_3, round13_5, round13_6, round13_7, trivial⟩
theorem start13 (rho : Nat → Int) (ok : ∀ i p, D13[i]? = some p → p.1 ≤ rho i ∧ rho i ≤ p.2) : StartOk Try.prog G0 8000 [1] Try.f5 body (symAs shs 0 0 D13) (symH shs 0 0 D13) (nls shs) Ts13 K (enOf D13 rho ok) :=
  StartOk.of (m := 1) noR (by kernel_rfl)
def D14 : List (Int × Int) := [(1, 1), (4, 4), (1, 200)]
noncomputable def T14_0 : Tm := { nt := 118, nx := 2, sl := [(0, .int .u8 1), (1, .int .i64 4), (2, .os 0 (.v 2)), (7, .ptr 1 0 0 []), (8, .int .u64 15), (9, .int .u64 0), (10, .sym .i64 (.v 3))], ob := [(1, [.int .u8 1, .int .u64 0, .bool false])], lo := [(0, 0, [.int .u8], 5)], src := [none, none, none, some 10], dom := [(1, 1), (4, 4), (1, 200), (0, 199)], fa := [.lt (.v 3) (.v 2)], ctr := some 3 }
noncomputable def T14_1 : Tm := { nt := 118, nx := 2, sl := [(0, .int .u8 1), (1, .int .i64 4), (2, .os 0 (.v 2)), (7, .ptr 1 0 0 []), (8, .int .u64 15), (9, .int .u64 1), (10, .sym .i64 (.v 3))], ob := [(1, [.int .u8 1, .int .u64 1, .bool false])], lo := [(0, 0, [.int .u8], 5)], src := [none, none, none, some 10], dom := [(1, 1), (4, 4), (1, 200), (0, 199)], fa := [.lt (.v 3) (.v 2)], ctr := some 3 }
noncomputable def T14_2 : Tm := { nt := 118, nx := 2, sl := [(0, .int .u8 1), (1, .int .i64 4), (2, .os 0 (.v 2)), (7, .ptr 1 0 0 []), (8, .int .u64 15), (9, .int .u64 2), (10, .sym .i64 (.v 3))], ob := [(1, [.int .u8 1, .int .u64 2, .bool false])], lo := [(0, 0, [.int .u8], 5)], src := [none, none, none, some 10], dom := [(1, 1), (4, 4), (1, 200), (0, 199)], fa := [.lt (.v 3) (.v 2)], ctr := some 3 }
noncomputable def T14_4 : Tm := { nt := 118, nx := 2, sl := [(0, .int .u8 1), (1, .int .i64 4), (2, .os 0 (.v 2)), (7, .ptr 1 0 0 []), (8, .int .u64 15), (9, .int .u64 4), (10, .sym .i64 (.v 3))], ob := [(1, [.int .u8 1, .int .u64 4, .bool false])], lo := [(0, 0, [.int .u8], 5)], src := [none, none, none, some 10], dom := [(1, 1), (4, 4), (1, 200), (0, 199)], fa := [.lt (.v 3) (.v 2)], ctr := some 3 }
noncomputable def T14_8 : Tm := { nt := 118, nx := 2, sl := [(0, .int .u8 1), (1, .int .i64 4), (2, .os 0 (.v 2)), (7, .ptr 1 0 0 []), (8, .int .u64 15), (9, .int .u64 8), (10, .sym .i64 (.v 3))], ob := [(1, [.int .u8 1, .int .u64 8, .bool false])], lo := [(0, 0, [.int .u8], 5)], src := [none, none, none, some 10], dom := [(1, 1), (4, 4), (1, 200), (0, 199)], fa := [.lt (.v 3) (.v 2)], ctr := some 3 }
noncomputable def T14_3 : Tm := { nt := 118, nx := 2, sl := [(0, .int .u8 1), (1, .int .i64 4), (2, .os 0 (.v 2)), (7, .ptr 1 0 0 []), (8, .int .u64 15), (9, .int .u64 3), (10, .sym .i64 (.v 3))], ob := [(1, [.int .u8 1, .int .u64 3, .bool false])], lo := [(0, 0, [.int .u8], 5)], src := [none, none, none, some 10], dom := [(1, 1), (4, 4), (1, 200), (0, 199)], fa := [.lt (.v 3) (.v 2)], ctr := some 3 }
noncomputable def T14_5 : Tm := { nt := 118, nx := 2, sl := [(0, .int .u8 1), (1, .int .i64 4), (2, .os 0 (.v 2)), (7, .ptr 1 0 0 []), (8, .int .u64 15), (9, .int .u64 5), (10, .sym .i64 (.v 3))], ob := [(1, [.int .u8 1, .int .u64 5, .bool false])], lo := [(0, 0, [.int .u8], 5)], src := [none, none, none, some 10], dom := [(1, 1), (4, 4), (1, 200), (0, 199)], fa := [.lt (.v 3) (.v 2)], ctr := some 3 }
noncomputable def T14_6 : Tm := { nt := 118, nx := 2, sl := [(0, .int .u8 1), (1, .int .i64 4), (2, .os 0 (.v 2)), (7, .ptr 1 0 0 []), (8, .int .u64 15), (9, .int .u64 6), (10, .sym .i64 (.v 3))], ob := [(1, [.int .u8 1, .int .u64 6, .bool false])], lo := [(0, 0, [.int .u8], 5)], src := [none, none, none, some 10], dom := [(1, 1), (4, 4), (1, 200), (0, 199)], fa := [.lt (.v 3) (.v 2)], ctr := some 3 }
noncomputable def T14_9 : Tm := { nt := 118, nx := 2, sl := [(0, .int .u8 1), (1, .int .i64 4), (2, .os 0 (.v 2)), (7, .ptr 1 0 0 []), (8, .int .u64 15), (9, .int .u64 9), (10, .sym .i64 (.v 3))], ob := [(1, [.int .u8 1, .int .u64 9, .bool false])], lo := [(0, 0, [.int .u8], 5)], src := [none, none, none, some 10], dom := [(1, 1), (4, 4), (1, 200), (0, 199)], fa := [.lt (.v 3) (.v 2)], ctr := some 3 }
noncomputable def T14_10 : Tm := { nt := 118, nx := 2, sl := [(0, .int .u8 1), (1, .int .i64 4), (2, .os 0 (.v 2)), (7, .ptr 1 0 0 []), (8, .int .u64 15), (9, .int .u64 10), (10, .sym .i64 (.v 3))], ob := [(1, [.int .u8 1, .int .u64 10, .bool false])], lo := [(0, 0, [.int .u8], 5)], src := [none, none, none, some 10], dom := [(1, 1), (4, 4), (1, 200), (0, 199)], fa := [.lt (.v 3) (.v 2)], ctr := some 3 }
noncomputable def T14_12 : Tm := { nt := 118, nx := 2, sl := [(0, .int .u8 1), (1, .int .i64 4), (2, .os 0 (.v 2)), (7, .ptr 1 0 0 []), (8, .int .u64 15), (9, .int .u64 12), (10, .sym .i64 (.v 3))], ob := [(1, [.int .u8 1, .int .u64 12, .bool false])], lo := [(0, 0, [.int .u8], 5)], src := [none, none, none, some 10], dom := [(1, 1), (4, 4), (1, 200), (0, 199)], fa := [.lt (.v 3) (.v 2)], ctr := some 3 }
noncomputable def T14_7 : Tm := { nt := 118, nx := 2, sl := [(0, .int .u8 1), (1, .int .i64 4), (2, .os 0 (.v 2)), (7, .ptr 1 0 0 []), (8, .int .u64 15), (9, .int .u64 7), (10, .sym .i64 (.v 3))], ob := [(1, [.int .u8 1, .int .u64 7, .bool false])], lo := [(0, 0, [.int .u8], 5)], src := [none, none, none, some 10], dom := [(1, 1), (4, 4), (1, 200), (0, 199)], fa := [.lt (.v 3) (.v 2)], ctr := some 3 }
noncomputable def T14_11 : Tm := { nt := 118, nx := 2, sl := [(0, .int .u8 1), (1, .int .i64 4), (2, .os 0 (.v 2)), (7, .ptr 1 0 0 []), (8, .int .u64 15), (9, .int .u64 11), (10, .sym .i64 (.v 3))], ob := [(1, [.int .u8 1, .int .u64 11, .bool false])], lo := [(0, 0, [.int .u8], 5)], src := [none, none, none, some 10], dom := [(1, 1), (4, 4), (1, 200), (0, 199)], fa := [.lt (.v 3) (.v 2)], ctr := some 3 }
noncomputable def T14_13 : Tm := { nt := 118, nx := 2, sl := [(0, .int .u8 1), (1, .int .i64 4), (2, .os 0 (.v 2)), (7, .ptr 1 0 0 []), (8, .int .u64 15), (9, .int .u64 13), (10, .sym .i64 (.v 3))], ob := [(1, [.int .u8 1, .int .u64 13, .bool false])], lo := [(0, 0, [.int .u8], 5)], src := [none, none, none, some 10], dom := [(1, 1), (4, 4), (1, 200), (0, 199)], fa := [.lt (.v 3) (.v 2)], ctr := some 3 }
noncomputable def T14_14 : Tm := { nt := 118, nx := 2, sl := [(0, .int .u8 1), (1, .int .i64 4), (2, .os 0 (.v 2)), (7, .ptr 1 0 0 []), (8, .int .u64 15), (9, .int .u64 14), (10, .sym .i64 (.v 3))], ob := [(1, [.int .u8 1, .int .u64 14, .bool false])], lo := [(0, 0, [.int .u8], 5)], src := [none, none, none, some 10], dom := [(1, 1), (4, 4), (1, 200), (0, 199)], fa := [.lt (.v 3) (.v 2)], ctr := some 3 }
noncomputable def T14_15 : Tm := { nt := 118, nx := 2, sl := [(0, .int .u8 1), (1, .int .i64 4), (2, .os 0 (.v 2)), (7, .ptr 1 0 0 []), (8, .int .u64 15), (9, .int .u64 15), (10, .sym .i64 (.v 3))], ob := [(1, [.int .u8 1, .int .u64 15, .bool false])], lo := [(0, 0, [.int .u8], 5)], src := [none, none, none, some 10], dom := [(1, 1), (4, 4), (1, 200), (0, 199)], fa := [.lt (.v 3) (.v 2)], ctr := some 3 }
theorem round14_0 (rho : Nat → Int) (ok : ∀ i p, T14_0.dom[i]? = some p → p.1 ≤ rho i ∧ rho i ≤ p.2) : RoundOk Try.prog G0 8000 [1] Try.f5 T14_0 [T14_1, T14_2, T14_4, T14_8, T14_3, T14_5, T14_6, T14_9, T14_10, T14_12, T14_7, T14_11, T14_13, T14_14, T14_15] K (enOf T14_0.dom rho ok) :=
  RoundOk.of (m := 4) noR (by kernel_rfl)
theorem round14_1 (rho : Nat → Int) (ok : ∀ i p, T14_1.dom[i]? = some p → p.1 ≤ rho i ∧ rho i ≤ p.2) : RoundOk Try.prog G0 8000 [1] Try.f5 T14_1 [T14_2, T14_4, T14_8, T14_3, T14_5, T14_6, T14_9, T14_10, T14_12, T14_7, T14_11, T14_13, T14_14, T14_15] K (enOf T14_1.dom rho ok) :=
  RoundOk.of (m := 4) noR (by kernel_rfl)
theorem round14_2 (rho : Nat → Int) (ok : ∀ i p, T14_2.dom[i]? = some p → p.1 ≤ rho i ∧ rho i ≤ p.2) : RoundOk Try.prog G0 8000 [1] Try.f5 T14_2 [T14_4, T14_8, T14_3, T14_5, T14_6, T14_9, T14_10, T14_12, T14_7, T14_11, T14_13, T14_14, T14_15] K (enOf T14_2.dom rho ok) :=
  RoundOk.of (m := 4) noR (by kernel_rfl)
theorem round14_4 (rho : Nat → Int) (ok : ∀ i p, T14_4.dom[i]? = some p → p.1 ≤ rho i ∧ rho i ≤ p.2) : RoundOk Try.prog G0 8000 [1] Try.f5 T14_4 [T14_8, T14_3, T14_5, T14_6, T14_9, T14_10, T14_12, T14_7, T14_11, T14_13, T14_14, T14_15] K (enOf T14_4.dom rho ok) :=
  RoundOk.of (m := 4) noR (by kernel_rfl)
theorem round14_8 (rho : Nat → Int) (ok : ∀ i p, T14_8.dom[i]? = some p → p.1 ≤ rho i ∧ rho i ≤ p.2) : RoundOk Try.prog G0 8000 [1] Try.f5 T14_8 [T14_3, T14_5, T14_6, T14_9, T14_10, T14_12, T14_7, T14_11, T14_13, T14_14, T14_15] K (enOf T14_8.dom rho ok) :=
  RoundOk.of (m := 4) noR (by kernel_rfl)
theorem round14_3 (rho : Nat → Int) (ok : ∀ i p, T14_3.dom[i]? = some p → p.1 ≤ rho i ∧ rho i ≤ p.2) : RoundOk Try.prog G0 8000 [1] Try.f5 T14_3 [T14_5, T14_6, T14_9, T14_10, T14_12, T14_7, T14_11, T14_13, T14_14, T14_15] K (enOf T14_3.dom rho ok) :=
  RoundOk.of (m := 4) noR (by kernel_rfl)
theorem round14_5 (rho : Nat → Int) (ok : ∀ i p, T14_5.dom[i]? = some p → p.1 ≤ rho i ∧ rho i ≤ p.2) : RoundOk Try.prog G0 8000 [1] Try.f5 T14_5 [T14_6, T14_9, T14_10, T14_12, T14_7, T14_11, T14_13, T14_14, T14_15] K (enOf T14_5.dom rho ok) :=
  RoundOk.of (m := 4) noR (by kernel_rfl)
theorem round14_6 (rho : Nat → Int) (ok : ∀ i p, T14_6.dom[i]? = some p → p.1 ≤ rho i ∧ rho i ≤ p.2) : RoundOk Try.prog G0 8000 [1] Try.f5 T14_6 [T14_9, T14_10, T14_12, T14_7, T14_11, T14_13, T14_14, T14_15] K (enOf T14_6.dom rho ok) :=
  RoundOk.of (m := 4) noR (by kernel_rfl)
theorem round14_9 (rho : Nat → Int) (ok : ∀ i p, T14_9.dom[i]? = some p → p.1 ≤ rho i ∧ rho i ≤ p.2) : RoundOk Try.prog G0 8000 [1] Try.f5 T14_9 [T14_10, T14_12, T14_7, T14_11, T14_13, T14_14, T14_15] K (enOf T14_9.dom rho ok) :=
  RoundOk.of (m := 4) noR (by kernel_rfl)
theorem round14_10 (rho : Nat → Int) (ok : ∀ i p, T14_10.dom[i]? = some p → p.1 ≤ rho i ∧ rho i ≤ p.2) : RoundOk Try.prog G0 8000 [1] Try.f5 T14_10 [T14_12, T14_7, T14_11, T14_13, T14_14, T14_15] K (enOf T14_10.dom rho ok) :=
  RoundOk.of (m := 4) noR (by kernel_rfl)
theorem round14_12 (rho : Nat → Int) (ok : ∀ i p, T14_12.dom[i]? = some p → p.1 ≤ rho i ∧ rho i ≤ p.2) : RoundOk Try.prog G0 8000 [1] Try.f5 T14_12 [T14_7, T14_11, T14_13, T14_14, T14_15] K (enOf T14_12.dom rho ok) :=
  RoundOk.of (m := 4) noR (by kernel_rfl)
theorem round14_7 (rho : Nat → Int) (ok : ∀ i p, T14_7.dom[i]? = some p → p.1 ≤ rho i ∧ rho i ≤ p.2) : RoundOk Try.prog G0 8000 [1] Try.f5 T14_7 [T14_11, T14_13, T14_14, T14_15] K (enOf T14_7.dom rho ok) :=
  RoundOk.of (m := 4) noR (by kernel_rfl)
theorem round14_11 (rho : Nat → Int) (ok : ∀ i p, T14_11.dom[i]? = some p → p.1 ≤ rho i ∧ rho i ≤ p.2) : RoundOk Try.prog G0 8000 [1] Try.f5 T14_11 [T14_13, T14_14, T14_15] K (enOf T14_11.dom rho ok) :=
  RoundOk.of (m := 4) noR (by kernel_rfl)
theorem round14_13 (rho : Nat → Int) (ok : ∀ i p, T14_13.dom[i]? = some p → p.1 ≤ rho i ∧ rho i ≤ p.2) : RoundOk Try.prog G0 8000 [1] Try.f5 T14_13 [T14_14, T14_15] K (enOf T14_13.dom rho ok) :=
  RoundOk.of (m := 4) noR (by kernel_rfl)
theorem round14_14 (rho : Nat → Int) (ok : ∀ i p, T14_14.dom[i]? = some p → p.1 ≤ rho i ∧ rho i ≤ p.2) : RoundOk Try.prog G0 8000 [1] Try.f5 T14_14 [T14_15] K (enOf T14_14.dom rho ok) :=
  RoundOk.of (m := 4) noR (by kernel_rfl)
theorem round14_15 (rho : Nat → Int) (ok : ∀ i p, T14_15.dom[i]? = some p → p.1 ≤ rho i ∧ rho i ≤ p.2) : RoundOk Try.prog G0 8000 [1] Try.f5 T14_15 [] K (enOf T14_15.dom rho ok) :=
  RoundOk.of (m := 4) noR (by kernel_rfl)
noncomputable def Ts14 : List Tm := [T14_0, T14_1, T14_2, T14_4, T14_8, T14_3, T14_5, T14_6, T14_9, T14_10, T14_12, T14_7, T14_11, T14_13, T14_14, T14_15]
theorem rounds14 : Rounds Try.prog G0 8000 [1] Try.f5 K Ts14 := ⟨round14_0, round14_1, round14_2, round14_4, round14_8, round14_3, round14_5, round14_6, round14_9, round14_10, round14_12, round14_7, round14_11, round14_13, round14_14, round14_15, trivial⟩
theorem start14 (rho : Nat → Int) (ok : ∀ i p, D14[i]? = some p → p.1 ≤ rho i ∧ rho i ≤ p.2) : StartOk Try.prog G0 8000 [1] Try.f5 body (symAs shs 0 0 D14) (symH shs 0 0 D14) (nls shs) Ts14 K (enOf D14 rho ok) :=
  StartOk.of (m := 1) noR (by kernel_rfl)
def D21 : List (Int × Int) := [(2, 2), (1, 1), (1, 200)]
noncomputable def T21_0 : Tm := { nt := 118, nx := 2, sl := [(0, .int .u8 2), (1, .int .i64 1), (2, .os 0 (.v 2)), (7, .ptr 1 0 0 []), (8, .int .u64 1), (9, .int .u64 0), (10, .sym .i64 (.v 3))], ob := [(1, [.int .u8 2, .int .u64 0, .bool false])], lo := [(0, 0, [.int .u8], 5)], src := [none, none, none, some 10], dom := [(2, 2), (1, 1), (1, 200), (0, 199)], fa := [.lt (.v 3) (.v 2)], ctr := some 3 }
noncomputable def T21_1 : Tm := { nt := 118, nx := 2, sl := [(0, .int .u8 2), (1, .int .i64 1), (2, .os 0 (.v 2)), (7, .ptr 1 0 0 []), (8, .int .u64 1), (9, .int .u64 1), (10, .sym .i64 (.v 3))], ob := [(1, [.int .u8 2, .int .u64 1, .bool false])], lo := [(0, 0, [.int .u8], 5)], src := [none, none, none, some 10], dom := [(2, 2), (1, 1), (1, 200), (0, 199)], fa := [.lt (.v 3) (.v 2)], ctr := some 3 }
theorem round21_0 (rho : Nat → Int) (ok : ∀ i p, T21_0.dom[i]? = some p → p.1 ≤ rho i ∧ rho i ≤ p.2) : RoundOk Try.prog G0 8000 [1] Try.f5 T21_0 [T21_1] K (enOf T21_0.dom rho ok) :=
  RoundOk.of (m := 1) noR (by kernel_rfl)
theorem round21_1 (rho : Nat → Int) (ok : ∀ i p, T21_1.dom[i]? = some p → p.1 ≤ rho i ∧ rho i ≤ p.2) : RoundOk Try.prog G0 8000 [1] Try.f5 T21_1 [] K (enOf T21_1.dom rho ok) :=
  RoundOk.of (m := 1) noR (by kernel_rfl)
noncomputable def Ts21 : List Tm := [T21_0, T21_1]
theorem rounds21 : Rounds Try.prog G0 8000 [1] Try.f5 K Ts21 := ⟨round21_0, round21_1, trivial⟩
theorem start21 (rho : Nat → Int) (ok : ∀ i p, D21[i]? = some p → p.1 ≤ rho i ∧ rho i ≤ p.2) : StartOk Try.prog G0 8000 [1] Try.f5 body (symAs shs 0 0 D21) (symH shs 0 0 D21) (nls shs) Ts21 K (enOf D21 rho ok) :=
  StartOk.of (m := 1) noR (by kernel_rfl)
def D22 : List (Int × Int) := [(2, 2), (2, 2), (1, 200)]
noncomputable def T22_0 : Tm := { nt := 118, nx := 2, sl := [(0, .int .u8 2), (1, .int .i64 2), (2, .os 0 (.v 2)), (7, .ptr 1 0 0 []), (8, .int .u64 3), (9, .int .u64 0), (10, .sym .i64 (.v 3))], ob := [(1, [.int .u8 2, .int .u64 0, .bool false])], lo := [(0, 0, [.int .u8], 5)], src := [none, none, none, some 10], dom := [(2, 2), (2, 2), (1, 200), (0, 199)], fa := [.lt (.v 3) (.v 2)], ctr := some 3 }
noncomputable def T22_1 : Tm := { nt := 118, nx := 2, sl := [(0, .int .u8 2), (1, .int .i64 2), (2, .os 0 (.v 2)), (7, .ptr 1 0 0 []), (8, .int .u64 3), (9, .int .u64 1), (10, .sym .i64 (.v 3))], ob := [(1, [.int .u8 2, .int .u64 1, .bool false])], lo := [(0, 0, [.int .u8], 5)], src := [none, none, none, some 10], dom := [(2, 2), (2, 2), (1, 200), (0, 199)], fa := [.lt (.v 3) (.v 2)], ctr := some 3 }
noncomputable def T22_2 : Tm := { nt := 118, nx := 2, sl := [(0, .int .u8 2), (1, .int .i64 2), (2, .os 0 (.v 2)), (7, .ptr 1 0 0 []), (8, .int .u64 3), (9, .int .u64 2), (10, .sym .i64 (.v 3))], ob := [(1, [.int .u8 2, .int .u64 2, .bool false])], lo := [(0, 0, [.int .u8], 5)], src := [none, none, none, some 10], dom := [(2, 2), (2, 2), (1, 200), (0, 199)], fa := [.lt (.v 3) (.v 2)], ctr := some 3 }
noncomputable def T22_3 : Tm := { nt := 118, nx := 2, sl := [(0, .int .u8 2), (1, .int .i64 2), (2, .os 0 (.v 2)), (7, .ptr 1 0 0 []), (8, .int .u64 3), (9, .int .u64 3), (10, .sym .i64 (.v 3))], ob := [(1, [.int .u8 2, .int .u64 3, .bool false])], lo := [(0, 0, [.int .u8], 5)], src := [none, none, none, some 10], dom := [(2, 2), (2, 2), (1, 200), (0, 199)], fa := [.lt (.v 3) (.v 2)], ctr := some 3 }
theorem round22_0 (rho : Nat → Int) (ok : ∀ i p, T22_0.dom[i]? = some p → p.1 ≤ rho i ∧ rho i ≤ p.2) : RoundOk Try.prog G0 8000 [1] Try.f5 T22_0 [T22_1, T22_2, T22_3] K (enOf T22_0.dom rho ok) :=
  RoundOk.of (m := 2) noR (by kernel_rfl)
theorem round22_1 (rho : Nat → Int) (ok : ∀ i p, T22_1.dom[i]? = some p → p.1 ≤ rho i ∧ rho i ≤ p.2) : RoundOk Try.prog G0 8000 [1] Try.f5 T22_1 [T22_2, T22_3] K (enOf T22_1.dom rho ok) :=
  RoundOk.of (m := 2) noR (by kernel_rfl)
theorem round22_2 (rho : Nat → Int) (ok : ∀ i p, T22_2.dom[i]? = some p → p.1 ≤ rho i ∧ rho i ≤ p.2) : RoundOk Try.prog G0 8000 [1] Try.f5 T22_2 [T22_3] K (enOf T22_2.dom rho ok) :=
  RoundOk.of (m := 2) noR (by kernel_rfl)
theorem round22_3 (rho : Nat → Int) (ok : ∀ i p, T22_3.dom[i]? = some p → p.1 ≤ rho i ∧ rho i ≤ p.2) : RoundOk Try.prog G0 8000 [1] Try.f5 T22_3 [] K (enOf T22_3.dom rho ok) :=
  RoundOk.of (m := 2) noR (by kernel_rfl)
noncomputable def Ts22 : List Tm := [T22_0, T22_1, T22_2, T22_3]
theorem rounds22 : Rounds Try.prog G0 8000 [1] Try.f5 K Ts22 := ⟨round22_0, round22_1, round22_2, round22_3, trivial⟩
theorem start22 (rho : Nat → Int) (ok : ∀ i p, D22[i]? = some p → p.1 ≤ rho i ∧ rho i ≤ p.2) : StartOk Try.prog G0 8000 [1] Try.f5 body (symAs shs 0 0 D22) (symH shs 0 0 D22) (nls shs) Ts22 K (enOf D22 rho ok) :=
  StartOk.of (m := 1) noR (by kernel_rfl)
def D23 : List (Int × Int) := [(2, 2), (3, 3), (1, 200)]
noncomputable def T23_0 : Tm := { nt := 118, nx := 2, sl := [(0, .int .u8 2), (1, .int .i64 3), (2, .os 0 (.v 2)), (7, .ptr 1 0 0 []), (8, .int .u64 7), (9, .int .u64 0), (10, .sym .i64 (.v 3))], ob := [(1, [.int .u8 2, .int .u64 0, .bool false])], lo := [(0, 0, [.int .u8], 5)], src := [none, none, none, some 10], dom := [(2, 2), (3, 3), (1, 200), (0, 199)], fa := [.lt (.v 3) (.v 2)], ctr := some 3 }
noncomputable def T23_1 : Tm := { nt := 118, nx := 2, sl := [(0, .int .u8 2), (1, .int .i64 3), (2, .os 0 (.v 2)), (7, .ptr 1 0 0 []), (8, .int .u64 7), (9, .int .u64 1), (10, .sym .i64 (.v 3))], ob := [(1, [.int .u8 2, .int .u64 1, .bool false])], lo := [(0, 0, [.int .u8], 5)], src := [none, none, none, some 10], dom := [(2, 2), (3, 3), (1, 200), (0, 199)], fa := [.lt (.v 3) (.v 2)], ctr := some 3 }
noncomputable def T23_2 : Tm := { nt := 118, nx := 2, sl := [(0, .int .u8 2), (1, .int .i64 3), (2, .os 0 (.v 2)), (7, .ptr 1 0 0 []), (8, .int .u64 7), (9, .int .u64 2), (10, .sym .i64 (.v 3))], ob := [(1, [.int .u8 2, .int .u64 2, .bool false])], lo := [(0, 0, [.int .u8], 5)], src := [none, none, none, some 10], dom := [(2, 2), (3, 3), (1, 200), (0, 199)], fa := [.lt (.v 3) (.v 2)], ctr := some 3 }
noncomputable def T23_4 : Tm := { nt := 118, nx := 2, sl := [(0, .int .u8 2), (1, .int .i64 3), (2, .os 0 (.v 2)), (7, .ptr 1 0 0 []), (8, .int .u64 7), (9, .int .u64 4), (10, .sym .i64 (.v 3))], ob := [(1, [.int .u8 2, .int .u64 4, .bool false])], lo := [(0, 0, [.int .u8], 5)], src := [none, none, none, some 10], dom := [(2, 2), (3, 3), (1, 200), (0, 199)], fa := [.lt (.v 3) (.v 2)], ctr := some 3 }
noncomputable def T23_3 : Tm := { nt := 118, nx := 2, sl := [(0, .int .u8 2), (1, .int .i64 3), (2, .os 0 (.v 2)), (7, .ptr 1 0 0 []), (8, .int .u64 7), (9, .int .u64 3), (10, .sym .i64 (.v 3))], ob := [(1, [.int .u8 2, .int .u64 3, .bool false])], lo := [(0, 0, [.int .u8], 5)], src := [none, none, none, some 10], dom := [(2, 2), (3, 3), (1, 200), (0, 199)], fa := [.lt (.v 3) (.v 2)], ctr := some 3 }
noncomputable def T23_5 : Tm := { nt := 118, nx := 2, sl := [(0, .int .u8 2), (1, .int .i64 3), (2, .os 0 (.v 2)), (7, .ptr 1 0 0 []), (8, .int .u64 7), (9, .int .u64 5), (10, .sym .i64 (.v 3))], ob := [(1, [.int .u8 2, .int .u64 5, .bool false])], lo := [(0, 0, [.int .u8], 5)], src := [none, none, none, some 10], dom := [(2, 2), (3, 3), (1, 200), (0, 199)], fa := [.lt (.v 3) (.v 2)], ctr := some 3 }
noncomputable def T23_6 : Tm := { nt := 118, nx := 2, sl := [(0, .int .u8 2), (1, .int .i64 3), (2, .os 0 (.v 2)), (7, .ptr 1 0 0 []), (8, .int .u64 7), (9, .int .u64 6), (10, .sym .i64 (.v 3))], ob := [(1, [.int .u8 2, .int .u64 6, .bool false])], lo := [(0, 0, [.int .u8], 5)], src := [none, none, none, some 10], dom := [(2, 2), (3, 3), (1, 200), (0, 199)], fa := [.lt (.v 3) (.v 2)], ctr := some 3 }
noncomputable def T23_7 : Tm := { nt := 118, nx := 2, sl := [(0, .int .u8 2), (1, .int .i64 3), (2, .os 0 (.v 2)), (7, .ptr 1 0 0 []), (8, .int .u64 7), (9, .int .u64 7), (10, .sym .i64 (.v 3))], ob := [(1, [.int .u8 2, .int .u64 0, .bool true])], lo := [(0, 0, [.int .u8], 5)], src := [none, none, none, some 10], dom := [(2, 2), (3, 3), (1, 200), (0, 199)], fa := [.lt (.v 3) (.v 2)], ctr := some 3 }
theorem round23_0 (rho : Nat → Int) (ok : ∀ i p, T23_0.dom[i]? = some p → p.1 ≤ rho i ∧ rho i ≤ p.2) : RoundOk Try.prog G0 8000 [1] Try.f5 T23_0 [T23_1, T23_2, T23_4, T23_3, T23_5, T23_6, T23_7] K (enOf T23_0.dom rho ok) :=
  RoundOk.of (m := 3) noR (by kernel_rfl)
theorem round23_1 (rho : Nat → Int) (ok : ∀ i p, T23_1.dom[i]? = some p → p.1 ≤ rho i ∧ rho i ≤ p.2) : RoundOk Try.prog G0 8000 [1] Try.f5 T23_1 [T23_2, T23_4, T23_3, T23_5, T23_6, T23_7] K (enOf T23_1.dom rho ok) :=
  RoundOk.of (m := 3) noR (by kernel_rfl)
theorem round23_2 (rho : Nat → Int) (ok : ∀ i p, T23_2.dom[i]? = some p → p.1 ≤ rho i ∧ rho i ≤ p.2) : RoundOk Try.prog G0 8000 [1] Try.f5 T23_2 [T23_4, T23_3, T23_5, T23_6, T23_7] K (enOf T23_2.dom rho ok) :=
  RoundOk.of (m := 3) noR (by kernel_rfl)
theorem round23_4 (rho : Nat → Int) (ok : ∀ i p, T23_4.dom[i]? = some p → p.1 ≤ rho i ∧ rho i ≤ p.2) : RoundOk Try.prog G0 8000 [1] Try.f5 T23_4 [T23_3, T23_5, T23_6, T23_7] K (enOf T23_4.dom rho ok) :=
  RoundOk.of (m := 3) noR (by kernel_rfl)
theorem round23_3 (rho : Nat → Int) (ok : ∀ i p, T23_3.dom[i]? = some p → p.1 ≤ rho i ∧ rho i ≤ p.2) : RoundOk Try.prog G0 8000 [1] Try.f5 T23_3 [T23_5, T23_6, T23_7] K (enOf T23_3.dom rho ok) :=
  RoundOk.of (m := 3) noR (by kernel_rfl)
theorem round23_5 (rho : Nat → Int) (ok : ∀ i p, T23_5.dom[i]? = some p → p.1 ≤ rho i ∧ rho i ≤ p.2) : RoundOk Try.prog G0 8000 [1] Try.f5 T23_5 [T23_6, T23_7] K (enOf T23_5.dom rho ok) :=
  RoundOk.of (m := 3) noR (by kernel_rfl)
theorem round23_6 (rho : Nat → Int) (ok : ∀ i p, T23_6.dom[i]? = some p → p.1 ≤ rho i ∧ rho i ≤ p.2) : RoundOk Try.prog G0 8000 [1] Try.f5 T23_6 [T23_7] K (enOf T23_6.dom rho ok) :=
  RoundOk.of (m := 3) noR (by kernel_rfl)
theorem round23_7 (rho : Nat → Int) (ok : ∀ i p, T23_7.dom[i]? = some p → p.1 ≤ rho i ∧ rho i ≤ p.2) : RoundOk Try.prog G0 8000 [1] Try.f5 T23_7 [] K (enOf T23_7.dom rho ok) :=
  RoundOk.of (m := 3) noR (by kernel_rfl)
noncomputable def Ts23 : List Tm := [T23_0, T23_1, T23_2, T23_4, T23_3, T23_5, T23_6, T23_7]
theorem rounds23 : Rounds Try.prog G0 8000 [1] Try.f5 K Ts23 := ⟨round23_0, round23_1, round23_2, round23_4, round23_3, round23_5, round23_6, round23_7, trivial⟩
theorem start23 (rho : Nat → Int) (ok : ∀ i p, D23[i]? = some p → p.1 ≤ rho i ∧ rho i ≤ p.2) : StartOk Try.prog G0 8000 [1] Try.f5 body (symAs shs 0 0 D23) (symH shs 0 0 D23) (nls shs) Ts23 K (enOf D23 rho ok) :=
  StartOk.of (m := 1) noR (by kernel_rfl)
def D24 : List (Int × Int) := [(2, 2), (4, 4), (1, 200)]
noncomputable def T24_0 : Tm := { nt := 118, nx := 2, sl := [(0, .int .u8 2), (1, .int .i64 4), (2, .os 0 (.v 2)), (7, .ptr 1 0 0 []), (8, .int .u64 15), (9, .int .u64 0), (10, .sym .i64 (.v 3))], ob := [(1, [.int .u8 2, .int .u64 0, .bool false])], lo := [(0, 0, [.int .u8], 5)], src := [none, none, none, some 10], dom := [(2, 2), (4, 4), (1, 200), (0, 199)], fa := [.lt (.v 3) (.v 2)], ctr := some 3 }
noncomputable def T24_1 : Tm := { nt := 118, nx := 2, sl := [(0, .int .u8 2), (1, .int .i64 4), (2, .os 0 (.v 2)), (7, .ptr 1 0 0 []), (8, .int .u64 15), (9, .int .u64 1), (10, .sym .i64 (.v 3))], ob := [(1, [.int .u8 2, .int .u64 1, .bool false])], lo := [(0, 0, [.int .u8], 5)], src := [none, none, none, some 10], dom := [(2, 2), (4, 4), (1, 200), (0, 199)], fa := [.lt (.v 3) (.v 2)], ctr := some 3 }
noncomputable def T24_2 : Tm := { nt := 118, nx := 2, sl := [(0, .int .u8 2), (1, .int .i64 4), (2, .os 0 (.v 2)), (7, .ptr 1 0 0 []), (8, .int .u64 15), (9, .int .u64 2), (10, .sym .i64 (.v 3))], ob := [(1, [.int .u8 2, .int .u64 2, .bool false])], lo := [(0, 0, [.int .u8], 5)], src := [none, none, none, some 10], dom := [(2, 2), (4, 4), (1, 200), (0, 199)], fa := [.lt (.v 3) (.v 2)], ctr := some 3 }
noncomputable def T24_4 : Tm := { nt := 118, nx := 2, sl := [(0, .int .u8 2), (1, .int .i64 4), (2, .os 0 (.v 2)), (7, .ptr 1 0 0 []), (8, .int .u64 15), (9, .int .u64 4), (10, .sym .i64 (.v 3))], ob := [(1, [.int .u8 2, .int .u64 4, .bool false])], lo := [(0, 0, [.int .u8], 5)], src := [none, none, none, some 10], dom := [(2, 2), (4, 4), (1, 200), (0, 199)], fa := [.lt (.v 3) (.v 2)], ctr := some 3 }
noncomputable def T24_8 : Tm := { nt := 118, nx := 2, sl := [(0, .int .u8 2), (1, .int .i64 4), (2, .os 0 (.v 2)), (7, .ptr 1 0 0 []), (8, .int .u64 15), (9, .int .u64 8), (10, .sym .i64 (.v 3))], ob := [(1, [.int .u8 2, .int .u64 8, .bool false])], lo := [(0, 0, [.int .u8], 5)], src := [none, none, none, some 10], dom := [(2, 2), (4, 4), (1, 200), (0, 199)], fa := [.lt (.v 3) (.v 2)], ctr := some 3 }
noncomputable def T24_3 : Tm := { nt := 118, nx := 2, sl := [(0, .int .u8 2), (1, .int .i64 4), (2, .os 0 (.v 2)), (7, .ptr 1 0 0 []), (8, .int .u64 15), (9, .int .u64 3), (10, .sym .i64 (.v 3))], ob := [(1, [.int .u8 2, .int .u64 3, .bool false])], lo := [(0, 0, [.int .u8], 5)], src := [none, none, none, some 10], dom := [(2, 2), (4, 4), (1, 200), (0, 199)], fa := [.lt (.v 3) (.v 2)], ctr := some 3 }
noncomputable def T24_5 : Tm := { nt := 118, nx := 2, sl := [(0, .int .u8 2), (1, .int .i64 4), (2, .os 0 (.v 2)), (7, .ptr 1 0 0 []), (8, .int .u64 15), (9, .int .u64 5), (10, .sym .i64 (.v 3))], ob := [(1, [.int .u8 2, .int .u64 5, .bool false])], lo := [(0, 0, [.int .u8], 5)], src := [none, none, none, some 10], dom := [(2, 2), (4, 4), (1, 200), (0, 199)], fa := [.lt (.v 3) (.v 2)], ctr := some 3 }
noncomputable def T24_6 : Tm := { nt := 118, nx := 2, sl := [(0, .int .u8 2), (1, .int .i64 4), (2, .os 0 (.v 2)), (7, .ptr 1 0 0 []), (8, .int .u64 15), (9, .int .u64 6), (10, .sym .i64 (.v 3))], ob := [(1, [.int .u8 2, .int .u64 6, .bool false])], lo := [(0, 0, [.int .u8], 5)], src := [none, none, none, some 10], dom := [(2, 2), (4, 4), (1, 200), (0, 199)], fa := [.lt (.v 3) (.v 2)], ctr := some 3 }
noncomputable def T24_9 : Tm := { nt := 118, nx := 2, sl := [(0, .int .u8 2), (1, .int .i64 4), (2, .os 0 (.v 2)), (7, .ptr 1 0 0 []), (8, .int .u64 15), (9, .int .u64 9), (10, .sym .i64 (.v 3))], ob := [(1, [.int .u8 2, .int .u64 9, .bool false])], lo := [(0, 0, [.int .u8], 5)], src := [none, none, none, some 10], dom := [(2, 2), (4, 4), (1, 200), (0, 199)], fa := [.lt (.v 3) (.v 2)], ctr := some 3 }
noncomputable def T24_10 : Tm := { nt := 118, nx := 2, sl := [(0, .int .u8 2), (1, .int .i64 4), (2, .os 0 (.v 2)), (7, .ptr 1 0 0 []), (8, .int .u64 15), (9, .int .u64 10), (10, .sym .i64 (.v 3))], ob := [(1, [.int .u8 2, .int .u64 10, .bool false])], lo := [(0, 0, [.int .u8], 5)], src := [none, none, none, some 10], dom := [(2, 2), (4, 4), (1, 200), (0, 199)], fa := [.lt (.v 3) (.v 2)], ctr := some 3 }
noncomputable def T24_12 : Tm := { nt := 118, nx := 2, sl := [(0, .int .u8 2), (1, .int .i64 4), (2, .os 0 (.v 2)), (7, .ptr 1 0 0 []), (8, .int .u64 15), (9, .int .u64 12), (10, .sym .i64 (.v 3))], ob := [(1, [.int .u8 2, .int .u64 12, .bool false])], lo := [(0, 0, [.int .u8], 5)], src := [none, none, none, some 10], dom := [(2, 2), (4, 4), (1, 200), (0, 199)], fa := [.lt (.v 3) (.v 2)], ctr := some 3 }
noncomputable def T24_7 : Tm := { nt := 118, nx := 2, sl := [(0, .int .u8 2), (1, .int .i64 4), (2, .os 0 (.v 2)), (7, .ptr 1 0 0 []), (8, .int .u64 15), (9, .int .u64 7), (10, .sym .i64 (.v 3))], ob := [(1, [.int .u8 2, .int .u64 0, .bool true])], lo := [(0, 0, [.int .u8], 5)], src := [none, none, none, some 10], dom := [(2, 2), (4, 4), (1, 200), (0, 199)], fa := [.lt (.v 3) (.v 2)], ctr := some 3 }
noncomputable def T24_11 : Tm := { nt := 118, nx := 2, sl := [(0, .int .u8 2), (1, .int .i64 4), (2, .os 0 (.v 2)), (7, .ptr 1 0 0 []), (8, .int .u64 15), (9, .int .u64 11), (10, .sym .i64 (.v 3))], ob := [(1, [.int .u8 2, .int .u64 0, .bool true])], lo := [(0, 0, [.int .u8], 5)], src := [none, none, none, some 10], dom := [(2, 2), (4, 4), (1, 200), (0, 199)], fa := [.lt (.v 3) (.v 2)], ctr := some 3 }
noncomputable def T24_13 : Tm := { nt := 118, nx := 2, sl := [(0, .int .u8 2), (1, .int .i64 4), (2, .os 0 (.v 2)), (7, .ptr 1 0 0 []), (8, .int .u64 15), (9, .int .u64 13), (10, .sym .i64 (.v 3))], ob := [(1, [.int .u8 2, .int .u64 0, .bool true])], lo := [(0, 0, [.int .u8], 5)], src := [none, none, none, some 10], dom := [(2, 2), (4, 4), (1, 200), (0, 199)], fa := [.lt (.v 3) (.v 2)], ctr := some 3 }
noncomputable def T24_14 : Tm := { nt := 118, nx := 2, sl := [(0, .int .u8 2), (1, .int .i64 4), (2, .os 0 (.v 2)), (7, .ptr 1 0 0 []), (8, .int .u64 15), (9, .int .u64 14), (10, .sym .i64 (.v 3))], ob := [(1, [.int .u8 2, .int .u64 0, .bool true])], lo := [(0, 0, [.int .u8], 5)], src := [none, none, none, some 10], dom := [(2, 2), (4, 4), (1, 200), (0, 199)], fa := [.lt (.v 3) (.v 2)], ctr := some 3 }
noncomputable def T24_15 : Tm := { nt := 118, nx := 2, sl := [(0, .int .u8 2), (1, .int .i64 4), (2, .os 0 (.v 2)), (7, .ptr 1 0 0 []), (8, .int .u64 15), (9, .int .u64 15), (10, .sym .i64 (.v 3))], ob := [(1, [.int .u8 2, .int .u64 0, .bool true])], lo := [(0, 0, [.int .u8], 5)], src := [none, none, none, some 10], dom := [(2, 2), (4, 4), (1, 200), (0, 199)], fa := [.lt (.v 3) (.v 2)], ctr := some 3 }
theorem round24_0 (rho : Nat → Int) (ok : ∀ i p, T24_0.dom[i]? = some p → p.1 ≤ rho i ∧ rho i ≤ p.2) : RoundOk Try.prog G0 8000 [1] Try.f5 T24_0 [T24_1, T24_2, T24_4, T24_8, T24_3, T24_5, T24_6, T24_9, T24_10, T24_12, T24_7, T24_11, T24_13, T24_14, T24_15] K (enOf T24_0.dom rho ok) :=
  RoundOk.of (m := 4) noR (by kernel_rfl)
theorem round24_1 (rho : Nat → Int) (ok : ∀ i p, T24_1.dom[i]? = some p → p.1 ≤ rho i ∧ rho i ≤ p.2) : RoundOk Try.prog G0 8000 [1] Try.f5 T24_1 [T24_2, T24_4, T24_8, T24_3, T24_5, T24_6, T24_9, T24_10, T24_12, T24_7, T24_11, T24_13, T24_14, T24_15] K (enOf T24_1.dom rho ok) :=
  RoundOk.of (m := 4) noR (by kernel_rfl)
theorem round24_2 (rho : Nat → Int) (ok : ∀ i p, T24_2.dom[i]? = some p → p.1 ≤ rho i ∧ rho i ≤ p.2) : RoundOk Try.prog G0 8000 [1] Try.f5 T24_2 [T24_4, T24_8, T24_3, T24_5, T24_6, T24_9, T24_10, T24_12, T24_7, T24_11, T24_13, T24_14, T24_15] K (enOf T24_2.dom rho ok) :=
  RoundOk.of (m := 4) noR (by kernel_rfl)
theorem round24_4 (rho : Nat → Int) (ok : ∀ i p, T24_4.dom[i]? = some p → p.1 ≤ rho i ∧ rho i ≤ p.2) : RoundOk Try.prog G0 8000 [1] Try.f5 T24_4 [T24_8, T24_3, T24_5, T24_6, T24_9, T24_10, T24_12, T24_7, T24_11, T24_13, T24_14, T24_15] K (enOf T24_4.dom rho ok) :=
  RoundOk.of (m := 4) noR (by kernel_rfl)
theorem round24_8 (rho : Nat → Int) (ok : ∀ i p, T24_8.dom[i]? = some p → p.1 ≤ rho i ∧ rho i ≤ p.2) : RoundOk Try.prog G0 8000 [1] Try.f5 T24_8 [T24_3, T24_5, T24_6, T24_9, T24_10, T24_12, T24_7, T24_11, T24_13, T24_14, T24_15] K (enOf T24_8.dom rho ok) :=
  RoundOk.of (m := 4) noR (by kernel_rfl)
theorem round24_3 (rho : Nat → Int) (ok : ∀ i p, T24_3.dom[i]? = some p → p.1 ≤ rho i ∧ rho i ≤ p.2) : RoundOk Try.prog G0 8000 [1] Try.f5 T24_3 [T24_5, T24_6, T24_9, T24_10, T24_12, T24_7, T24_11, T24_13, T24_14, T24_15] K (enOf T24_3.dom rho ok) :=
  RoundOk.of (m := 4) noR (by kernel_rfl)
theorem round24_5 (rho : Nat → Int) (ok : ∀ i p, T24_5.dom[i]? = some p → p.1 ≤ rho i ∧ rho i ≤ p.2) : RoundOk Try.prog G0 8000 [1] Try.f5 T24_5 [T24_6, T24_9, T24_10, T24_12, T24_7, T24_11, T24_13, T24_14, T24_15] K (enOf T24_5.dom rho ok) :=
  RoundOk.of (m := 4) noR (by kernel_rfl)
theorem round24_6 (rho : Nat → Int) (ok : ∀ i p, T24_6.dom[i]? = some p → p.1 ≤ rho i ∧ rho i ≤ p.2) : RoundOk Try.prog G0 8000 [1] Try.f5 T24_6 [T24_9, T24_10, T24_12, T24_7, T24_11, T24_13, T24_14, T24_15] K (enOf T24_6.dom rho ok) :=
  RoundOk.of (m := 4) noR (by kernel_rfl)
theorem round24_9 (rho : Nat → Int) (ok : ∀ i p, T24_9.dom[i]? = some p → p.1 ≤ rho i ∧ rho i ≤ p.2) : RoundOk Try.prog G0 8000 [1] Try.f5 T24_9 [T24_10, T24_12, T24_7, T24_11, T24_13, T24_14, T24_15] K (enOf T24_9.dom rho ok) :=
  RoundOk.of (m := 4) noR (by kernel_rfl)
theorem round24_10 (rho : Nat → Int) (ok : ∀ i p, T24_10.dom[i]? = some p → p.1 ≤ rho i ∧ rho i ≤ p.2) : RoundOk Try.prog G0 8000 [1] Try.f5 T24_10 [T24_12, T24_7, T24_11, T24_13, T24_14, T24_15] K (enOf T24_10.dom rho ok) :=
  RoundOk.of (m := 4) noR (by kernel_rfl)
theorem round24_12 (rho : Nat → Int) (ok : ∀ i p, T24_12.dom[i]? = some p → p.1 ≤ rho i ∧ rho i ≤ p.2) : RoundOk Try.prog G0 8000 [1] Try.f5 T24_12 [T24_7, T24_11, T24_13, T24_14, T24_15] K (enOf T24_12.dom rho ok) :=
  RoundOk.of (m := 4) noR (by kernel_rfl)
theorem round24_7 (rho : Nat → Int) (ok : ∀ i p, T24_7.dom[i]? = some p → p.1 ≤ rho i ∧ rho i ≤ p.2) : RoundOk Try.prog G0 8000 [1] Try.f5 T24_7 [T24_11, T24_13, T24_14, T24_15] K (enOf T24_7.dom rho ok) :=
  RoundOk.of (m := 4) noR (by kernel_rfl)
theorem round24_11 (rho : Nat → Int) (ok : ∀ i p, T24_11.dom[i]? = some p → p.1 ≤ rho i ∧ rho i ≤ p.2) : RoundOk Try.prog G0 8000 [1] Try.f5 T24_11 [T24_13, T24_14, T24_15] K (enOf T24_11.dom rho ok) :=
  RoundOk.of (m := 4) noR (by kernel_rfl)
theorem round24_13 (rho : Nat → Int) (ok : ∀ i p, T24_13.dom[i]? = some p → p.1 ≤ rho i ∧ rho i ≤ p.2) : RoundOk Try.prog G0 8000 [1] Try.f5 T24_13 [T24_14, T24_15] K (enOf T24_13.dom rho ok) :=
  RoundOk.of (m := 4) noR (by kernel_rfl)
theorem round24_14 (rho : Nat → Int) (ok : ∀ i p, T24_14.dom[i]? = some p → p.1 ≤ rho i ∧ rho i ≤ p.2) : RoundOk Try.prog G0 8000 [1] Try.f5 T24_14 [T24_15] K (enOf T24_14.dom rho ok) :=
  RoundOk.of (m := 4) noR (by kernel_rfl)
theorem round24_15 (rho : Nat → Int) (ok : ∀ i p, T24_15.dom[i]? = some p → p.1 ≤ rho i ∧ rho i ≤ p.2) : RoundOk Try.prog G0 8000 [1] Try.f5 T24_15 [] K (enOf T24_15.dom rho ok) :=
  RoundOk.of (m := 4) noR (by kernel_rfl)
noncomputable def Ts24 : List Tm := [T24_0, T24_1, T24_2, T24_4, T24_8, T24_3, T24_5, T24_6, T24_9, T24_10, T24_12, T24_7, T24_11, T24_13, T24_14, T24_15]
theorem rounds24 : Rounds Try.prog G0 8000 [1] Try.f5 K Ts24 := ⟨round24_0, round24_1, round24_2, round24_4, round24_8, round24_3, round24_5, round24_6, round24_9, round24_10, round24_12, round24_7, round24_11, round24_13, round24_14, round24_15, trivial⟩
theorem start24 (rho : Nat → Int) (ok : ∀ i p, D24[i]? = some p → p.1 ≤ rho i ∧ rho i ≤ p.2) : StartOk Try.prog G0 8000 [1] Try.f5 body (symAs shs 0 0 D24) (symH shs 0 0 D24) (nls shs) Ts24 K (enOf D24 rho ok) :=
  StartOk.of (m := 1) noR (by kernel_rfl)
def D31 : List (Int × Int) := [(3, 3), (1, 1), (1, 200)]
noncomputable def T31_0 : Tm := { nt := 118, nx := 2, sl := [(0, .int .u8 3), (1, .int .i64 1), (2, .os 0 (.v 2)), (7, .ptr 1 0 0 []), (8, .int .u64 1), (9, .int .u64 0), (10, .sym .i64 (.v 3))], ob := [(1, [.int .u8 3, .int .u64 0, .bool false])], lo := [(0, 0, [.int .u8], 5)], src := [none, none, none, some 10], dom := [(3, 3), (1, 1), (1, 200), (0, 199)], fa := [.lt (.v 3) (.v 2)], ctr := some 3 }
noncomputable def T31_1 : Tm := { nt := 118, nx := 2, sl := [(0, .int .u8 3), (1, .int .i64 1), (2, .os 0 (.v 2)), (7, .ptr 1 0 0 []), (8, .int .u64 1), (9, .int .u64 1), (10, .sym .i64 (.v 3))], ob := [(1, [.int .u8 3, .int .u64 1, .bool false])], lo := [(0, 0, [.int .u8], 5)], src := [none, none, none, some 10], dom := [(3, 3), (1, 1), (1, 200), (0, 199)], fa := [.lt (.v 3) (.v 2)], ctr := some 3 }
theorem round31_0 (rho : Nat → Int) (ok : ∀ i p, T31_0.dom[i]? = some p → p.1 ≤ rho i ∧ rho i ≤ p.2) : RoundOk Try.prog G0 8000 [1] Try.f5 T31_0 [T31_1] K (enOf T31_0.dom rho ok) :=
  RoundOk.of (m := 1) noR (by kernel_rfl)
theorem round31_1 (rho : Nat → Int) (ok : ∀ i p, T31_1.dom[i]? = some p → p.1 ≤ rho i ∧ rho i ≤ p.2) : RoundOk Try.prog G0 8000 [1] Try.f5 T31_1 [] K (enOf T31_1.dom rho ok) :=
  RoundOk.of (m := 1) noR (by kernel_rfl)
noncomputable def Ts31 : List Tm := [T31_0, T31_1]
theorem rounds31 : Rounds Try.prog G0 8000 [1] Try.f5 K Ts31 := ⟨round31_0, round31_1, trivial⟩
theorem start31 (rho : Nat → Int) (ok : ∀ i p, D31[i]? = some p → p.1 ≤ rho i ∧ rho i ≤ p.2) : StartOk Try.prog G0 8000 [1] Try.f5 body (symAs shs 0 0 D31) (symH shs 0 0 D31) (nls shs) Ts31 K (enOf D31 rho ok) :=
  StartOk.of (m := 1) noR (by kernel_rfl)
def D32 : List (Int × Int) := [(3, 3), (2, 2), (1, 200)]
noncomputable def T32_0 : Tm := { nt := 118, nx := 2, sl := [(0, .int .u8 3), (1, .int .i64 2), (2, .os 0 (.v 2)), (7, .ptr 1 0 0 []), (8, .int .u64 3), (9, .int .u64 0), (10, .sym .i64 (.v 3))], ob := [(1, [.int .u8 3, .int .u64 0, .bool false])], lo := [(0, 0, [.int .u8], 5)], src := [none, none, none, some 10], dom := [(3, 3), (2, 2), (1, 200), (0, 199)], fa := [.lt (.v 3) (.v 2)], ctr := some 3 }
noncomputable def T32_1 : Tm := { nt := 118, nx := 2, sl := [(0, .int .u8 3), (1, .int .i64 2), (2, .os 0 (.v 2)), (7, .ptr 1 0 0 []), (8, .int .u64 3), (9, .int .u64 1), (10, .sym .i64 (.v 3))], ob := [(1, [.int .u8 3, .int .u64 1, .bool false])], lo := [(0, 0, [.int .u8], 5)], src := [none, none, none, some 10], dom := [(3, 3), (2, 2), (1, 200), (0, 199)], fa := [.lt (.v 3) (.v 2)], ctr := some 3 }
noncomputable def T32_2 : Tm := { nt := 118, nx := 2, sl := [(0, .int .u8 3), (1, .int .i64 2), (2, .os 0 (.v 2)), (7, .ptr 1 0 0 []), (8, .int .u64 3), (9, .int .u64 2), (10, .sym .i64 (.v 3))], ob := [(1, [.int .u8 3, .int .u64 1, .bool false])], lo := [(0, 0, [.int .u8], 5)], src := [none, none, none, some 10], dom := [(3, 3), (2, 2), (1, 200), (0, 199)], fa := [.lt (.v 3) (.v 2)], ctr := some 3 }
noncomputable def T32_3 : Tm := { nt := 118, nx := 2, sl := [(0, .int .u8 3), (1, .int .i64 2), (2, .os 0 (.v 2)), (7, .ptr 1 0 0 []), (8, .int .u64 3), (9, .int .u64 3), (10, .sym .i64 (.v 3))], ob := [(1, [.int .u8 3, .int .u64 1, .bool false])], lo := [(0, 0, [.int .u8], 5)], src := [none, none, none, some 10], dom := [(3, 3), (2, 2), (1, 200), (0, 199)], fa := [.lt (.v 3) (.v 2)], ctr := some 3 }
theorem round32_0 (rho : Nat → Int) (ok : ∀ i p, T32_0.dom[i]? = some p → p.1 ≤ rho i ∧ rho i ≤ p.2) : RoundOk Try.prog G0 8000 [1] Try.f5 T32_0 [T32_1, T32_2, T32_3] K (enOf T32_0.dom rho ok) :=
  RoundOk.of (m := 2) noR (by kernel_rfl)
theorem round32_1 (rho : Nat → Int) (ok : ∀ i p, T32_1.dom[i]? = some p → p.1 ≤ rho i ∧ rho i ≤ p.2) : RoundOk Try.prog G0 8000 [1] Try.f5 T32_1 [T32_2, T32_3] K (enOf T32_1.dom rho ok) :=
  RoundOk.of (m := 2) noR (by kernel_rfl)
theorem round32_2 (rho : Nat → Int) (ok : ∀ i p, T32_2.dom[i]? = some p → p.1 ≤ rho i ∧ rho i ≤ p.2) : RoundOk Try.prog G0 8000 [1] Try.f5 T32_2 [T32_3] K (enOf T32_2.dom rho ok) :=
  RoundOk.of (m := 2) noR (by kernel_rfl)
theorem round32_3 (rho : Nat → Int) (ok : ∀ i p, T32_3.dom[i]? = some p → p.1 ≤ rho i ∧ rho i ≤ p.2) : RoundOk Try.prog G0 8000 [1] Try.f5 T32_3 [] K (enOf T32_3.dom rho ok) :=
  RoundOk.of (m := 2) noR (by kernel_rfl)
noncomputable def Ts32 : List Tm := [T32_0, T32_1, T32_2, T32_3]
theorem rounds32 : Rounds Try.prog G0 8000 [1] Try.f5 K Ts32 := ⟨round32_0, round32_1, round32_2, round32_3, trivial⟩
theorem start32 (rho : Nat → Int) (ok : ∀ i p, D32[i]? = some p → p.1 ≤ rho i ∧ rho i ≤ p.2) : StartOk Try.prog G0 8000 [1] Try.f5 body (symAs shs 0 0 D32) (symH shs 0 0 D32) (nls shs) Ts32 K (enOf D32 rho ok) :=
  StartOk.of (m := 1) noR (by kernel_rfl)
def D33 : List (Int × Int) := [(3, 3), (3, 3), (1, 200)]
noncomputable def T33_0 : Tm := { nt := 118, nx := 2, sl := [(0, .int .u8 3), (1, .int .i64 3), (2, .os 0 (.v 2)), (7, .ptr 1 0 0 []), (8, .int .u64 7), (9, .int .u64 0), (10, .sym .i64 (.v 3))], ob := [(1, [.int .u8 3, .int .u64 0, .bool false])], lo := [(0, 0, [.int .u8], 5)], src := [none, none, none, some 10], dom := [(3, 3), (3, 3), (1, 200), (0, 199)], fa := [.lt (.v 3) (.v 2)], ctr := some 3 }
noncomputable def T33_1 : Tm := { nt := 118, nx := 2, sl := [(0, .int .u8 3), (1, .int .i64 3), (2, .os 0 (.v 2)), (7, .ptr 1 0 0 []), (8, .int .u64 7), (9, .int .u64 1), (10, .sym .i64 (.v 3))], ob := [(1, [.int .u8 3, .int .u64 1, .bool false])], lo := [(0, 0, [.int .u8], 5)], src := [none, none, none, some 10], dom := [(3, 3), (3, 3), (1, 200), (0, 199)], fa := [.lt (.v 3) (.v 2)], ctr := some 3 }
noncomputable def T33_2 : Tm := { nt := 118, nx := 2, sl := [(0, .int .u8 3), (1, .int .i64 3), (2, .os 0 (.v 2)), (7, .ptr 1 0 0 []), (8, .int .u64 7), (9, .int .u64 2), (10, .sym .i64 (.v 3))], ob := [(1, [.int .u8 3, .int .u64 1, .bool false])], lo := [(0, 0, [.int .u8], 5)], src := [none, none, none, some 10], dom := [(3, 3), (3, 3), (1, 200), (0, 199)], fa := [.lt (.v 3) (.v 2)], ctr := some 3 }
noncomputable def T33_4 : Tm := { nt := 118, nx := 2, sl := [(0, .int .u8 3), (1, .int .i64 3), (2, .os 0 (.v 2)), (7, .ptr 1 0 0 []), (8, .int .u64 7), (9, .int .u64 4), (10, .sym .i64 (.v 3))], ob := [(1, [.int .u8 3, .int .u64 2, .bool false])], lo := [(0, 0, [.int .u8], 5)], src := [none, none, none, some 10], dom := [(3, 3), (3, 3), (1, 200), (0, 199)], fa := [.lt (.v 3) (.v 2)], ctr := some 3 }
noncomputable def T33_3 : Tm := { nt := 118, nx := 2, sl := [(0, .int .u8 3), (1, .int .i64 3), (2, .os 0 (.v 2)), (7, .ptr 1 0 0 []), (8, .int .u64 7), (9, .int .u64 3), (10, .sym .i64 (.v 3))], ob := [(1, [.int .u8 3, .int .u64 1, .bool false])], lo := [(0, 0, [.int .u8], 5)], src := [none, none, none, some 10], dom := [(3, 3), (3, 3), (1, 200), (0, 199)], fa := [.lt (.v 3) (.v 2)], ctr := some 3 }
noncomputable def T33_5 : Tm := { nt := 118, nx := 2, sl := [(0, .int .u8 3), (1, .int .i64 3), (2, .os 0 (.v 2)), (7, .ptr 1 0 0 []), (8, .int .u64 7), (9, .int .u64 5), (10, .sym .i64 (.v 3))], ob := [(1, [.int .u8 3, .int .u64 3, .bool false])], lo := [(0, 0, [.int .u8], 5)], src := [none, none, none, some 10], dom := [(3, 3), (3, 3), (1, 200), (0, 199)], fa := [.lt (.v 3) (.v 2)], ctr := some 3 }
noncomputable def T33_6 : Tm := { nt := 118, nx := 2, sl := [(0, .int .u8 3), (1, .int .i64 3), (2, .os 0 (.v 2)), (7, .ptr 1 0 0 []), (8, .int .u64 7), (9, .int .u64 6), (10, .sym .i64 (.v 3))], ob := [(1, [.int .u8 3, .int .u64 3, .bool false])], lo := [(0, 0, [.int .u8], 5)], src := [none, none, none, some 10], dom := [(3, 3), (3, 3), (1, 200), (0, 199)], fa := [.lt (.v 3) (.v 2)], ctr := some 3 }
noncomputable def T33_7 : Tm := { nt := 118, nx := 2, sl := [(0, .int .u8 3), (1, .int .i64 3), (2, .os 0 (.v 2)), (7, .ptr 1 0 0 []), (8, .int .u64 7), (9, .int .u64 7), (10, .sym .i64 (.v 3))], ob := [(1, [.int .u8 3, .int .u64 3, .bool false])], lo := [(0, 0, [.int .u8], 5)], src := [none, none, none, some 10], dom := [(3, 3), (3, 3), (1, 200), (0, 199)], fa := [.lt (.v 3) (.v 2)], ctr := some 3 }
theorem round33_0 (rho : Nat → Int) (ok : ∀ i p, T33_0.dom[i]? = some p → p.1 ≤ rho i ∧ rho i ≤ p.2) : RoundOk Try.prog G0 8000 [1] Try.f5 T33_0 [T33_1, T33_2, T33_4, T33_3, T33_5, T33_6, T33_7] K (enOf T33_0.dom rho ok) :=
  RoundOk.of (m := 3) noR (by kernel_rfl)
theorem round33_1 (rho : Nat → Int) (ok : ∀ i p, T33_1.dom[i]? = some p → p.1 ≤ rho i ∧ rho i ≤ p.2) : RoundOk Try.prog G0 8000 [1] Try.f5 T33_1 [T33_2, T33_4, T33_3, T33_5, T33_6, T33_7] K (enOf T33_1.dom rho ok) :=
  RoundOk.of (m := 3) noR (by kernel_rfl)
theorem round33_2 (rho : Nat → Int) (ok : ∀ i p, T33_2.dom[i]? = some p → p.1 ≤ rho i ∧ rho i ≤ p.2) : RoundOk Try.prog G0 8000 [1] Try.f5 T33_2 [T33_4, T33_3, T33_5, T33_6, T33_7] K (enOf T33_2.dom rho ok) :=
  RoundOk.of (m := 3) noR (by kernel_rfl)
theorem round33_4 (rho : Nat → Int) (ok : ∀ i p, T33_4.dom[i]? = some p → p.1 ≤ rho i ∧ rho i ≤ p.2) : RoundOk Try.prog G0 8000 [1] Try.f5 T33_4 [T33_3, T33_5, T33_6, T33_7] K (enOf T33_4.dom rho ok) :=
  RoundOk.of (m := 3) noR (by kernel_rfl)
theorem round33_3 (rho : Nat → Int) (ok : ∀ i p, T33_3.dom[i]? = some p → p.1 ≤ rho i ∧ rho i ≤ p.2) : RoundOk Try.prog G0 8000 [1] Try.f5 T33_3 [T33_5, T33_6, T33_7] K (enOf T33_3.dom rho ok) :=
  RoundOk.of (m := 3) noR (by kernel_rfl)
theorem round33_5 (rho : Nat → Int) (ok : ∀ i p, T33_5.dom[i]? = some p → p.1 ≤ rho i ∧ rho i ≤ p.2) : RoundOk Try.prog G0 8000 [1] Try.f5 T33_5 [T33_6, T33_7] K (enOf T33_5.dom rho ok) :=
  RoundOk.of (m := 3) noR (by kernel_rfl)
theorem round33_6 (rho : Nat → Int) (ok : ∀ i p, T33_6.dom[i]? = some p → p.1 ≤ rho i ∧ rho i ≤ p.2) : RoundOk Try.prog G0 8000 [1] Try.f5 T33_6 [T33_7] K (enOf T33_6.dom rho ok) :=
  RoundOk.of (m := 3) noR (by kernel_rfl)
theorem round33_7 (rho : Nat → Int) (ok : ∀ i p, T33_7.dom[i]? = some p → p.1 ≤ rho i ∧ rho i ≤ p.2) : RoundOk Try.prog G0 8000 [1] Try.f5 T33_7 [] K (enOf T33_7.dom rho ok) :=
  RoundOk.of (m := 3) noR (by kernel_rfl)
noncomputable def Ts33 : List Tm := [T33_0, T33_1, T33_2, T33_4, T33_3, T33_5, T33_6, T33_7]
theorem rounds33 : Rounds Try.prog G0 8000 [1] Try.f5 K Ts33 := ⟨round33_0, round33_1, round33_2, round33_4, round33_3, round33_5, round33_6, round33_7, trivial⟩
theorem start33 (rho : Nat → Int) (ok : ∀ i p, D33[i]? = some p → p.1 ≤ rho i ∧ rho i ≤ p.2) : StartOk Try.prog G0 8000 [1] Try.f5 body (symAs shs 0 0 D33) (symH shs 0 0 D33) (nls shs) Ts33 K (enOf D33 rho ok) :=
  StartOk.of (m := 1) noR (by kernel_rfl)
def D34 : List (Int × Int) := [(3, 3), (4, 4), (1, 200)]
noncomputable def T34_0 : Tm := { nt := 118, nx := 2, sl := [(0, .int .u8 3), (1, .int .i64 4), (2, .os 0 (.v 2)), (7, .ptr 1 0 0 []), (8, .int .u64 15), (9, .int .u64 0), (10, .sym .i64 (.v 3))], ob := [(1, [.int .u8 3, .int .u64 0, .bool false])], lo := [(0, 0, [.int .u8], 5)], src := [none, none, none, some 10], dom := [(3, 3), (4, 4), (1, 200), (0, 199)], fa := [.lt (.v 3) (.v 2)], ctr := some 3 }
noncomputable def T34_1 : Tm := { nt := 118, nx := 2, sl := [(0, .int .u8 3), (1, .int .i64 4), (2, .os 0 (.v 2)), (7, .ptr 1 0 0 []), (8, .int .u64 15), (9, .int .u64 1), (10, .sym .i64 (.v 3))], ob := [(1, [.int .u8 3, .int .u64 1, .bool false])], lo := [(0, 0, [.int .u8], 5)], src := [none, none, none, some 10], dom := [(3, 3), (4, 4), (1, 200), (0, 199)], fa := [.lt (.v 3) (.v 2)], ctr := some 3 }
noncomputable def T34_2 : Tm := { nt := 118, nx := 2, sl := [(0, .int .u8 3), (1, .int .i64 4), (2, .os 0 (.v 2)), (7, .ptr 1 0 0 []), (8, .int .u64 15), (9, .int .u64 2), (10, .sym .i64 (.v 3))], ob := [(1, [.int .u8 3, .int .u64 1, .bool false])], lo := [(0, 0, [.int .u8], 5)], src := [none, none, none, some 10], dom := [(3, 3), (4, 4), (1, 200), (0, 199)], fa := [.lt (.v 3) (.v 2)], ctr := some 3 }
noncomputable def T34_4 : Tm := { nt := 118, nx := 2, sl := [(0, .int .u8 3), (1, .int .i64 4), (2, .os 0 (.v 2)), (7, .ptr 1 0 0 []), (8, .int .u64 15), (9, .int .u64 4), (10, .sym .i64 (.v 3))], ob := [(1, [.int .u8 3, .int .u64 2, .bool false])], lo := [(0, 0, [.int .u8], 5)], src := [none, none, none, some 10], dom := [(3, 3), (4, 4), (1, 200), (0, 199)], fa := [.lt (.v 3) (.v 2)], ctr := some 3 }
noncomputable def T34_8 : Tm := { nt := 118, nx := 2, sl := [(0, .int .u8 3), (1, .int .i64 4), (2, .os 0 (.v 2)), (7, .ptr 1 0 0 []), (8, .int .u64 15), (9, .int .u64 8), (10, .sym .i64 (.v 3))], ob := [(1, [.int .u8 3, .int .u64 2, .bool false])], lo := [(0, 0, [.int .u8], 5)], src := [none, none, none, some 10], dom := [(3, 3), (4, 4), (1, 200), (0, 199)], fa := [.lt (.v 3) (.v 2)], ctr := some 3 }
noncomputable def T34_3 : Tm := { nt := 118, nx := 2, sl := [(0, .int .u8 3), (1, .int .i64 4), (2, .os 0 (.v 2)), (7, .ptr 1 0 0 []), (8, .int .u64 15), (9, .int .u64 3), (10, .sym .i64 (.v 3))], ob := [(1, [.int .u8 3, .int .u64 1, .bool false])], lo := [(0, 0, [.int .u8], 5)], src := [none, none, none, some 10], dom := [(3, 3), (4, 4), (1, 200), (0, 199)], fa := [.lt (.v 3) (.v 2)], ctr := some 3 }
noncomputable def T34_5 : Tm := { nt := 118, nx := 2, sl := [(0, .int .u8 3), (1, .int .i64 4), (2, .os 0 (.v 2)), (7, .ptr 1 0 0 []), (8, .int .u64 15), (9, .int .u64 5), (10, .sym .i64 (.v 3))], ob := [(1, [.int .u8 3, .int .u64 3, .bool false])], lo := [(0, 0, [.int .u8], 5)], src := [none, none, none, some 10], dom := [(3, 3), (4, 4), (1, 200), (0, 199)], fa := [.lt (.v 3) (.v 2)], ctr := some 3 }
noncomputable def T34_6 : Tm := { nt := 118, nx := 2, sl := [(0, .int .u8 3), (1, .int .i64 4), (2, .os 0 (.v 2)), (7, .ptr 1 0 0 []), (8, .int .u64 15), (9, .int .u64 6), (10, .sym .i64 (.v 3))], ob := [(1, [.int .u8 3, .int .u64 3, .bool false])], lo := [(0, 0, [.int .u8], 5)], src := [none, none, none, some 10], dom := [(3, 3), (4, 4), (1, 200), (0, 199)], fa := [.lt (.v 3) (.v 2)], ctr := some 3 }
noncomputable def T34_9 : Tm := { nt := 118, nx := 2, sl := [(0, .int .u8 3), (1, .int .i64 4), (2, .os 0 (.v 2)), (7, .ptr 1 0 0 []), (8, .int .u64 15), (9, .int .u64 9), (10, .sym .i64 (.v 3))], ob := [(1, [.int .u8 3, .int .u64 3, .bool false])], lo := [(0, 0, [.int .u8], 5)], src := [none, none, none, some 10], dom := [(3, 3), (4, 4), (1, 200), (0, 199)], fa := [.lt (.v 3) (.v 2)], ctr := some 3 }
noncomputable def T34_10 : Tm := { nt := 118, nx := 2, sl := [(0, .int .u8 3), (1, .int .i64 4), (2, .os 0 (.v 2)), (7, .ptr 1 0 0 []), (8, .int .u64 15), (9, .int .u64 10), (10, .sym .i64 (.v 3))], ob := [(1, [.int .u8 3, .int .u64 3, .bool false])], lo := [(0, 0, [.int .u8], 5)], src := [none, none, none, some 10], dom := [(3, 3), (4, 4), (1, 200), (0, 199)], fa := [.lt (.v 3) (.v 2)], ctr := some 3 }
noncomputable def T34_12 : Tm := { nt := 118, nx := 2, sl := [(0, .int .u8 3), (1, .int .i64 4), (2, .os 0 (.v 2)), (7, .ptr 1 0 0 []), (8, .int .u64 15), (9, .int .u64 12), (10, .sym .i64 (.v 3))], ob := [(1, [.int .u8 3, .int .u64 2, .bool false])], lo := [(0, 0, [.int .u8], 5)], src := [none, none, none, some 10], dom := [(3, 3), (4, 4), (1, 200), (0, 199)], fa := [.lt (.v 3) (.v 2)], ctr := some 3 }
noncomputable def T34_7 : Tm := { nt := 118, nx := 2, sl := [(0, .int .u8 3), (1, .int .i64 4), (2, .os 0 (.v 2)), (7, .ptr 1 0 0 []), (8, .int .u64 15), (9, .int .u64 7), (10, .sym .i64 (.v 3))], ob := [(1, [.int .u8 3, .int .u64 3, .bool false])], lo := [(0, 0, [.int .u8], 5)], src := [none, none, none, some 10], dom := [(3, 3), (4, 4), (1, 200), (0, 199)], fa := [.lt (.v 3) (.v 2)], ctr := some 3 }
noncomputable def T34_11 : Tm := { nt := 118, nx := 2, sl := [(0, .int .u8 3), (1, .int .i64 4), (2, .os 0 (.v 2)), (7, .ptr 1 0 0 []), (8, .int .u64 15), (9, .int .u64 11), (10, .sym .i64 (.v 3))], ob := [(1, [.int .u8 3, .int .u64 3, .bool false])], lo := [(0, 0, [.int .u8], 5)], src := [none, none, none, some 10], dom := [(3, 3), (4, 4), (1, 200), (0, 199)], fa := [.lt (.v 3) (.v 2)], ctr := some 3 }
noncomputable def T34_13 : Tm := { nt := 118, nx := 2, sl := [(0, .int .u8 3), (1, .int .i64 4), (2, .os 0 (.v 2)), (7, .ptr 1 0 0 []), (8, .int .u64 15), (9, .int .u64 13), (10, .sym .i64 (.v 3))], ob := [(1, [.int .u8 3, .int .u64 3, .bool false])], lo := [(0, 0, [.int .u8], 5)], src := [none, none, none, some 10], dom := [(3, 3), (4, 4), (1, 200), (0, 199)], fa := [.lt (.v 3) (.v 2)], ctr := some 3 }
noncomputable def T34_14 : Tm := { nt := 118, nx := 2, sl := [(0, .int .u8 3), (1, .int .i64 4), (2, .os 0 (.v 2)), (7, .ptr 1 0 0 []), (8, .int .u64 15), (9, .int .u64 14), (10, .sym .i64 (.v 3))], ob := [(1, [.int .u8 3, .int .u64 3, .bool false])], lo := [(0, 0, [.int .u8], 5)], src := [none, none, none, some 10], dom := [(3, 3), (4, 4), (1, 200), (0, 199)], fa := [.lt (.v 3) (.v 2)], ctr := some 3 }
noncomputable def T34_15 : Tm := { nt := 118, nx := 2, sl := [(0, .int .u8 3), (1, .int .i64 4), (2, .os 0 (.v 2)), (7, .ptr 1 0 0 []), (8, .int .u64 15), (9, .int .u64 15), (10, .sym .i64 (.v 3))], ob := [(1, [.int .u8 3, .int .u64 3, .bool false])], lo := [(0, 0, [.int .u8], 5)], src := [none, none, none, some 10], dom := [(3, 3), (4, 4), (1, 200), (0, 199)], fa := [.lt (.v 3) (.v 2)], ctr := some 3 }
theorem round34_0 (rho : Nat → Int) (ok : ∀ i p, T34_0.dom[i]? = some p → p.1 ≤ rho i ∧ rho i ≤ p.2) : RoundOk Try.prog G0 8000 [1] Try.f5 T34_0 [T34_1, T34_2, T34_4, T34_8, T34_3, T34_5, T34_6, T34_9, T34_10, T34_12, T34_7, T34_11, T34_13, T34_14, T34_15] K (enOf T34_0.dom rho ok) :=
  RoundOk.of (m := 4) noR (by kernel_rfl)
theorem round34_1 (rho : Nat → Int) (ok : ∀ i p, T34_1.dom[i]? = some p → p.1 ≤ rho i ∧ rho i ≤ p.2) : RoundOk Try.prog G0 8000 [1] Try.f5 T34_1 [T34_2, T34_4, T34_8, T34_3, T34_5, T34_6, T34_9, T34_10, T34_12, T34_7, T34_11, T34_13, T34_14, T34_15] K (enOf T34_1.dom rho ok) :=
  RoundOk.of (m := 4) noR (by kernel_rfl)
theorem round34_2 (rho : Nat → Int) (ok : ∀ i p, T34_2.dom[i]? = some p → p.1 ≤ rho i ∧ rho i ≤ p.2) : RoundOk Try.prog G0 8000 [1] Try.f5 T34_2 [T34_4, T34_8, T34_3, T34_5, T34_6, T34_9, T34_10, T34_12, T34_7, T34_11, T34_13, T34_14, T34_15] K (enOf T34_2.dom rho ok) :=
  RoundOk.of (m := 4) noR (by kernel_rfl)
theorem round34_4 (rho : Nat → Int) (ok : ∀ i p, T34_4.dom[i]? = some p → p.1 ≤ rho i ∧ rho i ≤ p.2) : RoundOk Try.prog G0 8000 [1] Try.f5 T34_4 [T34_8, T34_3, T34_5, T34_6, T34_9, T34_10, T34_12, T34_7, T34_11, T34_13, T34_14, T34_15] K (enOf T34_4.dom rho ok) :=
  RoundOk.of (m := 4) noR (by kernel_rfl)
theorem round34_8 (rho : Nat → Int) (ok : ∀ i p, T34_8.dom[i]? = some p → p.1 ≤ rho i ∧ rho i ≤ p.2) : RoundOk Try.prog G0 8000 [1] Try.f5 T34_8 [T34_3, T34_5, T34_6, T34_9, T34_10, T34_12, T34_7, T34_11, T34_13, T34_14, T34_15] K (enOf T34_8.dom rho ok) :=
  RoundOk.of (m := 4) noR (by kernel_rfl)
theorem round34_3 (rho : Nat → Int) (ok : ∀ i p, T34_3.dom[i]? = some p → p.1 ≤ rho i ∧ rho i ≤ p.2) : RoundOk Try.prog G0 8000 [1] Try.f5 T34_3 [T34_5, T34_6, T34_9, T34_10, T34_12, T34_7, T34_11, T34_13, T34_14, T34_15] K (enOf T34_3.dom rho ok) :=
  RoundOk.of (m := 4) noR (by kernel_rfl)
theorem round34_5 (rho : Nat → Int) (ok : ∀ i p, T34_5.dom[i]? = some p → p.1 ≤ rho i ∧ rho i ≤ p.2) : RoundOk Try.prog G0 8000 [1] Try.f5 T34_5 [T34_6, T34_9, T34_10, T34_12, T34_7, T34_11, T34_13, T34_14, T34_15] K (enOf T34_5.dom rho ok) :=
  RoundOk.of (m := 4) noR (by kernel_rfl)
theorem round34_6 (rho : Nat → Int) (ok : ∀ i p, T34_6.dom[i]? = some p → p.1 ≤ rho i ∧ rho i ≤ p.2) : RoundOk Try.prog G0 8000 [1] Try.f5 T34_6 [T34_9, T34_10, T34_12, T34_7, T34_11, T34_13, T34_14, T34_15] K (enOf T34_6.dom rho ok) :=
  RoundOk.of (m := 4) noR (by kernel_rfl)
theorem round34_9 (rho : Nat → Int) (ok : ∀ i p, T34_9.dom[i]? = some p → p.1 ≤ rho i ∧ rho i ≤ p.2) : RoundOk Try.prog G0 8000 [1] Try.f5 T34_9 [T34_10, T34_12, T34_7, T34_11, T34_13, T34_14, T34_15] K (enOf T34_9.dom rho ok) :=
  RoundOk.of (m := 4) noR (by kernel_rfl)
theorem round34_10 (rho : Nat → Int) (ok : ∀ i p, T34_10.dom[i]? = some p → p.1 ≤ rho i ∧ rho i ≤ p.2) : RoundOk Try.prog G0 8000 [1] Try.f5 T34_10 [T34_12, T34_7, T34_11, T34_13, T34_14, T34_15] K (enOf T34_10.dom rho ok) :=
  RoundOk.of (m := 4) noR (by kernel_rfl)
theorem round34_12 (rho : Nat → Int) (ok : ∀ i p, T34_12.dom[i]? = some p → p.1 ≤ rho i ∧ rho i ≤ p.2) : RoundOk Try.prog G0 8000 [1] Try.f5 T34_12 [T34_7, T34_11, T34_13, T34_14, T34_15] K (enOf T34_12.dom rho ok) :=
  RoundOk.of (m := 4) noR (by kernel_rfl)
theorem round34_7 (rho : Nat → Int) (ok : ∀ i p, T34_7.dom[i]? = some p → p.1 ≤ rho i ∧ rho i ≤ p.2) : RoundOk Try.prog G0 8000 [1] Try.f5 T34_7 [T34_11, T34_13, T34_14, T34_15] K (enOf T34_7.dom rho ok) :=
  RoundOk.of (m := 4) noR (by kernel_rfl)
theorem round34_11 (rho : Nat → Int) (ok : ∀ i p, T34_11.dom[i]? = some p → p.1 ≤ rho i ∧ rho i ≤ p.2) : RoundOk Try.prog G0 8000 [1] Try.f5 T34_11 [T34_13, T34_14, T34_15] K (enOf T34_11.dom rho ok) :=
  RoundOk.of (m := 4) noR (by kernel_rfl)
theorem round34_13 (rho : Nat → Int) (ok : ∀ i p, T34_13.dom[i]? = some p → p.1 ≤ rho i ∧ rho i ≤ p.2) : RoundOk Try.prog G0 8000 [1] Try.f5 T34_13 [T34_14, T34_15] K (enOf T34_13.dom rho ok) :=
  RoundOk.of (m := 4) noR (by kernel_rfl)
theorem round34_14 (rho : Nat → Int) (ok : ∀ i p, T34_14.dom[i]? = some p → p.1 ≤ rho i ∧ rho i ≤ p.2) : RoundOk Try.prog G0 8000 [1] Try.f5 T34_14 [T34_15] K (enOf T34_14.dom rho ok) :=
  RoundOk.of (m := 4) noR (by kernel_rfl)
theorem round34_15 (rho : Nat → Int) (ok : ∀ i p, T34_15.dom[i]? = some p → p.1 ≤ rho i ∧ rho i ≤ p.2) : RoundOk Try.prog G0 8000 [1] Try.f5 T34_15 [] K (enOf T34_15.dom rho ok) :=
  RoundOk.of (m := 4) noR (by kernel_rfl)
noncomputable def Ts34 : List Tm := [T34_0, T34_1, T34_2, T34_4, T34_8, T34_3, T34_5, T34_6, T34_9, T34_10, T34_12, T34_7, T34_11, T34_13, T34_14, T34_15]
theorem rounds34 : Rounds Try.prog G0 8000 [1] Try.f5 K Ts34 := ⟨round34_0, round34_1, round34_2, round34_4, round34_8, round34_3, round34_5, round34_6, round34_9, round34_10, round34_12, round34_7, round34_11, round34_13, round34_14, round34_15, trivial⟩
theorem start34 (rho : Nat → Int) (ok : ∀ i p, D34[i]? = some p → p.1 ≤ rho i ∧ rho i ≤ p.2) : StartOk Try.prog G0 8000 [1] Try.f5 body (symAs shs 0 0 D34) (symH shs 0 0 D34) (nls shs) Ts34 K (enOf D34 rho ok) :=
  StartOk.of (m := 1) noR (by kernel_rfl)
theorem covers (ns : List Int) (h : InD (fullD shs) ns) : Somes (fun l => InB l ns) [D11, D12, D13, D14, D21, D22, D23, D24, D31, D32, D33, D34] ∨ Somes (fun l => InB l ns) boxes := by
  obtain ⟨a, _, rfl, a1, a2, b, _, rfl, b1, b2, c, _, rfl, c1, c2, rfl⟩ := h
  simp only [fullK, kLo, kHi] at a1 a2 b1 b2 c1 c2
  by_cases q0 : a ≤ 0
  · exact .inr (.inl (by simp only [InB, box0, and_true]; omega))
  by_cases q1 : 4 ≤ a
  · exact .inr (.inr (.inl (by simp only [InB, box1, and_true]; omega)))
  by_cases q2 : b ≤ 0
  · exact .inr (.inr (.inr (.inl (by simp only [InB, box2, and_true]; omega))))
  by_cases q3 : 5 ≤ b
  · exact .inr (.inr (.inr (.inr (.inl (by simp only [InB, box3, and_true]; omega)))))
  by_cases q4 : 201 ≤ c
  · exact .inr (.inr (.inr (.inr (.inr (.inl (by simp only [InB, box4, and_true]; omega))))))
  have ha : a = 1 ∨ a = 2 ∨ a = 3 := by omega
  have hb : b = 1 ∨ b = 2 ∨ b = 3 ∨ b = 4 := by omega
  rcases Int.lt_or_le 0 c with hc | hc
  · rcases ha with rfl | rfl | rfl <;> rcases hb with rfl | rfl | rfl | rfl
    · exact .inl (.inl (by simp only [InB, D11, and_true]; omega))
    · exact .inl (.inr (.inl (by simp only [InB, D12, and_true]; omega)))
    · exact .inl (.inr (.inr (.inl (by simp only [InB, D13, and_true]; omega))))
    · exact .inl (.inr (.inr (.inr (.inl (by simp only [InB, D14, and_true]; omega)))))
    · exact .inl (.inr (.inr (.inr (.inr (.inl (by simp only [InB, D21, and_true]; omega))))))
    · exact .inl (.inr (.inr (.inr (.inr (.inr (.inl (by simp only [InB, D22, and_true]; omega)))))))
    · exact .inl (.inr (.inr (.inr (.inr (.inr (.inr (.inl (by simp only [InB, D23, and_true]; omega))))))))
    · exact .inl (.inr (.inr (.inr (.inr (.inr (.inr (.inr (.inl (by simp only [InB, D24, and_true]; omega)))))))))
    · exact .inl (.inr (.inr (.inr (.inr (.inr (.inr (.inr (.inr (.inl (by simp only [InB, D31, and_true]; omega))))))))))
    · exact .inl (.inr (.inr (.inr (.inr (.inr (.inr (.inr (.inr (.inr (.inl (by simp only [InB, D32, and_true]; omega)))))))))))
    · exact .inl (.inr (.inr (.inr (.inr (.inr (.inr (.inr (.inr (.inr (.inr (.inl (by simp only [InB, D33, and_true]; omega))))))))))))
    · exact .inl (.inr (.inr (.inr (.inr (.inr (.inr (.inr (.inr (.inr (.inr (.inr (.inl (by simp only [InB, D34, and_true]; omega)))))))))))))
  · rcases ha with rfl | rfl | rfl <;> rcases hb with rfl | rfl | rfl | rfl
    · exact .inr (.inr (.inr (.inr (.inr (.inr (.inl (by simp only [InB, box5, and_true]; omega)))))))
    · exact .inr (.inr (.inr (.inr (.inr (.inr (.inr (.inl (by simp only [InB, box6, and_true]; omega))))))))
    · exact .inr (.inr (.inr (.inr (.inr (.inr (.inr (.inr (.inl (by simp only [InB, box7, and_true]; omega)))))))))
    · exact .inr (.inr (.inr (.inr (.inr (.inr (.inr (.inr (.inr (.inl (by simp only [InB, box8, and_true]; omega))))))))))
    · exact .inr (.inr (.inr (.inr (.inr (.inr (.inr (.inr (.inr (.inr (.inl (by simp only [InB, box9, and_true]; omega)))))))))))
    · exact .inr (.inr (.inr (.inr (.inr (.inr (.inr (.inr (.inr (.inr (.inr (.inl (by simp only [InB, box10, and_true]; omega))))))))))))
    · exact .inr (.inr (.inr (.inr (.inr (.inr (.inr (.inr (.inr (.inr (.inr (.inr (.inl (by simp only [InB, box11, and_true]; omega)))))))))))))
    · exact .inr (.inr (.inr (.inr (.inr (.inr (.inr (.inr (.inr (.inr (.inr (.inr (.inr (.inl (by simp only [InB, box12, and_true]; omega))))))))))))))
    · exact .inr (.inr (.inr (.inr (.inr (.inr (.inr (.inr (.inr (.inr (.inr (.inr (.inr (.inr (.inl (by simp only [InB, box13, and_true]; omega)))))))))))))))
    · exact .inr (.inr (.inr (.inr (.inr (.inr (.inr (.inr (.inr (.inr (.inr (.inr (.inr (.inr (.inr (.inl (by simp only [InB, box14, and_true]; omega))))))))))))))))
    · exact .inr (.inr (.inr (.inr (.inr (.inr (.inr (.inr (.inr (.inr (.inr (.inr (.inr (.inr (.inr (.inr (.inl (by simp only [InB, box15, and_true]; omega)))))))))))))))))
    · exact .inr (.inr (.inr (.inr (.inr (.inr (.inr (.inr (.inr (.inr (.inr (.inr (.inr (.inr (.inr (.inr (.inr (.inl (by simp only [InB, box16, and_true]; omega))))))))))))))))))
theorem walk {w : World} {Ls : Nat → Nat → Nat → Int} {vs : List Value} {ns : List Int} (hv : ShsOk Try.prog w Ls shs 0 vs ns) : Calls Try.prog 5 vs.toArray w fun e w' => e = .returned (.bool true) ∧ Below w.heap.size w w' := by
  have hlen : vs.length ≤ Try.f5.ntmps := by
    rw [hv.len]
    exact Nat.le_of_ble_eq_true (by kernel_rfl)
  rcases covers ns hv.full with h | h
  · rcases h with h | h | h | h | h | h | h | h | h | h | h | h | h
    · exact loop_law (k := K) mo nogo (fun E _ => ConOk.none' E) Try.func5 hbody rounds11 start11 hv h.ind hlen rfl rfl
    · exact loop_law (k := K) mo nogo (fun E _ => ConOk.none' E) Try.func5 hbody rounds12 start12 hv h.ind hlen rfl rfl
    · exact loop_law (k := K) mo nogo (fun E _ => ConOk.none' E) Try.func5 hbody rounds13 start13 hv h.ind hlen rfl rfl
    · exact loop_law (k := K) mo nogo (fun E _ => ConOk.none' E) Try.func5 hbody rounds14 start14 hv h.ind hlen rfl rfl
    · exact loop_law (k := K) mo nogo (fun E _ => ConOk.none' E) Try.func5 hbody rounds21 start21 hv h.ind hlen rfl rfl
    · exact loop_law (k := K) mo nogo (fun E _ => ConOk.none' E) Try.func5 hbody rounds22 start22 hv h.ind hlen rfl rfl
    · exact loop_law (k := K) mo nogo (fun E _ => ConOk.none' E) Try.func5 hbody rounds23 start23 hv h.ind hlen rfl rfl
    · exact loop_law (k := K) mo nogo (fun E _ => ConOk.none' E) Try.func5 hbody rounds24 start24 hv h.ind hlen rfl rfl
    · exact loop_law (k := K) mo nogo (fun E _ => ConOk.none' E) Try.func5 hbody rounds31 start31 hv h.ind hlen rfl rfl
    · exact loop_law (k := K) mo nogo (fun E _ => ConOk.none' E) Try.func5 hbody rounds32 start32 hv h.ind hlen rfl rfl
    · exact loop_law (k := K) mo nogo (fun E _ => ConOk.none' E) Try.func5 hbody rounds33 start33 hv h.ind hlen rfl rfl
    · exact loop_law (k := K) mo nogo (fun E _ => ConOk.none' E) Try.func5 hbody rounds34 start34 hv h.ind hlen rfl rfl
    · exact h.elim
  · obtain ⟨l, h1, h2⟩ := Somes.get (l := boxes) (q := fun l => BoxOk Try.prog G0 5 8000 shs l ∧ Nat.ble l.length 1000 = true) ⟨⟨ok0, rfl⟩, ⟨ok1, rfl⟩, ⟨ok2, rfl⟩, ⟨ok3, rfl⟩, ⟨ok4, rfl⟩, ⟨ok5, rfl⟩, ⟨ok6, rfl⟩, ⟨ok7, rfl⟩, ⟨ok8, rfl⟩, ⟨ok9, rfl⟩, ⟨ok10, rfl⟩, ⟨ok11, rfl⟩, ⟨ok12, rfl⟩, ⟨ok13, rfl⟩, ⟨ok14, rfl⟩, ⟨ok15, rfl⟩, ⟨ok16, rfl⟩, trivial⟩ h
    exact plain_law mo nogo (fun rho ok => @ConOk.none (enOf l rho ok) _ _ _) h2.1 hv h1.ind h2.2 rfl
end Go.Proofs.Ytchchjihincofaa.ViewToldP
