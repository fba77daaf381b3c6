/- GeoOnce: the walk: in each of 10 boxes of arguments all ways of the law's run end in 'true'; where the geometry is valid, for each number of words, her loop's first six rounds and the round from the seventh on lead on by one. -/
import Derived.Test.YtdhebhemkbeppaaLocY3
namespace Go.Proofs.Ytdhebhemkbeppaa.GeoOnceP
open Go Go.RowKit Loc
set_option linter.unusedVariables false
theorem mo : Try.prog.follows .mixedOrders = true := by kernel_rfl
theorem nogo : NoGo Try.prog := nogo_of (by kernel_rfl)
noncomputable def G0 : Know := ⟨fun _ => none, fun _ => false⟩
def witness : Array Value := #[.agg #[.int .i64 1, .int .i64 1, .int .i64 1, .int .i64 1, .int .i64 1]]
def shG : Sh := .agg [.int .i64, .int .i64, .int .i64, .int .i64, .int .i64]
theorem sh0 : shOf Try.prog 23 = some shG := by kernel_rfl
theorem boolT : Try.prog.underlying 4 = some .bool := by kernel_rfl
def shs : List Sh := [shG]
def box0 : List (Int × Int) := [(-9223372036854775808, 0), (-9223372036854775808, 9223372036854775807), (-9223372036854775808, 9223372036854775807), (-9223372036854775808, 9223372036854775807), (-9223372036854775808, 9223372036854775807)]
theorem ok0 : BoxOk Try.prog G0 3 8000 shs box0 := fun rho ok => by kernel_rfl
def box1 : List (Int × Int) := [(5, 9223372036854775807), (-9223372036854775808, 9223372036854775807), (-9223372036854775808, 9223372036854775807), (-9223372036854775808, 9223372036854775807), (-9223372036854775808, 9223372036854775807)]
theorem ok1 : BoxOk Try.prog G0 3 8000 shs box1 := fun rho ok => by kernel_rfl
def box2 : List (Int × Int) := [(1, 4), (-9223372036854775808, 0), (-9223372036854775808, 9223372036854775807), (-9223372036854775808, 9223372036854775807), (-9223372036854775808, 9223372036854775807)]
theorem ok2 : BoxOk Try.prog G0 3 8000 shs box2 := fun rho ok => by kernel_rfl
def box3 : List (Int × Int) := [(1, 4), (3, 9223372036854775807), (-9223372036854775808, 9223372036854775807), (-9223372036854775808, 9223372036854775807), (-9223372036854775808, 9223372036854775807)]
theorem ok3 : BoxOk Try.prog G0 3 8000 shs box3 := fun rho ok => by kernel_rfl
def box4 : List (Int × Int) := [(1, 4), (1, 2), (-9223372036854775808, 0), (-9223372036854775808, 9223372036854775807), (-9223372036854775808, 9223372036854775807)]
theorem ok4 : BoxOk Try.prog G0 3 8000 shs box4 := fun rho ok => by kernel_rfl
def box5 : List (Int × Int) := [(1, 4), (1, 2), (5, 9223372036854775807), (-9223372036854775808, 9223372036854775807), (-9223372036854775808, 9223372036854775807)]
theorem ok5 : BoxOk Try.prog G0 3 8000 shs box5 := fun rho ok => by kernel_rfl
def box6 : List (Int × Int) := [(1, 4), (1, 2), (1, 4), (-9223372036854775808, 0), (-9223372036854775808, 9223372036854775807)]
theorem ok6 : BoxOk Try.prog G0 3 8000 shs box6 := fun rho ok => by kernel_rfl
def box7 : List (Int × Int) := [(1, 4), (1, 2), (1, 4), (5, 9223372036854775807), (-9223372036854775808, 9223372036854775807)]
theorem ok7 : BoxOk Try.prog G0 3 8000 shs box7 := fun rho ok => by kernel_rfl
def box8 : List (Int × Int) := [(1, 4), (1, 2), (1, 4), (1, 4), (-9223372036854775808, 0)]
theorem ok8 : BoxOk Try.prog G0 3 8000 shs box8 := fun rho ok => by kernel_rfl
def box9 : List (Int × Int) := [(1, 4), (1, 2), (1, 4), (1, 4), (5, 9223372036854775807)]
theorem ok9 : BoxOk Try.prog G0 3 8000 shs box9 := fun rho ok => by kernel_rfl
def boxes : List (List (Int × Int)) := [box0, box1, box2, box3, box4, box5, box6, box7, box8, box9]
noncomputable def K : List Itm := stopK 1 Try.f3
noncomputable def body : Code := match Try.f3.body with
  | some b => b
  | none => .skip
theorem hbody : Try.f3.body = some body := by kernel_rfl
def D1 : List (Int × Int) := [(1, 4), (1, 2), (1, 1), (1, 4), (1, 4)]
noncomputable def T10 : Tm := { nt := 126, nx := 2, sl := [(1, .ptr 0 0 0 []), (3, .ptr 1 0 0 []), (4, .int .i64 0)], ob := [(0, [.sym .i64 (.v 0), .sym .i64 (.v 1), .int .i64 1, .sym .i64 (.v 3), .sym .i64 (.v 4)]), (1, [.int .i64 0, .int .i64 0, .int .i64 0, .int .i64 0, .int .i64 0, .int .i64 0])], src := [none, none, none, none, none], dom := [(1, 4), (1, 2), (1, 1), (1, 4), (1, 4)] }
noncomputable def T11 : Tm := { nt := 126, nx := 2, sl := [(1, .ptr 0 0 0 []), (3, .ptr 1 0 0 []), (4, .int .i64 1)], ob := [(0, [.sym .i64 (.v 0), .sym .i64 (.v 1), .int .i64 1, .sym .i64 (.v 3), .sym .i64 (.v 4)]), (1, [.int .i64 1, .int .i64 0, .int .i64 0, .int .i64 0, .int .i64 0, .int .i64 0])], src := [none, none, none, none, none], dom := [(1, 4), (1, 2), (1, 1), (1, 4), (1, 4)] }
noncomputable def T12 : Tm := { nt := 126, nx := 2, sl := [(1, .ptr 0 0 0 []), (3, .ptr 1 0 0 []), (4, .int .i64 2)], ob := [(0, [.sym .i64 (.v 0), .sym .i64 (.v 1), .int .i64 1, .sym .i64 (.v 3), .sym .i64 (.v 4)]), (1, [.int .i64 1, .int .i64 1, .int .i64 0, .int .i64 0, .int .i64 0, .int .i64 0])], src := [none, none, none, none, none], dom := [(1, 4), (1, 2), (1, 1), (1, 4), (1, 4)] }
noncomputable def T13 : Tm := { nt := 126, nx := 2, sl := [(1, .ptr 0 0 0 []), (3, .ptr 1 0 0 []), (4, .int .i64 3)], ob := [(0, [.sym .i64 (.v 0), .sym .i64 (.v 1), .int .i64 1, .sym .i64 (.v 3), .sym .i64 (.v 4)]), (1, [.int .i64 1, .int .i64 1, .int .i64 1, .int .i64 0, .int .i64 0, .int .i64 0])], src := [none, none, none, none, none], dom := [(1, 4), (1, 2), (1, 1), (1, 4), (1, 4)] }
noncomputable def T14 : Tm := { nt := 126, nx := 2, sl := [(1, .ptr 0 0 0 []), (3, .ptr 1 0 0 []), (4, .int .i64 4)], ob := [(0, [.sym .i64 (.v 0), .sym .i64 (.v 1), .int .i64 1, .sym .i64 (.v 3), .sym .i64 (.v 4)]), (1, [.int .i64 1, .int .i64 1, .int .i64 1, .int .i64 1, .int .i64 0, .int .i64 0])], src := [none, none, none, none, none], dom := [(1, 4), (1, 2), (1, 1), (1, 4), (1, 4)] }
noncomputable def T15 : Tm := { nt := 126, nx := 2, sl := [(1, .ptr 0 0 0 []), (3, .ptr 1 0 0 []), (4, .int .i64 5)], ob := [(0, [.sym .i64 (.v 0), .sym .i64 (.v 1), .int .i64 1, .sym .i64 (.v 3), .sym .i64 (.v 4)]), (1, [.int .i64 1, .int .i64 1, .int .i64 1, .int .i64 1, .int .i64 1, .int .i64 0])], src := [none, none, none, none, none], dom := [(1, 4), (1, 2), (1, 1), (1, 4), (1, 4)] }
noncomputable def T16 : Tm := { nt := 126, nx := 2, sl := [(1, .ptr 0 0 0 []), (3, .ptr 1 0 0 []), (4, .sym .i64 (.v 5))], ob := [(0, [.sym .i64 (.v 0), .sym .i64 (.v 1), .int .i64 1, .sym .i64 (.v 3), .sym .i64 (.v 4)]), (1, [.int .i64 1, .int .i64 1, .int .i64 1, .int .i64 1, .int .i64 1, .int .i64 1])], src := [none, none, none, none, none, some 4], dom := [(1, 4), (1, 2), (1, 1), (1, 4), (1, 4), (6, 255)], ctr := some 5 }
theorem round10 (rho : Nat → Int) (ok : ∀ i p, T10.dom[i]? = some p → p.1 ≤ rho i ∧ rho i ≤ p.2) : RoundOk Try.prog G0 8000 [1] Try.f3 T10 [T11, T12, T13, T14, T15, T16] K (enOf T10.dom rho ok) :=
  RoundOk.of (m := 1) noR (by kernel_rfl)
theorem round11 (rho : Nat → Int) (ok : ∀ i p, T11.dom[i]? = some p → p.1 ≤ rho i ∧ rho i ≤ p.2) : RoundOk Try.prog G0 8000 [1] Try.f3 T11 [T12, T13, T14, T15, T16] K (enOf T11.dom rho ok) :=
  RoundOk.of (m := 1) noR (by kernel_rfl)
theorem round12 (rho : Nat → Int) (ok : ∀ i p, T12.dom[i]? = some p → p.1 ≤ rho i ∧ rho i ≤ p.2) : RoundOk Try.prog G0 8000 [1] Try.f3 T12 [T13, T14, T15, T16] K (enOf T12.dom rho ok) :=
  RoundOk.of (m := 1) noR (by kernel_rfl)
theorem round13 (rho : Nat → Int) (ok : ∀ i p, T13.dom[i]? = some p → p.1 ≤ rho i ∧ rho i ≤ p.2) : RoundOk Try.prog G0 8000 [1] Try.f3 T13 [T14, T15, T16] K (enOf T13.dom rho ok) :=
  RoundOk.of (m := 1) noR (by kernel_rfl)
theorem round14 (rho : Nat → Int) (ok : ∀ i p, T14.dom[i]? = some p → p.1 ≤ rho i ∧ rho i ≤ p.2) : RoundOk Try.prog G0 8000 [1] Try.f3 T14 [T15, T16] K (enOf T14.dom rho ok) :=
  RoundOk.of (m := 1) noR (by kernel_rfl)
theorem round15 (rho : Nat → Int) (ok : ∀ i p, T15.dom[i]? = some p → p.1 ≤ rho i ∧ rho i ≤ p.2) : RoundOk Try.prog G0 8000 [1] Try.f3 T15 [T16] K (enOf T15.dom rho ok) :=
  RoundOk.of (m := 1) noR (by kernel_rfl)
theorem round16 (rho : Nat → Int) (ok : ∀ i p, T16.dom[i]? = some p → p.1 ≤ rho i ∧ rho i ≤ p.2) : RoundOk Try.prog G0 8000 [1] Try.f3 T16 [] K (enOf T16.dom rho ok) :=
  RoundOk.of (m := 1) noR (by kernel_rfl)
noncomputable def Ts1 : List Tm := [T10, T11, T12, T13, T14, T15, T16]
theorem rounds1 : Rounds Try.prog G0 8000 [1] Try.f3 K Ts1 := ⟨round10, round11, round12, round13, round14, round15, round16, trivial⟩
theorem start1 (rho : Nat → Int) (ok : ∀ i p, D1[i]? = some p → p.1 ≤ rho i ∧ rho i ≤ p.2) : StartOk Try.prog G0 8000 [1] Try.f3 body (symAs shs 0 D1) Ts1 K (enOf D1 rho ok) :=
  StartOk.of (m := 1) noR (by kernel_rfl)
def D2 : List (Int × Int) := [(1, 4), (1, 2), (2, 2), (1, 4), (1, 4)]
noncomputable def T20 : Tm := { nt := 126, nx := 2, sl := [(1, .ptr 0 0 0 []), (3, .ptr 1 0 0 []), (4, .int .i64 0)], ob := [(0, [.sym .i64 (.v 0), .sym .i64 (.v 1), .int .i64 2, .sym .i64 (.v 3), .sym .i64 (.v 4)]), (1, [.int .i64 0, .int .i64 0, .int .i64 0, .int .i64 0, .int .i64 0, .int .i64 0])], src := [none, none, none, none, none], dom := [(1, 4), (1, 2), (2, 2), (1, 4), (1, 4)] }
noncomputable def T21 : Tm := { nt := 126, nx := 2, sl := [(1, .ptr 0 0 0 []), (3, .ptr 1 0 0 []), (4, .int .i64 1)], ob := [(0, [.sym .i64 (.v 0), .sym .i64 (.v 1), .int .i64 2, .sym .i64 (.v 3), .sym .i64 (.v 4)]), (1, [.int .i64 1, .int .i64 1, .int .i64 0, .int .i64 0, .int .i64 0, .int .i64 0])], src := [none, none, none, none, none], dom := [(1, 4), (1, 2), (2, 2), (1, 4), (1, 4)] }
noncomputable def T22 : Tm := { nt := 126, nx := 2, sl := [(1, .ptr 0 0 0 []), (3, .ptr 1 0 0 []), (4, .int .i64 2)], ob := [(0, [.sym .i64 (.v 0), .sym .i64 (.v 1), .int .i64 2, .sym .i64 (.v 3), .sym .i64 (.v 4)]), (1, [.int .i64 1, .int .i64 1, .int .i64 1, .int .i64 1, .int .i64 0, .int .i64 0])], src := [none, none, none, none, none], dom := [(1, 4), (1, 2), (2, 2), (1, 4), (1, 4)] }
noncomputable def T23 : Tm := { nt := 126, nx := 2, sl := [(1, .ptr 0 0 0 []), (3, .ptr 1 0 0 []), (4, .int .i64 3)], ob := [(0, [.sym .i64 (.v 0), .sym .i64 (.v 1), .int .i64 2, .sym .i64 (.v 3), .sym .i64 (.v 4)]), (1, [.int .i64 1, .int .i64 1, .int .i64 1, .int .i64 1, .int .i64 1, .int .i64 1])], src := [none, none, none, none, none], dom := [(1, 4), (1, 2), (2, 2), (1, 4), (1, 4)] }
noncomputable def T24 : Tm := { nt := 126, nx := 2, sl := [(1, .ptr 0 0 0 []), (3, .ptr 1 0 0 []), (4, .int .i64 4)], ob := [(0, [.sym .i64 (.v 0), .sym .i64 (.v 1), .int .i64 2, .sym .i64 (.v 3), .sym .i64 (.v 4)]), (1, [.int .i64 1, .int .i64 1, .int .i64 1, .int .i64 1, .int .i64 1, .int .i64 1])], src := [none, none, none, none, none], dom := [(1, 4), (1, 2), (2, 2), (1, 4), (1, 4)] }
noncomputable def T25 : Tm := { nt := 126, nx := 2, sl := [(1, .ptr 0 0 0 []), (3, .ptr 1 0 0 []), (4, .int .i64 5)], ob := [(0, [.sym .i64 (.v 0), .sym .i64 (.v 1), .int .i64 2, .sym .i64 (.v 3), .sym .i64 (.v 4)]), (1, [.int .i64 1, .int .i64 1, .int .i64 1, .int .i64 1, .int .i64 1, .int .i64 1])], src := [none, none, none, none, none], dom := [(1, 4), (1, 2), (2, 2), (1, 4), (1, 4)] }
noncomputable def T26 : Tm := { nt := 126, nx := 2, sl := [(1, .ptr 0 0 0 []), (3, .ptr 1 0 0 []), (4, .sym .i64 (.v 5))], ob := [(0, [.sym .i64 (.v 0), .sym .i64 (.v 1), .int .i64 2, .sym .i64 (.v 3), .sym .i64 (.v 4)]), (1, [.int .i64 1, .int .i64 1, .int .i64 1, .int .i64 1, .int .i64 1, .int .i64 1])], src := [none, none, none, none, none, some 4], dom := [(1, 4), (1, 2), (2, 2), (1, 4), (1, 4), (6, 255)], ctr := some 5 }
theorem round20 (rho : Nat → Int) (ok : ∀ i p, T20.dom[i]? = some p → p.1 ≤ rho i ∧ rho i ≤ p.2) : RoundOk Try.prog G0 8000 [1] Try.f3 T20 [T21, T22, T23, T24, T25, T26] K (enOf T20.dom rho ok) :=
  RoundOk.of (m := 1) noR (by kernel_rfl)
theorem round21 (rho : Nat → Int) (ok : ∀ i p, T21.dom[i]? = some p → p.1 ≤ rho i ∧ rho i ≤ p.2) : RoundOk Try.prog G0 8000 [1] Try.f3 T21 [T22, T23, T24, T25, T26] K (enOf T21.dom rho ok) :=
  RoundOk.of (m := 1) noR (by kernel_rfl)
theorem round22 (rho : Nat → Int) (ok : ∀ i p, T22.dom[i]? = some p → p.1 ≤ rho i ∧ rho i ≤ p.2) : RoundOk Try.prog G0 8000 [1] Try.f3 T22 [T23, T24, T25, T26] K (enOf T22.dom rho ok) :=
  RoundOk.of (m := 1) noR (by kernel_rfl)
theorem round23 (rho : Nat → Int) (ok : ∀ i p, T23.dom[i]? = some p → p.1 ≤ rho i ∧ rho i ≤ p.2) : RoundOk Try.prog G0 8000 [1] Try.f3 T23 [T24, T25, T26] K (enOf T23.dom rho ok) :=
  RoundOk.of (m := 1) noR (by kernel_rfl)
theorem round24 (rho : Nat → Int) (ok : ∀ i p, T24.dom[i]? = some p → p.1 ≤ rho i ∧ rho i ≤ p.2) : RoundOk Try.prog G0 8000 [1] Try.f3 T24 [T25, T26] K (enOf T24.dom rho ok) :=
  RoundOk.of (m := 1) noR (by kernel_rfl)
theorem round25 (rho : Nat → Int) (ok : ∀ i p, T25.dom[i]? = some p → p.1 ≤ rho i ∧ rho i ≤ p.2) : RoundOk Try.prog G0 8000 [1] Try.f3 T25 [T26] K (enOf T25.dom rho ok) :=
  RoundOk.of (m := 1) noR (by kernel_rfl)
theorem round26 (rho : Nat → Int) (ok : ∀ i p, T26.dom[i]? = some p → p.1 ≤ rho i ∧ rho i ≤ p.2) : RoundOk Try.prog G0 8000 [1] Try.f3 T26 [] K (enOf T26.dom rho ok) :=
  RoundOk.of (m := 1) noR (by kernel_rfl)
noncomputable def Ts2 : List Tm := [T20, T21, T22, T23, T24, T25, T26]
theorem rounds2 : Rounds Try.prog G0 8000 [1] Try.f3 K Ts2 := ⟨round20, round21, round22, round23, round24, round25, round26, trivial⟩
theorem start2 (rho : Nat → Int) (ok : ∀ i p, D2[i]? = some p → p.1 ≤ rho i ∧ rho i ≤ p.2) : StartOk Try.prog G0 8000 [1] Try.f3 body (symAs shs 0 D2) Ts2 K (enOf D2 rho ok) :=
  StartOk.of (m := 1) noR (by kernel_rfl)
def D3 : List (Int × Int) := [(1, 4), (1, 2), (3, 3), (1, 4), (1, 4)]
noncomputable def T30 : Tm := { nt := 126, nx := 2, sl := [(1, .ptr 0 0 0 []), (3, .ptr 1 0 0 []), (4, .int .i64 0)], ob := [(0, [.sym .i64 (.v 0), .sym .i64 (.v 1), .int .i64 3, .sym .i64 (.v 3), .sym .i64 (.v 4)]), (1, [.int .i64 0, .int .i64 0, .int .i64 0, .int .i64 0, .int .i64 0, .int .i64 0])], src := [none, none, none, none, none], dom := [(1, 4), (1, 2), (3, 3), (1, 4), (1, 4)] }
noncomputable def T31 : Tm := { nt := 126, nx := 2, sl := [(1, .ptr 0 0 0 []), (3, .ptr 1 0 0 []), (4, .int .i64 1)], ob := [(0, [.sym .i64 (.v 0), .sym .i64 (.v 1), .int .i64 3, .sym .i64 (.v 3), .sym .i64 (.v 4)]), (1, [.int .i64 1, .int .i64 1, .int .i64 1, .int .i64 0, .int .i64 0, .int .i64 0])], src := [none, none, none, none, none], dom := [(1, 4), (1, 2), (3, 3), (1, 4), (1, 4)] }
noncomputable def T32 : Tm := { nt := 126, nx := 2, sl := [(1, .ptr 0 0 0 []), (3, .ptr 1 0 0 []), (4, .int .i64 2)], ob := [(0, [.sym .i64 (.v 0), .sym .i64 (.v 1), .int .i64 3, .sym .i64 (.v 3), .sym .i64 (.v 4)]), (1, [.int .i64 1, .int .i64 1, .int .i64 1, .int .i64 1, .int .i64 1, .int .i64 1])], src := [none, none, none, none, none], dom := [(1, 4), (1, 2), (3, 3), (1, 4), (1, 4)] }
noncomputable def T33 : Tm := { nt := 126, nx := 2, sl := [(1, .ptr 0 0 0 []), (3, .ptr 1 0 0 []), (4, .int .i64 3)], ob := [(0, [.sym .i64 (.v 0), .sym .i64 (.v 1), .int .i64 3, .sym .i64 (.v 3), .sym .i64 (.v 4)]), (1, [.int .i64 1, .int .i64 1, .int .i64 1, .int .i64 1, .int .i64 1, .int .i64 1])], src := [none, none, none, none, none], dom := [(1, 4), (1, 2), (3, 3), (1, 4), (1, 4)] }
noncomputable def T34 : Tm := { nt := 126, nx := 2, sl := [(1, .ptr 0 0 0 []), (3, .ptr 1 0 0 []), (4, .int .i64 4)], ob := [(0, [.sym .i64 (.v 0), .sym .i64 (.v 1), .int .i64 3, .sym .i64 (.v 3), .sym .i64 (.v 4)]), (1, [.int .i64 1, .int .i64 1, .int .i64 1, .int .i64 1, .int .i64 1, .int .i64 1])], src := [none, none, none, none, none], dom := [(1, 4), (1, 2), (3, 3), (1, 4), (1, 4)] }
noncomputable def T35 : Tm := { nt := 126, nx := 2, sl := [(1, .ptr 0 0 0 []), (3, .ptr 1 0 0 []), (4, .int .i64 5)], ob := [(0, [.sym .i64 (.v 0), .sym .i64 (.v 1), .int .i64 3, .sym .i64 (.v 3), .sym .i64 (.v 4)]), (1, [.int .i64 1, .int .i64 1, .int .i64 1, .int .i64 1, .int .i64 1, .int .i64 1])], src := [none, none, none, none, none], dom := [(1, 4), (1, 2), (3, 3), (1, 4), (1, 4)] }
noncomputable def T36 : Tm := { nt := 126, nx := 2, sl := [(1, .ptr 0 0 0 []), (3, .ptr 1 0 0 []), (4, .sym .i64 (.v 5))], ob := [(0, [.sym .i64 (.v 0), .sym .i64 (.v 1), .int .i64 3, .sym .i64 (.v 3), .sym .i64 (.v 4)]), (1, [.int .i64 1, .int .i64 1, .int .i64 1, .int .i64 1, .int .i64 1, .int .i64 1])], src := [none, none, none, none, none, some 4], dom := [(1, 4), (1, 2), (3, 3), (1, 4), (1, 4), (6, 255)], ctr := some 5 }
theorem round30 (rho : Nat → Int) (ok : ∀ i p, T30.dom[i]? = some p → p.1 ≤ rho i ∧ rho i ≤ p.2) : RoundOk Try.prog G0 8000 [1] Try.f3 T30 [T31, T32, T33, T34, T35, T36] K (enOf T30.dom rho ok) :=
  RoundOk.of (m := 1) noR (by kernel_rfl)
theorem round31 (rho : Nat → Int) (ok : ∀ i p, T31.dom[i]? = some p → p.1 ≤ rho i ∧ rho i ≤ p.2) : RoundOk Try.prog G0 8000 [1] Try.f3 T31 [T32, T33, T34, T35, T36] K (enOf T31.dom rho ok) :=
  RoundOk.of (m := 1) noR (by kernel_rfl)
theorem round32 (rho : Nat → Int) (ok : ∀ i p, T32.dom[i]? = some p → p.1 ≤ rho i ∧ rho i ≤ p.2) : RoundOk Try.prog G0 8000 [1] Try.f3 T32 [T33, T34, T35, T36] K (enOf T32.dom rho ok) :=
  RoundOk.of (m := 1) noR (by kernel_rfl)
theorem round33 (rho : Nat → Int) (ok : ∀ i p, T33.dom[i]? = some p → p.1 ≤ rho i ∧ rho i ≤ p.2) : RoundOk Try.prog G0 8000 [1] Try.f3 T33 [T34, T35, T36] K (enOf T33.dom rho ok) :=
  RoundOk.of (m := 1) noR (by kernel_rfl)
theorem round34 (rho : Nat → Int) (ok : ∀ i p, T34.dom[i]? = some p → p.1 ≤ rho i ∧ rho i ≤ p.2) : RoundOk Try.prog G0 8000 [1] Try.f3 T34 [T35, T36] K (enOf T34.dom rho ok) :=
  RoundOk.of (m := 1) noR (by kernel_rfl)
theorem round35 (rho : Nat → Int) (ok : ∀ i p, T35.dom[i]? = some p → p.1 ≤ rho i ∧ rho i ≤ p.2) : RoundOk Try.prog G0 8000 [1] Try.f3 T35 [T36] K (enOf T35.dom rho ok) :=
  RoundOk.of (m := 1) noR (by kernel_rfl)
theorem round36 (rho : Nat → Int) (ok : ∀ i p, T36.dom[i]? = some p → p.1 ≤ rho i ∧ rho i ≤ p.2) : RoundOk Try.prog G0 8000 [1] Try.f3 T36 [] K (enOf T36.dom rho ok) :=
  RoundOk.of (m := 1) noR (by kernel_rfl)
noncomputable def Ts3 : List Tm := [T30, T31, T32, T33, T34, T35, T36]
theorem rounds3 : Rounds Try.prog G0 8000 [1] Try.f3 K Ts3 := ⟨round30, round31, round32, round33, round34, round35, round36, trivial⟩
theorem start3 (rho : Nat → Int) (ok : ∀ i p, D3[i]? = some p → p.1 ≤ rho i ∧ rho i ≤ p.2) : StartOk Try.prog G0 8000 [1] Try.f3 body (symAs shs 0 D3) Ts3 K (enOf D3 rho ok) :=
  StartOk.of (m := 1) noR (by kernel_rfl)
def D4 : List (Int × Int) := [(1, 4), (1, 2), (4, 4), (1, 4), (1, 4)]
noncomputable def T40 : Tm := { nt := 126, nx := 2, sl := [(1, .ptr 0 0 0 []), (3, .ptr 1 0 0 []), (4, .int .i64 0)], ob := [(0, [.sym .i64 (.v 0), .sym .i64 (.v 1), .int .i64 4, .sym .i64 (.v 3), .sym .i64 (.v 4)]), (1, [.int .i64 0, .int .i64 0, .int .i64 0, .int .i64 0, .int .i64 0, .int .i64 0])], src := [none, none, none, none, none], dom := [(1, 4), (1, 2), (4, 4), (1, 4), (1, 4)] }
noncomputable def T41 : Tm := { nt := 126, nx := 2, sl := [(1, .ptr 0 0 0 []), (3, .ptr 1 0 0 []), (4, .int .i64 1)], ob := [(0, [.sym .i64 (.v 0), .sym .i64 (.v 1), .int .i64 4, .sym .i64 (.v 3), .sym .i64 (.v 4)]), (1, [.int .i64 1, .int .i64 1, .int .i64 1, .int .i64 1, .int .i64 0, .int .i64 0])], src := [none, none, none, none, none], dom := [(1, 4), (1, 2), (4, 4), (1, 4), (1, 4)] }
noncomputable def T42 : Tm := { nt := 126, nx := 2, sl := [(1, .ptr 0 0 0 []), (3, .ptr 1 0 0 []), (4, .int .i64 2)], ob := [(0, [.sym .i64 (.v 0), .sym .i64 (.v 1), .int .i64 4, .sym .i64 (.v 3), .sym .i64 (.v 4)]), (1, [.int .i64 1, .int .i64 1, .int .i64 1, .int .i64 1, .int .i64 1, .int .i64 1])], src := [none, none, none, none, none], dom := [(1, 4), (1, 2), (4, 4), (1, 4), (1, 4)] }
noncomputable def T43 : Tm := { nt := 126, nx := 2, sl := [(1, .ptr 0 0 0 []), (3, .ptr 1 0 0 []), (4, .int .i64 3)], ob := [(0, [.sym .i64 (.v 0), .sym .i64 (.v 1), .int .i64 4, .sym .i64 (.v 3), .sym .i64 (.v 4)]), (1, [.int .i64 1, .int .i64 1, .int .i64 1, .int .i64 1, .int .i64 1, .int .i64 1])], src := [none, none, none, none, none], dom := [(1, 4), (1, 2), (4, 4), (1, 4), (1, 4)] }
noncomputable def T44 : Tm := { nt := 126, nx := 2, sl := [(1, .ptr 0 0 0 []), (3, .ptr 1 0 0 []), (4, .int .i64 4)], ob := [(0, [.sym .i64 (.v 0), .sym .i64 (.v 1), .int .i64 4, .sym .i64 (.v 3), .sym .i64 (.v 4)]), (1, [.int .i64 1, .int .i64 1, .int .i64 1, .int .i64 1, .int .i64 1, .int .i64 1])], src := [none, none, none, none, none], dom := [(1, 4), (1, 2), (4, 4), (1, 4), (1, 4)] }
noncomputable def T45 : Tm := { nt := 126, nx := 2, sl := [(1, .ptr 0 0 0 []), (3, .ptr 1 0 0 []), (4, .int .i64 5)], ob := [(0, [.sym .i64 (.v 0), .sym .i64 (.v 1), .int .i64 4, .sym .i64 (.v 3), .sym .i64 (.v 4)]), (1, [.int .i64 1, .int .i64 1, .int .i64 1, .int .i64 1, .int .i64 1, .int .i64 1])], src := [none, none, none, none, none], dom := [(1, 4), (1, 2), (4, 4), (1, 4), (1, 4)] }
noncomputable def T46 : Tm := { nt := 126, nx := 2, sl := [(1, .ptr 0 0 0 []), (3, .ptr 1 0 0 []), (4, .sym .i64 (.v 5))], ob := [(0, [.sym .i64 (.v 0), .sym .i64 (.v 1), .int .i64 4, .sym .i64 (.v 3), .sym .i64 (.v 4)]), (1, [.int .i64 1, .int .i64 1, .int .i64 1, .int .i64 1, .int .i64 1, .int .i64 1])], src := [none, none, none, none, none, some 4], dom := [(1, 4), (1, 2), (4, 4), (1, 4), (1, 4), (6, 255)], ctr := some 5 }
theorem round40 (rho : Nat → Int) (ok : ∀ i p, T40.dom[i]? = some p → p.1 ≤ rho i ∧ rho i ≤ p.2) : RoundOk Try.prog G0 8000 [1] Try.f3 T40 [T41, T42, T43, T44, T45, T46] K (enOf T40.dom rho ok) :=
  RoundOk.of (m := 1) noR (by kernel_rfl)
theorem round41 (rho : Nat → Int) (ok : ∀ i p, T41.dom[i]? = some p → p.1 ≤ rho i ∧ rho i ≤ p.2) : RoundOk Try.prog G0 8000 [1] Try.f3 T41 [T42, T43, T44, T45, T46] K (enOf T41.dom rho ok) :=
  RoundOk.of (m := 1) noR (by kernel_rfl)
theorem round42 (rho : Nat → Int) (ok : ∀ i p, T42.dom[i]? = some p → p.1 ≤ rho i ∧ rho i ≤ p.2) : RoundOk Try.prog G0 8000 [1] Try.f3 T42 [T43, T44, T45, T46] K (enOf T42.dom rho ok) :=
  RoundOk.of (m := 1) noR (by kernel_rfl)
theorem round43 (rho : Nat → Int) (ok : ∀ i p, T43.dom[i]? = some p → p.1 ≤ rho i ∧ rho i ≤ p.2) : RoundOk Try.prog G0 8000 [1] Try.f3 T43 [T44, T45, T46] K (enOf T43.dom rho ok) :=
  RoundOk.of (m := 1) noR (by kernel_rfl)
theorem round44 (rho : Nat → Int) (ok : ∀ i p, T44.dom[i]? = some p → p.1 ≤ rho i ∧ rho i ≤ p.2) : RoundOk Try.prog G0 8000 [1] Try.f3 T44 [T45, T46] K (enOf T44.dom rho ok) :=
  RoundOk.of (m := 1) noR (by kernel_rfl)
theorem round45 (rho : Nat → Int) (ok : ∀ i p, T45.dom[i]? = some p → p.1 ≤ rho i ∧ rho i ≤ p.2) : RoundOk Try.prog G0 8000 [1] Try.f3 T45 [T46] K (enOf T45.dom rho ok) :=
  RoundOk.of (m := 1) noR (by kernel_rfl)
theorem round46 (rho : Nat → Int) (ok : ∀ i p, T46.dom[i]? = some p → p.1 ≤ rho i ∧ rho i ≤ p.2) : RoundOk Try.prog G0 8000 [1] Try.f3 T46 [] K (enOf T46.dom rho ok) :=
  RoundOk.of (m := 1) noR (by kernel_rfl)
noncomputable def Ts4 : List Tm := [T40, T41, T42, T43, T44, T45, T46]
theorem rounds4 : Rounds Try.prog G0 8000 [1] Try.f3 K Ts4 := ⟨round40, round41, round42, round43, round44, round45, round46, trivial⟩
theorem start4 (rho : Nat → Int) (ok : ∀ i p, D4[i]? = some p → p.1 ≤ rho i ∧ rho i ≤ p.2) : StartOk Try.prog G0 8000 [1] Try.f3 body (symAs shs 0 D4) Ts4 K (enOf D4 rho ok) :=
  StartOk.of (m := 1) noR (by kernel_rfl)
theorem covers (ns : List Int) (h : InD (fullD shs) ns) : (InB D1 ns ∨ InB D2 ns ∨ InB D3 ns ∨ InB D4 ns) ∨ Somes (fun l => InB l ns) boxes := by
  obtain ⟨a, _, rfl, a1, a2, b, _, rfl, b1, b2, c, _, rfl, c1, c2, d, _, rfl, d1, d2, e, _, rfl, e1, e2, rfl⟩ := h
  simp only [fullK, kLo, kHi] at a1 a2 b1 b2 c1 c2 d1 d2 e1 e2
  by_cases q0 : a ≤ 0
  · exact .inr (.inl (by simp only [InB, box0, and_true]; omega))
  by_cases q1 : 5 ≤ a
  · exact .inr (.inr (.inl (by simp only [InB, box1, and_true]; omega)))
  by_cases q2 : b ≤ 0
  · exact .inr (.inr (.inr (.inl (by simp only [InB, box2, and_true]; omega))))
  by_cases q3 : 3 ≤ b
  · exact .inr (.inr (.inr (.inr (.inl (by simp only [InB, box3, and_true]; omega)))))
  by_cases q4 : c ≤ 0
  · exact .inr (.inr (.inr (.inr (.inr (.inl (by simp only [InB, box4, and_true]; omega))))))
  by_cases q5 : 5 ≤ c
  · exact .inr (.inr (.inr (.inr (.inr (.inr (.inl (by simp only [InB, box5, and_true]; omega)))))))
  by_cases q6 : d ≤ 0
  · exact .inr (.inr (.inr (.inr (.inr (.inr (.inr (.inl (by simp only [InB, box6, and_true]; omega))))))))
  by_cases q7 : 5 ≤ d
  · exact .inr (.inr (.inr (.inr (.inr (.inr (.inr (.inr (.inl (by simp only [InB, box7, and_true]; omega)))))))))
  by_cases q8 : e ≤ 0
  · exact .inr (.inr (.inr (.inr (.inr (.inr (.inr (.inr (.inr (.inl (by simp only [InB, box8, and_true]; omega))))))))))
  by_cases q9 : 5 ≤ e
  · exact .inr (.inr (.inr (.inr (.inr (.inr (.inr (.inr (.inr (.inr (.inl (by simp only [InB, box9, and_true]; omega)))))))))))
  have hc : c = 1 ∨ c = 2 ∨ c = 3 ∨ c = 4 := by omega
  rcases hc with rfl | rfl | rfl | rfl
  · exact .inl (.inl (by simp only [InB, D1, and_true]; omega))
  · exact .inl (.inr (.inl (by simp only [InB, D2, and_true]; omega)))
  · exact .inl (.inr (.inr (.inl (by simp only [InB, D3, and_true]; omega))))
  · exact .inl (.inr (.inr (.inr (by simp only [InB, D4, and_true]; omega))))
theorem walk {vs : List Value} {ns : List Int} (hv : ShsOk shs vs ns) (w : World) : Calls Try.prog 3 vs.toArray w fun e w' => e = .returned (.bool true) ∧ Below w.heap.size w w' := by
  have hlen : vs.length ≤ Try.f3.ntmps := by
    obtain ⟨v, vs', n1, n2, rfl, _, _, rfl, _⟩ := hv
    exact Nat.le_of_ble_eq_true (by kernel_rfl)
  rcases covers ns hv.full with (h | h | h | h) | h
  · exact loop_law (k := K) mo nogo (fun E _ => ConOk.none' E) Try.func3 hbody rounds1 start1 hv h.ind hlen w
  · exact loop_law (k := K) mo nogo (fun E _ => ConOk.none' E) Try.func3 hbody rounds2 start2 hv h.ind hlen w
  · exact loop_law (k := K) mo nogo (fun E _ => ConOk.none' E) Try.func3 hbody rounds3 start3 hv h.ind hlen w
  · exact loop_law (k := K) mo nogo (fun E _ => ConOk.none' E) Try.func3 hbody rounds4 start4 hv h.ind hlen w
  · obtain ⟨l, h1, h2⟩ := Somes.get (l := boxes) (q := BoxOk Try.prog G0 3 8000 shs) ⟨ok0, ok1, ok2, ok3, ok4, ok5, ok6, ok7, ok8, ok9, trivial⟩ h
    exact plain_law mo nogo (fun rho ok => @ConOk.none (enOf l rho ok) _ _ _) h2 hv h1.ind w
end Go.Proofs.Ytdhebhemkbeppaa.GeoOnceP
