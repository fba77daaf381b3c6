/- GeoKeeps: the walk: in each of 10 boxes of arguments all ways of the law's run end in 'true'; where the geometry is valid, for each number of words and each place of the word, her loop's round leads on by one, and what is left open is arithmetic. -/
import Derived.Test.YtdhebhemkbeppaaLocY3
namespace Go.Proofs.Ytdhebhemkbeppaa.GeoKeepsP
open Go Go.RowKit Loc
set_option linter.unusedVariables false
theorem mo : Try.prog.follows .mixedOrders = true := by kernel_rfl
theorem nogo : NoGo Try.prog := nogo_of (by kernel_rfl)
noncomputable def G0 : Know := ⟨fun _ => none, fun _ => false⟩
def witness : Array Value := #[.agg #[.int .i64 1, .int .i64 1, .int .i64 1, .int .i64 1, .int .i64 1], .agg #[.int .u8 0, .int .u8 0, .int .u8 0, .int .u8 0], .int .u8 0, .int .u8 0]
def shG : Sh := .agg [.int .i64, .int .i64, .int .i64, .int .i64, .int .i64]
def shD : Sh := .agg [.int .u8, .int .u8, .int .u8, .int .u8]
theorem sh0 : shOf Try.prog 23 = some shG := by kernel_rfl
theorem sh1 : shOf Try.prog 32 = some shD := by kernel_rfl
theorem sh2 : shOf Try.prog 5 = some (.one (.int .u8)) := by kernel_rfl
theorem sh3 : shOf Try.prog 5 = some (.one (.int .u8)) := by kernel_rfl
theorem boolT : Try.prog.underlying 4 = some .bool := by kernel_rfl
def shs : List Sh := [shG, shD, .one (.int .u8), .one (.int .u8)]
def box0 : List (Int × Int) := [(-9223372036854775808, 0), (-9223372036854775808, 9223372036854775807), (-9223372036854775808, 9223372036854775807), (-9223372036854775808, 9223372036854775807), (-9223372036854775808, 9223372036854775807), (0, 255), (0, 255), (0, 255), (0, 255), (0, 255), (0, 255)]
theorem ok0 : BoxOk Try.prog G0 5 8000 shs box0 := fun rho ok => by kernel_rfl
def box1 : List (Int × Int) := [(5, 9223372036854775807), (-9223372036854775808, 9223372036854775807), (-9223372036854775808, 9223372036854775807), (-9223372036854775808, 9223372036854775807), (-9223372036854775808, 9223372036854775807), (0, 255), (0, 255), (0, 255), (0, 255), (0, 255), (0, 255)]
theorem ok1 : BoxOk Try.prog G0 5 8000 shs box1 := fun rho ok => by kernel_rfl
def box2 : List (Int × Int) := [(1, 4), (-9223372036854775808, 0), (-9223372036854775808, 9223372036854775807), (-9223372036854775808, 9223372036854775807), (-9223372036854775808, 9223372036854775807), (0, 255), (0, 255), (0, 255), (0, 255), (0, 255), (0, 255)]
theorem ok2 : BoxOk Try.prog G0 5 8000 shs box2 := fun rho ok => by kernel_rfl
def box3 : List (Int × Int) := [(1, 4), (3, 9223372036854775807), (-9223372036854775808, 9223372036854775807), (-9223372036854775808, 9223372036854775807), (-9223372036854775808, 9223372036854775807), (0, 255), (0, 255), (0, 255), (0, 255), (0, 255), (0, 255)]
theorem ok3 : BoxOk Try.prog G0 5 8000 shs box3 := fun rho ok => by kernel_rfl
def box4 : List (Int × Int) := [(1, 4), (1, 2), (-9223372036854775808, 0), (-9223372036854775808, 9223372036854775807), (-9223372036854775808, 9223372036854775807), (0, 255), (0, 255), (0, 255), (0, 255), (0, 255), (0, 255)]
theorem ok4 : BoxOk Try.prog G0 5 8000 shs box4 := fun rho ok => by kernel_rfl
def box5 : List (Int × Int) := [(1, 4), (1, 2), (5, 9223372036854775807), (-9223372036854775808, 9223372036854775807), (-9223372036854775808, 9223372036854775807), (0, 255), (0, 255), (0, 255), (0, 255), (0, 255), (0, 255)]
theorem ok5 : BoxOk Try.prog G0 5 8000 shs box5 := fun rho ok => by kernel_rfl
def box6 : List (Int × Int) := [(1, 4), (1, 2), (1, 4), (-9223372036854775808, 0), (-9223372036854775808, 9223372036854775807), (0, 255), (0, 255), (0, 255), (0, 255), (0, 255), (0, 255)]
theorem ok6 : BoxOk Try.prog G0 5 8000 shs box6 := fun rho ok => by kernel_rfl
def box7 : List (Int × Int) := [(1, 4), (1, 2), (1, 4), (5, 9223372036854775807), (-9223372036854775808, 9223372036854775807), (0, 255), (0, 255), (0, 255), (0, 255), (0, 255), (0, 255)]
theorem ok7 : BoxOk Try.prog G0 5 8000 shs box7 := fun rho ok => by kernel_rfl
def box8 : List (Int × Int) := [(1, 4), (1, 2), (1, 4), (1, 4), (-9223372036854775808, 0), (0, 255), (0, 255), (0, 255), (0, 255), (0, 255), (0, 255)]
theorem ok8 : BoxOk Try.prog G0 5 8000 shs box8 := fun rho ok => by kernel_rfl
def box9 : List (Int × Int) := [(1, 4), (1, 2), (1, 4), (1, 4), (5, 9223372036854775807), (0, 255), (0, 255), (0, 255), (0, 255), (0, 255), (0, 255)]
theorem ok9 : BoxOk Try.prog G0 5 8000 shs box9 := fun rho ok => by kernel_rfl
def boxes : List (List (Int × Int)) := [box0, box1, box2, box3, box4, box5, box6, box7, box8, box9]
noncomputable def xc (i j : Nat) : LV := cond (Nat.beq i j) (.sym .u8 (.v 10)) (.sym .u8 (.v (5 + j)))
noncomputable def K : List Itm := stopK 1 Try.f5
noncomputable def body : Code := match Try.f5.body with
  | some b => b
  | none => .skip
theorem hbody : Try.f5.body = some body := by kernel_rfl
abbrev loc : SE := .v 9
abbrev v : SE := .v 10
abbrev n : SE := .v 11
abbrev remE (a : SE) (W : Int) : SE := .bin .rem .u8 a (.c W)
abbrev quoE (a : SE) (W : Int) : SE := .bin .quo .u8 a (.c W)
theorem w8 (m : Int) (h1 : 0 ≤ m) (h2 : m ≤ 255) : IntKind.u8.wrap m = m := by
  simp only [IntKind.wrap, IntKind.bits, IntKind.signed]
  simp
  omega
def D1 : List (Int × Int) := [(1, 4), (1, 2), (1, 1), (1, 4), (1, 4), (0, 255), (0, 255), (0, 255), (0, 255), (0, 255), (0, 255)]
def DT1 : List (Int × Int) := [(1, 4), (1, 2), (1, 1), (1, 4), (1, 4), (0, 255), (0, 255), (0, 255), (0, 255), (0, 255), (0, 255), (0, 255)]
noncomputable def T10 : Tm := { nt := 85, nx := 3, sl := [(2, .sym .u8 (.v 9)), (3, .sym .u8 (.v 10)), (4, .ptr 0 0 0 []), (5, .ptr 1 0 0 []), (10, .ptr 2 0 0 []), (11, .sym .i64 (.v 11))], ob := [(0, [.sym .i64 (.v 0), .sym .i64 (.v 1), .int .i64 1, .sym .i64 (.v 3), .sym .i64 (.v 4)]), (1, [.sym .u8 (.v 5), .sym .u8 (.v 6), .sym .u8 (.v 7), .sym .u8 (.v 8)]), (2, [xc 0 0, xc 0 1, xc 0 2, xc 0 3])], src := [none, none, none, none, none, none, none, none, none, none, none, some 11], dom := DT1, fa := [.eq (remE loc 1) (.c 0)] }
def R10 : List (String × List (SB × Bool)) := [("false", [(.eq v (.v 5), false), (.eq n loc, false), (.eq (quoE n 1) (quoE loc 1), true), (.eq (remE loc 1) (.c 0), true)])]
theorem hR10 (rho : Nat → Int) (ok : ∀ i p, DT1[i]? = some p → p.1 ≤ rho i ∧ rho i ≤ p.2) : ∀ p ∈ R10, ¬ @FactsOk (enOf DT1 rho ok) p.2 := by
  intro p hp hF
  have k9 : 0 ≤ rho 9 ∧ rho 9 ≤ 255 := ok 9 _ rfl
  have k11 : 0 ≤ rho 11 ∧ rho 11 ≤ 255 := ok 11 _ rfl
  rw [R10, List.mem_singleton] at hp
  subst hp
  have t9 : (rho 9).tmod 1 = rho 9 % 1 := Int.tmod_eq_emod_of_nonneg k9.1
  have t11 : (rho 11).tmod 1 = rho 11 % 1 := Int.tmod_eq_emod_of_nonneg k11.1
  have d9 : (rho 9).tdiv 1 = rho 9 / 1 := Int.tdiv_eq_ediv_of_nonneg k9.1
  have d11 : (rho 11).tdiv 1 = rho 11 / 1 := Int.tdiv_eq_ediv_of_nonneg k11.1
  have g1 : (rho 11 == rho 9) = false := hF _ (List.mem_of_getElem? (i := 1) rfl)
  have g2 : (IntKind.u8.wrap ((rho 11).tdiv 1) == IntKind.u8.wrap ((rho 9).tdiv 1)) = true := hF _ (List.mem_of_getElem? (i := 2) rfl)
  have g3 : ((rho 9).tmod 1 == 0) = true := hF _ (List.mem_of_getElem? (i := 3) rfl)
  rw [d9, d11, w8 _ (by omega) (by omega), w8 _ (by omega) (by omega)] at g2
  rw [t9] at g3
  simp only [beq_iff_eq, beq_eq_false_iff_ne] at g1 g2 g3
  omega
theorem round10 (rho : Nat → Int) (ok : ∀ i p, T10.dom[i]? = some p → p.1 ≤ rho i ∧ rho i ≤ p.2) : RoundOk Try.prog G0 8000 [1] Try.f5 T10 11 K (enOf T10.dom rho ok) :=
  RoundOk.of (R := R10) (m := 3) (hR10 rho ok) (by kernel_rfl)
noncomputable def Ts1 : List Tm := [T10]
theorem start1 (rho : Nat → Int) (ok : ∀ i p, D1[i]? = some p → p.1 ≤ rho i ∧ rho i ≤ p.2) : StartOk Try.prog G0 8000 [1] Try.f5 body (symAs shs 0 D1) Ts1 K (enOf D1 rho ok) :=
  StartOk.of (m := 1) noR (by kernel_rfl)
theorem rounds1 : ∀ T ∈ Ts1, (∀ rho ok, RoundOk Try.prog G0 8000 [1] Try.f5 T 11 K (enOf T.dom rho ok)) ∧ T.dom[11]? = some (0, 255) := by
  intro T hT
  simp only [Ts1, List.mem_cons, List.not_mem_nil, or_false] at hT
  subst hT
  · exact ⟨fun rho ok => round10 rho ok, rfl⟩
def D2 : List (Int × Int) := [(1, 4), (1, 2), (2, 2), (1, 4), (1, 4), (0, 255), (0, 255), (0, 255), (0, 255), (0, 255), (0, 255)]
def DT2 : List (Int × Int) := [(1, 4), (1, 2), (2, 2), (1, 4), (1, 4), (0, 255), (0, 255), (0, 255), (0, 255), (0, 255), (0, 255), (0, 255)]
noncomputable def T20 : Tm := { nt := 85, nx := 3, sl := [(2, .sym .u8 (.v 9)), (3, .sym .u8 (.v 10)), (4, .ptr 0 0 0 []), (5, .ptr 1 0 0 []), (10, .ptr 2 0 0 []), (11, .sym .i64 (.v 11))], ob := [(0, [.sym .i64 (.v 0), .sym .i64 (.v 1), .int .i64 2, .sym .i64 (.v 3), .sym .i64 (.v 4)]), (1, [.sym .u8 (.v 5), .sym .u8 (.v 6), .sym .u8 (.v 7), .sym .u8 (.v 8)]), (2, [xc 0 0, xc 0 1, xc 0 2, xc 0 3])], src := [none, none, none, none, none, none, none, none, none, none, none, some 11], dom := DT2, fa := [.eq (remE loc 2) (.c 0)] }
def R20 : List (String × List (SB × Bool)) := [("false", [(.eq v (.v 5), false), (.eq (remE n 2) (.c 0), true), (.eq n loc, false), (.eq (quoE n 2) (quoE loc 2), true), (.eq (remE loc 2) (.c 0), true)])]
theorem hR20 (rho : Nat → Int) (ok : ∀ i p, DT2[i]? = some p → p.1 ≤ rho i ∧ rho i ≤ p.2) : ∀ p ∈ R20, ¬ @FactsOk (enOf DT2 rho ok) p.2 := by
  intro p hp hF
  have k9 : 0 ≤ rho 9 ∧ rho 9 ≤ 255 := ok 9 _ rfl
  have k11 : 0 ≤ rho 11 ∧ rho 11 ≤ 255 := ok 11 _ rfl
  rw [R20, List.mem_singleton] at hp
  subst hp
  have t9 : (rho 9).tmod 2 = rho 9 % 2 := Int.tmod_eq_emod_of_nonneg k9.1
  have t11 : (rho 11).tmod 2 = rho 11 % 2 := Int.tmod_eq_emod_of_nonneg k11.1
  have d9 : (rho 9).tdiv 2 = rho 9 / 2 := Int.tdiv_eq_ediv_of_nonneg k9.1
  have d11 : (rho 11).tdiv 2 = rho 11 / 2 := Int.tdiv_eq_ediv_of_nonneg k11.1
  have g1 : ((rho 11).tmod 2 == 0) = true := hF _ (List.mem_of_getElem? (i := 1) rfl)
  have g2 : (rho 11 == rho 9) = false := hF _ (List.mem_of_getElem? (i := 2) rfl)
  have g3 : (IntKind.u8.wrap ((rho 11).tdiv 2) == IntKind.u8.wrap ((rho 9).tdiv 2)) = true := hF _ (List.mem_of_getElem? (i := 3) rfl)
  have g4 : ((rho 9).tmod 2 == 0) = true := hF _ (List.mem_of_getElem? (i := 4) rfl)
  rw [d9, d11, w8 _ (by omega) (by omega), w8 _ (by omega) (by omega)] at g3
  rw [t11] at g1
  rw [t9] at g4
  simp only [beq_iff_eq, beq_eq_false_iff_ne] at g1 g2 g3 g4
  omega
theorem round20 (rho : Nat → Int) (ok : ∀ i p, T20.dom[i]? = some p → p.1 ≤ rho i ∧ rho i ≤ p.2) : RoundOk Try.prog G0 8000 [1] Try.f5 T20 11 K (enOf T20.dom rho ok) :=
  RoundOk.of (R := R20) (m := 4) (hR20 rho ok) (by kernel_rfl)
noncomputable def T21 : Tm := { nt := 85, nx := 3, sl := [(2, .sym .u8 (.v 9)), (3, .sym .u8 (.v 10)), (4, .ptr 0 0 0 []), (5, .ptr 1 0 0 []), (10, .ptr 2 0 0 []), (11, .sym .i64 (.v 11))], ob := [(0, [.sym .i64 (.v 0), .sym .i64 (.v 1), .int .i64 2, .sym .i64 (.v 3), .sym .i64 (.v 4)]), (1, [.sym .u8 (.v 5), .sym .u8 (.v 6), .sym .u8 (.v 7), .sym .u8 (.v 8)]), (2, [xc 1 0, xc 1 1, xc 1 2, xc 1 3])], src := [none, none, none, none, none, none, none, none, none, none, none, some 11], dom := DT2, fa := [.eq (remE loc 2) (.c 1)] }
def R21 : List (String × List (SB × Bool)) := [("false", [(.eq v (.v 6), false), (.eq (remE n 2) (.c 0), false), (.eq n loc, false), (.eq (quoE n 2) (quoE loc 2), true), (.eq (remE loc 2) (.c 1), true)])]
theorem hR21 (rho : Nat → Int) (ok : ∀ i p, DT2[i]? = some p → p.1 ≤ rho i ∧ rho i ≤ p.2) : ∀ p ∈ R21, ¬ @FactsOk (enOf DT2 rho ok) p.2 := by
  intro p hp hF
  have k9 : 0 ≤ rho 9 ∧ rho 9 ≤ 255 := ok 9 _ rfl
  have k11 : 0 ≤ rho 11 ∧ rho 11 ≤ 255 := ok 11 _ rfl
  rw [R21, List.mem_singleton] at hp
  subst hp
  have t9 : (rho 9).tmod 2 = rho 9 % 2 := Int.tmod_eq_emod_of_nonneg k9.1
  have t11 : (rho 11).tmod 2 = rho 11 % 2 := Int.tmod_eq_emod_of_nonneg k11.1
  have d9 : (rho 9).tdiv 2 = rho 9 / 2 := Int.tdiv_eq_ediv_of_nonneg k9.1
  have d11 : (rho 11).tdiv 2 = rho 11 / 2 := Int.tdiv_eq_ediv_of_nonneg k11.1
  have g1 : ((rho 11).tmod 2 == 0) = false := hF _ (List.mem_of_getElem? (i := 1) rfl)
  have g2 : (rho 11 == rho 9) = false := hF _ (List.mem_of_getElem? (i := 2) rfl)
  have g3 : (IntKind.u8.wrap ((rho 11).tdiv 2) == IntKind.u8.wrap ((rho 9).tdiv 2)) = true := hF _ (List.mem_of_getElem? (i := 3) rfl)
  have g4 : ((rho 9).tmod 2 == 1) = true := hF _ (List.mem_of_getElem? (i := 4) rfl)
  rw [d9, d11, w8 _ (by omega) (by omega), w8 _ (by omega) (by omega)] at g3
  rw [t11] at g1
  rw [t9] at g4
  simp only [beq_iff_eq, beq_eq_false_iff_ne] at g1 g2 g3 g4
  omega
theorem round21 (rho : Nat → Int) (ok : ∀ i p, T21.dom[i]? = some p → p.1 ≤ rho i ∧ rho i ≤ p.2) : RoundOk Try.prog G0 8000 [1] Try.f5 T21 11 K (enOf T21.dom rho ok) :=
  RoundOk.of (R := R21) (m := 4) (hR21 rho ok) (by kernel_rfl)
noncomputable def Ts2 : List Tm := [T20, T21]
theorem start2 (rho : Nat → Int) (ok : ∀ i p, D2[i]? = some p → p.1 ≤ rho i ∧ rho i ≤ p.2) : StartOk Try.prog G0 8000 [1] Try.f5 body (symAs shs 0 D2) Ts2 K (enOf D2 rho ok) :=
  StartOk.of (m := 2) noR (by kernel_rfl)
theorem rounds2 : ∀ T ∈ Ts2, (∀ rho ok, RoundOk Try.prog G0 8000 [1] Try.f5 T 11 K (enOf T.dom rho ok)) ∧ T.dom[11]? = some (0, 255) := by
  intro T hT
  simp only [Ts2, List.mem_cons, List.not_mem_nil, or_false] at hT
  rcases hT with rfl | rfl
  · exact ⟨fun rho ok => round20 rho ok, rfl⟩
  · exact ⟨fun rho ok => round21 rho ok, rfl⟩
def D3 : List (Int × Int) := [(1, 4), (1, 2), (3, 3), (1, 4), (1, 4), (0, 255), (0, 255), (0, 255), (0, 255), (0, 255), (0, 255)]
def DT3 : List (Int × Int) := [(1, 4), (1, 2), (3, 3), (1, 4), (1, 4), (0, 255), (0, 255), (0, 255), (0, 255), (0, 255), (0, 255), (0, 255)]
noncomputable def T30 : Tm := { nt := 85, nx := 3, sl := [(2, .sym .u8 (.v 9)), (3, .sym .u8 (.v 10)), (4, .ptr 0 0 0 []), (5, .ptr 1 0 0 []), (10, .ptr 2 0 0 []), (11, .sym .i64 (.v 11))], ob := [(0, [.sym .i64 (.v 0), .sym .i64 (.v 1), .int .i64 3, .sym .i64 (.v 3), .sym .i64 (.v 4)]), (1, [.sym .u8 (.v 5), .sym .u8 (.v 6), .sym .u8 (.v 7), .sym .u8 (.v 8)]), (2, [xc 0 0, xc 0 1, xc 0 2, xc 0 3])], src := [none, none, none, none, none, none, none, none, none, none, none, some 11], dom := DT3, fa := [.eq (remE loc 3) (.c 0)] }
def R30 : List (String × List (SB × Bool)) := [("false", [(.eq v (.v 5), false), (.eq (remE n 3) (.c 0), true), (.eq n loc, false), (.eq (quoE n 3) (quoE loc 3), true), (.eq (remE loc 3) (.c 0), true)])]
theorem hR30 (rho : Nat → Int) (ok : ∀ i p, DT3[i]? = some p → p.1 ≤ rho i ∧ rho i ≤ p.2) : ∀ p ∈ R30, ¬ @FactsOk (enOf DT3 rho ok) p.2 := by
  intro p hp hF
  have k9 : 0 ≤ rho 9 ∧ rho 9 ≤ 255 := ok 9 _ rfl
  have k11 : 0 ≤ rho 11 ∧ rho 11 ≤ 255 := ok 11 _ rfl
  rw [R30, List.mem_singleton] at hp
  subst hp
  have t9 : (rho 9).tmod 3 = rho 9 % 3 := Int.tmod_eq_emod_of_nonneg k9.1
  have t11 : (rho 11).tmod 3 = rho 11 % 3 := Int.tmod_eq_emod_of_nonneg k11.1
  have d9 : (rho 9).tdiv 3 = rho 9 / 3 := Int.tdiv_eq_ediv_of_nonneg k9.1
  have d11 : (rho 11).tdiv 3 = rho 11 / 3 := Int.tdiv_eq_ediv_of_nonneg k11.1
  have g1 : ((rho 11).tmod 3 == 0) = true := hF _ (List.mem_of_getElem? (i := 1) rfl)
  have g2 : (rho 11 == rho 9) = false := hF _ (List.mem_of_getElem? (i := 2) rfl)
  have g3 : (IntKind.u8.wrap ((rho 11).tdiv 3) == IntKind.u8.wrap ((rho 9).tdiv 3)) = true := hF _ (List.mem_of_getElem? (i := 3) rfl)
  have g4 : ((rho 9).tmod 3 == 0) = true := hF _ (List.mem_of_getElem? (i := 4) rfl)
  rw [d9, d11, w8 _ (by omega) (by omega), w8 _ (by omega) (by omega)] at g3
  rw [t11] at g1
  rw [t9] at g4
  simp only [beq_iff_eq, beq_eq_false_iff_ne] at g1 g2 g3 g4
  omega
theorem round30 (rho : Nat → Int) (ok : ∀ i p, T30.dom[i]? = some p → p.1 ≤ rho i ∧ rho i ≤ p.2) : RoundOk Try.prog G0 8000 [1] Try.f5 T30 11 K (enOf T30.dom rho ok) :=
  RoundOk.of (R := R30) (m := 5) (hR30 rho ok) (by kernel_rfl)
noncomputable def T31 : Tm := { nt := 85, nx := 3, sl := [(2, .sym .u8 (.v 9)), (3, .sym .u8 (.v 10)), (4, .ptr 0 0 0 []), (5, .ptr 1 0 0 []), (10, .ptr 2 0 0 []), (11, .sym .i64 (.v 11))], ob := [(0, [.sym .i64 (.v 0), .sym .i64 (.v 1), .int .i64 3, .sym .i64 (.v 3), .sym .i64 (.v 4)]), (1, [.sym .u8 (.v 5), .sym .u8 (.v 6), .sym .u8 (.v 7), .sym .u8 (.v 8)]), (2, [xc 1 0, xc 1 1, xc 1 2, xc 1 3])], src := [none, none, none, none, none, none, none, none, none, none, none, some 11], dom := DT3, fa := [.eq (remE loc 3) (.c 1)] }
def R31 : List (String × List (SB × Bool)) := [("false", [(.eq v (.v 6), false), (.eq (remE n 3) (.c 1), true), (.eq (remE n 3) (.c 0), false), (.eq n loc, false), (.eq (quoE n 3) (quoE loc 3), true), (.eq (remE loc 3) (.c 1), true)])]
theorem hR31 (rho : Nat → Int) (ok : ∀ i p, DT3[i]? = some p → p.1 ≤ rho i ∧ rho i ≤ p.2) : ∀ p ∈ R31, ¬ @FactsOk (enOf DT3 rho ok) p.2 := by
  intro p hp hF
  have k9 : 0 ≤ rho 9 ∧ rho 9 ≤ 255 := ok 9 _ rfl
  have k11 : 0 ≤ rho 11 ∧ rho 11 ≤ 255 := ok 11 _ rfl
  rw [R31, List.mem_singleton] at hp
  subst hp
  have t9 : (rho 9).tmod 3 = rho 9 % 3 := Int.tmod_eq_emod_of_nonneg k9.1
  have t11 : (rho 11).tmod 3 = rho 11 % 3 := Int.tmod_eq_emod_of_nonneg k11.1
  have d9 : (rho 9).tdiv 3 = rho 9 / 3 := Int.tdiv_eq_ediv_of_nonneg k9.1
  have d11 : (rho 11).tdiv 3 = rho 11 / 3 := Int.tdiv_eq_ediv_of_nonneg k11.1
  have g1 : ((rho 11).tmod 3 == 1) = true := hF _ (List.mem_of_getElem? (i := 1) rfl)
  have g2 : ((rho 11).tmod 3 == 0) = false := hF _ (List.mem_of_getElem? (i := 2) rfl)
  have g3 : (rho 11 == rho 9) = false := hF _ (List.mem_of_getElem? (i := 3) rfl)
  have g4 : (IntKind.u8.wrap ((rho 11).tdiv 3) == IntKind.u8.wrap ((rho 9).tdiv 3)) = true := hF _ (List.mem_of_getElem? (i := 4) rfl)
  have g5 : ((rho 9).tmod 3 == 1) = true := hF _ (List.mem_of_getElem? (i := 5) rfl)
  rw [d9, d11, w8 _ (by omega) (by omega), w8 _ (by omega) (by omega)] at g4
  rw [t11] at g1
  rw [t11] at g2
  rw [t9] at g5
  simp only [beq_iff_eq, beq_eq_false_iff_ne] at g1 g2 g3 g4 g5
  omega
theorem round31 (rho : Nat → Int) (ok : ∀ i p, T31.dom[i]? = some p → p.1 ≤ rho i ∧ rho i ≤ p.2) : RoundOk Try.prog G0 8000 [1] Try.f5 T31 11 K (enOf T31.dom rho ok) :=
  RoundOk.of (R := R31) (m := 5) (hR31 rho ok) (by kernel_rfl)
noncomputable def T32 : Tm := { nt := 85, nx := 3, sl := [(2, .sym .u8 (.v 9)), (3, .sym .u8 (.v 10)), (4, .ptr 0 0 0 []), (5, .ptr 1 0 0 []), (10, .ptr 2 0 0 []), (11, .sym .i64 (.v 11))], ob := [(0, [.sym .i64 (.v 0), .sym .i64 (.v 1), .int .i64 3, .sym .i64 (.v 3), .sym .i64 (.v 4)]), (1, [.sym .u8 (.v 5), .sym .u8 (.v 6), .sym .u8 (.v 7), .sym .u8 (.v 8)]), (2, [xc 2 0, xc 2 1, xc 2 2, xc 2 3])], src := [none, none, none, none, none, none, none, none, none, none, none, some 11], dom := DT3, fa := [.eq (remE loc 3) (.c 2)] }
def R32 : List (String × List (SB × Bool)) := [("false", [(.eq v (.v 7), false), (.eq (remE n 3) (.c 1), false), (.eq (remE n 3) (.c 0), false), (.eq n loc, false), (.eq (quoE n 3) (quoE loc 3), true), (.eq (remE loc 3) (.c 2), true)])]
theorem hR32 (rho : Nat → Int) (ok : ∀ i p, DT3[i]? = some p → p.1 ≤ rho i ∧ rho i ≤ p.2) : ∀ p ∈ R32, ¬ @FactsOk (enOf DT3 rho ok) p.2 := by
  intro p hp hF
  have k9 : 0 ≤ rho 9 ∧ rho 9 ≤ 255 := ok 9 _ rfl
  have k11 : 0 ≤ rho 11 ∧ rho 11 ≤ 255 := ok 11 _ rfl
  rw [R32, List.mem_singleton] at hp
  subst hp
  have t9 : (rho 9).tmod 3 = rho 9 % 3 := Int.tmod_eq_emod_of_nonneg k9.1
  have t11 : (rho 11).tmod 3 = rho 11 % 3 := Int.tmod_eq_emod_of_nonneg k11.1
  have d9 : (rho 9).tdiv 3 = rho 9 / 3 := Int.tdiv_eq_ediv_of_nonneg k9.1
  have d11 : (rho 11).tdiv 3 = rho 11 / 3 := Int.tdiv_eq_ediv_of_nonneg k11.1
  have g1 : ((rho 11).tmod 3 == 1) = false := hF _ (List.mem_of_getElem? (i := 1) rfl)
  have g2 : ((rho 11).tmod 3 == 0) = false := hF _ (List.mem_of_getElem? (i := 2) rfl)
  have g3 : (rho 11 == rho 9) = false := hF _ (List.mem_of_getElem? (i := 3) rfl)
  have g4 : (IntKind.u8.wrap ((rho 11).tdiv 3) == IntKind.u8.wrap ((rho 9).tdiv 3)) = true := hF _ (List.mem_of_getElem? (i := 4) rfl)
  have g5 : ((rho 9).tmod 3 == 2) = true := hF _ (List.mem_of_getElem? (i := 5) rfl)
  rw [d9, d11, w8 _ (by omega) (by omega), w8 _ (by omega) (by omega)] at g4
  rw [t11] at g1
  rw [t11] at g2
  rw [t9] at g5
  simp only [beq_iff_eq, beq_eq_false_iff_ne] at g1 g2 g3 g4 g5
  omega
theorem round32 (rho : Nat → Int) (ok : ∀ i p, T32.dom[i]? = some p → p.1 ≤ rho i ∧ rho i ≤ p.2) : RoundOk Try.prog G0 8000 [1] Try.f5 T32 11 K (enOf T32.dom rho ok) :=
  RoundOk.of (R := R32) (m := 5) (hR32 rho ok) (by kernel_rfl)
noncomputable def Ts3 : List Tm := [T30, T31, T32]
theorem start3 (rho : Nat → Int) (ok : ∀ i p, D3[i]? = some p → p.1 ≤ rho i ∧ rho i ≤ p.2) : StartOk Try.prog G0 8000 [1] Try.f5 body (symAs shs 0 D3) Ts3 K (enOf D3 rho ok) :=
  StartOk.of (m := 3) noR (by kernel_rfl)
theorem rounds3 : ∀ T ∈ Ts3, (∀ rho ok, RoundOk Try.prog G0 8000 [1] Try.f5 T 11 K (enOf T.dom rho ok)) ∧ T.dom[11]? = some (0, 255) := by
  intro T hT
  simp only [Ts3, List.mem_cons, List.not_mem_nil, or_false] at hT
  rcases hT with rfl | rfl | rfl
  · exact ⟨fun rho ok => round30 rho ok, rfl⟩
  · exact ⟨fun rho ok => round31 rho ok, rfl⟩
  · exact ⟨fun rho ok => round32 rho ok, rfl⟩
def D4 : List (Int × Int) := [(1, 4), (1, 2), (4, 4), (1, 4), (1, 4), (0, 255), (0, 255), (0, 255), (0, 255), (0, 255), (0, 255)]
def DT4 : List (Int × Int) := [(1, 4), (1, 2), (4, 4), (1, 4), (1, 4), (0, 255), (0, 255), (0, 255), (0, 255), (0, 255), (0, 255), (0, 255)]
noncomputable def T40 : Tm := { nt := 85, nx := 3, sl := [(2, .sym .u8 (.v 9)), (3, .sym .u8 (.v 10)), (4, .ptr 0 0 0 []), (5, .ptr 1 0 0 []), (10, .ptr 2 0 0 []), (11, .sym .i64 (.v 11))], ob := [(0, [.sym .i64 (.v 0), .sym .i64 (.v 1), .int .i64 4, .sym .i64 (.v 3), .sym .i64 (.v 4)]), (1, [.sym .u8 (.v 5), .sym .u8 (.v 6), .sym .u8 (.v 7), .sym .u8 (.v 8)]), (2, [xc 0 0, xc 0 1, xc 0 2, xc 0 3])], src := [none, none, none, none, none, none, none, none, none, none, none, some 11], dom := DT4, fa := [.eq (remE loc 4) (.c 0)] }
def R40 : List (String × List (SB × Bool)) := [("false", [(.eq v (.v 5), false), (.eq (remE n 4) (.c 0), true), (.eq n loc, false), (.eq (quoE n 4) (quoE loc 4), true), (.eq (remE loc 4) (.c 0), true)])]
theorem hR40 (rho : Nat → Int) (ok : ∀ i p, DT4[i]? = some p → p.1 ≤ rho i ∧ rho i ≤ p.2) : ∀ p ∈ R40, ¬ @FactsOk (enOf DT4 rho ok) p.2 := by
  intro p hp hF
  have k9 : 0 ≤ rho 9 ∧ rho 9 ≤ 255 := ok 9 _ rfl
  have k11 : 0 ≤ rho 11 ∧ rho 11 ≤ 255 := ok 11 _ rfl
  rw [R40, List.mem_singleton] at hp
  subst hp
  have t9 : (rho 9).tmod 4 = rho 9 % 4 := Int.tmod_eq_emod_of_nonneg k9.1
  have t11 : (rho 11).tmod 4 = rho 11 % 4 := Int.tmod_eq_emod_of_nonneg k11.1
  have d9 : (rho 9).tdiv 4 = rho 9 / 4 := Int.tdiv_eq_ediv_of_nonneg k9.1
  have d11 : (rho 11).tdiv 4 = rho 11 / 4 := Int.tdiv_eq_ediv_of_nonneg k11.1
  have g1 : ((rho 11).tmod 4 == 0) = true := hF _ (List.mem_of_getElem? (i := 1) rfl)
  have g2 : (rho 11 == rho 9) = false := hF _ (List.mem_of_getElem? (i := 2) rfl)
  have g3 : (IntKind.u8.wrap ((rho 11).tdiv 4) == IntKind.u8.wrap ((rho 9).tdiv 4)) = true := hF _ (List.mem_of_getElem? (i := 3) rfl)
  have g4 : ((rho 9).tmod 4 == 0) = true := hF _ (List.mem_of_getElem? (i := 4) rfl)
  rw [d9, d11, w8 _ (by omega) (by omega), w8 _ (by omega) (by omega)] at g3
  rw [t11] at g1
  rw [t9] at g4
  simp only [beq_iff_eq, beq_eq_false_iff_ne] at g1 g2 g3 g4
  omega
theorem round40 (rho : Nat → Int) (ok : ∀ i p, T40.dom[i]? = some p → p.1 ≤ rho i ∧ rho i ≤ p.2) : RoundOk Try.prog G0 8000 [1] Try.f5 T40 11 K (enOf T40.dom rho ok) :=
  RoundOk.of (R := R40) (m := 6) (hR40 rho ok) (by kernel_rfl)
noncomputable def T41 : Tm := { nt := 85, nx := 3, sl := [(2, .sym .u8 (.v 9)), (3, .sym .u8 (.v 10)), (4, .ptr 0 0 0 []), (5, .ptr 1 0 0 []), (10, .ptr 2 0 0 []), (11, .sym .i64 (.v 11))], ob := [(0, [.sym .i64 (.v 0), .sym .i64 (.v 1), .int .i64 4, .sym .i64 (.v 3), .sym .i64 (.v 4)]), (1, [.sym .u8 (.v 5), .sym .u8 (.v 6), .sym .u8 (.v 7), .sym .u8 (.v 8)]), (2, [xc 1 0, xc 1 1, xc 1 2, xc 1 3])], src := [none, none, none, none, none, none, none, none, none, none, none, some 11], dom := DT4, fa := [.eq (remE loc 4) (.c 1)] }
def R41 : List (String × List (SB × Bool)) := [("false", [(.eq v (.v 6), false), (.eq (remE n 4) (.c 1), true), (.eq (remE n 4) (.c 0), false), (.eq n loc, false), (.eq (quoE n 4) (quoE loc 4), true), (.eq (remE loc 4) (.c 1), true)])]
theorem hR41 (rho : Nat → Int) (ok : ∀ i p, DT4[i]? = some p → p.1 ≤ rho i ∧ rho i ≤ p.2) : ∀ p ∈ R41, ¬ @FactsOk (enOf DT4 rho ok) p.2 := by
  intro p hp hF
  have k9 : 0 ≤ rho 9 ∧ rho 9 ≤ 255 := ok 9 _ rfl
  have k11 : 0 ≤ rho 11 ∧ rho 11 ≤ 255 := ok 11 _ rfl
  rw [R41, List.mem_singleton] at hp
  subst hp
  have t9 : (rho 9).tmod 4 = rho 9 % 4 := Int.tmod_eq_emod_of_nonneg k9.1
  have t11 : (rho 11).tmod 4 = rho 11 % 4 := Int.tmod_eq_emod_of_nonneg k11.1
  have d9 : (rho 9).tdiv 4 = rho 9 / 4 := Int.tdiv_eq_ediv_of_nonneg k9.1
  have d11 : (rho 11).tdiv 4 = rho 11 / 4 := Int.tdiv_eq_ediv_of_nonneg k11.1
  have g1 : ((rho 11).tmod 4 == 1) = true := hF _ (List.mem_of_getElem? (i := 1) rfl)
  have g2 : ((rho 11).tmod 4 == 0) = false := hF _ (List.mem_of_getElem? (i := 2) rfl)
  have g3 : (rho 11 == rho 9) = false := hF _ (List.mem_of_getElem? (i := 3) rfl)
  have g4 : (IntKind.u8.wrap ((rho 11).tdiv 4) == IntKind.u8.wrap ((rho 9).tdiv 4)) = true := hF _ (List.mem_of_getElem? (i := 4) rfl)
  have g5 : ((rho 9).tmod 4 == 1) = true := hF _ (List.mem_of_getElem? (i := 5) rfl)
  rw [d9, d11, w8 _ (by omega) (by omega), w8 _ (by omega) (by omega)] at g4
  rw [t11] at g1
  rw [t11] at g2
  rw [t9] at g5
  simp only [beq_iff_eq, beq_eq_false_iff_ne] at g1 g2 g3 g4 g5
  omega
theorem round41 (rho : Nat → Int) (ok : ∀ i p, T41.dom[i]? = some p → p.1 ≤ rho i ∧ rho i ≤ p.2) : RoundOk Try.prog G0 8000 [1] Try.f5 T41 11 K (enOf T41.dom rho ok) :=
  RoundOk.of (R := R41) (m := 6) (hR41 rho ok) (by kernel_rfl)
noncomputable def T42 : Tm := { nt := 85, nx := 3, sl := [(2, .sym .u8 (.v 9)), (3, .sym .u8 (.v 10)), (4, .ptr 0 0 0 []), (5, .ptr 1 0 0 []), (10, .ptr 2 0 0 []), (11, .sym .i64 (.v 11))], ob := [(0, [.sym .i64 (.v 0), .sym .i64 (.v 1), .int .i64 4, .sym .i64 (.v 3), .sym .i64 (.v 4)]), (1, [.sym .u8 (.v 5), .sym .u8 (.v 6), .sym .u8 (.v 7), .sym .u8 (.v 8)]), (2, [xc 2 0, xc 2 1, xc 2 2, xc 2 3])], src := [none, none, none, none, none, none, none, none, none, none, none, some 11], dom := DT4, fa := [.eq (remE loc 4) (.c 2)] }
def R42 : List (String × List (SB × Bool)) := [("false", [(.eq v (.v 7), false), (.eq (remE n 4) (.c 2), true), (.eq (remE n 4) (.c 1), false), (.eq (remE n 4) (.c 0), false), (.eq n loc, false), (.eq (quoE n 4) (quoE loc 4), true), (.eq (remE loc 4) (.c 2), true)])]
theorem hR42 (rho : Nat → Int) (ok : ∀ i p, DT4[i]? = some p → p.1 ≤ rho i ∧ rho i ≤ p.2) : ∀ p ∈ R42, ¬ @FactsOk (enOf DT4 rho ok) p.2 := by
  intro p hp hF
  have k9 : 0 ≤ rho 9 ∧ rho 9 ≤ 255 := ok 9 _ rfl
  have k11 : 0 ≤ rho 11 ∧ rho 11 ≤ 255 := ok 11 _ rfl
  rw [R42, List.mem_singleton] at hp
  subst hp
  have t9 : (rho 9).tmod 4 = rho 9 % 4 := Int.tmod_eq_emod_of_nonneg k9.1
  have t11 : (rho 11).tmod 4 = rho 11 % 4 := Int.tmod_eq_emod_of_nonneg k11.1
  have d9 : (rho 9).tdiv 4 = rho 9 / 4 := Int.tdiv_eq_ediv_of_nonneg k9.1
  have d11 : (rho 11).tdiv 4 = rho 11 / 4 := Int.tdiv_eq_ediv_of_nonneg k11.1
  have g1 : ((rho 11).tmod 4 == 2) = true := hF _ (List.mem_of_getElem? (i := 1) rfl)
  have g2 : ((rho 11).tmod 4 == 1) = false := hF _ (List.mem_of_getElem? (i := 2) rfl)
  have g3 : ((rho 11).tmod 4 == 0) = false := hF _ (List.mem_of_getElem? (i := 3) rfl)
  have g4 : (rho 11 == rho 9) = false := hF _ (List.mem_of_getElem? (i := 4) rfl)
  have g5 : (IntKind.u8.wrap ((rho 11).tdiv 4) == IntKind.u8.wrap ((rho 9).tdiv 4)) = true := hF _ (List.mem_of_getElem? (i := 5) rfl)
  have g6 : ((rho 9).tmod 4 == 2) = true := hF _ (List.mem_of_getElem? (i := 6) rfl)
  rw [d9, d11, w8 _ (by omega) (by omega), w8 _ (by omega) (by omega)] at g5
  rw [t11] at g1
  rw [t11] at g2
  rw [t11] at g3
  rw [t9] at g6
  simp only [beq_iff_eq, beq_eq_false_iff_ne] at g1 g2 g3 g4 g5 g6
  omega
theorem round42 (rho : Nat → Int) (ok : ∀ i p, T42.dom[i]? = some p → p.1 ≤ rho i ∧ rho i ≤ p.2) : RoundOk Try.prog G0 8000 [1] Try.f5 T42 11 K (enOf T42.dom rho ok) :=
  RoundOk.of (R := R42) (m := 6) (hR42 rho ok) (by kernel_rfl)
noncomputable def T43 : Tm := { nt := 85, nx := 3, sl := [(2, .sym .u8 (.v 9)), (3, .sym .u8 (.v 10)), (4, .ptr 0 0 0 []), (5, .ptr 1 0 0 []), (10, .ptr 2 0 0 []), (11, .sym .i64 (.v 11))], ob := [(0, [.sym .i64 (.v 0), .sym .i64 (.v 1), .int .i64 4, .sym .i64 (.v 3), .sym .i64 (.v 4)]), (1, [.sym .u8 (.v 5), .sym .u8 (.v 6), .sym .u8 (.v 7), .sym .u8 (.v 8)]), (2, [xc 3 0, xc 3 1, xc 3 2, xc 3 3])], src := [none, none, none, none, none, none, none, none, none, none, none, some 11], dom := DT4, fa := [.eq (remE loc 4) (.c 3)] }
def R43 : List (String × List (SB × Bool)) := [("false", [(.eq v (.v 8), false), (.eq (remE n 4) (.c 2), false), (.eq (remE n 4) (.c 1), false), (.eq (remE n 4) (.c 0), false), (.eq n loc, false), (.eq (quoE n 4) (quoE loc 4), true), (.eq (remE loc 4) (.c 3), true)])]
theorem hR43 (rho : Nat → Int) (ok : ∀ i p, DT4[i]? = some p → p.1 ≤ rho i ∧ rho i ≤ p.2) : ∀ p ∈ R43, ¬ @FactsOk (enOf DT4 rho ok) p.2 := by
  intro p hp hF
  have k9 : 0 ≤ rho 9 ∧ rho 9 ≤ 255 := ok 9 _ rfl
  have k11 : 0 ≤ rho 11 ∧ rho 11 ≤ 255 := ok 11 _ rfl
  rw [R43, List.mem_singleton] at hp
  subst hp
  have t9 : (rho 9).tmod 4 = rho 9 % 4 := Int.tmod_eq_emod_of_nonneg k9.1
  have t11 : (rho 11).tmod 4 = rho 11 % 4 := Int.tmod_eq_emod_of_nonneg k11.1
  have d9 : (rho 9).tdiv 4 = rho 9 / 4 := Int.tdiv_eq_ediv_of_nonneg k9.1
  have d11 : (rho 11).tdiv 4 = rho 11 / 4 := Int.tdiv_eq_ediv_of_nonneg k11.1
  have g1 : ((rho 11).tmod 4 == 2) = false := hF _ (List.mem_of_getElem? (i := 1) rfl)
  have g2 : ((rho 11).tmod 4 == 1) = false := hF _ (List.mem_of_getElem? (i := 2) rfl)
  have g3 : ((rho 11).tmod 4 == 0) = false := hF _ (List.mem_of_getElem? (i := 3) rfl)
  have g4 : (rho 11 == rho 9) = false := hF _ (List.mem_of_getElem? (i := 4) rfl)
  have g5 : (IntKind.u8.wrap ((rho 11).tdiv 4) == IntKind.u8.wrap ((rho 9).tdiv 4)) = true := hF _ (List.mem_of_getElem? (i := 5) rfl)
  have g6 : ((rho 9).tmod 4 == 3) = true := hF _ (List.mem_of_getElem? (i := 6) rfl)
  rw [d9, d11, w8 _ (by omega) (by omega), w8 _ (by omega) (by omega)] at g5
  rw [t11] at g1
  rw [t11] at g2
  rw [t11] at g3
  rw [t9] at g6
  simp only [beq_iff_eq, beq_eq_false_iff_ne] at g1 g2 g3 g4 g5 g6
  omega
theorem round43 (rho : Nat → Int) (ok : ∀ i p, T43.dom[i]? = some p → p.1 ≤ rho i ∧ rho i ≤ p.2) : RoundOk Try.prog G0 8000 [1] Try.f5 T43 11 K (enOf T43.dom rho ok) :=
  RoundOk.of (R := R43) (m := 6) (hR43 rho ok) (by kernel_rfl)
noncomputable def Ts4 : List Tm := [T40, T41, T42, T43]
theorem start4 (rho : Nat → Int) (ok : ∀ i p, D4[i]? = some p → p.1 ≤ rho i ∧ rho i ≤ p.2) : StartOk Try.prog G0 8000 [1] Try.f5 body (symAs shs 0 D4) Ts4 K (enOf D4 rho ok) :=
  StartOk.of (m := 4) noR (by kernel_rfl)
theorem rounds4 : ∀ T ∈ Ts4, (∀ rho ok, RoundOk Try.prog G0 8000 [1] Try.f5 T 11 K (enOf T.dom rho ok)) ∧ T.dom[11]? = some (0, 255) := by
  intro T hT
  simp only [Ts4, List.mem_cons, List.not_mem_nil, or_false] at hT
  rcases hT with rfl | rfl | rfl | rfl
  · exact ⟨fun rho ok => round40 rho ok, rfl⟩
  · exact ⟨fun rho ok => round41 rho ok, rfl⟩
  · exact ⟨fun rho ok => round42 rho ok, rfl⟩
  · exact ⟨fun rho ok => round43 rho ok, rfl⟩
theorem covers (ns : List Int) (h : InD (fullD shs) ns) : (InB D1 ns ∨ InB D2 ns ∨ InB D3 ns ∨ InB D4 ns) ∨ Somes (fun l => InB l ns) boxes := by
  obtain ⟨a, _, rfl, a1, a2, b, _, rfl, b1, b2, c, _, rfl, c1, c2, d, _, rfl, d1, d2, e, _, rfl, e1, e2, x0, _, rfl, x1, x2, y0, _, rfl, y1, y2, z0, _, rfl, z1, z2, u0, _, rfl, u1, u2, v0, _, rfl, v1, v2, w0, _, rfl, w1, w2, rfl⟩ := h
  simp only [fullK, kLo, kHi] at a1 a2 b1 b2 c1 c2 d1 d2 e1 e2 x1 x2 y1 y2 z1 z2 u1 u2 v1 v2 w1 w2
  by_cases q0 : a ≤ 0
  · exact .inr (.inl (by simp only [InB, box0, and_true]; omega))
  by_cases q1 : 5 ≤ a
  · exact .inr (.inr (.inl (by simp only [InB, box1, and_true]; omega)))
  by_cases q2 : b ≤ 0
  · exact .inr (.inr (.inr (.inl (by simp only [InB, box2, and_true]; omega))))
  by_cases q3 : 3 ≤ b
  · exact .inr (.inr (.inr (.inr (.inl (by simp only [InB, box3, and_true]; omega)))))
  by_cases q4 : c ≤ 0
  · exact .inr (.inr (.inr (.inr (.inr (.inl (by simp only [InB, box4, and_true]; omega))))))
  by_cases q5 : 5 ≤ c
  · exact .inr (.inr (.inr (.inr (.inr (.inr (.inl (by simp only [InB, box5, and_true]; omega)))))))
  by_cases q6 : d ≤ 0
  · exact .inr (.inr (.inr (.inr (.inr (.inr (.inr (.inl (by simp only [InB, box6, and_true]; omega))))))))
  by_cases q7 : 5 ≤ d
  · exact .inr (.inr (.inr (.inr (.inr (.inr (.inr (.inr (.inl (by simp only [InB, box7, and_true]; omega)))))))))
  by_cases q8 : e ≤ 0
  · exact .inr (.inr (.inr (.inr (.inr (.inr (.inr (.inr (.inr (.inl (by simp only [InB, box8, and_true]; omega))))))))))
  by_cases q9 : 5 ≤ e
  · exact .inr (.inr (.inr (.inr (.inr (.inr (.inr (.inr (.inr (.inr (.inl (by simp only [InB, box9, and_true]; omega)))))))))))
  have hc : c = 1 ∨ c = 2 ∨ c = 3 ∨ c = 4 := by omega
  rcases hc with rfl | rfl | rfl | rfl
  · exact .inl (.inl (by simp only [InB, D1, and_true]; omega))
  · exact .inl (.inr (.inl (by simp only [InB, D2, and_true]; omega)))
  · exact .inl (.inr (.inr (.inl (by simp only [InB, D3, and_true]; omega))))
  · exact .inl (.inr (.inr (.inr (by simp only [InB, D4, and_true]; omega))))
theorem walk {vs : List Value} {ns : List Int} (hv : ShsOk shs vs ns) (w : World) : Calls Try.prog 5 vs.toArray w fun e w' => e = .returned (.bool true) ∧ Below w.heap.size w w' := by
  have hlen : vs.length ≤ Try.f5.ntmps := by
    obtain ⟨v, vs', n1, n2, rfl, _, _, v2, vs2, n3, n4, rfl, _, _, v3, vs3, n5, n6, rfl, _, _, v4, vs4, n7, n8, rfl, _, _, rfl, _⟩ := hv
    exact Nat.le_of_ble_eq_true (by kernel_rfl)
  rcases covers ns hv.full with (h | h | h | h) | h
  · exact loop_law (j := 11) (k := K) (hi := 255) mo nogo (fun E _ => ConOk.none' E) Try.func5 hbody rounds1 (by decide) start1 hv h.ind hlen w
  · exact loop_law (j := 11) (k := K) (hi := 255) mo nogo (fun E _ => ConOk.none' E) Try.func5 hbody rounds2 (by decide) start2 hv h.ind hlen w
  · exact loop_law (j := 11) (k := K) (hi := 255) mo nogo (fun E _ => ConOk.none' E) Try.func5 hbody rounds3 (by decide) start3 hv h.ind hlen w
  · exact loop_law (j := 11) (k := K) (hi := 255) mo nogo (fun E _ => ConOk.none' E) Try.func5 hbody rounds4 (by decide) start4 hv h.ind hlen w
  · obtain ⟨l, h1, h2⟩ := Somes.get (l := boxes) (q := BoxOk Try.prog G0 5 8000 shs) ⟨ok0, ok1, ok2, ok3, ok4, ok5, ok6, ok7, ok8, ok9, trivial⟩ h
    exact plain_law mo nogo (fun rho ok => @ConOk.none (enOf l rho ok) _ _ _) h2 hv h1.ind w
end Go.Proofs.Ytdhebhemkbeppaa.GeoKeepsP
