/- GeoWords: the walk: in each of 14 boxes of arguments all ways of the law's run end in 'true'. -/
import Derived.Test.YtdhebhemkbeppaaLocL
namespace Go.Proofs.Ytdhebhemkbeppaa.GeoWordsP
open Go Go.RowKit Loc
set_option linter.unusedVariables false
theorem mo : Try.prog.follows .mixedOrders = true := by kernel_rfl
theorem nogo : NoGo Try.prog := nogo_of (by kernel_rfl)
noncomputable def G0 : Know := ⟨fun _ => none, fun _ => false⟩
def witness : Array Value := #[.agg #[.int .i64 1, .int .i64 1, .int .i64 1, .int .i64 1, .int .i64 1], .agg #[.int .u8 0, .int .u8 0, .int .u8 0, .int .u8 0], .int .u8 0, .int .u8 0]
def shG : Sh := .agg [.int .i64, .int .i64, .int .i64, .int .i64, .int .i64]
def shD : Sh := .agg [.int .u8, .int .u8, .int .u8, .int .u8]
theorem sh0 : shOf Try.prog 23 = some shG := by kernel_rfl
theorem sh1 : shOf Try.prog 32 = some shD := by kernel_rfl
theorem sh2 : shOf Try.prog 5 = some (.one (.int .u8)) := by kernel_rfl
theorem sh3 : shOf Try.prog 5 = some (.one (.int .u8)) := by kernel_rfl
theorem boolT : Try.prog.underlying 4 = some .bool := by kernel_rfl
def ss : List Sh := [shG, shD, .one (.int .u8), .one (.int .u8)]
def box0 : List (Int × Int) := [(-9223372036854775808, 0), (-9223372036854775808, 9223372036854775807), (-9223372036854775808, 9223372036854775807), (-9223372036854775808, 9223372036854775807), (-9223372036854775808, 9223372036854775807), (0, 255), (0, 255), (0, 255), (0, 255), (0, 255), (0, 255)]
theorem ok0 : BoxOk Try.prog G0 4 8000 ss box0 := fun rho ok => by kernel_rfl
def box1 : List (Int × Int) := [(5, 9223372036854775807), (-9223372036854775808, 9223372036854775807), (-9223372036854775808, 9223372036854775807), (-9223372036854775808, 9223372036854775807), (-9223372036854775808, 9223372036854775807), (0, 255), (0, 255), (0, 255), (0, 255), (0, 255), (0, 255)]
theorem ok1 : BoxOk Try.prog G0 4 8000 ss box1 := fun rho ok => by kernel_rfl
def box2 : List (Int × Int) := [(1, 4), (-9223372036854775808, 0), (-9223372036854775808, 9223372036854775807), (-9223372036854775808, 9223372036854775807), (-9223372036854775808, 9223372036854775807), (0, 255), (0, 255), (0, 255), (0, 255), (0, 255), (0, 255)]
theorem ok2 : BoxOk Try.prog G0 4 8000 ss box2 := fun rho ok => by kernel_rfl
def box3 : List (Int × Int) := [(1, 4), (3, 9223372036854775807), (-9223372036854775808, 9223372036854775807), (-9223372036854775808, 9223372036854775807), (-9223372036854775808, 9223372036854775807), (0, 255), (0, 255), (0, 255), (0, 255), (0, 255), (0, 255)]
theorem ok3 : BoxOk Try.prog G0 4 8000 ss box3 := fun rho ok => by kernel_rfl
def box4 : List (Int × Int) := [(1, 4), (1, 2), (-9223372036854775808, 0), (-9223372036854775808, 9223372036854775807), (-9223372036854775808, 9223372036854775807), (0, 255), (0, 255), (0, 255), (0, 255), (0, 255), (0, 255)]
theorem ok4 : BoxOk Try.prog G0 4 8000 ss box4 := fun rho ok => by kernel_rfl
def box5 : List (Int × Int) := [(1, 4), (1, 2), (5, 9223372036854775807), (-9223372036854775808, 9223372036854775807), (-9223372036854775808, 9223372036854775807), (0, 255), (0, 255), (0, 255), (0, 255), (0, 255), (0, 255)]
theorem ok5 : BoxOk Try.prog G0 4 8000 ss box5 := fun rho ok => by kernel_rfl
def box6 : List (Int × Int) := [(1, 4), (1, 2), (1, 4), (-9223372036854775808, 0), (-9223372036854775808, 9223372036854775807), (0, 255), (0, 255), (0, 255), (0, 255), (0, 255), (0, 255)]
theorem ok6 : BoxOk Try.prog G0 4 8000 ss box6 := fun rho ok => by kernel_rfl
def box7 : List (Int × Int) := [(1, 4), (1, 2), (1, 4), (5, 9223372036854775807), (-9223372036854775808, 9223372036854775807), (0, 255), (0, 255), (0, 255), (0, 255), (0, 255), (0, 255)]
theorem ok7 : BoxOk Try.prog G0 4 8000 ss box7 := fun rho ok => by kernel_rfl
def box8 : List (Int × Int) := [(1, 4), (1, 2), (1, 4), (1, 4), (-9223372036854775808, 0), (0, 255), (0, 255), (0, 255), (0, 255), (0, 255), (0, 255)]
theorem ok8 : BoxOk Try.prog G0 4 8000 ss box8 := fun rho ok => by kernel_rfl
def box9 : List (Int × Int) := [(1, 4), (1, 2), (1, 4), (1, 4), (5, 9223372036854775807), (0, 255), (0, 255), (0, 255), (0, 255), (0, 255), (0, 255)]
theorem ok9 : BoxOk Try.prog G0 4 8000 ss box9 := fun rho ok => by kernel_rfl
def box10 : List (Int × Int) := [(1, 4), (1, 2), (1, 1), (1, 4), (1, 4), (0, 255), (0, 255), (0, 255), (0, 255), (0, 255), (0, 255)]
theorem ok10 : BoxOk Try.prog G0 4 8000 ss box10 := fun rho ok => by kernel_rfl
def box11 : List (Int × Int) := [(1, 4), (1, 2), (2, 2), (1, 4), (1, 4), (0, 255), (0, 255), (0, 255), (0, 255), (0, 255), (0, 255)]
theorem ok11 : BoxOk Try.prog G0 4 8000 ss box11 := fun rho ok => by kernel_rfl
def box12 : List (Int × Int) := [(1, 4), (1, 2), (3, 3), (1, 4), (1, 4), (0, 255), (0, 255), (0, 255), (0, 255), (0, 255), (0, 255)]
theorem ok12 : BoxOk Try.prog G0 4 8000 ss box12 := fun rho ok => by kernel_rfl
def box13 : List (Int × Int) := [(1, 4), (1, 2), (4, 4), (1, 4), (1, 4), (0, 255), (0, 255), (0, 255), (0, 255), (0, 255), (0, 255)]
theorem ok13 : BoxOk Try.prog G0 4 8000 ss box13 := fun rho ok => by kernel_rfl
def boxes : List (List (Int × Int)) := [box0, box1, box2, box3, box4, box5, box6, box7, box8, box9, box10, box11, box12, box13]
theorem covers (ns : List Int) (h : InD (fullD ss) ns) : Somes (fun l => InB l ns) boxes := by
  obtain ⟨a, _, rfl, a1, a2, b, _, rfl, b1, b2, c, _, rfl, c1, c2, d, _, rfl, d1, d2, e, _, rfl, e1, e2, x0, _, rfl, x1, x2, y0, _, rfl, y1, y2, z0, _, rfl, z1, z2, u0, _, rfl, u1, u2, v0, _, rfl, v1, v2, w0, _, rfl, w1, w2, rfl⟩ := h
  simp only [fullK, kLo, kHi] at a1 a2 b1 b2 c1 c2 d1 d2 e1 e2 x1 x2 y1 y2 z1 z2 u1 u2 v1 v2 w1 w2

  by_cases q0 : a ≤ 0
  · exact (.inl (by simp only [InB, box0, and_true]; omega))
  by_cases q1 : 5 ≤ a
  · exact (.inr (.inl (by simp only [InB, box1, and_true]; omega)))
  by_cases q2 : b ≤ 0
  · exact (.inr (.inr (.inl (by simp only [InB, box2, and_true]; omega))))
  by_cases q3 : 3 ≤ b
  · exact (.inr (.inr (.inr (.inl (by simp only [InB, box3, and_true]; omega)))))
  by_cases q4 : c ≤ 0
  · exact (.inr (.inr (.inr (.inr (.inl (by simp only [InB, box4, and_true]; omega))))))
  by_cases q5 : 5 ≤ c
  · exact (.inr (.inr (.inr (.inr (.inr (.inl (by simp only [InB, box5, and_true]; omega)))))))
  by_cases q6 : d ≤ 0
  · exact (.inr (.inr (.inr (.inr (.inr (.inr (.inl (by simp only [InB, box6, and_true]; omega))))))))
  by_cases q7 : 5 ≤ d
  · exact (.inr (.inr (.inr (.inr (.inr (.inr (.inr (.inl (by simp only [InB, box7, and_true]; omega)))))))))
  by_cases q8 : e ≤ 0
  · exact (.inr (.inr (.inr (.inr (.inr (.inr (.inr (.inr (.inl (by simp only [InB, box8, and_true]; omega))))))))))
  by_cases q9 : 5 ≤ e
  · exact (.inr (.inr (.inr (.inr (.inr (.inr (.inr (.inr (.inr (.inl (by simp only [InB, box9, and_true]; omega)))))))))))
  by_cases q10 : c = 1
  · exact (.inr (.inr (.inr (.inr (.inr (.inr (.inr (.inr (.inr (.inr (.inl (by simp only [InB, box10, and_true]; omega))))))))))))
  by_cases q11 : c = 2
  · exact (.inr (.inr (.inr (.inr (.inr (.inr (.inr (.inr (.inr (.inr (.inr (.inl (by simp only [InB, box11, and_true]; omega)))))))))))))
  by_cases q12 : c = 3
  · exact (.inr (.inr (.inr (.inr (.inr (.inr (.inr (.inr (.inr (.inr (.inr (.inr (.inl (by simp only [InB, box12, and_true]; omega))))))))))))))
  by_cases q13 : c = 4
  · exact (.inr (.inr (.inr (.inr (.inr (.inr (.inr (.inr (.inr (.inr (.inr (.inr (.inr (.inl (by simp only [InB, box13, and_true]; omega)))))))))))))))
  exfalso; omega
theorem walk {vs : List Value} {ns : List Int} (hv : ShsOk ss vs ns) (w : World) : Calls Try.prog 4 vs.toArray w fun e w' => e = .returned (.bool true) ∧ Below w.heap.size w w' :=
  plain_law2 mo nogo covers (fun l rho ok => @ConOk.none (enOf l rho ok) _ _ _) ⟨ok0, ok1, ok2, ok3, ok4, ok5, ok6, ok7, ok8, ok9, ok10, ok11, ok12, ok13, trivial⟩ hv w
end Go.Proofs.Ytdhebhemkbeppaa.GeoWordsP
