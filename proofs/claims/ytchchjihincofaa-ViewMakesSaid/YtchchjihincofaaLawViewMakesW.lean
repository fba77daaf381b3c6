/- ViewMakes: the walk: in 16 boxes of arguments all ways of the law's run end in 'true'. -/
import Derived.Test.YtchchjihincofaaLocY3
namespace Go.Proofs.Ytchchjihincofaa.ViewMakesP
open Go Go.RowKit Loc
set_option linter.unusedVariables false
theorem mo : Try.prog.follows .mixedOrders = true := by kernel_rfl
theorem nogo : NoGo Try.prog := nogo_of (by kernel_rfl)
noncomputable def G0 : Know := ⟨fun _ => none, fun _ => false⟩
def witness : Array Value := #[.int .u8 0, .int .i64 0, .int .u64 0]
def sA : Sh := .one (.int .u8)
def sB : Sh := .one (.int .i64)
def sC : Sh := .one (.int .u64)
theorem sh0 : shOf Try.prog 5 = some sA := by kernel_rfl
theorem sh1 : shOf Try.prog 3 = some sB := by kernel_rfl
theorem sh2 : shOf Try.prog 23 = some sC := by kernel_rfl
theorem boolT : Try.prog.underlying 4 = some .bool := by kernel_rfl
def shs : List Sh := [sA, sB, sC]
def box0 : List (Int × Int) := [(0, 0), (-9223372036854775808, 9223372036854775807), (0, 18446744073709551615)]
theorem ok0 : BoxOk Try.prog G0 3 8000 shs box0 := fun rho ok => by kernel_rfl
def box1 : List (Int × Int) := [(4, 255), (-9223372036854775808, 9223372036854775807), (0, 18446744073709551615)]
theorem ok1 : BoxOk Try.prog G0 3 8000 shs box1 := fun rho ok => by kernel_rfl
def box2 : List (Int × Int) := [(1, 3), (-9223372036854775808, 0), (0, 18446744073709551615)]
theorem ok2 : BoxOk Try.prog G0 3 8000 shs box2 := fun rho ok => by kernel_rfl
def box3 : List (Int × Int) := [(1, 3), (5, 9223372036854775807), (0, 18446744073709551615)]
theorem ok3 : BoxOk Try.prog G0 3 8000 shs box3 := fun rho ok => by kernel_rfl
def box4 : List (Int × Int) := [(1, 1), (1, 1), (0, 18446744073709551615)]
theorem ok4 : BoxOk Try.prog G0 3 8000 shs box4 := fun rho ok => by kernel_rfl
def box5 : List (Int × Int) := [(1, 1), (2, 2), (0, 18446744073709551615)]
theorem ok5 : BoxOk Try.prog G0 3 8000 shs box5 := fun rho ok => by kernel_rfl
def box6 : List (Int × Int) := [(1, 1), (3, 3), (0, 18446744073709551615)]
theorem ok6 : BoxOk Try.prog G0 3 8000 shs box6 := fun rho ok => by kernel_rfl
def box7 : List (Int × Int) := [(1, 1), (4, 4), (0, 18446744073709551615)]
theorem ok7 : BoxOk Try.prog G0 3 8000 shs box7 := fun rho ok => by kernel_rfl
def box8 : List (Int × Int) := [(2, 2), (1, 1), (0, 18446744073709551615)]
theorem ok8 : BoxOk Try.prog G0 3 8000 shs box8 := fun rho ok => by kernel_rfl
def box9 : List (Int × Int) := [(2, 2), (2, 2), (0, 18446744073709551615)]
theorem ok9 : BoxOk Try.prog G0 3 8000 shs box9 := fun rho ok => by kernel_rfl
def box10 : List (Int × Int) := [(2, 2), (3, 3), (0, 18446744073709551615)]
theorem ok10 : BoxOk Try.prog G0 3 8000 shs box10 := fun rho ok => by kernel_rfl
def box11 : List (Int × Int) := [(2, 2), (4, 4), (0, 18446744073709551615)]
theorem ok11 : BoxOk Try.prog G0 3 8000 shs box11 := fun rho ok => by kernel_rfl
def box12 : List (Int × Int) := [(3, 3), (1, 1), (0, 18446744073709551615)]
theorem ok12 : BoxOk Try.prog G0 3 8000 shs box12 := fun rho ok => by kernel_rfl
def box13 : List (Int × Int) := [(3, 3), (2, 2), (0, 18446744073709551615)]
theorem ok13 : BoxOk Try.prog G0 3 8000 shs box13 := fun rho ok => by kernel_rfl
def box14 : List (Int × Int) := [(3, 3), (3, 3), (0, 18446744073709551615)]
theorem ok14 : BoxOk Try.prog G0 3 8000 shs box14 := fun rho ok => by kernel_rfl
def box15 : List (Int × Int) := [(3, 3), (4, 4), (0, 18446744073709551615)]
theorem ok15 : BoxOk Try.prog G0 3 8000 shs box15 := fun rho ok => by kernel_rfl
def boxes : List (List (Int × Int)) := [box0, box1, box2, box3, box4, box5, box6, box7, box8, box9, box10, box11, box12, box13, box14, box15]
theorem covers (ns : List Int) (h : InD (fullD shs) ns) : Somes (fun l => InB l ns) boxes := by
  obtain ⟨a, _, rfl, a1, a2, b, _, rfl, b1, b2, c, _, rfl, c1, c2, rfl⟩ := h
  simp only [fullK, kLo, kHi] at a1 a2 b1 b2 c1 c2
  by_cases q0 : a ≤ 0
  · exact (.inl (by simp only [InB, box0, and_true]; omega))
  by_cases q1 : 4 ≤ a
  · exact (.inr (.inl (by simp only [InB, box1, and_true]; omega)))
  by_cases q2 : b ≤ 0
  · exact (.inr (.inr (.inl (by simp only [InB, box2, and_true]; omega))))
  by_cases q3 : 5 ≤ b
  · exact (.inr (.inr (.inr (.inl (by simp only [InB, box3, and_true]; omega)))))
  have ha : a = 1 ∨ a = 2 ∨ a = 3 := by omega
  have hb : b = 1 ∨ b = 2 ∨ b = 3 ∨ b = 4 := by omega
  rcases ha with rfl | rfl | rfl <;> rcases hb with rfl | rfl | rfl | rfl
  · exact (.inr (.inr (.inr (.inr (.inl (by simp only [InB, box4, and_true]; omega))))))
  · exact (.inr (.inr (.inr (.inr (.inr (.inl (by simp only [InB, box5, and_true]; omega)))))))
  · exact (.inr (.inr (.inr (.inr (.inr (.inr (.inl (by simp only [InB, box6, and_true]; omega))))))))
  · exact (.inr (.inr (.inr (.inr (.inr (.inr (.inr (.inl (by simp only [InB, box7, and_true]; omega)))))))))
  · exact (.inr (.inr (.inr (.inr (.inr (.inr (.inr (.inr (.inl (by simp only [InB, box8, and_true]; omega))))))))))
  · exact (.inr (.inr (.inr (.inr (.inr (.inr (.inr (.inr (.inr (.inl (by simp only [InB, box9, and_true]; omega)))))))))))
  · exact (.inr (.inr (.inr (.inr (.inr (.inr (.inr (.inr (.inr (.inr (.inl (by simp only [InB, box10, and_true]; omega))))))))))))
  · exact (.inr (.inr (.inr (.inr (.inr (.inr (.inr (.inr (.inr (.inr (.inr (.inl (by simp only [InB, box11, and_true]; omega)))))))))))))
  · exact (.inr (.inr (.inr (.inr (.inr (.inr (.inr (.inr (.inr (.inr (.inr (.inr (.inl (by simp only [InB, box12, and_true]; omega))))))))))))))
  · exact (.inr (.inr (.inr (.inr (.inr (.inr (.inr (.inr (.inr (.inr (.inr (.inr (.inr (.inl (by simp only [InB, box13, and_true]; omega)))))))))))))))
  · exact (.inr (.inr (.inr (.inr (.inr (.inr (.inr (.inr (.inr (.inr (.inr (.inr (.inr (.inr (.inl (by simp only [InB, box14, and_true]; omega))))))))))))))))
  · exact (.inr (.inr (.inr (.inr (.inr (.inr (.inr (.inr (.inr (.inr (.inr (.inr (.inr (.inr (.inr (.inl (by simp only [InB, box15, and_true]; omega)))))))))))))))))
theorem walk {w : World} {Ls : Nat → Nat → Nat → Int} {vs : List Value} {ns : List Int} (hv : ShsOk Try.prog w Ls shs 0 vs ns) : Calls Try.prog 3 vs.toArray w fun e w' => e = .returned (.bool true) ∧ Below w.heap.size w w' := by
  obtain ⟨l, h1, h2⟩ := Somes.get (l := boxes) (q := fun l => BoxOk Try.prog G0 3 8000 shs l ∧ Nat.ble l.length 1000 = true) ⟨⟨ok0, rfl⟩, ⟨ok1, rfl⟩, ⟨ok2, rfl⟩, ⟨ok3, rfl⟩, ⟨ok4, rfl⟩, ⟨ok5, rfl⟩, ⟨ok6, rfl⟩, ⟨ok7, rfl⟩, ⟨ok8, rfl⟩, ⟨ok9, rfl⟩, ⟨ok10, rfl⟩, ⟨ok11, rfl⟩, ⟨ok12, rfl⟩, ⟨ok13, rfl⟩, ⟨ok14, rfl⟩, ⟨ok15, rfl⟩, trivial⟩ (covers ns hv.full)
  exact plain_law mo nogo (fun rho ok => @ConOk.none (enOf l rho ok) _ _ _) h2.1 hv h1.ind h2.2 rfl
end Go.Proofs.Ytchchjihincofaa.ViewMakesP
