/- ReplOrder: the walk. -/
import Derived.Test.YtigilihpofafoaaRo1
import Derived.Test.YtigilihpofafoaaRo2
import Derived.Test.YtigilihpofafoaaRo3
import Derived.Test.YtigilihpofafoaaRo4
namespace Go.Proofs.Ytigilihpofafoaa.ReplOrderP
open Go Go.RowKit Loc Rm Ros
set_option linter.unusedVariables false
def witness : Array Value := #[.int .u8 0, .int .i64 0, .slice none 0 0]
theorem sh0 : shOf Try.prog 5 = some sA := Ros.sh0
theorem sh1 : shOf Try.prog 3 = some sB := Ros.sh1
theorem sh2 : shOf Try.prog 33 = some sC := Ros.sh2
theorem boolT : Try.prog.underlying 4 = some .bool := Ros.boolT
noncomputable def Gw : Know := ⟨fun f => conM f [(11, maw)], wr⟩
def box0 : List (Int × Int) := [(0, 0), (-9223372036854775808, 9223372036854775807), (0, 9223372036854775807)]
theorem ok0 : BoxOk Try.prog Gw 6 100000 shs box0 := fun rho ok => by kernel_rfl
def box1 : List (Int × Int) := [(5, 255), (-9223372036854775808, 9223372036854775807), (0, 9223372036854775807)]
theorem ok1 : BoxOk Try.prog Gw 6 100000 shs box1 := fun rho ok => by kernel_rfl
def box2 : List (Int × Int) := [(1, 4), (-9223372036854775808, 0), (0, 9223372036854775807)]
theorem ok2 : BoxOk Try.prog Gw 6 100000 shs box2 := fun rho ok => by kernel_rfl
def box3 : List (Int × Int) := [(1, 4), (5, 9223372036854775807), (0, 9223372036854775807)]
theorem ok3 : BoxOk Try.prog Gw 6 100000 shs box3 := fun rho ok => by kernel_rfl
def box4 : List (Int × Int) := [(1, 1), (1, 4), (201, 9223372036854775807)]
theorem ok4 : BoxOk Try.prog Gw 6 100000 shs box4 := fun rho ok => by kernel_rfl
def box5 : List (Int × Int) := [(2, 2), (1, 4), (201, 9223372036854775807)]
theorem ok5 : BoxOk Try.prog Gw 6 100000 shs box5 := fun rho ok => by kernel_rfl
def box6 : List (Int × Int) := [(3, 3), (1, 4), (201, 9223372036854775807)]
theorem ok6 : BoxOk Try.prog Gw 6 100000 shs box6 := fun rho ok => by kernel_rfl
def box7 : List (Int × Int) := [(4, 4), (1, 4), (201, 9223372036854775807)]
theorem ok7 : BoxOk Try.prog Gw 6 100000 shs box7 := fun rho ok => by kernel_rfl
theorem pl {G : Know} {l : List (Int × Int)} (hG : ∀ E : En, @ConOk E Try.prog (@Fin E) G) (hB : BoxOk Try.prog G 6 100000 shs l) (hl : Nat.ble l.length 1000 = true) {w : World} {Ls : Nat → Nat → Nat → Int} {vs : List Value} {ns : List Int} (hv : ShsOk Try.prog w Ls shs 0 vs ns) (h : InB l ns) : Calls Try.prog 6 vs.toArray w fun e w' => e = .returned (.bool true) ∧ Below w.heap.size w w' :=
  plain_law mo nogo (fun rho ok => hG _) hB hv h.ind hl rfl
theorem gw (E : En) : @ConOk E Try.prog (@Fin E) Gw := @TabOk.con E _ _ _ _ (@TabOk.cons E _ _ _ _ rfl (@awake E) (@TabOk.nil E _))
theorem walk {w : World} {Ls : Nat → Nat → Nat → Int} {vs : List Value} {ns : List Int} (hv : ShsOk Try.prog w Ls shs 0 vs ns) : Calls Try.prog 6 vs.toArray w fun e w' => e = .returned (.bool true) ∧ Below w.heap.size w w' := by
  have hlen : vs.length ≤ Try.f6.ntmps := by
    rw [hv.len]
    exact Nat.le_of_ble_eq_true (by kernel_rfl)
  have h := hv.full
  obtain ⟨a, _, e1, a1, a2, b, _, e2, b1, b2, c, _, e3, c1, c2, e5⟩ := h
  subst e5; subst e3; subst e2; subst e1
  simp only [fullK, kLo, kHi] at a1 a2 b1 b2 c1 c2
  by_cases q0 : a ≤ 0
  · exact pl gw ok0 rfl hv (by simp only [InB, box0, and_true]; omega)
  by_cases q1 : 5 ≤ a
  · exact pl gw ok1 rfl hv (by simp only [InB, box1, and_true]; omega)
  by_cases q2 : b ≤ 0
  · exact pl gw ok2 rfl hv (by simp only [InB, box2, and_true]; omega)
  by_cases q3 : 5 ≤ b
  · exact pl gw ok3 rfl hv (by simp only [InB, box3, and_true]; omega)
  have ha : a = 1 ∨ a = 2 ∨ a = 3 ∨ a = 4 := by omega
  rcases Int.lt_or_le 200 c with hc | hc
  · rcases ha with rfl | rfl | rfl | rfl
    · exact pl gw ok4 rfl hv (by simp only [InB, box4, and_true]; omega)
    · exact pl gw ok5 rfl hv (by simp only [InB, box5, and_true]; omega)
    · exact pl gw ok6 rfl hv (by simp only [InB, box6, and_true]; omega)
    · exact pl gw ok7 rfl hv (by simp only [InB, box7, and_true]; omega)
  have hb : b = 1 ∨ b = 2 ∨ b = 3 ∨ b = 4 := by omega
  rcases Int.lt_or_le 0 c with hp | hp
  · rcases ha with rfl | rfl | rfl | rfl <;> rcases hb with rfl | rfl | rfl | rfl
    · exact wk11 hv (by simp only [InB, C11, and_true]; omega) hlen
    · exact wk12 hv (by simp only [InB, C12, and_true]; omega) hlen
    · exact wk13 hv (by simp only [InB, C13, and_true]; omega) hlen
    · exact wk14 hv (by simp only [InB, C14, and_true]; omega) hlen
    · exact wk21 hv (by simp only [InB, C21, and_true]; omega) hlen
    · exact wk22 hv (by simp only [InB, C22, and_true]; omega) hlen
    · exact wk23 hv (by simp only [InB, C23, and_true]; omega) hlen
    · exact wk24 hv (by simp only [InB, C24, and_true]; omega) hlen
    · exact wk31 hv (by simp only [InB, C31, and_true]; omega) hlen
    · exact wk32 hv (by simp only [InB, C32, and_true]; omega) hlen
    · exact wk33 hv (by simp only [InB, C33, and_true]; omega) hlen
    · exact wk34 hv (by simp only [InB, C34, and_true]; omega) hlen
    · exact wk41 hv (by simp only [InB, C41, and_true]; omega) hlen
    · exact wk42 hv (by simp only [InB, C42, and_true]; omega) hlen
    · exact wk43 hv (by simp only [InB, C43, and_true]; omega) hlen
    · exact wk44 hv (by simp only [InB, C44, and_true]; omega) hlen
  · rcases ha with rfl | rfl | rfl | rfl <;> rcases hb with rfl | rfl | rfl | rfl
    · exact pl (fun E => @TabOk.con E _ _ _ _ (@tacOk11 E)) z11 rfl hv (by simp only [InB, and_true]; omega)
    · exact pl (fun E => @TabOk.con E _ _ _ _ (@tacOk12 E)) z12 rfl hv (by simp only [InB, and_true]; omega)
    · exact pl (fun E => @TabOk.con E _ _ _ _ (@tacOk13 E)) z13 rfl hv (by simp only [InB, and_true]; omega)
    · exact pl (fun E => @TabOk.con E _ _ _ _ (@tacOk14 E)) z14 rfl hv (by simp only [InB, and_true]; omega)
    · exact pl (fun E => @TabOk.con E _ _ _ _ (@tacOk21 E)) z21 rfl hv (by simp only [InB, and_true]; omega)
    · exact pl (fun E => @TabOk.con E _ _ _ _ (@tacOk22 E)) z22 rfl hv (by simp only [InB, and_true]; omega)
    · exact pl (fun E => @TabOk.con E _ _ _ _ (@tacOk23 E)) z23 rfl hv (by simp only [InB, and_true]; omega)
    · exact pl (fun E => @TabOk.con E _ _ _ _ (@tacOk24 E)) z24 rfl hv (by simp only [InB, and_true]; omega)
    · exact pl (fun E => @TabOk.con E _ _ _ _ (@tacOk31 E)) z31 rfl hv (by simp only [InB, and_true]; omega)
    · exact pl (fun E => @TabOk.con E _ _ _ _ (@tacOk32 E)) z32 rfl hv (by simp only [InB, and_true]; omega)
    · exact pl (fun E => @TabOk.con E _ _ _ _ (@tacOk33 E)) z33 rfl hv (by simp only [InB, and_true]; omega)
    · exact pl (fun E => @TabOk.con E _ _ _ _ (@tacOk34 E)) z34 rfl hv (by simp only [InB, and_true]; omega)
    · exact pl (fun E => @TabOk.con E _ _ _ _ (@tacOk41 E)) z41 rfl hv (by simp only [InB, and_true]; omega)
    · exact pl (fun E => @TabOk.con E _ _ _ _ (@tacOk42 E)) z42 rfl hv (by simp only [InB, and_true]; omega)
    · exact pl (fun E => @TabOk.con E _ _ _ _ (@tacOk43 E)) z43 rfl hv (by simp only [InB, and_true]; omega)
    · exact pl (fun E => @TabOk.con E _ _ _ _ (@tacOk44 E)) z44 rfl hv (by simp only [InB, and_true]; omega)
end Go.Proofs.Ytigilihpofafoaa.ReplOrderP
