/- ReplStays: the walk where the state is valid and of kind 2. -/
import Derived.Test.YtigilihpofafoaaRsh
namespace Go.Proofs.Ytigilihpofafoaa.ReplStaysP
open Go Go.RowKit Loc Rm Rsh
set_option linter.unusedVariables false
def ys21_0 : List (List (Int × Int)) := [[(2, 2), (1, 1), (0, 0), (0, 0), (0, 0), (0, 0), (0, 0)]]
def ls21_0 : List (List (Int × Int)) := ys21_0.flatMap fun b => es1.map fun e => b ++ e
theorem bx21_0 (rho : Nat → Nat → Int) (ok : ∀ j l, ls21_0[j]? = some l → OkR l (rho j)) : badsL Try.prog H21 7 100000 shs ls21_0 rho ok = true := by kernel_rfl
theorem ok21_0 : Alls (Good1 7) ys21_0 := by
  have h := badsL_ok (by decide) bx21_0
  have key : ∀ b ∈ ys21_0, Alls (fun e => BoxOk Try.prog H21 7 100000 shs (b ++ e)) es1 := fun b hb => Alls.map (Alls.of fun x hx => h.get x (List.mem_flatMap.2 ⟨b, hb, hx⟩))
  exact Alls.of fun b hb => ⟨_, _, fun E => @TabOk.con E _ _ _ _ (@tacOk21 E), cov1 b, key b hb⟩
theorem ok21 : Alls (Good1 7) xs21 := ok21_0
def ys22_0 : List (List (Int × Int)) := [[(2, 2), (2, 2), (0, 0), (1, 1), (0, 0), (0, 0), (0, 0)], [(2, 2), (2, 2), (1, 1), (0, 0), (0, 0), (0, 0), (0, 0)]]
def ls22_0 : List (List (Int × Int)) := ys22_0.flatMap fun b => es2.map fun e => b ++ e
theorem bx22_0 (rho : Nat → Nat → Int) (ok : ∀ j l, ls22_0[j]? = some l → OkR l (rho j)) : badsL Try.prog H22 7 100000 shs ls22_0 rho ok = true := by kernel_rfl
theorem ok22_0 : Alls (Good1 7) ys22_0 := by
  have h := badsL_ok (by decide) bx22_0
  have key : ∀ b ∈ ys22_0, Alls (fun e => BoxOk Try.prog H22 7 100000 shs (b ++ e)) es2 := fun b hb => Alls.map (Alls.of fun x hx => h.get x (List.mem_flatMap.2 ⟨b, hb, hx⟩))
  exact Alls.of fun b hb => ⟨_, _, fun E => @TabOk.con E _ _ _ _ (@tacOk22 E), cov2 b, key b hb⟩
theorem ok22 : Alls (Good1 7) xs22 := ok22_0
def ys23_0 : List (List (Int × Int)) := [[(2, 2), (3, 3), (0, 0), (1, 1), (2, 2), (0, 0), (0, 0)], [(2, 2), (3, 3), (0, 0), (2, 2), (1, 1), (0, 0), (0, 0)], [(2, 2), (3, 3), (1, 1), (0, 0), (2, 2), (0, 0), (0, 0)], [(2, 2), (3, 3), (1, 1), (2, 2), (0, 0), (0, 0), (0, 0)]]
def ls23_0 : List (List (Int × Int)) := ys23_0.flatMap fun b => es3.map fun e => b ++ e
theorem bx23_0 (rho : Nat → Nat → Int) (ok : ∀ j l, ls23_0[j]? = some l → OkR l (rho j)) : badsL Try.prog H23 7 100000 shs ls23_0 rho ok = true := by kernel_rfl
theorem ok23_0 : Alls (Good1 7) ys23_0 := by
  have h := badsL_ok (by decide) bx23_0
  have key : ∀ b ∈ ys23_0, Alls (fun e => BoxOk Try.prog H23 7 100000 shs (b ++ e)) es3 := fun b hb => Alls.map (Alls.of fun x hx => h.get x (List.mem_flatMap.2 ⟨b, hb, hx⟩))
  exact Alls.of fun b hb => ⟨_, _, fun E => @TabOk.con E _ _ _ _ (@tacOk23 E), cov3 b, key b hb⟩
def ys23_1 : List (List (Int × Int)) := [[(2, 2), (3, 3), (2, 2), (0, 0), (1, 1), (0, 0), (0, 0)], [(2, 2), (3, 3), (2, 2), (1, 1), (0, 0), (0, 0), (0, 0)]]
def ls23_1 : List (List (Int × Int)) := ys23_1.flatMap fun b => es3.map fun e => b ++ e
theorem bx23_1 (rho : Nat → Nat → Int) (ok : ∀ j l, ls23_1[j]? = some l → OkR l (rho j)) : badsL Try.prog H23 7 100000 shs ls23_1 rho ok = true := by kernel_rfl
theorem ok23_1 : Alls (Good1 7) ys23_1 := by
  have h := badsL_ok (by decide) bx23_1
  have key : ∀ b ∈ ys23_1, Alls (fun e => BoxOk Try.prog H23 7 100000 shs (b ++ e)) es3 := fun b hb => Alls.map (Alls.of fun x hx => h.get x (List.mem_flatMap.2 ⟨b, hb, hx⟩))
  exact Alls.of fun b hb => ⟨_, _, fun E => @TabOk.con E _ _ _ _ (@tacOk23 E), cov3 b, key b hb⟩
theorem ok23 : Alls (Good1 7) xs23 := (Alls.append ok23_0 ok23_1)
def ys24_0 : List (List (Int × Int)) := [[(2, 2), (4, 4), (0, 0), (1, 1), (2, 2), (3, 3), (0, 0)], [(2, 2), (4, 4), (0, 0), (1, 1), (3, 3), (2, 2), (0, 0)], [(2, 2), (4, 4), (0, 0), (2, 2), (1, 1), (3, 3), (0, 0)], [(2, 2), (4, 4), (0, 0), (2, 2), (3, 3), (1, 1), (0, 0)]]
def ls24_0 : List (List (Int × Int)) := ys24_0.flatMap fun b => es4.map fun e => b ++ e
theorem bx24_0 (rho : Nat → Nat → Int) (ok : ∀ j l, ls24_0[j]? = some l → OkR l (rho j)) : badsL Try.prog H24 7 100000 shs ls24_0 rho ok = true := by kernel_rfl
theorem ok24_0 : Alls (Good1 7) ys24_0 := by
  have h := badsL_ok (by decide) bx24_0
  have key : ∀ b ∈ ys24_0, Alls (fun e => BoxOk Try.prog H24 7 100000 shs (b ++ e)) es4 := fun b hb => Alls.map (Alls.of fun x hx => h.get x (List.mem_flatMap.2 ⟨b, hb, hx⟩))
  exact Alls.of fun b hb => ⟨_, _, fun E => @TabOk.con E _ _ _ _ (@tacOk24 E), cov4 b, key b hb⟩
def ys24_1 : List (List (Int × Int)) := [[(2, 2), (4, 4), (0, 0), (3, 3), (1, 1), (2, 2), (0, 0)], [(2, 2), (4, 4), (0, 0), (3, 3), (2, 2), (1, 1), (0, 0)], [(2, 2), (4, 4), (1, 1), (0, 0), (2, 2), (3, 3), (0, 0)], [(2, 2), (4, 4), (1, 1), (0, 0), (3, 3), (2, 2), (0, 0)]]
def ls24_1 : List (List (Int × Int)) := ys24_1.flatMap fun b => es4.map fun e => b ++ e
theorem bx24_1 (rho : Nat → Nat → Int) (ok : ∀ j l, ls24_1[j]? = some l → OkR l (rho j)) : badsL Try.prog H24 7 100000 shs ls24_1 rho ok = true := by kernel_rfl
theorem ok24_1 : Alls (Good1 7) ys24_1 := by
  have h := badsL_ok (by decide) bx24_1
  have key : ∀ b ∈ ys24_1, Alls (fun e => BoxOk Try.prog H24 7 100000 shs (b ++ e)) es4 := fun b hb => Alls.map (Alls.of fun x hx => h.get x (List.mem_flatMap.2 ⟨b, hb, hx⟩))
  exact Alls.of fun b hb => ⟨_, _, fun E => @TabOk.con E _ _ _ _ (@tacOk24 E), cov4 b, key b hb⟩
def ys24_2 : List (List (Int × Int)) := [[(2, 2), (4, 4), (1, 1), (2, 2), (0, 0), (3, 3), (0, 0)], [(2, 2), (4, 4), (1, 1), (2, 2), (3, 3), (0, 0), (0, 0)], [(2, 2), (4, 4), (1, 1), (3, 3), (0, 0), (2, 2), (0, 0)], [(2, 2), (4, 4), (1, 1), (3, 3), (2, 2), (0, 0), (0, 0)]]
def ls24_2 : List (List (Int × Int)) := ys24_2.flatMap fun b => es4.map fun e => b ++ e
theorem bx24_2 (rho : Nat → Nat → Int) (ok : ∀ j l, ls24_2[j]? = some l → OkR l (rho j)) : badsL Try.prog H24 7 100000 shs ls24_2 rho ok = true := by kernel_rfl
theorem ok24_2 : Alls (Good1 7) ys24_2 := by
  have h := badsL_ok (by decide) bx24_2
  have key : ∀ b ∈ ys24_2, Alls (fun e => BoxOk Try.prog H24 7 100000 shs (b ++ e)) es4 := fun b hb => Alls.map (Alls.of fun x hx => h.get x (List.mem_flatMap.2 ⟨b, hb, hx⟩))
  exact Alls.of fun b hb => ⟨_, _, fun E => @TabOk.con E _ _ _ _ (@tacOk24 E), cov4 b, key b hb⟩
def ys24_3 : List (List (Int × Int)) := [[(2, 2), (4, 4), (2, 2), (0, 0), (1, 1), (3, 3), (0, 0)], [(2, 2), (4, 4), (2, 2), (0, 0), (3, 3), (1, 1), (0, 0)], [(2, 2), (4, 4), (2, 2), (1, 1), (0, 0), (3, 3), (0, 0)], [(2, 2), (4, 4), (2, 2), (1, 1), (3, 3), (0, 0), (0, 0)]]
def ls24_3 : List (List (Int × Int)) := ys24_3.flatMap fun b => es4.map fun e => b ++ e
theorem bx24_3 (rho : Nat → Nat → Int) (ok : ∀ j l, ls24_3[j]? = some l → OkR l (rho j)) : badsL Try.prog H24 7 100000 shs ls24_3 rho ok = true := by kernel_rfl
theorem ok24_3 : Alls (Good1 7) ys24_3 := by
  have h := badsL_ok (by decide) bx24_3
  have key : ∀ b ∈ ys24_3, Alls (fun e => BoxOk Try.prog H24 7 100000 shs (b ++ e)) es4 := fun b hb => Alls.map (Alls.of fun x hx => h.get x (List.mem_flatMap.2 ⟨b, hb, hx⟩))
  exact Alls.of fun b hb => ⟨_, _, fun E => @TabOk.con E _ _ _ _ (@tacOk24 E), cov4 b, key b hb⟩
def ys24_4 : List (List (Int × Int)) := [[(2, 2), (4, 4), (2, 2), (3, 3), (0, 0), (1, 1), (0, 0)], [(2, 2), (4, 4), (2, 2), (3, 3), (1, 1), (0, 0), (0, 0)], [(2, 2), (4, 4), (3, 3), (0, 0), (1, 1), (2, 2), (0, 0)], [(2, 2), (4, 4), (3, 3), (0, 0), (2, 2), (1, 1), (0, 0)]]
def ls24_4 : List (List (Int × Int)) := ys24_4.flatMap fun b => es4.map fun e => b ++ e
theorem bx24_4 (rho : Nat → Nat → Int) (ok : ∀ j l, ls24_4[j]? = some l → OkR l (rho j)) : badsL Try.prog H24 7 100000 shs ls24_4 rho ok = true := by kernel_rfl
theorem ok24_4 : Alls (Good1 7) ys24_4 := by
  have h := badsL_ok (by decide) bx24_4
  have key : ∀ b ∈ ys24_4, Alls (fun e => BoxOk Try.prog H24 7 100000 shs (b ++ e)) es4 := fun b hb => Alls.map (Alls.of fun x hx => h.get x (List.mem_flatMap.2 ⟨b, hb, hx⟩))
  exact Alls.of fun b hb => ⟨_, _, fun E => @TabOk.con E _ _ _ _ (@tacOk24 E), cov4 b, key b hb⟩
def ys24_5 : List (List (Int × Int)) := [[(2, 2), (4, 4), (3, 3), (1, 1), (0, 0), (2, 2), (0, 0)], [(2, 2), (4, 4), (3, 3), (1, 1), (2, 2), (0, 0), (0, 0)], [(2, 2), (4, 4), (3, 3), (2, 2), (0, 0), (1, 1), (0, 0)], [(2, 2), (4, 4), (3, 3), (2, 2), (1, 1), (0, 0), (0, 0)]]
def ls24_5 : List (List (Int × Int)) := ys24_5.flatMap fun b => es4.map fun e => b ++ e
theorem bx24_5 (rho : Nat → Nat → Int) (ok : ∀ j l, ls24_5[j]? = some l → OkR l (rho j)) : badsL Try.prog H24 7 100000 shs ls24_5 rho ok = true := by kernel_rfl
theorem ok24_5 : Alls (Good1 7) ys24_5 := by
  have h := badsL_ok (by decide) bx24_5
  have key : ∀ b ∈ ys24_5, Alls (fun e => BoxOk Try.prog H24 7 100000 shs (b ++ e)) es4 := fun b hb => Alls.map (Alls.of fun x hx => h.get x (List.mem_flatMap.2 ⟨b, hb, hx⟩))
  exact Alls.of fun b hb => ⟨_, _, fun E => @TabOk.con E _ _ _ _ (@tacOk24 E), cov4 b, key b hb⟩
theorem ok24 : Alls (Good1 7) xs24 := (Alls.append (Alls.append (Alls.append (Alls.append (Alls.append ok24_0 ok24_1) ok24_2) ok24_3) ok24_4) ok24_5)
end Go.Proofs.Ytigilihpofafoaa.ReplStaysP
