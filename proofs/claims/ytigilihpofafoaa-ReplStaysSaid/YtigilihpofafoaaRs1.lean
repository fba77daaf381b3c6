/- ReplStays: the walk where the state is valid and of kind 1. -/
import Derived.Test.YtigilihpofafoaaRsh
namespace Go.Proofs.Ytigilihpofafoaa.ReplStaysP
open Go Go.RowKit Loc Rm Rsh
set_option linter.unusedVariables false
def ys11_0 : List (List (Int × Int)) := [[(1, 1), (1, 1), (0, 0), (0, 0), (0, 0), (0, 0), (0, 0)]]
def ls11_0 : List (List (Int × Int)) := ys11_0.flatMap fun b => es1.map fun e => b ++ e
theorem bx11_0 (rho : Nat → Nat → Int) (ok : ∀ j l, ls11_0[j]? = some l → OkR l (rho j)) : badsL Try.prog H11 7 100000 shs ls11_0 rho ok = true := by kernel_rfl
theorem ok11_0 : Alls (Good1 7) ys11_0 := by
  have h := badsL_ok (by decide) bx11_0
  have key : ∀ b ∈ ys11_0, Alls (fun e => BoxOk Try.prog H11 7 100000 shs (b ++ e)) es1 := fun b hb => Alls.map (Alls.of fun x hx => h.get x (List.mem_flatMap.2 ⟨b, hb, hx⟩))
  exact Alls.of fun b hb => ⟨_, _, fun E => @TabOk.con E _ _ _ _ (@tacOk11 E), cov1 b, key b hb⟩
theorem ok11 : Alls (Good1 7) xs11 := ok11_0
def ys12_0 : List (List (Int × Int)) := [[(1, 1), (2, 2), (0, 0), (1, 1), (0, 0), (0, 0), (0, 0)], [(1, 1), (2, 2), (1, 1), (0, 0), (0, 0), (0, 0), (0, 0)]]
def ls12_0 : List (List (Int × Int)) := ys12_0.flatMap fun b => es2.map fun e => b ++ e
theorem bx12_0 (rho : Nat → Nat → Int) (ok : ∀ j l, ls12_0[j]? = some l → OkR l (rho j)) : badsL Try.prog H12 7 100000 shs ls12_0 rho ok = true := by kernel_rfl
theorem ok12_0 : Alls (Good1 7) ys12_0 := by
  have h := badsL_ok (by decide) bx12_0
  have key : ∀ b ∈ ys12_0, Alls (fun e => BoxOk Try.prog H12 7 100000 shs (b ++ e)) es2 := fun b hb => Alls.map (Alls.of fun x hx => h.get x (List.mem_flatMap.2 ⟨b, hb, hx⟩))
  exact Alls.of fun b hb => ⟨_, _, fun E => @TabOk.con E _ _ _ _ (@tacOk12 E), cov2 b, key b hb⟩
theorem ok12 : Alls (Good1 7) xs12 := ok12_0
def ys13_0 : List (List (Int × Int)) := [[(1, 1), (3, 3), (0, 0), (1, 1), (2, 2), (0, 0), (0, 0)], [(1, 1), (3, 3), (0, 0), (2, 2), (1, 1), (0, 0), (0, 0)], [(1, 1), (3, 3), (1, 1), (0, 0), (2, 2), (0, 0), (0, 0)], [(1, 1), (3, 3), (1, 1), (2, 2), (0, 0), (0, 0), (0, 0)]]
def ls13_0 : List (List (Int × Int)) := ys13_0.flatMap fun b => es3.map fun e => b ++ e
theorem bx13_0 (rho : Nat → Nat → Int) (ok : ∀ j l, ls13_0[j]? = some l → OkR l (rho j)) : badsL Try.prog H13 7 100000 shs ls13_0 rho ok = true := by kernel_rfl
theorem ok13_0 : Alls (Good1 7) ys13_0 := by
  have h := badsL_ok (by decide) bx13_0
  have key : ∀ b ∈ ys13_0, Alls (fun e => BoxOk Try.prog H13 7 100000 shs (b ++ e)) es3 := fun b hb => Alls.map (Alls.of fun x hx => h.get x (List.mem_flatMap.2 ⟨b, hb, hx⟩))
  exact Alls.of fun b hb => ⟨_, _, fun E => @TabOk.con E _ _ _ _ (@tacOk13 E), cov3 b, key b hb⟩
def ys13_1 : List (List (Int × Int)) := [[(1, 1), (3, 3), (2, 2), (0, 0), (1, 1), (0, 0), (0, 0)], [(1, 1), (3, 3), (2, 2), (1, 1), (0, 0), (0, 0), (0, 0)]]
def ls13_1 : List (List (Int × Int)) := ys13_1.flatMap fun b => es3.map fun e => b ++ e
theorem bx13_1 (rho : Nat → Nat → Int) (ok : ∀ j l, ls13_1[j]? = some l → OkR l (rho j)) : badsL Try.prog H13 7 100000 shs ls13_1 rho ok = true := by kernel_rfl
theorem ok13_1 : Alls (Good1 7) ys13_1 := by
  have h := badsL_ok (by decide) bx13_1
  have key : ∀ b ∈ ys13_1, Alls (fun e => BoxOk Try.prog H13 7 100000 shs (b ++ e)) es3 := fun b hb => Alls.map (Alls.of fun x hx => h.get x (List.mem_flatMap.2 ⟨b, hb, hx⟩))
  exact Alls.of fun b hb => ⟨_, _, fun E => @TabOk.con E _ _ _ _ (@tacOk13 E), cov3 b, key b hb⟩
theorem ok13 : Alls (Good1 7) xs13 := (Alls.append ok13_0 ok13_1)
def ys14_0 : List (List (Int × Int)) := [[(1, 1), (4, 4), (0, 0), (1, 1), (2, 2), (3, 3), (0, 0)], [(1, 1), (4, 4), (0, 0), (1, 1), (3, 3), (2, 2), (0, 0)], [(1, 1), (4, 4), (0, 0), (2, 2), (1, 1), (3, 3), (0, 0)], [(1, 1), (4, 4), (0, 0), (2, 2), (3, 3), (1, 1), (0, 0)]]
def ls14_0 : List (List (Int × Int)) := ys14_0.flatMap fun b => es4.map fun e => b ++ e
theorem bx14_0 (rho : Nat → Nat → Int) (ok : ∀ j l, ls14_0[j]? = some l → OkR l (rho j)) : badsL Try.prog H14 7 100000 shs ls14_0 rho ok = true := by kernel_rfl
theorem ok14_0 : Alls (Good1 7) ys14_0 := by
  have h := badsL_ok (by decide) bx14_0
  have key : ∀ b ∈ ys14_0, Alls (fun e => BoxOk Try.prog H14 7 100000 shs (b ++ e)) es4 := fun b hb => Alls.map (Alls.of fun x hx => h.get x (List.mem_flatMap.2 ⟨b, hb, hx⟩))
  exact Alls.of fun b hb => ⟨_, _, fun E => @TabOk.con E _ _ _ _ (@tacOk14 E), cov4 b, key b hb⟩
def ys14_1 : List (List (Int × Int)) := [[(1, 1), (4, 4), (0, 0), (3, 3), (1, 1), (2, 2), (0, 0)], [(1, 1), (4, 4), (0, 0), (3, 3), (2, 2), (1, 1), (0, 0)], [(1, 1), (4, 4), (1, 1), (0, 0), (2, 2), (3, 3), (0, 0)], [(1, 1), (4, 4), (1, 1), (0, 0), (3, 3), (2, 2), (0, 0)]]
def ls14_1 : List (List (Int × Int)) := ys14_1.flatMap fun b => es4.map fun e => b ++ e
theorem bx14_1 (rho : Nat → Nat → Int) (ok : ∀ j l, ls14_1[j]? = some l → OkR l (rho j)) : badsL Try.prog H14 7 100000 shs ls14_1 rho ok = true := by kernel_rfl
theorem ok14_1 : Alls (Good1 7) ys14_1 := by
  have h := badsL_ok (by decide) bx14_1
  have key : ∀ b ∈ ys14_1, Alls (fun e => BoxOk Try.prog H14 7 100000 shs (b ++ e)) es4 := fun b hb => Alls.map (Alls.of fun x hx => h.get x (List.mem_flatMap.2 ⟨b, hb, hx⟩))
  exact Alls.of fun b hb => ⟨_, _, fun E => @TabOk.con E _ _ _ _ (@tacOk14 E), cov4 b, key b hb⟩
def ys14_2 : List (List (Int × Int)) := [[(1, 1), (4, 4), (1, 1), (2, 2), (0, 0), (3, 3), (0, 0)], [(1, 1), (4, 4), (1, 1), (2, 2), (3, 3), (0, 0), (0, 0)], [(1, 1), (4, 4), (1, 1), (3, 3), (0, 0), (2, 2), (0, 0)], [(1, 1), (4, 4), (1, 1), (3, 3), (2, 2), (0, 0), (0, 0)]]
def ls14_2 : List (List (Int × Int)) := ys14_2.flatMap fun b => es4.map fun e => b ++ e
theorem bx14_2 (rho : Nat → Nat → Int) (ok : ∀ j l, ls14_2[j]? = some l → OkR l (rho j)) : badsL Try.prog H14 7 100000 shs ls14_2 rho ok = true := by kernel_rfl
theorem ok14_2 : Alls (Good1 7) ys14_2 := by
  have h := badsL_ok (by decide) bx14_2
  have key : ∀ b ∈ ys14_2, Alls (fun e => BoxOk Try.prog H14 7 100000 shs (b ++ e)) es4 := fun b hb => Alls.map (Alls.of fun x hx => h.get x (List.mem_flatMap.2 ⟨b, hb, hx⟩))
  exact Alls.of fun b hb => ⟨_, _, fun E => @TabOk.con E _ _ _ _ (@tacOk14 E), cov4 b, key b hb⟩
def ys14_3 : List (List (Int × Int)) := [[(1, 1), (4, 4), (2, 2), (0, 0), (1, 1), (3, 3), (0, 0)], [(1, 1), (4, 4), (2, 2), (0, 0), (3, 3), (1, 1), (0, 0)], [(1, 1), (4, 4), (2, 2), (1, 1), (0, 0), (3, 3), (0, 0)], [(1, 1), (4, 4), (2, 2), (1, 1), (3, 3), (0, 0), (0, 0)]]
def ls14_3 : List (List (Int × Int)) := ys14_3.flatMap fun b => es4.map fun e => b ++ e
theorem bx14_3 (rho : Nat → Nat → Int) (ok : ∀ j l, ls14_3[j]? = some l → OkR l (rho j)) : badsL Try.prog H14 7 100000 shs ls14_3 rho ok = true := by kernel_rfl
theorem ok14_3 : Alls (Good1 7) ys14_3 := by
  have h := badsL_ok (by decide) bx14_3
  have key : ∀ b ∈ ys14_3, Alls (fun e => BoxOk Try.prog H14 7 100000 shs (b ++ e)) es4 := fun b hb => Alls.map (Alls.of fun x hx => h.get x (List.mem_flatMap.2 ⟨b, hb, hx⟩))
  exact Alls.of fun b hb => ⟨_, _, fun E => @TabOk.con E _ _ _ _ (@tacOk14 E), cov4 b, key b hb⟩
def ys14_4 : List (List (Int × Int)) := [[(1, 1), (4, 4), (2, 2), (3, 3), (0, 0), (1, 1), (0, 0)], [(1, 1), (4, 4), (2, 2), (3, 3), (1, 1), (0, 0), (0, 0)], [(1, 1), (4, 4), (3, 3), (0, 0), (1, 1), (2, 2), (0, 0)], [(1, 1), (4, 4), (3, 3), (0, 0), (2, 2), (1, 1), (0, 0)]]
def ls14_4 : List (List (Int × Int)) := ys14_4.flatMap fun b => es4.map fun e => b ++ e
theorem bx14_4 (rho : Nat → Nat → Int) (ok : ∀ j l, ls14_4[j]? = some l → OkR l (rho j)) : badsL Try.prog H14 7 100000 shs ls14_4 rho ok = true := by kernel_rfl
theorem ok14_4 : Alls (Good1 7) ys14_4 := by
  have h := badsL_ok (by decide) bx14_4
  have key : ∀ b ∈ ys14_4, Alls (fun e => BoxOk Try.prog H14 7 100000 shs (b ++ e)) es4 := fun b hb => Alls.map (Alls.of fun x hx => h.get x (List.mem_flatMap.2 ⟨b, hb, hx⟩))
  exact Alls.of fun b hb => ⟨_, _, fun E => @TabOk.con E _ _ _ _ (@tacOk14 E), cov4 b, key b hb⟩
def ys14_5 : List (List (Int × Int)) := [[(1, 1), (4, 4), (3, 3), (1, 1), (0, 0), (2, 2), (0, 0)], [(1, 1), (4, 4), (3, 3), (1, 1), (2, 2), (0, 0), (0, 0)], [(1, 1), (4, 4), (3, 3), (2, 2), (0, 0), (1, 1), (0, 0)], [(1, 1), (4, 4), (3, 3), (2, 2), (1, 1), (0, 0), (0, 0)]]
def ls14_5 : List (List (Int × Int)) := ys14_5.flatMap fun b => es4.map fun e => b ++ e
theorem bx14_5 (rho : Nat → Nat → Int) (ok : ∀ j l, ls14_5[j]? = some l → OkR l (rho j)) : badsL Try.prog H14 7 100000 shs ls14_5 rho ok = true := by kernel_rfl
theorem ok14_5 : Alls (Good1 7) ys14_5 := by
  have h := badsL_ok (by decide) bx14_5
  have key : ∀ b ∈ ys14_5, Alls (fun e => BoxOk Try.prog H14 7 100000 shs (b ++ e)) es4 := fun b hb => Alls.map (Alls.of fun x hx => h.get x (List.mem_flatMap.2 ⟨b, hb, hx⟩))
  exact Alls.of fun b hb => ⟨_, _, fun E => @TabOk.con E _ _ _ _ (@tacOk14 E), cov4 b, key b hb⟩
theorem ok14 : Alls (Good1 7) xs14 := (Alls.append (Alls.append (Alls.append (Alls.append (Alls.append ok14_0 ok14_1) ok14_2) ok14_3) ok14_4) ok14_5)
end Go.Proofs.Ytigilihpofafoaa.ReplStaysP
