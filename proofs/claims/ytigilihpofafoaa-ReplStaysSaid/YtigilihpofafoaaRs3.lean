/- ReplStays: the walk where the state is valid and of kind 3. -/
import Derived.Test.YtigilihpofafoaaRsh
namespace Go.Proofs.Ytigilihpofafoaa.ReplStaysP
open Go Go.RowKit Loc Rm Rsh
set_option linter.unusedVariables false
def ys31_0 : List (List (Int × Int)) := [[(3, 3), (1, 1), (0, 0), (0, 0), (0, 0), (0, 0), (0, 0)], [(3, 3), (1, 1), (0, 0), (0, 0), (0, 0), (0, 0), (1, 1)], [(3, 3), (1, 1), (0, 0), (0, 0), (0, 0), (0, 0), (2, 2)], [(3, 3), (1, 1), (0, 0), (0, 0), (0, 0), (0, 0), (3, 3)]]
def ls31_0 : List (List (Int × Int)) := ys31_0.flatMap fun b => es1.map fun e => b ++ e
theorem bx31_0 (rho : Nat → Nat → Int) (ok : ∀ j l, ls31_0[j]? = some l → OkR l (rho j)) : badsL Try.prog H31 7 100000 shs ls31_0 rho ok = true := by kernel_rfl
theorem ok31_0 : Alls (Good1 7) ys31_0 := by
  have h := badsL_ok (by decide) bx31_0
  have key : ∀ b ∈ ys31_0, Alls (fun e => BoxOk Try.prog H31 7 100000 shs (b ++ e)) es1 := fun b hb => Alls.map (Alls.of fun x hx => h.get x (List.mem_flatMap.2 ⟨b, hb, hx⟩))
  exact Alls.of fun b hb => ⟨_, _, fun E => @TabOk.con E _ _ _ _ (@tacOk31 E), cov1 b, key b hb⟩
def ys31_1 : List (List (Int × Int)) := [[(3, 3), (1, 1), (0, 0), (0, 0), (0, 0), (0, 0), (4, 4)], [(3, 3), (1, 1), (0, 0), (0, 0), (0, 0), (0, 0), (5, 5)], [(3, 3), (1, 1), (0, 0), (0, 0), (0, 0), (0, 0), (6, 6)], [(3, 3), (1, 1), (0, 0), (0, 0), (0, 0), (0, 0), (7, 7)]]
def ls31_1 : List (List (Int × Int)) := ys31_1.flatMap fun b => es1.map fun e => b ++ e
theorem bx31_1 (rho : Nat → Nat → Int) (ok : ∀ j l, ls31_1[j]? = some l → OkR l (rho j)) : badsL Try.prog H31 7 100000 shs ls31_1 rho ok = true := by kernel_rfl
theorem ok31_1 : Alls (Good1 7) ys31_1 := by
  have h := badsL_ok (by decide) bx31_1
  have key : ∀ b ∈ ys31_1, Alls (fun e => BoxOk Try.prog H31 7 100000 shs (b ++ e)) es1 := fun b hb => Alls.map (Alls.of fun x hx => h.get x (List.mem_flatMap.2 ⟨b, hb, hx⟩))
  exact Alls.of fun b hb => ⟨_, _, fun E => @TabOk.con E _ _ _ _ (@tacOk31 E), cov1 b, key b hb⟩
theorem ok31 : Alls (Good1 7) xs31 := (Alls.append ok31_0 ok31_1)
def ys32_0 : List (List (Int × Int)) := [[(3, 3), (2, 2), (0, 0), (0, 0), (0, 0), (0, 0), (0, 0)], [(3, 3), (2, 2), (0, 0), (0, 0), (0, 0), (0, 0), (1, 1)], [(3, 3), (2, 2), (0, 0), (0, 0), (0, 0), (0, 0), (2, 2)], [(3, 3), (2, 2), (0, 0), (0, 0), (0, 0), (0, 0), (3, 3)]]
def ls32_0 : List (List (Int × Int)) := ys32_0.flatMap fun b => es2.map fun e => b ++ e
theorem bx32_0 (rho : Nat → Nat → Int) (ok : ∀ j l, ls32_0[j]? = some l → OkR l (rho j)) : badsL Try.prog H32 7 100000 shs ls32_0 rho ok = true := by kernel_rfl
theorem ok32_0 : Alls (Good1 7) ys32_0 := by
  have h := badsL_ok (by decide) bx32_0
  have key : ∀ b ∈ ys32_0, Alls (fun e => BoxOk Try.prog H32 7 100000 shs (b ++ e)) es2 := fun b hb => Alls.map (Alls.of fun x hx => h.get x (List.mem_flatMap.2 ⟨b, hb, hx⟩))
  exact Alls.of fun b hb => ⟨_, _, fun E => @TabOk.con E _ _ _ _ (@tacOk32 E), cov2 b, key b hb⟩
def ys32_1 : List (List (Int × Int)) := [[(3, 3), (2, 2), (0, 0), (0, 0), (0, 0), (0, 0), (4, 4)], [(3, 3), (2, 2), (0, 0), (0, 0), (0, 0), (0, 0), (5, 5)], [(3, 3), (2, 2), (0, 0), (0, 0), (0, 0), (0, 0), (6, 6)], [(3, 3), (2, 2), (0, 0), (0, 0), (0, 0), (0, 0), (7, 7)]]
def ls32_1 : List (List (Int × Int)) := ys32_1.flatMap fun b => es2.map fun e => b ++ e
theorem bx32_1 (rho : Nat → Nat → Int) (ok : ∀ j l, ls32_1[j]? = some l → OkR l (rho j)) : badsL Try.prog H32 7 100000 shs ls32_1 rho ok = true := by kernel_rfl
theorem ok32_1 : Alls (Good1 7) ys32_1 := by
  have h := badsL_ok (by decide) bx32_1
  have key : ∀ b ∈ ys32_1, Alls (fun e => BoxOk Try.prog H32 7 100000 shs (b ++ e)) es2 := fun b hb => Alls.map (Alls.of fun x hx => h.get x (List.mem_flatMap.2 ⟨b, hb, hx⟩))
  exact Alls.of fun b hb => ⟨_, _, fun E => @TabOk.con E _ _ _ _ (@tacOk32 E), cov2 b, key b hb⟩
theorem ok32 : Alls (Good1 7) xs32 := (Alls.append ok32_0 ok32_1)
def ys33_0 : List (List (Int × Int)) := [[(3, 3), (3, 3), (0, 0), (0, 0), (0, 0), (0, 0), (0, 0)], [(3, 3), (3, 3), (0, 0), (0, 0), (0, 0), (0, 0), (1, 1)], [(3, 3), (3, 3), (0, 0), (0, 0), (0, 0), (0, 0), (2, 2)], [(3, 3), (3, 3), (0, 0), (0, 0), (0, 0), (0, 0), (3, 3)]]
def ls33_0 : List (List (Int × Int)) := ys33_0.flatMap fun b => es3.map fun e => b ++ e
theorem bx33_0 (rho : Nat → Nat → Int) (ok : ∀ j l, ls33_0[j]? = some l → OkR l (rho j)) : badsL Try.prog H33 7 100000 shs ls33_0 rho ok = true := by kernel_rfl
theorem ok33_0 : Alls (Good1 7) ys33_0 := by
  have h := badsL_ok (by decide) bx33_0
  have key : ∀ b ∈ ys33_0, Alls (fun e => BoxOk Try.prog H33 7 100000 shs (b ++ e)) es3 := fun b hb => Alls.map (Alls.of fun x hx => h.get x (List.mem_flatMap.2 ⟨b, hb, hx⟩))
  exact Alls.of fun b hb => ⟨_, _, fun E => @TabOk.con E _ _ _ _ (@tacOk33 E), cov3 b, key b hb⟩
def ys33_1 : List (List (Int × Int)) := [[(3, 3), (3, 3), (0, 0), (0, 0), (0, 0), (0, 0), (4, 4)], [(3, 3), (3, 3), (0, 0), (0, 0), (0, 0), (0, 0), (5, 5)], [(3, 3), (3, 3), (0, 0), (0, 0), (0, 0), (0, 0), (6, 6)], [(3, 3), (3, 3), (0, 0), (0, 0), (0, 0), (0, 0), (7, 7)]]
def ls33_1 : List (List (Int × Int)) := ys33_1.flatMap fun b => es3.map fun e => b ++ e
theorem bx33_1 (rho : Nat → Nat → Int) (ok : ∀ j l, ls33_1[j]? = some l → OkR l (rho j)) : badsL Try.prog H33 7 100000 shs ls33_1 rho ok = true := by kernel_rfl
theorem ok33_1 : Alls (Good1 7) ys33_1 := by
  have h := badsL_ok (by decide) bx33_1
  have key : ∀ b ∈ ys33_1, Alls (fun e => BoxOk Try.prog H33 7 100000 shs (b ++ e)) es3 := fun b hb => Alls.map (Alls.of fun x hx => h.get x (List.mem_flatMap.2 ⟨b, hb, hx⟩))
  exact Alls.of fun b hb => ⟨_, _, fun E => @TabOk.con E _ _ _ _ (@tacOk33 E), cov3 b, key b hb⟩
theorem ok33 : Alls (Good1 7) xs33 := (Alls.append ok33_0 ok33_1)
def ys34_0 : List (List (Int × Int)) := [[(3, 3), (4, 4), (0, 0), (0, 0), (0, 0), (0, 0), (0, 0)], [(3, 3), (4, 4), (0, 0), (0, 0), (0, 0), (0, 0), (1, 1)], [(3, 3), (4, 4), (0, 0), (0, 0), (0, 0), (0, 0), (2, 2)], [(3, 3), (4, 4), (0, 0), (0, 0), (0, 0), (0, 0), (3, 3)]]
def ls34_0 : List (List (Int × Int)) := ys34_0.flatMap fun b => es4.map fun e => b ++ e
theorem bx34_0 (rho : Nat → Nat → Int) (ok : ∀ j l, ls34_0[j]? = some l → OkR l (rho j)) : badsL Try.prog H34 7 100000 shs ls34_0 rho ok = true := by kernel_rfl
theorem ok34_0 : Alls (Good1 7) ys34_0 := by
  have h := badsL_ok (by decide) bx34_0
  have key : ∀ b ∈ ys34_0, Alls (fun e => BoxOk Try.prog H34 7 100000 shs (b ++ e)) es4 := fun b hb => Alls.map (Alls.of fun x hx => h.get x (List.mem_flatMap.2 ⟨b, hb, hx⟩))
  exact Alls.of fun b hb => ⟨_, _, fun E => @TabOk.con E _ _ _ _ (@tacOk34 E), cov4 b, key b hb⟩
def ys34_1 : List (List (Int × Int)) := [[(3, 3), (4, 4), (0, 0), (0, 0), (0, 0), (0, 0), (4, 4)], [(3, 3), (4, 4), (0, 0), (0, 0), (0, 0), (0, 0), (5, 5)], [(3, 3), (4, 4), (0, 0), (0, 0), (0, 0), (0, 0), (6, 6)], [(3, 3), (4, 4), (0, 0), (0, 0), (0, 0), (0, 0), (7, 7)]]
def ls34_1 : List (List (Int × Int)) := ys34_1.flatMap fun b => es4.map fun e => b ++ e
theorem bx34_1 (rho : Nat → Nat → Int) (ok : ∀ j l, ls34_1[j]? = some l → OkR l (rho j)) : badsL Try.prog H34 7 100000 shs ls34_1 rho ok = true := by kernel_rfl
theorem ok34_1 : Alls (Good1 7) ys34_1 := by
  have h := badsL_ok (by decide) bx34_1
  have key : ∀ b ∈ ys34_1, Alls (fun e => BoxOk Try.prog H34 7 100000 shs (b ++ e)) es4 := fun b hb => Alls.map (Alls.of fun x hx => h.get x (List.mem_flatMap.2 ⟨b, hb, hx⟩))
  exact Alls.of fun b hb => ⟨_, _, fun E => @TabOk.con E _ _ _ _ (@tacOk34 E), cov4 b, key b hb⟩
theorem ok34 : Alls (Good1 7) xs34 := (Alls.append ok34_0 ok34_1)
end Go.Proofs.Ytigilihpofafoaa.ReplStaysP
