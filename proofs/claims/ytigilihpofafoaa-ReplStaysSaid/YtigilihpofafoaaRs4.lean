/- ReplStays: the walk where the state is valid and of kind 4. -/
import Derived.Test.YtigilihpofafoaaRsh
namespace Go.Proofs.Ytigilihpofafoaa.ReplStaysP
open Go Go.RowKit Loc Rm Rsh
set_option linter.unusedVariables false
def ys41_0 : List (List (Int × Int)) := [[(4, 4), (1, 1), (0, 0), (0, 0), (0, 0), (0, 0), (0, 0)]]
def ls41_0 : List (List (Int × Int)) := ys41_0.flatMap fun b => es1.map fun e => b ++ e
theorem bx41_0 (rho : Nat → Nat → Int) (ok : ∀ j l, ls41_0[j]? = some l → OkR l (rho j)) : badsL Try.prog H41 7 100000 shs ls41_0 rho ok = true := by kernel_rfl
theorem ok41_0 : Alls (Good1 7) ys41_0 := by
  have h := badsL_ok (by decide) bx41_0
  have key : ∀ b ∈ ys41_0, Alls (fun e => BoxOk Try.prog H41 7 100000 shs (b ++ e)) es1 := fun b hb => Alls.map (Alls.of fun x hx => h.get x (List.mem_flatMap.2 ⟨b, hb, hx⟩))
  exact Alls.of fun b hb => ⟨_, _, fun E => @TabOk.con E _ _ _ _ (@tacOk41 E), cov1 b, key b hb⟩
theorem ok41 : Alls (Good1 7) xs41 := ok41_0
def ys42_0 : List (List (Int × Int)) := [[(4, 4), (2, 2), (0, 0), (1, 1), (0, 0), (0, 0), (0, 0)], [(4, 4), (2, 2), (1, 1), (0, 0), (0, 0), (0, 0), (0, 0)]]
def ls42_0 : List (List (Int × Int)) := ys42_0.flatMap fun b => es2.map fun e => b ++ e
theorem bx42_0 (rho : Nat → Nat → Int) (ok : ∀ j l, ls42_0[j]? = some l → OkR l (rho j)) : badsL Try.prog H42 7 100000 shs ls42_0 rho ok = true := by kernel_rfl
theorem ok42_0 : Alls (Good1 7) ys42_0 := by
  have h := badsL_ok (by decide) bx42_0
  have key : ∀ b ∈ ys42_0, Alls (fun e => BoxOk Try.prog H42 7 100000 shs (b ++ e)) es2 := fun b hb => Alls.map (Alls.of fun x hx => h.get x (List.mem_flatMap.2 ⟨b, hb, hx⟩))
  exact Alls.of fun b hb => ⟨_, _, fun E => @TabOk.con E _ _ _ _ (@tacOk42 E), cov2 b, key b hb⟩
theorem ok42 : Alls (Good1 7) xs42 := ok42_0
def ys43_0 : List (List (Int × Int)) := [[(4, 4), (3, 3), (0, 0), (1, 1), (2, 2), (0, 0), (0, 0)], [(4, 4), (3, 3), (0, 0), (2, 2), (1, 1), (0, 0), (0, 0)], [(4, 4), (3, 3), (1, 1), (0, 0), (2, 2), (0, 0), (0, 0)], [(4, 4), (3, 3), (1, 1), (2, 2), (0, 0), (0, 0), (0, 0)]]
def ls43_0 : List (List (Int × Int)) := ys43_0.flatMap fun b => es3.map fun e => b ++ e
theorem bx43_0 (rho : Nat → Nat → Int) (ok : ∀ j l, ls43_0[j]? = some l → OkR l (rho j)) : badsL Try.prog H43 7 100000 shs ls43_0 rho ok = true := by kernel_rfl
theorem ok43_0 : Alls (Good1 7) ys43_0 := by
  have h := badsL_ok (by decide) bx43_0
  have key : ∀ b ∈ ys43_0, Alls (fun e => BoxOk Try.prog H43 7 100000 shs (b ++ e)) es3 := fun b hb => Alls.map (Alls.of fun x hx => h.get x (List.mem_flatMap.2 ⟨b, hb, hx⟩))
  exact Alls.of fun b hb => ⟨_, _, fun E => @TabOk.con E _ _ _ _ (@tacOk43 E), cov3 b, key b hb⟩
def ys43_1 : List (List (Int × Int)) := [[(4, 4), (3, 3), (2, 2), (0, 0), (1, 1), (0, 0), (0, 0)], [(4, 4), (3, 3), (2, 2), (1, 1), (0, 0), (0, 0), (0, 0)]]
def ls43_1 : List (List (Int × Int)) := ys43_1.flatMap fun b => es3.map fun e => b ++ e
theorem bx43_1 (rho : Nat → Nat → Int) (ok : ∀ j l, ls43_1[j]? = some l → OkR l (rho j)) : badsL Try.prog H43 7 100000 shs ls43_1 rho ok = true := by kernel_rfl
theorem ok43_1 : Alls (Good1 7) ys43_1 := by
  have h := badsL_ok (by decide) bx43_1
  have key : ∀ b ∈ ys43_1, Alls (fun e => BoxOk Try.prog H43 7 100000 shs (b ++ e)) es3 := fun b hb => Alls.map (Alls.of fun x hx => h.get x (List.mem_flatMap.2 ⟨b, hb, hx⟩))
  exact Alls.of fun b hb => ⟨_, _, fun E => @TabOk.con E _ _ _ _ (@tacOk43 E), cov3 b, key b hb⟩
theorem ok43 : Alls (Good1 7) xs43 := (Alls.append ok43_0 ok43_1)
def ys44_0 : List (List (Int × Int)) := [[(4, 4), (4, 4), (0, 0), (1, 1), (2, 2), (3, 3), (0, 0)], [(4, 4), (4, 4), (0, 0), (1, 1), (3, 3), (2, 2), (0, 0)], [(4, 4), (4, 4), (0, 0), (2, 2), (1, 1), (3, 3), (0, 0)], [(4, 4), (4, 4), (0, 0), (2, 2), (3, 3), (1, 1), (0, 0)]]
def ls44_0 : List (List (Int × Int)) := ys44_0.flatMap fun b => es4.map fun e => b ++ e
theorem bx44_0 (rho : Nat → Nat → Int) (ok : ∀ j l, ls44_0[j]? = some l → OkR l (rho j)) : badsL Try.prog H44 7 100000 shs ls44_0 rho ok = true := by kernel_rfl
theorem ok44_0 : Alls (Good1 7) ys44_0 := by
  have h := badsL_ok (by decide) bx44_0
  have key : ∀ b ∈ ys44_0, Alls (fun e => BoxOk Try.prog H44 7 100000 shs (b ++ e)) es4 := fun b hb => Alls.map (Alls.of fun x hx => h.get x (List.mem_flatMap.2 ⟨b, hb, hx⟩))
  exact Alls.of fun b hb => ⟨_, _, fun E => @TabOk.con E _ _ _ _ (@tacOk44 E), cov4 b, key b hb⟩
def ys44_1 : List (List (Int × Int)) := [[(4, 4), (4, 4), (0, 0), (3, 3), (1, 1), (2, 2), (0, 0)], [(4, 4), (4, 4), (0, 0), (3, 3), (2, 2), (1, 1), (0, 0)], [(4, 4), (4, 4), (1, 1), (0, 0), (2, 2), (3, 3), (0, 0)], [(4, 4), (4, 4), (1, 1), (0, 0), (3, 3), (2, 2), (0, 0)]]
def ls44_1 : List (List (Int × Int)) := ys44_1.flatMap fun b => es4.map fun e => b ++ e
theorem bx44_1 (rho : Nat → Nat → Int) (ok : ∀ j l, ls44_1[j]? = some l → OkR l (rho j)) : badsL Try.prog H44 7 100000 shs ls44_1 rho ok = true := by kernel_rfl
theorem ok44_1 : Alls (Good1 7) ys44_1 := by
  have h := badsL_ok (by decide) bx44_1
  have key : ∀ b ∈ ys44_1, Alls (fun e => BoxOk Try.prog H44 7 100000 shs (b ++ e)) es4 := fun b hb => Alls.map (Alls.of fun x hx => h.get x (List.mem_flatMap.2 ⟨b, hb, hx⟩))
  exact Alls.of fun b hb => ⟨_, _, fun E => @TabOk.con E _ _ _ _ (@tacOk44 E), cov4 b, key b hb⟩
def ys44_2 : List (List (Int × Int)) := [[(4, 4), (4, 4), (1, 1), (2, 2), (0, 0), (3, 3), (0, 0)], [(4, 4), (4, 4), (1, 1), (2, 2), (3, 3), (0, 0), (0, 0)], [(4, 4), (4, 4), (1, 1), (3, 3), (0, 0), (2, 2), (0, 0)], [(4, 4), (4, 4), (1, 1), (3, 3), (2, 2), (0, 0), (0, 0)]]
def ls44_2 : List (List (Int × Int)) := ys44_2.flatMap fun b => es4.map fun e => b ++ e
theorem bx44_2 (rho : Nat → Nat → Int) (ok : ∀ j l, ls44_2[j]? = some l → OkR l (rho j)) : badsL Try.prog H44 7 100000 shs ls44_2 rho ok = true := by kernel_rfl
theorem ok44_2 : Alls (Good1 7) ys44_2 := by
  have h := badsL_ok (by decide) bx44_2
  have key : ∀ b ∈ ys44_2, Alls (fun e => BoxOk Try.prog H44 7 100000 shs (b ++ e)) es4 := fun b hb => Alls.map (Alls.of fun x hx => h.get x (List.mem_flatMap.2 ⟨b, hb, hx⟩))
  exact Alls.of fun b hb => ⟨_, _, fun E => @TabOk.con E _ _ _ _ (@tacOk44 E), cov4 b, key b hb⟩
def ys44_3 : List (List (Int × Int)) := [[(4, 4), (4, 4), (2, 2), (0, 0), (1, 1), (3, 3), (0, 0)], [(4, 4), (4, 4), (2, 2), (0, 0), (3, 3), (1, 1), (0, 0)], [(4, 4), (4, 4), (2, 2), (1, 1), (0, 0), (3, 3), (0, 0)], [(4, 4), (4, 4), (2, 2), (1, 1), (3, 3), (0, 0), (0, 0)]]
def ls44_3 : List (List (Int × Int)) := ys44_3.flatMap fun b => es4.map fun e => b ++ e
theorem bx44_3 (rho : Nat → Nat → Int) (ok : ∀ j l, ls44_3[j]? = some l → OkR l (rho j)) : badsL Try.prog H44 7 100000 shs ls44_3 rho ok = true := by kernel_rfl
theorem ok44_3 : Alls (Good1 7) ys44_3 := by
  have h := badsL_ok (by decide) bx44_3
  have key : ∀ b ∈ ys44_3, Alls (fun e => BoxOk Try.prog H44 7 100000 shs (b ++ e)) es4 := fun b hb => Alls.map (Alls.of fun x hx => h.get x (List.mem_flatMap.2 ⟨b, hb, hx⟩))
  exact Alls.of fun b hb => ⟨_, _, fun E => @TabOk.con E _ _ _ _ (@tacOk44 E), cov4 b, key b hb⟩
def ys44_4 : List (List (Int × Int)) := [[(4, 4), (4, 4), (2, 2), (3, 3), (0, 0), (1, 1), (0, 0)], [(4, 4), (4, 4), (2, 2), (3, 3), (1, 1), (0, 0), (0, 0)], [(4, 4), (4, 4), (3, 3), (0, 0), (1, 1), (2, 2), (0, 0)], [(4, 4), (4, 4), (3, 3), (0, 0), (2, 2), (1, 1), (0, 0)]]
def ls44_4 : List (List (Int × Int)) := ys44_4.flatMap fun b => es4.map fun e => b ++ e
theorem bx44_4 (rho : Nat → Nat → Int) (ok : ∀ j l, ls44_4[j]? = some l → OkR l (rho j)) : badsL Try.prog H44 7 100000 shs ls44_4 rho ok = true := by kernel_rfl
theorem ok44_4 : Alls (Good1 7) ys44_4 := by
  have h := badsL_ok (by decide) bx44_4
  have key : ∀ b ∈ ys44_4, Alls (fun e => BoxOk Try.prog H44 7 100000 shs (b ++ e)) es4 := fun b hb => Alls.map (Alls.of fun x hx => h.get x (List.mem_flatMap.2 ⟨b, hb, hx⟩))
  exact Alls.of fun b hb => ⟨_, _, fun E => @TabOk.con E _ _ _ _ (@tacOk44 E), cov4 b, key b hb⟩
def ys44_5 : List (List (Int × Int)) := [[(4, 4), (4, 4), (3, 3), (1, 1), (0, 0), (2, 2), (0, 0)], [(4, 4), (4, 4), (3, 3), (1, 1), (2, 2), (0, 0), (0, 0)], [(4, 4), (4, 4), (3, 3), (2, 2), (0, 0), (1, 1), (0, 0)], [(4, 4), (4, 4), (3, 3), (2, 2), (1, 1), (0, 0), (0, 0)]]
def ls44_5 : List (List (Int × Int)) := ys44_5.flatMap fun b => es4.map fun e => b ++ e
theorem bx44_5 (rho : Nat → Nat → Int) (ok : ∀ j l, ls44_5[j]? = some l → OkR l (rho j)) : badsL Try.prog H44 7 100000 shs ls44_5 rho ok = true := by kernel_rfl
theorem ok44_5 : Alls (Good1 7) ys44_5 := by
  have h := badsL_ok (by decide) bx44_5
  have key : ∀ b ∈ ys44_5, Alls (fun e => BoxOk Try.prog H44 7 100000 shs (b ++ e)) es4 := fun b hb => Alls.map (Alls.of fun x hx => h.get x (List.mem_flatMap.2 ⟨b, hb, hx⟩))
  exact Alls.of fun b hb => ⟨_, _, fun E => @TabOk.con E _ _ _ _ (@tacOk44 E), cov4 b, key b hb⟩
theorem ok44 : Alls (Good1 7) xs44 := (Alls.append (Alls.append (Alls.append (Alls.append (Alls.append ok44_0 ok44_1) ok44_2) ok44_3) ok44_4) ok44_5)
end Go.Proofs.Ytigilihpofafoaa.ReplStaysP
