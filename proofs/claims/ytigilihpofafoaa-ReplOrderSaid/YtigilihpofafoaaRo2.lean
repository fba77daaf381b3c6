/- ReplOrder: the rounds of kind 2. -/
import Derived.Test.YtigilihpofafoaaRos
namespace Go.Proofs.Ytigilihpofafoaa.ReplOrderP
open Go Go.RowKit Loc Rm Ros
set_option linter.unusedVariables false
def kc21_0 : List (List Int) := [[2, 1, 0, 0, 0, 0, 0]]
theorem rd21_0 (rho : Nat → Int) (ok : ∀ i p, D21[i]? = some p → p.1 ≤ rho i ∧ rho i ≤ p.2) : (roundsB (enOf D21 rho ok) Try.prog H21 100000 [3] Try.f6 F21 ks21 K kc21_0, roundsK (enOf D21 rho ok) Try.prog H21 100000 [3] Try.f6 F21 K (fun p => p.2.1) kc21_0) = (true, roundsK (enOf D21 rho ok) Try.prog H21 100000 [3] Try.f6 F21 K (fun _ => K) kc21_0) := by kernel_rfl
theorem rd21 : ∀ k ∈ ks21, ∀ rho ok, True → RoundF Try.prog H21 100000 [3] Try.f6 F21 (fun _ _ => True) ks21 k K (enOf (F21.T k).dom rho ok) := fun k hk rho ok _ => by
  have e : ks21 = kc21_0 := by decide
  rw [e] at hk
  exact rounds_of (Prod.mk.inj (rd21_0 rho ok)).1 (Prod.mk.inj (rd21_0 rho ok)).2 k hk
theorem st21 (rho : Nat → Int) (ok : OkR C21 rho) : StartF Try.prog H21 100000 [3] Try.f6 body (symAs shs 0 0 C21) (symH shs 0 0 C21) (nls shs) F21 (fun _ _ => True) ks21 K (enOf C21 rho ok) := StartF.of (by kernel_rfl)
theorem wk21 {w : World} {Ls : Nat → Nat → Nat → Int} {vs : List Value} {ns : List Int} (hv : ShsOk Try.prog w Ls shs 0 vs ns) (h : InB C21 ns) (hlen : vs.length ≤ Try.f6.ntmps) : Calls Try.prog 6 vs.toArray w fun e w' => e = .returned (.bool true) ∧ Below w.heap.size w w' :=
  fam_law (K := K) mo nogo (fun E R => @TabOk.con E _ _ _ _ (@tacOk21 E)) Try.func6 hbody rd21 (st21 (rho0 ns Ls) (rho0_ok h.ind)) hv h.ind (fun j m hj => rho0_at hj) (fun j f i hj hf => rho0_sel (by rw [h.ind.len]; decide) hj hf) hlen rfl
theorem z21 : BoxOk Try.prog H21 6 100000 shs [(2, 2), (1, 1), (0, 0)] := fun rho ok => by kernel_rfl
def kc22_0 : List (List Int) := [[2, 2, 0, 1, 0, 0, 0], [2, 2, 1, 0, 0, 0, 0]]
theorem rd22_0 (rho : Nat → Int) (ok : ∀ i p, D22[i]? = some p → p.1 ≤ rho i ∧ rho i ≤ p.2) : (roundsB (enOf D22 rho ok) Try.prog H22 100000 [3] Try.f6 F22 ks22 K kc22_0, roundsK (enOf D22 rho ok) Try.prog H22 100000 [3] Try.f6 F22 K (fun p => p.2.1) kc22_0) = (true, roundsK (enOf D22 rho ok) Try.prog H22 100000 [3] Try.f6 F22 K (fun _ => K) kc22_0) := by kernel_rfl
theorem rd22 : ∀ k ∈ ks22, ∀ rho ok, True → RoundF Try.prog H22 100000 [3] Try.f6 F22 (fun _ _ => True) ks22 k K (enOf (F22.T k).dom rho ok) := fun k hk rho ok _ => by
  have e : ks22 = kc22_0 := by decide
  rw [e] at hk
  exact rounds_of (Prod.mk.inj (rd22_0 rho ok)).1 (Prod.mk.inj (rd22_0 rho ok)).2 k hk
theorem st22 (rho : Nat → Int) (ok : OkR C22 rho) : StartF Try.prog H22 100000 [3] Try.f6 body (symAs shs 0 0 C22) (symH shs 0 0 C22) (nls shs) F22 (fun _ _ => True) ks22 K (enOf C22 rho ok) := StartF.of (by kernel_rfl)
theorem wk22 {w : World} {Ls : Nat → Nat → Nat → Int} {vs : List Value} {ns : List Int} (hv : ShsOk Try.prog w Ls shs 0 vs ns) (h : InB C22 ns) (hlen : vs.length ≤ Try.f6.ntmps) : Calls Try.prog 6 vs.toArray w fun e w' => e = .returned (.bool true) ∧ Below w.heap.size w w' :=
  fam_law (K := K) mo nogo (fun E R => @TabOk.con E _ _ _ _ (@tacOk22 E)) Try.func6 hbody rd22 (st22 (rho0 ns Ls) (rho0_ok h.ind)) hv h.ind (fun j m hj => rho0_at hj) (fun j f i hj hf => rho0_sel (by rw [h.ind.len]; decide) hj hf) hlen rfl
theorem z22 : BoxOk Try.prog H22 6 100000 shs [(2, 2), (2, 2), (0, 0)] := fun rho ok => by kernel_rfl
def kc23_0 : List (List Int) := [[2, 3, 0, 1, 2, 0, 0], [2, 3, 0, 2, 1, 0, 0], [2, 3, 1, 0, 2, 0, 0], [2, 3, 1, 2, 0, 0, 0], [2, 3, 2, 0, 1, 0, 0], [2, 3, 2, 1, 0, 0, 0]]
theorem rd23_0 (rho : Nat → Int) (ok : ∀ i p, D23[i]? = some p → p.1 ≤ rho i ∧ rho i ≤ p.2) : (roundsB (enOf D23 rho ok) Try.prog H23 100000 [3] Try.f6 F23 ks23 K kc23_0, roundsK (enOf D23 rho ok) Try.prog H23 100000 [3] Try.f6 F23 K (fun p => p.2.1) kc23_0) = (true, roundsK (enOf D23 rho ok) Try.prog H23 100000 [3] Try.f6 F23 K (fun _ => K) kc23_0) := by kernel_rfl
theorem rd23 : ∀ k ∈ ks23, ∀ rho ok, True → RoundF Try.prog H23 100000 [3] Try.f6 F23 (fun _ _ => True) ks23 k K (enOf (F23.T k).dom rho ok) := fun k hk rho ok _ => by
  have e : ks23 = kc23_0 := by decide
  rw [e] at hk
  exact rounds_of (Prod.mk.inj (rd23_0 rho ok)).1 (Prod.mk.inj (rd23_0 rho ok)).2 k hk
theorem st23 (rho : Nat → Int) (ok : OkR C23 rho) : StartF Try.prog H23 100000 [3] Try.f6 body (symAs shs 0 0 C23) (symH shs 0 0 C23) (nls shs) F23 (fun _ _ => True) ks23 K (enOf C23 rho ok) := StartF.of (by kernel_rfl)
theorem wk23 {w : World} {Ls : Nat → Nat → Nat → Int} {vs : List Value} {ns : List Int} (hv : ShsOk Try.prog w Ls shs 0 vs ns) (h : InB C23 ns) (hlen : vs.length ≤ Try.f6.ntmps) : Calls Try.prog 6 vs.toArray w fun e w' => e = .returned (.bool true) ∧ Below w.heap.size w w' :=
  fam_law (K := K) mo nogo (fun E R => @TabOk.con E _ _ _ _ (@tacOk23 E)) Try.func6 hbody rd23 (st23 (rho0 ns Ls) (rho0_ok h.ind)) hv h.ind (fun j m hj => rho0_at hj) (fun j f i hj hf => rho0_sel (by rw [h.ind.len]; decide) hj hf) hlen rfl
theorem z23 : BoxOk Try.prog H23 6 100000 shs [(2, 2), (3, 3), (0, 0)] := fun rho ok => by kernel_rfl
def kc24_0 : List (List Int) := [[2, 4, 0, 1, 2, 3, 0], [2, 4, 0, 1, 3, 2, 0], [2, 4, 0, 2, 1, 3, 0], [2, 4, 0, 2, 3, 1, 0], [2, 4, 0, 3, 1, 2, 0], [2, 4, 0, 3, 2, 1, 0]]
theorem rd24_0 (rho : Nat → Int) (ok : ∀ i p, D24[i]? = some p → p.1 ≤ rho i ∧ rho i ≤ p.2) : (roundsB (enOf D24 rho ok) Try.prog H24 100000 [3] Try.f6 F24 ks24 K kc24_0, roundsK (enOf D24 rho ok) Try.prog H24 100000 [3] Try.f6 F24 K (fun p => p.2.1) kc24_0) = (true, roundsK (enOf D24 rho ok) Try.prog H24 100000 [3] Try.f6 F24 K (fun _ => K) kc24_0) := by kernel_rfl
def kc24_1 : List (List Int) := [[2, 4, 1, 0, 2, 3, 0], [2, 4, 1, 0, 3, 2, 0], [2, 4, 1, 2, 0, 3, 0], [2, 4, 1, 2, 3, 0, 0], [2, 4, 1, 3, 0, 2, 0], [2, 4, 1, 3, 2, 0, 0]]
theorem rd24_1 (rho : Nat → Int) (ok : ∀ i p, D24[i]? = some p → p.1 ≤ rho i ∧ rho i ≤ p.2) : (roundsB (enOf D24 rho ok) Try.prog H24 100000 [3] Try.f6 F24 ks24 K kc24_1, roundsK (enOf D24 rho ok) Try.prog H24 100000 [3] Try.f6 F24 K (fun p => p.2.1) kc24_1) = (true, roundsK (enOf D24 rho ok) Try.prog H24 100000 [3] Try.f6 F24 K (fun _ => K) kc24_1) := by kernel_rfl
def kc24_2 : List (List Int) := [[2, 4, 2, 0, 1, 3, 0], [2, 4, 2, 0, 3, 1, 0], [2, 4, 2, 1, 0, 3, 0], [2, 4, 2, 1, 3, 0, 0], [2, 4, 2, 3, 0, 1, 0], [2, 4, 2, 3, 1, 0, 0]]
theorem rd24_2 (rho : Nat → Int) (ok : ∀ i p, D24[i]? = some p → p.1 ≤ rho i ∧ rho i ≤ p.2) : (roundsB (enOf D24 rho ok) Try.prog H24 100000 [3] Try.f6 F24 ks24 K kc24_2, roundsK (enOf D24 rho ok) Try.prog H24 100000 [3] Try.f6 F24 K (fun p => p.2.1) kc24_2) = (true, roundsK (enOf D24 rho ok) Try.prog H24 100000 [3] Try.f6 F24 K (fun _ => K) kc24_2) := by kernel_rfl
def kc24_3 : List (List Int) := [[2, 4, 3, 0, 1, 2, 0], [2, 4, 3, 0, 2, 1, 0], [2, 4, 3, 1, 0, 2, 0], [2, 4, 3, 1, 2, 0, 0], [2, 4, 3, 2, 0, 1, 0], [2, 4, 3, 2, 1, 0, 0]]
theorem rd24_3 (rho : Nat → Int) (ok : ∀ i p, D24[i]? = some p → p.1 ≤ rho i ∧ rho i ≤ p.2) : (roundsB (enOf D24 rho ok) Try.prog H24 100000 [3] Try.f6 F24 ks24 K kc24_3, roundsK (enOf D24 rho ok) Try.prog H24 100000 [3] Try.f6 F24 K (fun p => p.2.1) kc24_3) = (true, roundsK (enOf D24 rho ok) Try.prog H24 100000 [3] Try.f6 F24 K (fun _ => K) kc24_3) := by kernel_rfl
theorem rd24 : ∀ k ∈ ks24, ∀ rho ok, True → RoundF Try.prog H24 100000 [3] Try.f6 F24 (fun _ _ => True) ks24 k K (enOf (F24.T k).dom rho ok) := fun k hk rho ok _ => by
  have e : ks24 = kc24_0 ++ kc24_1 ++ kc24_2 ++ kc24_3 := by decide
  rw [e] at hk
  simp only [List.mem_append] at hk
  rcases hk with ((h | h) | h) | h
  · exact rounds_of (Prod.mk.inj (rd24_0 rho ok)).1 (Prod.mk.inj (rd24_0 rho ok)).2 k h
  · exact rounds_of (Prod.mk.inj (rd24_1 rho ok)).1 (Prod.mk.inj (rd24_1 rho ok)).2 k h
  · exact rounds_of (Prod.mk.inj (rd24_2 rho ok)).1 (Prod.mk.inj (rd24_2 rho ok)).2 k h
  · exact rounds_of (Prod.mk.inj (rd24_3 rho ok)).1 (Prod.mk.inj (rd24_3 rho ok)).2 k h
theorem st24 (rho : Nat → Int) (ok : OkR C24 rho) : StartF Try.prog H24 100000 [3] Try.f6 body (symAs shs 0 0 C24) (symH shs 0 0 C24) (nls shs) F24 (fun _ _ => True) ks24 K (enOf C24 rho ok) := StartF.of (by kernel_rfl)
theorem wk24 {w : World} {Ls : Nat → Nat → Nat → Int} {vs : List Value} {ns : List Int} (hv : ShsOk Try.prog w Ls shs 0 vs ns) (h : InB C24 ns) (hlen : vs.length ≤ Try.f6.ntmps) : Calls Try.prog 6 vs.toArray w fun e w' => e = .returned (.bool true) ∧ Below w.heap.size w w' :=
  fam_law (K := K) mo nogo (fun E R => @TabOk.con E _ _ _ _ (@tacOk24 E)) Try.func6 hbody rd24 (st24 (rho0 ns Ls) (rho0_ok h.ind)) hv h.ind (fun j m hj => rho0_at hj) (fun j f i hj hf => rho0_sel (by rw [h.ind.len]; decide) hj hf) hlen rfl
theorem z24 : BoxOk Try.prog H24 6 100000 shs [(2, 2), (4, 4), (0, 0)] := fun rho ok => by kernel_rfl
end Go.Proofs.Ytigilihpofafoaa.ReplOrderP
