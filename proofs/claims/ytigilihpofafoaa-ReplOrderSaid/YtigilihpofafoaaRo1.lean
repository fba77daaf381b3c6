/- ReplOrder: the rounds of kind 1. -/
import Derived.Test.YtigilihpofafoaaRos
namespace Go.Proofs.Ytigilihpofafoaa.ReplOrderP
open Go Go.RowKit Loc Rm Ros
set_option linter.unusedVariables false
def kc11_0 : List (List Int) := [[1, 1, 0, 0, 0, 0, 0]]
theorem rd11_0 (rho : Nat → Int) (ok : ∀ i p, D11[i]? = some p → p.1 ≤ rho i ∧ rho i ≤ p.2) : (roundsB (enOf D11 rho ok) Try.prog H11 100000 [3] Try.f6 F11 ks11 K kc11_0, roundsK (enOf D11 rho ok) Try.prog H11 100000 [3] Try.f6 F11 K (fun p => p.2.1) kc11_0) = (true, roundsK (enOf D11 rho ok) Try.prog H11 100000 [3] Try.f6 F11 K (fun _ => K) kc11_0) := by kernel_rfl
theorem rd11 : ∀ k ∈ ks11, ∀ rho ok, True → RoundF Try.prog H11 100000 [3] Try.f6 F11 (fun _ _ => True) ks11 k K (enOf (F11.T k).dom rho ok) := fun k hk rho ok _ => by
  have e : ks11 = kc11_0 := by decide
  rw [e] at hk
  exact rounds_of (Prod.mk.inj (rd11_0 rho ok)).1 (Prod.mk.inj (rd11_0 rho ok)).2 k hk
theorem st11 (rho : Nat → Int) (ok : OkR C11 rho) : StartF Try.prog H11 100000 [3] Try.f6 body (symAs shs 0 0 C11) (symH shs 0 0 C11) (nls shs) F11 (fun _ _ => True) ks11 K (enOf C11 rho ok) := StartF.of (by kernel_rfl)
theorem wk11 {w : World} {Ls : Nat → Nat → Nat → Int} {vs : List Value} {ns : List Int} (hv : ShsOk Try.prog w Ls shs 0 vs ns) (h : InB C11 ns) (hlen : vs.length ≤ Try.f6.ntmps) : Calls Try.prog 6 vs.toArray w fun e w' => e = .returned (.bool true) ∧ Below w.heap.size w w' :=
  fam_law (K := K) mo nogo (fun E R => @TabOk.con E _ _ _ _ (@tacOk11 E)) Try.func6 hbody rd11 (st11 (rho0 ns Ls) (rho0_ok h.ind)) hv h.ind (fun j m hj => rho0_at hj) (fun j f i hj hf => rho0_sel (by rw [h.ind.len]; decide) hj hf) hlen rfl
theorem z11 : BoxOk Try.prog H11 6 100000 shs [(1, 1), (1, 1), (0, 0)] := fun rho ok => by kernel_rfl
def kc12_0 : List (List Int) := [[1, 2, 0, 1, 0, 0, 0], [1, 2, 1, 0, 0, 0, 0]]
theorem rd12_0 (rho : Nat → Int) (ok : ∀ i p, D12[i]? = some p → p.1 ≤ rho i ∧ rho i ≤ p.2) : (roundsB (enOf D12 rho ok) Try.prog H12 100000 [3] Try.f6 F12 ks12 K kc12_0, roundsK (enOf D12 rho ok) Try.prog H12 100000 [3] Try.f6 F12 K (fun p => p.2.1) kc12_0) = (true, roundsK (enOf D12 rho ok) Try.prog H12 100000 [3] Try.f6 F12 K (fun _ => K) kc12_0) := by kernel_rfl
theorem rd12 : ∀ k ∈ ks12, ∀ rho ok, True → RoundF Try.prog H12 100000 [3] Try.f6 F12 (fun _ _ => True) ks12 k K (enOf (F12.T k).dom rho ok) := fun k hk rho ok _ => by
  have e : ks12 = kc12_0 := by decide
  rw [e] at hk
  exact rounds_of (Prod.mk.inj (rd12_0 rho ok)).1 (Prod.mk.inj (rd12_0 rho ok)).2 k hk
theorem st12 (rho : Nat → Int) (ok : OkR C12 rho) : StartF Try.prog H12 100000 [3] Try.f6 body (symAs shs 0 0 C12) (symH shs 0 0 C12) (nls shs) F12 (fun _ _ => True) ks12 K (enOf C12 rho ok) := StartF.of (by kernel_rfl)
theorem wk12 {w : World} {Ls : Nat → Nat → Nat → Int} {vs : List Value} {ns : List Int} (hv : ShsOk Try.prog w Ls shs 0 vs ns) (h : InB C12 ns) (hlen : vs.length ≤ Try.f6.ntmps) : Calls Try.prog 6 vs.toArray w fun e w' => e = .returned (.bool true) ∧ Below w.heap.size w w' :=
  fam_law (K := K) mo nogo (fun E R => @TabOk.con E _ _ _ _ (@tacOk12 E)) Try.func6 hbody rd12 (st12 (rho0 ns Ls) (rho0_ok h.ind)) hv h.ind (fun j m hj => rho0_at hj) (fun j f i hj hf => rho0_sel (by rw [h.ind.len]; decide) hj hf) hlen rfl
theorem z12 : BoxOk Try.prog H12 6 100000 shs [(1, 1), (2, 2), (0, 0)] := fun rho ok => by kernel_rfl
def kc13_0 : List (List Int) := [[1, 3, 0, 1, 2, 0, 0], [1, 3, 0, 2, 1, 0, 0], [1, 3, 1, 0, 2, 0, 0], [1, 3, 1, 2, 0, 0, 0], [1, 3, 2, 0, 1, 0, 0], [1, 3, 2, 1, 0, 0, 0]]
theorem rd13_0 (rho : Nat → Int) (ok : ∀ i p, D13[i]? = some p → p.1 ≤ rho i ∧ rho i ≤ p.2) : (roundsB (enOf D13 rho ok) Try.prog H13 100000 [3] Try.f6 F13 ks13 K kc13_0, roundsK (enOf D13 rho ok) Try.prog H13 100000 [3] Try.f6 F13 K (fun p => p.2.1) kc13_0) = (true, roundsK (enOf D13 rho ok) Try.prog H13 100000 [3] Try.f6 F13 K (fun _ => K) kc13_0) := by kernel_rfl
theorem rd13 : ∀ k ∈ ks13, ∀ rho ok, True → RoundF Try.prog H13 100000 [3] Try.f6 F13 (fun _ _ => True) ks13 k K (enOf (F13.T k).dom rho ok) := fun k hk rho ok _ => by
  have e : ks13 = kc13_0 := by decide
  rw [e] at hk
  exact rounds_of (Prod.mk.inj (rd13_0 rho ok)).1 (Prod.mk.inj (rd13_0 rho ok)).2 k hk
theorem st13 (rho : Nat → Int) (ok : OkR C13 rho) : StartF Try.prog H13 100000 [3] Try.f6 body (symAs shs 0 0 C13) (symH shs 0 0 C13) (nls shs) F13 (fun _ _ => True) ks13 K (enOf C13 rho ok) := StartF.of (by kernel_rfl)
theorem wk13 {w : World} {Ls : Nat → Nat → Nat → Int} {vs : List Value} {ns : List Int} (hv : ShsOk Try.prog w Ls shs 0 vs ns) (h : InB C13 ns) (hlen : vs.length ≤ Try.f6.ntmps) : Calls Try.prog 6 vs.toArray w fun e w' => e = .returned (.bool true) ∧ Below w.heap.size w w' :=
  fam_law (K := K) mo nogo (fun E R => @TabOk.con E _ _ _ _ (@tacOk13 E)) Try.func6 hbody rd13 (st13 (rho0 ns Ls) (rho0_ok h.ind)) hv h.ind (fun j m hj => rho0_at hj) (fun j f i hj hf => rho0_sel (by rw [h.ind.len]; decide) hj hf) hlen rfl
theorem z13 : BoxOk Try.prog H13 6 100000 shs [(1, 1), (3, 3), (0, 0)] := fun rho ok => by kernel_rfl
def kc14_0 : List (List Int) := [[1, 4, 0, 1, 2, 3, 0], [1, 4, 0, 1, 3, 2, 0], [1, 4, 0, 2, 1, 3, 0], [1, 4, 0, 2, 3, 1, 0], [1, 4, 0, 3, 1, 2, 0], [1, 4, 0, 3, 2, 1, 0]]
theorem rd14_0 (rho : Nat → Int) (ok : ∀ i p, D14[i]? = some p → p.1 ≤ rho i ∧ rho i ≤ p.2) : (roundsB (enOf D14 rho ok) Try.prog H14 100000 [3] Try.f6 F14 ks14 K kc14_0, roundsK (enOf D14 rho ok) Try.prog H14 100000 [3] Try.f6 F14 K (fun p => p.2.1) kc14_0) = (true, roundsK (enOf D14 rho ok) Try.prog H14 100000 [3] Try.f6 F14 K (fun _ => K) kc14_0) := by kernel_rfl
def kc14_1 : List (List Int) := [[1, 4, 1, 0, 2, 3, 0], [1, 4, 1, 0, 3, 2, 0], [1, 4, 1, 2, 0, 3, 0], [1, 4, 1, 2, 3, 0, 0], [1, 4, 1, 3, 0, 2, 0], [1, 4, 1, 3, 2, 0, 0]]
theorem rd14_1 (rho : Nat → Int) (ok : ∀ i p, D14[i]? = some p → p.1 ≤ rho i ∧ rho i ≤ p.2) : (roundsB (enOf D14 rho ok) Try.prog H14 100000 [3] Try.f6 F14 ks14 K kc14_1, roundsK (enOf D14 rho ok) Try.prog H14 100000 [3] Try.f6 F14 K (fun p => p.2.1) kc14_1) = (true, roundsK (enOf D14 rho ok) Try.prog H14 100000 [3] Try.f6 F14 K (fun _ => K) kc14_1) := by kernel_rfl
def kc14_2 : List (List Int) := [[1, 4, 2, 0, 1, 3, 0], [1, 4, 2, 0, 3, 1, 0], [1, 4, 2, 1, 0, 3, 0], [1, 4, 2, 1, 3, 0, 0], [1, 4, 2, 3, 0, 1, 0], [1, 4, 2, 3, 1, 0, 0]]
theorem rd14_2 (rho : Nat → Int) (ok : ∀ i p, D14[i]? = some p → p.1 ≤ rho i ∧ rho i ≤ p.2) : (roundsB (enOf D14 rho ok) Try.prog H14 100000 [3] Try.f6 F14 ks14 K kc14_2, roundsK (enOf D14 rho ok) Try.prog H14 100000 [3] Try.f6 F14 K (fun p => p.2.1) kc14_2) = (true, roundsK (enOf D14 rho ok) Try.prog H14 100000 [3] Try.f6 F14 K (fun _ => K) kc14_2) := by kernel_rfl
def kc14_3 : List (List Int) := [[1, 4, 3, 0, 1, 2, 0], [1, 4, 3, 0, 2, 1, 0], [1, 4, 3, 1, 0, 2, 0], [1, 4, 3, 1, 2, 0, 0], [1, 4, 3, 2, 0, 1, 0], [1, 4, 3, 2, 1, 0, 0]]
theorem rd14_3 (rho : Nat → Int) (ok : ∀ i p, D14[i]? = some p → p.1 ≤ rho i ∧ rho i ≤ p.2) : (roundsB (enOf D14 rho ok) Try.prog H14 100000 [3] Try.f6 F14 ks14 K kc14_3, roundsK (enOf D14 rho ok) Try.prog H14 100000 [3] Try.f6 F14 K (fun p => p.2.1) kc14_3) = (true, roundsK (enOf D14 rho ok) Try.prog H14 100000 [3] Try.f6 F14 K (fun _ => K) kc14_3) := by kernel_rfl
theorem rd14 : ∀ k ∈ ks14, ∀ rho ok, True → RoundF Try.prog H14 100000 [3] Try.f6 F14 (fun _ _ => True) ks14 k K (enOf (F14.T k).dom rho ok) := fun k hk rho ok _ => by
  have e : ks14 = kc14_0 ++ kc14_1 ++ kc14_2 ++ kc14_3 := by decide
  rw [e] at hk
  simp only [List.mem_append] at hk
  rcases hk with ((h | h) | h) | h
  · exact rounds_of (Prod.mk.inj (rd14_0 rho ok)).1 (Prod.mk.inj (rd14_0 rho ok)).2 k h
  · exact rounds_of (Prod.mk.inj (rd14_1 rho ok)).1 (Prod.mk.inj (rd14_1 rho ok)).2 k h
  · exact rounds_of (Prod.mk.inj (rd14_2 rho ok)).1 (Prod.mk.inj (rd14_2 rho ok)).2 k h
  · exact rounds_of (Prod.mk.inj (rd14_3 rho ok)).1 (Prod.mk.inj (rd14_3 rho ok)).2 k h
theorem st14 (rho : Nat → Int) (ok : OkR C14 rho) : StartF Try.prog H14 100000 [3] Try.f6 body (symAs shs 0 0 C14) (symH shs 0 0 C14) (nls shs) F14 (fun _ _ => True) ks14 K (enOf C14 rho ok) := StartF.of (by kernel_rfl)
theorem wk14 {w : World} {Ls : Nat → Nat → Nat → Int} {vs : List Value} {ns : List Int} (hv : ShsOk Try.prog w Ls shs 0 vs ns) (h : InB C14 ns) (hlen : vs.length ≤ Try.f6.ntmps) : Calls Try.prog 6 vs.toArray w fun e w' => e = .returned (.bool true) ∧ Below w.heap.size w w' :=
  fam_law (K := K) mo nogo (fun E R => @TabOk.con E _ _ _ _ (@tacOk14 E)) Try.func6 hbody rd14 (st14 (rho0 ns Ls) (rho0_ok h.ind)) hv h.ind (fun j m hj => rho0_at hj) (fun j f i hj hf => rho0_sel (by rw [h.ind.len]; decide) hj hf) hlen rfl
theorem z14 : BoxOk Try.prog H14 6 100000 shs [(1, 1), (4, 4), (0, 0)] := fun rho ok => by kernel_rfl
end Go.Proofs.Ytigilihpofafoaa.ReplOrderP
