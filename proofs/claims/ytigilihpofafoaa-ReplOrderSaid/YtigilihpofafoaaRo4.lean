/- ReplOrder: the rounds of kind 4. -/
import Derived.Test.YtigilihpofafoaaRos
namespace Go.Proofs.Ytigilihpofafoaa.ReplOrderP
open Go Go.RowKit Loc Rm Ros
set_option linter.unusedVariables false
def kc41_0 : List (List Int) := [[4, 1, 0, 0, 0, 0, 0]]
theorem rd41_0 (rho : Nat → Int) (ok : ∀ i p, D41[i]? = some p → p.1 ≤ rho i ∧ rho i ≤ p.2) : (roundsB (enOf D41 rho ok) Try.prog H41 100000 [3] Try.f6 F41 ks41 K kc41_0, roundsK (enOf D41 rho ok) Try.prog H41 100000 [3] Try.f6 F41 K (fun p => p.2.1) kc41_0) = (true, roundsK (enOf D41 rho ok) Try.prog H41 100000 [3] Try.f6 F41 K (fun _ => K) kc41_0) := by kernel_rfl
theorem rd41 : ∀ k ∈ ks41, ∀ rho ok, True → RoundF Try.prog H41 100000 [3] Try.f6 F41 (fun _ _ => True) ks41 k K (enOf (F41.T k).dom rho ok) := fun k hk rho ok _ => by
  have e : ks41 = kc41_0 := by decide
  rw [e] at hk
  exact rounds_of (Prod.mk.inj (rd41_0 rho ok)).1 (Prod.mk.inj (rd41_0 rho ok)).2 k hk
theorem st41 (rho : Nat → Int) (ok : OkR C41 rho) : StartF Try.prog H41 100000 [3] Try.f6 body (symAs shs 0 0 C41) (symH shs 0 0 C41) (nls shs) F41 (fun _ _ => True) ks41 K (enOf C41 rho ok) := StartF.of (by kernel_rfl)
theorem wk41 {w : World} {Ls : Nat → Nat → Nat → Int} {vs : List Value} {ns : List Int} (hv : ShsOk Try.prog w Ls shs 0 vs ns) (h : InB C41 ns) (hlen : vs.length ≤ Try.f6.ntmps) : Calls Try.prog 6 vs.toArray w fun e w' => e = .returned (.bool true) ∧ Below w.heap.size w w' :=
  fam_law (K := K) mo nogo (fun E R => @TabOk.con E _ _ _ _ (@tacOk41 E)) Try.func6 hbody rd41 (st41 (rho0 ns Ls) (rho0_ok h.ind)) hv h.ind (fun j m hj => rho0_at hj) (fun j f i hj hf => rho0_sel (by rw [h.ind.len]; decide) hj hf) hlen rfl
theorem z41 : BoxOk Try.prog H41 6 100000 shs [(4, 4), (1, 1), (0, 0)] := fun rho ok => by kernel_rfl
def kc42_0 : List (List Int) := [[4, 2, 0, 1, 0, 0, 0], [4, 2, 1, 0, 0, 0, 0]]
theorem rd42_0 (rho : Nat → Int) (ok : ∀ i p, D42[i]? = some p → p.1 ≤ rho i ∧ rho i ≤ p.2) : (roundsB (enOf D42 rho ok) Try.prog H42 100000 [3] Try.f6 F42 ks42 K kc42_0, roundsK (enOf D42 rho ok) Try.prog H42 100000 [3] Try.f6 F42 K (fun p => p.2.1) kc42_0) = (true, roundsK (enOf D42 rho ok) Try.prog H42 100000 [3] Try.f6 F42 K (fun _ => K) kc42_0) := by kernel_rfl
theorem rd42 : ∀ k ∈ ks42, ∀ rho ok, True → RoundF Try.prog H42 100000 [3] Try.f6 F42 (fun _ _ => True) ks42 k K (enOf (F42.T k).dom rho ok) := fun k hk rho ok _ => by
  have e : ks42 = kc42_0 := by decide
  rw [e] at hk
  exact rounds_of (Prod.mk.inj (rd42_0 rho ok)).1 (Prod.mk.inj (rd42_0 rho ok)).2 k hk
theorem st42 (rho : Nat → Int) (ok : OkR C42 rho) : StartF Try.prog H42 100000 [3] Try.f6 body (symAs shs 0 0 C42) (symH shs 0 0 C42) (nls shs) F42 (fun _ _ => True) ks42 K (enOf C42 rho ok) := StartF.of (by kernel_rfl)
theorem wk42 {w : World} {Ls : Nat → Nat → Nat → Int} {vs : List Value} {ns : List Int} (hv : ShsOk Try.prog w Ls shs 0 vs ns) (h : InB C42 ns) (hlen : vs.length ≤ Try.f6.ntmps) : Calls Try.prog 6 vs.toArray w fun e w' => e = .returned (.bool true) ∧ Below w.heap.size w w' :=
  fam_law (K := K) mo nogo (fun E R => @TabOk.con E _ _ _ _ (@tacOk42 E)) Try.func6 hbody rd42 (st42 (rho0 ns Ls) (rho0_ok h.ind)) hv h.ind (fun j m hj => rho0_at hj) (fun j f i hj hf => rho0_sel (by rw [h.ind.len]; decide) hj hf) hlen rfl
theorem z42 : BoxOk Try.prog H42 6 100000 shs [(4, 4), (2, 2), (0, 0)] := fun rho ok => by kernel_rfl
def kc43_0 : List (List Int) := [[4, 3, 0, 1, 2, 0, 0], [4, 3, 0, 2, 1, 0, 0], [4, 3, 1, 0, 2, 0, 0], [4, 3, 1, 2, 0, 0, 0], [4, 3, 2, 0, 1, 0, 0], [4, 3, 2, 1, 0, 0, 0]]
theorem rd43_0 (rho : Nat → Int) (ok : ∀ i p, D43[i]? = some p → p.1 ≤ rho i ∧ rho i ≤ p.2) : (roundsB (enOf D43 rho ok) Try.prog H43 100000 [3] Try.f6 F43 ks43 K kc43_0, roundsK (enOf D43 rho ok) Try.prog H43 100000 [3] Try.f6 F43 K (fun p => p.2.1) kc43_0) = (true, roundsK (enOf D43 rho ok) Try.prog H43 100000 [3] Try.f6 F43 K (fun _ => K) kc43_0) := by kernel_rfl
theorem rd43 : ∀ k ∈ ks43, ∀ rho ok, True → RoundF Try.prog H43 100000 [3] Try.f6 F43 (fun _ _ => True) ks43 k K (enOf (F43.T k).dom rho ok) := fun k hk rho ok _ => by
  have e : ks43 = kc43_0 := by decide
  rw [e] at hk
  exact rounds_of (Prod.mk.inj (rd43_0 rho ok)).1 (Prod.mk.inj (rd43_0 rho ok)).2 k hk
theorem st43 (rho : Nat → Int) (ok : OkR C43 rho) : StartF Try.prog H43 100000 [3] Try.f6 body (symAs shs 0 0 C43) (symH shs 0 0 C43) (nls shs) F43 (fun _ _ => True) ks43 K (enOf C43 rho ok) := StartF.of (by kernel_rfl)
theorem wk43 {w : World} {Ls : Nat → Nat → Nat → Int} {vs : List Value} {ns : List Int} (hv : ShsOk Try.prog w Ls shs 0 vs ns) (h : InB C43 ns) (hlen : vs.length ≤ Try.f6.ntmps) : Calls Try.prog 6 vs.toArray w fun e w' => e = .returned (.bool true) ∧ Below w.heap.size w w' :=
  fam_law (K := K) mo nogo (fun E R => @TabOk.con E _ _ _ _ (@tacOk43 E)) Try.func6 hbody rd43 (st43 (rho0 ns Ls) (rho0_ok h.ind)) hv h.ind (fun j m hj => rho0_at hj) (fun j f i hj hf => rho0_sel (by rw [h.ind.len]; decide) hj hf) hlen rfl
theorem z43 : BoxOk Try.prog H43 6 100000 shs [(4, 4), (3, 3), (0, 0)] := fun rho ok => by kernel_rfl
def kc44_0 : List (List Int) := [[4, 4, 0, 1, 2, 3, 0], [4, 4, 0, 1, 3, 2, 0], [4, 4, 0, 2, 1, 3, 0], [4, 4, 0, 2, 3, 1, 0], [4, 4, 0, 3, 1, 2, 0], [4, 4, 0, 3, 2, 1, 0]]
theorem rd44_0 (rho : Nat → Int) (ok : ∀ i p, D44[i]? = some p → p.1 ≤ rho i ∧ rho i ≤ p.2) : (roundsB (enOf D44 rho ok) Try.prog H44 100000 [3] Try.f6 F44 ks44 K kc44_0, roundsK (enOf D44 rho ok) Try.prog H44 100000 [3] Try.f6 F44 K (fun p => p.2.1) kc44_0) = (true, roundsK (enOf D44 rho ok) Try.prog H44 100000 [3] Try.f6 F44 K (fun _ => K) kc44_0) := by kernel_rfl
def kc44_1 : List (List Int) := [[4, 4, 1, 0, 2, 3, 0], [4, 4, 1, 0, 3, 2, 0], [4, 4, 1, 2, 0, 3, 0], [4, 4, 1, 2, 3, 0, 0], [4, 4, 1, 3, 0, 2, 0], [4, 4, 1, 3, 2, 0, 0]]
theorem rd44_1 (rho : Nat → Int) (ok : ∀ i p, D44[i]? = some p → p.1 ≤ rho i ∧ rho i ≤ p.2) : (roundsB (enOf D44 rho ok) Try.prog H44 100000 [3] Try.f6 F44 ks44 K kc44_1, roundsK (enOf D44 rho ok) Try.prog H44 100000 [3] Try.f6 F44 K (fun p => p.2.1) kc44_1) = (true, roundsK (enOf D44 rho ok) Try.prog H44 100000 [3] Try.f6 F44 K (fun _ => K) kc44_1) := by kernel_rfl
def kc44_2 : List (List Int) := [[4, 4, 2, 0, 1, 3, 0], [4, 4, 2, 0, 3, 1, 0], [4, 4, 2, 1, 0, 3, 0], [4, 4, 2, 1, 3, 0, 0], [4, 4, 2, 3, 0, 1, 0], [4, 4, 2, 3, 1, 0, 0]]
theorem rd44_2 (rho : Nat → Int) (ok : ∀ i p, D44[i]? = some p → p.1 ≤ rho i ∧ rho i ≤ p.2) : (roundsB (enOf D44 rho ok) Try.prog H44 100000 [3] Try.f6 F44 ks44 K kc44_2, roundsK (enOf D44 rho ok) Try.prog H44 100000 [3] Try.f6 F44 K (fun p => p.2.1) kc44_2) = (true, roundsK (enOf D44 rho ok) Try.prog H44 100000 [3] Try.f6 F44 K (fun _ => K) kc44_2) := by kernel_rfl
def kc44_3 : List (List Int) := [[4, 4, 3, 0, 1, 2, 0], [4, 4, 3, 0, 2, 1, 0], [4, 4, 3, 1, 0, 2, 0], [4, 4, 3, 1, 2, 0, 0], [4, 4, 3, 2, 0, 1, 0], [4, 4, 3, 2, 1, 0, 0]]
theorem rd44_3 (rho : Nat → Int) (ok : ∀ i p, D44[i]? = some p → p.1 ≤ rho i ∧ rho i ≤ p.2) : (roundsB (enOf D44 rho ok) Try.prog H44 100000 [3] Try.f6 F44 ks44 K kc44_3, roundsK (enOf D44 rho ok) Try.prog H44 100000 [3] Try.f6 F44 K (fun p => p.2.1) kc44_3) = (true, roundsK (enOf D44 rho ok) Try.prog H44 100000 [3] Try.f6 F44 K (fun _ => K) kc44_3) := by kernel_rfl
theorem rd44 : ∀ k ∈ ks44, ∀ rho ok, True → RoundF Try.prog H44 100000 [3] Try.f6 F44 (fun _ _ => True) ks44 k K (enOf (F44.T k).dom rho ok) := fun k hk rho ok _ => by
  have e : ks44 = kc44_0 ++ kc44_1 ++ kc44_2 ++ kc44_3 := by decide
  rw [e] at hk
  simp only [List.mem_append] at hk
  rcases hk with ((h | h) | h) | h
  · exact rounds_of (Prod.mk.inj (rd44_0 rho ok)).1 (Prod.mk.inj (rd44_0 rho ok)).2 k h
  · exact rounds_of (Prod.mk.inj (rd44_1 rho ok)).1 (Prod.mk.inj (rd44_1 rho ok)).2 k h
  · exact rounds_of (Prod.mk.inj (rd44_2 rho ok)).1 (Prod.mk.inj (rd44_2 rho ok)).2 k h
  · exact rounds_of (Prod.mk.inj (rd44_3 rho ok)).1 (Prod.mk.inj (rd44_3 rho ok)).2 k h
theorem st44 (rho : Nat → Int) (ok : OkR C44 rho) : StartF Try.prog H44 100000 [3] Try.f6 body (symAs shs 0 0 C44) (symH shs 0 0 C44) (nls shs) F44 (fun _ _ => True) ks44 K (enOf C44 rho ok) := StartF.of (by kernel_rfl)
theorem wk44 {w : World} {Ls : Nat → Nat → Nat → Int} {vs : List Value} {ns : List Int} (hv : ShsOk Try.prog w Ls shs 0 vs ns) (h : InB C44 ns) (hlen : vs.length ≤ Try.f6.ntmps) : Calls Try.prog 6 vs.toArray w fun e w' => e = .returned (.bool true) ∧ Below w.heap.size w w' :=
  fam_law (K := K) mo nogo (fun E R => @TabOk.con E _ _ _ _ (@tacOk44 E)) Try.func6 hbody rd44 (st44 (rho0 ns Ls) (rho0_ok h.ind)) hv h.ind (fun j m hj => rho0_at hj) (fun j f i hj hf => rho0_sel (by rw [h.ind.len]; decide) hj hf) hlen rfl
theorem z44 : BoxOk Try.prog H44 6 100000 shs [(4, 4), (4, 4), (0, 0)] := fun rho ok => by kernel_rfl
end Go.Proofs.Ytigilihpofafoaa.ReplOrderP
