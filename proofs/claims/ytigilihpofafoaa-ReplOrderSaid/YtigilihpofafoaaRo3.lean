/- ReplOrder: the rounds of kind 3. -/
import Derived.Test.YtigilihpofafoaaRos
namespace Go.Proofs.Ytigilihpofafoaa.ReplOrderP
open Go Go.RowKit Loc Rm Ros
set_option linter.unusedVariables false
def kc31_0 : List (List Int) := [[3, 1, 0, 0, 0, 0, 0], [3, 1, 0, 0, 0, 0, 3]]
theorem rd31_0 (rho : Nat → Int) (ok : ∀ i p, D31[i]? = some p → p.1 ≤ rho i ∧ rho i ≤ p.2) : (roundsB (enOf D31 rho ok) Try.prog H31 100000 [3] Try.f6 F31 ks31 K kc31_0, roundsK (enOf D31 rho ok) Try.prog H31 100000 [3] Try.f6 F31 K (fun p => p.2.1) kc31_0) = (true, roundsK (enOf D31 rho ok) Try.prog H31 100000 [3] Try.f6 F31 K (fun _ => K) kc31_0) := by kernel_rfl
theorem rd31 : ∀ k ∈ ks31, ∀ rho ok, True → RoundF Try.prog H31 100000 [3] Try.f6 F31 (fun _ _ => True) ks31 k K (enOf (F31.T k).dom rho ok) := fun k hk rho ok _ => by
  have e : ks31 = kc31_0 := by decide
  rw [e] at hk
  exact rounds_of (Prod.mk.inj (rd31_0 rho ok)).1 (Prod.mk.inj (rd31_0 rho ok)).2 k hk
theorem st31 (rho : Nat → Int) (ok : OkR C31 rho) : StartF Try.prog H31 100000 [3] Try.f6 body (symAs shs 0 0 C31) (symH shs 0 0 C31) (nls shs) F31 (fun _ _ => True) ks31 K (enOf C31 rho ok) := StartF.of (by kernel_rfl)
theorem wk31 {w : World} {Ls : Nat → Nat → Nat → Int} {vs : List Value} {ns : List Int} (hv : ShsOk Try.prog w Ls shs 0 vs ns) (h : InB C31 ns) (hlen : vs.length ≤ Try.f6.ntmps) : Calls Try.prog 6 vs.toArray w fun e w' => e = .returned (.bool true) ∧ Below w.heap.size w w' :=
  fam_law (K := K) mo nogo (fun E R => @TabOk.con E _ _ _ _ (@tacOk31 E)) Try.func6 hbody rd31 (st31 (rho0 ns Ls) (rho0_ok h.ind)) hv h.ind (fun j m hj => rho0_at hj) (fun j f i hj hf => rho0_sel (by rw [h.ind.len]; decide) hj hf) hlen rfl
theorem z31 : BoxOk Try.prog H31 6 100000 shs [(3, 3), (1, 1), (0, 0)] := fun rho ok => by kernel_rfl
def kc32_0 : List (List Int) := [[3, 2, 0, 0, 0, 0, 0], [3, 2, 0, 0, 0, 0, 1], [3, 2, 0, 0, 0, 0, 3]]
theorem rd32_0 (rho : Nat → Int) (ok : ∀ i p, D32[i]? = some p → p.1 ≤ rho i ∧ rho i ≤ p.2) : (roundsB (enOf D32 rho ok) Try.prog H32 100000 [3] Try.f6 F32 ks32 K kc32_0, roundsK (enOf D32 rho ok) Try.prog H32 100000 [3] Try.f6 F32 K (fun p => p.2.1) kc32_0) = (true, roundsK (enOf D32 rho ok) Try.prog H32 100000 [3] Try.f6 F32 K (fun _ => K) kc32_0) := by kernel_rfl
theorem rd32 : ∀ k ∈ ks32, ∀ rho ok, True → RoundF Try.prog H32 100000 [3] Try.f6 F32 (fun _ _ => True) ks32 k K (enOf (F32.T k).dom rho ok) := fun k hk rho ok _ => by
  have e : ks32 = kc32_0 := by decide
  rw [e] at hk
  exact rounds_of (Prod.mk.inj (rd32_0 rho ok)).1 (Prod.mk.inj (rd32_0 rho ok)).2 k hk
theorem st32 (rho : Nat → Int) (ok : OkR C32 rho) : StartF Try.prog H32 100000 [3] Try.f6 body (symAs shs 0 0 C32) (symH shs 0 0 C32) (nls shs) F32 (fun _ _ => True) ks32 K (enOf C32 rho ok) := StartF.of (by kernel_rfl)
theorem wk32 {w : World} {Ls : Nat → Nat → Nat → Int} {vs : List Value} {ns : List Int} (hv : ShsOk Try.prog w Ls shs 0 vs ns) (h : InB C32 ns) (hlen : vs.length ≤ Try.f6.ntmps) : Calls Try.prog 6 vs.toArray w fun e w' => e = .returned (.bool true) ∧ Below w.heap.size w w' :=
  fam_law (K := K) mo nogo (fun E R => @TabOk.con E _ _ _ _ (@tacOk32 E)) Try.func6 hbody rd32 (st32 (rho0 ns Ls) (rho0_ok h.ind)) hv h.ind (fun j m hj => rho0_at hj) (fun j f i hj hf => rho0_sel (by rw [h.ind.len]; decide) hj hf) hlen rfl
theorem z32 : BoxOk Try.prog H32 6 100000 shs [(3, 3), (2, 2), (0, 0)] := fun rho ok => by kernel_rfl
def kc33_0 : List (List Int) := [[3, 3, 0, 0, 0, 0, 0], [3, 3, 0, 0, 0, 0, 1], [3, 3, 0, 0, 0, 0, 3], [3, 3, 0, 0, 0, 0, 4], [3, 3, 0, 0, 0, 0, 5], [3, 3, 0, 0, 0, 0, 6]]
theorem rd33_0 (rho : Nat → Int) (ok : ∀ i p, D33[i]? = some p → p.1 ≤ rho i ∧ rho i ≤ p.2) : (roundsB (enOf D33 rho ok) Try.prog H33 100000 [3] Try.f6 F33 ks33 K kc33_0, roundsK (enOf D33 rho ok) Try.prog H33 100000 [3] Try.f6 F33 K (fun p => p.2.1) kc33_0) = (true, roundsK (enOf D33 rho ok) Try.prog H33 100000 [3] Try.f6 F33 K (fun _ => K) kc33_0) := by kernel_rfl
def kc33_1 : List (List Int) := [[3, 3, 0, 0, 0, 0, 7]]
theorem rd33_1 (rho : Nat → Int) (ok : ∀ i p, D33[i]? = some p → p.1 ≤ rho i ∧ rho i ≤ p.2) : (roundsB (enOf D33 rho ok) Try.prog H33 100000 [3] Try.f6 F33 ks33 K kc33_1, roundsK (enOf D33 rho ok) Try.prog H33 100000 [3] Try.f6 F33 K (fun p => p.2.1) kc33_1) = (true, roundsK (enOf D33 rho ok) Try.prog H33 100000 [3] Try.f6 F33 K (fun _ => K) kc33_1) := by kernel_rfl
theorem rd33 : ∀ k ∈ ks33, ∀ rho ok, True → RoundF Try.prog H33 100000 [3] Try.f6 F33 (fun _ _ => True) ks33 k K (enOf (F33.T k).dom rho ok) := fun k hk rho ok _ => by
  have e : ks33 = kc33_0 ++ kc33_1 := by decide
  rw [e] at hk
  simp only [List.mem_append] at hk
  rcases hk with h | h
  · exact rounds_of (Prod.mk.inj (rd33_0 rho ok)).1 (Prod.mk.inj (rd33_0 rho ok)).2 k h
  · exact rounds_of (Prod.mk.inj (rd33_1 rho ok)).1 (Prod.mk.inj (rd33_1 rho ok)).2 k h
theorem st33 (rho : Nat → Int) (ok : OkR C33 rho) : StartF Try.prog H33 100000 [3] Try.f6 body (symAs shs 0 0 C33) (symH shs 0 0 C33) (nls shs) F33 (fun _ _ => True) ks33 K (enOf C33 rho ok) := StartF.of (by kernel_rfl)
theorem wk33 {w : World} {Ls : Nat → Nat → Nat → Int} {vs : List Value} {ns : List Int} (hv : ShsOk Try.prog w Ls shs 0 vs ns) (h : InB C33 ns) (hlen : vs.length ≤ Try.f6.ntmps) : Calls Try.prog 6 vs.toArray w fun e w' => e = .returned (.bool true) ∧ Below w.heap.size w w' :=
  fam_law (K := K) mo nogo (fun E R => @TabOk.con E _ _ _ _ (@tacOk33 E)) Try.func6 hbody rd33 (st33 (rho0 ns Ls) (rho0_ok h.ind)) hv h.ind (fun j m hj => rho0_at hj) (fun j f i hj hf => rho0_sel (by rw [h.ind.len]; decide) hj hf) hlen rfl
theorem z33 : BoxOk Try.prog H33 6 100000 shs [(3, 3), (3, 3), (0, 0)] := fun rho ok => by kernel_rfl
def kc34_0 : List (List Int) := [[3, 4, 0, 0, 0, 0, 0], [3, 4, 0, 0, 0, 0, 1], [3, 4, 0, 0, 0, 0, 2], [3, 4, 0, 0, 0, 0, 3], [3, 4, 0, 0, 0, 0, 4], [3, 4, 0, 0, 0, 0, 5]]
theorem rd34_0 (rho : Nat → Int) (ok : ∀ i p, D34[i]? = some p → p.1 ≤ rho i ∧ rho i ≤ p.2) : (roundsB (enOf D34 rho ok) Try.prog H34 100000 [3] Try.f6 F34 ks34 K kc34_0, roundsK (enOf D34 rho ok) Try.prog H34 100000 [3] Try.f6 F34 K (fun p => p.2.1) kc34_0) = (true, roundsK (enOf D34 rho ok) Try.prog H34 100000 [3] Try.f6 F34 K (fun _ => K) kc34_0) := by kernel_rfl
def kc34_1 : List (List Int) := [[3, 4, 0, 0, 0, 0, 6], [3, 4, 0, 0, 0, 0, 7]]
theorem rd34_1 (rho : Nat → Int) (ok : ∀ i p, D34[i]? = some p → p.1 ≤ rho i ∧ rho i ≤ p.2) : (roundsB (enOf D34 rho ok) Try.prog H34 100000 [3] Try.f6 F34 ks34 K kc34_1, roundsK (enOf D34 rho ok) Try.prog H34 100000 [3] Try.f6 F34 K (fun p => p.2.1) kc34_1) = (true, roundsK (enOf D34 rho ok) Try.prog H34 100000 [3] Try.f6 F34 K (fun _ => K) kc34_1) := by kernel_rfl
theorem rd34 : ∀ k ∈ ks34, ∀ rho ok, True → RoundF Try.prog H34 100000 [3] Try.f6 F34 (fun _ _ => True) ks34 k K (enOf (F34.T k).dom rho ok) := fun k hk rho ok _ => by
  have e : ks34 = kc34_0 ++ kc34_1 := by decide
  rw [e] at hk
  simp only [List.mem_append] at hk
  rcases hk with h | h
  · exact rounds_of (Prod.mk.inj (rd34_0 rho ok)).1 (Prod.mk.inj (rd34_0 rho ok)).2 k h
  · exact rounds_of (Prod.mk.inj (rd34_1 rho ok)).1 (Prod.mk.inj (rd34_1 rho ok)).2 k h
theorem st34 (rho : Nat → Int) (ok : OkR C34 rho) : StartF Try.prog H34 100000 [3] Try.f6 body (symAs shs 0 0 C34) (symH shs 0 0 C34) (nls shs) F34 (fun _ _ => True) ks34 K (enOf C34 rho ok) := StartF.of (by kernel_rfl)
theorem wk34 {w : World} {Ls : Nat → Nat → Nat → Int} {vs : List Value} {ns : List Int} (hv : ShsOk Try.prog w Ls shs 0 vs ns) (h : InB C34 ns) (hlen : vs.length ≤ Try.f6.ntmps) : Calls Try.prog 6 vs.toArray w fun e w' => e = .returned (.bool true) ∧ Below w.heap.size w w' :=
  fam_law (K := K) mo nogo (fun E R => @TabOk.con E _ _ _ _ (@tacOk34 E)) Try.func6 hbody rd34 (st34 (rho0 ns Ls) (rho0_ok h.ind)) hv h.ind (fun j m hj => rho0_at hj) (fun j f i hj hf => rho0_sel (by rw [h.ind.len]; decide) hj hf) hlen rfl
theorem z34 : BoxOk Try.prog H34 6 100000 shs [(3, 3), (4, 4), (0, 0)] := fun rho ok => by kernel_rfl
end Go.Proofs.Ytigilihpofafoaa.ReplOrderP
