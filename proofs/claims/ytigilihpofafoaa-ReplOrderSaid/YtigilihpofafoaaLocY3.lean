/- The small machine of local values: a law with a loop, part 3: what is to be reckoned. -/
import Derived.Test.YtigilihpofafoaaLocY2
namespace Go.Proofs.Ytigilihpofafoaa.Loc
open Go Go.RowKit
set_option linter.unusedVariables false
set_option linter.unusedSimpArgs false
set_option linter.unusedSectionVars false

/-- what is left to do where block 'id' is entered first -/
def orK : Option (List Itm) → Option (List Itm) → Option (List Itm)
  | some k, _ => some k
  | none, r => r
noncomputable def findK (id : Nat) : Code → List Itm → Option (List Itm)
  | .seq a b, k => orK (findK id a (.code b :: k)) (findK id b k)
  | .cond _ a b, k => orK (findK id a k) (findK id b k)
  | .block i b, k => cond (Nat.beq i id) (some (.code (.block i b) :: k)) (findK id b (.blk i :: k))
  | .loop b, k => findK id b (.lp b :: k)
  | _, _ => none
noncomputable def stopK (id : Nat) (fn : Func) : List Itm :=
  match fn.body with
  | some b => (findK id b []).getD []
  | none => []
noncomputable def sflag (E : En) (T : Tm) (p : Pth × (List Itm × St)) : Bool := cond (@fits E T p.1 p.2.2) (cond (Nat.beq p.2.2.nt T.nt) (Nat.beq p.2.2.fl 0) false) false
noncomputable def sflags (E : En) (Ts : List Tm) (p : Pth × (List Itm × St)) : Bool := Ts.any fun T => sflag E T p
noncomputable def rflag (E : En) (T : Tm) (later : List Tm) (p : Pth × (List Itm × St)) : Bool := cond (cond (sflag E T p) (again T p.2.2) false) true (sflags E later p)
noncomputable def pt0 : Pth := ⟨[], [], false⟩

theorem of_map {α : Type} {f : α → List Itm × Bool} {k : List Itm} {m : Nat} {l : List α} (h : l.map f = List.replicate m (k, true)) : ∀ p ∈ l, (f p).1 = k ∧ (f p).2 = true := fun p hp => by
  have : f p ∈ List.replicate m (k, true) := by rw [← h]; exact List.mem_map_of_mem hp
  rw [List.mem_replicate] at this
  rw [this.2]; exact ⟨rfl, rfl⟩
theorem sflag_of {E : En} {T : Tm} {p : Pth × (List Itm × St)} (h : sflag E T p = true) : Fits E T p := by
  obtain ⟨h1, h2⟩ := condF h
  obtain ⟨h2, h3⟩ := condF h2
  rw [nbeq_t] at h2 h3
  exact ⟨h1, h2, h3⟩
section
variable {P : Program} {G : Know} {fn : Func} {n : Nat} {ss : List Nat} {T : Tm} {later : List Tm} {m : Nat} {k : List Itm} {E : En}
theorem RoundOk.of {R : List (String × List (SB × Bool))} (hR : ∀ p ∈ R, ¬ @FactsOk E p.2) (h : (@badC E (roundO E P G n ss fn T k) (@ptOf E T.fa), (@stops E (roundO E P G n ss fn T k) (@ptOf E T.fa)).map fun p => (p.2.1, rflag E T later p)) = (R, List.replicate m (k, true))) : RoundOk P G n ss fn T later k E := by
  obtain ⟨h1, h2⟩ := Prod.mk.inj h
  refine ⟨fun p hp => hR p (by rw [← h1]; exact hp), fun p hp => ?_⟩
  obtain ⟨g1, g2⟩ := of_map h2 p hp
  refine ⟨g1, ?_⟩
  have g2 : cond (cond (sflag E T p) (again T p.2.2) false) true (sflags E later p) = true := g2
  cases hc : cond (sflag E T p) (again T p.2.2) false with
  | true =>
    obtain ⟨a1, a2⟩ := condF hc
    exact .inl ⟨sflag_of a1, a2⟩
  | false =>
    rw [hc] at g2
    obtain ⟨T', hT, hs⟩ := List.any_eq_true.1 g2
    exact .inr ⟨T', hT, sflag_of hs⟩
theorem StartOk.of {R : List (String × List (SB × Bool))} (hR : ∀ p ∈ R, ¬ @FactsOk E p.2) {b : Code} {args : List LV} {hp : LH} {nx : Nat} {Ts : List Tm} (h : (@badC E (startO E P G n ss fn b args hp nx) pt0, (@stops E (startO E P G n ss fn b args hp nx) pt0).map fun p => (p.2.1, sflags E Ts p)) = (R, List.replicate m (k, true))) : StartOk P G n ss fn b args hp nx Ts k E := by
  obtain ⟨h1, h2⟩ := Prod.mk.inj h
  refine ⟨fun p hp => hR p (by rw [← h1]; exact hp), fun p hp => ?_⟩
  obtain ⟨g1, g2⟩ := of_map h2 p hp
  obtain ⟨T, hT, hs⟩ := List.any_eq_true.1 g2
  exact ⟨g1, T, hT, sflag_of hs⟩
end
theorem noR {E : En} : ∀ p ∈ ([] : List (String × List (SB × Bool))), ¬ @FactsOk E p.2 := fun p h => by cases h
theorem ConOk.none' {P : Program} {Φ : Out → Prop} {wr : FuncId → Bool} (E : En) : @ConOk E P Φ ⟨fun _ => .none, wr⟩ := fun f g h => by cases h
end Go.Proofs.Ytigilihpofafoaa.Loc
