/- The small machine of local values: a law with a loop, part 3: what is to be reckoned. -/
import Derived.Test.YtdhebhemkbeppaaLocY2
namespace Go.Proofs.Ytdhebhemkbeppaa.Loc
open Go Go.RowKit
set_option linter.unusedVariables false
set_option linter.unusedSimpArgs false
set_option linter.unusedSectionVars false

/-- what is left to do where block 'id' is entered first -/
def orK : Option (List Itm) → Option (List Itm) → Option (List Itm)
  | some k, _ => some k
  | none, r => r
noncomputable def findK (id : Nat) : Code → List Itm → Option (List Itm)
  | .seq a b, k => orK (findK id a (.code b :: k)) (findK id b k)
  | .cond _ a b, k => orK (findK id a k) (findK id b k)
  | .block i b, k => cond (Nat.beq i id) (some (.code (.block i b) :: k)) (findK id b (.blk i :: k))
  | .loop b, k => findK id b (.lp b :: k)
  | _, _ => none
noncomputable def stopK (id : Nat) (fn : Func) : List Itm :=
  match fn.body with
  | some b => (findK id b []).getD []
  | none => []
noncomputable def finK (P : Program) (fn : Func) : LE → St → Out := fun e st => match e with
    | .normal => endL P fn st okK
    | .ret => endL P fn st okK
    | .exit _ => .stuck "exit"
noncomputable def roundO (E : En) (P : Program) (G : Know) (n : Nat) (ss : List Nat) (fn : Func) (T : Tm) (k : List Itm) : Out := @run E P G n none ss (inside k) T.st (finK P fn)
noncomputable def startO (E : En) (P : Program) (G : Know) (n : Nat) (ss : List Nat) (fn : Func) (b : Code) (args : List LV) : Out :=
  @run E P G n none ss [.code b] { t := RM.ofArgs args 0 .nil, nt := fn.ntmps, h := .nil, nx := 0, ds := [], fl := 0 } (finK P fn)
noncomputable def sflag (E : En) (T : Tm) (p : Pth × (List Itm × St)) : Bool := cond (@fits E T p.1 p.2.2) (cond (Nat.beq p.2.2.nt T.nt) (Nat.beq p.2.2.fl 0) false) false
noncomputable def nextB (j : Nat) : Option SE → Bool
  | some e => @SE.beq e (.bin .add .i64 (.v j) (.c 1))
  | none => false
noncomputable def rflag (E : En) (T : Tm) (j : Nat) (p : Pth × (List Itm × St)) : Bool := cond (sflag E T p) (nextB j ((subOf p.2.2.t T.src 0)[j]?)) false
noncomputable def sflags (E : En) (Ts : List Tm) (p : Pth × (List Itm × St)) : Bool := Ts.any fun T => sflag E T p
noncomputable def pt0 : Pth := ⟨[], [], false⟩

theorem of_map {α : Type} {f : α → List Itm × Bool} {k : List Itm} {m : Nat} {l : List α} (h : l.map f = List.replicate m (k, true)) : ∀ p ∈ l, (f p).1 = k ∧ (f p).2 = true := fun p hp => by
  have : f p ∈ List.replicate m (k, true) := by rw [← h]; exact List.mem_map_of_mem hp
  rw [List.mem_replicate] at this
  rw [this.2]; exact ⟨rfl, rfl⟩
theorem sflag_of {E : En} {T : Tm} {p : Pth × (List Itm × St)} (h : sflag E T p = true) : @fits E T p.1 p.2.2 = true ∧ p.2.2.nt = T.nt ∧ p.2.2.fl = 0 := by
  obtain ⟨h1, h2⟩ := condF h
  obtain ⟨h2, h3⟩ := condF h2
  rw [nbeq_t] at h2 h3
  exact ⟨h1, h2, h3⟩
section
variable {P : Program} {G : Know} {fn : Func} {n : Nat} {ss : List Nat} {T : Tm} {j m : Nat} {k : List Itm} {E : En}
theorem RoundOk.of {R : List (String × List (SB × Bool))} (hR : ∀ p ∈ R, ¬ @FactsOk E p.2) (h : (@badC E (roundO E P G n ss fn T k) (@ptOf E T.fa), (@stops E (roundO E P G n ss fn T k) (@ptOf E T.fa)).map fun p => (p.2.1, rflag E T j p)) = (R, List.replicate m (k, true))) : RoundOk P G n ss fn T j k E := by
  obtain ⟨h1, h2⟩ := Prod.mk.inj h
  refine ⟨fun p hp => hR p (by rw [← h1]; exact hp), fun p hp => ?_⟩
  obtain ⟨g1, g2⟩ := of_map h2 p hp
  obtain ⟨g2, g3⟩ := condF g2
  obtain ⟨s1, s2, s3⟩ := sflag_of g2
  refine ⟨g1, s1, s2, s3, ?_⟩
  cases hs : (subOf p.2.2.t T.src 0)[j]? with
  | none => rw [hs] at g3; cases g3
  | some e =>
    rw [hs] at g3
    exact congrArg some (@SE.beq_t E _ _ g3)
theorem StartOk.of {R : List (String × List (SB × Bool))} (hR : ∀ p ∈ R, ¬ @FactsOk E p.2) {b : Code} {args : List LV} {Ts : List Tm} (h : (@badC E (startO E P G n ss fn b args) pt0, (@stops E (startO E P G n ss fn b args) pt0).map fun p => (p.2.1, sflags E Ts p)) = (R, List.replicate m (k, true))) : StartOk P G n ss fn b args Ts k E := by
  obtain ⟨h1, h2⟩ := Prod.mk.inj h
  refine ⟨fun p hp => hR p (by rw [← h1]; exact hp), fun p hp => ?_⟩
  obtain ⟨g1, g2⟩ := of_map h2 p hp
  obtain ⟨T, hT, hs⟩ := List.any_eq_true.1 g2
  obtain ⟨s1, s2, s3⟩ := sflag_of hs
  exact ⟨g1, T, hT, s1, s2, s3⟩
end
theorem noR {E : En} : ∀ p ∈ ([] : List (String × List (SB × Bool))), ¬ @FactsOk E p.2 := fun p h => by cases h
theorem ConOk.none' {P : Program} {Φ : Out → Prop} {wr : FuncId → Bool} (E : En) : @ConOk E P Φ ⟨fun _ => .none, wr⟩ := fun f g h => by cases h
end Go.Proofs.Ytdhebhemkbeppaa.Loc
