/- The small machine of local values: a law with a loop: a family of templates, told by keys; each round leads from one of the family to any of it, one round on, or to the end. What is known besides the templates: an invariant 'I'. -/
import Derived.Test.YtigilihpofafoaaLocY3
import Derived.Test.YtigilihpofafoaaLocN2
namespace Go.Proofs.Ytigilihpofafoaa.Loc
open Go Go.RowKit
set_option linter.unusedVariables false
set_option linter.unusedSimpArgs false
set_option linter.unusedSectionVars false

/-- a family: her keys' template, and the key that is read from a state -/
structure Fam where
  T : List Int → Tm
  key : St → List Int
abbrev Inv := List Int → (Nat → Int) → Prop
/-- the stop lies in the family, one round on -/
noncomputable def againTo (T T' : Tm) (t : St) : Bool :=
  match T.ctr, T'.ctr with
  | some j, some j' => (match (subOf t T'.src 0)[j']? with
    | some e => cond (nextB T.dom j e) (match domGet T.dom j, domGet T'.dom j' with
      | some r, some r' => iBeq r.2 r'.2
      | _, _ => false) false
    | none => false)
  | _, _ => false
/-- what holds at a stop -/
structure StopF (P : Program) (F : Fam) (I : Inv) (ks : List (List Int)) (E : En) (p : Pth × (List Itm × St)) : Prop where
  mem : F.key p.2.2 ∈ ks
  fit : Fits E (F.T (F.key p.2.2)) p
  inv : @FactsOk E p.1.facts → I (F.key p.2.2) (@rhoOf E (subOf p.2.2 (F.T (F.key p.2.2)).src 0))
structure RoundF (P : Program) (G : Know) (n : Nat) (ss : List Nat) (fn : Func) (F : Fam) (I : Inv) (ks : List (List Int)) (k : List Int) (K : List Itm) (E : En) : Prop where
  bad : ∀ p ∈ @badC E (roundO E P G n ss fn (F.T k) K) (@ptOf E (F.T k).fa), ¬ @FactsOk E p.2
  stop : ∀ p ∈ @stops E (roundO E P G n ss fn (F.T k) K) (@ptOf E (F.T k).fa), p.2.1 = K ∧ StopF P F I ks E p ∧ againTo (F.T k) (F.T (F.key p.2.2)) p.2.2 = true
structure StartF (P : Program) (G : Know) (n : Nat) (ss : List Nat) (fn : Func) (b : Code) (args : List LV) (h : LH) (nx : Nat) (F : Fam) (I : Inv) (ks : List (List Int)) (K : List Itm) (E : En) : Prop where
  bad : ∀ p ∈ @badC E (startO E P G n ss fn b args h nx) ⟨[], [], false⟩, ¬ @FactsOk E p.2
  stop : ∀ p ∈ @stops E (startO E P G n ss fn b args h nx) ⟨[], [], false⟩, p.2.1 = K ∧ StopF P F I ks E p

section
variable {P : Program} {G : Know} {fn : Func} {n : Nat} {ss : List Nat} {K : List Itm} {F : Fam} {I : Inv} {ks : List (List Int)}
/-- what is shown of a key -/
def ClaimF (P : Program) (fn : Func) (K : List Itm) (B : Nat) (w0 : World) (F : Fam) (I : Inv) (k : List Int) : Prop := ∀ (rho : Nat → Int) (ok : ∀ i p, (F.T k).dom[i]? = some p → p.1 ≤ rho i ∧ rho i ≤ p.2), @FaOk (enOf (F.T k).dom rho ok) (F.T k).fa → I k rho →
  ∀ (σ : Sg) (a : Act) (w : World), @SR (enOf (F.T k).dom rho ok) P σ (F.T k).st a w → Hi B σ (F.T k).st.h → Below B w0 w → swp none P (bodyPostM Fence.wide 0 P fn (lawPost B w0)) K .normal a w
theorem againTo_left {T T' : Tm} {t : St} (E : En) (hE : E.dom = T.dom) (h : againTo T T' t = true) (ok' : ∀ i p, T'.dom[i]? = some p → p.1 ≤ @rhoOf E (subOf t T'.src 0) i ∧ @rhoOf E (subOf t T'.src 0) i ≤ p.2) :
    left T' (@rhoOf E (subOf t T'.src 0)) < left T E.rho := by
  unfold againTo at h
  unfold left
  cases hc : T.ctr with
  | none => rw [hc] at h; cases h
  | some j =>
    cases hc' : T'.ctr with
    | none => rw [hc, hc'] at h; cases h
    | some j' =>
      rw [hc, hc'] at h
      simp only at h ⊢
      cases hs : (subOf t T'.src 0)[j']? with
      | none => rw [hs] at h; cases h
      | some e =>
        rw [hs] at h
        simp only at h
        obtain ⟨h, hb⟩ := condF h
        unfold nextB at h
        split at h
        · rename_i k i x hold
          obtain ⟨h1, h2⟩ := condF h
          obtain ⟨h1, h3⟩ := condF h1
          rw [nbeq_t] at h1
          subst h1
          have h3 := @iBeq_t E _ _ h3
          subst h3
          cases hd : domGet T.dom i with
          | none => rw [hd] at h2; cases h2
          | some r =>
            rw [hd] at h2 hb
            cases hd2 : domGet T'.dom j' with
            | none => rw [hd2] at hb; cases hb
            | some r' =>
              rw [hd2] at hb
              simp only at h2 hb ⊢
              have hb := @iBeq_t E _ _ hb
              obtain ⟨h4, h5⟩ := condF h2
              have h4 := @iLe_t E _ _ h4
              have h5 := @iLt_t E _ _ h5
              have hd' : T.dom[i]? = some r := by rw [← @domGet_eq E]; exact hd
              have hd2' : T'.dom[j']? = some r' := by rw [← @domGet_eq E]; exact hd2
              have b1 := E.ok i r (by rw [hE]; exact hd')
              have b2 := ok' j' r' hd2'
              have e1 : @rhoOf E (subOf t T'.src 0) j' = E.rho i + 1 := by
                unfold rhoOf
                rw [hs]
                show k.wrap (E.rho i + 1) = E.rho i + 1
                exact @wrap_id E _ _ (by omega) (by omega)
              rw [e1] at b2 ⊢
              omega
        · cases h
theorem fam_rounds (hmo : P.follows .mixedOrders = true) (hgo : NoGo P) (hG : ∀ E R, @ConOk E P (@Ends E R) G) {B : Nat} {w0 : World} (hB0 : B ≤ w0.heap.size)
    (hr : ∀ k ∈ ks, ∀ rho ok, I k rho → RoundF P G n ss fn F I ks k K (enOf (F.T k).dom rho ok)) : ∀ k ∈ ks, ClaimF P fn K B w0 F I k := by
  have key : ∀ (m : Nat) (k : List Int), k ∈ ks → ∀ (rho : Nat → Int) (ok : ∀ i p, (F.T k).dom[i]? = some p → p.1 ≤ rho i ∧ rho i ≤ p.2), left (F.T k) rho = m → @FaOk (enOf (F.T k).dom rho ok) (F.T k).fa → I k rho →
      ∀ (σ : Sg) (a : Act) (w : World), @SR (enOf (F.T k).dom rho ok) P σ (F.T k).st a w → Hi B σ (F.T k).st.h → Below B w0 w → swp none P (bodyPostM Fence.wide 0 P fn (lawPost B w0)) K .normal a w := by
    intro m
    induction m using Nat.strongRecOn with
    | _ m ih =>
      intro k hk rho ok hm hfa hI σ a w s hH hB
      letI : En := enOf (F.T k).dom rho ok
      have hBw : B ≤ w.heap.size := Nat.le_trans hB0 hB.size
      have R := hr k hk rho ok hI
      refine swp_inside ?_
      have hΦ := stops_sound (R := fun pt k' st => k' = K ∧ StopF P F I ks (enOf (F.T k).dom rho ok) (pt, k', st) ∧ againTo (F.T k) (F.T (F.key st)) st = true) (pt := ptOf (F.T k).fa) (ptOf_sound hfa) R.bad R.stop
      have good := Ends.good (fun pt k' st => k' = K ∧ StopF P F I ks (enOf (F.T k).dom rho ok) (pt, k', st) ∧ againTo (F.T k) (F.T (F.key st)) st = true)
      refine runF_sound good hmo hgo (hG _ _) n none ss (inside K) (F.T k).st _ hΦ σ a w none rfl s _ (fun e st' σ' a' w' he s' af => ?_) (fun k' st' σ' a' w' _ hc s' af => ?_)
      · have key : Ends (fun pt k' st => k' = K ∧ StopF P F I ks (enOf (F.T k).dom rho ok) (pt, k', st) ∧ againTo (F.T k) (F.T (F.key st)) st = true) (endL P fn st' okK) → LeavesInM Fence.wide 0 P fn a'.tmps (lawPost B w0) a'.defers .returning w' := fun he => by
          refine endL_sound good he s' fun v h' x w'' h1 h2 h3 h4 => ⟨by rw [okK_good good h1 h2], ?_⟩
          have hfl : st'.fl = 0 := af.fl
          rw [hfl] at h4
          exact hB.trans (below_of hH (af.step.trans h4) hBw)
        cases e with
        | normal => exact key he
        | ret => exact key he
        | exit id => exact absurd he (good.s _)
      · rcases hc with ⟨e, st, hc⟩ | ⟨pt, k2, st2, hc, hp, rfl, hs, hag⟩
        · simp [reach] at hc
        · simp only [reach, Out.cfg.injEq] at hc
          obtain ⟨rfl, rfl⟩ := hc
          have hH' := hi_of (P := P) hH s.sim af.step hBw
          have hB' := hB.trans (below_of hH af.step hBw)
          obtain ⟨hmem, ⟨hf, hnt, hfl⟩, hinv⟩ := hs
          obtain ⟨ok', s2, hnx, hfa'⟩ := fits_sound hp hf s' hfl hnt
          have hlt := againTo_left (enOf (F.T k).dom rho ok) rfl hag ok'
          exact ih _ (by rw [← hm]; exact hlt) _ hmem _ ok' rfl hfa' (hinv hp.facts) _ _ _ s2 (hi_cut hH' hf s2) hB'
  exact fun k hk rho ok => key _ k hk rho ok rfl
theorem fam_law (hmo : P.follows .mixedOrders = true) (hgo : NoGo P) (hG : ∀ E R, @ConOk E P (@Ends E R) G) {f : FuncId} {b : Code} (hf : P.funcs[f]? = some fn) (hb : fn.body = some b)
    (hr : ∀ k ∈ ks, ∀ rho ok, I k rho → RoundF P G n ss fn F I ks k K (enOf (F.T k).dom rho ok)) {shs : List Sh} {l : List (Int × Int)} {rho : Nat → Int} {ok : OkR l rho}
    (S : StartF P G n ss fn b (symAs shs 0 0 l) (symH shs 0 0 l) (nls shs) F I ks K (enOf l rho ok))
    {w : World} {Ls : Nat → Nat → Nat → Int} {vs : List Value} {ns : List Int} (hv : ShsOk P w Ls shs 0 vs ns) (hin : InD l ns) (hrr : ∀ j m, ns[j]? = some m → rho j = m)
    (hsel : ∀ j f i, j < 16 → f < 64 → rho (selI j f i) = Ls j f i.toNat) (hle : vs.length ≤ fn.ntmps) (hl2 : Nat.ble (nls shs) 16 = true) :
    Calls P f vs.toArray w fun e w' => e = .returned (.bool true) ∧ Below w.heap.size w w' := by
  rw [← callsIn_wide (n := 0)]
  refine callsIn_of_wp_marks hf hb trivial ?_
  letI : En := enOf l rho ok
  have hl2 := Nat.le_of_ble_eq_true hl2
  have st0 : Strt P w (sgOf shs vs 0) (symH shs 0 0 l) 0 (nls shs) (symAs shs 0 0 l) vs :=
    symAs_sound (Ls := Ls) (ms := []) hsel hv (by rw [List.append_nil]; exact hin) (fun j m hj => by
      rw [List.append_nil] at hj
      rw [Nat.zero_add]; exact hrr j m hj) (by omega)
  have s0 : SR P (sgOf shs vs 0) { t := RM.ofArgs (symAs shs 0 0 l) 0 .nil, nt := fn.ntmps, h := symH shs 0 0 l, nx := nls shs, ds := [], fl := 0 } { tmps := vs.toArray ++ Array.replicate (fn.ntmps - vs.toArray.size) undef, defers := [] } w :=
    ⟨st0.sim', st0.fr', (by simp; omega), TR.args st0.vr _, rfl⟩
  have hH0 : Hi w.heap.size (sgOf shs vs 0) (symH shs 0 0 l) := fun id o p h hrw => by
    have := st0.lone id o h
    rw [hrw] at this; cases this
  have hΦ := stops_sound (R := fun pt k' st => k' = K ∧ StopF P F I ks (enOf l rho ok) (pt, k', st)) (pt := ⟨[], [], false⟩) ⟨(by intro p hp; cases hp), (by intro p hp; cases hp), rfl⟩ S.bad S.stop
  have good := Ends.good (fun pt k' st => k' = K ∧ StopF P F I ks (enOf l rho ok) (pt, k', st))
  refine runF_sound good hmo hgo (hG _ _) n none ss [.code b] _ _ hΦ _ _ w none rfl s0 (bodyPostM Fence.wide 0 P fn (lawPost w.heap.size w)) (fun e st' σ' a' w' he s' af => ?_) (fun k' st' σ' a' w' _ hc s' af => ?_)
  · have key : Ends (fun pt k' st => k' = K ∧ StopF P F I ks (enOf l rho ok) (pt, k', st)) (endL P fn st' okK) → LeavesInM Fence.wide 0 P fn a'.tmps (lawPost w.heap.size w) a'.defers .returning w' := fun he => by
      refine endL_sound good he s' fun v h' x w'' h1 h2 h3 h4 => ⟨by rw [okK_good good h1 h2], ?_⟩
      have hfl : st'.fl = 0 := af.fl
      rw [hfl] at h4
      exact below_of hH0 (af.step.trans h4) (Nat.le_refl _)
    cases e with
    | normal => exact key he
    | ret => exact key he
    | exit id => exact absurd he (good.s _)
  · rcases hc with ⟨e, st, hc⟩ | ⟨pt, k2, st2, hc, hp, rfl, hs⟩
    · simp [reach] at hc
    · simp only [reach, Out.cfg.injEq] at hc
      obtain ⟨rfl, rfl⟩ := hc
      obtain ⟨hmem, ⟨hf2, hnt, hfl⟩, hinv⟩ := hs
      obtain ⟨ok', s2, hnx, hfa⟩ := fits_sound hp hf2 s' hfl hnt
      exact (fam_rounds hmo hgo hG (Nat.le_refl _) hr _ hmem) _ ok' hfa (hinv hp.facts) _ _ _ s2 (hi_cut (hi_of (P := P) hH0 s0.sim af.step (Nat.le_refl _)) hf2 s2) (below_of hH0 af.step (Nat.le_refl _))
end

/-! ### What is to be reckoned -/
noncomputable def keyBeq : List Int → List Int → Bool
  | [], [] => true
  | a :: l, b :: m => cond (iBeq a b) (keyBeq l m) false
  | _, _ => false
theorem keyBeq_t [En] : ∀ {a b : List Int}, keyBeq a b = true → a = b
  | [], [], _ => rfl
  | [], _ :: _, h => by cases h
  | _ :: _, [], h => by cases h
  | a :: l, b :: m, h => by
    obtain ⟨h1, h2⟩ := condF h
    rw [iBeq_t h1, keyBeq_t h2]
noncomputable def keyIn (k : List Int) : List (List Int) → Bool
  | [] => false
  | q :: l => cond (keyBeq q k) true (keyIn k l)
theorem keyIn_t [En] {k : List Int} : ∀ {l : List (List Int)}, keyIn k l = true → k ∈ l
  | [], h => by cases h
  | q :: l, h => by
    simp only [keyIn] at h
    cases hb : keyBeq q k with
    | true => rw [keyBeq_t hb]; simp
    | false => rw [hb] at h; exact List.mem_cons_of_mem _ (keyIn_t h)
noncomputable def stopB (F : Fam) (ks : List (List Int)) (E : En) (p : Pth × (List Itm × St)) : Bool := cond (keyIn (F.key p.2.2) ks) (sflag E (F.T (F.key p.2.2)) p) false
noncomputable def rndB (F : Fam) (ks : List (List Int)) (k : List Int) (E : En) (p : Pth × (List Itm × St)) : Bool := cond (stopB F ks E p) (againTo (F.T k) (F.T (F.key p.2.2)) p.2.2) false
noncomputable def allB {α : Type} (f : α → Bool) : List α → Bool
  | [] => true
  | a :: l => cond (f a) (allB f l) false
theorem allB_t {α : Type} {f : α → Bool} : ∀ {l : List α}, allB f l = true → ∀ a ∈ l, f a = true
  | [], _, a, h => by cases h
  | b :: l, hl, a, h => by
    obtain ⟨h1, h2⟩ := condF hl
    rcases List.mem_cons.1 h with rfl | h
    · exact h1
    · exact allB_t h2 a h
theorem StopF.of {P : Program} {F : Fam} {ks : List (List Int)} {E : En} {p : Pth × (List Itm × St)} (h : stopB F ks E p = true) : StopF P F (fun _ _ => True) ks E p := by
  obtain ⟨h1, h2⟩ := condF h
  exact ⟨@keyIn_t E _ _ h1, sflag_of h2, fun _ => trivial⟩
section
variable {P : Program} {G : Know} {fn : Func} {n : Nat} {ss : List Nat} {K : List Itm} {F : Fam} {ks : List (List Int)} {E : En}
theorem map_same {α β : Type} {f : α → β} {K : β} : ∀ {l : List α}, l.map f = l.map (fun _ => K) → ∀ a ∈ l, f a = K
  | [], _, a, h => by cases h
  | b :: l, hl, a, h => by
    simp only [List.map_cons, List.cons.injEq] at hl
    rcases List.mem_cons.1 h with rfl | h
    · exact hl.1
    · exact map_same hl.2 a h
/-- one round, without an invariant -/
theorem RoundF.of {k : List Int} (h : (cond (isNil (@badC E (roundO E P G n ss fn (F.T k) K) (@ptOf E (F.T k).fa))) (allB (rndB F ks k E) (@stops E (roundO E P G n ss fn (F.T k) K) (@ptOf E (F.T k).fa))) false, (@stops E (roundO E P G n ss fn (F.T k) K) (@ptOf E (F.T k).fa)).map fun p => p.2.1)
    = (true, (@stops E (roundO E P G n ss fn (F.T k) K) (@ptOf E (F.T k).fa)).map fun _ => K)) : RoundF P G n ss fn F (fun _ _ => True) ks k K E := by
  obtain ⟨h1, h2⟩ := Prod.mk.inj h
  obtain ⟨h0, h1⟩ := condF h1
  refine ⟨fun p hp => (by rw [isNil_t h0] at hp; cases hp), fun p hp => ?_⟩
  obtain ⟨g1, g2⟩ := condF (allB_t h1 p hp)
  exact ⟨map_same h2 p hp, StopF.of g1, g2⟩
theorem StartF.of {b : Code} {args : List LV} {h : LH} {nx : Nat} (hh : (cond (isNil (@badC E (startO E P G n ss fn b args h nx) pt0)) (allB (stopB F ks E) (@stops E (startO E P G n ss fn b args h nx) pt0)) false, (@stops E (startO E P G n ss fn b args h nx) pt0).map fun p => p.2.1)
    = (true, (@stops E (startO E P G n ss fn b args h nx) pt0).map fun _ => K)) : StartF P G n ss fn b args h nx F (fun _ _ => True) ks K E := by
  obtain ⟨h1, h2⟩ := Prod.mk.inj hh
  obtain ⟨h0, h1⟩ := condF h1
  refine ⟨fun p hp => ?_, fun p hp => ⟨map_same h2 p hp, StopF.of (allB_t h1 p hp)⟩⟩
  have hp' : p ∈ @badC E (startO E P G n ss fn b args h nx) pt0 := hp
  rw [isNil_t h0] at hp'; cases hp'
/-- many keys of the same variables at once -/
noncomputable def roundsB (E : En) (P : Program) (G : Know) (n : Nat) (ss : List Nat) (fn : Func) (F : Fam) (ks : List (List Int)) (K : List Itm) : List (List Int) → Bool
  | [] => true
  | k :: l => cond (cond (isNil (@badC E (roundO E P G n ss fn (F.T k) K) (@ptOf E (F.T k).fa))) (allB (rndB F ks k E) (@stops E (roundO E P G n ss fn (F.T k) K) (@ptOf E (F.T k).fa))) false) (roundsB E P G n ss fn F ks K l) false
noncomputable def roundsK (E : En) (P : Program) (G : Know) (n : Nat) (ss : List Nat) (fn : Func) (F : Fam) (K : List Itm) (g : (Pth × (List Itm × St)) → List Itm) : List (List Int) → List (List (List Itm))
  | [] => []
  | k :: l => (@stops E (roundO E P G n ss fn (F.T k) K) (@ptOf E (F.T k).fa)).map g :: roundsK E P G n ss fn F K g l
theorem rounds_of : ∀ {l : List (List Int)}, roundsB E P G n ss fn F ks K l = true → roundsK E P G n ss fn F K (fun p => p.2.1) l = roundsK E P G n ss fn F K (fun _ => K) l → ∀ k ∈ l, RoundF P G n ss fn F (fun _ _ => True) ks k K E
  | [], _, _, k, h => by cases h
  | q :: l, h1, h2, k, h => by
    obtain ⟨g1, g2⟩ := condF h1
    simp only [roundsK, List.cons.injEq] at h2
    rcases List.mem_cons.1 h with rfl | h
    · exact RoundF.of (by rw [g1, h2.1])
    · exact rounds_of g2 h2.2 k h
end
end Go.Proofs.Ytigilihpofafoaa.Loc
