/- The small machine of local values: code. Part 4: loops over functions; all code; 'run_sound'. -/
import Derived.Test.YtigilihpofafoaaLocC3
namespace Go.Proofs.Ytigilihpofafoaa.Loc
open Go
set_option linter.unusedVariables false
set_option linter.unusedSimpArgs false
set_option linter.unusedSectionVars false
variable [En]
variable {P : Program} {Φ : Out → Prop} {fl : Nat}

theorem Sim.loop {σ : Sg} {h : LH} {w : World} (s : Sim P fl σ h w) {l : Nat} {state : LoopState} {pend : Option Code} {t : RM LV} {nt : Nat} {ps : Array Tmp} {assign body : Code} {d : Nat}
    (hg : h.get l = some (.loop state pend t nt ps assign body d)) {p : Place} (hp : σ l = some p) :
    ∃ rec : Loop, w.heap[p.blk]? = some (.loop rec) ∧ rec.state = state ∧ rec.pending = pend ∧ rec.params = ps ∧ rec.assign = assign ∧ rec.body = body ∧ rec.tmps.size = nt ∧ TR σ t rec.tmps := by
  obtain ⟨p', ob, h1, h2, h3, _⟩ := s l _ hg
  rw [hp] at h1; cases h1
  obtain ⟨rec, rfl, r⟩ := h3
  exact ⟨rec, h2, r⟩
/-- the loop's record is written -/
theorem Sim.setLoop {σ : Sg} {h : LH} {w : World} (s : Sim P fl σ h w) {l : Nat} {state : LoopState} {pend : Option Code} {t : RM LV} {nt : Nat} {ps : Array Tmp} {assign body : Code} {d : Nat}
    (hg : h.get l = some (.loop state pend t nt ps assign body d)) {p : Place} (hp : σ l = some p) (hfl : fl ≤ l) {rec : Loop} (hrec : w.heap[p.blk]? = some (.loop rec)) (state' : LoopState) (pend' : Option Code) :
    Sim P fl σ (h.set l (.loop state' pend' t nt ps assign body d)) (w.putObj p.blk (.loop { rec with state := state', pending := pend' })) ∧
      Step fl σ h w σ (h.set l (.loop state' pend' t nt ps assign body d)) (w.putObj p.blk (.loop { rec with state := state', pending := pend' })) := by
  obtain ⟨rec', h1, h2, h3, h4, h5, h6, h7, h8⟩ := s.loop hg hp
  rw [hrec] at h1
  have hre : rec = rec' := by simpa using h1
  subst hre
  obtain ⟨f1, f2, f3, f4, f5⟩ := putObj_facts w p.blk (.loop { rec with state := state', pending := pend' })
  exact s.put hg ⟨hfl, rfl⟩ rfl hp f1 f2 (World.putObj_heap_same (Array.getElem?_eq_some_iff.1 hrec).1) f3 f4 f5 ⟨_, rfl, rfl, rfl, h4, h5, h6, h7, h8⟩

theorem setPs_sound {σ : Sg} {nt : Nat} : ∀ (ps : List Tmp) (args : List LV) (vals : List Value) (t : RM LV) (tmps : Array Value), VRs σ args vals → TR σ t tmps → tmps.size = nt →
    TR σ (setPs nt ps args t) ((ps.zip vals).foldl (fun tmps (p : Tmp × Value) => tmps.setIfInBounds p.1 p.2) tmps)
  | [], args, vals, t, tmps, hv, ht, hn => by simpa [setPs] using ht
  | p :: ps, [], vals, t, tmps, hv, ht, hn => by
    simp only [VRs] at hv; subst hv
    simpa [setPs] using ht
  | p :: ps, v :: vs, _, t, tmps, ⟨x, xs, e, hx, hxs⟩, ht, hn => by
    subst e
    simp only [setPs, List.zip_cons_cons, List.foldl_cons]
    cases hb : Nat.blt p nt with
    | true =>
      rw [Nat.blt_eq] at hb
      simp only [cond_true]
      exact setPs_sound ps vs xs _ _ hxs (ht.put (by omega) hx) (by simpa using hn)
    | false =>
      have hb' : ¬ p < nt := by rw [← Nat.blt_eq, hb]; simp
      simp only [cond_false]
      have : tmps.setIfInBounds p x = tmps := by rw [Array.setIfInBounds, dif_neg (by rw [hn]; exact hb')]
      rw [this]
      exact setPs_sound ps vs xs _ _ hxs ht hn

theorem zip_foldl (ps : Array Tmp) (vals : Array Value) (tmps : Array Value) : (ps.zip vals).foldl (fun tmps (t, a) => tmps.setIfInBounds t a) tmps = (ps.toList.zip vals.toList).foldl (fun tmps (p : Tmp × Value) => tmps.setIfInBounds p.1 p.2) tmps := by
  rw [← Array.foldl_toList, Array.toList_zip]

theorem foldl_size (l : List (Tmp × Value)) : ∀ (tmps : Array Value), (l.foldl (fun tmps (p : Tmp × Value) => tmps.setIfInBounds p.1 p.2) tmps).size = tmps.size := by
  induction l with
  | nil => intro t; rfl
  | cons a l ih => intro t; rw [List.foldl_cons, ih]; simp

theorem yieldL_sound (hs : Good Φ) {rn : RunT} (hrn : RnOk P Φ rn) : CyOk P Φ (yieldL rn) := by
  intro fl l args h nx c H σ w vals p hv sim fr hp
  unfold yieldL at H
  split at H
  · rename_i t nt ps assign body dfr hg
    have HA := of_cond hs H
    clear H
    obtain ⟨hb, H⟩ := HA
    rw [Bool.and_eq_true, beq_t, llen_eq, Nat.ble_eq] at hb
    obtain ⟨rec, r1, r2, r3, r4, r5, r6, r7, r8⟩ := sim.loop hg hp
    have hl := hv.length
    refine ⟨rec, r1, by rw [hl, hb.1, r4], ?_⟩
    rw [zip_foldl, r4, r5, r6]
    refine roundIn_of_wpIn trivial ?_
    have s0 : SR P σ { t := setPs nt ps.toList args t, nt := nt, h := h, nx := nx, ds := [], fl := fl } { tmps := (ps.toList.zip vals).foldl (fun tmps (p : Tmp × Value) => tmps.setIfInBounds p.1 p.2) rec.tmps, defers := [] } w :=
      ⟨sim, fr, by rw [foldl_size]; exact r7, setPs_sound _ _ _ _ _ hv r8 r7, rfl⟩
    have := hrn (some l) [] [.code assign] _ _ H σ _ w (some p.blk) ⟨p, hp, rfl⟩ s0
      (Exit.then (fun a₁ w₁ => ∃ w₂, (Instr.beginRound p.blk).run P w₁ = .ok () w₂ ∧ body.wpIn (wd (some p.blk)) 0 P (roundPost P p.blk fun e w' => ∃ x, e = .returned x ∧ Rets P Φ fl σ h nx w c x w') a₁ w₂) (fun _ _ _ => False)) ?_
      (fun _ _ _ _ _ h => absurd rfl h)
    · exact this
    · intro e st' σ' a' w' he s' af
      cases e with
      | exit id => exact absurd he (hs _)
      | ret => exact absurd he (hs _)
      | normal =>
        have hfl : st'.fl = fl := af.fl
        have hp' := af.step.ext l p hp
        simp only at he
        split at he
        · rename_i t2 nt2 ps2 as2 body2 dfr2 hg2
          obtain ⟨rec2, q1, q2, q3, q4, q5, q6, q7, q8⟩ := s'.sim.loop hg2 hp'
          have hltl : fl ≤ l := hb.2
          obtain ⟨b1, b2⟩ := s'.sim.setLoop hg2 hp' (by rw [hfl]; exact hltl) q1 .busy none
          refine ⟨_, run_beginRound q1 q2, ?_⟩
          rw [show ({ rec2 with state := LoopState.busy } : Loop) = { rec2 with state := .busy, pending := none } by rw [← q3]]
          have s2 : SR P σ' (st'.setH (st'.h.set l (.loop .busy none t2 nt2 ps2 as2 body2 dfr2)) st'.nx) a' (w'.putObj p.blk (.loop { rec2 with state := .busy, pending := none })) :=
            ⟨b1, s'.fr, s'.nt, s'.tr, s'.ds⟩
          have af2 : After σ' st' w' σ' (st'.setH (st'.h.set l (.loop .busy none t2 nt2 ps2 as2 body2 dfr2)) st'.nx) (w'.putObj p.blk (.loop { rec2 with state := .busy, pending := none })) := ⟨b2, rfl, rfl, Nat.le_refl _, fun _ _ => rfl⟩
          have hbody := hrn (some l) [] [.code body] _ _ he σ' a' _ (some p.blk) ⟨p, hp', rfl⟩ s2 (roundPost P p.blk fun e w' => ∃ x, e = .returned x ∧ Rets P Φ fl σ h nx w c x w') ?_ (fun _ _ _ _ _ h => absurd rfl h)
          · exact hbody
          · intro e st3 σ3 a3 w3 he3 s3 af3
            have hp3 := af3.step.ext l p hp'
            have hfl3 : st3.fl = fl := af3.fl.trans hfl
            have aft := (af.trans af2).trans af3
            split at he3
            · rename_i t4 nt4 ps4 as4 body4 dfr4 hg4
              obtain ⟨rec3, u1, u2, u3, u4, u5, u6, u7, u8⟩ := s3.sim.loop hg4 hp3
              have fin : ∀ (jump : Option Code) (state : LoopState), (state = if jump.isNone then .ready else .done) → Φ (c (.bool jump.isNone) (st3.h.set l (.loop state jump t4 nt4 ps4 as4 body4 dfr4)) st3.nx) →
                  ∃ v w', (Instr.endRound p.blk jump).run P w3 = .ok v w' ∧ ∃ x, (Ending.returned v) = .returned x ∧ Rets P Φ fl σ h nx w c x w' := fun jump state hst hc => by
                obtain ⟨d1, d2⟩ := s3.sim.setLoop hg4 hp3 (by rw [hfl3]; exact hltl) u1 state jump
                have hrun := run_endRound (P := P) jump u1
                rw [← hst] at hrun
                refine ⟨_, _, hrun, _, rfl, .bool jump.isNone, _, _, σ3, hc, by simp [VR], ?_, ?_, ?_⟩
                · rw [hfl3] at d1; exact d1
                · have := s3.fr; rw [hfl3] at this; exact ⟨this, aft.le, aft.agr⟩
                · rw [hfl3] at d2; exact aft.step.trans d2
              cases e with
              | normal => exact fin none .ready rfl he3
              | ret => exact fin (some .ret) .done rfl he3
              | exit id => exact fin (some (.exit id)) .done rfl he3
            · exact absurd he3 (hs _)
        · exact absurd he (hs _)
  · exact absurd H (hs _)
end Go.Proofs.Ytigilihpofafoaa.Loc
