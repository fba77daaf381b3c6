/- The small machine of local values: code. Part 5: ranges over functions; all code; 'run_sound'. -/
import Derived.Test.YtigilihpofafoaaLocC4
import Derived.Test.YtigilihpofafoaaLocD9
namespace Go.Proofs.Ytigilihpofafoaa.Loc
open Go
set_option linter.unusedVariables false
set_option linter.unusedSimpArgs false
set_option linter.unusedSectionVars false
variable [En]
variable {P : Program} {Φ : Out → Prop} {fl : Nat}

theorem rangeGo_sound (hs : Good Φ) (hgo : NoGo P) {G : Know} (hG : ConOk P Φ G) {rn : RunT} (hrn : RnOk P Φ rn) {g : FuncId} {xs ys : List LV} {st : St} {d : Nat} {ps : Array Tmp} {assign body : Code} {c : Option Code → St → Out}
    (H : Φ (rangeL.go P G rn ps assign body c g xs ys st d)) {σ : Sg} {a : Act} {w : World} (s : SR P σ st a w) {r : Option Nat} {Q : Exit → Act → World → Prop} {us vs : List Value} (hx : VRs σ xs us) (hy : VRs σ ys vs) (fn : FuncId) (defers : Nat)
    (hQ : ∀ p st' σ' a' w', Φ (c p st') → SR P σ' st' a' w' → After σ st w σ' st' w' → match p with | none => Q .normal a' w' | some cd => cd.wpIn (wd r) 0 P Q a' w') :
    Enters P g ∧ CallsIn (wd r) 0 P g (us ++ (Value.func (.yield w.heap.size) #[] #[] :: vs)).toArray (w.alloc (.loop { state := .ready, pending := none, fn, tmps := a.tmps, params := ps, assign, body, defers })) (rangePost (wd r) 0 P w.heap.size Q a) := by
  unfold rangeL.go at H
  obtain ⟨n1, n2, n3⟩ := s.sim.new (w' := w.alloc (.loop { state := .ready, pending := none, fn, tmps := a.tmps, params := ps, assign, body, defers })) s.fr
    (o := .loop .ready none st.t st.nt ps assign body d) (p := ⟨w.heap.size, 0, 0, 0, 0⟩) rfl rfl rfl rfl rfl rfl ⟨_, rfl, rfl, rfl, rfl, rfl, rfl, s.nt, s.tr.mono s.fr.ext⟩
  have hvals : VRs (upd σ st.nx ⟨w.heap.size, 0, 0, 0, 0⟩) (xs ++ (.yld st.nx :: ys)) (us ++ (Value.func (.yield w.heap.size) #[] #[] :: vs)) :=
    (VRs.mono s.fr.ext _ _ hx).append (VRs.cons ⟨_, upd_same, rfl⟩ (VRs.mono s.fr.ext _ _ hy))
  obtain ⟨h1, h2⟩ := callL_sound hs hgo hG hrn _ _ _ _ _ _ H _ _ _ hvals n1 n2.1
  refine ⟨h1, (callsIn_wd h2).mono fun e w' he => ?_⟩
  obtain ⟨x, rfl, v, h', nx', σ', q1, q2, q3, q4, q5⟩ := he
  have hp : σ' st.nx = some ⟨w.heap.size, 0, 0, 0, 0⟩ := q5.ext _ _ upd_same
  have fin : ∀ (state : LoopState) p t nt ps' as' bd' d', state ≠ .busy → h'.get st.nx = some (.loop state p t nt ps' as' bd' d') → Φ (cond (Nat.ble st.fl st.nx) (c p (st.setH (h'.del st.nx) nx')) (.stuck "range: the floor")) →
      rangePost (wd r) 0 P w.heap.size Q a (.returned x) w' := fun state p t nt ps' as' bd' d' hst hg hc => by
    obtain ⟨hb, hc⟩ := of_cond hs hc
    rw [Nat.ble_eq] at hb
    obtain ⟨rec, r1, r2, r3, _⟩ := q3.loop hg hp
    have hend := run_endLoop (P := P) r1 (by rw [r2]; exact hst)
    obtain ⟨f1, f2, f3, f4, f5⟩ := putObj_facts w' w.heap.size (.loop { rec with state := .exhausted })
    obtain ⟨d1, d2⟩ := q3.drop (p := ⟨w.heap.size, 0, 0, 0, 0⟩) hg ⟨hb, rfl⟩ hp f1 f2 f3 f4 f5
    subst r3
    refine ⟨rec.pending, _, hend, ?_⟩
    have hstep := (n3.trans q5).trans d2
    exact hQ rec.pending (st.setH (h'.del st.nx) nx') σ' a _ hc ⟨d1, q4.1, s.nt, s.tr.mono hstep.ext, s.ds.mono hstep.ext⟩ ⟨hstep, rfl, rfl, Nat.le_trans n2.2.1 q4.2.1, (n2.trans q4).2.2⟩
  dsimp only at q1
  split at q1
  · rename_i hg; exact fin _ _ _ _ _ _ _ _ (by simp) hg q1
  · rename_i hg; exact fin _ _ _ _ _ _ _ _ (by simp) hg q1
  · exact absurd q1 (hs _)

theorem rangeL_sound (hs : Good Φ) (hgo : NoGo P) {G : Know} (hG : ConOk P Φ G) {rn : RunT} (hrn : RnOk P Φ rn) {ro : Option Nat} {f : Operand} {ps : Array Tmp} {assign body : Code} {st : St} {c : Option Code → St → Out}
    (H : Φ (rangeL P G rn ro (lev st.t f) ps assign body st c)) {σ : Sg} {a : Act} {w : World} {r : Option Nat} (hro : RoOk σ ro r) (s : SR P σ st a w) {Q : Exit → Act → World → Prop}
    (hQ : ∀ p st' σ' a' w', Φ (c p st') → SR P σ' st' a' w' → After σ st w σ' st' w' → match p with | none => Q .normal a' w' | some cd => cd.wpIn (wd r) 0 P Q a' w') : (Code.rangeFunc f ps assign body).wpIn (wd r) 0 P Q a w := by
  have hf := lev_sound s.tr f
  unfold rangeL at H
  split at H
  · rename_i g xs ys he
    rw [he] at hf
    simp only [VR] at hf
    obtain ⟨us, vs, hfe, hx, hy⟩ := hf
    refine wpIn_rangeFunc fun fn _ => ?_
    cases ro with
    | none =>
      simp only [RoOk] at hro; subst hro
      simp only at H
      obtain ⟨n1, n2, n3⟩ := s.sim.new (w' := w.alloc (.deferred (some []))) s.fr (o := .dfr) (p := ⟨w.heap.size, 0, 0, 0, 0⟩) rfl rfl rfl rfl rfl rfl rfl
      have s1 : SR P (upd σ st.nx ⟨w.heap.size, 0, 0, 0, 0⟩) { st with h := st.h.set st.nx .dfr, nx := st.nx + 1, ds := st.nx :: st.ds } { a with defers := [{ target := .collected w.heap.size, args := #[] }] ++ a.defers } (w.alloc (.deferred (some []))) :=
        ⟨n1, n2.1, s.nt, s.tr.mono s.fr.ext, ⟨_, _, upd_same, rfl, s.ds.mono s.fr.ext⟩⟩
      obtain ⟨hen, hcall⟩ := rangeGo_sound (r := none) (Q := Q) hs hgo hG hrn H s1 (VRs.mono s.fr.ext _ _ hx) (VRs.mono s.fr.ext _ _ hy) fn w.heap.size fun p st' σ' a' w' h1 h2 h3 =>
        hQ p st' σ' a' w' h1 h2 ⟨n3.trans h3.step, h3.fl, h3.nt, Nat.le_trans n2.2.1 h3.le, fun id hid => (h3.agr id (Nat.lt_of_lt_of_le hid n2.2.1)).trans (n2.2.2 id hid)⟩
      obtain ⟨W1, hW1⟩ : ∃ W1, W1 = (w.alloc (.deferred (some []))).alloc (.loop { state := .ready, pending := none, fn, tmps := a.tmps, params := ps, assign, body, defers := w.heap.size }) := ⟨_, rfl⟩
      refine ⟨w.heap.size + 1, [{ target := .collected w.heap.size, args := #[] }], W1, { target := .fn (.func g) vs.toArray, args := us.toArray ++ #[.func (.yield (w.heap.size + 1)) #[] #[]] }, W1, g,
        us.toArray ++ #[.func (.yield (w.heap.size + 1)) #[] #[]] ++ vs.toArray, W1, hW1 ▸ run_enterLoop_outer _ _ _ _ _, ?_, fun _ _ => trivial, ?_, fun e => by simp [Fence.wide] at e, ?_⟩
      · simp only [resolve, rangeCall, hfe]
        simp [Deferred.ofValue, Act.eval]
      · simp [invoke, hen.run]
      · simp only [World.size_alloc] at hcall
        have e1 : (us ++ (Value.func (.yield (w.heap.size + 1)) #[] #[] :: vs)).toArray = us.toArray ++ #[.func (.yield (w.heap.size + 1)) #[] #[]] ++ vs.toArray := by simp
        rw [e1] at hcall
        rw [hW1]
        exact callsIn_wd (r := none) hcall
    | some l =>
      obtain ⟨p, hp, rfl⟩ := hro
      simp only at H
      split at H
      · rename_i d hg
        obtain ⟨rec, r1, _⟩ := s.sim.loop hg hp
        obtain ⟨hen, hcall⟩ := rangeGo_sound (r := some p.blk) (Q := Q) hs hgo hG hrn H s hx hy fn rec.defers hQ
        obtain ⟨W1, hW1⟩ : ∃ W1, W1 = w.alloc (.loop { state := .ready, pending := none, fn, tmps := a.tmps, params := ps, assign, body, defers := rec.defers }) := ⟨_, rfl⟩
        refine ⟨w.heap.size, [], W1, { target := .fn (.func g) vs.toArray, args := us.toArray ++ #[.func (.yield w.heap.size) #[] #[]] }, W1, g,
          us.toArray ++ #[.func (.yield w.heap.size) #[] #[]] ++ vs.toArray, W1, hW1 ▸ run_enterLoop_inner r1 _ _ _ _ _, ?_, fun _ _ => trivial, ?_, fun e => by simp [Fence.wide] at e, ?_⟩
        · simp only [resolve, rangeCall, hfe]
          simp [Deferred.ofValue, Act.eval]
        · simp [invoke, hen.run]
        · have e1 : (us ++ (Value.func (.yield w.heap.size) #[] #[] :: vs)).toArray = us.toArray ++ #[.func (.yield w.heap.size) #[] #[]] ++ vs.toArray := by simp
          rw [e1] at hcall
          rw [hW1]
          simpa using hcall
      · exact absurd H (hs _)
  · exact absurd H (hs _)

theorem leave_sound {Φ : Out → Prop} {r : Option Nat} {k : List Itm} {st : St} {K : LE → St → Out} {id : Nat} {rn' : List Itm → St → Out} (H : Φ (leaveL rn' k st K id)) {Q : Exit → Act → World → Prop} {a : Act} {w : World}
    (h1 : ∀ k', Φ (rn' k' st) → swp r P Q k' .normal a w) (h2 : Φ (K (.exit id) st) → Q (.exit id) a w) : swp r P Q k (.exit id) a w := by
  unfold leaveL at H
  refine swp_exit ?_
  split at H
  · rename_i k' hk; rw [hk]; exact h1 k' H
  · rename_i hk; rw [hk]; exact h2 H

theorem itm_sound (hs : Good Φ) (hmo : P.follows .mixedOrders = true) (hgo : NoGo P) {G : Know} (hG : ConOk P Φ G) {rn : RunT} (hrn : RnOk P Φ rn) : ∀ ro ss i k st K, Φ (itmL P G rn ro ss i k st K) → ∀ σ a w r, RoOk σ ro r → SR P σ st a w → ∀ Q : Exit → Act → World → Prop,
  (∀ e st' σ' a' w', Φ (K e st') → SR P σ' st' a' w' → After σ st w σ' st' w' → Q e.toExit a' w') →
  (∀ k' st' σ' a' w', ss ≠ [] → Φ (.cfg k' st') → SR P σ' st' a' w' → After σ st w σ' st' w' → swp r P Q k' .normal a' w') →
  swp r P Q (i :: k) .normal a w := by
  intro ro ss i k st K H σ a w r hro s Q hK hC
  cases i with
  | blk id => exact hrn _ _ _ _ _ H σ a w r hro s Q hK hC
  | lp c => exact lw_of (hrn _ _ _ _ _ H σ a w r hro s Q hK hC)
  | code c =>
    cases c with
    | skip => exact wpIn_skip (hrn _ _ _ _ _ H σ a w r hro s Q hK hC)
    | label l => exact wpIn_label (hrn _ _ _ _ _ H σ a w r hro s Q hK hC)
    | seq x y => exact wpIn_seq (hrn _ _ _ _ _ H σ a w r hro s Q hK hC)
    | loop b => exact loop_of (hrn _ _ _ _ _ H σ a w r hro s Q hK hC)
    | block id b =>
      simp only [itmL, codeL, codeB] at H
      cases he : ss.elem id with
      | true =>
        simp only [he, cond_true] at H
        exact hC _ _ _ _ _ (fun e => by rw [e] at he; cases he) H s After.refl
      | false =>
        simp only [he, cond_false] at H
        exact wpIn_block (hrn _ _ _ _ _ H σ a w r hro s Q hK hC)
    | cond x b e =>
      simp only [itmL, codeL, codeB] at H
      unfold condL at H
      have hx := lev_sound s.tr x
      split at H
      · rename_i q hq
        rw [hq] at hx
        simp only [VR] at hx
        cases q with
        | true => exact wpIn_cond_true hx (hrn _ _ _ _ _ H σ a w r hro s Q hK hC)
        | false => exact wpIn_cond_false hx (hrn _ _ _ _ _ H σ a w r hro s Q hK hC)
      · rename_i q hq
        rw [hq] at hx
        simp only [VR] at hx
        rcases of_br hs H with ⟨hb, H⟩ | ⟨hb, H⟩
        · rw [hb] at hx; exact wpIn_cond_true hx (hrn _ _ _ _ _ H σ a w r hro s Q hK hC)
        · rw [hb] at hx; exact wpIn_cond_false hx (hrn _ _ _ _ _ H σ a w r hro s Q hK hC)
      · exact absurd H (hs _)
    | exit id =>
      exact wpIn_exit (leave_sound (Φ := Φ) (rn' := fun k st => rn ro ss k st K) H (fun k' h => hrn _ _ _ _ _ h σ a w r hro s Q hK hC) (fun h => hK _ _ _ _ _ h s After.refl))
    | ret => exact wpIn_ret (swp_ret (hK .ret _ _ _ _ H s After.refl))
    | region id ops d =>
      simp only [itmL, codeL, codeB] at H
      cases d with
      | true =>
        simp only [cond_true] at H
        refine wpIn_region_any hmo ?_
        have := drawL_sound (r := r) (Q := swp r P Q k) hs (callL_sound hs hgo hG hrn) (yieldL_sound hs hrn) H s fun st' σ' a' w' h1 h2 h3 =>
          hrn _ _ _ _ _ h1 σ' a' w' r (hro.mono h3.step.ext) h2 Q (fun e st'' σ'' a'' w'' g1 g2 g3 => hK e st'' σ'' a'' w'' g1 g2 (h3.trans g3)) (fun k' st'' σ'' a'' w'' g0 g1 g2 g3 => hC k' st'' σ'' a'' w'' g0 g1 g2 (h3.trans g3))
        simpa using this
      | false =>
        simp only [cond_false] at H
        refine wpIn_region ?_
        have := opsL_sound (r := r) (Q := swp r P Q k) hs (callL_sound hs hgo hG hrn) (yieldL_sound hs hrn) ops.toList 0 rfl H s fun st' σ' a' w' h1 h2 h3 =>
          hrn _ _ _ _ _ h1 σ' a' w' r (hro.mono h3.step.ext) h2 Q (fun e st'' σ'' a'' w'' g1 g2 g3 => hK e st'' σ'' a'' w'' g1 g2 (h3.trans g3)) (fun k' st'' σ'' a'' w'' g0 g1 g2 g3 => hC k' st'' σ'' a'' w'' g0 g1 g2 (h3.trans g3))
        rw [List.range_eq_range']
        simpa using this
    | rangeFunc f ps ag b =>
      simp only [itmL, codeL, codeB] at H
      refine rangeL_sound hs hgo hG hrn H hro s fun p st' σ' a' w' h1 h2 h3 => ?_
      have hro' := hro.mono h3.step.ext
      have hK' : ∀ e st'' σ'' a'' w'', Φ (K e st'') → SR P σ'' st'' a'' w'' → After σ' st' w' σ'' st'' w'' → Q e.toExit a'' w'' := fun e st'' σ'' a'' w'' g1 g2 g3 => hK e st'' σ'' a'' w'' g1 g2 (h3.trans g3)
      have hC' : ∀ k' st'' σ'' a'' w'', ss ≠ [] → Φ (.cfg k' st'') → SR P σ'' st'' a'' w'' → After σ' st' w' σ'' st'' w'' → swp r P Q k' .normal a'' w'' := fun k' st'' σ'' a'' w'' g0 g1 g2 g3 => hC k' st'' σ'' a'' w'' g0 g1 g2 (h3.trans g3)
      unfold jumpL at h1
      split at h1
      · exact hrn _ _ _ _ _ h1 σ' a' w' r hro' h2 Q hK' hC'
      · exact wpIn_exit (leave_sound (Φ := Φ) (rn' := fun k st => rn ro ss k st K) h1 (fun k' h => hrn _ _ _ _ _ h σ' a' w' r hro' h2 Q hK' hC') (fun h => hK' _ _ _ _ _ h h2 After.refl))
      · exact wpIn_ret (swp_ret (hK' .ret _ _ _ _ h1 h2 After.refl))
      · exact absurd h1 (hs _)
    | _ => exact absurd H (hs _)

/-- **THE SMALL MACHINE RUNS CODE AS THE MODEL DOES.** -/
theorem run_sound (hs : Good Φ) (hmo : P.follows .mixedOrders = true) (hgo : NoGo P) {G : Know} (hG : ConOk P Φ G) : ∀ n, RnOk P Φ (run P G n)
  | 0 => fun ro ss k st K H => absurd H (hs _)
  | n + 1 => fun ro ss k st K H σ a w r hro s Q hK hC => by
    cases k with
    | nil => exact hK .normal _ _ _ _ H s After.refl
    | cons i k => exact itm_sound hs hmo hgo hG (run_sound hs hmo hgo hG n) ro ss i k st K H σ a w r hro s Q hK hC
end Go.Proofs.Ytigilihpofafoaa.Loc
