/- The small machine of local values: code. Part 3: functions entered and left. -/
import Derived.Test.YtigilihpofafoaaLocC2
namespace Go.Proofs.Ytigilihpofafoaa.Loc
open Go
set_option linter.unusedVariables false
set_option linter.unusedSimpArgs false
set_option linter.unusedSectionVars false
variable [En]
variable {P : Program} {Φ : Out → Prop} {fl : Nat}

/-- an object of one's own is written once more and let go -/
theorem Sim.drop {σ : Sg} {h : LH} {w w' : World} {id : Nat} {p : Place} (s : Sim P fl σ h w) {o : LObj} (hg : h.get id = some o) (hr : Owned fl id o) (hp : σ id = some p)
    (hsz : w'.heap.size = w.heap.size) (hb : ∀ b, b ≠ p.blk → w'.heap[b]? = w.heap[b]?) (hos : w'.os = w.os) (ht : w'.tape = w.tape) (ho : w'.output = w.output) :
    Sim P fl σ (h.del id) w' ∧ Step fl σ h w σ (h.del id) w' := by
  obtain ⟨p0, ob0, g1, g2, g3, g4⟩ := s id o hg
  rw [hp] at g1; cases g1
  have hd : ∀ i x, (h.del id).get i = some x → h.get i = some x ∧ i ≠ id := fun i x hx => by
    rw [RM.get_del] at hx
    by_cases e : id = i
    · simp [e] at hx
    · exact ⟨by simpa [e] using hx, fun e' => e e'.symm⟩
  refine ⟨fun i x hx => ?_, ⟨Ext.refl _, hos, ht, ho, by omega, fun b hb' hnb => hb b fun e => hnb id o p hg hr hp e.symm, fun i x q h1 h2 h3 => .inr ⟨i, x, q, (hd i x h1).1, h2, h3, rfl⟩, fun i x h1 _ => (hd i x h1).1⟩⟩
  obtain ⟨h1, h2⟩ := hd i x hx
  obtain ⟨q, ob, e1, e2, e3, e4⟩ := s i x h1
  have hne : q.blk ≠ p.blk := fun e => h2 (g4 hr i x q h1 e1 e)
  exact ⟨q, ob, e1, by rw [hb _ hne]; exact e2, e3, fun hr2 i' x' p' h5 h6 h7 => e4 hr2 i' x' p' (hd i' x' h5).1 h6 h7⟩

theorem putObj_facts (w : World) (b : Nat) (o : Obj) : (w.putObj b o).heap.size = w.heap.size ∧ (∀ k, k ≠ b → (w.putObj b o).heap[k]? = w.heap[k]?) ∧ (w.putObj b o).os = w.os ∧ (w.putObj b o).tape = w.tape ∧ (w.putObj b o).output = w.output :=
  ⟨by simp, fun k hk => World.putObj_heap_other hk, rfl, rfl, rfl⟩

theorem dropDs_sound {fn : Func} {tmps : Array Value} {R : Ending → World → Prop} {σ : Sg} : ∀ (ds : List Nat) (h h' : LH), dropDs fl ds h = some h' → ∀ (l : List Deferred), DR σ ds l → ∀ w, Sim P fl σ h w →
    (∀ w', Sim P fl σ h' w' → Step fl σ h w σ h' w' → ∃ v, (results fn tmps).run P w' = .ok v w' ∧ R (.returned v) w') → LeavesInM Fence.wide 0 P fn tmps R l .returning w
  | [], h, h', he, l, hl, w, s, hR => by
    simp only [dropDs, Option.some.injEq] at he; subst he
    simp only [DR] at hl; subst hl
    exact hR w s Step.refl
  | id :: ds, h, h', he, _, ⟨p, l', hp, hl, hd⟩, w, s, hR => by
    subst hl
    unfold dropDs at he
    split at he
    · rename_i ho
      cases hb : Nat.ble fl id with
      | false => simp [hb] at he
      | true =>
        simp only [hb, cond_true] at he
        rw [Nat.ble_eq] at hb
        obtain ⟨p', ob, g1, g2, g3, g4⟩ := s id _ ho
        rw [hp] at g1; cases g1
        simp only [OK] at g3; subst g3
        obtain ⟨f1, f2, f3, f4, f5⟩ := putObj_facts w p.blk (.deferred none)
        obtain ⟨d1, d2⟩ := s.drop ho ⟨hb, rfl⟩ hp f1 f2 f3 f4 f5
        refine ⟨by simp, .inl ⟨p.blk, _, rfl, run_takeDeferred g2, ?_⟩⟩
        exact dropDs_sound ds _ h' he l' hd _ d1 fun w' s' t => hR w' s' (d2.trans t)
    · cases he

theorem endL_sound (hs : Good Φ) {fn : Func} {st : St} {c : KV} (H : Φ (endL P fn st c)) {σ : Sg} {a : Act} {w : World} (s : SR P σ st a w) {R : Ending → World → Prop}
    (hR : ∀ v h' x w', Φ (c v h' st.nx) → VR σ v x → Sim P st.fl σ h' w' → Step st.fl σ st.h w σ h' w' → R (.returned x) w') : LeavesInM Fence.wide 0 P fn a.tmps R a.defers .returning w := by
  unfold endL at H
  split at H
  · rename_i h hd
    obtain ⟨v, hv, key⟩ := retL_sound hs H
    refine dropDs_sound st.ds st.h h hd a.defers s.ds w s.sim fun w' s' t => ?_
    obtain ⟨x, h1, h2⟩ := key σ { tmps := a.tmps, defers := a.defers } w' ⟨s', s.fr, s.nt, s.tr, s.ds⟩
    exact ⟨x, h1, hR v h x w' hv h2 s' t⟩
  · exact absurd H (hs _)

theorem ofArgs_get : ∀ (vs : List LV) (i : Nat) (m : RM LV) (j : Nat), (RM.ofArgs vs i m).get j = if i ≤ j ∧ j < i + vs.length then vs[j - i]? else m.get j
  | [], i, m, j => by
    have : ¬ (i ≤ j ∧ j < i + 0) := by omega
    simp only [RM.ofArgs, List.length_nil, if_neg this]
  | v :: vs, i, m, j => by
    simp only [RM.ofArgs]
    rw [ofArgs_get vs (i + 1) (m.set i v) j]
    by_cases h1 : i + 1 ≤ j ∧ j < i + 1 + vs.length
    · rw [if_pos h1, if_pos (by simp; omega)]
      have : j - i = (j - (i + 1)) + 1 := by omega
      rw [this]; simp
    · rw [if_neg h1, RM.get_set]
      by_cases h2 : i = j
      · subst h2
        rw [if_pos rfl, if_pos (by simp)]; simp
      · rw [if_neg h2, if_neg (by simp; omega)]
theorem TR.args {σ : Sg} {args : List LV} {vals : List Value} (h : VRs σ args vals) (n : Nat) : TR σ (RM.ofArgs args 0 .nil) (vals.toArray ++ Array.replicate n undef) := fun i v hv => by
  rw [ofArgs_get] at hv
  by_cases hi : 0 ≤ i ∧ i < 0 + args.length
  · rw [if_pos hi] at hv
    obtain ⟨x, hx, hr⟩ := h.at i v (by simpa using hv)
    have hl := h.length
    exact ⟨x, by rw [Array.getElem?_append_left (by simp; omega)]; simpa using hx, hr⟩
  · rw [if_neg hi] at hv; simp [RM.get_nil] at hv

/-- 'rn' runs code as the model does -/
def RnOk (P : Program) (Φ : Out → Prop) (rn : RunT) : Prop := ∀ ro ss k st K, Φ (rn ro ss k st K) → ∀ σ a w r, RoOk σ ro r → SR P σ st a w → ∀ Q : Exit → Act → World → Prop,
  (∀ e st' σ' a' w', Φ (K e st') → SR P σ' st' a' w' → After σ st w σ' st' w' → Q e.toExit a' w') →
  (∀ k' st' σ' a' w', ss ≠ [] → Φ (.cfg k' st') → SR P σ' st' a' w' → After σ st w σ' st' w' → swp r P Q k' .normal a' w') →
  swp r P Q k .normal a w

/-- no function of the program is the model's own count of goroutines -/
def NoGo (P : Program) : Prop := ∀ (f : Nat) (fn : Func), P.funcs[f]? = some fn → fn.name ≠ "runtime.NumGoroutine"

theorem enterL_sound (hs : Good Φ) (hgo : NoGo P) {rn : RunT} (hrn : RnOk P Φ rn) : CfOk P Φ (enterL P rn) := by
  intro fl f args h nx c H σ w vals hv sim fr
  unfold enterL at H
  split at H
  · rename_i fn hf
    have hf' : P.funcs[f]? = some fn := by rw [← hf]; simp
    split at H
    · rename_i b hb
      obtain ⟨hle, H⟩ := of_cond hs H
      rw [Nat.ble_eq, llen_eq] at hle
      have hl := hv.length
      refine ⟨⟨fn, hf', by simp [hb], hgo f fn hf'⟩, callsIn_of_wp_marks hf' hb trivial ?_⟩
      have s0 : SR P σ { t := RM.ofArgs args 0 .nil, nt := fn.ntmps, h := h, nx := nx, ds := [], fl := fl } { tmps := vals.toArray ++ Array.replicate (fn.ntmps - vals.toArray.size) undef, defers := [] } w :=
        ⟨sim, fr, by simp; omega, TR.args hv _, rfl⟩
      have := hrn none [] [.code b] _ _ H σ _ w none rfl s0 (bodyPostM Fence.wide 0 P fn fun e w' => ∃ x, e = .returned x ∧ Rets P Φ fl σ h nx w c x w') ?_ (fun _ _ _ _ _ h => absurd rfl h)
      · exact this
      · intro e st' σ' a' w' he s' af
        have key : Φ (endL P fn st' c) → LeavesInM Fence.wide 0 P fn a'.tmps (fun e w' => ∃ x, e = .returned x ∧ Rets P Φ fl σ h nx w c x w') a'.defers .returning w' := fun he => by
          refine endL_sound hs he s' fun v h' x w'' h1 h2 h3 h4 => ⟨x, rfl, v, h', st'.nx, σ', h1, h2, ?_, ?_, ?_⟩
          · have hfl : st'.fl = fl := af.fl
            rwa [hfl] at h3
          · have hfl : st'.fl = fl := af.fl
            have := s'.fr
            rw [hfl] at this
            exact ⟨this, af.le, af.agr⟩
          · have hfl : st'.fl = fl := af.fl
            rw [hfl] at h4
            exact af.step.trans h4
        cases e with
        | normal => exact key he
        | ret => exact key he
        | exit id => exact absurd he (hs _)
    · exact absurd H (hs _)
  · exact absurd H (hs _)

mutual
theorem VR.free {σ σ' : Sg} : ∀ (v : LV) (x : Value), v.free = true → VR σ' v x → VR σ v x
  | .undef, _, _, _ => trivial
  | .bool b, x, _, e => e
  | .int k n, x, _, e => e
  | .sym k s, x, _, e => e
  | .sbl b, x, _, e => e
  | .str s, x, _, e => e
  | .nilp, x, _, e => e
  | .nils, x, _, e => e
  | .nilm, x, _, e => e
  | .nilf, x, _, e => e
  | .nili, x, _, e => e
  | .fn f a b, x, h, ⟨xs, ys, e, r, s⟩ => by
    simp only [LV.free] at h
    cases ha : LV.frees a with
    | false => simp [ha] at h
    | true => simp only [ha, cond_true] at h; exact ⟨xs, ys, e, VRs.free a xs ha r, VRs.free b ys h s⟩
  | .iface t v, x, h, ⟨y, e, r⟩ => ⟨y, e, VR.free v y (by simpa [LV.free] using h) r⟩
  | .agg cs, x, h, ⟨xs, e, r⟩ => ⟨xs, e, VRs.free cs xs (by simpa [LV.free] using h) r⟩
  | .tup cs, x, h, ⟨xs, e, r⟩ => ⟨xs, e, VRs.free cs xs (by simpa [LV.free] using h) r⟩
theorem VRs.free {σ σ' : Sg} : ∀ (vs : List LV) (xs : List Value), LV.frees vs = true → VRs σ' vs xs → VRs σ vs xs
  | [], _, _, e => e
  | a :: l, _, h, ⟨b, bs, e, r, s⟩ => by
    simp only [LV.frees] at h
    cases ha : a.free with
    | false => simp [ha] at h
    | true => simp only [ha, cond_true] at h; exact ⟨b, bs, e, VR.free a b ha r, VRs.free l bs h s⟩
end

theorem Sim.floor {σ : Sg} {h : LH} {w : World} {fl' : Nat} (s : Sim P fl σ h w) (hle : fl ≤ fl') : Sim P fl' σ h w := fun id o hg => by
  obtain ⟨p, ob, h1, h2, h3, h4⟩ := s id o hg
  exact ⟨p, ob, h1, h2, h3, fun hr => h4 ⟨Nat.le_trans hle hr.1, hr.2⟩⟩

/-- what a callee that writes nothing of its caller's did, as the caller sees it -/
theorem lift_step {σ σ' : Sg} {h h' : LH} {w w' : World} {nx nx' : Nat} (s : Sim P fl σ h w) (f : Fr fl σ nx) (s' : Sim P nx σ' h' w') (f' : Fx nx σ nx σ' nx') (t : Step nx σ h w σ' h' w') :
    (Sim P fl σ' h' w' ∧ Fx fl σ nx σ' nx' ∧ Step fl σ h w σ' h' w') ∧ (Sim P fl σ h w' ∧ Step fl σ h w σ h w') := by
  have hlive : ∀ id o, h.get id = some o → id < nx := fun id o hg => by
    obtain ⟨p, ob, h1, _⟩ := s id o hg
    rcases Nat.lt_or_ge id nx with hlt | hge
    · exact hlt
    · rw [f.2 id hge] at h1; cases h1
  have hold : ∀ b, b < w.heap.size → w'.heap[b]? = w.heap[b]? := fun b hb => t.frame b hb fun id o p hg hr _ => by
    have := hlive id o hg
    exact absurd hr.1 (by omega)
  have hnew : ∀ id o p, h'.get id = some o → nx ≤ id → σ' id = some p → w.heap.size ≤ p.blk := fun id o p hg hid hp => by
    cases hr : o.rw with
    | true =>
      rcases t.own id o p hg ⟨hid, hr⟩ hp with hge | ⟨i0, o0, p0, q1, q2, _⟩
      · exact hge
      · have := hlive i0 o0 q1
        exact absurd q2.1 (by omega)
    | false =>
      have := hlive id o (t.low id o hg fun hw => by rw [hw.2] at hr; cases hr)
      omega
  have hlow : ∀ id o, h'.get id = some o → id < nx → h.get id = some o := fun id o hg hid => t.low id o hg fun hr => absurd hr.1 (by omega)
  refine ⟨⟨fun id o hg => ?_, ⟨⟨Nat.le_trans f.1 f'.1.1, f'.1.2⟩, f'.2⟩, ⟨t.ext, t.os, t.tape, t.output, t.size, fun b hb _ => hold b hb, fun id o p h1 h2 h3 => ?_, fun id o h1 h2 => ?_⟩⟩,
    fun id o hg => ?_, ⟨Ext.refl _, t.os, t.tape, t.output, t.size, fun b hb _ => hold b hb, fun id o p h1 h2 h3 => .inr ⟨id, o, p, h1, h2, h3, rfl⟩, fun _ _ h1 _ => h1⟩⟩
  · obtain ⟨p, ob, e1, e2, e3, e4⟩ := s' id o hg
    refine ⟨p, ob, e1, e2, e3, fun hr i' o' p' g1 g2 g3 => ?_⟩
    by_cases hid : nx ≤ id
    · exact e4 ⟨hid, hr.2⟩ i' o' p' g1 g2 g3
    · have hg0 := hlow id o hg (by omega)
      obtain ⟨q, qb, a1, a2, a3, a4⟩ := s id o hg0
      have hq := t.ext id q a1
      rw [e1] at hq; cases hq
      have hlt := s.lt hg0 a1
      by_cases hid' : nx ≤ i'
      · have := hnew i' o' p' g1 hid' g2
        omega
      · have g0 := hlow i' o' g1 (by omega)
        obtain ⟨q', qb', b1, _⟩ := s i' o' g0
        have hq' := t.ext i' q' b1
        rw [g2] at hq'; cases hq'
        exact a4 hr i' o' p' g0 b1 g3
  · by_cases hid : nx ≤ id
    · exact .inl (hnew id o p h1 hid h3)
    · have hg0 := hlow id o h1 (by omega)
      obtain ⟨q, qb, a1, _⟩ := s id o hg0
      have hq := t.ext id q a1
      rw [h3] at hq; cases hq
      exact .inr ⟨id, o, p, hg0, h2, a1, rfl⟩
  · by_cases hid : nx ≤ id
    · exact t.low id o h1 fun hr => h2 ⟨Nat.le_trans f.1 hr.1, hr.2⟩
    · exact hlow id o h1 (by omega)
  · obtain ⟨p, ob, e1, e2, e3, e4⟩ := s id o hg
    exact ⟨p, ob, e1, by rw [hold _ (s.lt hg e1)]; exact e2, e3, e4⟩

/-- a call is well -/
def CallOk (P : Program) (Φ : Out → Prop) (f : FuncId) (fl : Nat) (h : LH) (nx : Nat) (c : KV) (σ : Sg) (w : World) (vals : List Value) : Prop :=
  Enters P f ∧ CallsIn Fence.wide 0 P f vals.toArray w fun e w' => ∃ x, e = .returned x ∧ Rets P Φ fl σ h nx w c x w'
/-- the answers that are taken for functions' texts hold; 'no': what is done where none is known -/
def ConOk (P : Program) (Φ : Out → Prop) (G : Know) : Prop := ∀ f g, G.con f = some g → ∀ fl args h nx c no, Φ (g fl args h nx c no) → ∀ σ w vals, VRs σ args vals → Sim P fl σ h w → Fr fl σ nx →
  (Φ no → CallOk P Φ f fl h nx c σ w vals) → CallOk P Φ f fl h nx c σ w vals

theorem plainL_sound (hs : Good Φ) (hgo : NoGo P) {G : Know} {rn : RunT} (hrn : RnOk P Φ rn) : CfOk P Φ (plainL P G rn) := by
  intro fl f args h nx c H σ w vals hv sim fr
  unfold plainL at H
  generalize hcd : cond (G.wr f) true (LV.yls args) = cd at H
  cases cd with
  | true => exact enterL_sound hs hgo hrn fl f args h nx c H σ w vals hv sim fr
  | false =>
    obtain ⟨h1, h2⟩ := enterL_sound hs hgo hrn nx f args h nx _ H σ w vals hv (sim.floor fr.1) ⟨Nat.le_refl _, fr.2⟩
    refine ⟨h1, h2.mono fun e w' he => ?_⟩
    obtain ⟨x, rfl, v, h', nx', σ', q1, q2, q3, q4, q5⟩ := he
    obtain ⟨⟨r1, r2, r3⟩, r4, r5⟩ := lift_step sim fr q3 q4 q5
    refine ⟨x, rfl, ?_⟩
    cases hf : v.free with
    | true =>
      simp only [hf, cond_true] at q1
      exact ⟨v, h, nx, σ, q1, VR.free v x hf q2, r4, fr.fx, r5⟩
    | false =>
      simp only [hf, cond_false] at q1
      exact ⟨v, h', nx', σ', q1, q2, r1, r2, r3⟩
theorem callL_sound (hs : Good Φ) (hgo : NoGo P) {G : Know} (hG : ConOk P Φ G) {rn : RunT} (hrn : RnOk P Φ rn) : CfOk P Φ (callL P G rn) := by
  intro fl f args h nx c H σ w vals hv sim fr
  unfold callL at H
  split at H
  · rename_i g hg
    exact hG f g hg fl args h nx c _ H σ w vals hv sim fr fun hno => plainL_sound hs hgo hrn fl f args h nx c hno σ w vals hv sim fr
  · exact plainL_sound hs hgo hrn fl f args h nx c H σ w vals hv sim fr
end Go.Proofs.Ytigilihpofafoaa.Loc
