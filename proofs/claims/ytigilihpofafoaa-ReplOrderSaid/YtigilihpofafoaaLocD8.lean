/- The small machine of local values: regions whose order is drawn. Part 8: the acting operation; the end; a drawn region whole. -/
import Derived.Test.YtigilihpofafoaaLocD7
namespace Go.Proofs.Ytigilihpofafoaa.Loc
open Go
set_option linter.unusedVariables false
set_option linter.unusedSimpArgs false
set_option linter.unusedSectionVars false
variable [En]
variable {P : Program} {Φ : Out → Prop} {fl : Nat}

theorem Sim.place {σ : Sg} {h : LH} {w w0 : World} (sim : Sim P fl σ h w) {s : Side} (pl : Placed P σ h w w0 s) : Sim P fl σ (h.set s.id s.o) w := by
  obtain ⟨p, ob, h1, h2, h3, h4, h5⟩ := pl
  intro id o hg
  rw [RM.get_set] at hg
  by_cases e : s.id = id
  · subst e
    simp only [if_true, Option.some.injEq] at hg; subst hg
    refine ⟨p, ob, h1, h2, h3, fun _ i' o' p' g1 g2 g3 => ?_⟩
    rw [RM.get_set] at g1
    by_cases e' : s.id = i'
    · exact e'.symm
    · rw [if_neg e'] at g1
      exact absurd g3 (h5 i' o' p' g1 g2)
  · rw [if_neg e] at hg
    obtain ⟨q, qb, a1, a2, a3, a4⟩ := sim id o hg
    refine ⟨q, qb, a1, a2, a3, fun hr i' o' p' g1 g2 g3 => ?_⟩
    rw [RM.get_set] at g1
    by_cases e' : s.id = i'
    · subst e'
      rw [h1] at g2; cases g2
      exact absurd g3.symm (h5 id o q hg a1)
    · rw [if_neg e'] at g1
      exact a4 hr i' o' p' g1 g2 g3

theorem allSide_sound {σ : Sg} {w w0 : World} : ∀ (l : List Side) (h : LH), Sim P fl σ h w → (∀ s ∈ l, Placed P σ h w w0 s) → (∀ s ∈ l, ∀ s' ∈ l, ∀ p p', σ s.id = some p → σ s'.id = some p' → p.blk = p'.blk → s = s') → l.Nodup →
    Sim P fl σ (allSide l h) w ∧ ∀ id o, (allSide l h).get id = some o → h.get id = some o ∨ ∃ s ∈ l, s.id = id ∧ s.o = o
  | [], h, s, _, _, _ => ⟨s, fun id o hg => .inl hg⟩
  | s :: l, h, sim, hp, ha, hn => by
    obtain ⟨hn1, hn2⟩ := List.nodup_cons.1 hn
    obtain ⟨k1, k2⟩ := allSide_sound l (h.set s.id s.o) (sim.place (hp s (by simp))) (fun s' hs' => by
      obtain ⟨p, ob, h1, h2, h3, h4, h5⟩ := hp s' (by simp [hs'])
      refine ⟨p, ob, h1, h2, h3, h4, fun id o q hg hq hb => ?_⟩
      rw [RM.get_set] at hg
      by_cases e : s.id = id
      · subst e
        have := ha s (by simp) s' (by simp [hs']) q p hq h1 hb
        subst this
        exact hn1 hs'
      · rw [if_neg e] at hg
        exact h5 id o q hg hq hb) (fun a h1 b h2 => ha a (by simp [h1]) b (by simp [h2])) hn2
    refine ⟨k1, fun id o hg => ?_⟩
    rcases k2 id o hg with hg | ⟨s', h1, h2⟩
    · rw [RM.get_set] at hg
      by_cases e : s.id = id
      · subst e
        simp only [if_true, Option.some.injEq] at hg
        exact .inr ⟨s, by simp, rfl, hg⟩
      · rw [if_neg e] at hg; exact .inl hg
    · exact .inr ⟨s', by simp [h1], h2⟩

theorem putSide_eq (m : Nat) : ∀ (l : List Side) (h : LH), putSide m l h = allSide (l.filter fun s => Nat.testBit m s.i) h
  | [], h => rfl
  | s :: l, h => by
    unfold putSide
    cases hb : Nat.testBit m s.i with
    | true => rw [cond_true, List.filter_cons_of_pos (by simpa using hb)]; exact putSide_eq m l _
    | false => rw [cond_false, List.filter_cons_of_neg (by simp [hb])]; exact putSide_eq m l _
theorem restSide_eq (m : Nat) : ∀ (l : List Side), restSide m l = l.filter fun s => !Nat.testBit m s.i
  | [] => rfl
  | s :: l => by
    unfold restSide
    cases hb : Nat.testBit m s.i with
    | true => rw [cond_true, List.filter_cons_of_neg (by simp [hb])]; exact restSide_eq m l
    | false => rw [cond_false, List.filter_cons_of_pos (by simp [hb])]; rw [restSide_eq m l]

theorem After.place {σ0 σ : Sg} {st0 st : St} {w0 w : World} (af : After σ0 st0 w0 σ st w) {l : List Side} {h' : LH} (hin : ∀ id o, h'.get id = some o → st.h.get id = some o ∨ ∃ s ∈ l, s.id = id ∧ s.o = o)
    (hl : ∀ s ∈ l, Placed P σ st.h w w0 s ∧ st.fl ≤ s.id ∧ s.o.rw = true) : After σ0 st0 w0 σ (st.setH h' st.nx) w := by
  refine ⟨⟨af.step.ext, af.step.os, af.step.tape, af.step.output, af.step.size, af.step.frame, fun id o p h1 h2 h3 => ?_, fun id o h1 h2 => ?_⟩, af.fl, af.nt, af.le, af.agr⟩
  · rcases hin id o h1 with h1 | ⟨s, hs, rfl, rfl⟩
    · exact af.step.own id o p h1 h2 h3
    · obtain ⟨⟨q, ob, e1, e2, e3, e4, e5⟩, _⟩ := hl s hs
      rw [e1] at h3; cases h3
      exact .inl e4
  · rcases hin id o h1 with h1 | ⟨s, hs, rfl, rfl⟩
    · exact af.step.low id o h1 h2
    · obtain ⟨_, e1, e2⟩ := hl s hs
      rw [af.fl] at e1
      exact absurd ⟨e1, e2⟩ h2

section
variable {ops : List Oper} {ms : List Nat} {pl : List Pl} {σ0 : Sg} {st0 : St} {w0 : World} {listed : Array Bool} {R : Nat} {T : Nat → RM LV} {sd : List Side} {st : St} {σ : Sg} {a : Act} {w : World}

/-- the acting operation at the plan's place is done -/
theorem DI.acted (di : DI P ops ms pl σ0 st0 w0 listed R T sd st σ a w) (hm : masksOk ms ops 0 = true) (hpair : ∀ (i j : Nat) (p q : Pl), i < j → pl[i]? = some p → pl[j]? = some q → pairOk ops ms p q = true)
    {p : Pl} {o : Oper} (hp : pl[R]? = some p) (ho : ops[p.i]? = some o) (hnd : ¬ Dn listed p.i) (hk : p.k.isC = true) (he : ∀ e ∈ o.after.toList, Region.binds .any e = true → Dn listed e.on)
    {listed' : Array Bool} (hl : ∀ i, Dn listed' i ↔ i = p.i ∨ Dn listed i) (hsz : listed'.size = listed.size) {st' : St} {σ' : Sg} {w' : World} {v : LV} {x : Value}
    (ext : Ext σ σ') (agr : ∀ id, id < st.nx → σ' id = σ id) (hnx : st.nx ≤ st'.nx) (hnt : st'.nt = st.nt) (hds : st'.ds = st.ds) (hfl : st'.fl = st.fl) (hv : VR σ' v x)
    (ht : ∀ t, st'.t.get t = if o.dst = some t then some v else st.t.get t) (hlt : ∀ t, o.dst = some t → t < st.nt)
    (sim : Sim P st'.fl σ' st'.h w') (fr : Fr st'.fl σ' st'.nx) (after : After σ0 st0 w0 σ' st' w')
    (hview : p.k ≠ .act → ∀ h, View P σ h w → View P σ' h w') {sd' : List Side} (hsub : sd'.Sublist sd) (hkeep : ∀ s ∈ sd, ¬ Dn listed s.i → s ∈ sd')
    (hsd : ∀ s ∈ sd', Dn listed s.i → Placed P σ' st'.h w' w0 s ∧ st'.h.get s.id = none) :
    DI P ops ms pl σ0 st0 w0 listed' (R + 1) (nextT T R st.t st'.t) sd' st' σ' (a.put o.dst x) w' := by
  have hRl : R < pl.length := (List.getElem?_eq_some_iff.1 hp).1
  have hT : ∀ k, k ≤ R → ∀ t, (nextT T R st.t st'.t k).get t = (T k).get t := fun k hk t => by
    unfold nextT
    by_cases h1 : k < R
    · rw [if_pos h1]
    · have : k = R := by omega
      subst this
      rw [if_neg h1, if_pos rfl]; exact di.tlast t
  have hTR : nextT T R st.t st'.t R = st.t := by unfold nextT; rw [if_neg (Nat.lt_irrefl R), if_pos rfl]
  have hT1 : nextT T R st.t st'.t (R + 1) = st'.t := by unfold nextT; rw [if_neg (by omega), if_neg (by omega)]
  have hTlt : ∀ k, k < R → nextT T R st.t st'.t k = T k := fun k hk => by unfold nextT; rw [if_pos hk]
  have huniq : ∀ (q' : Nat) (p' : Pl), pl[q']? = some p' → p'.i = p.i → q' = R := fun q' p' hp' hi => by
    rcases Nat.lt_trichotomy q' R with h | h | h
    · exact absurd hi (pairOk_spec (hpair q' R p' p h hp' hp)).1
    · exact h
    · exact absurd hi.symm (pairOk_spec (hpair R q' p p' h hp hp')).1
  have hmem : ∀ s ∈ sd', s ∈ sd := fun s hs => hsub.mem hs
  have hsi : ∀ s ∈ sd, s.i ≠ p.i := fun s hs hi => by
    obtain ⟨q', p', h0, h1, h2, _⟩ := di.sdAl s hs
    exact absurd (h2.trans hi) (pairOk_spec (hpair q' R p' p h0 h1 hp)).1
  have hback : ∀ i, i ≠ p.i → (Dn listed' i ↔ Dn listed i) := fun i hi => by
    rw [hl]
    exact ⟨fun h => h.resolve_left hi, .inr⟩
  have hput : ∀ t, o.dst ≠ some t → (a.put o.dst x).tmps[t]? = a.tmps[t]? := fun t h => by
    cases hdd : o.dst with
    | none => rfl
    | some d =>
      have hne : d ≠ t := fun e => h (by rw [hdd, e])
      simp only [Act.put]
      exact Array.getElem?_setIfInBounds_ne hne
  exact {
    closed := fun i u hu hd e h1 h2 => (hl _).2 (.inr (by
      rcases (hl _).1 hd with rfl | hd
      · rw [ho] at hu; cases hu
        exact he e h1 h2
      · exact di.closed i u hu hd e h1 h2))
    lsz := hsz.trans di.lsz
    rle := hRl
    plin := di.plin
    acts := fun q p' h1 h2 h3 => by
      rcases Nat.lt_or_ge q R with h | h
      · exact (hl _).2 (.inr (di.acts q p' h h2 h3))
      · have : q = R := by omega
        subst this
        rw [hp] at h2; cases h2
        exact (hl _).2 (.inl rfl)
    sub := fun q p' h1 h2 => by
      rcases (hl _).1 h2 with h | h
      · have := huniq q p' h1 h; omega
      · have := di.sub q p' h1 h; omega
    tlast := fun t => by rw [hT1]
    tstep := fun q p' o' h1 h2 h3 t h4 => by
      rcases Nat.lt_or_ge q R with h | h
      · rw [hT (q + 1) (by omega), hT q (by omega)]
        exact di.tstep q p' o' h h2 h3 t h4
      · have : q = R := by omega
        subst this
        rw [hp] at h2; cases h2
        rw [ho] at h3; cases h3
        rw [hT1, hTR, ht t, if_neg h4]
    slots := fun k hk' t hw u hu => by
      rcases Nat.lt_or_ge k (R + 1) with h | h
      · have hnw : o.dst ≠ some t := fun hd => by
          have := (hw R p o hp ho hd).2 ((hl _).2 (.inl rfl))
          omega
        rw [hT k (by omega)] at hu
        obtain ⟨y, h1, h2⟩ := di.slots k (by omega) t (fun q' p' o' h1 h2 h3 => by
          rw [hw q' p' o' h1 h2 h3]
          refine hback _ fun e => ?_
          rw [e, ho] at h2; cases h2
          exact hnw h3) u hu
        exact ⟨y, by rw [hput t hnw]; exact h1, VR.mono ext _ _ h2⟩
      · have : k = R + 1 := by omega
        subst this
        rw [hT1, ht t] at hu
        by_cases hd : o.dst = some t
        · rw [if_pos hd] at hu; cases hu
          have hl' : t < a.tmps.size := by rw [di.nt]; exact hlt t hd
          exact ⟨x, by simp [Act.put, hd, hl'], hv⟩
        · rw [if_neg hd, di.tlast t] at hu
          obtain ⟨y, h1, h2⟩ := di.slots R (Nat.le_refl _) t (fun q' p' o' h1 h2 h3 => by
            have hne : p'.i ≠ p.i := fun e => by
              rw [e, ho] at h2; cases h2
              exact hd h3
            have hq : q' ≠ R := fun e => by
              subst e
              rw [hp] at h1; cases h1
              exact hne rfl
            rw [← hback _ hne, ← hw q' p' o' h1 h2 h3]
            omega) u hu
          exact ⟨y, by rw [hput t hd]; exact h1, VR.mono ext _ _ h2⟩
    pendF := fun q p' o' h1 h2 h3 h4 h5 => by
      have h4' : ¬ Dn listed p'.i := fun h => h4 ((hl _).2 (.inr h))
      have hne : p'.i ≠ p.i := fun e => h4 ((hl _).2 (.inl e))
      have hq : q < R := by
        rcases Nat.lt_or_ge q R with h | h
        · exact h
        · have : q = R := by omega
          subst this
          rw [hp] at h2; cases h2
          exact absurd rfl hne
      rw [hTlt q hq]
      refine FactF.congr ?_ (hT (q + 1) (by omega))
      rcases di.pendF q p' o' hq h2 h3 h4' h5 with h | ⟨g, v', h', e0, e1, e2, e3⟩
      · exact .inl h
      · refine .inr ⟨g, v', h', e0, e1, ?_, e3⟩
        obtain ⟨_, hc⟩ := pairOk_spec (hpair q R p' p hq h2 hp)
        rcases hc with hc | ⟨_, hc⟩
        · exact absurd (di.closed.pre hm p.i o ho he p'.i hc) h4'
        · rcases hc with hc | hc | ⟨_, hc⟩
          · rw [e0 (by rw [hc]; rfl)]; exact View.nil
          · exact absurd hc h5
          · exact hview hc h' e2
    pendA := fun q p' o' h1 h2 h3 h4 h5 => by
      have h4' : ¬ Dn listed p'.i := fun h => h4 ((hl _).2 (.inr h))
      have hne : p'.i ≠ p.i := fun e => h4 ((hl _).2 (.inl e))
      have hq : q < R := by
        rcases Nat.lt_or_ge q R with h | h
        · exact h
        · have : q = R := by omega
          subst this
          rw [hp] at h2; cases h2
          exact absurd rfl hne
      rw [hTlt q hq]
      rcases di.pendA q p' o' hq h2 h3 h4' h5 with ⟨g, hn, h⟩ | ⟨g, v', s, e0, e1, e2, e3⟩
      · exact .inl ⟨g, fun s hs => hn s (hmem s hs), fun d => (hT (q + 1) (by omega) d).trans (h d)⟩
      · exact .inr ⟨g, v', s, hkeep s e0 (by rw [e1]; exact h4'), e1, fun d => (hT (q + 1) (by omega) d).trans (e2 d), e3⟩
    nodup := di.nodup.sublist hsub
    sdNew := fun s hs => di.sdNew s (hmem s hs)
    sdId := fun s hs => by
      obtain ⟨g1, g2, g3, g4⟩ := di.sdId s (hmem s hs)
      refine ⟨by rw [hfl]; exact g1, by omega, g3, ?_⟩
      by_cases hd : Dn listed s.i
      · exact (hsd s hs hd).2
      · cases hg : st'.h.get s.id with
        | none => rfl
        | some o' =>
          obtain ⟨p1, _, h1, _⟩ := sim s.id o' hg
          rw [agr s.id g2, di.sdWait s (hmem s hs) hd] at h1; cases h1
    sdOne := fun s hs s' hs' => di.sdOne s (hmem s hs) s' (hmem s' hs')
    sdDone := fun s hs hd => (hsd s hs ((hback _ (hsi s (hmem s hs))).1 hd)).1
    sdApart := fun s hs s' hs' p1 p2 e1 e2 hb => by
      rw [agr s.id (di.sdId s (hmem s hs)).2.1] at e1
      rw [agr s'.id (di.sdId s' (hmem s' hs')).2.1] at e2
      exact di.sdApart s (hmem s hs) s' (hmem s' hs') p1 p2 e1 e2 hb
    sdWait := fun s hs hd => by
      rw [agr s.id (di.sdId s (hmem s hs)).2.1]
      exact di.sdWait s (hmem s hs) fun h => hd ((hl _).2 (.inr h))
    dst := fun i o' d h1 ⟨q, p', h2, h3, h4⟩ h5 => by
      rw [hnt]
      rcases Nat.lt_or_ge q R with h | h
      · exact di.dst i o' d h1 ⟨q, p', h, h3, h4⟩ h5
      · have : q = R := by omega
        subst this
        rw [hp] at h3; cases h3
        rw [← h4, ho] at h1; cases h1
        exact hlt d h5
    sim := sim
    fr := fr
    nt := by
      rw [hnt, ← di.nt]
      cases o.dst <;> simp [Act.put]
    ds := by
      have : (a.put o.dst x).defers = a.defers := by cases o.dst <;> rfl
      rw [this, hds]; exact di.ds.mono ext
    sdAl := fun s hs => by
      obtain ⟨q', p', h0, h1⟩ := di.sdAl s (hmem s hs)
      exact ⟨q', p', by omega, h1⟩
    after := after }
end
end Go.Proofs.Ytigilihpofafoaa.Loc
