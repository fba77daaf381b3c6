/- The small machine of local values: regions whose order is drawn. Part 6: the plan's run goes on to the next acting operation. -/
import Derived.Test.YtigilihpofafoaaLocD5
namespace Go.Proofs.Ytigilihpofafoaa.Loc
open Go
set_option linter.unusedVariables false
set_option linter.unusedSimpArgs false
set_option linter.unusedSectionVars false
variable [En]
variable {P : Program} {Φ : Out → Prop} {fl : Nat}

section
variable {ops : List Oper} {ms : List Nat} {pl : List Pl} {σ0 : Sg} {st0 : St} {w0 : World} {listed : Array Bool} {R : Nat} {T : Nat → RM LV} {sd : List Side} {st : St} {σ : Sg} {a : Act} {w : World}

def nextT (T : Nat → RM LV) (R : Nat) (t t' : RM LV) : Nat → RM LV := fun k => if k < R then T k else if k = R then t else t'

theorem FactF.congr {o : Oper} {fp : Bool} {t t1 t2 : RM LV} (h : FactF P ops o t t1 σ w fp) (e : ∀ d, t2.get d = t1.get d) : FactF P ops o t t2 σ w fp := by
  rcases h with ⟨g, h⟩ | ⟨g, v, hh, h0, h1, h2, h3⟩
  · exact .inl ⟨g, fun d => (e d).trans (h d)⟩
  · exact .inr ⟨g, v, hh, h0, fun d => (e d).trans (h1 d), h2, h3⟩
theorem FactA.congr {i : Nat} {o : Oper} {t t1 t2 : RM LV} {sd sd' : List Side} (h : FactA P ops i o t t1 sd) (e : ∀ d, t2.get d = t1.get d) (hs : ∀ s ∈ sd, s ∈ sd') (hs' : ∀ s ∈ sd', s.i = i → s ∈ sd) : FactA P ops i o t t2 sd' := by
  rcases h with ⟨g, hn, h⟩ | ⟨g, v, s, h0, h1, h2, h3⟩
  · exact .inl ⟨g, fun s hm hi => hn s (hs' s hm hi) hi, fun d => (e d).trans (h d)⟩
  · exact .inr ⟨g, v, s, hs s h0, h1, fun d => (e d).trans (h2 d), h3⟩

/-- the plan's run has gone on by one place, of a floating operation; 'sd'' may bear one more new object -/
theorem DI.step (di : DI P ops ms pl σ0 st0 w0 listed R T sd st σ a w) {p : Pl} {o : Oper} (hp : pl[R]? = some p) (ho : ops[p.i]? = some o) (hnd : ¬ Dn listed p.i) (hk : p.k.isC = false)
    {st' : St} {sd' : List Side} (hh : st'.h = st.h) (hnx : st.nx ≤ st'.nx) (hnt : st'.nt = st.nt) (hds : st'.ds = st.ds) (hfl : st'.fl = st.fl) {v : LV} (ht : ∀ t, st'.t.get t = if o.dst = some t then some v else st.t.get t) (hlt : ∀ t, o.dst = some t → t < st.nt)
    (hF : p.k ≠ .al → FactF P ops o st.t st'.t σ w p.k.isFp) (hA : p.k = .al → FactA P ops p.i o st.t st'.t sd') (hsub : ∀ s ∈ sd, s ∈ sd') (hsd : ∀ s ∈ sd', s ∈ sd ∨ (s.i = p.i ∧ s.id = st.nx ∧ st.nx < st'.nx ∧ s.o.rw = true ∧ p.k = .al)) (hone : ∀ s ∈ sd', ∀ s' ∈ sd', s.i = p.i → s'.i = p.i → s = s')
    (hpair : ∀ (i j : Nat) (p q : Pl), i < j → pl[i]? = some p → pl[j]? = some q → pairOk ops ms p q = true) (hnod : sd'.Nodup) :
    DI P ops ms pl σ0 st0 w0 listed (R + 1) (nextT T R st.t st'.t) sd' st' σ a w := by
  have hRl : R < pl.length := (List.getElem?_eq_some_iff.1 hp).1
  have hT : ∀ k, k ≤ R → ∀ t, (nextT T R st.t st'.t k).get t = (T k).get t := fun k hk t => by
    unfold nextT
    by_cases h1 : k < R
    · rw [if_pos h1]
    · have : k = R := by omega
      subst this
      rw [if_neg h1, if_pos rfl]; exact di.tlast t
  have hTR : nextT T R st.t st'.t R = st.t := by unfold nextT; rw [if_neg (Nat.lt_irrefl R), if_pos rfl]
  have hT1 : nextT T R st.t st'.t (R + 1) = st'.t := by unfold nextT; rw [if_neg (by omega), if_neg (by omega)]
  have hTlt : ∀ k, k < R → nextT T R st.t st'.t k = T k := fun k hk => by unfold nextT; rw [if_pos hk]
  have hnsub : ∀ (q : Nat) (p' : Pl), pl[q]? = some p' → Dn listed p'.i → q < R := di.sub
  have hal : ∀ s ∈ sd, s.i ≠ p.i := fun s hs hi => by
    obtain ⟨q', p', h0, h1, h2, _⟩ := di.sdAl s hs
    exact absurd (h2.trans hi) (pairOk_spec (hpair q' R p' p h0 h1 hp)).1
  exact {
    closed := di.closed
    lsz := di.lsz
    rle := hRl
    plin := di.plin
    acts := fun q p' h1 h2 h3 => by
      rcases Nat.lt_or_ge q R with h | h
      · exact di.acts q p' h h2 h3
      · have : q = R := by omega
        subst this
        rw [hp] at h2; cases h2
        rw [hk] at h3; cases h3
    sub := fun q p' h1 h2 => by have := di.sub q p' h1 h2; omega
    tlast := fun t => by rw [hT1]
    tstep := fun q p' o' h1 h2 h3 t h4 => by
      rcases Nat.lt_or_ge q R with h | h
      · rw [hT (q + 1) (by omega), hT q (by omega)]
        exact di.tstep q p' o' h h2 h3 t h4
      · have : q = R := by omega
        subst this
        rw [hp] at h2; cases h2
        rw [ho] at h3; cases h3
        rw [hT1, hTR, ht t, if_neg h4]
    slots := fun k hk' t hw u hu => by
      rcases Nat.lt_or_ge k (R + 1) with h | h
      · rw [hT k (by omega)] at hu
        exact di.slots k (by omega) t hw u hu
      · have : k = R + 1 := by omega
        subst this
        have hnw : o.dst ≠ some t := fun hd => by
          have := di.sub R p hp ((hw R p o hp ho hd).1 (by omega))
          omega
        rw [hT1, ht t, if_neg hnw, di.tlast t] at hu
        refine di.slots R (Nat.le_refl _) t (fun q' p' o' h1 h2 h3 => ?_) u hu
        rw [← hw q' p' o' h1 h2 h3]
        constructor
        · intro h; omega
        · intro h
          have := di.sub q' p' h1 ((hw q' p' o' h1 h2 h3).1 h)
          exact this
    pendF := fun q p' o' h1 h2 h3 h4 h5 => by
      rcases Nat.lt_or_ge q R with h | h
      · rw [hTlt q h]
        exact (di.pendF q p' o' h h2 h3 h4 h5).congr (hT (q + 1) (by omega))
      · have : q = R := by omega
        subst this
        rw [hp] at h2; cases h2
        rw [ho] at h3; cases h3
        rw [hTR, hT1]; exact hF h5
    pendA := fun q p' o' h1 h2 h3 h4 h5 => by
      rcases Nat.lt_or_ge q R with h | h
      · rw [hTlt q h]
        exact (di.pendA q p' o' h h2 h3 h4 h5).congr (hT (q + 1) (by omega)) hsub fun s hm hi => by
          rcases hsd s hm with hm | ⟨hi', _⟩
          · exact hm
          · exact absurd (hi.symm.trans hi') (pairOk_spec (hpair q R p' p h h2 hp)).1
      · have : q = R := by omega
        subst this
        rw [hp] at h2; cases h2
        rw [ho] at h3; cases h3
        rw [hTR, hT1]; exact hA h5
    nodup := hnod
    sdNew := fun s hs => by
      rcases hsd s hs with h | ⟨_, h, _⟩
      · exact di.sdNew s h
      · rw [h]; exact di.after.le
    sdId := fun s hs => by
      rw [hh, hfl]
      rcases hsd s hs with h | ⟨_, h, h2, h3, _⟩
      · obtain ⟨g1, g2, g3, g4⟩ := di.sdId s h
        exact ⟨g1, by omega, g3, g4⟩
      · refine ⟨by rw [h]; exact di.fr.1, by omega, h3, ?_⟩
        cases hg : st.h.get s.id with
        | none => rfl
        | some o' =>
          obtain ⟨p1, _, h1, _⟩ := di.sim s.id o' hg
          rw [di.fr.2 s.id (by omega)] at h1; cases h1
    sdOne := fun s hs s' hs' hor => by
      rcases hsd s hs with h | ⟨hi, h, _⟩
      · rcases hsd s' hs' with h' | ⟨hi', h', _⟩
        · exact di.sdOne s h s' h' hor
        · have := (di.sdId s h).2.1
          rcases hor with e | e
          · omega
          · exact absurd (e.trans hi') (hal s h)
      · rcases hsd s' hs' with h' | ⟨hi', h', _⟩
        · have := (di.sdId s' h').2.1
          rcases hor with e | e
          · omega
          · exact absurd (e.symm.trans hi) (hal s' h')
        · exact hone s hs s' hs' hi hi'
    sdDone := fun s hs hd => by
      rw [hh]
      rcases hsd s hs with h | ⟨hi, _⟩
      · exact di.sdDone s h hd
      · rw [hi] at hd; exact absurd hd hnd
    sdApart := fun s hs s' hs' p1 p2 e1 e2 hb => by
      rcases hsd s hs with h | ⟨hi, h, _⟩
      · rcases hsd s' hs' with h' | ⟨hi', h', _⟩
        · exact di.sdApart s h s' h' p1 p2 e1 e2 hb
        · rw [di.fr.2 s'.id (by omega)] at e2; cases e2
      · rw [di.fr.2 s.id (by omega)] at e1; cases e1
    sdWait := fun s hs hd => by
      rcases hsd s hs with h | ⟨hi, h, _⟩
      · exact di.sdWait s h hd
      · exact di.fr.2 s.id (by omega)
    dst := fun i o' d h1 ⟨q, p', h2, h3, h4⟩ h5 => by
      rw [hnt]
      rcases Nat.lt_or_ge q R with h | h
      · exact di.dst i o' d h1 ⟨q, p', h, h3, h4⟩ h5
      · have : q = R := by omega
        subst this
        rw [hp] at h3; cases h3
        rw [← h4, ho] at h1; cases h1
        exact hlt d h5
    sim := by rw [hh, hfl]; exact di.sim
    fr := ⟨by rw [hfl]; exact Nat.le_trans di.fr.1 hnx, fun id hid => di.fr.2 id (Nat.le_trans hnx hid)⟩
    nt := by rw [hnt]; exact di.nt
    ds := by rw [hds]; exact di.ds
    sdAl := fun s hs => by
      rcases hsd s hs with h | ⟨hi, _, _, _, hk⟩
      · obtain ⟨q', p', h0, h1⟩ := di.sdAl s h
        exact ⟨q', p', by omega, h1⟩
      · exact ⟨R, p, by omega, hp, hi.symm, hk⟩
    after := ⟨by have := di.after.step; rw [hh]; exact this, hfl.trans di.after.fl, hnt.trans di.after.nt, Nat.le_trans di.after.le hnx, di.after.agr⟩ }
end
end Go.Proofs.Ytigilihpofafoaa.Loc
