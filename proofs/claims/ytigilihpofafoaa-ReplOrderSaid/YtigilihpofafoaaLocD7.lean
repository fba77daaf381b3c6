/- The small machine of local values: regions whose order is drawn. Part 7: on to the next acting operation. -/
import Derived.Test.YtigilihpofafoaaLocD6
namespace Go.Proofs.Ytigilihpofafoaa.Loc
open Go
set_option linter.unusedVariables false
set_option linter.unusedSimpArgs false
set_option linter.unusedSectionVars false
variable [En]
variable {P : Program} {Φ : Out → Prop} {fl : Nat}

section
variable {ops : List Oper} {ms : List Nat} {pl : List Pl} {σ0 : Sg} {st0 : St} {w0 : World} {listed : Array Bool} {R : Nat} {T : Nat → RM LV} {sd : List Side} {st : St} {σ : Sg} {a : Act} {w : World}

theorem RelOn.congr {t t' : RM LV} {tmps : Array Value} {S : List Nat} (h : RelOn σ t tmps S) (e : ∀ d, t'.get d = t.get d) : RelOn σ t' tmps S := fun d hd v hv => h d hd v (by rw [← e d]; exact hv)
theorem GuardIs.congr {o : Oper} {t t' : RM LV} {b : Bool} (h : GuardIs ops o t b) (e : ∀ d, t'.get d = t.get d) : GuardIs ops o t' b := fun σ tmps hr => h σ tmps (hr.congr fun d => (e d).symm)
theorem lev_congr {t t' : RM LV} (e : ∀ d, t'.get d = t.get d) : lev t' = lev t := by
  funext x
  cases x <;> simp [lev, e]

theorem floatStep (hs : Good Φ) {hq : St → LH} {c : St → Out} {p : Pl} {o : Oper} (hp : pl[R]? = some p) (ho : ops[p.i]? = some o) (hnd : ¬ Dn listed p.i) (hka : p.k ≠ .al) (hkc : p.k.isC = false) (hfp : p.k.isFp = true → hq st = .nil)
    (hpair : ∀ (i j : Nat) (p q : Pl), i < j → pl[i]? = some p → pl[j]? = some q → pairOk ops ms p q = true) (di : DI P ops ms pl σ0 st0 w0 listed R T sd st σ a w) (hv : View P σ (hq st) w) (hqe : ∀ st', Eqv st st' → hq st' = hq st)
    (H : Φ (guardL ops o.guard st (fun st => quietL P (lev st.t) o.op (hq st) fun v => st.put o.dst v c) (fun st => st.put o.dst (.tup []) c))) :
    ∃ st', Φ (c st') ∧ DI P ops ms pl σ0 st0 w0 listed (R + 1) (nextT T R st.t st'.t) sd st' σ a w := by
  rcases guard_direct hs H with ⟨st1, H1, e1, g⟩ | ⟨st1, H1, e1, g⟩
  · obtain ⟨v, H2, key⟩ := quiet_sound hs H1
    obtain ⟨st2, H3, a1, a2, a3, a4, a5, a6, a7⟩ := put_direct hs H2
    have ht : ∀ t, st2.t.get t = if o.dst = some t then some v else st.t.get t := fun t => by rw [a6 t, e1.t t]
    refine ⟨st2, H3, di.step hp ho hnd hkc (a1.trans e1.h) (by rw [a2, e1.nx]; exact Nat.le_refl _) (a3.trans e1.nt) (a4.trans e1.ds) (a5.trans e1.fl) ht (fun t h => e1.nt ▸ a7 t h) (fun _ => .inr ⟨g, v, hq st, hfp, ht, hv, fun fl σ w ρ hx s => ?_⟩) (fun h => absurd h hka) (fun s h => h) (fun s h => .inl h) (fun s h s' h' => ?_) hpair di.nodup⟩
    · refine key fl σ w ρ o rfl ?_ (by rw [hqe st1 e1]; exact s)
      rw [lev_congr e1.t]; exact hx
    · intro hi hi'; exact di.sdOne s h s' h' (.inr (hi.trans hi'.symm))
  · obtain ⟨st2, H3, a1, a2, a3, a4, a5, a6, a7⟩ := put_direct hs H1
    have ht : ∀ t, st2.t.get t = if o.dst = some t then some (.tup []) else st.t.get t := fun t => by rw [a6 t, e1.t t]
    refine ⟨st2, H3, di.step hp ho hnd hkc (a1.trans e1.h) (by rw [a2, e1.nx]; exact Nat.le_refl _) (a3.trans e1.nt) (a4.trans e1.ds) (a5.trans e1.fl) ht (fun t h => e1.nt ▸ a7 t h) (fun _ => .inl ⟨g, ht⟩) (fun h => absurd h hka) (fun s h => h) (fun s h => .inl h) (fun s h s' h' => ?_) hpair di.nodup⟩
    intro hi hi'; exact di.sdOne s h s' h' (.inr (hi.trans hi'.symm))

theorem advance (hs : Good Φ) {cf cy : KF} {c : St → Out} (hpair : ∀ (i j : Nat) (p q : Pl), i < j → pl[i]? = some p → pl[j]? = some q → pairOk ops ms p q = true) :
    ∀ (n R : Nat) (T : Nat → RM LV) (sd : List Side) (st : St), pl.length - R = n → DI P ops ms pl σ0 st0 w0 listed R T sd st σ a w → Φ (dL P cf cy ops ms (pl.drop R) sd st c) →
      ∃ R' T' sd' st', DI P ops ms pl σ0 st0 w0 listed R' T' sd' st' σ a w ∧ (∀ p, pl[R']? = some p → p.k.isC = true ∧ ¬ Dn listed p.i) ∧ Φ (dL P cf cy ops ms (pl.drop R') sd' st' c)
  | 0, R, T, sd, st, hn, di, H => ⟨R, T, sd, st, di, fun p hp => by have := (List.getElem?_eq_some_iff.1 hp).1; omega, H⟩
  | n + 1, R, T, sd, st, hn, di, H => by
    have hR : R < pl.length := by omega
    obtain ⟨p, hp⟩ : ∃ p, pl[R]? = some p := ⟨_, List.getElem?_eq_getElem hR⟩
    obtain ⟨o, ho⟩ := di.plin p (List.mem_of_getElem? hp)
    have hnd : ¬ Dn listed p.i := fun h => by have := di.sub R p hp h; omega
    have hdrop : pl.drop R = p :: pl.drop (R + 1) := by
      rw [List.drop_eq_getElem_cons hR]
      congr 1
      exact (List.getElem?_eq_some_iff.1 hp).2
    cases hk : p.k with
    | grow => exact ⟨R, T, sd, st, di, fun p' hp' => by rw [hp] at hp'; cases hp'; exact ⟨by rw [hk]; rfl, hnd⟩, H⟩
    | act => exact ⟨R, T, sd, st, di, fun p' hp' => by rw [hp] at hp'; cases hp'; exact ⟨by rw [hk]; rfl, hnd⟩, H⟩
    | fp =>
      rw [hdrop] at H
      simp only [dL, ho, hk] at H
      obtain ⟨st2, H', h1⟩ := floatStep (hq := fun _ => .nil) hs hp ho hnd (by rw [hk]; simp) (by rw [hk]; rfl) (fun _ => rfl) hpair di View.nil (fun _ _ => rfl) H
      exact advance hs hpair n (R + 1) _ _ _ (by omega) h1 H'
    | fh =>
      rw [hdrop] at H
      simp only [dL, ho, hk] at H
      obtain ⟨st2, H', h1⟩ := floatStep (hq := fun st => st.h) hs hp ho hnd (by rw [hk]; simp) (by rw [hk]; rfl) (by rw [hk]; intro h; cases h) hpair di di.sim.view (fun _ e => e.h) H
      exact advance hs hpair n (R + 1) _ _ _ (by omega) h1 H'
    | al =>
      rw [hdrop] at H
      simp only [dL, ho, hk] at H
      have hkc : p.k.isC = false := by rw [hk]; rfl
      have hal : ∀ s ∈ sd, s.i ≠ p.i := fun s h hi => by
        obtain ⟨q', p', h0, h1, h2, _⟩ := di.sdAl s h
        exact absurd (h2.trans hi) (pairOk_spec (hpair q' R p' p h0 h1 hp)).1
      rcases guard_direct hs H with ⟨st1, H1, e1, g⟩ | ⟨st1, H1, e1, g⟩
      · obtain ⟨v, ob, H2, hrw, key⟩ := alloc_sound hs H1
        obtain ⟨st2, H3, a1, a2, a3, a4, a5, a6, a7⟩ := put_direct hs H2
        have ht : ∀ t, st2.t.get t = if o.dst = some t then some v else st.t.get t := fun t => by
          rw [a6 t]
          show (if o.dst = some t then some v else st1.t.get t) = _
          rw [e1.t t]
        have hnx2 : st2.nx = st.nx + 1 := by rw [a2]; show st1.nx + 1 = _; rw [e1.nx]
        have di' := di.step (sd' := ⟨p.i, st1.nx, ob⟩ :: sd) hp ho hnd hkc (a1.trans e1.h) (by omega) (a3.trans e1.nt) (a4.trans e1.ds) (a5.trans e1.fl) ht (fun t h => e1.nt ▸ a7 t h) (fun h => absurd hk h)
          (fun _ => .inr ⟨g, v, ⟨p.i, st1.nx, ob⟩, by simp, rfl, ht, fun σ w ρ hx hn => key σ w ρ o rfl (by rw [lev_congr e1.t]; exact hx) hn⟩) (fun s h => by simp [h])
          (fun s h => by
            rcases List.mem_cons.1 h with rfl | h
            · exact .inr ⟨rfl, e1.nx, by omega, hrw, hk⟩
            · exact .inl h)
          (fun s h s' h' hi hi' => by
            rcases List.mem_cons.1 h with rfl | h
            · rcases List.mem_cons.1 h' with rfl | h'
              · rfl
              · exact absurd hi' (hal s' h')
            · exact absurd hi (hal s h)) hpair (List.nodup_cons.2 ⟨fun h => hal _ h rfl, di.nodup⟩)
        exact advance hs hpair n (R + 1) _ _ _ (by omega) di' H3
      · obtain ⟨st2, H3, a1, a2, a3, a4, a5, a6, a7⟩ := put_direct hs H1
        have ht : ∀ t, st2.t.get t = if o.dst = some t then some (.tup []) else st.t.get t := fun t => by rw [a6 t, e1.t t]
        have di' := di.step (sd' := sd) hp ho hnd hkc (a1.trans e1.h) (by rw [a2, e1.nx]; exact Nat.le_refl _) (a3.trans e1.nt) (a4.trans e1.ds) (a5.trans e1.fl) ht (fun t h => e1.nt ▸ a7 t h) (fun h => absurd hk h) (fun _ => .inl ⟨g, hal, ht⟩) (fun s h => h) (fun s h => .inl h)
          (fun s h s' h' hi hi' => di.sdOne s h s' h' (.inr (hi.trans hi'.symm))) hpair di.nodup
        exact advance hs hpair n (R + 1) _ _ _ (by omega) di' H3
end
end Go.Proofs.Ytigilihpofafoaa.Loc
