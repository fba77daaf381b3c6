/- The small machine of local values: regions whose order is drawn. Part 5: what holds between the plan's run and the drawn run. -/
import Derived.Test.YtigilihpofafoaaLocD4
namespace Go.Proofs.Ytigilihpofafoaa.Loc
open Go
set_option linter.unusedVariables false
set_option linter.unusedSimpArgs false
set_option linter.unusedSectionVars false
variable [En]
variable {P : Program} {Φ : Out → Prop} {fl : Nat}

def PK.isC : PK → Bool
  | .grow | .act => true
  | _ => false
def PK.isFp : PK → Bool
  | .fp => true
  | _ => false
/-- the operations that are done -/
def Dn (listed : Array Bool) (i : Nat) : Prop := listed.getD i false = true

/-- what a floating operation that waits will do: 't': the slots before it in the plan's run, 't'': behind it -/
def FactF (P : Program) (ops : List Oper) (o : Oper) (t t' : RM LV) (σ : Sg) (w : World) (fp : Bool) : Prop :=
  (GuardIs ops o t false ∧ ∀ d, t'.get d = if o.dst = some d then some (.tup []) else t.get d) ∨
  (GuardIs ops o t true ∧ ∃ v h, (fp = true → h = .nil) ∧ (∀ d, t'.get d = if o.dst = some d then some v else t.get d) ∧ View P σ h w ∧
    ∀ fl σ w (ρ : Operand → Value), (∀ x ∈ o.op.operands, VR σ (lev t x) (ρ x)) → Sim P fl σ h w → ∃ x, (execOp ρ o).run P w = .ok (.value x) w ∧ VR σ v x)
/-- .. an allocating one; 'sd': the new objects that are not in the heap yet -/
def FactA (P : Program) (ops : List Oper) (i : Nat) (o : Oper) (t t' : RM LV) (sd : List Side) : Prop :=
  (GuardIs ops o t false ∧ (∀ s ∈ sd, s.i ≠ i) ∧ ∀ d, t'.get d = if o.dst = some d then some (.tup []) else t.get d) ∨
  (GuardIs ops o t true ∧ ∃ v s, s ∈ sd ∧ s.i = i ∧ (∀ d, t'.get d = if o.dst = some d then some v else t.get d) ∧
    ∀ σ w (ρ : Operand → Value), (∀ x ∈ o.op.operands, VR σ (lev t x) (ρ x)) → σ s.id = none →
      ∃ x ob p, (execOp ρ o).run P w = .ok (.value x) (w.alloc ob) ∧ p.blk = w.heap.size ∧ VR (upd σ s.id p) v x ∧ OK P (upd σ s.id p) p s.o ob)
/-- a new object that lies in the world, and not in the heap yet -/
def Placed (P : Program) (σ : Sg) (h : LH) (w w0 : World) (s : Side) : Prop := ∃ p ob, σ s.id = some p ∧ w.heap[p.blk]? = some ob ∧ OK P σ p s.o ob ∧ w0.heap.size ≤ p.blk ∧
  ∀ id o q, h.get id = some o → σ id = some q → q.blk ≠ p.blk

structure DI (P : Program) (ops : List Oper) (ms : List Nat) (pl : List Pl) (σ0 : Sg) (st0 : St) (w0 : World) (listed : Array Bool) (R : Nat) (T : Nat → RM LV) (sd : List Side) (st : St) (σ : Sg) (a : Act) (w : World) : Prop where
  closed : Closed ops (Dn listed)
  lsz : listed.size = ops.length
  rle : R ≤ pl.length
  plin : ∀ p ∈ pl, ∃ o, ops[p.i]? = some o
  acts : ∀ (q : Nat) (p : Pl), q < R → pl[q]? = some p → p.k.isC = true → Dn listed p.i
  sub : ∀ (q : Nat) (p : Pl), pl[q]? = some p → Dn listed p.i → q < R
  tlast : ∀ t, st.t.get t = (T R).get t
  tstep : ∀ (q : Nat) (p : Pl) (o : Oper), q < R → pl[q]? = some p → ops[p.i]? = some o → ∀ t, o.dst ≠ some t → (T (q + 1)).get t = (T q).get t
  slots : ∀ k, k ≤ R → ∀ t, (∀ (q : Nat) (p : Pl) (o : Oper), pl[q]? = some p → ops[p.i]? = some o → o.dst = some t → (q < k ↔ Dn listed p.i)) → ∀ v, (T k).get t = some v → ∃ x, a.tmps[t]? = some x ∧ VR σ v x
  pendF : ∀ (q : Nat) (p : Pl) (o : Oper), q < R → pl[q]? = some p → ops[p.i]? = some o → ¬ Dn listed p.i → p.k ≠ .al → FactF P ops o (T q) (T (q + 1)) σ w p.k.isFp
  pendA : ∀ (q : Nat) (p : Pl) (o : Oper), q < R → pl[q]? = some p → ops[p.i]? = some o → ¬ Dn listed p.i → p.k = .al → FactA P ops p.i o (T q) (T (q + 1)) sd
  nodup : sd.Nodup
  sdNew : ∀ s ∈ sd, st0.nx ≤ s.id
  sdId : ∀ s ∈ sd, st.fl ≤ s.id ∧ s.id < st.nx ∧ s.o.rw = true ∧ st.h.get s.id = none
  sdOne : ∀ s ∈ sd, ∀ s' ∈ sd, s.id = s'.id ∨ s.i = s'.i → s = s'
  sdDone : ∀ s ∈ sd, Dn listed s.i → Placed P σ st.h w w0 s
  sdApart : ∀ s ∈ sd, ∀ s' ∈ sd, ∀ p p', σ s.id = some p → σ s'.id = some p' → p.blk = p'.blk → s = s'
  sdWait : ∀ s ∈ sd, ¬ Dn listed s.i → σ s.id = none
  dst : ∀ (i : Nat) (o : Oper) (d : Tmp), ops[i]? = some o → (∃ q p, q < R ∧ pl[q]? = some p ∧ p.i = i) → o.dst = some d → d < st.nt
  sim : Sim P st.fl σ st.h w
  fr : Fr st.fl σ st.nx
  nt : a.tmps.size = st.nt
  ds : DR σ st.ds a.defers
  sdAl : ∀ s ∈ sd, ∃ (q : Nat) (p : Pl), q < R ∧ pl[q]? = some p ∧ p.i = s.i ∧ p.k = .al
  after : After σ0 st0 w0 σ st w

section
variable {ops : List Oper} {ms : List Nat} {pl : List Pl} {σ0 : Sg} {st0 : St} {w0 : World} {listed : Array Bool} {R : Nat} {T : Nat → RM LV} {sd : List Side} {st : St} {σ : Sg} {a : Act} {w : World}

/-- what a ready operation reads is what the plan's run has there -/
theorem DI.reads (di : DI P ops ms pl σ0 st0 w0 listed R T sd st σ a w) (hm : masksOk ms ops 0 = true) (hpair : ∀ (i j : Nat) (p q : Pl), i < j → pl[i]? = some p → pl[j]? = some q → pairOk ops ms p q = true)
    {q : Nat} {p : Pl} {o : Oper} (hq : q ≤ R) (hp : pl[q]? = some p) (ho : ops[p.i]? = some o) (hnd : ¬ Dn listed p.i) (he : ∀ e ∈ o.after.toList, Region.binds .any e = true → Dn listed e.on) :
    RelOn σ (T q) a.tmps (readsOf ops o) := fun d hd v hv => by
  refine di.slots q hq d (fun q' p' o' hp' ho' hd' => ⟨fun hlt => ?_, fun hdn => ?_⟩) v hv
  · obtain ⟨_, h⟩ := pairOk_spec (hpair q' q p' p hlt hp' hp)
    rcases h with h | ⟨h, _⟩
    · exact di.closed.pre hm p.i o ho he p'.i h
    · exact absurd hd ((clash_spec (h o' o ho' ho)).1 d hd').1
  · rcases Nat.lt_trichotomy q' q with hlt | heq | hgt
    · exact hlt
    · subst heq
      rw [hp] at hp'; cases hp'
      exact absurd hdn hnd
    · obtain ⟨_, h⟩ := pairOk_spec (hpair q q' p p' hgt hp hp')
      rcases h with h | ⟨h, _⟩
      · exact absurd (di.closed.pre hm p'.i o' ho' (di.closed p'.i o' ho' hdn) p.i h) hnd
      · exact absurd hd ((clash_spec (h o o' ho ho')).2 d hd').1

/-- a floating operation that is done now: the slots -/
theorem DI.slots_put (di : DI P ops ms pl σ0 st0 w0 listed R T sd st σ a w) (hm : masksOk ms ops 0 = true) (hpair : ∀ (i j : Nat) (p q : Pl), i < j → pl[i]? = some p → pl[j]? = some q → pairOk ops ms p q = true)
    {q : Nat} {p : Pl} {o : Oper} (hq : q < R) (hp : pl[q]? = some p) (ho : ops[p.i]? = some o) (hnd : ¬ Dn listed p.i) {σ' : Sg} (hσ : Ext σ σ') {v : LV} {x : Value} (hv : VR σ' v x) (hT : ∀ d, (T (q + 1)).get d = if o.dst = some d then some v else (T q).get d)
    {listed' : Array Bool} (hl : ∀ i, Dn listed' i ↔ i = p.i ∨ Dn listed i) : ∀ k, k ≤ R → ∀ t, (∀ (q : Nat) (p : Pl) (o : Oper), pl[q]? = some p → ops[p.i]? = some o → o.dst = some t → (q < k ↔ Dn listed' p.i)) → ∀ u, (T k).get t = some u → ∃ y, (a.put o.dst x).tmps[t]? = some y ∧ VR σ' u y := by
  intro k hk t hw u hu
  by_cases hd : o.dst = some t
  · have hqk : q < k := (hw q p o hp ho hd).2 ((hl _).2 (.inl rfl))
    -- nobody between writes it
    have hsame : ∀ m, q + 1 + m ≤ k → (T (q + 1 + m)).get t = (T (q + 1)).get t := by
      intro m
      induction m with
      | zero => intro _; rfl
      | succ m ih =>
        intro hle
        have hlen : q + 1 + m < pl.length := by have := di.rle; omega
        obtain ⟨p2, hp2⟩ : ∃ p2, pl[q + 1 + m]? = some p2 := ⟨_, List.getElem?_eq_getElem hlen⟩
        obtain ⟨o2, ho2⟩ := di.plin p2 (List.mem_of_getElem? hp2)
        have hne : o2.dst ≠ some t := fun h2 => by
          obtain ⟨hii, hc⟩ := pairOk_spec (hpair q (q + 1 + m) p p2 (by omega) hp hp2)
          have hdn : Dn listed p2.i := by
            rcases (hl _).1 ((hw _ p2 o2 hp2 ho2 h2).1 (by omega)) with e | e
            · exact absurd e.symm hii
            · exact e
          rcases hc with hc | ⟨hc, _⟩
          · exact hnd (di.closed.pre hm p2.i o2 ho2 (di.closed p2.i o2 ho2 hdn) p.i hc)
          · exact ((clash_spec (hc o o2 ho ho2)).1 t hd).2 h2
        have := di.tstep (q + 1 + m) p2 o2 (by omega) hp2 ho2 t hne
        rw [show q + 1 + (m + 1) = q + 1 + m + 1 by omega, this]
        exact ih (by omega)
    have hTk : (T k).get t = some v := by
      have := hsame (k - (q + 1)) (by omega)
      rw [show q + 1 + (k - (q + 1)) = k by omega] at this
      rw [this, hT t, if_pos hd]
    rw [hTk] at hu; cases hu
    have hlt : t < a.tmps.size := by
      rw [di.nt]; exact di.dst p.i o t ho ⟨q, p, hq, hp, rfl⟩ hd
    exact ⟨x, by simp [Act.put, hd, hlt], hv⟩
  · obtain ⟨y, h1, h2⟩ := di.slots k hk t (fun q' p' o' hp' ho' hd' => by
      have hne : p'.i ≠ p.i := fun e => by
        rw [e, ho] at ho'; cases ho'
        exact hd hd'
      rw [hw q' p' o' hp' ho' hd', hl]
      constructor
      · rintro (h | h)
        · exact absurd h hne
        · exact h
      · exact .inr) u hu
    refine ⟨y, ?_, VR.mono hσ _ _ h2⟩
    cases hdd : o.dst with
    | none => simpa [Act.put] using h1
    | some d =>
      have hne : d ≠ t := fun e => hd (by rw [hdd, e])
      simp only [Act.put]
      rw [Array.getElem?_setIfInBounds_ne hne]; exact h1

/-- a floating operation that is done now -/
theorem DI.floatF (di : DI P ops ms pl σ0 st0 w0 listed R T sd st σ a w) (hm : masksOk ms ops 0 = true) (hpair : ∀ (i j : Nat) (p q : Pl), i < j → pl[i]? = some p → pl[j]? = some q → pairOk ops ms p q = true)
    {q : Nat} {p : Pl} {o : Oper} (hq : q < R) (hp : pl[q]? = some p) (ho : ops[p.i]? = some o) (hnd : ¬ Dn listed p.i) (he : ∀ e ∈ o.after.toList, Region.binds .any e = true → Dn listed e.on) (hsd : ∀ s ∈ sd, s.i ≠ p.i)
    {v : LV} {x : Value} (hv : VR σ v x) (hT : ∀ d, (T (q + 1)).get d = if o.dst = some d then some v else (T q).get d)
    {listed' : Array Bool} (hl : ∀ i, Dn listed' i ↔ i = p.i ∨ Dn listed i) (hsz : listed'.size = listed.size) : DI P ops ms pl σ0 st0 w0 listed' R T sd st σ (a.put o.dst x) w := by
  have huniq : ∀ (q' : Nat) (p' : Pl), pl[q']? = some p' → p'.i = p.i → q' = q := fun q' p' hp' hi => by
    rcases Nat.lt_trichotomy q' q with h | h | h
    · exact absurd hi (pairOk_spec (hpair q' q p' p h hp' hp)).1
    · exact h
    · exact absurd hi.symm (pairOk_spec (hpair q q' p p' h hp hp')).1
  exact {
    closed := fun i u hu hd e h1 h2 => (hl _).2 (.inr (by
      rcases (hl _).1 hd with rfl | hd
      · rw [ho] at hu; cases hu
        exact he e h1 h2
      · exact di.closed i u hu hd e h1 h2))
    lsz := hsz.trans di.lsz
    rle := di.rle
    plin := di.plin
    acts := fun q' p' h1 h2 h3 => (hl _).2 (.inr (di.acts q' p' h1 h2 h3))
    sub := fun q' p' h1 h2 => by
      rcases (hl _).1 h2 with h | h
      · have := huniq q' p' h1 h; omega
      · exact di.sub q' p' h1 h
    tlast := di.tlast
    tstep := di.tstep
    slots := di.slots_put hm hpair hq hp ho hnd (Ext.refl σ) hv hT hl
    pendF := fun q' p' o' h1 h2 h3 h4 h5 => di.pendF q' p' o' h1 h2 h3 (fun h => h4 ((hl _).2 (.inr h))) h5
    pendA := fun q' p' o' h1 h2 h3 h4 h5 => di.pendA q' p' o' h1 h2 h3 (fun h => h4 ((hl _).2 (.inr h))) h5
    nodup := di.nodup
    sdNew := di.sdNew
    sdId := di.sdId
    sdOne := di.sdOne
    sdDone := fun s hs hd => di.sdDone s hs (by
      rcases (hl _).1 hd with h | h
      · exact absurd h (hsd s hs)
      · exact h)
    sdApart := di.sdApart
    sdWait := fun s hs hd => di.sdWait s hs fun h => hd ((hl _).2 (.inr h))
    dst := di.dst
    sim := di.sim
    fr := di.fr
    nt := by
      rw [← di.nt]
      cases o.dst <;> simp [Act.put]
    ds := by
      have : (a.put o.dst x).defers = a.defers := by cases o.dst <;> rfl
      rw [this]; exact di.ds
    sdAl := di.sdAl
    after := di.after }

/-- an allocation that is done now -/
theorem DI.floatA (di : DI P ops ms pl σ0 st0 w0 listed R T sd st σ a w) (hm : masksOk ms ops 0 = true) (hpair : ∀ (i j : Nat) (p q : Pl), i < j → pl[i]? = some p → pl[j]? = some q → pairOk ops ms p q = true)
    {q : Nat} {p : Pl} {o : Oper} (hq : q < R) (hp : pl[q]? = some p) (ho : ops[p.i]? = some o) (hnd : ¬ Dn listed p.i) (he : ∀ e ∈ o.after.toList, Region.binds .any e = true → Dn listed e.on) (hk : p.k = .al)
    {s : Side} (hs : s ∈ sd) (hsi : s.i = p.i) {pp : Place} {ob : Obj} (hpb : pp.blk = w.heap.size) (hok : OK P (upd σ s.id pp) pp s.o ob)
    {v : LV} {x : Value} (hv : VR (upd σ s.id pp) v x) (hT : ∀ d, (T (q + 1)).get d = if o.dst = some d then some v else (T q).get d)
    {listed' : Array Bool} (hl : ∀ i, Dn listed' i ↔ i = p.i ∨ Dn listed i) (hsz : listed'.size = listed.size) : DI P ops ms pl σ0 st0 w0 listed' R T sd st (upd σ s.id pp) (a.put o.dst x) (w.alloc ob) := by
  have huniq : ∀ (q' : Nat) (p' : Pl), pl[q']? = some p' → p'.i = p.i → q' = q := fun q' p' hp' hi => by
    rcases Nat.lt_trichotomy q' q with h | h | h
    · exact absurd hi (pairOk_spec (hpair q' q p' p h hp' hp)).1
    · exact h
    · exact absurd hi.symm (pairOk_spec (hpair q q' p p' h hp hp')).1
  have hn : σ s.id = none := di.sdWait s hs (by rw [hsi]; exact hnd)
  have hext := ext_upd (p := pp) hn
  have hold : ∀ b, b < w.heap.size → (w.alloc ob).heap[b]? = w.heap[b]? := fun b hb => heap_alloc_old w ob hb
  have hne : ∀ id o', st.h.get id = some o' → id ≠ s.id := fun id o' hg hi => by
    rw [hi, (di.sdId s hs).2.2.2] at hg; cases hg
  have hsame : ∀ id, id ≠ s.id → upd σ s.id pp id = σ id := fun id h => upd_other h
  have hsim : Sim P st.fl (upd σ s.id pp) st.h (w.alloc ob) := fun id o' hg => by
    obtain ⟨p1, ob1, h1, h2, h3, h4⟩ := di.sim id o' hg
    refine ⟨p1, ob1, hext id p1 h1, by rw [hold _ (di.sim.lt hg h1)]; exact h2, OK.mono hext h3, fun hr i' o'' p' g1 g2 g3 => ?_⟩
    rw [hsame i' (hne i' o'' g1)] at g2
    exact h4 hr i' o'' p' g1 g2 g3
  exact {
    closed := fun i u hu hd e h1 h2 => (hl _).2 (.inr (by
      rcases (hl _).1 hd with rfl | hd
      · rw [ho] at hu; cases hu
        exact he e h1 h2
      · exact di.closed i u hu hd e h1 h2))
    lsz := hsz.trans di.lsz
    rle := di.rle
    plin := di.plin
    acts := fun q' p' h1 h2 h3 => (hl _).2 (.inr (di.acts q' p' h1 h2 h3))
    sub := fun q' p' h1 h2 => by
      rcases (hl _).1 h2 with h | h
      · have := huniq q' p' h1 h; omega
      · exact di.sub q' p' h1 h
    tlast := di.tlast
    tstep := di.tstep
    slots := di.slots_put hm hpair hq hp ho hnd hext hv hT hl
    pendF := fun q' p' o' h1 h2 h3 h4 h5 => by
      rcases di.pendF q' p' o' h1 h2 h3 (fun h => h4 ((hl _).2 (.inr h))) h5 with h | ⟨g, v', h', e0, e1, e2, e3⟩
      · exact .inl h
      · exact .inr ⟨g, v', h', e0, e1, e2.mono hext hold, e3⟩
    pendA := fun q' p' o' h1 h2 h3 h4 h5 => di.pendA q' p' o' h1 h2 h3 (fun h => h4 ((hl _).2 (.inr h))) h5
    nodup := di.nodup
    sdNew := di.sdNew
    sdId := di.sdId
    sdOne := di.sdOne
    sdDone := fun s' hs' hd => by
      by_cases hss : s' = s
      · subst hss
        refine ⟨pp, ob, upd_same, by rw [hpb]; exact heap_alloc_new w ob, hok, by rw [hpb]; exact di.after.step.size, fun id o' q' hg hq' => ?_⟩
        rw [hsame id (hne id o' hg)] at hq'
        have := di.sim.lt hg hq'
        omega
      · have hd' : Dn listed s'.i := by
          rcases (hl _).1 hd with h | h
          · exact absurd (di.sdOne s' hs' s hs (.inr (h.trans hsi.symm))) hss
          · exact h
        obtain ⟨p1, ob1, g1, g2, g3, g4, g5⟩ := di.sdDone s' hs' hd'
        have hlt : p1.blk < w.heap.size := (Array.getElem?_eq_some_iff.1 g2).1
        refine ⟨p1, ob1, hext _ _ g1, by rw [hold _ hlt]; exact g2, OK.mono hext g3, g4, fun id o' q' hg hq' => ?_⟩
        rw [hsame id (hne id o' hg)] at hq'
        exact g5 id o' q' hg hq'
    sdApart := fun s1 h1 s2 h2 p1 p2 e1 e2 hb => by
      have hlt : ∀ s', s' ∈ sd → s' ≠ s → ∀ p', upd σ s.id pp s'.id = some p' → p'.blk < w.heap.size ∧ σ s'.id = some p' := fun s' hs' hss p' hp' => by
        have hid : s'.id ≠ s.id := fun e => hss (di.sdOne s' hs' s hs (.inl e))
        rw [hsame _ hid] at hp'
        by_cases hd : Dn listed s'.i
        · obtain ⟨p1, ob1, g1, g2, _⟩ := di.sdDone s' hs' hd
          rw [hp'] at g1; cases g1
          exact ⟨(Array.getElem?_eq_some_iff.1 g2).1, hp'⟩
        · rw [di.sdWait s' hs' hd] at hp'; cases hp'
      by_cases c1 : s1 = s
      · by_cases c2 : s2 = s
        · rw [c1, c2]
        · subst c1
          rw [upd_same] at e1; cases e1
          have := (hlt s2 h2 c2 p2 e2).1
          omega
      · by_cases c2 : s2 = s
        · subst c2
          rw [upd_same] at e2; cases e2
          have := (hlt s1 h1 c1 p1 e1).1
          omega
        · exact di.sdApart s1 h1 s2 h2 p1 p2 (hlt s1 h1 c1 p1 e1).2 (hlt s2 h2 c2 p2 e2).2 hb
    sdWait := fun s' hs' hd => by
      have hid : s'.id ≠ s.id := fun e => by
        have := di.sdOne s' hs' s hs (.inl e)
        subst this
        exact hd ((hl _).2 (.inl hsi))
      rw [hsame _ hid]
      exact di.sdWait s' hs' fun h => hd ((hl _).2 (.inr h))
    dst := di.dst
    sim := hsim
    fr := ⟨di.fr.1, fun id hid => by
      have := (di.sdId s hs).2.1
      rw [hsame id (by omega)]; exact di.fr.2 id hid⟩
    nt := by
      rw [← di.nt]
      cases o.dst <;> simp [Act.put]
    ds := by
      have : (a.put o.dst x).defers = a.defers := by cases o.dst <;> rfl
      rw [this]; exact di.ds.mono hext
    sdAl := di.sdAl
    after := by
      have af := di.after
      refine ⟨⟨af.step.ext.trans hext, af.step.os, af.step.tape, af.step.output, by have := af.step.size; simp; omega, fun b hb hnb => ?_, fun id o' p' g1 g2 g3 => ?_, af.step.low⟩, af.fl, af.nt, af.le, fun id hid => ?_⟩
      · rw [hold _ (Nat.lt_of_lt_of_le hb af.step.size)]; exact af.step.frame b hb hnb
      · rw [hsame id (hne id o' g1)] at g3
        exact af.step.own id o' p' g1 g2 g3
      · have := di.sdNew s hs
        rw [hsame id (by omega)]; exact af.agr id hid }
end
end Go.Proofs.Ytigilihpofafoaa.Loc
