/- The small machine of local values: regions whose order is drawn. Part 9: 'drawL_sound'. -/
import Derived.Test.YtigilihpofafoaaLocD8
namespace Go.Proofs.Ytigilihpofafoaa.Loc
open Go
set_option linter.unusedVariables false
set_option linter.unusedSimpArgs false
set_option linter.unusedSectionVars false
variable [En]
variable {P : Program} {Φ : Out → Prop} {fl : Nat}

theorem After.congr {σ0 σ : Sg} {st0 st st' : St} {w0 w : World} (af : After σ0 st0 w0 σ st w) (h : st'.h = st.h) (hnx : st'.nx = st.nx) (hfl : st'.fl = st.fl) (hnt : st'.nt = st.nt) : After σ0 st0 w0 σ st' w :=
  ⟨by rw [h]; exact af.step, hfl.trans af.fl, hnt.trans af.nt, by rw [hnx]; exact af.le, af.agr⟩

theorem Placed.step {σ σ' : Sg} {h h' : LH} {w w' w0 : World} {s : Side} (pl : Placed P σ h w w0 s) (sim : Sim P fl σ h w) (t : Step fl σ h w σ' h' w') (hs' : Sim P fl σ' h' w') : Placed P σ' h' w' w0 s ∧ h'.get s.id = none := by
  obtain ⟨p, ob, e1, e2, e3, e4, e5⟩ := pl
  have hlt : p.blk < w.heap.size := (Array.getElem?_eq_some_iff.1 e2).1
  have hlast : ∀ id o q, h'.get id = some o → σ' id = some q → q.blk ≠ p.blk := fun id o q hg hq hb => by
    by_cases ho : Owned fl id o
    · rcases t.own id o q hg ho hq with hge | ⟨i0, o0, p0, g1, _, g3, g4⟩
      · omega
      · exact e5 i0 o0 p0 g1 g3 (g4.trans hb)
    · have hg0 := t.low id o hg ho
      obtain ⟨q0, _, a1, _⟩ := sim id o hg0
      have := t.ext id q0 a1
      rw [hq] at this; cases this
      exact e5 id o q hg0 a1 hb
  refine ⟨⟨p, ob, t.ext _ _ e1, ?_, OK.mono t.ext e3, e4, hlast⟩, ?_⟩
  · rw [t.frame p.blk hlt fun id o q hg _ hq hb => e5 id o q hg hq hb]; exact e2
  · cases hg : h'.get s.id with
    | none => rfl
    | some o' => exact absurd rfl (hlast s.id o' p hg (t.ext _ _ e1))

section
variable {ops : List Oper} {ms : List Nat} {pl : List Pl} {σ0 : Sg} {st0 : St} {w0 : World} {listed : Array Bool} {R : Nat} {T : Nat → RM LV} {sd : List Side} {st : St} {σ : Sg} {a : Act} {w : World}

theorem DI.act (hs : Good Φ) {cf cy : KF} (hcf : CfOk P Φ cf) (hcy : CyOk P Φ cy) (di : DI P ops ms pl σ0 st0 w0 listed R T sd st σ a w) (hm : masksOk ms ops 0 = true) (hpair : ∀ (i j : Nat) (p q : Pl), i < j → pl[i]? = some p → pl[j]? = some q → pairOk ops ms p q = true)
    {p : Pl} {o : Oper} (hp : pl[R]? = some p) (ho : ops[p.i]? = some o) (hnd : ¬ Dn listed p.i) (hk : p.k.isC = true) (he : ∀ e ∈ o.after.toList, Region.binds .any e = true → Dn listed e.on)
    {listed' : Array Bool} (hl : ∀ i, Dn listed' i ↔ i = p.i ∨ Dn listed i) (hsz : listed'.size = listed.size) {c' : St → Out}
    (H : Φ (guardL ops o.guard (st.setH (putSide ((ms[p.i]?).getD 0) sd st.h) st.nx)
        (fun st => opL P (cond p.k.isAct st.fl st.nx) cf cy (lev st.t) o.op st.h st.nx fun v h nx => St.put (st.setH h nx) o.dst v c')
        (fun st => st.put o.dst (.tup []) c')))
    {r : Option Nat} {Q : Exit → Act → World → Prop} {K : Act → World → Prop}
    (hK : ∀ T' st' σ' a' w', Φ (c' st') → DI P ops ms pl σ0 st0 w0 listed' (R + 1) T' (restSide ((ms[p.i]?).getD 0) sd) st' σ' a' w' → K a' w') :
    wpOpIn (wd r) 0 P ops.toArray Q p.i K a w := by
  obtain ⟨m, hmd⟩ : ∃ m, m = (ms[p.i]?).getD 0 := ⟨_, rfl⟩
  rw [← hmd] at H hK
  have hpre : ∀ j, Nat.testBit m j = true → Dn listed j := fun j hj => di.closed.pre hm p.i o ho he j (by unfold Pre; rw [← hmd]; exact hj)
  rw [putSide_eq] at H
  obtain ⟨l, hld⟩ : ∃ l, l = sd.filter fun s => Nat.testBit m s.i := ⟨_, rfl⟩
  rw [← hld] at H
  have hlm : ∀ s ∈ l, s ∈ sd ∧ Nat.testBit m s.i = true := fun s h => by
    rw [hld] at h
    exact List.mem_filter.1 h
  obtain ⟨sim1, in1⟩ := allSide_sound l st.h di.sim (fun s h => di.sdDone s (hlm s h).1 (hpre _ (hlm s h).2)) (fun s h s' h' => di.sdApart s (hlm s h).1 s' (hlm s' h').1) (by rw [hld]; exact di.nodup.filter _)
  have af1 := di.after.place in1 fun s h => ⟨di.sdDone s (hlm s h).1 (hpre _ (hlm s h).2), (di.sdId s (hlm s h).1).1, (di.sdId s (hlm s h).1).2.2.1⟩
  obtain ⟨h1, hh1⟩ : ∃ h1, h1 = allSide l st.h := ⟨_, rfl⟩
  rw [← hh1] at H sim1 in1 af1
  rw [restSide_eq] at hK
  obtain ⟨sd', hsd'⟩ : ∃ sd', sd' = sd.filter fun s => !Nat.testBit m s.i := ⟨_, rfl⟩
  rw [← hsd'] at hK
  have hsub : sd'.Sublist sd := by rw [hsd']; exact List.filter_sublist
  have hrm : ∀ s ∈ sd', s ∈ sd ∧ Nat.testBit m s.i = false := fun s h => by
    rw [hsd'] at h
    have := List.mem_filter.1 h
    simpa using this
  have hrest : ∀ s ∈ sd', Dn listed s.i → Placed P σ h1 w w0 s ∧ h1.get s.id = none := fun s h hd => by
    obtain ⟨q, ob, e1, e2, e3, e4, e5⟩ := di.sdDone s (hrm s h).1 hd
    have hlast : ∀ id o' q', h1.get id = some o' → σ id = some q' → q'.blk ≠ q.blk := fun id o' q' hg hq hb => by
      rcases in1 id o' hg with hg | ⟨s', hs', rfl, rfl⟩
      · exact e5 id o' q' hg hq hb
      · have := di.sdApart s' (hlm s' hs').1 s (hrm s h).1 q' q hq e1 hb
        subst this
        have h2 := (hlm s' hs').2
        rw [(hrm s' h).2] at h2; cases h2
    refine ⟨⟨q, ob, e1, e2, e3, e4, hlast⟩, ?_⟩
    cases hg : h1.get s.id with
    | none => rfl
    | some o' => exact absurd rfl (hlast s.id o' q hg e1)
  have hkeep : ∀ s ∈ sd, ¬ Dn listed s.i → s ∈ sd' := fun s h hn => by
    rw [hsd']
    refine List.mem_filter.2 ⟨h, ?_⟩
    cases hb : Nat.testBit m s.i with
    | true => exact absurd (hpre _ hb) hn
    | false => rfl
  have hread : RelOn σ st.t a.tmps (readsOf ops o) := (di.reads hm hpair (Nat.le_refl R) hp ho hnd he).congr di.tlast
  have ho' : ops.toArray[p.i]? = some o := by simpa using ho
  unfold wpOpIn
  simp only [ho']
  rcases guard_direct hs H with ⟨st1, H1, e1, g⟩ | ⟨st1, H1, e1, g⟩
  · rw [if_pos (g σ a.tmps hread)]
    have hev : ∀ x ∈ o.op.operands, VR σ (lev st1.t x) (a.eval x) := (hread.congr e1.t).lev
    have fr1 : Fr st1.fl σ st1.nx := by rw [e1.fl, e1.nx]; exact di.fr
    have s1 : Sim P st1.fl σ st1.h w := by rw [e1.fl, e1.h]; exact sim1
    have fin : ∀ v h' nx' σ' x w', Φ (St.put (st1.setH h' nx') o.dst v c') → VR σ' v x → Sim P st1.fl σ' h' w' → Fx st1.fl σ st1.nx σ' nx' → Step st1.fl σ st1.h w σ' h' w' →
        (p.k ≠ .act → ∀ h, View P σ h w → View P σ' h w') → K (a.put o.dst x) w' := fun v h' nx' σ' x w' hv k1 k2 k3 k4 hview => by
      obtain ⟨st2, H3, a1, a2, a3, a4, a5, a6, a7⟩ := put_direct hs hv
      have b1 : st2.h = h' := a1
      have b2 : st2.nx = nx' := a2
      have b3 : st2.nt = st.nt := a3.trans e1.nt
      have b4 : st2.ds = st.ds := a4.trans e1.ds
      have b5 : st2.fl = st.fl := a5.trans e1.fl
      have hf : st1.fl = st.fl := e1.fl
      have hx : st1.nx = st.nx := e1.nx
      have hh : st1.h = h1 := e1.h
      rw [hf, hh] at k4
      rw [hf] at k2
      rw [hf, hx] at k3
      refine hK _ st2 σ' _ w' H3 (di.acted hm hpair hp ho hnd hk he hl hsz k4.ext k3.2.2 (by rw [b2]; exact k3.2.1) b3 b4 b5 k1 (fun t => ?_) (fun t h => ?_) (by rw [b5, b1]; exact k2) (by rw [b5, b2]; exact k3.1) ?_ hview hsub hkeep fun s h hd => ?_)
      · rw [a6 t]
        show (if o.dst = some t then some v else st1.t.get t) = _
        rw [e1.t t]; rfl
      · have := a7 t h
        have hn : (st1.setH h' nx').nt = st.nt := e1.nt
        rw [hn] at this; exact this
      · have hstep : After σ (st.setH h1 st.nx) w σ' (st.setH h' nx') w' := ⟨k4, rfl, rfl, k3.2.1, k3.2.2⟩
        exact (af1.trans hstep).congr b1 b2 b5 b3
      · rw [b1]
        exact (hrest s h hd).1.step sim1 k4 k2
    cases hkk : p.k with
    | act =>
      rw [hkk] at H1
      simp only [PK.isAct, cond_true] at H1
      exact oper_sound hs hcf hcy H1 hev s1 fr1 fun v h' nx' σ' x w' hv k1 k2 k3 k4 => fin v h' nx' σ' x w' hv k1 k2 k3 k4 fun h => absurd hkk h
    | grow =>
      rw [hkk] at H1
      simp only [PK.isAct, cond_false] at H1
      refine oper_sound hs hcf hcy H1 hev (s1.floor fr1.1) ⟨Nat.le_refl _, fr1.2⟩ fun v h' nx' σ' x w' hv k1 k2 k3 k4 => ?_
      obtain ⟨⟨r1, r2, r3⟩, _⟩ := lift_step s1 fr1 k2 k3 k4
      refine fin v h' nx' σ' x w' hv k1 r1 r2 r3 fun _ h hv => hv.mono k4.ext fun b hb => k4.frame b hb fun id o' q hg hr hq => ?_
      have : σ id = none := fr1.2 id hr.1
      rw [this] at hq; cases hq
    | _ => rw [hkk] at hk; cases hk
  · rw [if_neg (by rw [g σ a.tmps hread]; simp)]
    refine ⟨fun _ _ => trivial, ?_⟩
    obtain ⟨st2, H3, a1, a2, a3, a4, a5, a6, a7⟩ := put_direct hs H1
    have b1 : st2.h = h1 := a1.trans e1.h
    have b2 : st2.nx = st.nx := a2.trans e1.nx
    have b3 : st2.nt = st.nt := a3.trans e1.nt
    have b4 : st2.ds = st.ds := a4.trans e1.ds
    have b5 : st2.fl = st.fl := a5.trans e1.fl
    refine hK _ st2 σ _ w H3 (di.acted hm hpair hp ho hnd hk he hl hsz (Ext.refl σ) (fun _ _ => rfl) (by rw [b2]; exact Nat.le_refl _) b3 b4 b5 VR.undef' (fun t => ?_) (fun t h => ?_) (by rw [b5, b1]; exact sim1) (by rw [b5, b2]; exact di.fr) (af1.congr b1 b2 b5 b3) (fun _ _ h => h) hsub hkeep fun s h hd => ?_)
    · rw [a6 t, e1.t t]; rfl
    · have := a7 t h
      have hn : st1.nt = st.nt := e1.nt
      rw [hn] at this; exact this
    · rw [b1]; exact hrest s h hd

theorem ready_all (hm : masksOk ms ops 0 = true) (hsz : listed.size = ops.length) (h : Region.ready .any ops.toArray listed = []) : ∀ i, i < ops.length → Dn listed i := by
  intro i
  induction i using Nat.strongRecOn with
  | _ i ih =>
    intro hi
    cases hd : listed.getD i false with
    | true => exact hd
    | false =>
      exfalso
      have hmem : i ∈ Region.ready .any ops.toArray listed := by
        have ho : ops[i]? = some (ops[i]'hi) := List.getElem?_eq_getElem hi
        obtain ⟨h1, _⟩ := masksOk_spec hm i _ ho
        refine List.mem_filter.2 ⟨by simp [hi], ?_⟩
        have h2 : listed.getD i true = false := by
          rw [← hd]
          simp [hsz, hi]
        rw [h2]
        have ho' : ops.toArray[i]? = some (ops[i]'hi) := by simp [hi]
        simp only [ho', Option.map_some, Option.getD_some, Bool.not_false, Bool.true_and]
        rw [← Array.all_toList, List.all_eq_true]
        intro e he
        cases hb : Region.binds .any e with
        | false => rfl
        | true =>
          have hlt := h1 e he hb
          have := ih e.on (by omega) (by omega)
          simpa [Dn] using this
      rw [h] at hmem; simp at hmem

theorem ready_mem {i : Nat} (hsz : listed.size = ops.length) (h : i ∈ Region.ready .any ops.toArray listed) : ∃ o, ops[i]? = some o ∧ ¬ Dn listed i ∧ ∀ e ∈ o.after.toList, Region.binds .any e = true → Dn listed e.on := by
  obtain ⟨h1, h2⟩ := List.mem_filter.1 h
  have hi : i < ops.length := by simpa using h1
  have ho : ops[i]? = some (ops[i]'hi) := List.getElem?_eq_getElem hi
  have ho' : ops.toArray[i]? = some (ops[i]'hi) := by simp [hi]
  rw [Bool.and_eq_true] at h2
  obtain ⟨h2, h3⟩ := h2
  refine ⟨_, ho, fun hd => ?_, fun e he hb => ?_⟩
  · have h4 : listed.getD i true = true := by
      unfold Dn at hd
      rw [← hd]
      simp [hsz, hi]
    rw [h4] at h2; cases h2
  · simp only [ho', Option.map_some, Option.getD_some] at h3
    rw [← Array.all_toList, List.all_eq_true] at h3
    have := h3 e he
    rw [hb] at this
    simpa [Dn] using this

theorem dn_set {i : Nat} (hi : i < listed.size) : ∀ j, Dn (listed.setIfInBounds i true) j ↔ j = i ∨ Dn listed j := fun j => by
  unfold Dn
  rw [Array.getD_eq_getD_getElem?, Array.getD_eq_getD_getElem?]
  by_cases e : i = j
  · subst e
    simp [hi]
  · rw [Array.getElem?_setIfInBounds_ne e]
    constructor
    · exact .inr
    · rintro (h | h)
      · exact absurd h.symm e
      · exact h

theorem not_defer {ρ : Operand → Value} {o : Oper} {w w' : World} {x : Value} (h : (execOp ρ o).run P w = .ok (.value x) w') : ∀ c, o.op ≠ .defer c := fun c e => by
  simp only [execOp, e, Sem.run_bind] at h
  cases hr : (resolve ρ c o.type).run P w <;> simp [hr] at h

def undone (listed : Array Bool) : Nat := listed.toList.countP fun b => !b
theorem undone_set {i : Nat} (hi : i < listed.size) (hd : ¬ Dn listed i) : undone (listed.setIfInBounds i true) + 1 = undone listed := by
  unfold undone
  rw [Array.toList_setIfInBounds, List.countP_set (by simpa using hi)]
  have hb : listed.toList[i]'(by simpa using hi) = false := by
    have : listed[i] = false := by
      unfold Dn at hd
      simp [hi] at hd
      exact hd
    simpa using this
  have hpos : 0 < listed.toList.countP fun b => !b := by
    rw [List.countP_pos_iff]
    exact ⟨_, List.getElem_mem (by simpa using hi), by rw [hb]; rfl⟩
  rw [hb]
  simp only [Bool.not_false, if_true, Bool.not_true, Bool.false_eq_true, if_false]
  omega
theorem undone_zero (h : undone listed = 0) : ∀ i, i < listed.size → Dn listed i := fun i hi => by
  unfold undone at h
  rw [List.countP_eq_zero] at h
  have := h (listed.toList[i]'(by simpa using hi)) (List.getElem_mem _)
  unfold Dn
  simp [hi]
  simpa using this
theorem ready_done (hsz : listed.size = ops.length) (h : ∀ i, i < ops.length → Dn listed i) : Region.ready .any ops.toArray listed = [] := by
  rw [List.eq_nil_iff_forall_not_mem]
  intro i hi
  obtain ⟨o, h1, h2, _⟩ := ready_mem hsz hi
  exact h2 (h i (List.getElem?_eq_some_iff.1 h1).1)

/-- all is done -/
theorem DI.fin (di : DI P ops ms pl σ0 st0 w0 listed R T sd st σ a w) (hdone : ∀ i, i < ops.length → Dn listed i) (hrev : ∀ p, pl[R]? = some p → p.k.isC = true ∧ ¬ Dn listed p.i) {cf cy : KF} {c : St → Out}
    (H : Φ (dL P cf cy ops ms (pl.drop R) sd st c)) : ∃ st', Φ (c st') ∧ SR P σ st' a w ∧ After σ0 st0 w0 σ st' w := by
  have hR : pl.length ≤ R := by
    rcases Nat.lt_or_ge R pl.length with h | h
    · obtain ⟨p, hp⟩ : ∃ p, pl[R]? = some p := ⟨_, List.getElem?_eq_getElem h⟩
      obtain ⟨o, ho⟩ := di.plin p (List.mem_of_getElem? hp)
      exact absurd (hdone p.i (List.getElem?_eq_some_iff.1 ho).1) (hrev p hp).2
    · exact h
  rw [List.drop_eq_nil_of_le hR] at H
  simp only [dL] at H
  have hd : ∀ s ∈ sd, Dn listed s.i := fun s hs => by
    obtain ⟨q, p, _, h1, h2, _⟩ := di.sdAl s hs
    obtain ⟨o, ho⟩ := di.plin p (List.mem_of_getElem? h1)
    rw [← h2]
    exact hdone p.i (List.getElem?_eq_some_iff.1 ho).1
  obtain ⟨sim1, in1⟩ := allSide_sound sd st.h di.sim (fun s h => di.sdDone s h (hd s h)) di.sdApart di.nodup
  have af1 := di.after.place in1 fun s h => ⟨di.sdDone s h (hd s h), (di.sdId s h).1, (di.sdId s h).2.2.1⟩
  refine ⟨_, H, ⟨sim1, di.fr, di.nt, fun i v hv => ?_, di.ds⟩, af1⟩
  refine di.slots R (Nat.le_refl _) i (fun q p o h1 h2 h3 => ⟨fun _ => hdone p.i (List.getElem?_eq_some_iff.1 h2).1, fun _ => di.sub q p h1 (hdone p.i (List.getElem?_eq_some_iff.1 h2).1)⟩) v ?_
  rw [← di.tlast]; exact hv

theorem any_sound (hs : Good Φ) {cf cy : KF} (hcf : CfOk P Φ cf) (hcy : CyOk P Φ cy) (hm : masksOk ms ops 0 = true) (hpair : ∀ (i j : Nat) (p q : Pl), i < j → pl[i]? = some p → pl[j]? = some q → pairOk ops ms p q = true)
    (hall : ∀ i, i < ops.length → ∃ (k : Nat) (p : Pl), pl[k]? = some p ∧ p.i = i) {c : St → Out} {r : Option Nat} {Q : Exit → Act → World → Prop}
    (hQ : ∀ st' σ' a' w', Φ (c st') → SR P σ' st' a' w' → After σ0 st0 w0 σ' st' w' → Q .normal a' w') :
    ∀ (n : Nat) (listed : Array Bool) (R : Nat) (T : Nat → RM LV) (sd : List Side) (st : St) (σ : Sg) (a : Act) (w : World), undone listed ≤ n → DI P ops ms pl σ0 st0 w0 listed R T sd st σ a w →
      (∀ p, pl[R]? = some p → p.k.isC = true ∧ ¬ Dn listed p.i) → Φ (dL P cf cy ops ms (pl.drop R) sd st c) → wpAnyIn (wd r) 0 P .any ops.toArray Q n listed a w
  | 0, listed, R, T, sd, st, σ, a, w, hn, di, hrev, H => by
    have hdone : ∀ i, i < ops.length → Dn listed i := fun i hi => undone_zero (by omega) i (by rw [di.lsz]; exact hi)
    obtain ⟨st', h1, h2, h3⟩ := di.fin hdone hrev H
    exact ⟨ready_done di.lsz hdone, hQ st' σ a w h1 h2 h3⟩
  | n + 1, listed, R, T, sd, st, σ, a, w, hn, di, hrev, H => by
    refine ⟨fun hr => ?_, fun i hi => ?_⟩
    · obtain ⟨st', h1, h2, h3⟩ := di.fin (ready_all hm di.lsz hr) hrev H
      exact hQ st' σ a w h1 h2 h3
    · obtain ⟨o, ho, hnd, he⟩ := ready_mem di.lsz hi
      have hi' : i < ops.length := (List.getElem?_eq_some_iff.1 ho).1
      have hil : i < listed.size := by rw [di.lsz]; exact hi'
      obtain ⟨q, p, hp, rfl⟩ := hall i hi'
      have hl := dn_set (listed := listed) hil
      have hsz : (listed.setIfInBounds p.i true).size = listed.size := by simp
      have hun := undone_set (listed := listed) hil hnd
      have ho' : ops.toArray[p.i]? = some o := by simpa using ho
      rcases Nat.lt_or_ge q R with hq | hq
      · -- a floating operation that waited
        have hkc : p.k.isC = false := by
          cases hc : p.k.isC with
          | false => rfl
          | true => exact absurd (di.acts q p hq hp hc) hnd
        have hread := di.reads hm hpair (Nat.le_of_lt hq) hp ho hnd he
        have hrev' : ∀ p', pl[R]? = some p' → p'.k.isC = true ∧ ¬ Dn (listed.setIfInBounds p.i true) p'.i := fun p' hp' => by
          refine ⟨(hrev p' hp').1, fun hd => ?_⟩
          rcases (hl _).1 hd with h | h
          · exact (pairOk_spec (hpair q R p p' hq hp hp')).1 h.symm
          · exact (hrev p' hp').2 h
        unfold wpOpIn
        simp only [ho']
        by_cases hka : p.k = .al
        · rcases di.pendA q p o hq hp ho hnd hka with ⟨g, hno, ht⟩ | ⟨g, v, s, hsm, hsi, ht, key⟩
          · rw [if_neg (by rw [g σ a.tmps hread]; simp)]
            refine ⟨fun _ _ => trivial, ?_⟩
            have := di.floatF hm hpair hq hp ho hnd he hno VR.undef' ht hl hsz
            exact any_sound hs hcf hcy hm hpair hall hQ n _ R T sd st _ _ _ (by omega) this hrev' H
          · rw [if_pos (g σ a.tmps hread)]
            obtain ⟨x, ob, pp, k1, k2, k3, k4⟩ := key σ w a.eval hread.lev (di.sdWait s hsm (by rw [hsi]; exact hnd))
            have := di.floatA hm hpair hq hp ho hnd he hka hsm hsi k2 k4 k3 ht hl hsz
            refine ⟨fun _ _ => trivial, ?_⟩
            rw [Oper.semAt_eq _ _ _ (not_defer k1), k1]
            exact any_sound hs hcf hcy hm hpair hall hQ n _ R T sd st _ _ _ (by omega) this hrev' H
        · have hno : ∀ s ∈ sd, s.i ≠ p.i := fun s hs' hi => by
            obtain ⟨q', p', _, h1, h2, h3⟩ := di.sdAl s hs'
            have hqq : q' = q := by
              rcases Nat.lt_trichotomy q' q with h | h | h
              · exact absurd (h2.trans hi) (pairOk_spec (hpair q' q p' p h h1 hp)).1
              · exact h
              · exact absurd (h2.trans hi).symm (pairOk_spec (hpair q q' p p' h hp h1)).1
            subst hqq
            rw [hp] at h1; cases h1
            exact hka h3
          rcases di.pendF q p o hq hp ho hnd hka with ⟨g, ht⟩ | ⟨g, v, h, _, ht, hv, key⟩
          · rw [if_neg (by rw [g σ a.tmps hread]; simp)]
            refine ⟨fun _ _ => trivial, ?_⟩
            have := di.floatF hm hpair hq hp ho hnd he hno VR.undef' ht hl hsz
            exact any_sound hs hcf hcy hm hpair hall hQ n _ R T sd st _ _ _ (by omega) this hrev' H
          · rw [if_pos (g σ a.tmps hread)]
            obtain ⟨f, sv⟩ := hv
            obtain ⟨x, k1, k2⟩ := key f σ w a.eval hread.lev sv
            have := di.floatF hm hpair hq hp ho hnd he hno k2 ht hl hsz
            refine ⟨fun _ _ => trivial, ?_⟩
            rw [Oper.semAt_eq _ _ _ (not_defer k1), k1]
            exact any_sound hs hcf hcy hm hpair hall hQ n _ R T sd st _ _ _ (by omega) this hrev' H
      · -- the acting operation
        have hRl : R < pl.length := by
          have := (List.getElem?_eq_some_iff.1 hp).1
          omega
        obtain ⟨pR, hpR⟩ : ∃ p, pl[R]? = some p := ⟨_, List.getElem?_eq_getElem hRl⟩
        obtain ⟨hkc, hndR⟩ := hrev pR hpR
        have hqR : q = R := by
          rcases Nat.lt_or_ge R q with h | h
          · exfalso
            obtain ⟨_, hc⟩ := pairOk_spec (hpair R q pR p h hpR hp)
            rcases hc with hc | ⟨_, hc⟩
            · exact hndR (di.closed.pre hm p.i o ho he pR.i hc)
            · rcases hc with hc | hc | ⟨hc, _⟩ <;> (rw [hc] at hkc; cases hkc)
          · omega
        subst hqR
        rw [hp] at hpR; cases hpR
        have hdrop : pl.drop q = p :: pl.drop (q + 1) := by
          rw [List.drop_eq_getElem_cons hRl]
          congr 1
          exact (List.getElem?_eq_some_iff.1 hp).2
        rw [hdrop] at H
        have H' : Φ (guardL ops o.guard (st.setH (putSide ((ms[p.i]?).getD 0) sd st.h) st.nx)
            (fun st => opL P (cond p.k.isAct st.fl st.nx) cf cy (lev st.t) o.op st.h st.nx fun v h nx => St.put (st.setH h nx) o.dst v fun st => dL P cf cy ops ms (pl.drop (q + 1)) (restSide ((ms[p.i]?).getD 0) sd) st c)
            (fun st => st.put o.dst (.tup []) fun st => dL P cf cy ops ms (pl.drop (q + 1)) (restSide ((ms[p.i]?).getD 0) sd) st c)) := by
          simp only [dL, ho] at H
          cases hk : p.k with
          | act => rw [hk] at H; exact H
          | grow => rw [hk] at H; exact H
          | _ => rw [hk] at hkc; cases hkc
        refine di.act hs hcf hcy hm hpair hp ho hnd hkc he hl hsz H' fun T' st' σ' a' w' h1 h2 => ?_
        obtain ⟨R2, T2, sd2, st2, d1, d2, d3⟩ := advance hs hpair _ _ _ _ _ rfl h2 h1
        exact any_sound hs hcf hcy hm hpair hall hQ n _ R2 T2 sd2 st2 _ _ _ (by omega) d1 d2 d3
end

/-- **A DRAWN REGION: WHATEVER ORDER IS DRAWN, IT COMES TO WHAT THE PLAN COMES TO.** -/
theorem drawL_sound (hs : Good Φ) {cf cy : KF} (hcf : CfOk P Φ cf) (hcy : CyOk P Φ cy) {ops : List Oper} {st : St} {c : St → Out} (H : Φ (drawL P cf cy ops st c)) {σ : Sg} {a : Act} {w : World} (s : SR P σ st a w) {r : Option Nat} {Q : Exit → Act → World → Prop}
    (hQ : ∀ st' σ' a' w', Φ (c st') → SR P σ' st' a' w' → After σ st w σ' st' w' → Q .normal a' w') : wpAnyIn (wd r) 0 P .any ops.toArray Q ops.toArray.size (Array.replicate ops.toArray.size false) a { w with drawn := w.drawn + 1 } := by
  unfold drawL at H
  obtain ⟨hp, H⟩ := of_cond hs H
  generalize planOf ops (preM ops []) = pl at hp H
  generalize preM ops [] = ms at hp H
  unfold planOk at hp
  obtain ⟨hm, hp⟩ := of_condF hp
  obtain ⟨hpl, hall⟩ := of_condF hp
  obtain ⟨hlin, hpair⟩ := plOk_spec hpl
  have hall' := fun i hi => allIn_spec (pl := pl) (n := ops.length) hall i hi
  have hnd : ∀ i, ¬ Dn (Array.replicate ops.toArray.size false) i := fun i h => by
    unfold Dn at h
    rw [Array.getD_eq_getD_getElem?, Array.getElem?_replicate] at h
    split at h <;> simp at h
  have di : DI P ops ms pl σ st w (Array.replicate ops.toArray.size false) 0 (fun _ => st.t) [] st σ a { w with drawn := w.drawn + 1 } := {
    closed := fun i o _ hd => absurd hd (hnd i)
    lsz := by simp
    rle := Nat.zero_le _
    plin := hlin
    acts := fun q p h => absurd h (Nat.not_lt_zero _)
    sub := fun q p _ h => absurd h (hnd _)
    tlast := fun _ => rfl
    tstep := fun q p o h => absurd h (Nat.not_lt_zero _)
    slots := fun k _ t _ v hv => s.tr t v hv
    pendF := fun q p o h => absurd h (Nat.not_lt_zero _)
    pendA := fun q p o h => absurd h (Nat.not_lt_zero _)
    nodup := List.nodup_nil
    sdNew := fun s h => absurd h (by simp)
    sdId := fun s h => absurd h (by simp)
    sdOne := fun s h => absurd h (by simp)
    sdDone := fun s h => absurd h (by simp)
    sdApart := fun s h => absurd h (by simp)
    sdWait := fun s h => absurd h (by simp)
    dst := fun i o d _ ⟨q, p, h, _⟩ => absurd h (Nat.not_lt_zero _)
    sim := s.sim
    fr := s.fr
    nt := s.nt
    ds := s.ds
    sdAl := fun s h => absurd h (by simp)
    after := ⟨⟨Ext.refl _, rfl, rfl, rfl, Nat.le_refl _, fun _ _ _ => rfl, fun id o p h1 h2 h3 => .inr ⟨id, o, p, h1, h2, h3, rfl⟩, fun _ _ h _ => h⟩, rfl, rfl, Nat.le_refl _, fun _ _ => rfl⟩ }
  obtain ⟨R2, T2, sd2, st2, d1, d2, d3⟩ := advance hs hpair _ _ _ _ _ rfl di (by simpa using H)
  refine any_sound hs hcf hcy hm hpair hall' hQ _ _ R2 T2 sd2 st2 σ a _ ?_ d1 d2 d3
  unfold undone
  refine Nat.le_trans List.countP_le_length ?_
  simp
end Go.Proofs.Ytigilihpofafoaa.Loc
