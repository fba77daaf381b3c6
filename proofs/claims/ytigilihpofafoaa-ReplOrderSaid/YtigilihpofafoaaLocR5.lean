/- The small machine of local values: its operations tell what the model's do. Part 8: all operations but calls of functions. -/
import Derived.Test.YtigilihpofafoaaLocR4
import Derived.Test.YtigilihpofafoaaLocR6
namespace Go.Proofs.Ytigilihpofafoaa.Loc
open Go
set_option linter.unusedVariables false
set_option linter.unusedSimpArgs false
set_option linter.unusedSectionVars false
variable [En]
variable {P : Program} {Φ : Out → Prop} {fl : Nat}

theorem lenL_sound (hs : Good Φ) {t : TypeId} {x : LV} {c : LV → Out} (H : Φ (lenL P t x c)) :
    ∃ v, Φ (c v) ∧ ∀ σ w a ts ty, ts[0]? = some t → VR σ x a → ∃ z, (Builtin.len_ ts ty #[a]).run P w = .ok z w ∧ VR σ v z := by
  unfold lenL at H
  split at H
  · rename_i hu
    refine ⟨_, H, fun σ w a ts ty ht ha => ?_⟩
    simp only [VR] at ha
    obtain ⟨p, hp, h1, h2, h3⟩ := ha
    rcases h3 with rfl | ⟨rfl, _, _, A, rfl⟩
    · exact ⟨_, by simp [Builtin.len_, ht, run_underlying hu]; rfl, by simp [VR, goInt]⟩
    · exact ⟨_, by simp [Builtin.len_, ht, run_underlying hu]; rfl, by simp [VR, goInt]⟩
  · rename_i hu
    refine ⟨_, H, fun σ w a ts ty ht ha => ?_⟩
    simp only [VR] at ha
    obtain ⟨p, hp, h1, h2, h3⟩ := ha
    rcases h3 with rfl | ⟨rfl, rfl, A, rfl⟩
    · exact ⟨_, by simp [Builtin.len_, ht, run_underlying hu]; rfl, by simp [VR, goInt]⟩
    · exact ⟨_, by simp [Builtin.len_, ht, run_underlying hu]; rfl, by simp [VR, goInt]⟩
  · rename_i hu
    refine ⟨_, H, fun σ w a ts ty ht ha => ?_⟩
    simp only [VR] at ha; subst ha
    exact ⟨_, by simp [Builtin.len_, ht, run_underlying hu]; rfl, by simp [VR, goInt]⟩
  · rename_i hu
    refine ⟨_, H, fun σ w a ts ty ht ha => ?_⟩
    simp only [VR] at ha
    rcases ha with ⟨p, _, hn, cp, _, rfl⟩ | ⟨hz, A, cp, rfl⟩
    · exact ⟨_, by simp [Builtin.len_, ht, run_underlying hu]; rfl, VR_mkI (by rw [hn])⟩
    · exact ⟨_, by simp [Builtin.len_, ht, run_underlying hu]; rfl, VR_mkI (by rw [hz])⟩
  · rename_i hu
    refine ⟨_, H, fun σ w a ts ty ht ha => ?_⟩
    simp only [VR] at ha; subst ha
    exact ⟨_, by simp [Builtin.len_, ht, run_underlying hu]; rfl, by simp [VR, goInt]⟩
  · rename_i hu
    refine ⟨_, H, fun σ w a ts ty ht ha => ?_⟩
    exact ⟨_, by simp [Builtin.len_, ht, run_underlying hu]; rfl, by simp [VR, goInt]⟩
  · exact absurd H (hs _)

/-- what an operation did -/
def Eff (P : Program) (fl : Nat) (σ : Sg) (h : LH) (nx : Nat) (w : World) (r : Result Next) (v : LV) (h' : LH) (nx' : Nat) : Prop :=
  ∃ x w' σ', (r = .ok (.value x) w' ∨ (r = .ok .skip w' ∧ x = undef)) ∧ VR σ' v x ∧ Sim P fl σ' h' w' ∧ Fx fl σ nx σ' nx' ∧ Step fl σ h w σ' h' w'

def Op.plain : Op → Bool
  | .call cl => match cl.callee with
    | .builtin _ => true
    | _ => false
  | _ => true

theorem Eff.pure {σ : Sg} {h : LH} {w : World} {nx : Nat} {r : Result Next} {v : LV} (s : Sim P fl σ h w) (f : Fr fl σ nx) {x : Value} (hr : r = .ok (.value x) w) (hv : VR σ v x) : Eff P fl σ h nx w r v h nx :=
  ⟨x, w, σ, .inl hr, hv, s, f.fx, Step.refl⟩
theorem VRs.map {σ : Sg} {ev : Operand → LV} {ρ : Operand → Value} : ∀ {l : List Operand}, (∀ x ∈ l, VR σ (ev x) (ρ x)) → VRs σ (l.map ev) (l.map ρ)
  | [], _ => by simp [VRs]
  | a :: l, h => VRs.cons (h a (by simp)) (VRs.map fun x hx => h x (by simp [hx]))
theorem VRs.oneArg {σ : Sg} {ev : Operand → LV} {ρ : Operand → Value} : ∀ {l : List Operand}, (∀ x ∈ l, VR σ (ev x) (ρ x)) → VRs σ (Loc.oneArg ev l) (l.map ρ)
  | [], _ => by simp [VRs, Loc.oneArg]
  | a :: l, h => VRs.cons (h a (by simp)) (VRs.oneArg fun x hx => h x (by simp [hx]))
theorem VRp.map {σ : Sg} {ev : Operand → LV} {ρ : Operand → Value} : ∀ {l : List (Nat × Operand)}, (∀ x ∈ l, VR σ (ev x.2) (ρ x.2)) → VRp σ (l.map fun p => (p.1, ev p.2)) (l.map fun p => (p.1, ρ p.2))
  | [], _ => by simp [VRp]
  | a :: l, h => ⟨_, _, rfl, h a (by simp), VRp.map fun x hx => h x (by simp [hx])⟩
theorem VRo.map {σ : Sg} {ev : Operand → LV} {ρ : Operand → Value} {o : Option Operand} (h : ∀ x, o = some x → VR σ (ev x) (ρ x)) : VRo σ (lopt ev o) (o.map ρ) := by
  cases o with
  | none => simp [VRo, lopt]
  | some x => exact ⟨_, rfl, h x rfl⟩

theorem minN_eq (a b : Nat) : minN a b = Nat.min a b := by
  unfold minN
  cases h : Nat.ble a b with
  | true => have := Nat.le_of_ble_eq_true h; show a = min a b; omega
  | false =>
    have : ¬ a ≤ b := fun h' => by rw [Nat.ble_eq_true_of_le h'] at h; cases h
    show b = min a b; omega
theorem takeEls_sound {σ : Sg} {src : Nat → List LV} {news : List Value} : ∀ (k i : Nat), i + k ≤ news.length → (∀ j, j < news.length → VRs σ (src j) (chunkL news 1 j)) → VRs σ (takeEls src i k) ((news.drop i).take k)
  | 0, i, _, _ => by simp [takeEls, VRs]
  | k + 1, i, hle, h => by
    have h1 := h i (by omega)
    have h2 := takeEls_sound k (i + 1) (by omega) h
    have e : (news.drop i).take (k + 1) = chunkL news 1 i ++ (news.drop (i + 1)).take k := by
      rw [chunkL, Nat.mul_one, show k + 1 = 1 + k by omega, List.take_add, List.drop_drop]
    rw [e]
    exact VRs.append h1 h2
theorem copyL_sound (hs : Good Φ) {t : TypeId} {s x : LV} {h : LH} {nx : Nat} {c : KV} (H : Φ (copyL P fl t s x h nx c)) :
    ∃ v h' nx', Φ (c v h' nx') ∧ ∀ σ w a b t2 ty, VR σ s a → VR σ x b → Sim P fl σ h w → Fr fl σ nx → Eff P fl σ h nx w ((do pure (.value (← Builtin.copy_ #[t, t2] ty #[a, b])) : Sem Next).run P w) v h' nx' := by
  unfold copyL at H
  split at H
  rotate_left
  · exact absurd H (hs _)
  rename_i e hu
  split at H
  rotate_left
  · exact absurd H (hs _)
  rename_i hz
  have hz' : (P.info? e).map (·.size) = some 1 := hz
  obtain ⟨m, src, H, hsrc⟩ := srcL_sound (fl := fl) hs hz (by omega) H
  split at H
  rotate_left
  · exact absurd H (hs _)
  rename_i id off es n cap _
  rw [minN_eq] at H
  cases h0 : Nat.beq (Nat.min m n) 0 with
  | true =>
    rw [h0] at H
    rw [beq_t] at h0
    refine ⟨_, _, _, H, fun σ w a b t2 ty ha hb sim f => ?_⟩
    have hd : ∃ d c, a = .slice d n c := by
      simp only [VR] at ha
      obtain ⟨p, hp, h0, hnc, ha⟩ := ha
      rcases ha with rfl | ⟨rfl, rfl, A, rfl⟩ <;> exact ⟨_, _, rfl⟩
    have hsr : ∃ d c, b = .slice d m c := by
      rcases hsrc σ w b hb sim with ⟨rfl, rfl⟩ | ⟨a, cc, _, rfl, _⟩ <;> exact ⟨_, _, rfl⟩
    obtain ⟨d, dc, rfl⟩ := hd
    obtain ⟨d2, dc2, rfl⟩ := hsr
    have hr := run_copy_none (P := P) w t t2 ty e d d2 n dc m dc2 hu hz' h0
    exact Eff.pure sim f (x := goInt 0) (by simp only [Sem.run_bind, hr, Result.andThen_ok, Sem.run_pure]) (by simp [VR, goInt])
  | false =>
    rw [h0] at H
    rw [beq_f] at h0
    have H1 := of_cond hs H
    clear H
    obtain ⟨hc, H⟩ := H1
    obtain ⟨hes, hfl⟩ := of_condF' hc
    rw [beq_t] at hes
    rw [Nat.ble_eq] at hfl
    split at H
    rotate_left
    · exact absurd H (hs _)
    rename_i cs el ho
    have H1 := of_cond hs H
    clear H
    obtain ⟨hr, H⟩ := H1
    rw [Nat.ble_eq, llen_eq] at hr
    refine ⟨_, _, _, H, fun σ w a b t2 ty ha hb sim f => ?_⟩
    simp only [VR] at ha
    obtain ⟨p, hp, hpn, hnc, ha⟩ := ha
    have hmin : 0 < Nat.min m n := Nat.pos_of_ne_zero h0
    have hm : Nat.min m n ≤ m := Nat.min_le_left _ _
    have hn : Nat.min m n ≤ n := Nat.min_le_right _ _
    rcases ha with rfl | ⟨hn0, _⟩
    rotate_left
    · omega
    rcases hsrc σ w b hb sim with ⟨rfl, _⟩ | ⟨a, cc, news, rfl, hlen, hcell, hone, hel⟩
    · omega
    rw [Nat.mul_one] at hlen
    obtain ⟨p', ob, h1, h2, h3, _⟩ := sim id _ ho
    rw [hp] at h1; cases h1
    obtain ⟨g1, g2, xs, el', rfl, g3, g4⟩ := h3
    have hl : (news.take (Nat.min m n)).length = Nat.min m n := by rw [List.length_take]; omega
    have hxl : xs.length = cs.length := g3.length
    have hrun := run_copy_cells (P := P) w t t2 ty e p.blk off n cap a m cc (news.take (Nat.min m n)) hu hz' hl
      (fun j v hv => hcell j v (by
        have : j < Nat.min m n := by have := (List.getElem?_eq_some_iff.1 hv).1; omega
        rwa [List.getElem?_take_of_lt this] at hv))
      (fun j hj => by rw [cell?_cells h2]; have : off + j < xs.length := by omega
                      simp [this])
      (fun j hj => frozen?_cells h2) (fun v hv => hone v (List.mem_of_mem_take hv))
    obtain ⟨q1, q2, q3, q4, q5, q6⟩ := setCells_heap p.blk (news.take (Nat.min m n)) off w xs.toArray el' (0, 0) h2 (by rw [hl]; show off + _ ≤ xs.length; omega)
    have hte := takeEls_sound (σ := σ) (src := src) (news := news) (Nat.min m n) 0 (by omega) (fun j hj => hel j (by omega))
    rw [List.drop_zero] at hte
    have hput : VRs σ (lput cs off (takeEls src 0 (Nat.min m n))) (ov xs off (news.take (Nat.min m n))) := VRs.lput g3 hte (n := off) (by
      have e1 := hte.length
      rw [hl] at e1
      rw [← e1]; exact hr)
    obtain ⟨r1, r2⟩ := sim.put (o' := .var (lput cs off (takeEls src 0 (Nat.min m n))) el) ho ⟨hfl, rfl⟩ rfl hp q2 q3 q1 q4 q5 q6 ⟨g1, g2, _, el', rfl, hput, fun x hx => by
      rcases ov_mem (l := xs) (by simpa using hx) with hx | hx
      · exact g4 x hx
      · exact hone x (List.mem_of_mem_take hx)⟩
    have hpa : plAddr p 0 off = ⟨p.blk, off, none⟩ := by simp [plAddr, g1]
    refine ⟨goInt (Nat.min m n), w.setCells p.blk off (news.take (Nat.min m n)), σ, .inl ?_, by simp [VR, goInt], r1, f.fx, r2⟩
    rw [hpa]
    simp only [Sem.run_bind, hrun, Result.andThen_ok, Sem.run_pure, hl]
theorem builtinL_sound (hs : Good Φ) {b : Builtin} {ts : List TypeId} {args : List LV} {h : LH} {nx : Nat} {c : KV} (H : Φ (builtinL P fl b ts args h nx c)) :
    ∃ v h' nx', Φ (c v h' nx') ∧ ∀ σ w (vals : List Value) ty consts, VRs σ args vals → Sim P fl σ h w → Fr fl σ nx → Eff P fl σ h nx w ((builtin b ts.toArray ty consts vals.toArray).run P w) v h' nx' := by
  unfold builtinL at H
  split at H
  · rename_i t ts x
    obtain ⟨v, hv, key⟩ := lenL_sound hs H
    refine ⟨v, h, nx, hv, fun σ w vals ty consts hvs s f => ?_⟩
    obtain ⟨a, l, rfl, ha, hl⟩ := hvs
    simp only [VRs] at hl; subst hl
    obtain ⟨z, k1, k2⟩ := key σ w a (t :: ts).toArray ty (by simp) ha
    exact Eff.pure s f (by simp only [builtin, Sem.run_bind, k1, Result.andThen_ok, Sem.run_pure]) k2
  · rename_i t t2 sv x
    obtain ⟨v, h', nx', hv, key⟩ := copyL_sound hs H
    refine ⟨v, h', nx', hv, fun σ w vals ty consts hvs s f => ?_⟩
    obtain ⟨a, l, rfl, ha, hl⟩ := hvs
    obtain ⟨b, l, rfl, hb, hl⟩ := hl
    simp only [VRs] at hl; subst hl
    exact key σ w a b t2 ty ha hb s f
  · rename_i t t' sv x
    obtain ⟨ht, H⟩ := of_cond hs H
    rw [beq_t] at ht
    obtain ⟨v, h', nx', hv, key⟩ := appendL_sound hs H
    refine ⟨v, h', nx', hv, fun σ w vals ty consts hvs s f => ?_⟩
    obtain ⟨a, l, rfl, ha, hl⟩ := hvs
    obtain ⟨b, l, rfl, hb, hl⟩ := hl
    simp only [VRs] at hl; subst hl
    obtain ⟨z, w', σ', k1, k2, k3, k4, k5⟩ := key σ w a b ty ha hb s f
    rw [← ht]
    exact ⟨z, w', σ', .inl (by simp only [builtin, Sem.run_bind, k1, Result.andThen_ok, Sem.run_pure]), k2, k3, k4, k5⟩
  · exact absurd H (hs _)

theorem op_sound (hs : Good Φ) {cf cy : KF} {ev : Operand → LV} {op : Op} {h : LH} {nx : Nat} {c : KV} (hp : Op.plain op = true) (H : Φ (opL P fl cf cy ev op h nx c)) :
    ∃ v h' nx', Φ (c v h' nx') ∧ ∀ σ w (ρ : Operand → Value) (o : Oper), o.op = op → (∀ x ∈ op.operands, VR σ (ev x) (ρ x)) → Sim P fl σ h w → Fr fl σ nx → Eff P fl σ h nx w ((execOp ρ o).run P w) v h' nx' := by
  cases op with
  | call cl =>
    obtain ⟨callee, args, ats⟩ := cl
    cases callee with
    | builtin b =>
      obtain ⟨v, h', nx', hv, key⟩ := builtinL_sound hs H
      refine ⟨v, h', nx', hv, fun σ w ρ o ho hx s f => ?_⟩
      have hargs : VRs σ (oneArg ev args.toList) (args.map ρ).toList := by
        rw [Array.toList_map]
        exact VRs.oneArg fun x hx' => hx x (by simp only [Op.operands, Call.operands]; simpa using hx')
      have := fun consts => key σ w _ o.type consts hargs s f
      simp only [Array.toArray_toList] at this
      simp only [execOp, ho, resolve, invoke, Sem.run_bind, Sem.run_pure, Result.andThen_ok]
      exact this _
    | _ => cases hp
  | move x =>
    refine ⟨_, _, _, H, fun σ w ρ o ho hx s f => Eff.pure s f (x := ρ x) ?_ (hx x (by simp [Op.operands]))⟩
    simp [execOp, ho]
  | assign x =>
    refine ⟨_, _, _, H, fun σ w ρ o ho hx s f => Eff.pure s f (x := ρ x) ?_ (hx x (by simp [Op.operands]))⟩
    simp [execOp, ho]
  | pick b x y =>
    simp only [opL, opB] at H
    cases hb : ev b with
    | bool q =>
      simp only [hb] at H
      cases q with
      | true =>
        refine ⟨_, _, _, H, fun σ w ρ o ho hx s f => Eff.pure s f (x := ρ x) ?_ (hx x (by simp [Op.operands]))⟩
        have := hx b (by simp [Op.operands])
        rw [hb] at this; simp only [VR] at this
        simp [execOp, ho, this, asBool]
      | false =>
        refine ⟨_, _, _, H, fun σ w ρ o ho hx s f => Eff.pure s f (x := ρ y) ?_ (hx y (by simp [Op.operands]))⟩
        have := hx b (by simp [Op.operands])
        rw [hb] at this; simp only [VR] at this
        simp [execOp, ho, this, asBool]
    | sbl q =>
      simp only [hb] at H
      rcases of_br hs H with ⟨hq, H⟩ | ⟨hq, H⟩
      · refine ⟨_, _, _, H, fun σ w ρ o ho hx s f => Eff.pure s f (x := ρ x) ?_ (hx x (by simp [Op.operands]))⟩
        have := hx b (by simp [Op.operands])
        rw [hb] at this; simp only [VR, hq] at this
        simp [execOp, ho, this, asBool]
      · refine ⟨_, _, _, H, fun σ w ρ o ho hx s f => Eff.pure s f (x := ρ y) ?_ (hx y (by simp [Op.operands]))⟩
        have := hx b (by simp [Op.operands])
        rw [hb] at this; simp only [VR, hq] at this
        simp [execOp, ho, this, asBool]
    | _ => simp only [hb] at H; exact absurd H (hs _)
  | makeMap t r =>
    cases r with
    | none =>
      simp only [opL, opB] at H
      refine ⟨_, _, _, H, fun σ w ρ o ho hx s f => ?_⟩
      obtain ⟨n1, n2, n3⟩ := s.new (w' := w.alloc (.map #[] 0)) f (o := .map []) (ob := .map #[] 0) (p := ⟨w.heap.size, 0, 0, 0, 0⟩) rfl rfl rfl rfl rfl rfl ⟨#[], 0, rfl, rfl⟩
      exact ⟨.map (some w.heap.size), _, _, .inl (by simp [execOp, ho, Instr.makeMap]), ⟨_, upd_same, rfl⟩, n1, n2, n3⟩
    | some x => exact absurd H (hs _)
  | lookup t x i b =>
    simp only [opL, opB] at H
    obtain ⟨v, hv, key⟩ := lookupL_sound hs H
    refine ⟨v, h, nx, hv, fun σ w ρ o ho hx s f => ?_⟩
    obtain ⟨z, k1, k2⟩ := key σ w (ρ x) (ρ i) (hx x (by simp [Op.operands])) (hx i (by simp [Op.operands])) s
    exact Eff.pure s f (by simp only [execOp, ho, Sem.run_bind, k1, Result.andThen_ok, Sem.run_pure]) k2
  | insert t m k u =>
    simp only [opL, opB] at H
    obtain ⟨h', hv, key⟩ := insertL_sound hs H
    refine ⟨_, h', nx, hv, fun σ w ρ o ho hx s f => ?_⟩
    obtain ⟨w', k1, k2, k3⟩ := key σ w (ρ m) (ρ k) (ρ u) (hx m (by simp [Op.operands])) (hx k (by simp [Op.operands])) (hx u (by simp [Op.operands])) s
    exact ⟨undef, w', σ, .inr ⟨by simp only [execOp, ho, Sem.run_bind, k1, Result.andThen_ok, Sem.run_pure], rfl⟩, ⟨[], rfl, by simp [VRs]⟩, k2, f.fx, k3⟩
  | mapUpdate t m k u =>
    simp only [opL, opB] at H
    obtain ⟨h', hv, key⟩ := insertL_sound hs H
    refine ⟨_, h', nx, hv, fun σ w ρ o ho hx s f => ?_⟩
    obtain ⟨w', k1, k2, k3⟩ := key σ w (ρ m) (ρ k) (ρ u) (hx m (by simp [Op.operands])) (hx k (by simp [Op.operands])) (hx u (by simp [Op.operands])) s
    exact ⟨undef, w', σ, .inr ⟨by simp only [execOp, ho, Sem.run_bind, k1, Result.andThen_ok, Sem.run_pure], rfl⟩, ⟨[], rfl, by simp [VRs]⟩, k2, f.fx, k3⟩
  | alloc t =>
    simp only [opL, opB] at H
    cases hc : (zeroL P t).cells with
    | none => simp only [hc] at H; exact absurd H (hs _)
    | some cs =>
      simp only [hc] at H
      refine ⟨_, _, _, H, fun σ w ρ o ho hx s f => ?_⟩
      obtain ⟨z, hz, he⟩ := zeroL_sound hc
      obtain ⟨w', σ', k1, k2, k3, k4, k5⟩ := newVar_sound s f hc (he ▸ ofVal_sound z) t t
      exact ⟨_, w', σ', .inl (by simp [execOp, ho, Instr.alloc, hz, k1]), k2, k3, k4, k5⟩
  | box t x =>
    simp only [opL, opB] at H
    cases hc : (ev x).cells with
    | none => simp only [hc] at H; exact absurd H (hs _)
    | some cs =>
      simp only [hc] at H
      refine ⟨_, _, _, H, fun σ w ρ o ho hx s f => ?_⟩
      obtain ⟨w', σ', k1, k2, k3, k4, k5⟩ := newVar_sound s f hc (hx x (by simp [Op.operands])) t t
      exact ⟨_, w', σ', .inl (by simp [execOp, ho, Instr.box, k1]), k2, k3, k4, k5⟩
  | build t ps =>
    simp only [opL, opB] at H
    obtain ⟨v, hv, key⟩ := buildL_sound hs H
    refine ⟨v, h, nx, hv, fun σ w ρ o ho hx s f => ?_⟩
    obtain ⟨z, k1, k2⟩ := key σ w (ps.map fun (i, x) => (i, ρ x)) (by
      simp only [Array.toList_map]
      exact VRp.map fun x hx' => hx x.2 (by simp only [Op.operands]; simp; exact ⟨x.1, by simpa using hx'⟩))
    exact Eff.pure s f (by simp only [execOp, ho, Sem.run_bind, k1, Result.andThen_ok, Sem.run_pure]) k2
  | buildSlice t n ps =>
    simp only [opL, opB] at H
    obtain ⟨v, h', nx', hv, key⟩ := buildSliceL_sound hs H
    refine ⟨v, h', nx', hv, fun σ w ρ o ho hx s f => ?_⟩
    obtain ⟨z, w', σ', k1, k2, k3, k4, k5⟩ := key σ w (ps.map fun (i, x) => (i, ρ x)) (by
      simp only [Array.toList_map]
      exact VRp.map fun x hx' => hx x.2 (by simp only [Op.operands]; simp; exact ⟨x.1, by simpa using hx'⟩)) s f
    exact ⟨z, w', σ', .inl (by simp only [execOp, ho, Sem.run_bind, k1, Result.andThen_ok, Sem.run_pure]), k2, k3, k4, k5⟩
  | load t x =>
    simp only [opL, opB] at H
    obtain ⟨v, hv, key⟩ := loadL_sound hs H
    refine ⟨v, h, nx, hv, fun σ w ρ o ho hx s f => ?_⟩
    obtain ⟨z, k1, k2⟩ := key σ w (ρ x) (hx x (by simp [Op.operands])) s
    exact Eff.pure s f (by simp only [execOp, ho, Sem.run_bind, k1, Result.andThen_ok, Sem.run_pure]) k2
  | store t x y =>
    simp only [opL, opB] at H
    obtain ⟨h', hv, key⟩ := storeL_sound hs H
    refine ⟨.tup [], h', nx, hv, fun σ w ρ o ho hx s f => ?_⟩
    obtain ⟨w', k1, k2, k3⟩ := key σ w (ρ x) (ρ y) (hx x (by simp [Op.operands])) (hx y (by simp [Op.operands])) s
    exact ⟨undef, w', σ, .inr ⟨by simp only [execOp, ho, Sem.run_bind, k1, Result.andThen_ok, Sem.run_pure], rfl⟩, ⟨[], rfl, by simp [VRs]⟩, k2, f.fx, k3⟩
  | nilCheck x =>
    simp only [opL, opB] at H
    split at H
    · rename_i id i off ix hx0
      refine ⟨_, _, _, H, fun σ w ρ o ho hx s f => ?_⟩
      have := hx x (by simp [Op.operands])
      rw [hx0] at this
      have hv := this
      simp only [VR] at this
      obtain ⟨p, hp, hi, hix, he⟩ := this
      exact Eff.pure s f (x := ρ x) (by simp [execOp, ho, he]) hv
    · rename_i g a b hx0
      refine ⟨_, _, _, H, fun σ w ρ o ho hx s f => ?_⟩
      have := hx x (by simp [Op.operands])
      rw [hx0] at this
      have hv := this
      simp only [VR] at this
      obtain ⟨xs, ys, he, _⟩ := this
      exact Eff.pure s f (x := ρ x) (by simp [execOp, ho, he]) hv
    · exact absurd H (hs _)
  | binOp op t x y q =>
    simp only [opL, opB] at H
    obtain ⟨v, hv, key⟩ := binL_sound hs H
    refine ⟨v, h, nx, hv, fun σ w ρ o ho hx s f => ?_⟩
    obtain ⟨z, k0, k1, k2⟩ := key σ w (ρ x) (ρ y) (hx x (by simp [Op.operands])) (hx y (by simp [Op.operands]))
    exact Eff.pure s f (by simp only [execOp, ho, Sem.run_bind, k0, k1, Result.andThen_ok, Sem.run_pure]) k2
  | unOp op t x =>
    simp only [opL, opB] at H
    obtain ⟨v, hv, key⟩ := unL_sound (P := P) hs H
    refine ⟨v, h, nx, hv, fun σ w ρ o ho hx s f => ?_⟩
    obtain ⟨z, k1, k2⟩ := key σ w (ρ x) (hx x (by simp [Op.operands]))
    exact Eff.pure s f (by simp only [execOp, ho, Sem.run_bind, k1, Result.andThen_ok, Sem.run_pure]) k2
  | convert a b x =>
    simp only [opL, opB] at H
    obtain ⟨v, hv, key⟩ := convL_sound hs H
    refine ⟨v, h, nx, hv, fun σ w ρ o ho hx s f => ?_⟩
    obtain ⟨z, k1, k2⟩ := key σ w (ρ x) (hx x (by simp [Op.operands])) s
    exact Eff.pure s f (by simp only [execOp, ho, Sem.run_bind, k1, Result.andThen_ok, Sem.run_pure]) k2
  | makeFunc fn a b =>
    refine ⟨_, _, _, H, fun σ w ρ o ho hx s f => Eff.pure s f (x := .func fn (a.map ρ) (b.map ρ)) ?_ ?_⟩
    · simp [execOp, ho, Instr.makeFunc]
    · exact ⟨a.toList.map ρ, b.toList.map ρ, by simp [← Array.toList_map], VRs.map fun x hx' => hx x (by simp [Op.operands]; exact .inl (by simpa using hx')), VRs.map fun x hx' => hx x (by simp [Op.operands]; exact .inr (by simpa using hx'))⟩
  | fieldAddr t x k =>
    simp only [opL, opB] at H
    obtain ⟨v, hv, key⟩ := fieldAddrL_sound hs H
    refine ⟨v, h, nx, hv, fun σ w ρ o ho hx s f => ?_⟩
    obtain ⟨z, k1, k2⟩ := key σ w (ρ x) (hx x (by simp [Op.operands]))
    exact Eff.pure s f (by simp only [execOp, ho, Sem.run_bind, k1, Result.andThen_ok, Sem.run_pure]) k2
  | field t x k =>
    simp only [opL, opB] at H
    obtain ⟨v, hv, key⟩ := fieldL_sound hs H
    refine ⟨v, h, nx, hv, fun σ w ρ o ho hx s f => ?_⟩
    obtain ⟨z, k1, k2⟩ := key σ w (ρ x) (hx x (by simp [Op.operands]))
    exact Eff.pure s f (by simp only [execOp, ho, Sem.run_bind, k1, Result.andThen_ok, Sem.run_pure]) k2
  | indexAddr t x i =>
    simp only [opL, opB] at H
    obtain ⟨v, hv, key⟩ := indexAddrL_sound hs H
    refine ⟨v, h, nx, hv, fun σ w ρ o ho hx s f => ?_⟩
    obtain ⟨z, k1, k2⟩ := key σ w (ρ x) (ρ i) (hx x (by simp [Op.operands])) (hx i (by simp [Op.operands])) s
    exact Eff.pure s f (by simp only [execOp, ho, Sem.run_bind, k1, Result.andThen_ok, Sem.run_pure]) k2
  | index t x i =>
    simp only [opL, opB] at H
    obtain ⟨v, hv, key⟩ := indexL_sound hs H
    refine ⟨v, h, nx, hv, fun σ w ρ o ho hx s f => ?_⟩
    obtain ⟨z, k1, k2⟩ := key σ w (ρ x) (ρ i) (hx x (by simp [Op.operands])) (hx i (by simp [Op.operands]))
    exact Eff.pure s f (by simp only [execOp, ho, Sem.run_bind, k1, Result.andThen_ok, Sem.run_pure]) k2
  | slice t x lo hi mx =>
    simp only [opL, opB] at H
    obtain ⟨v, hv, hm, key⟩ := sliceL_sound hs H
    refine ⟨v, h, nx, hv, fun σ w ρ o ho hx s f => ?_⟩
    have hm' : mx = none := by
      cases mx with
      | none => rfl
      | some y => cases hm
    subst hm'
    obtain ⟨z, k1, k2⟩ := key σ w (ρ x) (lo.map ρ) (hi.map ρ) (hx x (by simp [Op.operands])) (VRo.map fun y hy => hx y (by simp [Op.operands, hy])) (VRo.map fun y hy => hx y (by simp [Op.operands, hy])) s
    exact Eff.pure s f (by simp only [execOp, ho, Sem.run_bind, Option.map_none, k1, Result.andThen_ok, Sem.run_pure]) k2
  | extract x i =>
    simp only [opL, opB] at H
    split at H
    · rename_i vs hx0
      cases hv : vs[i]? with
      | none => simp only [hv] at H; exact absurd H (hs _)
      | some v =>
        simp only [hv] at H
        refine ⟨_, _, _, H, fun σ w ρ o ho hx s f => ?_⟩
        have := hx x (by simp [Op.operands])
        rw [hx0] at this
        simp only [VR] at this
        obtain ⟨xs, he, hxs⟩ := this
        obtain ⟨z, z1, z2⟩ := hxs.at i v hv
        exact Eff.pure s f (x := z) (by simp [execOp, ho, he, Instr.extract, z1]) z2
    · exact absurd H (hs _)
  | _ => exact absurd H (hs _)
end Go.Proofs.Ytigilihpofafoaa.Loc
