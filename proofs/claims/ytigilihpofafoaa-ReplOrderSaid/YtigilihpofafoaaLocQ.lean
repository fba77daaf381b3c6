/- The small machine of local values: its operations tell what the model's do. Part 3: arithmetic and comparison. -/
import Derived.Test.YtigilihpofafoaaLocO
namespace Go.Proofs.Ytigilihpofafoaa.Loc
open Go
set_option linter.unusedVariables false
set_option linter.unusedSimpArgs false
set_option linter.unusedSectionVars false
variable [En]
variable {P : Program} {Φ : Out → Prop} {fl : Nat}

theorem intOp_sound (hs : Good Φ) {op : BinOp} {k : IntKind} {a b : Int} {c : LV → Out} (H : Φ (intOp op k a b c)) (hsh : op ≠ .shl ∧ op ≠ .shr) (t : TypeId) :
    ∃ v, Φ (c v) ∧ ∀ w, ∃ y, (binOp op t (.int k a) (.int k b)).run P w = .ok y w ∧ ∀ σ, VR σ v y := by
  cases op <;> simp only [intOp, bitI, cmpI] at H
  all_goals first
    | exact absurd rfl hsh.1
    | exact absurd rfl hsh.2
    | (refine ⟨_, H, fun w => ⟨_, by simp only [binOp, ne_eq, not_true_eq_false, if_false]; rfl, fun σ => by simp [VR]⟩⟩; done)
    | (obtain ⟨hb, H⟩ := of_lif0 hs H
       have hb' : ¬ b = 0 := by simpa using hb
       exact ⟨_, H, fun w => ⟨_, by simp only [binOp, Op.intDiv, ne_eq, not_true_eq_false, if_false, hb']; rfl, fun σ => by simp [VR]⟩⟩)
theorem shOp_sound (hs : Good Φ) {op : BinOp} {k : IntKind} {a b : Int} {c : LV → Out} (H : Φ (intOp op k a b c)) (hsh : op = .shl ∨ op = .shr) (t : TypeId) (k' : IntKind) :
    ∃ v, Φ (c v) ∧ ∀ w, ∃ y, (binOp op t (.int k a) (.int k' b)).run P w = .ok y w ∧ ∀ σ, VR σ v y := by
  rcases hsh with rfl | rfl <;> simp only [intOp] at H
  all_goals
    obtain ⟨hb, H⟩ := of_lif0 hs H
    have hb' : ¬ b < 0 := by simpa using hb
    exact ⟨_, H, fun w => ⟨_, by simp only [binOp, Op.shift, hb', if_false]; rfl, fun σ => by simp [VR, shlI, shrI]⟩⟩

theorem fewS_sound (hs : Good Φ) {k : IntKind} {e : SE} {c : LV → Out} (H : Φ (fewS k e c)) : ∃ v, Φ (c v) ∧ ∀ σ, VR σ v (.int k e.ev) := by
  unfold fewS at H
  split at H
  · rename_i p hr
    cases hc : cond (iLe 0 p.1) (iLe p.2 15) false with
    | false =>
      rw [hc] at H
      exact ⟨_, H, fun σ => VR_mkI rfl⟩
    | true =>
      rw [hc] at H
      obtain ⟨h1, h2⟩ := of_condF' hc
      have h1 := iLe_t h1
      have h2 := iLe_t h2
      obtain ⟨r1, r2⟩ := SE.rg_sound e p hr
      obtain ⟨j, hj, H⟩ := of_chain hs _ _ H (by omega) (by omega)
      exact ⟨_, H, fun σ => by simp only [VR]; rw [hj]; rfl⟩
  · exact ⟨_, H, fun σ => VR_mkI rfl⟩
theorem symOp_sound (hs : Good Φ) {op : BinOp} {k : IntKind} {a b : SE} {c : LV → Out} (H : Φ (symOp op k a b c)) (t : TypeId) (k' : IntKind) (hk : op = .shl ∨ op = .shr ∨ k' = k) :
    ∃ v, Φ (c v) ∧ ∀ w, ∃ y, (binOp op t (.int k a.ev) (.int k' b.ev)).run P w = .ok y w ∧ ∀ σ, VR σ v y := by
  have plain : ∀ {v : LV} {y : Value}, Φ (c v) → (∀ w, (binOp op t (.int k a.ev) (.int k' b.ev)).run P w = .ok y w) → (∀ σ, VR σ v y) → ∃ v, Φ (c v) ∧ ∀ w, ∃ y, (binOp op t (.int k a.ev) (.int k' b.ev)).run P w = .ok y w ∧ ∀ σ, VR σ v y :=
    fun h1 h2 h3 => ⟨_, h1, fun w => ⟨_, h2 w, h3⟩⟩
  have hcmp : ∀ {x : SB}, cmpS op a b = some x → Φ (c (mkB x)) → k' = k → ∃ v, Φ (c v) ∧ ∀ w, ∃ y, (binOp op t (.int k a.ev) (.int k' b.ev)).run P w = .ok y w ∧ ∀ σ, VR σ v y := fun {x} h1 h2 h3 => by
    subst h3
    cases op <;> simp only [cmpS, Option.some.injEq, reduceCtorEq] at h1
    all_goals
      subst h1
      refine plain (y := .bool _) h2 (fun w => by simp only [binOp, ne_eq, not_true_eq_false, if_false]; rfl) fun σ => VR_mkB ?_
      simp only [mkEq_ev, mkLt_ev, mkNot_ev]
    all_goals first
      | rfl
      | (rw [← decide_not]; congr 1; simp only [eq_iff_iff]; omega)
      | skip
  cases op <;> simp only [symOp] at H
  all_goals first
    | (rcases hk with h | h | rfl
       · cases h
       · cases h
       refine plain H (fun w => by simp only [binOp, ne_eq, not_true_eq_false, if_false]; rfl) fun σ => VR_mkI ?_
       rw [mkBin_ev]; rfl)
    | (rcases hk with h | h | rfl
       · cases h
       · cases h
       obtain ⟨v, hv, hr⟩ := fewS_sound hs H
       rw [mkBin_ev] at hr
       exact plain hv (fun w => by simp only [binOp, ne_eq, not_true_eq_false, if_false]; rfl) hr)
    | (rcases of_br hs H with ⟨_, H⟩ | ⟨hb, H⟩
       · exact absurd H (hs _)
       rw [mkEq_ev, beq_eq_false_iff_ne] at hb
       rcases hk with h | h | rfl
       · cases h
       · cases h
       have hb' : ¬ b.ev = 0 := hb
       obtain ⟨v, hv, hr⟩ := fewS_sound hs H
       rw [mkBin_ev] at hr
       exact plain hv (fun w => by simp only [binOp, Op.intDiv, ne_eq, not_true_eq_false, if_false, hb']; rfl) hr)
    | (rcases of_br hs H with ⟨_, H⟩ | ⟨hb, H⟩
       · exact absurd H (hs _)
       rw [mkEq_ev, beq_eq_false_iff_ne] at hb
       rcases hk with h | h | rfl
       · cases h
       · cases h
       have hb' : ¬ b.ev = 0 := hb
       refine plain H (fun w => by simp only [binOp, Op.intDiv, ne_eq, not_true_eq_false, if_false, hb']; rfl) fun σ => VR_mkI ?_
       rw [mkBin_ev]; rfl)
    | (rcases of_br hs H with ⟨_, H⟩ | ⟨hb, H⟩
       · exact absurd H (hs _)
       rw [mkLt_ev, decide_eq_false_iff_not] at hb
       have hb' : ¬ b.ev < 0 := hb
       refine plain H (fun w => by simp only [binOp, Op.shift, hb', if_false]; rfl) fun σ => VR_mkI ?_
       rw [mkBin_ev]; rfl)
    | (rcases hk with h | h | rfl
       · cases h
       · cases h
       exact hcmp rfl H rfl)
    | (cases hc : cmpS _ a b with
       | none => rw [hc] at H; exact absurd H (hs _)
       | some x => cases hc)

def IsVal (P : Program) (σ : Sg) (t : TypeId) (cs : List LV) (x : Value) : Prop :=
  (aggB P t = true ∧ ∃ xs : List Value, x = .agg xs.toArray ∧ VRs σ cs xs) ∨ (aggB P t = false ∧ ∃ v, cs = [v] ∧ VR σ v x)

theorem aggB_rowD {t : TypeId} {d : TypeDesc} (h : P.underlying t = some d) : aggB P t = rowD d := by
  unfold aggB; rw [h]; cases d <;> rfl
theorem szOf_of {t : TypeId} {d : TypeDesc} (h : P.underlying t = some d) : ∃ n, szOf P t = some n := by
  obtain ⟨i, hi⟩ := info_of_underlying h
  exact ⟨i.size, by simp [szOf, hi]⟩
theorem aggB_some {t : TypeId} (h : aggB P t = true) : ∃ d, P.underlying t = some d ∧ rowD d = true := by
  cases hd : P.underlying t with
  | none => simp [aggB, hd] at h
  | some d => exact ⟨d, rfl, by rw [← aggB_rowD hd]; exact h⟩

theorem eqT_some {n : Nat} {t : TypeId} {cs ds : List LV} {r : SB} (h : eqT P n t cs ds = some r) : ∃ m d, n = m + 1 ∧ P.underlying t = some d := by
  cases n with
  | zero => simp [eqT] at h
  | succ n =>
    cases hd : P.underlying t with
    | none => simp [eqT, hd] at h
    | some d => exact ⟨n, d, rfl, rfl⟩
theorem eqT_scalar {n : Nat} {t : TypeId} {v u : LV} {r : SB} (h : eqT P n t [v] [u] = some r) (ha : aggB P t = false) : v ≠ .undef ∧ u ≠ .undef := by
  obtain ⟨m, d, rfl, hd⟩ := eqT_some h
  have hr : rowD d = false := by rw [← aggB_rowD hd]; exact ha
  simp only [eqT, hd] at h
  constructor
  all_goals
    rintro rfl
    cases d <;> simp [rowD] at h hr
    all_goals (first | (cases v <;> simp [eqBs, eqIs] at h; done) | (cases u <;> simp [eqBs, eqIs] at h; done) | (cases v <;> cases h; done) | (cases u <;> cases h; done))
theorem sub_sound {σ : Sg} {t : TypeId} {d : TypeDesc} (hd : P.underlying t = some d) {cs : List LV} {xs : List Value} (h : VRs σ cs xs) {off : Nat} (hne : aggB P t = false → lget cs off ≠ .undef) (w : World) :
    ∃ y, (part t xs.toArray off).run P w = .ok y w ∧ IsVal P σ t (subL P t cs off) y := by
  obtain ⟨n, hn⟩ := szOf_of hd
  cases ha : aggB P t with
  | true =>
    refine ⟨.agg ((xs.drop off).take n).toArray, ?_, .inl ⟨ha, _, rfl, ?_⟩⟩
    · have hr : rowD d = true := by rw [← aggB_rowD hd]; exact ha
      simp only [Go.part, Sem.run_bind, run_isAgg hd, hr, run_szOf hn, Result.andThen_ok, Sem.run_ite, if_true, Sem.run_pure]
      congr 2
      rw [List.extract_toArray]
      congr 1
      simp
    · simp only [subL, ha, cond_true, hn, ltake_eq, ldrop_eq]
      exact (h.drop off).take n
  | false =>
    have hr : rowD d = false := by rw [← aggB_rowD hd]; exact ha
    have hlt := lget_lt (hne ha)
    have hl := h.length
    have hx : xs[off]? = some xs[off] := List.getElem?_eq_getElem (by omega)
    refine ⟨xs[off], ?_, .inr ⟨ha, _, by simp only [subL, ha, cond_false], h.get _ _ hx⟩⟩
    simp [Go.part, Sem.run_bind, run_isAgg hd, hr, hx]

theorem eqStep {n D : Nat} (ihr : ∀ (t : TypeId) (cs ds : List LV) (r : SB), eqT P n t cs ds = some r → ∀ (σ : Sg) x y, IsVal P σ t cs x → IsVal P σ t ds y → ∀ w, (Op.equalIn D t x y).run P w = .ok r.ev w)
    {t : TypeId} {cs ds : List LV} {off : Nat} {r : SB} (h : eqT P n t (subL P t cs off) (subL P t ds off) = some r) {σ : Sg} {xs ys : List Value} (hx : VRs σ cs xs) (hy : VRs σ ds ys) (w : World) :
    ∃ a b, (part t xs.toArray off).run P w = .ok a w ∧ (part t ys.toArray off).run P w = .ok b w ∧ (Op.equalIn D t a b).run P w = .ok r.ev w := by
  obtain ⟨m, d, rfl, hd⟩ := eqT_some h
  have hne : aggB P t = false → lget cs off ≠ .undef ∧ lget ds off ≠ .undef := fun ha => by
    simp only [subL, ha, cond_false] at h
    exact eqT_scalar h ha
  obtain ⟨a, a1, a2⟩ := sub_sound hd hx (off := off) (fun ha => (hne ha).1) w
  obtain ⟨b, b1, b2⟩ := sub_sound hd hy (off := off) (fun ha => (hne ha).2) w
  exact ⟨a, b, a1, b1, ihr _ _ _ _ h σ a b a2 b2 w⟩

theorem eqFs_sound {n D : Nat} (ihr : ∀ (t : TypeId) (cs ds : List LV) (r : SB), eqT P n t cs ds = some r → ∀ (σ : Sg) x y, IsVal P σ t cs x → IsVal P σ t ds y → ∀ w, (Op.equalIn D t x y).run P w = .ok r.ev w)
    {σ : Sg} {cs ds : List LV} {xs ys : List Value} (hx : VRs σ cs xs) (hy : VRs σ ds ys) (w : World) : ∀ (fs : List Field) (r : SB), eqFs P (eqT P n) cs ds fs = some r → (Op.eqFields D xs.toArray ys.toArray fs).run P w = .ok r.ev w
  | [], r, h => by simp only [eqFs, Option.some.injEq] at h; subst h; rfl
  | f :: fs, r, h => by
    simp only [eqFs] at h
    cases hn : f.name != "_" with
    | false => simp [hn] at h
    | true =>
      have hn' : f.name ≠ "_" := by simpa using hn
      simp only [hn, cond_true] at h
      cases h1 : eqT P n f.type (subL P f.type cs f.offset) (subL P f.type ds f.offset) with
      | none => simp [h1] at h
      | some a =>
        cases h2 : eqFs P (eqT P n) cs ds fs with
        | none => simp [h1, h2] at h
        | some b =>
          simp only [h1, h2, Option.some.injEq] at h; subst h
          obtain ⟨x, y, e1, e2, e3⟩ := eqStep ihr h1 hx hy w
          have ih := eqFs_sound ihr hx hy w fs b h2
          simp only [Op.eqFields, if_pos hn', Sem.run_bind, e1, e2, e3, Result.andThen_ok, Sem.run_ite, mkAnd_ev]
          cases a.ev
          · simp
          · simpa using ih
theorem eqArr_sound {n D : Nat} (ihr : ∀ (t : TypeId) (cs ds : List LV) (r : SB), eqT P n t cs ds = some r → ∀ (σ : Sg) x y, IsVal P σ t cs x → IsVal P σ t ds y → ∀ w, (Op.equalIn D t x y).run P w = .ok r.ev w)
    {σ : Sg} {cs ds : List LV} {xs ys : List Value} (hx : VRs σ cs xs) (hy : VRs σ ds ys) (w : World) {e : TypeId} {sz : Nat} : ∀ (m i : Nat) (r : SB), eqArr P e sz (eqT P n e) cs ds m i = some r →
      (Op.eqItems D e sz xs.toArray ys.toArray (List.range' i m)).run P w = .ok r.ev w
  | 0, i, r, h => by simp only [eqArr, Option.some.injEq] at h; subst h; rfl
  | m + 1, i, r, h => by
    simp only [eqArr] at h
    cases h1 : eqT P n e (subL P e cs (i * sz)) (subL P e ds (i * sz)) with
    | none => simp [h1] at h
    | some a =>
      cases h2 : eqArr P e sz (eqT P n e) cs ds m (i + 1) with
      | none => simp [h1, h2] at h
      | some b =>
        simp only [h1, h2, Option.some.injEq] at h; subst h
        obtain ⟨x, y, e1, e2, e3⟩ := eqStep ihr h1 hx hy w
        have ih := eqArr_sound ihr hx hy w m (i + 1) b h2
        simp only [List.range'_succ, Op.eqItems, Sem.run_bind, e1, e2, e3, Result.andThen_ok, Sem.run_ite, mkAnd_ev]
        cases a.ev
        · simp
        · simpa using ih

theorem eqBs_sound {v u : LV} {r : SB} (h : eqBs v u = some r) {σ : Sg} {x y : Value} (hv : VR σ v x) (hu : VR σ u y) : ∃ a b, x = .bool a ∧ y = .bool b ∧ r.ev = (a == b) := by
  unfold eqBs at h
  split at h <;> simp only [Option.some.injEq, reduceCtorEq] at h
  all_goals
    subst h
    simp only [VR] at hv hu
    exact ⟨_, _, hv, hu, by simp [SB.ev, mkIff_ev]⟩
theorem eqIs_sound {v u : LV} {r : SB} (h : eqIs v u = some r) {σ : Sg} {x y : Value} (hv : VR σ v x) (hu : VR σ u y) : ∃ k a b, x = .int k a ∧ y = .int k b ∧ r.ev = (a == b) := by
  unfold eqIs at h
  split at h
  all_goals first
    | (cases h; done)
    | (rename_i k a k' b
       cases hk : kBeq k k' with
       | false => rw [hk] at h; cases h
       | true =>
         rw [hk] at h
         have := kBeq_eq hk; subst this
         simp only [cond_true, Option.some.injEq] at h; subst h
         simp only [VR] at hv hu
         exact ⟨_, _, _, hv, hu, by simp [SB.ev, mkEq_ev, SE.ev]⟩)

theorem eqT_sound : ∀ (n D : Nat), n ≤ D → ∀ (t : TypeId) (cs ds : List LV) (r : SB), eqT P n t cs ds = some r → ∀ (σ : Sg) x y, IsVal P σ t cs x → IsVal P σ t ds y → ∀ w, (Op.equalIn D t x y).run P w = .ok r.ev w
  | 0, D, _, t, cs, ds, r, h, _, _, _, _, _, _ => by simp [eqT] at h
  | n + 1, 0, hD, _, _, _, _, _, _, _, _, _, _, _ => by omega
  | n + 1, D + 1, hD, t, cs, ds, r, h, σ, x, y, hx, hy, w => by
    obtain ⟨_, d, _, hd⟩ := eqT_some h
    have ihr := eqT_sound n D (by omega)
    simp only [eqT, hd] at h
    have hag := aggB_rowD hd
    cases d with
    | bool =>
      rcases hx with ⟨ha, _⟩ | ⟨_, v, rfl, hv⟩
      · rw [hag] at ha; cases ha
      rcases hy with ⟨ha, _⟩ | ⟨_, u, rfl, hu⟩
      · rw [hag] at ha; cases ha
      obtain ⟨a, b, rfl, rfl, hr⟩ := eqBs_sound h hv hu
      rw [hr]
      exact run_equalIn_bool' w D t _ _ hd
    | int k0 =>
      rcases hx with ⟨ha, _⟩ | ⟨_, v, rfl, hv⟩
      · rw [hag] at ha; cases ha
      rcases hy with ⟨ha, _⟩ | ⟨_, u, rfl, hu⟩
      · rw [hag] at ha; cases ha
      obtain ⟨k, a, b, rfl, rfl, hr⟩ := eqIs_sound h hv hu
      rw [hr]
      exact run_equalIn_int w D t _ _ _ _ hd
    | string =>
      rcases hx with ⟨ha, _⟩ | ⟨_, v, rfl, hv⟩
      · rw [hag] at ha; cases ha
      rcases hy with ⟨ha, _⟩ | ⟨_, u, rfl, hu⟩
      · rw [hag] at ha; cases ha
      cases v <;> cases u <;> simp only [Option.some.injEq, reduceCtorEq] at h
      simp only [VR] at hv hu; subst hv; subst hu; subst h
      simp only [SB.ev, sBeq_eq]
      exact run_equalIn_string w D t _ _ hd
    | struct fs =>
      rcases hx with ⟨_, xs, rfl, hv⟩ | ⟨ha, _⟩
      rotate_left
      · rw [hag] at ha; cases ha
      rcases hy with ⟨_, ys, rfl, hu⟩ | ⟨ha, _⟩
      rotate_left
      · rw [hag] at ha; cases ha
      cases hst : P.stoodInHeld t with
      | true => simp [hst] at h
      | false =>
        simp only [hst, cond_false] at h
        have hf : P.fieldsOf t = fs := by simp [Program.fieldsOf, hd]
        rw [run_equalIn_struct w D t _ _ (by rw [hf]; exact hd) hst, hf]
        exact eqFs_sound ihr hv hu w _ _ h
    | array m e =>
      rcases hx with ⟨_, xs, rfl, hv⟩ | ⟨ha, _⟩
      rotate_left
      · rw [hag] at ha; cases ha
      rcases hy with ⟨_, ys, rfl, hu⟩ | ⟨ha, _⟩
      rotate_left
      · rw [hag] at ha; cases ha
      cases hz : szOf P e with
      | none => simp [hz] at h
      | some sz =>
        simp only [hz] at h
        unfold szOf at hz
        cases hi : P.info? e with
        | none => simp [hi] at hz
        | some i =>
          have hc : P.cellsOf e = sz := by simpa [Program.cellsOf, hi] using hz
          rw [run_equalIn_array w D _ _ hd hi, hc, List.range_eq_range']
          exact eqArr_sound ihr hv hu w _ _ _ h
    | _ => simp at h
end Go.Proofs.Ytigilihpofafoaa.Loc
