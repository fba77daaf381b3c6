/- The small machine of local values: its operations tell what the model's do. Part 4: the operations that make a value of values. -/
import Derived.Test.YtigilihpofafoaaLocQ
namespace Go.Proofs.Ytigilihpofafoaa.Loc
open Go
set_option linter.unusedVariables false
set_option linter.unusedSimpArgs false
set_option linter.unusedSectionVars false
variable [En]
variable {P : Program} {Φ : Out → Prop} {fl : Nat}

theorem eqlOf {t : TypeId} {a b : Value} {r : Bool} {w : World} (h : ∀ d, (Op.equalIn (d + 1) t a b).run P w = .ok r w) (he : binOp .eql t a b = (do pure (.bool (← Op.equal t a b)))) (hn : binOp .neq t a b = (do pure (.bool (!(← Op.equal t a b))))) :
    (binOp .eql t a b).run P w = .ok (.bool r) w ∧ (binOp .neq t a b).run P w = .ok (.bool !r) w := by
  have h' := h 9999
  constructor
  · rw [he, Sem.run_bind]; show ((Op.equalIn 10000 t a b).run P w).andThen _ = _; rw [h']; rfl
  · rw [hn, Sem.run_bind]; show ((Op.equalIn 10000 t a b).run P w).andThen _ = _; rw [h']; rfl

theorem boolT_of {t : TypeId} (h : boolT P t = true) : P.underlying t = some .bool := by
  unfold boolT at h
  split at h
  · assumption
  · cases h
theorem eqL_sound (hs : Good Φ) {t : TypeId} {x y : LV} {c : SB → Out} (H : Φ (eqL P t x y c)) :
    ∃ r, Φ (c r) ∧ ∀ σ w a b, VR σ x a → VR σ y b → (∀ op xo yo, (eqGuard op t xo yo a b).run P w = .ok () w) ∧ (binOp .eql t a b).run P w = .ok (.bool r.ev) w ∧ (binOp .neq t a b).run P w = .ok (.bool !r.ev) w := by
  unfold eqL at H
  split at H
  · rename_i a b
    obtain ⟨hu, H⟩ := of_cond hs H
    have hu := boolT_of hu
    refine ⟨_, H, fun σ w x y hx hy => ?_⟩
    simp only [VR] at hx hy; subst hx; subst hy
    refine ⟨fun op xo yo => by cases op <;> rfl, ?_, ?_⟩ <;> simp [binOp, Op.equal, Op.maxDepth, run_equalIn_bool' w _ t _ _ hu, SB.ev, mkIff_ev]
  · rename_i a b
    obtain ⟨hu, H⟩ := of_cond hs H
    have hu := boolT_of hu
    refine ⟨_, H, fun σ w x y hx hy => ?_⟩
    simp only [VR] at hx hy; subst hx; subst hy
    refine ⟨fun op xo yo => by cases op <;> rfl, ?_, ?_⟩ <;> simp [binOp, Op.equal, Op.maxDepth, run_equalIn_bool' w _ t _ _ hu, SB.ev, mkIff_ev]
  · rename_i a b
    obtain ⟨hu, H⟩ := of_cond hs H
    have hu := boolT_of hu
    refine ⟨_, H, fun σ w x y hx hy => ?_⟩
    simp only [VR] at hx hy; subst hx; subst hy
    refine ⟨fun op xo yo => by cases op <;> rfl, ?_, ?_⟩ <;> simp [binOp, Op.equal, Op.maxDepth, run_equalIn_bool' w _ t _ _ hu, SB.ev, mkIff_ev]
  · rename_i a b
    obtain ⟨hu, H⟩ := of_cond hs H
    have hu := boolT_of hu
    refine ⟨_, H, fun σ w x y hx hy => ?_⟩
    simp only [VR] at hx hy; subst hx; subst hy
    refine ⟨fun op xo yo => by cases op <;> rfl, ?_, ?_⟩ <;> simp [binOp, Op.equal, Op.maxDepth, run_equalIn_bool' w _ t _ _ hu, SB.ev, mkIff_ev]
  · rename_i a b
    obtain ⟨hg, H⟩ := of_cond0 hs H
    obtain ⟨ha, H⟩ := of_cond hs H
    cases he : eqT P 50 t a b with
    | none => simp only [he] at H; exact absurd H (hs _)
    | some r =>
      simp only [he] at H
      refine ⟨_, H, fun σ w x y hx hy => ?_⟩
      simp only [VR] at hx hy
      obtain ⟨xs, rfl, hx⟩ := hx
      obtain ⟨ys, rfl, hy⟩ := hy
      have := eqT_sound 50 10000 (by omega) t a b r he σ _ _ (.inl ⟨ha, _, rfl, hx⟩) (.inl ⟨ha, _, rfl, hy⟩) w
      exact ⟨fun op xo yo => run_eqGuard_agg w op t xo yo _ _ hg, by rw [run_eql_struct, this]; rfl, by rw [run_neq_struct, this]; rfl⟩
  all_goals first
    | exact absurd H (hs _)
    | skip
  all_goals
    obtain ⟨hf, H⟩ := of_cond hs H
    refine ⟨_, H, fun σ w x y hx hy => ?_⟩
    simp only [VR] at hx hy
    first
      | unfold funcT at hf
      | unfold sliceT at hf
    split at hf
    rotate_left
    · cases hf
    rename_i hu
    first
      | subst hx
      | obtain ⟨_, _, rfl, _⟩ := hx
      | (obtain ⟨_, _, _, _, hx⟩ := hx; rcases hx with rfl | ⟨_, _, _, _, rfl⟩)
  all_goals
    first
      | subst hy
      | obtain ⟨_, _, rfl, _⟩ := hy
      | (obtain ⟨_, _, _, _, hy⟩ := hy; rcases hy with rfl | ⟨_, _, _, _, rfl⟩)
  all_goals exact ⟨fun op xo yo => by cases op <;> rfl, eqlOf (fun d => by simp [Op.equalIn, run_underlying hu, SB.ev]) rfl rfl⟩

theorem symL_sound (hs : Good Φ) {op : BinOp} {k : IntKind} {a : SE} {k' : IntKind} {b : SE} {c : LV → Out} (H : Φ (symL op k a k' b c)) (t : TypeId) :
    ∃ v, Φ (c v) ∧ ∀ w, ∃ z, (∀ xo yo, (eqGuard op t xo yo (.int k a.ev) (.int k' b.ev)).run P w = .ok () w) ∧ (binOp op t (.int k a.ev) (.int k' b.ev)).run P w = .ok z w ∧ ∀ σ, VR σ v z := by
  have hg : ∀ (w : World) xo yo, (eqGuard op t xo yo (.int k a.ev) (.int k' b.ev)).run P w = .ok () w := fun w xo yo => by cases op <;> rfl
  by_cases hsh : op = .shl ∨ op = .shr
  · have H' : Φ (symOp op k a b c) := by rcases hsh with rfl | rfl <;> exact H
    obtain ⟨v, hv, key⟩ := symOp_sound (P := P) hs H' t k' (by rcases hsh with h | h <;> simp [h])
    refine ⟨v, hv, fun w => ?_⟩
    obtain ⟨z, z1, z2⟩ := key w
    exact ⟨z, hg w, z1, z2⟩
  · have hsh' : op ≠ .shl ∧ op ≠ .shr := ⟨fun e => hsh (.inl e), fun e => hsh (.inr e)⟩
    have H' : Φ (cond (kBeq k k') (symOp op k a b c) (.stuck "kinds")) := by
      cases op <;> first | exact H | exact absurd rfl hsh'.1 | exact absurd rfl hsh'.2
    have H2 := of_cond hs H'
    clear H' H
    obtain ⟨hk, H2⟩ := H2
    have := kBeq_eq hk; subst this
    obtain ⟨v, hv, key⟩ := symOp_sound (P := P) hs H2 t k (.inr (.inr rfl))
    refine ⟨v, hv, fun w => ?_⟩
    obtain ⟨z, z1, z2⟩ := key w
    exact ⟨z, hg w, z1, z2⟩

theorem binL_sound (hs : Good Φ) {op : BinOp} {t : TypeId} {x y : LV} {c : LV → Out} (H : Φ (binL P op t x y c)) :
    ∃ v, Φ (c v) ∧ ∀ σ w a b, VR σ x a → VR σ y b → ∃ z, (∀ xo yo, (eqGuard op t xo yo a b).run P w = .ok () w) ∧ (binOp op t a b).run P w = .ok z w ∧ VR σ v z := by
  unfold binL at H
  have nvl : ∀ {x : LV} {k : IntKind} {n : Int}, x.nv = .lit k n → x = .int k n := fun {x k n} h => by
    cases x <;> simp only [LV.nv, NV.lit.injEq, reduceCtorEq] at h
    obtain ⟨rfl, rfl⟩ := h; rfl
  have nvs : ∀ {x : LV} {k : IntKind} {e : SE}, x.nv = .sym k e → x = .sym k e := fun {x k e} h => by
    cases x <;> simp only [LV.nv, NV.sym.injEq, reduceCtorEq] at h
    obtain ⟨rfl, rfl⟩ := h; rfl
  have sym : ∀ {k k' : IntKind} {a b : SE}, (∀ σ z, VR σ x z → z = .int k a.ev) → (∀ σ z, VR σ y z → z = .int k' b.ev) → Φ (symL op k a k' b c) →
      ∃ v, Φ (c v) ∧ ∀ σ w a b, VR σ x a → VR σ y b → ∃ z, (∀ xo yo, (eqGuard op t xo yo a b).run P w = .ok () w) ∧ (binOp op t a b).run P w = .ok z w ∧ VR σ v z := fun hx hy H => by
    obtain ⟨v, hv, key⟩ := symL_sound hs H t
    refine ⟨v, hv, fun σ w p q hp hq => ?_⟩
    rw [hx σ p hp, hy σ q hq]
    obtain ⟨z, z0, z1, z2⟩ := key w
    exact ⟨z, z0, z1, z2 σ⟩
  split at H
  · rename_i k a k' b hx hy
    have hx := nvl hx
    have hy := nvl hy
    subst hx; subst hy
    rw [litB_eq] at H
    have hg : ∀ (w : World) xo yo, (eqGuard op t xo yo (.int k a) (.int k' b)).run P w = .ok () w := fun w xo yo => by cases op <;> rfl
    by_cases hsh : op = .shl ∨ op = .shr
    · have H' : Φ (intOp op k a b c) := by rcases hsh with rfl | rfl <;> exact H
      obtain ⟨v, hv, key⟩ := shOp_sound hs H' hsh t k'
      refine ⟨v, hv, fun σ w x y hx hy => ?_⟩
      simp only [VR] at hx hy; subst hx; subst hy
      obtain ⟨z, z1, z2⟩ := key w
      exact ⟨z, hg w, z1, z2 σ⟩
    · have hsh' : op ≠ .shl ∧ op ≠ .shr := ⟨fun e => hsh (.inl e), fun e => hsh (.inr e)⟩
      have H' : Φ (cond (kBeq k k') (intOp op k a b c) (.stuck "kinds")) := by
        cases op <;> first | exact H | exact absurd rfl hsh'.1 | exact absurd rfl hsh'.2
      have H2 := of_cond hs H'
      clear H' H
      obtain ⟨hk, H2⟩ := H2
      have := kBeq_eq hk; subst this
      obtain ⟨v, hv, key⟩ := intOp_sound hs H2 hsh' t
      refine ⟨v, hv, fun σ w x y hx hy => ?_⟩
      simp only [VR] at hx hy; subst hx; subst hy
      obtain ⟨z, z1, z2⟩ := key w
      exact ⟨z, hg w, z1, z2 σ⟩
  · rename_i k a k' b hx hy
    have hx := nvs hx
    have hy := nvl hy
    subst hx; subst hy
    exact sym (b := .c b) (fun σ z h => h) (fun σ z h => h) H
  · rename_i k a k' b hx hy
    have hx := nvl hx
    have hy := nvs hy
    subst hx; subst hy
    exact sym (a := .c a) (fun σ z h => h) (fun σ z h => h) H
  · rename_i hx hy
    have hx := nvs hx
    have hy := nvs hy
    subst hx; subst hy
    exact sym (fun σ z h => h) (fun σ z h => h) H
  · unfold binR0 at H
    split at H
    · rename_i a b
      cases op <;> simp only at H
      all_goals first
        | exact absurd H (hs _)
        | (refine ⟨_, H, fun σ w x y hx hy => ?_⟩
           simp only [VR] at hx hy; subst hx; subst hy
           exact ⟨_, fun xo yo => rfl, rfl, by simp [VR, sBeq_eq]⟩)
    · cases op <;> simp only at H
      all_goals first
        | exact absurd H (hs _)
        | (obtain ⟨r, hr, key⟩ := eqL_sound hs H
           refine ⟨_, hr, fun σ w x y hx hy => ?_⟩
           obtain ⟨k1, k2, k3⟩ := key σ w x y hx hy
           first
             | exact ⟨_, fun xo yo => k1 _ xo yo, k2, VR_mkB rfl⟩
             | exact ⟨_, fun xo yo => k1 _ xo yo, k3, VR_mkB mkNot_ev⟩)

theorem unL_sound (hs : Good Φ) {op : UnOp} {x : LV} {c : LV → Out} (H : Φ (unL op x c)) :
    ∃ v, Φ (c v) ∧ ∀ σ w a, VR σ x a → ∃ z, (Op.unary op a).run P w = .ok z w ∧ VR σ v z := by
  unfold unL at H
  split at H
  · refine ⟨_, H, fun σ w a ha => ?_⟩
    simp only [VR] at ha; subst ha
    exact ⟨_, rfl, by simp [VR]⟩
  · refine ⟨_, H, fun σ w a ha => ?_⟩
    simp only [VR] at ha; subst ha
    exact ⟨_, rfl, by simp [VR]⟩
  · rename_i k n
    simp only [bitI] at H
    refine ⟨_, H, fun σ w a ha => ?_⟩
    simp only [VR] at ha; subst ha
    refine ⟨_, rfl, ?_⟩
    cases k <;> simp [VR, IntKind.signed]
  · refine ⟨_, H, fun σ w a ha => ?_⟩
    simp only [VR] at ha; subst ha
    exact ⟨_, rfl, VR_mkB mkNot_ev⟩
  · refine ⟨_, H, fun σ w a ha => ?_⟩
    simp only [VR] at ha; subst ha
    exact ⟨_, rfl, VR_mkI mkBin_ev⟩
  · rename_i k e
    refine ⟨_, H, fun σ w a ha => ?_⟩
    simp only [VR] at ha; subst ha
    refine ⟨_, rfl, VR_mkI ?_⟩
    rw [mkBin_ev]
    cases k <;> simp [opI, bitI, SE.ev, IntKind.signed]
  · exact absurd H (hs _)

theorem fieldAddrL_sound (hs : Good Φ) {s : TypeId} {x : LV} {f : Nat} {c : LV → Out} (H : Φ (fieldAddrL P s x f c)) :
    ∃ v, Φ (c v) ∧ ∀ σ w a, VR σ x a → ∃ z, (Instr.fieldAt s a f).run P w = .ok z w ∧ VR σ v z := by
  unfold fieldAddrL at H
  split at H
  · rename_i fs hu
    split at H
    · rename_i fl id i off ix hf
      cases hn : szOf P fl.type with
      | none => simp only [hn] at H; exact absurd H (hs _)
      | some n =>
        simp only [hn] at H
        obtain ⟨h0, H⟩ := of_cond0 hs H
        rw [beq_f] at h0
        refine ⟨_, H, fun σ w a ha => ?_⟩
        simp only [VR] at ha
        obtain ⟨p, hp, hi, hix, rfl⟩ := ha
        have hf' : fs[f]? = some fl := by rw [← hf]; simp
        refine ⟨_, by simp only [Instr.fieldAt, Sem.run_bind, run_underlying hu, Result.andThen_ok, hf', Instr.sureAddr, Sem.run_pure, fieldPlace, run_szOf hn, Sem.run_ite, h0, if_false]; rfl, ?_⟩
        simp only [VR]
        refine ⟨p, hp, hi, hix, ?_⟩
        unfold Addr.add
        split
        · rename_i e; simp [plAddr, e]
        · simp only [plAddr]; congr 3; omega
    · rename_i fl id i off hf
      cases hn : szOf P fl.type with
      | none => simp only [hn] at H; exact absurd H (hs _)
      | some n =>
        simp only [hn] at H
        obtain ⟨h0, H⟩ := of_cond0 hs H
        rw [beq_f] at h0
        refine ⟨_, H, fun σ w a ha => ?_⟩
        simp only [VR] at ha
        obtain ⟨p, hp, hi, hix, rfl⟩ := ha
        have hf' : fs[f]? = some fl := by rw [← hf]; simp
        refine ⟨_, by simp only [Instr.fieldAt, Sem.run_bind, run_underlying hu, Result.andThen_ok, hf', Instr.sureAddr, Sem.run_pure, fieldPlace, run_szOf hn, Sem.run_ite, h0, if_false]; rfl, ?_⟩
        simp only [VR]
        refine ⟨p, hp, hi, hix, ?_⟩
        unfold Addr.add
        split
        · rename_i e; simp [plAddr, e]
        · simp only [plAddr]; congr 3; omega
    · exact absurd H (hs _)
  · exact absurd H (hs _)
theorem inR_spec {j : Int} {n : Nat} (h : inR j n = true) : (0 ≤ j ∧ j < (n : Int)) ∧ j.toNat < n := by
  simp only [inR, Bool.and_eq_true, decide_eq_true_eq] at h
  exact ⟨h, by omega⟩
theorem ixOk_append {l m : List (Nat × Nat × Nat)} (h : ixOk l) (k : ixOk m) : ixOk (l ++ m) := by
  induction l with
  | nil => simpa using k
  | cons a l ih => exact ⟨h.1, ih h.2⟩
theorem ixSum_append (l m : List (Nat × Nat × Nat)) : ixSum (l ++ m) = ixSum l + ixSum m := by
  induction l with
  | nil => simp [ixSum]
  | cons a l ih => simp [ixSum, ih, Nat.add_assoc]
theorem add_plAddr (p : Place) (i off n : Nat) : (plAddr p i off).add n = plAddr p i (off + n) := by
  unfold Addr.add
  split
  · rename_i e; simp [e]
  · simp only [plAddr]; congr 1; omega

theorem seqEs_sound {σ : Sg} {h : LH} {w : World} (s : Sim P fl σ h w) {id : Nat} {e : TypeId} (hb : seqEs P h id e = true) {p : Place} (hp : σ id = some p) : szOf P e = some p.es := by
  unfold seqEs seqB at hb
  split at hb
  · rename_i n get e' own ho
    obtain ⟨p', ob, h1, h2, h3, _⟩ := s id _ ho
    rw [hp] at h1; cases h1
    obtain ⟨_, _, _, _, _, hz, _⟩ := h3
    cases he : Nat.beq e e' with
    | true => rw [beq_t] at he; subst he; exact hz
    | false =>
      simp only [he, cond_false, hz] at hb
      cases hy : szOf P e with
      | none => simp [hy] at hb
      | some a => simp only [hy, beq_t] at hb; rw [hb]
  · cases hb
theorem byteT_of {e : TypeId} (h : byteT P e = true) : P.underlying e = some (.int .u8) ∧ szOf P e = some 1 := by
  unfold byteT at h
  split at h
  · rename_i hu
    cases hz : szOf P e with
    | none => simp [hz] at h
    | some n =>
      simp only [hz, beq_t] at h; subst h
      exact ⟨hu, rfl⟩
  · cases h
theorem numsOf_spec {get : Nat → List LV} : ∀ {n s : Nat} {l : List Int}, numsOf get s n = some l → l.length = n ∧ ∀ i, i < n → get (s + i) = [.int .u8 (l.getD i 0)]
  | 0, s, l, h => by
    simp only [numsOf, Option.some.injEq] at h; subst h
    exact ⟨rfl, fun i hi => by omega⟩
  | n + 1, s, l, h => by
    unfold numsOf at h
    split at h
    · rename_i z hz
      cases hr : numsOf get (s + 1) n with
      | none => simp [hr] at h
      | some l' =>
        simp only [hr, Option.some.injEq] at h; subst h
        obtain ⟨h1, h2⟩ := numsOf_spec hr
        refine ⟨by simp [h1], fun i hi => ?_⟩
        cases i with
        | zero => simpa using hz
        | succ i =>
          have := h2 i (by omega)
          rw [show s + (i + 1) = s + 1 + i by omega, this]
          simp [List.getD_eq_getElem?_getD]
    · cases h
theorem convL_sound (hs : Good Φ) {s d : TypeId} {x : LV} {h : LH} {c : LV → Out} (H : Φ (convL P s d x h c)) :
    ∃ v, Φ (c v) ∧ ∀ {fl : Nat} σ w a, VR σ x a → Sim P fl σ h w → ∃ z, (convert s d a).run P w = .ok z w ∧ VR σ v z := by
  unfold convL at H
  split at H
  · rename_i h1 h2
    refine ⟨_, H, fun σ w a ha sim => ?_⟩
    simp only [VR] at ha; subst ha
    exact ⟨_, by simp only [convert, Sem.run_bind, run_underlying h1, run_underlying h2, Result.andThen_ok]; rfl, by simp [VR]⟩
  · rename_i h1 h2
    refine ⟨_, H, fun σ w a ha sim => ?_⟩
    simp only [VR] at ha; subst ha
    exact ⟨_, by simp only [convert, Sem.run_bind, run_underlying h1, run_underlying h2, Result.andThen_ok]; rfl, VR_mkI mkWr_ev⟩
  · rename_i h1 h2
    refine ⟨_, H, fun σ w a ha sim => ?_⟩
    simp only [VR] at ha; subst ha
    exact ⟨_, by simp only [convert, Sem.run_bind, run_underlying h1, run_underlying h2, Result.andThen_ok]; rfl, by simp [VR]⟩
  · rename_i e h1 h2
    obtain ⟨hb, H⟩ := of_cond hs H
    obtain ⟨he, _⟩ := byteT_of hb
    refine ⟨_, H, fun σ w a ha sim => ?_⟩
    simp only [VR] at ha; subst ha
    exact ⟨_, run_convert_bytes_nil w s e h1 he 0 0 d h2, by simp [VR]⟩
  · rename_i e id st n h1 h2
    obtain ⟨hb, H⟩ := of_cond hs H
    obtain ⟨hb, hsq⟩ := of_condF' hb
    obtain ⟨he, hz⟩ := byteT_of hb
    unfold bytesL at H
    split at H
    · rename_i m get e' own ho
      obtain ⟨hle, H⟩ := of_cond hs H
      rw [Nat.ble_eq] at hle
      split at H
      · rename_i l hl
        obtain ⟨hln, hget⟩ := numsOf_spec hl
        refine ⟨_, H, fun σ w a ha sim => ?_⟩
        simp only [VR] at ha
        obtain ⟨p, hp, hi, hcap, ha⟩ := ha
        rcases ha with rfl | ⟨rfl, hs', h0, A, rfl⟩
        · have hps := seqEs_sound sim hsq hp
          rw [hz] at hps
          simp only [Option.some.injEq] at hps
          obtain ⟨p', ob, g1, g2, g3, _⟩ := sim id _ ho
          rw [hp] at g1; cases g1
          obtain ⟨cs, el, fz, rfl, gn, _, _, _, gi, _⟩ := g3
          have hcell : ∀ i, i < n → w.cell? ⟨p.blk, p.off + st + i, none⟩ = some (.int .u8 (l.getD i 0)) := fun i hi' => by
            obtain ⟨xs, x1, x2, x3, _⟩ := gi (st + i) (by omega)
            have hg := hget i (by omega)
            rw [hg] at x1
            obtain ⟨y, ys, rfl, hy, hys⟩ := x1
            simp only [VR] at hy
            have := x3 0 (by omega)
            simp only [← hps, Nat.mul_one, Nat.add_zero] at this
            rw [cell?_cells g2, Nat.add_assoc, this]
            simp [hy]
          have := run_convert_bytes_arg w s e h1 he p.blk (p.off + st) n (p.cap - st) l hln hcell d h2
          refine ⟨.string (strN l), ?_, by simp [VR]⟩
          have he2 : plAddr p st 0 = ⟨p.blk, p.off + st, none⟩ := by simp [plAddr, ← hps]
          rw [he2]; exact this
        · refine ⟨.string (strN l), ?_, by simp [VR]⟩
          have hl0 : l = [] := List.length_eq_zero_iff.1 hln
          subst hl0
          have := run_convert_bytes_arg w s e h1 he A.block A.off 0 0 [] rfl (fun i hi => by omega) d h2
          rw [run_convert_bytes_string w s d e _ 0 0 h1 he h2]
          simp [Conv.bytesToString, loadCells, loadCellsFrom, strN]
          rfl
      · exact absurd H (hs _)
    · exact absurd H (hs _)
  · exact absurd H (hs _)

theorem ixOf_sound (hs : Good Φ) {i : LV} {n : Nat} {k : Nat → Out} (H : Φ (ixOf i n k)) : ∃ j, j < n ∧ Φ (k j) ∧ ∀ σ b, VR σ i b → ∃ kk, b = .int kk (j : Int) := by
  unfold ixOf at H
  split at H
  · rename_i kk z
    obtain ⟨hb, H⟩ := of_lif hs H
    obtain ⟨hj, hj'⟩ := inR_spec hb
    refine ⟨z.toNat, hj', H, fun σ b hb => ⟨kk, ?_⟩⟩
    simp only [VR] at hb
    rw [hb]; congr 1; omega
  · rename_i kk e
    obtain ⟨j, h1, h2, H⟩ := of_idx hs H
    refine ⟨j, h2, H, fun σ b hb => ⟨kk, ?_⟩⟩
    simp only [VR] at hb
    rw [hb, h1]
  · exact absurd H (hs _)
theorem se_sound {i : LV} {e : SE} (h : i.se = some e) {σ : Sg} {b : Value} (hb : VR σ i b) : ∃ k, b = .int k e.ev := by
  unfold LV.se at h
  split at h
  · simp only [Option.some.injEq] at h; subst h
    exact ⟨_, hb⟩
  · simp only [Option.some.injEq] at h; subst h
    exact ⟨_, hb⟩
  · cases h
theorem lstAt_sound (hs : Good Φ) {t : TypeId} {id : Nat} {len : SE} {i : LV} {c : LV → Out} {h : LH} (H : Φ (lstAt P t id len i h c)) :
    ∃ v, Φ (c v) ∧ ∀ {fl : Nat} σ w a b, VR σ (.os id len) a → VR σ i b → Sim P fl σ h w → ∃ z, (Instr.indexAt t a b).run P w = .ok z w ∧ VR σ v z := by
  unfold lstAt at H
  split at H
  · rename_i e j hu hj
    obtain ⟨hl, H⟩ := of_cond hs H
    rcases of_br hs H with ⟨_, H⟩ | ⟨h0, H⟩
    · exact absurd H (hs _)
    rcases of_br hs H with ⟨h1, H⟩ | ⟨_, H⟩
    · rw [mkLt_ev] at h0 h1
      have h0 : ¬ j.ev < 0 := of_decide_eq_false h0
      have h1 : j.ev < len.ev := of_decide_eq_true h1
      refine ⟨_, H, fun σ w a b ha hb sim => ?_⟩
      obtain ⟨k, rfl⟩ := se_sound hj hb
      simp only [VR] at ha
      rcases ha with ⟨p, hp, hn, cp, hc, rfl⟩ | ⟨hz, _⟩
      · have hes : szOf P e = some p.es := by
          unfold lstB at hl
          cases hg : h.get id with
          | none => simp [hg] at hl
          | some o =>
            cases o with
            | lst jj ks e' =>
              simp only [hg] at hl
              rw [beq_t] at hl; subst hl
              obtain ⟨p', ob, g1, _, g3, _⟩ := sim id _ hg
              rw [hp] at g1; cases g1
              obtain ⟨_, _, _, _, g4, _⟩ := g3
              exact g4
            | _ => simp [hg] at hl
        have hlo : (0 : Int) ≤ j.ev := by omega
        have hhi : j.ev < (p.n : Int) := by omega
        refine ⟨_, by simp [Instr.indexAt, Sem.run_bind, run_underlying hu, asIntOf, hlo, hhi, run_szOf hes]; rfl, ?_⟩
        simp only [VR]
        refine ⟨p, hp, hlo, hhi, ?_⟩
        rw [add_plAddr]
        simp only [plAddr]
        congr 3; omega
      · omega
    · exact absurd H (hs _)
  · exact absurd H (hs _)
theorem indexAt_sound (hs : Good Φ) {t : TypeId} {x i : LV} {c : LV → Out} {h : LH} (H : Φ (indexAt P t x h (ixOf i) c)) :
    ∃ v, Φ (c v) ∧ ∀ {fl : Nat} σ w a b, VR σ x a → VR σ i b → Sim P fl σ h w → ∃ z, (Instr.indexAt t a b).run P w = .ok z w ∧ VR σ v z := by
  unfold indexAt at H
  split at H
  · rename_i n e id k off hu
    cases hz : szOf P e with
    | none => simp only [hz] at H; exact absurd H (hs _)
    | some sz =>
      simp only [hz] at H
      obtain ⟨j, hj', H, key⟩ := ixOf_sound hs H
      have hj : (0 : Int) ≤ j ∧ (j : Int) < (n : Int) := by omega
      refine ⟨_, H, fun σ w a b ha hb sim => ?_⟩
      simp only [VR] at ha
      obtain ⟨kk, rfl⟩ := key σ b hb
      obtain ⟨p, hp, hi, hix, rfl⟩ := ha
      refine ⟨_, by simp [Instr.indexAt, Sem.run_bind, run_underlying hu, asIntOf, Instr.sureAddr, hj, hj', run_szOf hz]; rfl, ?_⟩
      simp only [VR]
      refine ⟨p, hp, hi, trivial, ?_⟩
      rw [add_plAddr]
      simp [ixSum]
  · rename_i e id s n hu
    obtain ⟨hes, H⟩ := of_cond hs H
    obtain ⟨j, hj', H, key⟩ := ixOf_sound hs H
    have hj : (0 : Int) ≤ j ∧ (j : Int) < (n : Int) := by omega
    refine ⟨_, H, fun σ w a b ha hb sim => ?_⟩
    simp only [VR] at ha
    obtain ⟨kk, rfl⟩ := key σ b hb
    obtain ⟨p, hp, hi, hcap, ha⟩ := ha
    rcases ha with rfl | ⟨rfl, _⟩
    · have hz := seqEs_sound sim hes hp
      refine ⟨_, by simp [Instr.indexAt, Sem.run_bind, run_underlying hu, asIntOf, hj, hj', run_szOf hz]; rfl, ?_⟩
      simp only [VR]
      refine ⟨p, hp, by omega, trivial, ?_⟩
      rw [add_plAddr]
      simp only [plAddr, ixSum, Nat.add_mul]
      congr 3; omega
    · omega
  · rename_i e id off es n cap hu
    cases hz : szOf P e with
    | none => simp only [hz] at H; exact absurd H (hs _)
    | some sz =>
      simp only [hz] at H
      obtain ⟨hsz, H⟩ := of_cond hs H
      rw [beq_t] at hsz; subst hsz
      obtain ⟨j, hj', H, key⟩ := ixOf_sound hs H
      have hj : (0 : Int) ≤ j ∧ (j : Int) < (n : Int) := by omega
      refine ⟨_, H, fun σ w a b ha hb sim => ?_⟩
      simp only [VR] at ha
      obtain ⟨kk, rfl⟩ := key σ b hb
      obtain ⟨p, hp, h0, hnc, ha⟩ := ha
      rcases ha with rfl | ⟨rfl, _⟩
      · refine ⟨_, by simp [Instr.indexAt, Sem.run_bind, run_underlying hu, asIntOf, hj, hj', run_szOf hz]; rfl, ?_⟩
        simp only [VR]
        refine ⟨p, hp, h0, trivial, ?_⟩
        rw [add_plAddr]
        simp [ixSum]
      · omega
  · exact absurd H (hs _)
theorem indexAddrL_sound (hs : Good Φ) {t : TypeId} {x i : LV} {c : LV → Out} {h : LH} (H : Φ (indexAddrL P t x i h c)) :
    ∃ v, Φ (c v) ∧ ∀ {fl : Nat} σ w a b, VR σ x a → VR σ i b → Sim P fl σ h w → ∃ z, (Instr.indexAt t a b).run P w = .ok z w ∧ VR σ v z := by
  unfold indexAddrL at H
  split at H
  · exact lstAt_sound hs H
  · exact indexAt_sound hs H
end Go.Proofs.Ytigilihpofafoaa.Loc
