/- The small machine of local values: maps. -/
import Derived.Test.YtigilihpofafoaaLocR4
import Derived.MapKept
namespace Go.Proofs.Ytigilihpofafoaa.Loc
open Go
set_option linter.unusedVariables false
set_option linter.unusedSimpArgs false
set_option linter.unusedSectionVars false
variable [En]
variable {P : Program} {Φ : Out → Prop} {fl : Nat}

def KeyOf (kd : TypeDesc) (x : Value) : Prop := (∃ kk k n, kd = .int kk ∧ x = .int k n) ∨ (∃ s, kd = .string ∧ x = .string s)
theorem keyEq_sound {a b : LV} {r : SB} (h : keyEq a b = some r) {σ : Sg} {x y : Value} (hx : VR σ a x) (hy : VR σ b y) {kd : TypeDesc} (hk : KeyOf kd x) : Instr.sameNow kd x y = some r.ev ∧ (r.ev = true → y = x) := by
  unfold keyEq at h
  split at h
  · rename_i a b
    simp only [Option.some.injEq] at h; subst h
    simp only [VR] at hx hy; subst hx; subst hy
    rcases hk with ⟨kk, k, n, _, h⟩ | ⟨s, rfl, _⟩
    · cases h
    · have e : (a == b) = sBeq a b := by rw [sBeq_eq, beq_toListBytes]
      refine ⟨by simp only [Instr.sameNow, SB.ev, e], fun h => ?_⟩
      simp only [SB.ev] at h
      rw [← e, MapKept.bytes_beq] at h
      rw [h]
  · obtain ⟨k, p, q, rfl, rfl, hr⟩ := eqIs_sound h hx hy
    rcases hk with ⟨kk, k', n, rfl, h⟩ | ⟨s, _, h⟩
    · refine ⟨by simp [Instr.sameNow, hr], fun h => ?_⟩
      rw [hr, beq_iff_eq] at h
      rw [h]
    · cases h
theorem findGo_sound (hs : Good Φ) {i : LV} {fd : Nat → LV → Out} {nf : Out} : ∀ (es : List (LV × LV)) (n : Nat), Φ (findGo i es n fd nf) →
    (Φ nf ∧ ∀ σ x es' kd, VR σ i x → MR σ es es' → KeyOf kd x → Instr.findNow kd x es' n = some none) ∨
    (∃ j v, Φ (fd (n + j) v) ∧ ∀ σ x es' kd, VR σ i x → MR σ es es' → KeyOf kd x → ∃ e, es'[j]? = some e ∧ Instr.findNow kd x es' n = some (some (n + j, e.val)) ∧ VR σ v e.val ∧ e.key = x)
  | [], n, H => .inl ⟨H, fun σ x es' kd hx hm hk => by simp only [MR] at hm; subst hm; rfl⟩
  | p :: l, n, H => by
    unfold findGo at H
    cases hk : keyEq i p.1 with
    | none => simp only [hk] at H; exact absurd H (hs _)
    | some b =>
      simp only [hk] at H
      rcases of_br hs H with ⟨hb, H⟩ | ⟨hb, H⟩
      · refine .inr ⟨0, p.2, H, fun σ x es' kd hx hm hkd => ?_⟩
        obtain ⟨e, l', rfl, h1, h2, h3⟩ := hm
        obtain ⟨k1, k2⟩ := keyEq_sound hk hx h1 hkd
        rw [hb] at k1
        exact ⟨e, rfl, by simp [Instr.findNow, k1], h2, k2 hb⟩
      · rcases findGo_sound hs l (n + 1) H with ⟨h1, h2⟩ | ⟨j, v, h1, h2⟩
        · refine .inl ⟨h1, fun σ x es' kd hx hm hkd => ?_⟩
          obtain ⟨e, l', rfl, g1, g2, g3⟩ := hm
          obtain ⟨k1, _⟩ := keyEq_sound hk hx g1 hkd
          rw [hb] at k1
          simp only [Instr.findNow, k1]
          exact h2 σ x l' kd hx g3 hkd
        · refine .inr ⟨j + 1, v, by rw [show n + (j + 1) = n + 1 + j by omega]; exact h1, fun σ x es' kd hx hm hkd => ?_⟩
          obtain ⟨e, l', rfl, g1, g2, g3⟩ := hm
          obtain ⟨k1, _⟩ := keyEq_sound hk hx g1 hkd
          rw [hb] at k1
          obtain ⟨e', f1, f2, f3, f4⟩ := h2 σ x l' kd hx g3 hkd
          refine ⟨e', by simpa using f1, ?_, f3, f4⟩
          simp only [Instr.findNow, k1, f2]
          rw [show n + 1 + j = n + (j + 1) by omega]
theorem keyT_of {kt : TypeId} {k : LV} (h : keyT P kt k = true) {σ : Sg} {x : Value} (hx : VR σ k x) : ∃ kd, P.underlying kt = some kd ∧ KeyOf kd x := by
  unfold keyT at h
  split at h
  · rename_i kk _ _ hu
    simp only [VR] at hx
    exact ⟨_, hu, .inl ⟨kk, _, _, rfl, hx⟩⟩
  · rename_i kk _ _ hu
    simp only [VR] at hx
    exact ⟨_, hu, .inl ⟨kk, _, _, rfl, hx⟩⟩
  · rename_i hu
    simp only [VR] at hx
    exact ⟨_, hu, .inr ⟨_, rfl, hx⟩⟩
  · cases h
theorem run_checkKey {kt : TypeId} {kd : TypeDesc} (hu : P.underlying kt = some kd) {x : Value} (hk : KeyOf kd x) (b : Bool) (w : World) : (Instr.checkKey b 10000 kt x).run P w = .ok () w := by
  have key : ∀ m, (Instr.checkKey b (m + 1) kt x).run P w = .ok () w := fun m => by
    rcases hk with ⟨kk, k, n, rfl, rfl⟩ | ⟨s, rfl, rfl⟩ <;> simp [Instr.checkKey, run_underlying hu]
  exact key 9999
theorem run_findKey {kt : TypeId} {kd : TypeDesc} (hu : P.underlying kt = some kd) {x : Value} {es : List MapEntry} {r : Option (Nat × Value)} (h : Instr.findNow kd x es 0 = some r) (w : World) : (Instr.findKey kt x es).run P w = .ok r w := by
  simp [Instr.findKey, run_underlying hu, h]

theorem lookupL_sound (hs : Good Φ) {t : TypeId} {x i : LV} {ok : Bool} {h : LH} {c : LV → Out} (H : Φ (lookupL P t x i ok h c)) :
    ∃ v, Φ (c v) ∧ ∀ {fl : Nat} σ w a b, VR σ x a → VR σ i b → Sim P fl σ h w → ∃ z, (Instr.lookup t a b ok).run P w = .ok z w ∧ VR σ v z := by
  unfold lookupL at H
  split at H
  rotate_left
  · exact absurd H (hs _)
  rename_i kt et hu
  obtain ⟨hk, H⟩ := of_cond hs H
  split at H
  rotate_left
  · exact absurd H (hs _)
  rename_i cs hc
  obtain ⟨z, hz, hze⟩ := zeroL_sound hc
  have hzv : ∀ σ, VR σ (zeroL P et) z := fun σ => by rw [hze]; exact ofVal_sound z
  have fin : ∀ {v : LV} {b : Bool}, Φ (lookC ok v b c) → ∃ u, Φ (c u) ∧ ∀ σ y, VR σ v y → VR σ u (if ok then .tuple #[y, .bool b] else y) := fun {v b} H => by
    unfold lookC at H
    cases ok with
    | true => exact ⟨_, H, fun σ y hy => by simp only [if_true]; exact ⟨[y, .bool b], rfl, VRs.cons hy (VRs.cons (by simp [VR]) VRs.nil)⟩⟩
    | false => exact ⟨_, H, fun σ y hy => by simpa using hy⟩
  cases x with
  | nilm =>
    obtain ⟨u, hu', key⟩ := fin H
    refine ⟨u, hu', fun σ w a b ha hb s => ?_⟩
    simp only [VR] at ha; subst ha
    obtain ⟨kd, hkd, hko⟩ := keyT_of hk hb
    refine ⟨_, ?_, key σ z (hzv σ)⟩
    have hf : (Instr.findKey kt b ([] : List MapEntry)).run P w = .ok none w := run_findKey hkd rfl w
    simp [Instr.lookup, run_underlying hu, Sem.run_bind, run_checkKey hkd hko, hf, hz]
  | map id =>
    simp only at H
    split at H
    rotate_left
    · exact absurd H (hs _)
    rename_i es hg
    rcases findGo_sound hs es 0 H with ⟨H, hf⟩ | ⟨j, v, H, hf⟩
    · obtain ⟨u, hu', key⟩ := fin H
      refine ⟨u, hu', fun σ w a b ha hb s => ?_⟩
      simp only [VR] at ha
      obtain ⟨p, hp, rfl⟩ := ha
      obtain ⟨p', ob, g1, g2, ⟨es', ck, rfl, hm⟩, _⟩ := s id _ hg
      rw [hp] at g1; cases g1
      obtain ⟨kd, hkd, hko⟩ := keyT_of hk hb
      refine ⟨_, ?_, key σ z (hzv σ)⟩
      have hf := run_findKey hkd (hf σ b _ kd hb hm hko) w
      simp [Instr.lookup, run_underlying hu, Sem.run_bind, MapKept.run_getObj_map g2, run_checkKey hkd hko, hf, hz]
    · obtain ⟨u, hu', key⟩ := fin H
      refine ⟨u, hu', fun σ w a b ha hb s => ?_⟩
      simp only [VR] at ha
      obtain ⟨p, hp, rfl⟩ := ha
      obtain ⟨p', ob, g1, g2, ⟨es', ck, rfl, hm⟩, _⟩ := s id _ hg
      rw [hp] at g1; cases g1
      obtain ⟨kd, hkd, hko⟩ := keyT_of hk hb
      obtain ⟨e, f1, f2, f3, f4⟩ := hf σ b _ kd hb hm hko
      refine ⟨_, ?_, key σ e.val f3⟩
      have hf := run_findKey hkd f2 w
      simp [Instr.lookup, run_underlying hu, Sem.run_bind, MapKept.run_getObj_map g2, run_checkKey hkd hko, hf]
  | _ => exact absurd H (hs _)

theorem sameBits_refl {kd : TypeDesc} {x : Value} (hk : KeyOf kd x) (n : Nat) : Instr.sameBits n x x = true := by
  rcases hk with ⟨kk, k, m, rfl, rfl⟩ | ⟨s, rfl, rfl⟩
  · simp [Instr.sameBits]
  · have : (s == s) = true := (MapKept.bytes_beq s s).2 rfl
    simp [Instr.sameBits, this]
theorem MR.append {σ : Sg} {k v : LV} {e : MapEntry} (hk : VR σ k e.key) (hv : VR σ v e.val) : ∀ {es : List (LV × LV)} {l : List MapEntry}, MR σ es l → MR σ (es ++ [(k, v)]) (l ++ [e])
  | [], l, h => by simp only [MR] at h; subst h; exact ⟨e, [], rfl, hk, hv, rfl⟩
  | p :: es, _, ⟨e', l', h1, h2, h3, h4⟩ => by subst h1; exact ⟨e', l' ++ [e], rfl, h2, h3, h4.append hk hv⟩
theorem MR.rep {σ : Sg} {k v : LV} {f : MapEntry → MapEntry} (hk : ∀ e, VR σ k (f e).key) (hv : ∀ e, VR σ v (f e).val) : ∀ {es : List (LV × LV)} {l : List MapEntry} (j : Nat), MR σ es l → MR σ (repM es j (k, v)) (l.modify j f)
  | [], l, j, h => by
    simp only [MR] at h; subst h
    simp [repM, MR]
  | p :: es, _, 0, ⟨e', l', h1, h2, h3, h4⟩ => by
    subst h1
    exact ⟨f e', l', by simp, hk _, hv _, h4⟩
  | p :: es, _, j + 1, ⟨e', l', h1, h2, h3, h4⟩ => by
    subst h1
    exact ⟨e', l'.modify j f, by simp, h2, h3, h4.rep hk hv j⟩

theorem insertL_sound (hs : Good Φ) {t : TypeId} {m k v : LV} {h : LH} {c : LH → Out} (H : Φ (insertL P fl t m k v h c)) :
    ∃ h', Φ (c h') ∧ ∀ σ w x y z, VR σ m x → VR σ k y → VR σ v z → Sim P fl σ h w → ∃ w', (Instr.mapUpdate t x y z).run P w = .ok () w' ∧ Sim P fl σ h' w' ∧ Step fl σ h w σ h' w' := by
  unfold insertL at H
  split at H
  rotate_left
  · exact absurd H (hs _)
  rename_i kt et hu
  obtain ⟨hk, H⟩ := of_cond hs H
  cases m with
  | map id =>
    simp only at H
    obtain ⟨hfl, H⟩ := of_cond hs H
    rw [Nat.ble_eq] at hfl
    split at H
    rotate_left
    · exact absurd H (hs _)
    rename_i es hg
    have heap : ∀ (w : World) (b : Nat) (o : Obj) (hb : b < w.heap.size), ({ w with heap := w.heap.setIfInBounds b o } : World).heap.size = w.heap.size ∧
        (∀ j, j ≠ b → ({ w with heap := w.heap.setIfInBounds b o } : World).heap[j]? = w.heap[j]?) ∧ ({ w with heap := w.heap.setIfInBounds b o } : World).heap[b]? = some o := fun w b o hb =>
      ⟨by simp, fun j hj => by simp only; exact Array.getElem?_setIfInBounds_ne (fun e => hj e.symm), by simp [hb]⟩
    rcases findGo_sound hs es 0 H with ⟨H, hf⟩ | ⟨j, u, H, hf⟩
    · refine ⟨_, H, fun σ w x y z hx hy hz s => ?_⟩
      simp only [VR] at hx
      obtain ⟨p, hp, rfl⟩ := hx
      obtain ⟨p', ob, g1, g2, ⟨es', ck, rfl, hm⟩, _⟩ := s id _ hg
      rw [hp] at g1; cases g1
      obtain ⟨kd, hkd, hko⟩ := keyT_of hk hy
      have hf := run_findKey hkd (hf σ y _ kd hy hm hko) w
      obtain ⟨f1, f2, f3⟩ := heap w p.blk (.map (es'.push { key := y, val := z, born := ck }) (ck + 1)) (Array.getElem?_eq_some_iff.1 g2).1
      refine ⟨_, ?_, s.put hg ⟨hfl, rfl⟩ rfl hp f1 f2 f3 rfl rfl rfl ⟨_, _, rfl, ?_⟩⟩
      · simp [Instr.mapUpdate, run_underlying hu, Sem.run_bind, MapKept.run_getObj_map g2, run_checkKey hkd hko, hf, MapKept.run_setObj_map _ g2]
      · rw [Array.toList_push]; exact hm.append (e := { key := y, val := z, born := ck }) hy hz
    · refine ⟨_, H, fun σ w x y z hx hy hz s => ?_⟩
      simp only [VR] at hx
      obtain ⟨p, hp, rfl⟩ := hx
      obtain ⟨p', ob, g1, g2, ⟨es', ck, rfl, hm⟩, _⟩ := s id _ hg
      rw [hp] at g1; cases g1
      obtain ⟨kd, hkd, hko⟩ := keyT_of hk hy
      obtain ⟨e, k1, k2, k3, k4⟩ := hf σ y _ kd hy hm hko
      have hf := run_findKey hkd k2 w
      have hkey : ((es'[0 + j]?).map (·.key)).getD y = y := by
        rw [Nat.zero_add]
        have : es'[j]? = some e := by rw [← Array.getElem?_toList]; exact k1
        rw [this]; simp [k4]
      have hst : (Instr.keyThatStays y y).run P w = .ok y w := by simp [Instr.keyThatStays, sameBits_refl hko]
      obtain ⟨f1, f2, f3⟩ := heap w p.blk (.map (es'.modify (0 + j) fun e => { e with key := y, val := z }) ck) (Array.getElem?_eq_some_iff.1 g2).1
      refine ⟨_, ?_, s.put hg ⟨hfl, rfl⟩ rfl hp f1 f2 f3 rfl rfl rfl ⟨_, _, rfl, ?_⟩⟩
      · simp only [Instr.mapUpdate, run_underlying hu, Sem.run_bind, MapKept.run_getObj_map g2, run_checkKey hkd hko, hf, Result.andThen_ok, hkey, hst, MapKept.run_setObj_map _ g2]
      · rw [Array.toList_modify]
        exact hm.rep (f := fun e => { e with key := y, val := z }) (fun _ => hy) (fun _ => hz) (0 + j)
  | _ => exact absurd H (hs _)
end Go.Proofs.Ytigilihpofafoaa.Loc
