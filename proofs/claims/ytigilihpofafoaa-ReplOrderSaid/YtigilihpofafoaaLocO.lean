/- The small machine of local values: its operations tell what the model's do. Part 2: reading and writing. -/
import Derived.Test.YtigilihpofafoaaLocM
namespace Go.Proofs.Ytigilihpofafoaa.Loc
open Go
set_option linter.unusedVariables false
set_option linter.unusedSimpArgs false
set_option linter.unusedSectionVars false
variable [En]
variable {P : Program} {Φ : Out → Prop} {fl : Nat}

theorem lget_lt {l : List LV} {n : Nat} (h : lget l n ≠ .undef) : n < l.length := by
  rw [lget_eq] at h
  rcases Nat.lt_or_ge n l.length with h' | h'
  · exact h'
  · rw [List.getElem?_eq_none h'] at h; exact absurd rfl h
theorem cellAs_in {cells : List LV} {off : Nat} {ix : List (Nat × Nat × Nat)} {z : LV} (h : (cellAs cells off ix z).isSc = true) (hi : ixOk ix) : off + ixSum ix < cells.length := by
  cases ix with
  | nil =>
    simp only [cellAs, ixSum, Nat.add_zero] at h ⊢
    exact lget_lt fun e => by rw [e] at h; cases h
  | cons a l =>
    have key : (lget cells (off + ixSum (a :: l))).isSc = true → off + ixSum (a :: l) < cells.length := fun h => lget_lt fun e => by rw [e] at h; cases h
    cases z <;> simp only [cellAs] at h <;> try exact key h
    · cases hc : ixAll (fun o => (lget cells o).isBool) off (a :: l) with
      | false => simp [hc, LV.isSc] at h
      | true =>
        have hb := LV.isBool_spec (ixAll_spec hc hi)
        exact lget_lt fun e => by rw [e] at hb; cases hb
    · rename_i k _
      cases hc : ixAll (fun o => (lget cells o).isInt k) off (a :: l) with
      | false => simp [hc, LV.isSc] at h
      | true =>
        have hb := LV.isInt_spec (ixAll_spec hc hi)
        exact lget_lt fun e => by rw [e] at hb; cases hb

theorem cellsAs_sound {σ : Sg} {cells : List LV} {xs : List Value} (h : VRs σ cells xs) {ix : List (Nat × Nat × Nat)} (hi : ixOk ix) : ∀ (zs : List LV) (off : Nat), allSc (cellsAs cells ix off zs) = true →
    (zs = [] ∨ off + ixSum ix + zs.length ≤ xs.length) ∧ VRs σ (cellsAs cells ix off zs) ((xs.drop (off + ixSum ix)).take zs.length)
  | [], off, _ => by simp [cellsAs, VRs]
  | z :: zs, off, hs => by
    simp only [cellsAs, allSc] at hs
    cases hv : (cellAs cells off ix z).isSc with
    | false => simp [hv] at hs
    | true =>
      simp only [hv, cond_true] at hs
      have hin := cellAs_in hv hi
      have hl := h.length
      obtain ⟨ih1, ih2⟩ := cellsAs_sound h hi zs (off + 1) hs
      have hx : xs[off + ixSum ix]? = some xs[off + ixSum ix] := List.getElem?_eq_getElem (by omega)
      have hone := cellAs_sound h hi z hx
      refine ⟨.inr ?_, ?_⟩
      · rcases ih1 with rfl | ih1
        · simp; omega
        · simp; omega
      · rw [List.drop_eq_getElem_cons (by omega)]
        simp only [List.length_cons, List.take_succ_cons, cellsAs]
        have e : off + 1 + ixSum ix = off + ixSum ix + 1 := by omega
        rw [e] at ih2
        exact VRs.cons hone ih2

theorem cellsAs_length {cells : List LV} {ix : List (Nat × Nat × Nat)} : ∀ (zs : List LV) (off : Nat), (cellsAs cells ix off zs).length = zs.length
  | [], _ => rfl
  | z :: zs, off => by simp [cellsAs, cellsAs_length zs (off + 1)]

/-- a value of type 't' among the cells 'xs' at 'o' -/
def PartOf (d : TypeDesc) (n : Nat) (xs : List Value) (o : Nat) (y : Value) : Prop :=
  (rowD d = true ∧ (n = 0 ∨ o + n ≤ xs.length) ∧ y = .agg ((xs.drop o).take n).toArray) ∨ (rowD d = false ∧ xs[o]? = some y)

theorem partL_sound (hs : Good Φ) {t : TypeId} {cells : List LV} {off : Nat} {ix : List (Nat × Nat × Nat)} {k : LV → Out} (H : Φ (partL P t cells off ix k)) :
    ∃ v n d, szOf P t = some n ∧ P.underlying t = some d ∧ Φ (k v) ∧ ∀ σ xs, VRs σ cells xs → ixOk ix → ∃ y, PartOf d n xs (off + ixSum ix) y ∧ VR σ v y := by
  unfold partL at H
  cases hn : szOf P t with
  | none => simp only [hn] at H; exact absurd H (hs _)
  | some n =>
    cases hd : P.underlying t with
    | none => simp only [hn, hd] at H; exact absurd H (hs _)
    | some d =>
      simp only [hn, hd] at H
      cases hr : rowD d with
      | true =>
        simp only [hr, cond_true] at H
        cases ix with
        | nil =>
          simp only [aggR] at H
          obtain ⟨hb, H⟩ := of_cond hs H
          rw [beq_t, llen_eq, ltake_eq, ldrop_eq] at hb
          refine ⟨_, n, d, rfl, rfl, H, fun σ xs hv _ => ⟨_, .inl ⟨hr, ?_, rfl⟩, ?_⟩⟩
          · simp only [List.length_take, List.length_drop] at hb
            have := hv.length
            simp only [ixSum]
            rcases Nat.eq_zero_or_pos n with h0 | h0
            · exact .inl h0
            · exact .inr (by omega)
          · rw [ltake_eq, ldrop_eq]
            exact ⟨_, rfl, by simpa [ixSum] using (hv.drop off).take n⟩
        | cons a l =>
          cases hz : zeroL P t with
          | agg zs =>
            simp only [hz, aggX] at H
            obtain ⟨hb, H⟩ := of_cond hs H
            simp only [Bool.and_eq_true] at hb
            obtain ⟨hb1, hb2⟩ := hb
            rw [beq_t, llen_eq, cellsAs_length] at hb1
            refine ⟨_, n, d, rfl, rfl, H, fun σ xs hv hi => ?_⟩
            obtain ⟨q1, q2⟩ := cellsAs_sound hv hi zs off hb2
            refine ⟨_, .inl ⟨hr, ?_, rfl⟩, ⟨_, rfl, by rw [← hb1]; exact q2⟩⟩
            rcases q1 with rfl | q1
            · exact .inl hb1.symm
            · exact .inr (by omega)
          | _ => simp only [hz] at H; exact absurd H (hs _)
      | false =>
        simp only [hr, cond_false, scR] at H
        obtain ⟨hb, H⟩ := of_cond hs H
        refine ⟨_, n, d, rfl, rfl, H, fun σ xs hv hi => ?_⟩
        have hin := cellAs_in hb hi
        have hl := hv.length
        exact ⟨xs[off + ixSum ix], .inr ⟨hr, List.getElem?_eq_getElem (by omega)⟩, cellAs_sound hv hi _ (List.getElem?_eq_getElem (by omega))⟩

theorem PartOf.load {d : TypeDesc} {n : Nat} {xs : List Value} {o : Nat} {y : Value} (h : PartOf d n xs o y) {t : TypeId} (hn : szOf P t = some n) (hd : P.underlying t = some d) {w : World} {b B : Nat}
    (hw : ∀ (j : Nat) (x : Value), xs[j]? = some x → w.cell? ⟨b, B + j, none⟩ = some x) : (loadVar t ⟨b, B + o, none⟩).run P w = .ok y w := by
  rcases h with ⟨h1, h2, rfl⟩ | ⟨h1, h2⟩
  · have hl : ((xs.drop o).take n).length = n := by
      rcases h2 with rfl | h2
      · simp
      · simp; omega
    have := run_loadCells_list (P := P) w ⟨b, B + o, none⟩ ((xs.drop o).take n) (fun j v hv => by
      rw [Addr.add_mid]
      have hj : j < n := by have := (List.getElem?_eq_some_iff.1 hv).1; omega
      rw [List.getElem?_take_of_lt hj, List.getElem?_drop] at hv
      rw [Nat.add_assoc]; exact hw _ _ hv)
    rw [hl] at this
    simp [loadVar, Sem.run_bind, run_isAgg hd, h1, run_szOf hn, this]
  · simp [loadVar, Sem.run_bind, run_isAgg hd, h1, hw _ _ h2]
theorem PartOf.part {d : TypeDesc} {n : Nat} {xs : List Value} {o : Nat} {y : Value} (h : PartOf d n xs o y) {t : TypeId} (hn : szOf P t = some n) (hd : P.underlying t = some d) {w : World} :
    (part t xs.toArray o).run P w = .ok y w := by
  rcases h with ⟨h1, h2, rfl⟩ | ⟨h1, h2⟩
  · simp only [Go.part, Sem.run_bind, run_isAgg hd, h1, run_szOf hn, Result.andThen_ok, Sem.run_ite, if_true, Sem.run_pure]
    congr 2
    rw [List.extract_toArray]
    congr 1
    simp
  · simp [Go.part, Sem.run_bind, run_isAgg hd, h1, h2]

theorem cell?_cells {w : World} {b o : Nat} {c : Array Value} {e : TypeId} {fz : Nat × Nat} (h : w.heap[b]? = some (.cells c e fz)) : w.cell? ⟨b, o, none⟩ = c[o]? := by
  simp [World.cell?, h]
theorem frozen?_cells {w : World} {b o : Nat} {c : Array Value} {e : TypeId} (h : w.heap[b]? = some (.cells c e (0, 0))) : w.frozen? ⟨b, o, none⟩ = false := by
  simp [World.frozen?, h]

theorem cellsAt_sound {h : LH} {id i : Nat} {cs : List LV} (H : cellsAt h id i = some cs) {σ : Sg} {w : World} (s : Sim P fl σ h w) {p : Place} (hp : σ id = some p) (hi : i < p.n) :
    ∃ xs, VRs σ cs xs ∧ ∀ (j : Nat) (x : Value), xs[j]? = some x → w.cell? ⟨p.blk, p.off + i * p.es + j, none⟩ = some x := by
  unfold cellsAt at H
  cases ho : h.get id with
  | none => simp [ho] at H
  | some o =>
    obtain ⟨p', ob, h1, h2, h3, _⟩ := s id o ho
    rw [hp] at h1; cases h1
    cases o with
    | var cs' e =>
      simp only [ho] at H
      obtain ⟨g1, g2, xs, el, rfl, g3, _⟩ := h3
      have i0 : i = 0 := by omega
      subst i0
      simp only [Nat.beq, cond_true, Option.some.injEq] at H; subst H
      exact ⟨xs, g3, fun j x hx => by rw [cell?_cells h2, g1]; simpa using hx⟩
    | seq n get e own =>
      simp only [ho, Option.some.injEq] at H; subst H
      obtain ⟨c, el, fz, rfl, g1, g2, g3, g4, g5, g6⟩ := h3
      obtain ⟨xs, q1, q2, q3, q4⟩ := g5 i (by omega)
      refine ⟨xs, q1, fun j x hx => ?_⟩
      have hj : j < p.es := by have := (List.getElem?_eq_some_iff.1 hx).1; omega
      rw [cell?_cells h2, Nat.add_assoc, q3 j hj, hx]
    | _ => simp [ho] at H

theorem selCs_sound {σ : Sg} {j : Nat} {i : SE} : ∀ {ks : List Kd} {f : Nat} {xs : List Value}, xs.length = ks.length → (∀ g kd, ks[g]? = some kd → xs[g]? = some (kdV kd (En.rho (selI j (f + g) i.ev)))) → VRs σ (selCs j i ks f) xs
  | [], f, xs, hl, h => by
    cases xs with
    | nil => simp [selCs, VRs]
    | cons a l => simp at hl
  | k :: ks, f, xs, hl, h => by
    cases xs with
    | nil => simp at hl
    | cons a l =>
      have h0 := h 0 k (by simp)
      simp only [List.getElem?_cons_zero, Option.some.injEq, Nat.add_zero] at h0
      refine VRs.cons ?_ (selCs_sound (by simpa using hl) fun g kd hg => ?_)
      · subst h0
        cases k with
        | int k => simp only [selC, VR, kdV, SE.ev]
        | bool => simp only [selC, VR, kdV, SB.ev, SE.ev]
      · have := h (g + 1) kd (by simpa using hg)
        rw [show f + 1 + g = f + (g + 1) by omega]
        simpa using this
theorem loadL_sound (hs : Good Φ) {t : TypeId} {x : LV} {h : LH} {c : LV → Out} (H : Φ (loadL P t x h c)) :
    ∃ v, Φ (c v) ∧ ∀ {fl : Nat} σ w a, VR σ x a → Sim P fl σ h w → ∃ y, (Instr.loadAt t a).run P w = .ok y w ∧ VR σ v y := by
  unfold loadL at H
  cases x with
  | ptr id i off ix =>
    simp only at H
    cases hc : cellsAt h id i with
    | none => simp only [hc] at H; exact absurd H (hs _)
    | some cs =>
      simp only [hc] at H
      obtain ⟨v, n, d, hn, hd, hv, key⟩ := partL_sound hs H
      refine ⟨v, hv, fun σ w a ha s => ?_⟩
      simp only [VR] at ha
      obtain ⟨p, hp, hi, hix, rfl⟩ := ha
      obtain ⟨xs, q1, q2⟩ := cellsAt_sound hc s hp hi
      obtain ⟨y, k1, k2⟩ := key σ xs q1 hix
      refine ⟨y, ?_, k2⟩
      have := k1.load hn hd q2
      simp only [Instr.loadAt, Instr.sureAddr, Sem.run_bind, Sem.run_pure, Result.andThen_ok, plAddr]
      rw [← Nat.add_assoc p.off]; exact this
  | pel id e off =>
    simp only at H
    split at H
    · rename_i j ks el ho
      obtain ⟨v, n, d, hn, hd, hv, key⟩ := partL_sound hs H
      refine ⟨v, hv, fun σ w a ha s => ?_⟩
      simp only [VR] at ha
      obtain ⟨p, hp, h0, h1, rfl⟩ := ha
      obtain ⟨p', ob, g1, g2, g3, _⟩ := s id _ ho
      rw [hp] at g1; cases g1
      obtain ⟨c, e', fz, rfl, g4, g5, g6, g7⟩ := g3
      have hlt : e.ev.toNat < p.n := by omega
      have hks : ∀ f kd, ks[f]? = some kd → c[p.off + (e.ev.toNat * p.es + f)]? = some (kdV kd (En.rho (selI j f e.ev))) := fun f kd hf => by
        have e1 : selI j f ((e.ev.toNat : Nat) : Int) = selI j f e.ev := by unfold selI; rw [Int.toNat_natCast]
        rw [g7 _ hlt f kd hf, e1]
      obtain ⟨xs, hxs⟩ : ∃ xs : List Value, xs = ((List.range ks.length).map fun f => (c[p.off + (e.ev.toNat * p.es + f)]?).getD undef) := ⟨_, rfl⟩
      have hxl : xs.length = ks.length := by simp [hxs]
      have hxg : ∀ f kd, ks[f]? = some kd → xs[f]? = some (kdV kd (En.rho (selI j f e.ev))) := fun f kd hf => by
        have hfl : f < ks.length := (List.getElem?_eq_some_iff.1 hf).1
        rw [hxs, List.getElem?_map, List.getElem?_range hfl]
        simp [hks f kd hf]
      obtain ⟨y, k1, k2⟩ := key σ xs (selCs_sound hxl fun g kd hg => by rw [Nat.zero_add]; exact hxg g kd hg) trivial
      refine ⟨y, ?_, k2⟩
      have q2 : ∀ (f : Nat) (x : Value), xs[f]? = some x → w.cell? ⟨p.blk, p.off + e.ev.toNat * p.es + f, none⟩ = some x := (fun f x hx => by
        have hfl : f < ks.length := by rw [← hxl]; exact (List.getElem?_eq_some_iff.1 hx).1
        rw [cell?_cells g2]
        have h3 := hxg f ks[f] (by simp [hfl])
        rw [hx] at h3
        rw [h3, ← hks f ks[f] (by simp [hfl]), Nat.add_assoc])
      have := k1.load hn hd q2
      simp only [Instr.loadAt, Instr.sureAddr, Sem.run_bind, Sem.run_pure, Result.andThen_ok, plAddr]
      simp only [ixSum, Nat.add_zero] at this
      rw [← Nat.add_assoc p.off]; exact this
    · exact absurd H (hs _)
  | _ => exact absurd H (hs _)

/-! ### Writing -/
theorem ov_cons (l : List Value) (o : Nat) (v : Value) (r : List Value) (h : o < l.length) : ov (l.set o v) (o + 1) r = ov l o (v :: r) := by
  simp only [ov]
  rw [List.take_set, List.drop_set_of_lt (by omega)]
  have : (l.take (o + 1)).set o v = l.take o ++ [v] := by
    rw [List.take_add_one, List.getElem?_eq_getElem h]
    simp only [Option.toList]
    rw [List.set_append_right _ _ (by rw [List.length_take]; exact Nat.min_le_left _ _)]
    simp [Nat.min_eq_left (Nat.le_of_lt h)]
  rw [this]
  simp [Nat.add_right_comm, Nat.add_assoc]
theorem setCells_heap (b : Nat) : ∀ (vs : List Value) (o : Nat) (w : World) (c : Array Value) (e : TypeId) (fz : Nat × Nat), w.heap[b]? = some (.cells c e fz) → o + vs.length ≤ c.size →
    (w.setCells b o vs).heap[b]? = some (.cells (ov c.toList o vs).toArray e fz) ∧ (w.setCells b o vs).heap.size = w.heap.size ∧ (∀ b', b' ≠ b → (w.setCells b o vs).heap[b']? = w.heap[b']?) ∧
    (w.setCells b o vs).os = w.os ∧ (w.setCells b o vs).tape = w.tape ∧ (w.setCells b o vs).output = w.output
  | [], o, w, c, e, fz, h, hl => by
    refine ⟨?_, rfl, fun _ _ => rfl, rfl, rfl, rfl⟩
    simp [World.setCells, h, ov]
  | v :: r, o, w, c, e, fz, h, hl => by
    have hl' : o < c.size := by simp at hl; omega
    have h1 : (w.setCell ⟨b, o, none⟩ v).heap[b]? = some (.cells (c.setIfInBounds o v) e fz) := by
      simp [World.setCell, Array.getElem?_modify, h]
    obtain ⟨q1, q2, q3, q4, q5, q6⟩ := setCells_heap b r (o + 1) (w.setCell ⟨b, o, none⟩ v) _ e fz h1 (by simp at hl ⊢; omega)
    refine ⟨?_, ?_, fun b' hb' => ?_, q4, q5, q6⟩
    · rw [World.setCells, q1]
      congr 2
      rw [Array.toList_setIfInBounds, ov_cons _ _ _ _ (by simpa using hl')]
    · rw [World.setCells, q2]; simp
    · rw [World.setCells, q3 b' hb']
      simp only [World.setCell, Array.getElem?_modify]
      rw [if_neg (fun e => hb' e.symm)]

theorem storeCs_sound {σ : Sg} {vs cs : List LV} {ys xs : List Value} (hv : VRs σ vs ys) (hc : VRs σ cs xs) {off : Nat} {ix : List (Nat × Nat × Nat)} (hi : ixOk ix)
    (h : ixAll (fun o => Nat.ble (o + vs.length) cs.length) off ix = true) : VRs σ (storeCs vs cs off ix) (ov xs (off + ixSum ix) ys) ∧ off + ixSum ix + ys.length ≤ xs.length := by
  have hb := ixAll_spec h hi
  simp only [Nat.ble_eq] at hb
  have hle : off + ixSum ix + ys.length ≤ xs.length := by rw [hv.length, hc.length]; exact hb
  refine ⟨?_, hle⟩
  cases ix with
  | nil =>
    simp only [ixSum, Nat.add_zero] at hle hb ⊢
    exact VRs.lput hc hv hb
  | cons a l => simpa [storeCs] using storeIx_sound hv (b := true) hc hi h

theorem run_storeAt {σ : Sg} {v : LV} {y : Value} {vs : List LV} (hv : v.cells = some vs) (hy : VR σ v y) {t : TypeId} {n : Nat} (hn : szOf P t = some n) (hl : vs.length = n) {w : World} {b o : Nat} {c : Array Value} {e : TypeId}
    (hh : w.heap[b]? = some (.cells c e (0, 0))) (ho : o + n ≤ c.size) : (Instr.storeAt t (.pointer (some ⟨b, o, none⟩)) y).run P w = .ok () (w.setCells b o y.cells.toList) := by
  obtain ⟨q1, q2, q3⟩ := LV.cells_sound hv hy
  have hsz : y.cells.size = n := by rw [← hl, ← q1.length]; simp
  have := run_storeCells_cells (P := P) b o y.cells.toList 0 w (fun j hj => by
      rw [cell?_cells hh, Nat.add_zero]
      have : o + j < c.size := by simp at hj; omega
      simp [this]) (fun j hj => frozen?_cells hh) q2
  simp only [Nat.add_zero] at this
  simp [Instr.storeAt, Instr.sureAddr, storeVar, Sem.run_bind, run_szOf hn, hsz, this]

theorem ov_get {l ys : List Value} {o : Nat} (h : o + ys.length ≤ l.length) (k : Nat) : (ov l o ys)[k]? = if k < o then l[k]? else if k < o + ys.length then ys[k - o]? else l[k]? := by
  unfold ov
  by_cases h1 : k < o
  · rw [if_pos h1, List.getElem?_append_left (by simp; omega), List.getElem?_append_left (by simp; omega), List.getElem?_take_of_lt h1]
  · rw [if_neg h1]
    by_cases h2 : k < o + ys.length
    · rw [if_pos h2, List.getElem?_append_left (by simp; omega), List.getElem?_append_right (by simp; omega)]
      congr 1; simp; omega
    · rw [if_neg h2, List.getElem?_append_right (by simp; omega), List.getElem?_drop]
      congr 1; simp; omega
theorem ov_mem {l ys : List Value} {o : Nat} {x : Value} (h : x ∈ ov l o ys) : x ∈ l ∨ x ∈ ys := by
  unfold ov at h
  rcases List.mem_append.1 h with h | h
  · rcases List.mem_append.1 h with h | h
    · exact .inl (List.mem_of_mem_take h)
    · exact .inr h
  · exact .inl (List.mem_of_mem_drop h)
theorem storeL_sound (hs : Good Φ) {t : TypeId} {x v : LV} {h : LH} {c : LH → Out} (H : Φ (storeL P fl t x v h c)) :
    ∃ h', Φ (c h') ∧ ∀ σ w a y, VR σ x a → VR σ v y → Sim P fl σ h w → ∃ w', (Instr.storeAt t a y).run P w = .ok () w' ∧ Sim P fl σ h' w' ∧ Step fl σ h w σ h' w' := by
  unfold storeL at H
  cases hvs : v.cells with
  | none => cases x <;> simp only [hvs] at H <;> exact absurd H (hs _)
  | some vs =>
    cases hn : szOf P t with
    | none => cases x <;> simp only [hvs, hn] at H <;> exact absurd H (hs _)
    | some n =>
      cases x with
      | ptr id i off ix =>
        simp only [hvs, hn] at H
        have H1 := of_cond hs H
        clear H
        obtain ⟨hb, H⟩ := H1
        rw [Bool.and_eq_true, beq_t, llen_eq, Nat.ble_eq] at hb
        obtain ⟨hb, hfl⟩ := hb
        cases ho : h.get id with
        | none => simp only [ho] at H; exact absurd H (hs _)
        | some o =>
          cases o with
          | var cs e =>
            simp only [ho] at H
            have hh := of_cond hs H
            clear H
            obtain ⟨hb2, H⟩ := hh
            rw [Bool.and_eq_true, beq_t] at hb2
            obtain ⟨i0, hall⟩ := hb2
            subst i0
            refine ⟨_, H, fun σ w a y ha hy s => ?_⟩
            simp only [VR] at ha
            obtain ⟨p, hp, hi, hix, rfl⟩ := ha
            obtain ⟨p', ob, h1, h2, h3, _⟩ := s id _ ho
            rw [hp] at h1; cases h1
            obtain ⟨g1, g2, xs, el, rfl, g3, g4⟩ := h3
            obtain ⟨k1, k2, k3⟩ := LV.cells_sound hvs hy
            obtain ⟨m1, m2⟩ := storeCs_sound k1 g3 hix (off := off) (by rw [hb, ← llen_eq cs]; exact hall)
            have hlen : y.cells.toList.length = n := by rw [k1.length]; exact hb
            have hst := run_storeAt (P := P) hvs hy hn hb h2 (o := off + ixSum ix) (by simp; omega)
            obtain ⟨q1, q2, q3, q4, q5, q6⟩ := setCells_heap p.blk y.cells.toList (off + ixSum ix) w _ el (0, 0) h2 (by simpa using m2)
            obtain ⟨r1, r2⟩ := s.put (o' := .var (storeCs vs cs off ix) e) ho ⟨hfl, rfl⟩ rfl hp q2 q3 q1 q4 q5 q6 ⟨g1, g2, _, el, rfl, by simpa using m1, fun x hx => by
              rcases ov_mem (l := xs) (by simpa using hx) with hx | hx
              · exact g4 x hx
              · exact k2 x hx⟩
            refine ⟨_, ?_, r1, r2⟩
            simpa [plAddr, g1] using hst
          | seq m get e own =>
            simp only [ho] at H
            cases own with
            | false => exact absurd H (hs _)
            | true =>
              simp only at H
              have H1 := of_cond hs H
              clear H
              obtain ⟨hall, H⟩ := H1
              refine ⟨_, H, fun σ w a y ha hy s => ?_⟩
              simp only [VR] at ha
              obtain ⟨p, hp, hi, hix, rfl⟩ := ha
              obtain ⟨p', ob, h1, h2, h3, _⟩ := s id _ ho
              rw [hp] at h1; cases h1
              obtain ⟨cc, el, fz, rfl, g1, g2, g3, g4, g5, g6⟩ := h3
              obtain ⟨rfl, g7, g8, g9, g10⟩ := g6 rfl
              obtain ⟨xs, e1, e2, e3, e4⟩ := g5 i (by omega)
              obtain ⟨k1, k2, k3⟩ := LV.cells_sound hvs hy
              obtain ⟨m1, m2⟩ := storeCs_sound k1 e1 hix (off := off) (by rw [hb, ← llen_eq (get i)]; exact hall)
              have hlen : y.cells.toList.length = n := by rw [k1.length]; exact hb
              have hes : i * p.es + p.es ≤ cc.size := by
                rw [g8, ← Nat.succ_mul]; exact Nat.mul_le_mul_right _ (by omega)
              have hst := run_storeAt (P := P) hvs hy hn hb h2 (o := i * p.es + (off + ixSum ix)) (by omega)
              obtain ⟨q1, q2, q3, q4, q5, q6⟩ := setCells_heap p.blk y.cells.toList (i * p.es + (off + ixSum ix)) w _ el (0, 0) h2 (by omega)
              have hcl : cc.toList.length = cc.size := by simp
              have hovl : (ov cc.toList (i * p.es + (off + ixSum ix)) y.cells.toList).length = cc.size := by
                rw [ov_length (by omega), hcl]
              have hel : ∀ j, j < m → ∃ xs, VRs σ (cond (Nat.beq j i) (storeCs vs (get i) off ix) (get j)) xs ∧ xs.length = p.es ∧
                  (∀ j', j' < p.es → (ov cc.toList (i * p.es + (off + ixSum ix)) y.cells.toList).toArray[p.off + (j * p.es + j')]? = xs[j']?) ∧ ∀ x ∈ xs, Value.oneCell' x = true := by
                intro j hj
                by_cases e' : j = i
                · subst e'
                  refine ⟨_, by simpa [Nat.beq_refl] using m1, by rw [ov_length m2, e2], fun j' hj' => ?_, fun x hx => ?_⟩
                  · have e3' := e3 j' hj'
                    rw [g7, Nat.zero_add] at e3' ⊢
                    rw [List.getElem?_toArray, ov_get (by omega), ov_get m2]
                    rw [← Array.getElem?_toList] at e3'
                    by_cases c1 : j' < off + ixSum ix
                    · rw [if_pos (by omega), if_pos c1]; exact e3'
                    · rw [if_neg (by omega), if_neg c1]
                      by_cases c2 : j' < off + ixSum ix + y.cells.toList.length
                      · rw [if_pos (by omega), if_pos c2]; congr 1; omega
                      · rw [if_neg (by omega), if_neg c2]; exact e3'
                  · rcases ov_mem hx with hx | hx
                    · exact e4 x hx
                    · exact k2 x hx
                · obtain ⟨zs, z1, z2, z3, z4⟩ := g5 j hj
                  refine ⟨zs, by simpa [beq_f.2 e'] using z1, z2, fun j' hj' => ?_, z4⟩
                  have e3' := z3 j' hj'
                  rw [g7, Nat.zero_add] at e3' ⊢
                  rw [List.getElem?_toArray, ov_get (by omega), ← e3', ← Array.getElem?_toList]
                  rcases Nat.lt_or_gt_of_ne e' with hlt | hlt
                  · have := Nat.mul_le_mul_right p.es (Nat.succ_le_of_lt hlt)
                    rw [Nat.succ_mul] at this
                    rw [if_pos (by omega)]
                  · have := Nat.mul_le_mul_right p.es (Nat.succ_le_of_lt hlt)
                    rw [Nat.succ_mul] at this
                    rw [if_neg (by omega), if_neg (by omega)]
              obtain ⟨r1, r2⟩ := s.put (o' := .seq m (fun j => cond (Nat.beq j i) (storeCs vs (get i) off ix) (get j)) e true) ho ⟨hfl, rfl⟩ rfl hp q2 q3 q1 q4 q5 q6
                ⟨_, el, (0, 0), rfl, g1, g2, g3, g4, hel, fun _ => ⟨rfl, g7, by simpa [hovl] using g8, g9, g10⟩⟩
              refine ⟨_, ?_, r1, r2⟩
              simpa [plAddr, g7] using hst
          | _ => simp only [ho] at H; exact absurd H (hs _)
      | _ => simp only at H; exact absurd H (hs _)
end Go.Proofs.Ytigilihpofafoaa.Loc
