/- The small machine of local values: its operations tell what the model's do. Part 6: new objects. -/
import Derived.Test.YtigilihpofafoaaLocR2
import Derived.Great.BuildSlice
namespace Go.Proofs.Ytigilihpofafoaa.Loc
open Go
set_option linter.unusedVariables false
set_option linter.unusedSimpArgs false
set_option linter.unusedSectionVars false
variable [En]
variable {P : Program} {Φ : Out → Prop} {fl : Nat}

theorem zero_ofVal {t : TypeId} {zs : List LV} (h : zeroL P t = .agg zs) : ∃ i z, P.info? t = some i ∧ i.zero = some z ∧ ∀ σ, VR σ (.agg zs) z := by
  unfold zeroL at h
  cases hi : P.info? t with
  | none => simp [hi] at h
  | some i =>
    simp only [hi] at h
    cases hz : i.zero with
    | none => simp [hz] at h
    | some z => simp only [hz] at h; exact ⟨i, z, rfl, hz, fun σ => h ▸ ofVal_sound z⟩
theorem zero_cells {t : TypeId} {zs : List LV} (h : (zeroL P t).cells = some zs) : ∃ i z, P.info? t = some i ∧ i.zero = some z ∧ ∀ σ, VRs σ zs z.cells.toList ∧ ∀ y ∈ z.cells.toList, y.oneCell' = true := by
  unfold zeroL at h
  cases hi : P.info? t with
  | none => simp [hi, LV.cells] at h
  | some i =>
    simp only [hi] at h
    cases hz : i.zero with
    | none => simp [hz, LV.cells] at h
    | some z =>
      simp only [hz] at h
      exact ⟨i, z, rfl, hz, fun σ => by
        obtain ⟨q1, q2, _⟩ := LV.cells_sound h (ofVal_sound (σ := σ) z)
        exact ⟨q1, q2⟩⟩

theorem buildL_sound (hs : Good Φ) {t : TypeId} {ps : List (Nat × LV)} {c : LV → Out} (H : Φ (buildL P t ps c)) :
    ∃ v, Φ (c v) ∧ ∀ σ w (vals : Array (Nat × Value)), VRp σ ps vals.toList → ∃ z, (Instr.build t vals).run P w = .ok z w ∧ VR σ v z := by
  unfold buildL at H
  split at H
  · rename_i pl zs hpl hz
    cases hf : fillF pl zs ps with
    | none => simp only [hf] at H; exact absurd H (hs _)
    | some cs =>
      simp only [hf] at H
      refine ⟨_, H, fun σ w vals hp => ?_⟩
      obtain ⟨i, z, hi, hzz, hv⟩ := zero_ofVal hz
      obtain ⟨xs, rfl, hx⟩ := hv σ
      obtain ⟨ys, y1, y2⟩ := fillF_sound (xs := xs.toArray) hf (by simpa using hx) hp
      refine ⟨_, run_build (P := P) w t vals ys ?_, ⟨_, by simp, y2⟩⟩
      unfold placeOf at hpl
      unfold Program.built
      simp only [hi, hzz]
      split at hpl
      · rename_i fs hu
        simp only [hu]
        cases hm : fs.toList.mapM (fun f => (P.info? f.type).map fun i => (f.offset, i.size)) with
        | none => simp [hm] at hpl
        | some places =>
          simp only [hm, Option.map_some, Option.some.injEq] at hpl; subst hpl
          simp only [hm, hzz, Value.cells]
          rw [← y1]
          congr 1
          funext k
          simp
      · rename_i n e hu
        simp only [hu]
        unfold szOf at hpl
        cases he : P.info? e with
        | none => simp [he] at hpl
        | some ie =>
          simp only [he, Option.map_some, Option.some.injEq] at hpl; subst hpl
          simp only [he, hzz, Value.cells]
          exact y1
      · cases hpl
  · exact absurd H (hs _)

/-- a new variable -/
theorem newVar_sound {σ : Sg} {h : LH} {w : World} {nx : Nat} (s : Sim P fl σ h w) (f : Fr fl σ nx) {v : LV} {x : Value} {cs : List LV} (hc : v.cells = some cs) (hv : VR σ v x) (t t' : TypeId) :
    ∃ w' σ', (newVar t x).run P w = .ok ⟨w.heap.size, 0, none⟩ w' ∧ VR σ' (.ptr nx 0 0 []) (.pointer (some ⟨w.heap.size, 0, none⟩)) ∧ Sim P fl σ' (h.set nx (.var cs t')) w' ∧ Fx fl σ nx σ' (nx + 1) ∧ Step fl σ h w σ' (h.set nx (.var cs t')) w' := by
  obtain ⟨q1, q2, _⟩ := LV.cells_sound hc hv
  obtain ⟨r1, r2, r3⟩ := s.new (w' := w.alloc (.cells x.cells t)) f (o := .var cs t') (ob := .cells x.cells t) (p := ⟨w.heap.size, 0, 1, 1, 1⟩) rfl rfl rfl rfl rfl rfl
    ⟨rfl, rfl, x.cells.toList, t, by simp, VRs.mono f.ext _ _ q1, q2⟩
  refine ⟨_, _, rfl, ?_, r1, r2, r3⟩
  simp only [VR]
  exact ⟨_, upd_same, by simp, trivial, by simp [plAddr, ixSum]⟩

theorem OK.mkSeq {σ : Sg} {p : Place} {n : Nat} {get : Nat → List LV} {elem : TypeId} {F : List Value} {c : Array Value} (hn : p.n = n) (hz : szOf P elem = some p.es) (h0 : 0 < p.es) (hcap : n ≤ p.cap) (hoff : p.off = 0)
    (hc : c.size = p.cap * p.es) (hm : p.cap ≤ maxLen) (hF : F.length = n * p.es) (hcF : ∀ k, k < n * p.es → c[k]? = F[k]?) (h1 : ∀ x ∈ F, x.oneCell' = true) (hv : ∀ i, i < n → VRs σ (get i) ((F.drop (i * p.es)).take p.es)) :
    OK P σ p (.seq n get elem true) (.cells c elem (0, 0)) := by
  refine ⟨c, elem, (0, 0), rfl, hn, hz, h0, by omega, fun i hi => ⟨_, hv i hi, ?_, fun j hj => ?_, fun x hx => h1 x (List.mem_of_mem_drop (List.mem_of_mem_take hx))⟩, fun _ => ⟨rfl, hoff, hc, rfl, hm⟩⟩
  · have := Nat.mul_le_mul_right p.es (Nat.succ_le_of_lt hi)
    rw [Nat.succ_mul] at this
    simp; omega
  · have := Nat.mul_le_mul_right p.es (Nat.succ_le_of_lt hi)
    rw [Nat.succ_mul] at this
    rw [hoff, Nat.zero_add, hcF _ (by omega), List.getElem?_take_of_lt hj, List.getElem?_drop]

theorem OK.elem {σ : Sg} {p : Place} {n : Nat} {get : Nat → List LV} {elem el : TypeId} {own : Bool} {c : Array Value} {fz : Nat × Nat} (h : OK P σ p (.seq n get elem own) (.cells c el fz)) {i : Nat} (hi : i < n) :
    VRs σ (get i) ((c.toList.drop (p.off + i * p.es)).take p.es) ∧ p.off + i * p.es + p.es ≤ c.size ∧ ∀ x ∈ (c.toList.drop (p.off + i * p.es)).take p.es, x.oneCell' = true := by
  obtain ⟨c', el', fz', he, g1, g2, g3, g4, g5, g6⟩ := h
  cases he
  obtain ⟨xs, q1, q2, q3, q4⟩ := g5 i hi
  have hle : p.off + i * p.es + p.es ≤ c.size := by
    have := q3 (p.es - 1) (by omega)
    rw [List.getElem?_eq_getElem (show p.es - 1 < xs.length by omega)] at this
    have := (Array.getElem?_eq_some_iff.1 this).1
    omega
  have hxs : xs = (c.toList.drop (p.off + i * p.es)).take p.es := by
    apply List.ext_getElem?
    intro j
    by_cases hj : j < p.es
    · rw [List.getElem?_take_of_lt hj, List.getElem?_drop, ← q3 j hj, Nat.add_assoc]
      simp
    · rw [List.getElem?_eq_none (by omega), List.getElem?_eq_none (by simp; omega)]
  subst hxs
  exact ⟨q1, hle, q4⟩

/-! ### buildSlice -/
def chunkL (l : List Value) (sz i : Nat) : List Value := (l.drop (i * sz)).take sz
structure Els (σ : Sg) (sz : Nat) (els : List (List LV)) (xs : Array Value) : Prop where
  size : xs.size = els.length * sz
  one : ∀ x ∈ xs.toList, x.oneCell' = true
  at_ : ∀ i e, els[i]? = some e → VRs σ e (chunkL xs.toList sz i)

theorem putEl_get : ∀ (els : List (List LV)) (i : Nat) (v : List LV) (j : Nat), (putEl els i v)[j]? = if i = j then (els[j]?).map (fun _ => v) else els[j]?
  | [], i, v, j => by simp [putEl]
  | e :: es, 0, v, 0 => by simp [putEl, Nat.beq]
  | e :: es, 0, v, j + 1 => by simp [putEl, Nat.beq]
  | e :: es, i + 1, v, 0 => by simp [putEl, Nat.beq]
  | e :: es, i + 1, v, j + 1 => by simp [putEl, Nat.beq, putEl_get es i v j]
theorem putEl_length : ∀ (els : List (List LV)) (i : Nat) (v : List LV), (putEl els i v).length = els.length
  | [], i, v => by simp [putEl]
  | e :: es, 0, v => by simp [putEl, Nat.beq]
  | e :: es, i + 1, v => by simp [putEl, Nat.beq, putEl_length es i v]
theorem getEl_eq : ∀ (els : List (List LV)) (i : Nat) (e : List LV), els[i]? = some e → getEl els i = e
  | [], i, e, h => by simp at h
  | a :: es, 0, e, h => by simpa [getEl, Nat.beq] using h
  | a :: es, i + 1, e, h => by simpa [getEl, Nat.beq] using getEl_eq es i e (by simpa using h)

theorem chunk_ov {l ys : List Value} {sz i j : Nat} (hl : i * sz + ys.length ≤ l.length) (hy : ys.length = sz) : chunkL (ov l (i * sz) ys) sz j = if i = j then ys else chunkL l sz j := by
  apply List.ext_getElem?
  intro k
  by_cases hk : k < sz
  · rw [chunkL, List.getElem?_take_of_lt hk, List.getElem?_drop, ov_get hl]
    by_cases hij : i = j
    · subst hij
      rw [if_pos rfl, if_neg (by omega), if_pos (by omega)]
      congr 1; omega
    · rw [if_neg hij, chunkL, List.getElem?_take_of_lt hk, List.getElem?_drop]
      rcases Nat.lt_or_gt_of_ne hij with hlt | hlt
      · have := Nat.mul_le_mul_right sz (Nat.succ_le_of_lt hlt)
        rw [Nat.succ_mul] at this
        rw [if_neg (by omega), if_neg (by omega)]
      · have := Nat.mul_le_mul_right sz (Nat.succ_le_of_lt hlt)
        rw [Nat.succ_mul] at this
        rw [if_pos (by omega)]
  · rw [List.getElem?_eq_none (by simp [chunkL]; omega)]
    split
    · rw [List.getElem?_eq_none (by omega)]
    · rw [List.getElem?_eq_none (by simp [chunkL]; omega)]

theorem fillEls_sound {σ : Sg} {sz : Nat} : ∀ {parts : List (Nat × LV)} {vals : List (Nat × Value)} {els es : List (List LV)} {xs : Array Value}, fillEls sz els parts = some es → Els σ sz els xs → VRp σ parts vals →
    ∃ ys, Instr.fill (fun i => some (i * sz, sz)) xs vals = some ys ∧ Els σ sz es ys ∧ es.length = els.length
  | [], vals, els, es, xs, h, hx, hp => by
    simp only [fillEls, Option.some.injEq] at h; subst h
    simp only [VRp] at hp; subst hp
    exact ⟨xs, rfl, hx, rfl⟩
  | (i, v) :: rest, _, els, es, xs, h, hx, ⟨x, r, e, hv, hr⟩ => by
    subst e
    unfold fillEls at h
    split at h
    · rename_i vs h2
      cases hb : (Nat.beq (llen vs) sz && Nat.blt i els.length) with
      | false => simp [hb] at h
      | true =>
        simp only [hb, cond_true] at h
        simp only [Bool.and_eq_true, beq_t, Nat.blt_eq, llen_eq] at hb
        obtain ⟨q1, q2, q3⟩ := LV.cells_sound h2 hv
        have hl1 := q1.length
        simp only [Array.length_toList] at hl1
        have hbound := Nat.mul_le_mul_right sz (Nat.succ_le_of_lt hb.2)
        rw [Nat.succ_mul] at hbound
        have hsz := hx.size
        have hput := fill_put xs x.cells (i * sz) (by omega)
        have hin : i * sz + x.cells.toList.length ≤ xs.toList.length := by simp; omega
        have hx' : Els σ sz (putEl els i vs) (ov xs.toList (i * sz) x.cells.toList).toArray := by
          refine ⟨?_, fun y hy => ?_, fun j e he => ?_⟩
          · rw [List.size_toArray, ov_length hin, putEl_length]; simpa using hsz
          · rcases ov_mem (l := xs.toList) (by simpa using hy) with hy | hy
            · exact hx.one y hy
            · exact q2 y hy
          · rw [putEl_get] at he
            have hch := chunk_ov (l := xs.toList) (ys := x.cells.toList) (sz := sz) (i := i) (j := j) hin (by simp; omega)
            by_cases hij : i = j
            · subst hij
              rw [if_pos rfl] at he hch
              cases hq : els[i]? with
              | none => simp [hq] at he
              | some _ =>
                simp only [hq, Option.map_some, Option.some.injEq] at he; subst he
                simpa [hch] using q1
            · rw [if_neg hij] at he hch
              simpa [hch] using hx.at_ j e he
        obtain ⟨ys, y1, y2, y3⟩ := fillEls_sound (xs := (ov xs.toList (i * sz) x.cells.toList).toArray) h hx' hr
        refine ⟨ys, ?_, y2, by rw [y3, putEl_length]⟩
        simp only [Instr.fill]
        rw [if_neg (by simp; omega)]
        rw [← y1]
        congr 1
    · cases h

theorem szOf_info {t : TypeId} {n : Nat} (h : szOf P t = some n) : ∃ i, P.info? t = some i ∧ i.size = n := by
  unfold szOf at h
  cases hi : P.info? t with
  | none => simp [hi] at h
  | some i => exact ⟨i, rfl, by simpa [hi] using h⟩

theorem zeros_chunk (z : Array Value) (n : Nat) (hz : 0 < z.size) (i : Nat) (hi : i < n) : chunkL ((Array.range (n * z.size)).map (z[· % z.size]!)).toList z.size i = z.toList := by
  have := Nat.mul_le_mul_right z.size (Nat.succ_le_of_lt hi)
  rw [Nat.succ_mul] at this
  apply List.ext_getElem?
  intro k
  by_cases hk : k < z.size
  · rw [chunkL, List.getElem?_take_of_lt hk, List.getElem?_drop]
    have h1 : i * z.size + k < n * z.size := by omega
    have h2 : (i * z.size + k) % z.size = k := by rw [Nat.mul_comm, Nat.mul_add_mod]; exact Nat.mod_eq_of_lt hk
    rw [Array.getElem?_toList, Array.getElem?_map, Array.getElem?_range]
    simp [h1, h2, hk]
  · rw [List.getElem?_eq_none (by simp [chunkL]; omega), List.getElem?_eq_none (by simp; omega)]

theorem buildSlice_core (hs : Good Φ) {t : TypeId} {len : Nat} {ps : List (Nat × LV)} {nx : Nat} {h : LH} {c : KV} (H : Φ (buildSliceL P t len ps nx h c)) :
    ∃ (e : TypeId) (get : Nat → List LV) (es : Nat), Φ (c (.sq nx 0 len) (h.set nx (.seq len get e true)) (nx + 1)) ∧ ∀ σ σ' w (vals : Array (Nat × Value)), VRp σ ps vals.toList → Ext σ σ' →
      ∃ ys, (Instr.buildSlice t len vals).run P w = .ok (.slice (some ⟨w.heap.size, 0, none⟩) len len) (w.alloc (.cells ys e)) ∧ OK P σ' ⟨w.heap.size, 0, es, len, len⟩ (.seq len get e true) (.cells ys e) := by
  unfold buildSliceL at H
  split at H
  · rename_i e hu
    split at H
    · rename_i sz zs hsz hzc
      obtain ⟨hb, H⟩ := of_cond hs H
      simp only [Bool.and_eq_true, Nat.ble_eq, Nat.blt_eq, beq_t, llen_eq] at hb
      split at H
      · rename_i els hf
        obtain ⟨i, z, hi, hz, hv⟩ := zero_cells hzc
        refine ⟨e, getEl els, i.size, H, fun σ σ' w vals hp f => ?_⟩
        obtain ⟨hv1, hv2⟩ := hv σ
        obtain ⟨i', hi', hisz⟩ := szOf_info hsz
        rw [hi] at hi'; cases hi'
        have hzl := hv1.length
        simp only [Array.length_toList] at hzl
        have hzs : z.cells.size = i.size := by omega
        have e0 : Els σ i.size (List.replicate len zs) ((Array.range (len * i.size)).map (z.cells[· % z.cells.size]!)) := by
          refine ⟨by simp, fun x hx => ?_, fun j e he => ?_⟩
          · simp only [Array.toList_map, List.mem_map] at hx
            obtain ⟨k, hk, rfl⟩ := hx
            have hlt : k % z.cells.size < z.cells.size := Nat.mod_lt _ (by omega)
            have : z.cells[k % z.cells.size]! = z.cells[k % z.cells.size] := by simp [hlt]
            rw [this]
            exact hv2 _ (by simp)
          · have hj : j < len := by
              rcases Nat.lt_or_ge j len with h' | h'
              · exact h'
              · rw [List.getElem?_eq_none (by simpa using h')] at he; cases he
            have : e = zs := by simpa [List.getElem?_replicate, hj] using he.symm
            subst this
            have := zeros_chunk z.cells len (by omega) j hj
            rw [hzs] at this ⊢
            rw [this]; exact hv1
        rw [← hisz] at hf
        obtain ⟨ys, y1, y2, y3⟩ := fillEls_sound hf e0 hp
        have hlen : els.length = len := by rw [y3]; simp
        have hsize := y2.size
        have hok : OK P σ' ⟨w.heap.size, 0, i.size, len, len⟩ (.seq len (getEl els) e true) (.cells ys e (0, 0)) := by
          refine OK.mkSeq (F := ys.toList) rfl (by rw [hsz, hisz]) (by show 0 < i.size; omega) (Nat.le_refl _) rfl (by show ys.size = len * i.size; rw [hsize, hlen]) ?_ (by show ys.toList.length = len * i.size; simp [hsize, hlen]) (fun k _ => by simp) y2.one (fun j hj => ?_)
          · show len ≤ maxLen
            have := Nat.le_mul_of_pos_right len hb.2.1
            simp only [maxLen]; omega
          · have hj' : els[j]? = some els[j] := List.getElem?_eq_getElem (by omega)
            rw [getEl_eq _ _ _ hj']
            exact VRs.mono f _ _ (y2.at_ j _ hj')
        refine ⟨ys, ?_, hok⟩
        by_cases hl0 : len = 0
        · subst hl0
          have hv0 : vals.toList = [] := by
            cases ps with
            | nil => simpa [VRp] using hp
            | cons q l =>
              exfalso
              obtain ⟨k, v⟩ := q
              unfold fillEls at hf
              split at hf
              · have h0 : Nat.ble (k + 1) 0 = false := rfl
                simp [Nat.blt, h0] at hf
              · cases hf
          have hy : ys = #[] := by
            have : ys.size = 0 := by rw [hsize, hlen]; simp
            exact Array.size_eq_zero_iff.1 this
          subst hy
          simp [Instr.buildSlice, run_underlying hu, run_szOf hsz, hv0, Instr.fill, newRow]
          congr 2
          exact Array.size_eq_zero_iff.1 (by simp)
        · have hm := Nat.mul_pos (Nat.pos_of_ne_zero hl0) hb.2.1
          exact run_buildSlice (P := P) w t e len vals ys i z hu hi hz (by rw [hisz]; omega) (by rw [hisz]; omega) y1
      · exact absurd H (hs _)
    · exact absurd H (hs _)
  · exact absurd H (hs _)
theorem buildSliceL_sound (hs : Good Φ) {t : TypeId} {len : Nat} {ps : List (Nat × LV)} {nx : Nat} {h : LH} {c : KV} (H : Φ (buildSliceL P t len ps nx h c)) :
    ∃ v h' nx', Φ (c v h' nx') ∧ ∀ σ w (vals : Array (Nat × Value)), VRp σ ps vals.toList → Sim P fl σ h w → Fr fl σ nx → ∃ z w' σ', (Instr.buildSlice t len vals).run P w = .ok z w' ∧ VR σ' v z ∧ Sim P fl σ' h' w' ∧ Fx fl σ nx σ' nx' ∧ Step fl σ h w σ' h' w' := by
  obtain ⟨e, get, es, H', key⟩ := buildSlice_core hs H
  refine ⟨_, _, _, H', fun σ w vals hp s f => ?_⟩
  obtain ⟨ys, hr, hok⟩ := key σ (upd σ nx ⟨w.heap.size, 0, es, len, len⟩) w vals hp f.ext
  obtain ⟨r1, r2, r3⟩ := s.new (w' := w.alloc (.cells ys e)) f (o := .seq len get e true) (ob := .cells ys e) (p := ⟨w.heap.size, 0, es, len, len⟩) rfl rfl rfl rfl rfl rfl hok
  refine ⟨_, _, _, hr, ?_, r1, r2, r3⟩
  simp only [VR]
  exact ⟨_, upd_same, by simp, by simp, .inl (by simp [plAddr])⟩
end Go.Proofs.Ytigilihpofafoaa.Loc
