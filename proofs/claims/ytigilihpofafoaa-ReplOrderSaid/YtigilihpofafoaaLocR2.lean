/- The small machine of local values: its operations tell what the model's do. Part 5: parts, slices, building. -/
import Derived.Test.YtigilihpofafoaaLocR
namespace Go.Proofs.Ytigilihpofafoaa.Loc
open Go
set_option linter.unusedVariables false
set_option linter.unusedSimpArgs false
set_option linter.unusedSectionVars false
variable [En]
variable {P : Program} {Φ : Out → Prop} {fl : Nat}

theorem fieldL_sound (hs : Good Φ) {s : TypeId} {x : LV} {f : Nat} {c : LV → Out} (H : Φ (fieldL P s x f c)) :
    ∃ v, Φ (c v) ∧ ∀ σ w a, VR σ x a → ∃ z, (Instr.field s a f).run P w = .ok z w ∧ VR σ v z := by
  unfold fieldL at H
  split at H
  · rename_i fs cs hu
    split at H
    · rename_i fl hf
      obtain ⟨v, n, d, hn, hd, hv, key⟩ := partL_sound hs H
      refine ⟨v, hv, fun σ w a ha => ?_⟩
      simp only [VR] at ha
      obtain ⟨xs, rfl, ha⟩ := ha
      obtain ⟨y, k1, k2⟩ := key σ xs ha trivial
      have hf' : fs[f]? = some fl := by rw [← hf]; simp
      refine ⟨y, ?_, k2⟩
      have := k1.part hn hd (w := w)
      simp only [ixSum, Nat.add_zero] at this
      simp [Instr.field, Sem.run_bind, run_underlying hu, hf', asAgg, this]
    · exact absurd H (hs _)
  · exact absurd H (hs _)

theorem indexL_sound (hs : Good Φ) {t : TypeId} {x i : LV} {c : LV → Out} (H : Φ (indexL P t x i c)) :
    ∃ v, Φ (c v) ∧ ∀ σ w a b, VR σ x a → VR σ i b → ∃ z, (Instr.index t a b).run P w = .ok z w ∧ VR σ v z := by
  unfold indexL at H
  split at H
  · rename_i n e cs hu
    cases hz : szOf P e with
    | none => simp only [hz] at H; exact absurd H (hs _)
    | some sz =>
      simp only [hz] at H
      obtain ⟨j, hj', H, keyi⟩ := ixOf_sound hs H
      have hj : (0 : Int) ≤ j ∧ (j : Int) < (n : Int) := by omega
      obtain ⟨v, m, d, hn, hd, hv, key⟩ := partL_sound hs H
      refine ⟨v, hv, fun σ w a b ha hb => ?_⟩
      simp only [VR] at ha
      obtain ⟨kk, rfl⟩ := keyi σ b hb
      obtain ⟨xs, rfl, ha⟩ := ha
      obtain ⟨y, k1, k2⟩ := key σ xs ha trivial
      refine ⟨y, ?_, k2⟩
      have := k1.part hn hd (w := w)
      simp only [ixSum, Nat.add_zero, Nat.zero_add] at this
      simp [Instr.index, Sem.run_bind, run_underlying hu, asIntOf, hj, hj', run_szOf hz, this]
  · rename_i s hu
    obtain ⟨j, hj', H, keyi⟩ := ixOf_sound hs H
    refine ⟨_, H, fun σ w a b ha hb => ?_⟩
    simp only [VR] at ha
    obtain ⟨kk, rfl⟩ := keyi σ b hb
    subst ha
    have hg : s[j]? = some s[j] := by simp [hj']
    refine ⟨.int .u8 (s[j].toNat), by simp [Instr.index, Sem.run_bind, run_underlying hu, asIntOf, hg], ?_⟩
    simp only [VR, bt]
    have : s.data.toList[j]? = some s[j] := by
      have hlt : j < s.data.size := hj'
      simp only [Array.getElem?_toList, Array.getElem?_eq_getElem hlt]
      rfl
    have e : (Int.ofNat j).toNat = j := rfl
    rw [e, this]; rfl
  · exact absurd H (hs _)

theorem boundL_sound (hs : Good Φ) {x : Option LV} {d m : Nat} {c : Nat → Out} (H : Φ (boundL x d m c)) :
    ∃ r, Φ (c r) ∧ (x = none → r = d) ∧ (∀ v, x = some v → r ≤ m ∧ ∀ σ a, VR σ v a → ∀ M, m ≤ M → ∀ code w, (Instr.sliceBound a M code).run P w = .ok r w) := by
  unfold boundL at H
  split at H
  · exact ⟨d, H, fun _ => rfl, fun v h => by cases h⟩
  · rename_i k e
    obtain ⟨j, h1, h2, H⟩ := of_idx hs H
    refine ⟨_, H, (fun h => by cases h), fun v h => ?_⟩
    cases h
    refine ⟨by omega, fun σ a ha M hM code w => ?_⟩
    simp only [VR] at ha; subst ha
    have : 0 ≤ e.ev ∧ e.ev ≤ (M : Int) := by omega
    simp [Instr.sliceBound, asIntOf, this]
    omega
  · rename_i k j
    obtain ⟨hb, H⟩ := of_lif hs H
    simp only [Bool.and_eq_true, decide_eq_true_eq] at hb
    refine ⟨_, H, (fun h => by cases h), fun v h => ?_⟩
    cases h
    refine ⟨by omega, fun σ a ha M hM code w => ?_⟩
    simp only [VR] at ha; subst ha
    have : 0 ≤ j ∧ j ≤ (M : Int) := ⟨hb.1, by omega⟩
    simp [Instr.sliceBound, asIntOf, this]
  · exact absurd H (hs _)

/-- an operand that may be missing -/
def VRo (σ : Sg) : Option LV → Option Value → Prop
  | none, y => y = none
  | some v, y => ∃ x, y = some x ∧ VR σ v x

theorem run_bounds {σ : Sg} {lo hi : Option LV} {a b : Option Value} (ha : VRo σ lo a) (hb : VRo σ hi b) {isS : Bool} {len cap most l h : Nat} (hm : most ≤ cap)
    (h1 : hi = none → h = len) (h2 : ∀ v, hi = some v → h ≤ most ∧ ∀ σ a, VR σ v a → ∀ M, most ≤ M → ∀ code w, (Instr.sliceBound a M code).run P w = .ok h w)
    (h3 : lo = none → l = 0) (h4 : ∀ v, lo = some v → l ≤ h ∧ ∀ σ a, VR σ v a → ∀ M, h ≤ M → ∀ code w, (Instr.sliceBound a M code).run P w = .ok l w) (w : World) :
    (Instr.sliceBounds isS len cap a b none).run P w = .ok (l, h, cap) w := by
  cases hi with
  | none =>
    simp only [VRo] at hb; subst hb
    have := h1 rfl; subst this
    cases lo with
    | none =>
      simp only [VRo] at ha; subst ha
      have := h3 rfl; subst this
      simp [Instr.sliceBounds]
    | some v =>
      obtain ⟨x, rfl, hx⟩ := ha
      simp [Instr.sliceBounds, (h4 v rfl).2 σ x hx _ (Nat.le_refl _)]
  | some u =>
    obtain ⟨y, rfl, hy⟩ := hb
    cases lo with
    | none =>
      simp only [VRo] at ha; subst ha
      have := h3 rfl; subst this
      simp [Instr.sliceBounds, (h2 u rfl).2 σ y hy _ hm]
    | some v =>
      obtain ⟨x, rfl, hx⟩ := ha
      simp [Instr.sliceBounds, (h2 u rfl).2 σ y hy _ hm, (h4 v rfl).2 σ x hx _ (Nat.le_refl _)]

theorem sliceL_sound (hs : Good Φ) {t : TypeId} {x : LV} {lo hi mx : Option LV} {h : LH} {c : LV → Out} (H : Φ (sliceL P t x lo hi mx h c)) :
    ∃ v, Φ (c v) ∧ mx = none ∧ ∀ {fl : Nat} σ w a b d, VR σ x a → VRo σ lo b → VRo σ hi d → Sim P fl σ h w → ∃ z, (Instr.sliceAt t a b d none).run P w = .ok z w ∧ VR σ v z := by
  unfold sliceL at H
  cases mx with
  | some _ => exact absurd H (hs _)
  | none =>
    simp only at H
    split at H
    · rename_i e id s n hu
      obtain ⟨hes, H⟩ := of_cond hs H
      obtain ⟨hh, H, a1, a2⟩ := boundL_sound (P := P) hs H
      obtain ⟨l, H, b1, b2⟩ := boundL_sound (P := P) hs H
      refine ⟨_, H, rfl, fun σ w a b d ha hb hd sim => ?_⟩
      simp only [VR] at ha
      obtain ⟨p, hp, hi', hcap, ha⟩ := ha
      have hz := seqEs_sound sim hes hp
      have hle : hh ≤ n := by
        cases hi with
        | none => rw [a1 rfl]; exact Nat.le_refl _
        | some v => exact (a2 v rfl).1
      have hll : l ≤ hh := by
        cases lo with
        | none => rw [b1 rfl]; exact Nat.zero_le _
        | some v => exact (b2 v rfl).1
      rcases ha with rfl | ⟨rfl, hs', h0, A, rfl⟩
      · have hbd := run_bounds (P := P) hb hd (isS := true) (len := n) (cap := p.cap - s) (by omega) a1 a2 b1 b2 w
        refine ⟨_, by simp [Instr.sliceAt, Instr.slice, Sem.run_bind, run_underlying hu, hbd, run_szOf hz]; rfl, ?_⟩
        simp only [VR]
        refine ⟨p, hp, by omega, hcap, ?_⟩
        by_cases hc : p.cap - s = l
        · by_cases hl0 : l = 0
          · subst hl0
            left
            simp [hc]
          · right
            refine ⟨by omega, by omega, by omega, plAddr p s 0, ?_⟩
            rw [if_pos hc]
            congr 1 <;> omega
        · left
          rw [if_neg hc, add_plAddr]
          congr 1
          · simp only [plAddr, Nat.add_mul]; congr 2; omega
          · omega
      · have hh0 : hh = 0 := by omega
        have hl0 : l = 0 := by omega
        subst hh0; subst hl0
        have hbd := run_bounds (P := P) hb hd (isS := true) (len := 0) (cap := 0) (by omega) a1 a2 b1 b2 w
        refine ⟨_, by simp [Instr.sliceAt, Instr.slice, Sem.run_bind, run_underlying hu, hbd, run_szOf hz]; rfl, ?_⟩
        simp only [VR]
        exact ⟨p, hp, by omega, hcap, .inr ⟨by first | trivial | omega, by omega, by omega, A, by simp⟩⟩
    · rename_i e hu
      cases hz : szOf P e with
      | none => simp only [hz] at H; exact absurd H (hs _)
      | some sz =>
        simp only [hz] at H
        have H1 := boundL_sound (P := P) hs H
        clear H
        obtain ⟨hh, H2, a1, a2⟩ := H1
        have H3 := boundL_sound (P := P) hs H2
        clear H2
        obtain ⟨l, H4, b1, b2⟩ := H3
        have hle : hh = 0 := by
          cases hi with
          | none => exact a1 rfl
          | some v => have := (a2 v rfl).1; omega
        have hll : l = 0 := by
          cases lo with
          | none => exact b1 rfl
          | some v => have := (b2 v rfl).1; omega
        subst hle; subst hll
        refine ⟨_, H4, rfl, fun σ w a b d ha hb hd sim => ?_⟩
        simp only [VR] at ha; subst ha
        have hbd := run_bounds (P := P) hb hd (isS := true) (len := 0) (cap := 0) (by omega) a1 a2 b1 b2 w
        exact ⟨_, by simp [Instr.sliceAt, Instr.slice, Sem.run_bind, run_underlying hu, hbd, run_szOf hz]; rfl, by simp [VR]⟩
    · rename_i e id off es n cap hu
      cases hz : szOf P e with
      | none => simp only [hz] at H; exact absurd H (hs _)
      | some sz =>
        simp only [hz] at H
        obtain ⟨he, H⟩ := of_cond hs H
        rw [beq_t] at he; subst he
        obtain ⟨hh, H, a1, a2⟩ := boundL_sound (P := P) hs H
        obtain ⟨l, H, b1, b2⟩ := boundL_sound (P := P) hs H
        refine ⟨_, H, rfl, fun σ w a b d ha hb hd sim => ?_⟩
        simp only [VR] at ha
        obtain ⟨p, hp, h0, hcap, ha⟩ := ha
        have hle : hh ≤ cap := by
          cases hi with
          | none => rw [a1 rfl]; exact hcap
          | some v => exact (a2 v rfl).1
        have hll : l ≤ hh := by
          cases lo with
          | none => rw [b1 rfl]; exact Nat.zero_le _
          | some v => exact (b2 v rfl).1
        rcases ha with rfl | ⟨rfl, rfl, A, rfl⟩
        · have hbd := run_bounds (P := P) hb hd (isS := true) (len := n) (cap := cap) (Nat.le_refl _) a1 a2 b1 b2 w
          refine ⟨_, by simp [Instr.sliceAt, Instr.slice, Sem.run_bind, run_underlying hu, hbd, run_szOf hz]; rfl, ?_⟩
          simp only [VR]
          refine ⟨p, hp, h0, by omega, ?_⟩
          by_cases hc : cap = l
          · right
            refine ⟨by omega, by omega, plAddr p 0 off, ?_⟩
            rw [if_pos hc]
            congr 1 <;> omega
          · left
            rw [if_neg hc, add_plAddr]
        · have hh0 : hh = 0 := by omega
          have hl0 : l = 0 := by omega
          subst hh0; subst hl0
          have hbd := run_bounds (P := P) hb hd (isS := true) (len := 0) (cap := 0) (Nat.le_refl _) a1 a2 b1 b2 w
          refine ⟨_, by simp [Instr.sliceAt, Instr.slice, Sem.run_bind, run_underlying hu, hbd, run_szOf hz]; rfl, ?_⟩
          simp only [VR]
          exact ⟨p, hp, h0, by first | trivial | omega, .inr ⟨by first | trivial | omega, by first | trivial | omega, A, by simp⟩⟩
    · rename_i n e id off hu
      cases hz : szOf P e with
      | none => simp only [hz] at H; exact absurd H (hs _)
      | some sz =>
        simp only [hz] at H
        obtain ⟨hh, H, a1, a2⟩ := boundL_sound (P := P) hs H
        obtain ⟨l, H, b1, b2⟩ := boundL_sound (P := P) hs H
        refine ⟨_, H, rfl, fun σ w a b d ha hb hd sim => ?_⟩
        simp only [VR] at ha
        obtain ⟨p, hp, h0, _, rfl⟩ := ha
        have hle : hh ≤ n := by
          cases hi with
          | none => rw [a1 rfl]; exact Nat.le_refl _
          | some v => exact (a2 v rfl).1
        have hll : l ≤ hh := by
          cases lo with
          | none => rw [b1 rfl]; exact Nat.zero_le _
          | some v => exact (b2 v rfl).1
        have hbd := run_bounds (P := P) hb hd (isS := false) (len := n) (cap := n) (Nat.le_refl _) a1 a2 b1 b2 w
        refine ⟨_, by simp [Instr.sliceAt, Instr.sureAddr, Sem.run_bind, run_underlying hu, hbd, run_szOf hz]; rfl, ?_⟩
        simp only [VR]
        refine ⟨p, hp, h0, by omega, ?_⟩
        simp only [ixSum, Nat.add_zero]
        by_cases hc : n = l
        · right
          refine ⟨by omega, by omega, plAddr p 0 off, ?_⟩
          rw [if_pos hc]
          congr 1 <;> omega
        · left
          rw [if_neg hc, add_plAddr]
    · rename_i s hu
      obtain ⟨hh, H, a1, a2⟩ := boundL_sound (P := P) hs H
      obtain ⟨l, H, b1, b2⟩ := boundL_sound (P := P) hs H
      refine ⟨_, H, rfl, fun σ w a b d ha hb hd sim => ?_⟩
      simp only [VR] at ha; subst ha
      have hbd := run_bounds (P := P) hb hd (isS := false) (len := s.size) (cap := s.size) (Nat.le_refl _) a1 a2 b1 b2 w
      exact ⟨_, by simp [Instr.sliceAt, Instr.slice, Sem.run_bind, run_underlying hu, hbd]; rfl, by simp [VR]⟩
    · exact absurd H (hs _)

/-! ### Building -/
/-- parts -/
def VRp (σ : Sg) : List (Nat × LV) → List (Nat × Value) → Prop
  | [], ys => ys = []
  | (i, v) :: l, ys => ∃ x r, ys = (i, x) :: r ∧ VR σ v x ∧ VRp σ l r

theorem foldl_put (off : Nat) : ∀ (ps : List (Value × Nat)) (cells : Array Value), (ps.foldl (fun (cs : Array Value) (p : Value × Nat) => cs.setIfInBounds (off + p.2) p.1) cells).toList = ps.foldl (fun (cs : List Value) (p : Value × Nat) => cs.set (off + p.2) p.1) cells.toList
  | [], cells => rfl
  | p :: ps, cells => by
    simp only [List.foldl_cons]
    rw [foldl_put off ps]
    simp
theorem foldl_ov (vs : List Value) : ∀ (l : List Value) (off k : Nat), off + k + vs.length ≤ l.length → (vs.zipIdx k).foldl (fun (cs : List Value) (p : Value × Nat) => cs.set (off + p.2) p.1) l = ov l (off + k) vs := by
  induction vs with
  | nil => intro l off k h; simp [ov]
  | cons v vs ih =>
    intro l off k h
    simp only [List.length_cons] at h
    simp only [List.zipIdx_cons, List.foldl_cons]
    rw [ih _ _ _ (by simp; omega), ← Nat.add_assoc, ov_cons _ _ _ _ (by omega)]
theorem fill_put (cells vs : Array Value) (off : Nat) (h : off + vs.size ≤ cells.size) :
    vs.zipIdx.foldl (fun cs (x : Value × Nat) => match x with | (c, j) => cs.setIfInBounds (off + j) c) cells = (ov cells.toList off vs.toList).toArray := by
  have e : vs.zipIdx.foldl (fun cs (x : Value × Nat) => match x with | (c, j) => cs.setIfInBounds (off + j) c) cells = (vs.toList.zipIdx 0).foldl (fun (cs : Array Value) (p : Value × Nat) => cs.setIfInBounds (off + p.2) p.1) cells := by
    rw [← Array.foldl_toList]; simp
  rw [e]
  apply Array.ext'
  rw [foldl_put, foldl_ov _ _ _ _ (by simpa using h)]
  simp

theorem fillF_sound {σ : Sg} {place : Nat → Option (Nat × Nat)} : ∀ {parts : List (Nat × LV)} {vals : List (Nat × Value)} {cells cs : List LV} {xs : Array Value}, fillF place cells parts = some cs → VRs σ cells xs.toList → VRp σ parts vals →
    ∃ ys, Instr.fill place xs vals = some ys ∧ VRs σ cs ys.toList
  | [], vals, cells, cs, xs, h, hx, hp => by
    simp only [fillF, Option.some.injEq] at h; subst h
    simp only [VRp] at hp; subst hp
    exact ⟨xs, rfl, hx⟩
  | (i, v) :: rest, _, cells, cs, xs, h, hx, ⟨x, r, e, hv, hr⟩ => by
    subst e
    unfold fillF at h
    split at h
    · rename_i off size vs h1 h2
      cases hb : (Nat.beq (llen vs) size && Nat.ble (off + size) (llen cells)) with
      | false => simp [hb] at h
      | true =>
        simp only [hb, cond_true] at h
        simp only [Bool.and_eq_true, beq_t, Nat.ble_eq, llen_eq] at hb
        obtain ⟨q1, q2, q3⟩ := LV.cells_sound h2 hv
        have hl1 := q1.length
        have hl2 := hx.length
        simp only [Array.length_toList] at hl1 hl2
        have hput := fill_put xs x.cells off (by omega)
        obtain ⟨ys, y1, y2⟩ := fillF_sound (xs := (ov xs.toList off x.cells.toList).toArray) h (by simpa [ov] using VRs.lput hx q1 (by omega)) hr
        refine ⟨ys, ?_, y2⟩
        simp only [Instr.fill, h1]
        rw [if_neg (by simp; omega)]
        rw [← y1]
        congr 1
    · cases h
end Go.Proofs.Ytigilihpofafoaa.Loc
