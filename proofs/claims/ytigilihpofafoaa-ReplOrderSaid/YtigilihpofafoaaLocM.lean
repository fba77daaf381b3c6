/- The small machine of local values: its operations tell what the model's do. Part 1: heaps, values, reading. -/
import Derived.Test.YtigilihpofafoaaLocA
namespace Go.Proofs.Ytigilihpofafoaa.Loc
open Go
set_option linter.unusedVariables false
set_option linter.unusedSimpArgs false
set_option linter.unusedSectionVars false
variable [En]
variable {P : Program} {Φ : Out → Prop} {fl : Nat}

/-! ### Tests -/
theorem of_cond {b : Bool} {x : Out} {s : String} (hs : Good Φ) (H : Φ (cond b x (.stuck s))) : b = true ∧ Φ x := by
  cases b
  · exact absurd H (hs _)
  · exact ⟨rfl, H⟩
theorem of_cond0 {b : Bool} {x : Out} {s : String} (hs : Good Φ) (H : Φ (cond b (.stuck s) x)) : b = false ∧ Φ x := by
  cases b
  · exact ⟨rfl, H⟩
  · exact absurd H (hs _)
theorem of_lif {b : Bool} {x : Out} {s : String} (hs : Good Φ) (H : Φ (lif b x (.stuck s))) : b = true ∧ Φ x := by
  cases b
  · exact absurd H (hs _)
  · exact ⟨rfl, H⟩
theorem of_lif0 {b : Bool} {x : Out} {s : String} (hs : Good Φ) (H : Φ (lif b (.stuck s) x)) : b = false ∧ Φ x := by
  cases b
  · exact ⟨rfl, H⟩
  · exact absurd H (hs _)

/-! ### Objects and worlds -/
def LObj.rw : LObj → Bool
  | .seq _ _ _ own => own
  | .lst _ _ _ => false
  | _ => true

/-- temporaries -/
def TR (σ : Sg) (t : RM LV) (tmps : Array Value) : Prop := ∀ i v, t.get i = some v → ∃ x, tmps[i]? = some x ∧ VR σ v x
theorem TR.mono {σ σ' : Sg} (e : Ext σ σ') {t : RM LV} {tmps : Array Value} (h : TR σ t tmps) : TR σ' t tmps := fun i v hv => by
  obtain ⟨x, hx, r⟩ := h i v hv
  exact ⟨x, hx, VR.mono e _ _ r⟩

def MR (σ : Sg) : List (LV × LV) → List MapEntry → Prop
  | [], l => l = []
  | p :: es, l => ∃ e l', l = e :: l' ∧ VR σ p.1 e.key ∧ VR σ p.2 e.val ∧ MR σ es l'
theorem MR.mono {σ σ' : Sg} (x : Ext σ σ') : ∀ {es : List (LV × LV)} {l : List MapEntry}, MR σ es l → MR σ' es l
  | [], _, h => h
  | p :: es, _, ⟨e, l', h1, h2, h3, h4⟩ => ⟨e, l', h1, VR.mono x _ _ h2, VR.mono x _ _ h3, h4.mono x⟩
/-- what a list's cell is -/
def kdV : Kd → Int → Value
  | .int k, n => .int k (k.wrap n)
  | .bool, n => .bool (IntKind.u8.wrap n == 1)
def OK (P : Program) (σ : Sg) (p : Place) : LObj → Obj → Prop
  | .var cells _, ob => p.off = 0 ∧ p.n = 1 ∧ ∃ xs e, ob = .cells (List.toArray xs) e (0, 0) ∧ VRs σ cells xs ∧ ∀ x ∈ xs, Value.oneCell' x = true
  | .seq n get elem own, ob => ∃ c e fz, ob = .cells c e fz ∧ p.n = n ∧ szOf P elem = some p.es ∧ 0 < p.es ∧ p.n ≤ p.cap ∧
      (∀ i, i < n → ∃ xs, VRs σ (get i) xs ∧ xs.length = p.es ∧ (∀ j, j < p.es → c[p.off + (i * p.es + j)]? = xs[j]?) ∧ ∀ x ∈ xs, Value.oneCell' x = true) ∧
      (own = true → fz = (0, 0) ∧ p.off = 0 ∧ c.size = p.cap * p.es ∧ e = elem ∧ p.cap ≤ maxLen)
  | .loop state pend t nt ps assign body _, ob => ∃ l : Loop, ob = .loop l ∧ l.state = state ∧ l.pending = pend ∧ l.params = ps ∧ l.assign = assign ∧ l.body = body ∧ l.tmps.size = nt ∧ TR σ t l.tmps
  | .map es, ob => ∃ es' clock, ob = .map es' clock ∧ MR σ es es'.toList
  | .lst j ks elem, ob => ∃ c e fz, ob = .cells c e fz ∧ szOf P elem = some p.es ∧ 0 < p.es ∧ p.es = ks.length ∧
      ∀ i, i < p.n → ∀ f kd, ks[f]? = some kd → c[p.off + (i * p.es + f)]? = some (kdV kd (En.rho (selI j f i)))
  | .dfr, ob => ob = .deferred (some [])

/-- 'id' is the one name of what it names, and may be written -/
def Owned (fl : Nat) (id : Nat) (o : LObj) : Prop := fl ≤ id ∧ o.rw = true
def Sim (P : Program) (fl : Nat) (σ : Sg) (h : LH) (w : World) : Prop := ∀ id o, h.get id = some o → ∃ p ob, σ id = some p ∧ w.heap[p.blk]? = some ob ∧ OK P σ p o ob ∧
  (Owned fl id o → ∀ id' o' p', h.get id' = some o' → σ id' = some p' → p'.blk = p.blk → id' = id)
def Fr (fl : Nat) (σ : Sg) (nx : Nat) : Prop := fl ≤ nx ∧ ∀ id, nx ≤ id → σ id = none
/-- what follows a state: new names lie from 'nx' on -/
def Fx (fl : Nat) (σ : Sg) (nx : Nat) (σ' : Sg) (nx' : Nat) : Prop := Fr fl σ' nx' ∧ nx ≤ nx' ∧ ∀ id, id < nx → σ' id = σ id
theorem Fr.fx {fl : Nat} {σ : Sg} {nx : Nat} (f : Fr fl σ nx) : Fx fl σ nx σ nx := ⟨f, Nat.le_refl _, fun _ _ => rfl⟩
theorem Fx.trans {fl : Nat} {a b c : Sg} {i j k : Nat} (f : Fx fl a i b j) (g : Fx fl b j c k) : Fx fl a i c k :=
  ⟨g.1, Nat.le_trans f.2.1 g.2.1, fun id h => (g.2.2 id (Nat.lt_of_lt_of_le h f.2.1)).trans (f.2.2 id h)⟩

structure Step (fl : Nat) (σ : Sg) (h : LH) (w : World) (σ' : Sg) (h' : LH) (w' : World) : Prop where
  ext : Ext σ σ'
  os : w'.os = w.os
  tape : w'.tape = w.tape
  output : w'.output = w.output
  size : w.heap.size ≤ w'.heap.size
  frame : ∀ b, b < w.heap.size → (∀ id o p, h.get id = some o → Owned fl id o → σ id = some p → p.blk ≠ b) → w'.heap[b]? = w.heap[b]?
  own : ∀ id o p, h'.get id = some o → Owned fl id o → σ' id = some p → w.heap.size ≤ p.blk ∨ ∃ i0 o0 p0, h.get i0 = some o0 ∧ Owned fl i0 o0 ∧ σ i0 = some p0 ∧ p0.blk = p.blk
  low : ∀ id o, h'.get id = some o → ¬ Owned fl id o → h.get id = some o

theorem Sim.lt {σ : Sg} {h : LH} {w : World} (s : Sim P fl σ h w) {id : Nat} {o : LObj} {p : Place} (ho : h.get id = some o) (hp : σ id = some p) : p.blk < w.heap.size := by
  obtain ⟨p', ob, h1, h2, _⟩ := s id o ho
  rw [hp] at h1; cases h1
  exact (Array.getElem?_eq_some_iff.1 h2).1

theorem Step.refl {σ : Sg} {h : LH} {w : World} : Step fl σ h w σ h w :=
  ⟨Ext.refl _, rfl, rfl, rfl, Nat.le_refl _, fun _ _ _ => rfl, fun id o p h1 h2 h3 => .inr ⟨id, o, p, h1, h2, h3, rfl⟩, fun _ _ h _ => h⟩
theorem Step.trans {a b c : Sg} {h h' h'' : LH} {w w' w'' : World} (s : Step fl a h w b h' w') (t : Step fl b h' w' c h'' w'') : Step fl a h w c h'' w'' := by
  refine ⟨s.ext.trans t.ext, t.os.trans s.os, t.tape.trans s.tape, t.output.trans s.output, Nat.le_trans s.size t.size, fun b hb hn => ?_, fun id o p h1 h2 h3 => ?_, fun id o h1 h2 => s.low id o (t.low id o h1 h2) h2⟩
  · rw [t.frame b (Nat.lt_of_lt_of_le hb s.size) (fun id o p h1 h2 h3 e => ?_), s.frame b hb hn]
    rcases s.own id o p h1 h2 h3 with hge | ⟨i0, o0, p0, q1, q2, q3, q4⟩
    · omega
    · exact hn i0 o0 p0 q1 q2 q3 (q4.trans e)
  · rcases t.own id o p h1 h2 h3 with hge | ⟨i0, o0, p0, q1, q2, q3, q4⟩
    · exact .inl (Nat.le_trans s.size hge)
    · rcases s.own i0 o0 p0 q1 q2 q3 with hge | ⟨i1, o1, p1, r1, r2, r3, r4⟩
      · exact .inl (q4 ▸ hge)
      · exact .inr ⟨i1, o1, p1, r1, r2, r3, r4.trans q4⟩

theorem OK.mono {σ σ' : Sg} (e : Ext σ σ') {p : Place} : ∀ {o : LObj} {ob : Obj}, OK P σ p o ob → OK P σ' p o ob
  | .var cells _, _, ⟨h1, h2, xs, el, h3, h4, h5⟩ => ⟨h1, h2, xs, el, h3, VRs.mono e _ _ h4, h5⟩
  | .seq n get elem own, _, ⟨c, el, fz, h1, h2, h3, h4, h5, h6, h7⟩ => ⟨c, el, fz, h1, h2, h3, h4, h5, fun i hi => by
      obtain ⟨xs, q1, q2⟩ := h6 i hi
      exact ⟨xs, VRs.mono e _ _ q1, q2⟩, h7⟩
  | .loop .., _, ⟨l, h1, h2, h3, h4, h5, h6, h7, h8⟩ => ⟨l, h1, h2, h3, h4, h5, h6, h7, h8.mono e⟩
  | .map es, _, ⟨es', ck, h1, h2⟩ => ⟨es', ck, h1, h2.mono e⟩
  | .lst .., _, h => h
  | .dfr, _, h => h

def upd (σ : Sg) (i : Nat) (p : Place) : Sg := fun j => if j = i then some p else σ j
theorem upd_same {σ : Sg} {i : Nat} {p : Place} : upd σ i p i = some p := by simp [upd]
theorem upd_other {σ : Sg} {i j : Nat} {p : Place} (h : j ≠ i) : upd σ i p j = σ j := by simp [upd, h]
theorem Fr.ext {σ : Sg} {nx : Nat} {p : Place} (f : Fr fl σ nx) : Ext σ (upd σ nx p) := fun id q e => by
  have : id ≠ nx := fun h => by rw [f.2 id (by omega)] at e; cases e
  rw [upd_other this]; exact e
theorem Fr.upd {σ : Sg} {nx : Nat} {p : Place} (f : Fr fl σ nx) : Fx fl σ nx (upd σ nx p) (nx + 1) := ⟨⟨Nat.le_succ_of_le f.1, fun id h => by
  rw [upd_other (by omega)]; exact f.2 id (by omega)⟩, Nat.le_succ _, fun id h => upd_other (by omega)⟩

/-- a new object -/
theorem Sim.new {σ : Sg} {h : LH} {w w' : World} {nx : Nat} (s : Sim P fl σ h w) (f : Fr fl σ nx) {o : LObj} {ob : Obj} {p : Place} (hr : o.rw = true) (hb : p.blk = w.heap.size)
    (hw : w'.heap = w.heap.push ob) (hos : w'.os = w.os) (ht : w'.tape = w.tape) (ho : w'.output = w.output) (hok : OK P (upd σ nx p) p o ob) :
    Sim P fl (upd σ nx p) (h.set nx o) w' ∧ Fx fl σ nx (upd σ nx p) (nx + 1) ∧ Step fl σ h w (upd σ nx p) (h.set nx o) w' := by
  have hlt : ∀ b, b < w.heap.size → w'.heap[b]? = w.heap[b]? := fun b hb' => by
    rw [hw, Array.getElem?_push, if_neg (by omega)]
  refine ⟨fun id o' hg => ?_, f.upd, ⟨f.ext, hos, ht, ho, by rw [hw]; simp, fun b hb' _ => hlt b hb', fun id o' p' h1 h2 h3 => ?_, fun id o' h1 h2 => ?_⟩⟩
  · rw [RM.get_set] at hg
    by_cases e : nx = id
    · subst e
      simp only [if_true, Option.some.injEq] at hg; subst hg
      refine ⟨p, ob, upd_same, by rw [hb, hw]; simp, hok, fun _ id' o' p' h1 h2 h3 => ?_⟩
      rw [RM.get_set] at h1
      by_cases e' : nx = id'
      · exact e'.symm
      · rw [if_neg e'] at h1
        rw [upd_other (fun h => e' h.symm)] at h2
        have := s.lt h1 h2
        omega
    · rw [if_neg e] at hg
      obtain ⟨q, ob', h1, h2, h3, h4⟩ := s id o' hg
      have hq := s.lt hg h1
      refine ⟨q, ob', f.ext id q h1, by rw [hlt _ hq]; exact h2, OK.mono f.ext h3, fun hr id' o'' p' h5 h6 h7 => ?_⟩
      rw [RM.get_set] at h5
      by_cases e' : nx = id'
      · subst e'
        rw [upd_same] at h6; cases h6
        omega
      · rw [if_neg e'] at h5
        rw [upd_other (fun h => e' h.symm)] at h6
        exact h4 hr id' o'' p' h5 h6 h7
  · rw [RM.get_set] at h1
    by_cases e : nx = id
    · subst e
      rw [upd_same] at h3; cases h3
      exact .inl (by omega)
    · rw [if_neg e] at h1
      rw [upd_other (fun h => e h.symm)] at h3
      exact .inr ⟨id, o', p', h1, h2, h3, rfl⟩
  · rw [RM.get_set] at h1
    by_cases e : nx = id
    · subst e
      simp only [if_true, Option.some.injEq] at h1; subst h1
      exact absurd ⟨f.1, hr⟩ h2
    · rwa [if_neg e] at h1

/-- an object that is written -/
theorem Sim.put {σ : Sg} {h : LH} {w w' : World} {id : Nat} {p : Place} (s : Sim P fl σ h w) {o o' : LObj} {ob' : Obj} (hg : h.get id = some o) (hr : Owned fl id o) (hr' : o'.rw = true) (hp : σ id = some p)
    (hsz : w'.heap.size = w.heap.size) (hb : ∀ b, b ≠ p.blk → w'.heap[b]? = w.heap[b]?) (hn : w'.heap[p.blk]? = some ob') (hos : w'.os = w.os) (ht : w'.tape = w.tape) (ho : w'.output = w.output)
    (hok : OK P σ p o' ob') : Sim P fl σ (h.set id o') w' ∧ Step fl σ h w σ (h.set id o') w' := by
  obtain ⟨p0, ob0, g1, g2, g3, g4⟩ := s id o hg
  rw [hp] at g1; cases g1
  refine ⟨fun i x hx => ?_, ⟨Ext.refl _, hos, ht, ho, by omega, fun b hb' hnb => hb b fun e => hnb id o p hg hr hp e.symm, fun i x q h1 h2 h3 => ?_, fun i x h1 h2 => ?_⟩⟩
  · rw [RM.get_set] at hx
    by_cases e : id = i
    · subst e
      simp only [if_true, Option.some.injEq] at hx; subst hx
      refine ⟨p, ob', hp, hn, hok, fun _ i' x' p' h1 h2 h3 => ?_⟩
      rw [RM.get_set] at h1
      by_cases e' : id = i'
      · exact e'.symm
      · rw [if_neg e'] at h1; exact g4 hr i' x' p' h1 h2 h3
    · rw [if_neg e] at hx
      obtain ⟨q, ob, h1, h2, h3, h4⟩ := s i x hx
      have hne : q.blk ≠ p.blk := fun hq => e (g4 hr i x q hx h1 hq).symm
      refine ⟨q, ob, h1, by rw [hb _ hne]; exact h2, h3, fun hr2 i' x' p' h5 h6 h7 => ?_⟩
      rw [RM.get_set] at h5
      by_cases e' : id = i'
      · subst e'; exact h4 hr2 id o p' hg h6 h7
      · rw [if_neg e'] at h5; exact h4 hr2 i' x' p' h5 h6 h7
  · rw [RM.get_set] at h1
    by_cases e : id = i
    · subst e
      rw [hp] at h3; cases h3
      exact .inr ⟨id, o, p, hg, hr, hp, rfl⟩
    · rw [if_neg e] at h1
      exact .inr ⟨i, x, q, h1, h2, h3, rfl⟩
  · rw [RM.get_set] at h1
    by_cases e : id = i
    · subst e
      simp only [if_true, Option.some.injEq] at h1; subst h1
      exact absurd ⟨hr.1, hr'⟩ h2
    · rwa [if_neg e] at h1

/-- an object that is let go -/
theorem Sim.del {σ : Sg} {h : LH} {w : World} (s : Sim P fl σ h w) (id : Nat) : Sim P fl σ (h.del id) w ∧ Step fl σ h w σ (h.del id) w := by
  have hd : ∀ i o, (h.del id).get i = some o → h.get i = some o := fun i o hg => by
    rw [RM.get_del] at hg
    by_cases e : id = i
    · simp [e] at hg
    · simpa [e] using hg
  refine ⟨fun i o hg => ?_, ⟨Ext.refl _, rfl, rfl, rfl, Nat.le_refl _, fun _ _ _ => rfl, fun i o p h1 h2 h3 => .inr ⟨i, o, p, hd _ _ h1, h2, h3, rfl⟩, fun i o h1 _ => hd i o h1⟩⟩
  obtain ⟨p, ob, h1, h2, h3, h4⟩ := s i o (hd _ _ hg)
  exact ⟨p, ob, h1, h2, h3, fun hr i' o' p' h5 h6 h7 => h4 hr i' o' p' (hd _ _ h5) h6 h7⟩

/-! ### Cells of values -/
theorem isSc_one {σ : Sg} {v : LV} {x : Value} (h : v.isSc = true) (r : VR σ v x) : x.oneCell' = true := by
  cases v <;> simp [LV.isSc] at h <;> simp only [VR] at r
  all_goals first
    | (subst r; rfl)
    | (obtain ⟨p, _, _, _, rfl⟩ := r; rfl)
    | (obtain ⟨p, _, _, _, r⟩ := r; rcases r with rfl | ⟨_, _, _, rfl⟩ <;> rfl)
    | (obtain ⟨p, _, _, _, r⟩ := r; rcases r with rfl | ⟨_, _, _, _, rfl⟩ <;> rfl)
    | (obtain ⟨p, _, rfl⟩ := r; rfl)
    | (rcases r with ⟨p, _, _, c, _, rfl⟩ | ⟨_, A, c, rfl⟩ <;> rfl)
    | (obtain ⟨p, _, _, _, rfl⟩ := r; rfl)
    | (obtain ⟨xs, ys, rfl, _⟩ := r; rfl)
    | (obtain ⟨y, rfl, _⟩ := r; rfl)
theorem isSc_cells {σ : Sg} {v : LV} {x : Value} (h : v.isSc = true) (r : VR σ v x) : x.cells = #[x] := by
  have := isSc_one h r
  cases x <;> first | rfl | simp [Value.oneCell'] at this
theorem allSc_one {σ : Sg} : ∀ {vs : List LV} {xs : List Value}, allSc vs = true → VRs σ vs xs → ∀ x ∈ xs, x.oneCell' = true
  | [], xs, _, h, x, hx => by simp only [VRs] at h; subst h; simp at hx
  | v :: vs, _, h, ⟨y, ys, e, r, t⟩, x, hx => by
    subst e
    simp only [allSc] at h
    cases hv : v.isSc with
    | false => simp [hv] at h
    | true =>
      simp only [hv, cond_true] at h
      rcases List.mem_cons.1 hx with rfl | hx
      · exact isSc_one hv r
      · exact allSc_one h t x hx
theorem LV.cells_sound {σ : Sg} {v : LV} {x : Value} {cs : List LV} (h : v.cells = some cs) (r : VR σ v x) : VRs σ cs x.cells.toList ∧ (∀ y ∈ x.cells.toList, y.oneCell' = true) ∧ allSc cs = true := by
  cases v with
  | undef => simp [LV.cells] at h
  | tup vs => simp [LV.cells] at h
  | agg ds =>
    simp only [LV.cells] at h
    cases hb : allSc ds with
    | false => simp [hb] at h
    | true =>
      simp only [hb, cond_true, Option.some.injEq] at h; subst h
      simp only [VR] at r
      obtain ⟨xs, rfl, r⟩ := r
      exact ⟨by simpa [Value.cells] using r, by simpa [Value.cells] using allSc_one hb r, hb⟩
  | _ =>
    simp only [LV.cells, Option.some.injEq] at h; subst h
    have hc := isSc_cells (by rfl) r
    have ho := isSc_one (by rfl) r
    rw [hc]
    exact ⟨VRs.cons r VRs.nil, by simpa using ho, rfl⟩

theorem ofSc_sound {σ : Sg} {v : Value} {l : LV} (h : ofSc v = some l) : VR σ l v := by
  unfold ofSc at h
  split at h <;> simp at h <;> subst h <;> simp [VR]
theorem ofScs_sound {σ : Sg} : ∀ {vs : List Value} {ls : List LV}, ofScs vs = some ls → VRs σ ls vs
  | [], ls, h => by simp only [ofScs, Option.some.injEq] at h; subst h; simp [VRs]
  | v :: vs, ls, h => by
    unfold ofScs at h
    cases h1 : ofSc v with
    | none => simp [h1] at h
    | some x =>
      cases h2 : ofScs vs with
      | none => simp [h1, h2] at h
      | some xs =>
        simp only [h1, h2, Option.some.injEq] at h; subst h
        exact VRs.cons (ofSc_sound h1) (ofScs_sound h2)
theorem ofVal_sound {σ : Sg} (v : Value) : VR σ (ofVal v) v := by
  have hsc : ∀ v : Value, VR σ ((ofSc v).getD .undef) v := fun v => by
    cases h : ofSc v with
    | none => simp [VR]
    | some l => simpa using ofSc_sound h
  unfold ofVal
  split
  · rename_i cs
    cases h : ofScs cs.toList with
    | none => simp [VR]
    | some xs => exact ⟨cs.toList, by simp, ofScs_sound h⟩
  · exact hsc _

/-! ### Types -/
theorem run_szOf {t : TypeId} {n : Nat} (h : szOf P t = some n) (w : World) : (sizeOf t).run P w = .ok n w := by
  unfold szOf at h
  cases hi : P.info? t with
  | none => simp [hi] at h
  | some i =>
    simp only [hi, Option.map_some, Option.some.injEq] at h; subst h
    simp [sizeOf, typeInfo, hi]
theorem run_isAgg {t : TypeId} {d : TypeDesc} (h : P.underlying t = some d) (w : World) : (isAgg t).run P w = .ok (rowD d) w := by
  unfold isAgg
  rw [Sem.run_bind, run_underlying h w]
  cases d <;> rfl
theorem zeroL_sound {t : TypeId} {cs : List LV} (h : (zeroL P t).cells = some cs) : ∃ z, (∀ w, (zeroValue t).run P w = .ok z w) ∧ zeroL P t = ofVal z := by
  unfold zeroL at h ⊢
  cases hi : P.info? t with
  | none => simp [hi, LV.cells] at h
  | some i =>
    simp only [hi] at h ⊢
    cases hz : i.zero with
    | none => simp [hz, LV.cells] at h
    | some z =>
      exact ⟨z, fun w => by simp [zeroValue, typeInfo, hi, hz], by simp⟩
end Go.Proofs.Ytigilihpofafoaa.Loc
