/- The small machine of local values: its operations tell what the model's do. Part 7: append. -/
import Derived.Test.YtigilihpofafoaaLocR3
namespace Go.Proofs.Ytigilihpofafoaa.Loc
open Go
set_option linter.unusedVariables false
set_option linter.unusedSimpArgs false
set_option linter.unusedSectionVars false
variable [En]
variable {P : Program} {Φ : Out → Prop} {fl : Nat}

/-- what a source tells of the list that is appended -/
def SrcOk (σ : Sg) (w : World) (sz m : Nat) (src : Nat → List LV) (b : Value) : Prop :=
  (m = 0 ∧ b = .slice none 0 0) ∨ ∃ a cc news, b = .slice (some a) m cc ∧ List.length news = m * sz ∧ (∀ (j : Nat) (u : Value), news[j]? = some u → w.cell? (a.add j) = some u) ∧ (∀ u ∈ news, u.oneCell' = true) ∧
    ∀ j, j < m → VRs σ (src j) (chunkL news sz j)

theorem add_lit (b o j : Nat) : (⟨b, o, none⟩ : Addr).add j = ⟨b, o + j, none⟩ := Addr.add_mid b o j

theorem chunk_range {l : List Value} {sz o m j : Nat} (hj : j < m) : chunkL ((l.drop o).take (m * sz)) sz j = (l.drop (o + j * sz)).take sz := by
  have := Nat.mul_le_mul_right sz (Nat.succ_le_of_lt hj)
  rw [Nat.succ_mul] at this
  apply List.ext_getElem?
  intro k
  by_cases hk : k < sz
  · rw [chunkL, List.getElem?_take_of_lt hk, List.getElem?_drop, List.getElem?_take_of_lt (by omega), List.getElem?_drop, List.getElem?_take_of_lt hk, List.getElem?_drop, Nat.add_assoc]
  · rw [List.getElem?_eq_none (by simp [chunkL]; omega), List.getElem?_eq_none (by simp; omega)]

/-- the range of a block, as a source -/
theorem SrcOk.range {σ : Sg} {w : World} {sz m : Nat} {src : Nat → List LV} {b o cc : Nat} {c : Array Value} {e : TypeId} {fz : Nat × Nat} (hh : w.heap[b]? = some (.cells c e fz)) (hle : m = 0 ∨ o + m * sz ≤ c.size)
    (h1 : ∀ j, j < m → ∀ x ∈ (c.toList.drop (o + j * sz)).take sz, x.oneCell' = true) (hv : ∀ j, j < m → VRs σ (src j) ((c.toList.drop (o + j * sz)).take sz)) (hsz : 0 < sz) :
    SrcOk σ w sz m src (.slice (some ⟨b, o, none⟩) m cc) := by
  refine .inr ⟨_, cc, (c.toList.drop o).take (m * sz), rfl, ?_, fun j u hu => ?_, fun u hu => ?_, fun j hj => ?_⟩
  · rcases hle with rfl | hle
    · simp
    · simp; omega
  · have hj : j < m * sz := by have := (List.getElem?_eq_some_iff.1 hu).1; simp at this; omega
    rw [List.getElem?_take_of_lt hj, List.getElem?_drop] at hu
    rw [add_lit, cell?_cells hh, ← hu]; simp
  · obtain ⟨k, hk, rfl⟩ := List.mem_iff_getElem.1 hu
    have hk' : k < m * sz := by simp at hk; omega
    have hdm := Nat.div_add_mod k sz
    have hm := Nat.mod_lt k hsz
    have hd : k / sz < m := Nat.div_lt_of_lt_mul (by rw [Nat.mul_comm]; exact hk')
    refine h1 (k / sz) hd _ (List.mem_iff_getElem?.2 ⟨k % sz, ?_⟩)
    rw [List.getElem?_take_of_lt hm, List.getElem?_drop, ← List.getElem?_eq_getElem, List.getElem?_take_of_lt hk', List.getElem?_drop]
    congr 1
    rw [Nat.mul_comm] at hdm; omega
  · rw [chunk_range hj]; exact hv j hj

theorem srcL_sound (hs : Good Φ) {e : TypeId} {sz : Nat} (hsz : szOf P e = some sz) (h0 : 0 < sz) {h : LH} {x : LV} {c : Nat → (Nat → List LV) → Out} (H : Φ (srcL P e sz h x c)) :
    ∃ m src, Φ (c m src) ∧ ∀ σ w b, VR σ x b → Sim P fl σ h w → SrcOk σ w sz m src b := by
  unfold srcL at H
  split at H
  · refine ⟨_, _, H, fun σ w b hb s => .inl ⟨rfl, ?_⟩⟩
    simpa [VR] using hb
  · rename_i id s n
    split at H
    · rename_i m get e' own ho
      obtain ⟨hb, H⟩ := of_cond hs H
      simp only [Bool.and_eq_true, Nat.ble_eq] at hb
      refine ⟨_, _, H, fun σ w b hx sim => ?_⟩
      simp only [VR] at hx
      obtain ⟨p, hp, hsn, hcap, hx⟩ := hx
      have hes := seqEs_sound sim hb.1 hp
      rw [hsz] at hes; cases hes
      obtain ⟨p', ob, g1, g2, g3, _⟩ := sim id _ ho
      rw [hp] at g1; cases g1
      have g3' := g3
      obtain ⟨cc, el, fz, hob, q1, _⟩ := g3'
      subst hob
      rcases hx with rfl | ⟨rfl, hs', h0', A, rfl⟩
      · have hel := fun j (hj : j < n) => g3.elem (i := s + j) (by omega)
        have hoff : ∀ j, p.off + (s + j) * p.es = p.off + (s * p.es + 0) + j * p.es := fun j => by rw [Nat.add_mul]; omega
        have := SrcOk.range (σ := σ) (src := fun j => get (s + j)) (m := n) (sz := p.es) (o := p.off + (s * p.es + 0)) (cc := p.cap - s) g2 ?_ (fun j hj => by rw [← hoff]; exact (hel j hj).2.2) (fun j hj => by rw [← hoff]; exact (hel j hj).1) h0
        · exact this
        · rcases Nat.eq_zero_or_pos n with rfl | hn
          · exact .inl rfl
          · right
            have := (hel (n - 1) (by omega)).2.1
            rw [hoff] at this
            have e1 : (n - 1) * p.es + p.es = n * p.es := by rw [← Nat.succ_mul]; congr 1; omega
            omega
      · exact .inr ⟨A, 0, [], rfl, by simp, fun j u hu => by simp at hu, fun u hu => by simp at hu, fun j hj => by omega⟩
    · exact absurd H (hs _)
  · rename_i id off es n cap
    split at H
    · rename_i cs e' ho
      have H1 := of_cond hs H
      clear H
      obtain ⟨hb, H⟩ := H1
      simp only [Bool.and_eq_true, beq_t, Nat.ble_eq, llen_eq] at hb
      obtain ⟨rfl, hb⟩ := hb
      refine ⟨_, _, H, fun σ w b hx sim => ?_⟩
      simp only [VR] at hx
      obtain ⟨p, hp, hn0, hnc, hx⟩ := hx
      obtain ⟨p', ob, g1, g2, g3, _⟩ := sim id _ ho
      rw [hp] at g1; cases g1
      obtain ⟨q1, q2, xs, el, rfl, q3, q4⟩ := g3
      rcases hx with rfl | ⟨rfl, rfl, A, rfl⟩
      · have hl := q3.length
        have := SrcOk.range (σ := σ) (src := fun j => ltake (ldrop cs (off + j * es)) es) (m := n) (sz := es) (o := off) (cc := cap) g2 (.inr (by simp; omega)) (fun j hj x hx => q4 x (List.mem_of_mem_drop (List.mem_of_mem_take hx)))
          (fun j hj => by rw [ltake_eq, ldrop_eq]; exact (q3.drop _).take _) h0
        simpa [plAddr, q1] using this
      · exact .inr ⟨A, 0, [], rfl, by simp, fun j u hu => by simp at hu, fun u hu => by simp at hu, fun j hj => by omega⟩
    · exact absurd H (hs _)
  · exact absurd H (hs _)

/-- the new list, as an object: 'F': its cells -/
theorem grown_sound {σ : Sg} {h : LH} {w w' : World} {nx : Nat} (s : Sim P fl σ h w) (f : Fr fl σ nx) {e : TypeId} {sz n cap : Nat} {get : Nat → List LV} {F : List Value} {c : Array Value} (hsz : szOf P e = some sz) (h0 : 0 < sz)
    (hcap : n ≤ cap) (hm : cap ≤ maxLen) (hc : c.size = cap * sz) (hF : F.length = n * sz) (hcF : ∀ k, k < n * sz → c[k]? = F[k]?) (h1 : ∀ x ∈ F, x.oneCell' = true) (hv : ∀ j, j < n → VRs σ (get j) (chunkL F sz j))
    (hw : w'.heap = w.heap.push (.cells c e (0, 0))) (hos : w'.os = w.os) (ht : w'.tape = w.tape) (ho : w'.output = w.output) :
    VR (upd σ nx ⟨w.heap.size, 0, sz, n, cap⟩) (.sq nx 0 n) (.slice (some ⟨w.heap.size, 0, none⟩) n cap) ∧ Sim P fl (upd σ nx ⟨w.heap.size, 0, sz, n, cap⟩) (h.set nx (.seq n get e true)) w' ∧ Fx fl σ nx (upd σ nx ⟨w.heap.size, 0, sz, n, cap⟩) (nx + 1) ∧
      Step fl σ h w (upd σ nx ⟨w.heap.size, 0, sz, n, cap⟩) (h.set nx (.seq n get e true)) w' := by
  have hok : OK P (upd σ nx ⟨w.heap.size, 0, sz, n, cap⟩) ⟨w.heap.size, 0, sz, n, cap⟩ (.seq n get e true) (.cells c e (0, 0)) :=
    OK.mkSeq (F := F) rfl hsz h0 hcap rfl hc hm hF hcF h1 fun j hj => VRs.mono f.ext _ _ (hv j hj)
  obtain ⟨r1, r2, r3⟩ := s.new f (p := ⟨w.heap.size, 0, sz, n, cap⟩) rfl rfl hw hos ht ho hok
  refine ⟨?_, r1, r2, r3⟩
  simp only [VR]
  exact ⟨_, upd_same, by simp, hcap, .inl (by simp [plAddr])⟩

theorem SrcOk.mono {σ σ' : Sg} (e : Ext σ σ') {w : World} {sz m : Nat} {src : Nat → List LV} {b : Value} (h : SrcOk σ w sz m src b) : SrcOk σ' w sz m src b := by
  rcases h with h | ⟨a, cc, news, h1, h2, h3, h4, h5⟩
  · exact .inl h
  · exact .inr ⟨a, cc, news, h1, h2, h3, h4, fun j hj => VRs.mono e _ _ (h5 j hj)⟩

theorem chunk_append {l m : List Value} {sz n j : Nat} (hl : l.length = n * sz) : (j < n → chunkL (l ++ m) sz j = chunkL l sz j) ∧ (n ≤ j → chunkL (l ++ m) sz j = chunkL m sz (j - n)) := by
  refine ⟨fun hj => ?_, fun hj => ?_⟩
  · have := Nat.mul_le_mul_right sz (Nat.succ_le_of_lt hj)
    rw [Nat.succ_mul] at this
    unfold chunkL
    rw [List.drop_append_of_le_length (by omega), List.take_append_of_le_length (by simp; omega)]
  · unfold chunkL
    have : j * sz = l.length + (j - n) * sz := by rw [hl, ← Nat.add_mul]; congr 1; omega
    rw [this, List.drop_append, List.drop_eq_nil_of_le (by omega), Nat.add_sub_cancel_left, List.nil_append]

theorem SrcOk.addr {σ : Sg} {w : World} {sz m : Nat} {src : Nat → List LV} {b : Value} (h : SrcOk σ w sz m src b) (hm : 0 < m) :
    ∃ a cc news, b = .slice (some a) m cc ∧ List.length news = m * sz ∧ (∀ (j : Nat) (u : Value), news[j]? = some u → w.cell? (a.add j) = some u) ∧ (∀ u ∈ news, u.oneCell' = true) ∧
    ∀ j, j < m → VRs σ (src j) (chunkL news sz j) := by
  rcases h with ⟨rfl, _⟩ | h
  · omega
  · exact h

theorem run_append_nils {t ty e : TypeId} {i : TypeInfo} (ht : P.underlying t = some (.slice e)) (hi : P.info? e = some i) {b : Value} (hb : b = .slice none 0 0 ∨ ∃ a cc, b = .slice (some a) 0 cc) (w : World) (base : Option Addr) (n c : Nat) (hnc : n ≤ c) :
    (Builtin.append_ #[t, t] ty #[.slice base n c, b]).run P w = .ok (.slice base n c) w := by
  rcases hb with rfl | ⟨a, cc, rfl⟩ <;> cases base <;>
    simp [Builtin.append_, run_underlying ht, sizeOf, typeInfo, hi, Builtin.lenOf, Builtin.firstCells, loadCells, loadCellsFrom, storeCells, hnc]

/-- an object that takes another's place -/
theorem Sim.replace {σ : Sg} {h : LH} {w w' : World} {id nx : Nat} {p p' : Place} (s : Sim P fl σ h w) (f : Fr fl σ nx) {o o' : LObj} {ob' : Obj} (hg : h.get id = some o) (hr : Owned fl id o) (hr' : o'.rw = true) (hp : σ id = some p) (hpp : p'.blk = p.blk)
    (hsz : w'.heap.size = w.heap.size) (hb : ∀ b, b ≠ p.blk → w'.heap[b]? = w.heap[b]?) (hn : w'.heap[p.blk]? = some ob') (hos : w'.os = w.os) (ht : w'.tape = w.tape) (ho : w'.output = w.output)
    (hok : OK P (upd σ nx p') p' o' ob') : Sim P fl (upd σ nx p') ((h.del id).set nx o') w' ∧ Fx fl σ nx (upd σ nx p') (nx + 1) ∧ Step fl σ h w (upd σ nx p') ((h.del id).set nx o') w' := by
  obtain ⟨p0, ob0, g1, g2, g3, g4⟩ := s id o hg
  rw [hp] at g1; cases g1
  have hd : ∀ i x, (h.del id).get i = some x → h.get i = some x ∧ i ≠ id := fun i x hx => by
    rw [RM.get_del] at hx
    by_cases e : id = i
    · simp [e] at hx
    · exact ⟨by simpa [e] using hx, fun e' => e e'.symm⟩
  have hother : ∀ i x q, (h.del id).get i = some x → σ i = some q → q.blk ≠ p.blk := fun i x q hx hq e => (hd i x hx).2 (g4 hr i x q (hd i x hx).1 hq e)
  refine ⟨fun i x hx => ?_, f.upd, ⟨f.ext, hos, ht, ho, by omega, fun b hb' hnb => hb b fun e => hnb id o p hg hr hp e.symm, fun i x q h1 h2 h3 => ?_, fun i x h1 h2 => ?_⟩⟩
  · rw [RM.get_set] at hx
    by_cases e : nx = i
    · subst e
      simp only [if_true, Option.some.injEq] at hx; subst hx
      refine ⟨p', ob', upd_same, by rw [hpp]; exact hn, hok, fun _ i' x' q h1 h2 h3 => ?_⟩
      rw [RM.get_set] at h1
      by_cases e' : nx = i'
      · exact e'.symm
      · rw [if_neg e'] at h1
        rw [upd_other (fun h => e' h.symm)] at h2
        exact absurd (h3.trans hpp) (hother i' x' q h1 h2)
    · rw [if_neg e] at hx
      obtain ⟨q, ob, h1, h2, h3, h4⟩ := s i x (hd i x hx).1
      have hne := hother i x q hx h1
      refine ⟨q, ob, f.ext i q h1, by rw [hb _ hne]; exact h2, OK.mono f.ext h3, fun hr2 i' x' q' h5 h6 h7 => ?_⟩
      rw [RM.get_set] at h5
      by_cases e' : nx = i'
      · subst e'
        rw [upd_same] at h6; cases h6
        exact absurd (h7.symm.trans hpp) hne
      · rw [if_neg e'] at h5
        rw [upd_other (fun h => e' h.symm)] at h6
        exact h4 hr2 i' x' q' (hd i' x' h5).1 h6 h7
  · rw [RM.get_set] at h1
    by_cases e : nx = i
    · subst e
      rw [upd_same] at h3; cases h3
      exact .inr ⟨id, o, p, hg, hr, hp, hpp.symm⟩
    · rw [if_neg e] at h1
      rw [upd_other (fun h => e h.symm)] at h3
      exact .inr ⟨i, x, q, (hd i x h1).1, h2, h3, rfl⟩
  · rw [RM.get_set] at h1
    by_cases e : nx = i
    · subst e
      simp only [if_true, Option.some.injEq] at h1; subst h1
      exact absurd ⟨f.1, hr'⟩ h2
    · rw [if_neg e] at h1
      exact (hd i x h1).1

theorem appendL_sound (hs : Good Φ) {t : TypeId} {s x : LV} {h : LH} {nx : Nat} {c : KV} (H : Φ (appendL P fl t s x h nx c)) :
    ∃ v h' nx', Φ (c v h' nx') ∧ ∀ σ w a b ty, VR σ s a → VR σ x b → Sim P fl σ h w → Fr fl σ nx → ∃ z w' σ', (Builtin.append_ #[t, t] ty #[a, b]).run P w = .ok z w' ∧ VR σ' v z ∧ Sim P fl σ' h' w' ∧ Fx fl σ nx σ' nx' ∧ Step fl σ h w σ' h' w' := by
  unfold appendL at H
  split at H
  · rename_i e hu
    split at H
    · rename_i i zs hi hzc
      have HA := of_cond hs H
      clear H
      obtain ⟨hb, H⟩ := HA
      simp only [Bool.and_eq_true, Nat.blt_eq, beq_t, llen_eq] at hb
      obtain ⟨hsz0, hby0, hzl⟩ := hb
      have hsz : szOf P e = some i.size := by simp [szOf, hi]
      obtain ⟨i', z, hi', hz, hv⟩ := zero_cells hzc
      rw [hi] at hi'; cases hi'
      have hzs : z.cells.size = i.size := by
        have := (hv (fun _ => none)).1.length
        simp only [Array.length_toList] at this
        omega
      have hz1 := (hv (fun _ => none)).2
      have HA := srcL_sound (fl := fl) hs hsz hsz0 H
      clear H
      obtain ⟨m, src, H, hsrc⟩ := HA
      have hmax : ∀ k : Nat, k * i.bytes ≤ maxBytes → k ≤ 140737488355328 := fun k hk => by
        have := Nat.le_mul_of_pos_right k hby0
        simp only [maxBytes] at hk; omega
      split at H
      · cases hm0 : Nat.beq m 0 with
        | true =>
          simp only [hm0, lif] at H
          rw [beq_t] at hm0; subst hm0
          refine ⟨_, _, _, H, fun σ w a b ty ha hb s f => ?_⟩
          simp only [VR] at ha; subst ha
          refine ⟨_, w, σ, run_append_nils hu hi ?_ w none 0 0 (Nat.le_refl _), by simp [VR], s, f.fx, Step.refl⟩
          rcases hsrc σ w b hb s with ⟨_, h⟩ | ⟨a, cc, _, h, _⟩
          · exact .inl h
          · exact .inr ⟨a, cc, h⟩
        | false =>
          simp only [hm0, lif] at H
          rw [beq_f] at hm0
          have hle := Nat.pos_of_ne_zero hm0
          obtain ⟨hbl, H⟩ := of_lif hs (x := c (.sq nx 0 m) (h.set nx (.seq m src e true)) (nx + 1)) (s := "append: too long") (by simpa only [lif] using H)
          rw [Nat.ble_eq] at hbl
          have hm := hmax m hbl
          refine ⟨_, _, _, H, fun σ w a b ty ha hb s f => ?_⟩
          simp only [VR] at ha; subst ha
          obtain ⟨ad, cc, news, rfl, hl, hnews, h1, hvv⟩ := (hsrc σ w b hb s).addr hle
          have hr := run_append_nil (P := P) w t ty e i z hu hi hz ad m cc news hl hnews hle (by omega) (by simp only [maxBytes] at hbl; omega)
          have hge := grownCap_ge w m 0 e
          have hcm : grownCap w m 0 e ≤ maxLen := grownCap_le_maxLen w m 0 e (by simp only [maxLen]; omega)
          obtain ⟨r0, r1, r2, r3⟩ := grown_sound (w' := w.drew.alloc (.cells (news.toArray ++ Builtin.zeroCells z.cells (grownCap w m 0 e - m)) e)) s f (get := src) (F := news) (n := m) (cap := grownCap w m 0 e) hsz hsz0 hge hcm
            (by simp only [Array.size_append, List.size_toArray, size_zeroCells, hzs, hl, ← Nat.add_mul]; congr 1; omega) hl
            (fun k hk => by rw [Array.getElem?_append_left (by simp; omega)]; simp) h1 hvv rfl rfl rfl rfl
          exact ⟨_, _, _, hr, r0, r1, r2, r3⟩
      · rename_i id n
        split at H
        · rename_i n' get e' ho
          have HA := of_cond hs H
          clear H
          obtain ⟨hb, H⟩ := HA
          simp only [Bool.and_eq_true, beq_t, Nat.ble_eq] at hb
          obtain ⟨hb1, hb2, hfl⟩ := hb
          have HB := of_lif hs H
          clear H
          obtain ⟨hbl, H⟩ := HB
          rw [Nat.ble_eq] at hbl
          have hm := hmax (n + m) hbl
          refine ⟨_, _, _, H, fun σ w a b ty ha hb s f => ?_⟩
          rw [← hb1, ← hb2] at ho
          clear hb1 hb2
          simp only [VR] at ha
          obtain ⟨p, hp, hsn, hcap, ha⟩ := ha
          rcases ha with rfl | ⟨_, _, h00, _⟩
          rotate_left
          · omega
          obtain ⟨p', ob, g1, g2, g3, g4⟩ := s id _ ho
          rw [hp] at g1; cases g1
          have g3' := g3
          obtain ⟨cc, el, fz, rfl, q1, q2, q3, q4, q5, q6⟩ := g3'
          obtain ⟨rfl, hoff, hcs, rfl, hcm⟩ := q6 rfl
          rw [hsz] at q2
          have hes : i.size = p.es := by simpa using q2
          have hav : plAddr p 0 0 = ⟨p.blk, 0, none⟩ := by simp [plAddr, hoff]
          have hncap : n ≤ p.cap := by omega
          have hnle : n * i.size ≤ cc.size := by rw [hcs, hes]; exact Nat.mul_le_mul_right _ hncap
          have hF0 : (cc.toList.take (n * i.size)).length = n * i.size := by simp; omega
          have hel : ∀ j, j < n → VRs σ (get j) (chunkL (cc.toList.take (n * i.size)) i.size j) ∧ ∀ x ∈ chunkL (cc.toList.take (n * i.size)) i.size j, x.oneCell' = true := fun j hj => by
            obtain ⟨e1, e2, e3⟩ := g3.elem hj
            have := chunk_range (l := cc.toList) (sz := i.size) (o := 0) hj
            simp only [List.drop_zero, Nat.zero_add] at this
            rw [hoff, ← hes, Nat.zero_add] at e1 e3
            rw [this]
            exact ⟨e1, e3⟩
          have hF1 : ∀ x ∈ cc.toList.take (n * i.size), x.oneCell' = true := fun u hu => by
            obtain ⟨k, hk, rfl⟩ := List.mem_iff_getElem.1 hu
            have hk' : k < n * i.size := by omega
            have hdm := Nat.div_add_mod k i.size
            have hmd := Nat.mod_lt k hsz0
            have hd : k / i.size < n := Nat.div_lt_of_lt_mul (by rw [Nat.mul_comm]; exact hk')
            refine (hel (k / i.size) hd).2 _ (List.mem_iff_getElem?.2 ⟨k % i.size, ?_⟩)
            rw [chunkL, List.getElem?_take_of_lt hmd, List.getElem?_drop, ← List.getElem?_eq_getElem]
            congr 1
            rw [Nat.mul_comm] at hdm; omega
          have hget : ∀ (news : List Value), (∀ j, j < m → VRs σ (src j) (chunkL news i.size j)) → ∀ j, j < n + m → VRs σ (cond (Nat.blt j n) (get j) (src (j - n))) (chunkL (cc.toList.take (n * i.size) ++ news) i.size j) := fun news hn j hj => by
            obtain ⟨c1, c2⟩ := chunk_append (l := cc.toList.take (n * i.size)) (m := news) (sz := i.size) (n := n) (j := j) hF0
            by_cases hjn : j < n
            · rw [c1 hjn]
              have : Nat.blt j n = true := by simpa [Nat.blt_eq] using hjn
              rw [this]; exact (hel j hjn).1
            · rw [c2 (by omega)]
              have : Nat.blt j n = false := by rw [← Bool.not_eq_true, Nat.blt_eq]; exact hjn
              rw [this]; exact hn (j - n) (by omega)
          have hsrc' := hsrc σ w b hb s
          rw [hav]
          rcases Nat.eq_zero_or_pos m with rfl | hmp
          · have hok : OK P (upd σ nx ⟨p.blk, 0, i.size, n + 0, p.cap⟩) ⟨p.blk, 0, i.size, n + 0, p.cap⟩ (.seq (n + 0) (fun j => cond (Nat.blt j n) (get j) (src (j - n))) el true) (.cells cc el (0, 0)) :=
              OK.mkSeq (F := cc.toList.take (n * i.size) ++ []) rfl hsz hsz0 (by show n + 0 ≤ p.cap; omega) rfl (by show cc.size = p.cap * i.size; rw [hcs, hes]) hcm (by rw [List.append_nil]; exact hF0)
                (fun k hk => by
                  have hk' : k < n * i.size := by simpa using hk
                  rw [List.append_nil, List.getElem?_take_of_lt hk']; simp) (by rw [List.append_nil]; exact hF1) fun j hj => VRs.mono f.ext _ _ (hget [] (fun j hj => by omega) j hj)
            obtain ⟨r1, r2, r3⟩ := s.replace (w' := w) f (p' := ⟨p.blk, 0, i.size, n + 0, p.cap⟩) ho ⟨hfl, rfl⟩ rfl hp rfl rfl (fun _ _ => rfl) g2 rfl rfl rfl hok
            refine ⟨_, w, _, run_append_nils hu hi ?_ w _ n _ (by omega), ?_, r1, r2, r3⟩
            · rcases hsrc' with ⟨_, h⟩ | ⟨a, cc, _, h, _⟩
              · exact .inl h
              · exact .inr ⟨a, cc, h⟩
            · simp only [VR]
              exact ⟨_, upd_same, by simp, by simpa using hncap, .inl (by simp [plAddr])⟩
          · obtain ⟨ad, ac, news, rfl, hl, hnews, h1, hvv⟩ := hsrc'.addr hmp
            have hFl : (cc.toList.take (n * i.size) ++ news).length = (n + m) * i.size := by rw [List.length_append, hF0, hl, Nat.add_mul]
            have hF2 : ∀ x ∈ cc.toList.take (n * i.size) ++ news, x.oneCell' = true := fun x hx => by
              rcases List.mem_append.1 hx with hx | hx
              · exact hF1 x hx
              · exact h1 x hx
            by_cases hroom : n + m ≤ p.cap
            · have hfit : n * i.size + news.length ≤ cc.size := by rw [hl, hcs, ← hes, ← Nat.add_mul]; exact Nat.mul_le_mul_right _ hroom
              have hr := run_append_room (P := P) w t ty el i hu hi p.blk n (p.cap - 0) cc g2 ad m ac news hl hnews h1 (by omega) hfit
              have hok : OK P (upd σ nx ⟨p.blk, 0, i.size, n + m, p.cap⟩) ⟨p.blk, 0, i.size, n + m, p.cap⟩ (.seq (n + m) (fun j => cond (Nat.blt j n) (get j) (src (j - n))) el true)
                  (.cells (cc.toList.take (n * i.size) ++ news ++ cc.toList.drop (n * i.size + news.length)).toArray el (0, 0)) := by
                refine OK.mkSeq (F := cc.toList.take (n * i.size) ++ news) rfl hsz hsz0 hroom rfl ?_ hcm hFl (fun k hk => ?_) hF2 fun j hj => VRs.mono f.ext _ _ (hget news hvv j hj)
                · show _ = p.cap * i.size
                  rw [show p.cap * i.size = cc.size by rw [hcs, hes]]
                  simp only [List.size_toArray, List.length_append, List.length_take, List.length_drop, Array.length_toList]
                  omega
                · have hk' : k < (n + m) * i.size := hk
                  rw [List.getElem?_toArray, List.getElem?_append_left (by omega)]
              obtain ⟨r1, r2, r3⟩ := s.replace (w' := w.setRow p.blk (cc.toList.take (n * i.size) ++ news ++ cc.toList.drop (n * i.size + news.length)).toArray) f (p' := ⟨p.blk, 0, i.size, n + m, p.cap⟩) ho ⟨hfl, rfl⟩ rfl hp rfl
                (by simp [World.setRow]) (fun b hb => setRow_other w p.blk b _ hb) (setRow_heap w p.blk cc _ el _ g2) rfl rfl rfl hok
              refine ⟨_, _, _, hr, ?_, r1, r2, r3⟩
              simp only [VR]
              exact ⟨_, upd_same, by simp, hroom, .inl (by simp [plAddr])⟩
            · have holds : ∀ (j : Nat) (u : Value), (cc.toList.take (n * i.size))[j]? = some u → w.cell? ((⟨p.blk, 0, none⟩ : Addr).add j) = some u := fun j u hu => by
                have hj : j < n * i.size := by have := (List.getElem?_eq_some_iff.1 hu).1; omega
                rw [List.getElem?_take_of_lt hj] at hu
                rw [add_lit, cell?_cells g2, ← hu]; simp
              have hr := run_append_grow (P := P) w t ty el i z hu hi hz ⟨p.blk, 0, none⟩ n (p.cap - 0) _ hF0 holds ad m ac news hl hnews (by omega) (by omega) (growslice_fits (by omega) hbl)
              obtain ⟨d1, d2⟩ := s.del id
              have hge := grownCap_ge w (n + m) (p.cap - 0) el
              have hcm' : grownCap w (n + m) (p.cap - 0) el ≤ maxLen := grownCap_le_maxLen w (n + m) (p.cap - 0) el (by simp only [maxLen]; omega)
              obtain ⟨r0, r1, r2, r3⟩ := grown_sound (w' := w.drew.alloc (.cells ((cc.toList.take (n * i.size)).toArray ++ news.toArray ++ Builtin.zeroCells z.cells (grownCap w (n + m) (p.cap - 0) el - (n + m))) el)) d1 f
                (get := fun j => cond (Nat.blt j n) (get j) (src (j - n))) (F := cc.toList.take (n * i.size) ++ news) (n := n + m) (cap := grownCap w (n + m) (p.cap - 0) el) hsz hsz0 hge hcm'
                (by simp only [Array.size_append, List.size_toArray, size_zeroCells, hzs, hF0, hl, ← Nat.add_mul]; congr 1; omega) hFl
                (fun k hk => by rw [Array.getElem?_append_left (by simp only [Array.size_append, List.size_toArray]; rw [← hFl] at hk; simpa using hk)]; simp) hF2 (hget news hvv) rfl rfl rfl rfl
              exact ⟨_, _, _, hr, r0, r1, r2, d2.trans r3⟩
        · exact absurd H (hs _)
      · exact absurd H (hs _)
    · exact absurd H (hs _)
  · exact absurd H (hs _)
end Go.Proofs.Ytigilihpofafoaa.Loc
