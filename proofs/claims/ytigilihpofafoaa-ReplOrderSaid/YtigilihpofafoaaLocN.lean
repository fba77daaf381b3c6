/- The small machine of local values: answers that are known: what a function answers to certain arguments. -/
import Derived.Test.YtigilihpofafoaaLocX
namespace Go.Proofs.Ytigilihpofafoaa.Loc
open Go
set_option linter.unusedVariables false
set_option linter.unusedSimpArgs false
set_option linter.unusedSectionVars false

/-! ### Equal local values; none of them is an address -/
mutual
noncomputable def lvBeq : LV → LV → Bool
  | .int k n, .int k' n' => cond (kBeq k k') (iBeq n n') false
  | .bool b, .bool c => cond b c (cond c false true)
  | .sym k e, .sym k' e' => cond (kBeq k k') (e.beq e') false
  | .sbl a, .sbl b => a.beq b
  | .str a, .str b => lBeq a.data.toList b.data.toList
  | .nilp, .nilp => true
  | .nils, .nils => true
  | .nilf, .nilf => true
  | .nilm, .nilm => true
  | .nili, .nili => true
  | .agg cs, .agg ds => lvsBeq cs ds
  | .tup cs, .tup ds => lvsBeq cs ds
  | _, _ => false
noncomputable def lvsBeq : List LV → List LV → Bool
  | [], [] => true
  | a :: l, b :: m => cond (lvBeq a b) (lvsBeq l m) false
  | _, _ => false
end
theorem strEq {a b : ByteArray} (h : lBeq a.data.toList b.data.toList = true) [En] : a = b := by
  rw [lBeq_eq, beq_iff_eq] at h
  cases a; cases b
  simp only [ByteArray.mk.injEq]
  exact Array.toList_inj.1 h
theorem condT {a b : Bool} (h : cond a b false = true) : a = true ∧ b = true := by
  cases a
  · cases h
  · exact ⟨rfl, h⟩
mutual
theorem lvBeq_t [En] : ∀ (a b : LV), lvBeq a b = true → a = b ∧ a.free = true
  | .int k n, b, h => by
    cases b <;> simp only [lvBeq] at h <;> first | (cases h; done) | skip
    obtain ⟨h1, h2⟩ := condT h
    exact ⟨by rw [kBeq_eq h1, iBeq_t h2], rfl⟩
  | .bool p, b, h => by
    cases b <;> simp only [lvBeq] at h <;> first | (cases h; done) | skip
    rename_i q
    refine ⟨?_, rfl⟩
    cases p <;> cases q <;> first | rfl | cases h
  | .sym k e, b, h => by
    cases b <;> simp only [lvBeq] at h <;> first | (cases h; done) | skip
    obtain ⟨h1, h2⟩ := condT h
    exact ⟨by rw [kBeq_eq h1, SE.beq_t h2], rfl⟩
  | .sbl e, b, h => by
    cases b <;> simp only [lvBeq] at h <;> first | (cases h; done) | skip
    exact ⟨by rw [SB.beq_t h], rfl⟩
  | .str s, b, h => by
    cases b <;> simp only [lvBeq] at h <;> first | (cases h; done) | skip
    exact ⟨by rw [strEq h], rfl⟩
  | .nilp, b, h => by cases b <;> simp only [lvBeq] at h <;> first | (cases h; done) | exact ⟨rfl, rfl⟩
  | .nils, b, h => by cases b <;> simp only [lvBeq] at h <;> first | (cases h; done) | exact ⟨rfl, rfl⟩
  | .nilf, b, h => by cases b <;> simp only [lvBeq] at h <;> first | (cases h; done) | exact ⟨rfl, rfl⟩
  | .nilm, b, h => by cases b <;> simp only [lvBeq] at h <;> first | (cases h; done) | exact ⟨rfl, rfl⟩
  | .nili, b, h => by cases b <;> simp only [lvBeq] at h <;> first | (cases h; done) | exact ⟨rfl, rfl⟩
  | .agg cs, b, h => by
    cases b <;> simp only [lvBeq] at h <;> first | (cases h; done) | skip
    obtain ⟨h1, h2⟩ := lvsBeq_t _ _ h
    exact ⟨by rw [h1], h2⟩
  | .tup cs, b, h => by
    cases b <;> simp only [lvBeq] at h <;> first | (cases h; done) | skip
    obtain ⟨h1, h2⟩ := lvsBeq_t _ _ h
    exact ⟨by rw [h1], h2⟩
  | .undef, b, h => by cases b <;> simp only [lvBeq] at h <;> cases h
  | .ptr _ _ _ _, b, h => by cases b <;> simp only [lvBeq] at h <;> cases h
  | .sq _ _ _, b, h => by cases b <;> simp only [lvBeq] at h <;> cases h
  | .sv _ _ _ _ _, b, h => by cases b <;> simp only [lvBeq] at h <;> cases h
  | .os _ _, b, h => by cases b <;> simp only [lvBeq] at h <;> cases h
  | .pel _ _ _, b, h => by cases b <;> simp only [lvBeq] at h <;> cases h
  | .map _, b, h => by cases b <;> simp only [lvBeq] at h <;> cases h
  | .fn _ _ _, b, h => by cases b <;> simp only [lvBeq] at h <;> cases h
  | .yld _, b, h => by cases b <;> simp only [lvBeq] at h <;> cases h
  | .iface _ _, b, h => by cases b <;> simp only [lvBeq] at h <;> cases h
theorem lvsBeq_t [En] : ∀ (a b : List LV), lvsBeq a b = true → a = b ∧ LV.frees a = true
  | [], [], _ => ⟨rfl, rfl⟩
  | [], _ :: _, h => by simp only [lvsBeq] at h; cases h
  | _ :: _, [], h => by simp only [lvsBeq] at h; cases h
  | a :: l, b :: m, h => by
    simp only [lvsBeq] at h
    obtain ⟨h1, h2⟩ := condT h
    obtain ⟨e1, f1⟩ := lvBeq_t a b h1
    obtain ⟨e2, f2⟩ := lvsBeq_t l m h2
    exact ⟨by rw [e1, e2], by simp only [LV.frees, f1, cond_true, f2]⟩
end

/-! ### Known answers -/
inductive Ans where
  | val (v : LV)
  | lst (els : List (List LV)) (e : TypeId)
structure Mem where
  f : FuncId
  args : List LV
  res : Ans
noncomputable def Ans.use (r : Ans) (h : LH) (nx : Nat) (c : KV) : Out :=
  match r with
  | .val v => c v h nx
  | .lst els e => c (.sq nx 0 els.length) (h.set nx (.seq els.length (getEl els) e true)) (nx + 1)
noncomputable def memGo (args : List LV) (h : LH) (nx : Nat) (c : KV) (no : Out) : List Mem → Out
  | [] => no
  | m :: l => cond (lvsBeq m.args args) (m.res.use h nx c) (memGo args h nx c no l)
noncomputable def conM (f : FuncId) : List (FuncId × List Mem) → Option (Nat → List LV → LH → Nat → KV → Out → Out)
  | [] => none
  | p :: l => cond (Nat.beq p.1 f) (some fun _ args h nx c no => memGo args h nx c no p.2) (conM f l)
structure Quiet (w w' : World) : Prop where
  os : w'.os = w.os
  tape : w'.tape = w.tape
  output : w'.output = w.output
  size : w.heap.size ≤ w'.heap.size
  old : ∀ b, b < w.heap.size → w'.heap[b]? = w.heap[b]?
section
variable [En] {P : Program} {Φ : Out → Prop}
def Ans.Is (P : Program) (w : World) (x : Value) (w' : World) : Ans → Prop
  | .val v => v.free = true ∧ ∃ σ, VR σ v x
  | .lst els e => ∃ p σ ob, w.heap.size ≤ p.blk ∧ w'.heap[p.blk]? = some ob ∧ OK P σ p (.seq els.length (getEl els) e true) ob ∧ (∀ i, i < els.length → LV.frees (getEl els i) = true) ∧ ∀ σ' id, σ' id = some p → VR σ' (.sq id 0 els.length) x
def MemOk (P : Program) (m : Mem) : Prop := ∀ σ w vals, VRs σ m.args vals → Enters P m.f ∧ CallsIn Fence.wide 0 P m.f vals.toArray w fun e w' => ∃ x, e = .returned x ∧ Quiet w w' ∧ m.res.Is P w x w'

theorem Sim.quiet {fl : Nat} {σ : Sg} {h : LH} {w w' : World} (s : Sim P fl σ h w) (q : Quiet w w') : Sim P fl σ h w' ∧ Step fl σ h w σ h w' :=
  ⟨fun id o hg => by
    obtain ⟨p, ob, h1, h2, h3, h4⟩ := s id o hg
    exact ⟨p, ob, h1, by rw [q.old _ (s.lt hg h1)]; exact h2, h3, h4⟩,
   ⟨Ext.refl _, q.os, q.tape, q.output, q.size, fun b hb _ => q.old b hb, fun id o p h1 h2 h3 => .inr ⟨id, o, p, h1, h2, h3, rfl⟩, fun _ _ h1 _ => h1⟩⟩
/-- an object that was made meanwhile is taken in -/
theorem Sim.take {fl : Nat} {σ : Sg} {h : LH} {w w' : World} {nx : Nat} (s : Sim P fl σ h w) (f : Fr fl σ nx) (q : Quiet w w') {o : LObj} {ob : Obj} {p : Place} (hr : o.rw = true) (hb : w.heap.size ≤ p.blk)
    (hw : w'.heap[p.blk]? = some ob) (hok : OK P (upd σ nx p) p o ob) :
    Sim P fl (upd σ nx p) (h.set nx o) w' ∧ Fx fl σ nx (upd σ nx p) (nx + 1) ∧ Step fl σ h w (upd σ nx p) (h.set nx o) w' := by
  refine ⟨fun id o' hg => ?_, f.upd, ⟨f.ext, q.os, q.tape, q.output, q.size, fun b hb' _ => q.old b hb', fun id o' p' h1 h2 h3 => ?_, fun id o' h1 h2 => ?_⟩⟩
  · rw [RM.get_set] at hg
    by_cases e : nx = id
    · subst e
      simp only [if_true, Option.some.injEq] at hg; subst hg
      refine ⟨p, ob, upd_same, hw, hok, fun _ id' o' p' h1 h2 h3 => ?_⟩
      rw [RM.get_set] at h1
      by_cases e' : nx = id'
      · exact e'.symm
      · rw [if_neg e'] at h1
        rw [upd_other (fun h => e' h.symm)] at h2
        have := s.lt h1 h2
        omega
    · rw [if_neg e] at hg
      obtain ⟨r, ob', h1, h2, h3, h4⟩ := s id o' hg
      have hq := s.lt hg h1
      refine ⟨r, ob', f.ext id r h1, by rw [q.old _ hq]; exact h2, OK.mono f.ext h3, fun hr id' o'' p' h5 h6 h7 => ?_⟩
      rw [RM.get_set] at h5
      by_cases e' : nx = id'
      · subst e'
        rw [upd_same] at h6; cases h6
        omega
      · rw [if_neg e'] at h5
        rw [upd_other (fun h => e' h.symm)] at h6
        exact h4 hr id' o'' p' h5 h6 h7
  · rw [RM.get_set] at h1
    by_cases e : nx = id
    · subst e
      rw [upd_same] at h3; cases h3
      exact .inl hb
    · rw [if_neg e] at h1
      rw [upd_other (fun h => e h.symm)] at h3
      exact .inr ⟨id, o', p', h1, h2, h3, rfl⟩
  · rw [RM.get_set] at h1
    by_cases e : nx = id
    · subst e
      simp only [if_true, Option.some.injEq] at h1; subst h1
      exact absurd ⟨f.1, hr⟩ h2
    · rwa [if_neg e] at h1
theorem OK.seqFree {σ σ' : Sg} {p : Place} {n : Nat} {get : Nat → List LV} {e : TypeId} {own : Bool} {ob : Obj} (h : OK P σ p (.seq n get e own) ob) (hf : ∀ i, i < n → LV.frees (get i) = true) : OK P σ' p (.seq n get e own) ob := by
  obtain ⟨c, el, fz, h1, h2, h3, h4, h5, h6, h7⟩ := h
  exact ⟨c, el, fz, h1, h2, h3, h4, h5, fun i hi => by
    obtain ⟨xs, q1, q2⟩ := h6 i hi
    exact ⟨xs, VRs.free _ _ (hf i hi) q1, q2⟩, h7⟩
theorem Ans.use_sound {r : Ans} {f : FuncId} {fl : Nat} {h : LH} {nx : Nat} {c : KV} (H : Φ (r.use h nx c)) {σ : Sg} {w : World} {vals : List Value} (sim : Sim P fl σ h w) (fr : Fr fl σ nx)
    (hm : Enters P f ∧ CallsIn Fence.wide 0 P f vals.toArray w fun e w' => ∃ x, e = .returned x ∧ Quiet w w' ∧ r.Is P w x w') : CallOk P Φ f fl h nx c σ w vals := by
  refine ⟨hm.1, hm.2.mono fun e w' he => ?_⟩
  obtain ⟨x, rfl, q, hi⟩ := he
  refine ⟨x, rfl, ?_⟩
  cases r with
  | val v =>
    obtain ⟨hf, σ', hv⟩ := hi
    obtain ⟨s1, s2⟩ := sim.quiet q
    exact ⟨v, h, nx, σ, H, VR.free v x hf hv, s1, fr.fx, s2⟩
  | lst els e =>
    obtain ⟨p, σ', ob, h1, h2, h3, h4, h5⟩ := hi
    obtain ⟨s1, s2, s3⟩ := sim.take fr q (o := .seq els.length (getEl els) e true) rfl h1 h2 (h3.seqFree h4)
    exact ⟨_, _, _, _, H, h5 _ _ upd_same, s1, s2, s3⟩
theorem memGo_sound {args : List LV} {f : FuncId} {fl : Nat} {h : LH} {nx : Nat} {c : KV} {no : Out} {σ : Sg} {w : World} {vals : List Value} (hv : VRs σ args vals) (sim : Sim P fl σ h w) (fr : Fr fl σ nx)
    (hno : Φ no → CallOk P Φ f fl h nx c σ w vals) : ∀ (ms : List Mem), (∀ m ∈ ms, m.f = f ∧ MemOk P m) → Φ (memGo args h nx c no ms) → CallOk P Φ f fl h nx c σ w vals
  | [], _, H => hno H
  | m :: l, hm, H => by
    simp only [memGo] at H
    cases hb : lvsBeq m.args args with
    | false => rw [hb] at H; exact memGo_sound hv sim fr hno l (fun m' h' => hm m' (by simp [h'])) H
    | true =>
      rw [hb] at H
      obtain ⟨h1, h2⟩ := hm m (by simp)
      subst h1
      exact Ans.use_sound H sim fr (h2 σ w vals (by rw [(lvsBeq_t _ _ hb).1]; exact hv))
theorem conM_ok {wr : FuncId → Bool} : ∀ (tab : List (FuncId × List Mem)), (∀ p ∈ tab, ∀ m ∈ p.2, m.f = p.1 ∧ MemOk P m) → ConOk P Φ ⟨fun f => conM f tab, wr⟩
  | [], _ => fun f g h => by cases h
  | p :: l, ht => fun f g h fl args hh nx c no H σ w vals hv sim fr hno => by
    simp only [conM] at h
    cases hb : Nat.beq p.1 f with
    | false =>
      rw [hb] at h
      exact conM_ok (wr := wr) l (fun q hq => ht q (by simp [hq])) f g h fl args hh nx c no H σ w vals hv sim fr hno
    | true =>
      rw [hb] at h
      simp only [cond_true, Option.some.injEq] at h; subst h
      have e : p.1 = f := Nat.eq_of_beq_eq_true hb
      subst e
      exact memGo_sound hv sim fr hno p.2 (ht p (by simp)) H

/-! ### An answer is reckoned -/
noncomputable def andO : Option SB → Option SB → Option SB
  | some a, some b => some (mkAnd a b)
  | _, _ => none
mutual
noncomputable def resEq : LV → LV → Option SB
  | .bool a, v => eqBs (.bool a) v
  | .sbl a, v => eqBs (.sbl a) v
  | .int k a, v => eqIs (.int k a) v
  | .sym k a, v => eqIs (.sym k a) v
  | .agg cs, .agg ds => ressEq cs ds
  | .tup cs, .tup ds => ressEq cs ds
  | u, v => cond (lvBeq u v) (some (.lit true)) none
noncomputable def ressEq : List LV → List LV → Option SB
  | [], [] => some (.lit true)
  | a :: l, b :: m => andO (resEq a b) (ressEq l m)
  | _, _ => none
end
theorem mkAnd_t {a b : SB} (h : (mkAnd a b).ev = true) : a.ev = true ∧ b.ev = true := by
  rw [mkAnd_ev] at h
  simpa [SB.ev] using h
theorem andO_t {a b : Option SB} {c : SB} (h : andO a b = some c) : ∃ x y, a = some x ∧ b = some y ∧ c = mkAnd x y := by
  cases a with
  | none => cases h
  | some x => cases b with
    | none => cases h
    | some y => exact ⟨x, y, rfl, rfl, by cases h; rfl⟩
theorem eqIs_t {a b : LV} {c : SB} (h : eqIs a b = some c) (hc : c.ev = true) {σ σ' : Sg} {x : Value} (hv : VR σ a x) : VR σ' b x ∧ b.free = true := by
  unfold eqIs at h
  split at h
  · rename_i k a k' b
    cases hk : kBeq k k' with
    | false => rw [hk] at h; cases h
    | true =>
      rw [hk] at h
      have hk := kBeq_eq hk
      simp only [cond_true, Option.some.injEq] at h; subst h
      simp only [SB.ev, beq_iff_eq] at hc
      simp only [VR] at hv ⊢
      exact ⟨by rw [hv, hk, hc], rfl⟩
  · rename_i k a k' b
    cases hk : kBeq k k' with
    | false => rw [hk] at h; cases h
    | true =>
      rw [hk] at h
      have hk := kBeq_eq hk
      simp only [cond_true, Option.some.injEq] at h; subst h
      rw [mkEq_ev] at hc
      simp only [SB.ev, SE.ev, beq_iff_eq] at hc
      simp only [VR] at hv ⊢
      exact ⟨by rw [hv, hk, hc], rfl⟩
  · rename_i k a k' b
    cases hk : kBeq k k' with
    | false => rw [hk] at h; cases h
    | true =>
      rw [hk] at h
      have hk := kBeq_eq hk
      simp only [cond_true, Option.some.injEq] at h; subst h
      rw [mkEq_ev] at hc
      simp only [SB.ev, SE.ev, beq_iff_eq] at hc
      simp only [VR] at hv ⊢
      exact ⟨by rw [hv, hk, hc], rfl⟩
  · rename_i k a k' b
    cases hk : kBeq k k' with
    | false => rw [hk] at h; cases h
    | true =>
      rw [hk] at h
      have hk := kBeq_eq hk
      simp only [cond_true, Option.some.injEq] at h; subst h
      rw [mkEq_ev] at hc
      simp only [SB.ev, beq_iff_eq] at hc
      simp only [VR] at hv ⊢
      exact ⟨by rw [hv, hk, hc], rfl⟩
  · cases h
theorem eqBs_t {a b : LV} {c : SB} (h : eqBs a b = some c) (hc : c.ev = true) {σ σ' : Sg} {x : Value} (hv : VR σ a x) : VR σ' b x ∧ b.free = true := by
  unfold eqBs at h
  split at h
  · simp only [Option.some.injEq] at h; subst h
    simp only [SB.ev, beq_iff_eq] at hc
    simp only [VR] at hv ⊢
    exact ⟨by rw [hv, hc], rfl⟩
  · simp only [Option.some.injEq] at h; subst h
    rw [mkIff_ev] at hc
    simp only [SB.ev, beq_iff_eq] at hc
    simp only [VR] at hv ⊢
    exact ⟨by rw [hv, hc], rfl⟩
  · simp only [Option.some.injEq] at h; subst h
    rw [mkIff_ev] at hc
    simp only [SB.ev, beq_iff_eq] at hc
    simp only [VR] at hv ⊢
    exact ⟨by rw [hv, hc], rfl⟩
  · simp only [Option.some.injEq] at h; subst h
    rw [mkIff_ev] at hc
    simp only [SB.ev, beq_iff_eq] at hc
    simp only [VR] at hv ⊢
    exact ⟨by rw [hv, hc], rfl⟩
  · cases h
theorem lvBeq_vr {u v : LV} {c : SB} (h : cond (lvBeq u v) (some (SB.lit true)) none = some c) {σ σ' : Sg} {x : Value} (hv : VR σ u x) : VR σ' v x ∧ v.free = true := by
  cases hb : lvBeq u v with
  | false => rw [hb] at h; cases h
  | true =>
    obtain ⟨h1, h2⟩ := lvBeq_t _ _ hb
    subst h1
    exact ⟨VR.free _ _ h2 hv, h2⟩
mutual
theorem resEq_t : ∀ (u v : LV) (c : SB), resEq u v = some c → c.ev = true → ∀ (σ σ' : Sg) (x : Value), VR σ u x → VR σ' v x ∧ v.free = true
  | .bool a, v, c, h, hc, σ, σ', x, hv => by unfold resEq at h; exact eqBs_t h hc hv
  | .sbl a, v, c, h, hc, σ, σ', x, hv => by unfold resEq at h; exact eqBs_t h hc hv
  | .int k a, v, c, h, hc, σ, σ', x, hv => by unfold resEq at h; exact eqIs_t h hc hv
  | .sym k a, v, c, h, hc, σ, σ', x, hv => by unfold resEq at h; exact eqIs_t h hc hv
  | .agg cs, v, c, h, hc, σ, σ', x, hv => by
    cases v with
    | agg ds =>
      unfold resEq at h
      simp only [VR] at hv ⊢
      obtain ⟨xs, rfl, r⟩ := hv
      obtain ⟨k1, k2⟩ := ressEq_t cs ds c h hc σ σ' xs r
      exact ⟨⟨xs, rfl, k1⟩, k2⟩
    | _ => unfold resEq at h; exact lvBeq_vr h hv
  | .tup cs, v, c, h, hc, σ, σ', x, hv => by
    cases v with
    | tup ds =>
      unfold resEq at h
      simp only [VR] at hv ⊢
      obtain ⟨xs, rfl, r⟩ := hv
      obtain ⟨k1, k2⟩ := ressEq_t cs ds c h hc σ σ' xs r
      exact ⟨⟨xs, rfl, k1⟩, k2⟩
    | _ => unfold resEq at h; exact lvBeq_vr h hv
  | .undef, v, c, h, hc, σ, σ', x, hv => by unfold resEq at h; exact lvBeq_vr h hv
  | .str _, v, c, h, hc, σ, σ', x, hv => by unfold resEq at h; exact lvBeq_vr h hv
  | .nilp, v, c, h, hc, σ, σ', x, hv => by unfold resEq at h; exact lvBeq_vr h hv
  | .nils, v, c, h, hc, σ, σ', x, hv => by unfold resEq at h; exact lvBeq_vr h hv
  | .nilm, v, c, h, hc, σ, σ', x, hv => by unfold resEq at h; exact lvBeq_vr h hv
  | .nilf, v, c, h, hc, σ, σ', x, hv => by unfold resEq at h; exact lvBeq_vr h hv
  | .nili, v, c, h, hc, σ, σ', x, hv => by unfold resEq at h; exact lvBeq_vr h hv
  | .ptr _ _ _ _, v, c, h, hc, σ, σ', x, hv => by unfold resEq at h; exact lvBeq_vr h hv
  | .sq _ _ _, v, c, h, hc, σ, σ', x, hv => by unfold resEq at h; exact lvBeq_vr h hv
  | .sv _ _ _ _ _, v, c, h, hc, σ, σ', x, hv => by unfold resEq at h; exact lvBeq_vr h hv
  | .os _ _, v, c, h, hc, σ, σ', x, hv => by unfold resEq at h; exact lvBeq_vr h hv
  | .pel _ _ _, v, c, h, hc, σ, σ', x, hv => by unfold resEq at h; exact lvBeq_vr h hv
  | .map _, v, c, h, hc, σ, σ', x, hv => by unfold resEq at h; exact lvBeq_vr h hv
  | .fn _ _ _, v, c, h, hc, σ, σ', x, hv => by unfold resEq at h; exact lvBeq_vr h hv
  | .yld _, v, c, h, hc, σ, σ', x, hv => by unfold resEq at h; exact lvBeq_vr h hv
  | .iface _ _, v, c, h, hc, σ, σ', x, hv => by unfold resEq at h; exact lvBeq_vr h hv
theorem ressEq_t : ∀ (us vs : List LV) (c : SB), ressEq us vs = some c → c.ev = true → ∀ (σ σ' : Sg) (xs : List Value), VRs σ us xs → VRs σ' vs xs ∧ LV.frees vs = true
  | [], [], c, h, hc, σ, σ', xs, hv => ⟨hv, rfl⟩
  | [], _ :: _, c, h, hc, σ, σ', xs, hv => by simp only [ressEq] at h; cases h
  | _ :: _, [], c, h, hc, σ, σ', xs, hv => by simp only [ressEq] at h; cases h
  | a :: l, b :: m, c, h, hc, σ, σ', _, ⟨y, ys, e, h1, h2⟩ => by
    subst e
    simp only [ressEq] at h
    obtain ⟨p, q, e1, e2, rfl⟩ := andO_t h
    obtain ⟨c1, c2⟩ := mkAnd_t hc
    obtain ⟨k1, k2⟩ := resEq_t a b p e1 c1 σ σ' y h1
    obtain ⟨k3, k4⟩ := ressEq_t l m q e2 c2 σ σ' ys h2
    exact ⟨VRs.cons k1 k3, by simp only [LV.frees, k2, cond_true, k4]⟩
end
noncomputable def okO : Out := .fin .normal ⟨.nil, 0, .nil, 0, [], 0⟩
noncomputable def elsOk (get : Nat → List LV) : Nat → List (List LV) → Bool
  | _, [] => true
  | i, e :: l => cond (lvsBeq (get i) e) (elsOk get (i + 1) l) false
noncomputable def resK (r : Ans) : KV := fun u h nx =>
  match r with
  | .val v => (match resEq u v with
    | some b => brS b okO (.stuck "another answer")
    | none => .stuck "no such answer")
  | .lst els e => (match u with
    | .sq id 0 n => (match h.get id with
      | some (.seq n' get e' true) => cond (cond (Nat.beq n els.length) (cond (Nat.beq n' n) (cond (Nat.beq e e') (elsOk get 0 els) false) false) false) okO (.stuck "another list")
      | _ => .stuck "no list")
    | _ => .stuck "no list")
theorem elsOk_t {get : Nat → List LV} : ∀ {l : List (List LV)} {i : Nat}, elsOk get i l = true → ∀ j, j < l.length → get (i + j) = getEl l j ∧ LV.frees (getEl l j) = true
  | [], i, _, j, hj => by simp at hj
  | e :: l, i, h, j, hj => by
    simp only [elsOk] at h
    obtain ⟨h1, h2⟩ := condT h
    cases j with
    | zero =>
      obtain ⟨k1, k2⟩ := lvsBeq_t _ _ h1
      rw [k1] at k2
      exact ⟨k1, k2⟩
    | succ j =>
      have := elsOk_t h2 j (by simpa using hj)
      rw [show i + (j + 1) = i + 1 + j by omega]
      simpa [getEl, Nat.beq] using this
theorem resK_sound {r : Ans} {u : LV} {h' : LH} {nx' : Nat} (H : Fin (resK r u h' nx')) {σ' : Sg} {x : Value} (hv : VR σ' u x) {w w' : World} (sim : Sim P 0 σ' h' w') (st : Step 0 (fun _ => none) .nil w σ' h' w') : r.Is P w x w' := by
  unfold resK at H
  cases r with
  | val v =>
    simp only at H
    split at H
    · rename_i b hb
      rcases of_br Fin.good H with ⟨hb', _⟩ | ⟨_, H⟩
      · have := resEq_t u v b hb hb' σ' σ' x hv
        exact ⟨this.2, σ', this.1⟩
      · exact absurd H (Fin.good.s _)
    · exact absurd H (Fin.good.s _)
  | lst els e =>
    simp only at H
    split at H
    · rename_i id n
      split at H
      · rename_i n' get e' hg
        obtain ⟨hc, _⟩ := of_cond Fin.good H
        obtain ⟨c1, hc⟩ := condT hc
        obtain ⟨c2, hc⟩ := condT hc
        obtain ⟨c3, c4⟩ := condT hc
        have c1 := Nat.eq_of_beq_eq_true c1
        have c2 := Nat.eq_of_beq_eq_true c2
        have c3 := Nat.eq_of_beq_eq_true c3
        subst c1; subst c2; subst c3
        have hel := elsOk_t c4
        simp only [Nat.zero_add] at hel
        obtain ⟨p, ob, g1, g2, g3, g4⟩ := sim id _ hg
        have hblk : w.heap.size ≤ p.blk := by
          rcases st.own id _ p hg ⟨Nat.zero_le _, rfl⟩ g1 with hge | ⟨i0, o0, p0, q1, _⟩
          · exact hge
          · rw [RM.get_nil] at q1; cases q1
        refine ⟨p, σ', ob, hblk, g2, ?_, fun i hi => (hel i hi).2, fun σ'' id' hid => ?_⟩
        · obtain ⟨c, el, fz, h1, h2, h3, h4, h5, h6, h7⟩ := g3
          exact ⟨c, el, fz, h1, h2, h3, h4, h5, fun i hi => by
            obtain ⟨xs, q1, q2⟩ := h6 i hi
            exact ⟨xs, by rw [← (hel i hi).1]; exact q1, q2⟩, h7⟩
        · simp only [VR] at hv ⊢
          obtain ⟨p', e1, r⟩ := hv
          rw [g1] at e1; cases e1
          exact ⟨p, hid, r⟩
      · exact absurd H (Fin.good.s _)
    · exact absurd H (Fin.good.s _)
theorem memOk_of {m : Mem} {G : Know} {n : Nat} (hmo : P.follows .mixedOrders = true) (hgo : NoGo P) (hG : ConOk P Fin G) (hf : LV.frees m.args = true)
    (H : Fin (callL P G (runF P G n) 0 m.f m.args .nil 0 (resK m.res))) : MemOk P m := fun σ w vals hv => by
  have hv0 : VRs (fun _ => none) m.args vals := VRs.free _ _ hf hv
  obtain ⟨h1, h2⟩ := callL_sound Fin.good hgo hG (runF_sound Fin.good hmo hgo hG n) 0 m.f m.args .nil 0 _ H (fun _ => none) w vals hv0 (fun id o hg => by rw [RM.get_nil] at hg; cases hg) ⟨Nat.le_refl _, fun _ _ => rfl⟩
  refine ⟨h1, h2.mono fun e w' he => ?_⟩
  obtain ⟨x, rfl, v, h', nx', σ', q1, q2, q3, q4, q5⟩ := he
  exact ⟨x, rfl, ⟨q5.os, q5.tape, q5.output, q5.size, fun b hb => q5.frame b hb fun id o p hg => by rw [RM.get_nil] at hg; cases hg⟩, resK_sound q1 q2 q3 q5⟩

/-! ### All ways but those that lie in certain boxes -/
noncomputable def inBoxP (pt : Pth) : Nat → List (Int × Int) → Bool
  | _, [] => true
  | i, r :: l => cond (match rgP pt.ivs (.v i) with
    | some p => cond (iLe r.1 p.1) (iLe p.2 r.2) false
    | none => false) (inBoxP pt (i + 1) l) false
noncomputable def incon (pt : Pth) : List (SB × Bool) → Bool
  | [] => false
  | p :: l => cond (match decP ⟨[], pt.ivs, pt.dead⟩ p.1 with
    | some b => cond b (cond p.2 false true) p.2
    | none => false) true (incon pt l)
noncomputable def deadX (xs : List (List (Int × Int))) (pt : Pth) : Bool := cond (incon pt pt.facts) true (xs.any fun b => inBoxP pt 0 b)
noncomputable def badX (xs : List (List (Int × Int))) : Out → Pth → List (String × List (SB × Bool))
  | .br b x y, pt => match decP pt b with
    | some true => badX xs x pt
    | some false => badX xs y pt
    | none => cond (addP b true pt).dead (cond (addP b false pt).dead [] (badX xs y (addP b false pt))) (cond (addP b false pt).dead (badX xs x (addP b true pt)) (badX xs x (addP b true pt) ++ badX xs y (addP b false pt)))
  | .stuck s, pt => cond (deadX xs pt) [] [(s, pt.facts)]
  | .cfg _ _, pt => cond (deadX xs pt) [] [("stop", pt.facts)]
  | .fin _ _, _ => []
def OutB (xs : List (List (Int × Int))) : Prop := ∀ b ∈ xs, ¬ ∀ i r, b[i]? = some r → r.1 ≤ En.rho i ∧ En.rho i ≤ r.2
theorem inBoxP_t {pt : Pth} (h : PtOk pt) : ∀ {l : List (Int × Int)} {i : Nat}, inBoxP pt i l = true → ∀ j r, l[j]? = some r → r.1 ≤ En.rho (i + j) ∧ En.rho (i + j) ≤ r.2
  | [], i, _, j, r, hj => by simp at hj
  | q :: l, i, hb, j, r, hj => by
    simp only [inBoxP] at hb
    obtain ⟨h1, h2⟩ := condT hb
    cases j with
    | zero =>
      simp at hj; subst hj
      cases hr : rgP pt.ivs (.v i) with
      | none => rw [hr] at h1; cases h1
      | some p =>
        rw [hr] at h1
        obtain ⟨k1, k2⟩ := condT h1
        have := rgP_sound h.ivs (.v i) p hr
        have k1 := iLe_t k1
        have k2 := iLe_t k2
        simp only [SE.ev] at this
        rw [Nat.add_zero]
        omega
    | succ j =>
      have := inBoxP_t h h2 j r (by simpa using hj)
      rw [show i + (j + 1) = i + 1 + j by omega]; exact this
theorem incon_t {pt : Pth} (h : PtOk pt) : ∀ {l : List (SB × Bool)}, FactsOk l → incon pt l = true → False
  | [], _, hb => by cases hb
  | p :: l, hf, hb => by
    simp only [incon] at hb
    have hp := hf p (by simp)
    have h' : PtOk ⟨[], pt.ivs, pt.dead⟩ := ⟨(by intro q hq; cases hq), h.ivs, h.live⟩
    have tail := fun hb => incon_t h (l := l) (fun q hq => hf q (by simp [hq])) hb
    cases hd : decP ⟨[], pt.ivs, pt.dead⟩ p.1 with
    | none => rw [hd] at hb; exact tail hb
    | some b =>
      rw [hd] at hb
      have := decP_sound h' hd
      rw [hp] at this
      rw [this] at hb
      cases b <;> exact tail hb
theorem deadX_t {xs : List (List (Int × Int))} (hx : OutB xs) {pt : Pth} (h : PtOk pt) (hd : deadX xs pt = true) : False := by
  unfold deadX at hd
  cases hi : incon pt pt.facts with
  | true => exact incon_t h h.facts hi
  | false =>
    rw [hi] at hd
    obtain ⟨b, h1, h2⟩ := List.any_eq_true.1 hd
    exact hx b h1 fun i r hr => by
      have := inBoxP_t h h2 i r hr
      rwa [Nat.zero_add] at this
theorem badX_sound {xs : List (List (Int × Int))} (hx : OutB xs) : ∀ {o : Out} {pt : Pth}, PtOk pt → (∀ p ∈ badX xs o pt, ¬ FactsOk p.2) → Fin o
  | .br b x y, pt, h, hb => by
    have ihx := fun {pt'} => badX_sound hx (o := x) (pt := pt')
    have ihy := fun {pt'} => badX_sound hx (o := y) (pt := pt')
    have go : ∀ v, b.ev = v → Fin (cond v x y) → Fin (.br b x y) := fun v hv ⟨e, st, h⟩ => ⟨e, st, by
      simp only [reach, hv]
      cases v <;> exact h⟩
    unfold badX at hb
    cases hd : decP pt b with
    | some v =>
      have hv := decP_sound h hd
      rw [hd] at hb
      cases v with
      | true => exact go true hv (ihx h hb)
      | false => exact go false hv (ihy h hb)
    | none =>
      rw [hd] at hb
      simp only at hb
      cases hv : b.ev with
      | true =>
        have h' := addP_sound h hv
        rw [h'.live] at hb
        simp only [cond_false] at hb
        refine go true hv (ihx h' fun p hp => ?_)
        cases hdd : (addP b false pt).dead with
        | true => rw [hdd] at hb; exact hb p hp
        | false => rw [hdd] at hb; exact hb p (by simp [hp])
      | false =>
        have h' := addP_sound h hv
        cases hdd : (addP b true pt).dead with
        | true =>
          rw [hdd, h'.live] at hb
          exact go false hv (ihy h' hb)
        | false =>
          rw [hdd, h'.live] at hb
          simp only [cond_false] at hb
          exact go false hv (ihy h' fun p hp => hb p (by simp [hp]))
  | .stuck s, pt, h, hb => by
    unfold badX at hb
    cases hd : deadX xs pt with
    | true => exact (deadX_t hx h hd).elim
    | false => rw [hd] at hb; exact absurd h.facts (hb (s, pt.facts) (by simp))
  | .cfg k st, pt, h, hb => by
    unfold badX at hb
    cases hd : deadX xs pt with
    | true => exact (deadX_t hx h hd).elim
    | false => rw [hd] at hb; exact absurd h.facts (hb ("stop", pt.facts) (by simp))
  | .fin e st, pt, h, hb => ⟨e, st, rfl⟩
end
end Go.Proofs.Ytigilihpofafoaa.Loc
