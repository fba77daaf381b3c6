/- The small machine of local values: regions whose order is drawn. Part 4: guards and slots, told of every activation. -/
import Derived.Test.YtigilihpofafoaaLocD3
namespace Go.Proofs.Ytigilihpofafoaa.Loc
open Go
set_option linter.unusedVariables false
set_option linter.unusedSimpArgs false
set_option linter.unusedSectionVars false
variable [En]
variable {P : Program} {Φ : Out → Prop} {fl : Nat}

/-- the slots 'S' hold what 't' says -/
def RelOn (σ : Sg) (t : RM LV) (tmps : Array Value) (S : List Nat) : Prop := ∀ d ∈ S, ∀ v, t.get d = some v → ∃ x, tmps[d]? = some x ∧ VR σ v x
/-- the guard of 'o' says 'b', wherever the slots that it reads hold what 't' says -/
def GuardIs (ops : List Oper) (o : Oper) (t : RM LV) (b : Bool) : Prop := ∀ σ tmps, RelOn σ t tmps (readsOf ops o) → Region.wanted o (yielded ops.toArray tmps) = b
structure Eqv (st st' : St) : Prop where
  h : st'.h = st.h
  nx : st'.nx = st.nx
  nt : st'.nt = st.nt
  ds : st'.ds = st.ds
  fl : st'.fl = st.fl
  t : ∀ i, st'.t.get i = st.t.get i
theorem Eqv.refl {st : St} : Eqv st st := ⟨rfl, rfl, rfl, rfl, rfl, fun _ => rfl⟩
theorem Eqv.set {st : St} {d : Nat} {v : LV} (h : st.t.get d = some v) : Eqv st (st.setT d v) := ⟨rfl, rfl, rfl, rfl, rfl, fun i => by
  show (st.t.set d v).get i = _
  rw [RM.get_set]
  by_cases e : d = i
  · subst e; rw [if_pos rfl, h]
  · rw [if_neg e]⟩

theorem guard_direct (hs : Good Φ) {ops : List Oper} {o : Oper} {st : St} {yes no : St → Out} (H : Φ (guardL ops o.guard st yes no)) :
    (∃ st', Φ (yes st') ∧ Eqv st st' ∧ GuardIs ops o st.t true) ∨ (∃ st', Φ (no st') ∧ Eqv st st' ∧ GuardIs ops o st.t false) := by
  unfold guardL at H
  cases hg : o.guard with
  | none =>
    simp only [hg] at H
    exact .inl ⟨st, H, Eqv.refl, fun σ tmps _ => by simp [Region.wanted, hg]⟩
  | some p =>
    obtain ⟨j, want⟩ := p
    simp only [hg] at H
    have hw : ∀ tmps, Region.wanted o (yielded ops.toArray tmps) = (yielded ops.toArray tmps j == some want) := fun tmps => by simp [Region.wanted, hg]
    unfold guardD at H
    cases hd : dstOf ops j with
    | none => simp only [hd] at H; exact absurd H (hs _)
    | some d =>
      simp only [hd] at H
      have hmem : d ∈ readsOf ops o := by simp [readsOf, hg, hd]
      unfold dstOf at hd
      cases ho : ops[j]? with
      | none => simp [ho] at hd
      | some g =>
        simp only [ho] at hd
        have hyB : ∀ tmps b, tmps[d]? = some (.bool b) → yielded ops.toArray tmps j = some b := fun tmps b hb => by simp [yielded, ho, hd, hb]
        have hyT : ∀ tmps xs, tmps[d]? = some (.tuple xs) → yielded ops.toArray tmps j = none := fun tmps b hb => by simp [yielded, ho, hd, hb]
        cases hv : st.t.get d with
        | none => simp only [hv, guardV] at H; exact absurd H (hs _)
        | some v =>
          simp only [hv] at H
          unfold guardV at H
          split at H
          · rename_i b heq
            cases heq
            have hval : ∀ σ tmps, RelOn σ st.t tmps (readsOf ops o) → Region.wanted o (yielded ops.toArray tmps) = (b == want) := fun σ tmps hr => by
              obtain ⟨x, hx, hr⟩ := hr d hmem _ hv
              simp only [VR] at hr; subst hr
              rw [hw, hyB _ _ hx]; cases b <;> cases want <;> rfl
            simp only [guardB] at H
            cases b with
            | true =>
              simp only [lif] at H
              cases want with
              | true => exact .inl ⟨_, H, Eqv.set hv, hval⟩
              | false => exact .inr ⟨_, H, Eqv.set hv, hval⟩
            | false =>
              simp only [lif] at H
              cases want with
              | true => exact .inr ⟨_, H, Eqv.set hv, hval⟩
              | false => exact .inl ⟨_, H, Eqv.set hv, hval⟩
          · rename_i b heq
            cases heq
            have hval : ∀ σ tmps, RelOn σ st.t tmps (readsOf ops o) → Region.wanted o (yielded ops.toArray tmps) = (b.ev == want) := fun σ tmps hr => by
              obtain ⟨x, hx, hr⟩ := hr d hmem _ hv
              simp only [VR] at hr; subst hr
              rw [hw, hyB _ _ hx]; cases b.ev <;> cases want <;> rfl
            rcases of_br hs H with ⟨hb, H⟩ | ⟨hb, H⟩ <;> rw [hb] at hval <;> cases want
            · exact .inr ⟨_, H, Eqv.refl, hval⟩
            · exact .inl ⟨_, H, Eqv.refl, hval⟩
            · exact .inl ⟨_, H, Eqv.refl, hval⟩
            · exact .inr ⟨_, H, Eqv.refl, hval⟩
          · rename_i heq
            cases heq
            refine .inr ⟨_, H, Eqv.refl, fun σ tmps hr => ?_⟩
            obtain ⟨x, hx, hr⟩ := hr d hmem _ hv
            simp only [VR] at hr
            obtain ⟨xs, rfl, hxs⟩ := hr
            rw [hw, hyT _ _ hx]; rfl
          · exact absurd H (hs _)

theorem put_direct (hs : Good Φ) {st : St} {d : Option Tmp} {v : LV} {c : St → Out} (H : Φ (st.put d v c)) :
    ∃ st', Φ (c st') ∧ st'.h = st.h ∧ st'.nx = st.nx ∧ st'.nt = st.nt ∧ st'.ds = st.ds ∧ st'.fl = st.fl ∧ (∀ t, st'.t.get t = if d = some t then some v else st.t.get t) ∧ ∀ t, d = some t → t < st.nt := by
  cases d with
  | none => exact ⟨st, H, rfl, rfl, rfl, rfl, rfl, fun t => by simp, fun t h => by cases h⟩
  | some d =>
    obtain ⟨hd, H⟩ := of_cond hs H
    rw [Nat.blt_eq] at hd
    refine ⟨_, H, rfl, rfl, rfl, rfl, rfl, fun t => ?_, fun t h => by cases h; exact hd⟩
    show (st.t.set d v).get t = _
    rw [RM.get_set]
    by_cases e : d = t
    · subst e; simp
    · rw [if_neg e, if_neg (by simpa using e)]

theorem tmpsOf_mem {t : Nat} : ∀ {l : List Operand}, Operand.tmp t ∈ l → t ∈ tmpsOf l
  | [], h => by simp at h
  | a :: l, h => by
    cases a with
    | tmp u =>
      simp only [tmpsOf]
      rcases List.mem_cons.1 h with h | h
      · cases h; simp
      · simp [tmpsOf_mem h]
    | _ =>
      simp only [tmpsOf]
      rcases List.mem_cons.1 h with h | h
      · cases h
      · exact tmpsOf_mem h
theorem reads_tmp {ops : List Oper} {o : Oper} {t : Nat} (h : Operand.tmp t ∈ o.op.operands.toList) : t ∈ readsOf ops o := by
  unfold readsOf
  split
  · exact tmpsOf_mem h
  · split
    · simp [tmpsOf_mem h]
    · exact tmpsOf_mem h
theorem RelOn.lev {σ : Sg} {t : RM LV} {a : Act} {ops : List Oper} {o : Oper} (h : RelOn σ t a.tmps (readsOf ops o)) : ∀ x ∈ o.op.operands, VR σ (lev t x) (a.eval x) := fun x hx => by
  cases x with
  | tmp i =>
    simp only [Loc.lev, Act.eval]
    cases hg : t.get i with
    | none => simp [VR]
    | some v =>
      obtain ⟨y, hy, hv⟩ := h i (reads_tmp (by simpa using hx)) v hg
      simp only [Option.getD_some]
      rw [Array.getD_eq_getD_getElem?, hy]
      exact hv
  | const v => exact ofVal_sound v
  | func f =>
    simp only [Loc.lev, Act.eval, VR]
    exact ⟨[], [], rfl, by simp [VRs], by simp [VRs]⟩
  | global g => simp [Loc.lev, VR]

theorem memN_spec {n : Nat} : ∀ {l : List Nat}, memN n l = true ↔ n ∈ l
  | [] => by simp [memN]
  | a :: l => by
    unfold memN
    cases h : Nat.beq n a with
    | true => rw [beq_t] at h; simp [h]
    | false => rw [beq_f] at h; simp [h, memN_spec]
/-- no clash: neither writes what the other reads or writes -/
theorem clash_spec {ops : List Oper} {o p : Oper} (h : clash ops o p = false) : (∀ d, o.dst = some d → d ∉ readsOf ops p ∧ p.dst ≠ some d) ∧ (∀ d, p.dst = some d → d ∉ readsOf ops o ∧ o.dst ≠ some d) := by
  unfold clash at h
  cases h1 : writesTo o (readsOf ops p) with
  | true => simp [h1] at h
  | false =>
    simp only [h1, cond_false] at h
    cases h2 : writesTo p (readsOf ops o) with
    | true => simp [h2] at h
    | false =>
      simp only [h2, cond_false] at h
      refine ⟨fun d hd => ⟨fun hm => ?_, fun hp => ?_⟩, fun d hd => ⟨fun hm => ?_, fun hp => ?_⟩⟩
      · simp [writesTo, hd, memN_spec.2 hm] at h1
      · simp [sameDst, hd, hp] at h
      · simp [writesTo, hd, memN_spec.2 hm] at h2
      · simp [sameDst, hd, hp] at h
end Go.Proofs.Ytigilihpofafoaa.Loc
