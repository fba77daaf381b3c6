/- The small machine of local values: code. Part 2: a region in its text's order; a function's results. -/
import Derived.Test.YtigilihpofafoaaLocC
namespace Go.Proofs.Ytigilihpofafoaa.Loc
open Go
set_option linter.unusedVariables false
set_option linter.unusedSimpArgs false
set_option linter.unusedSectionVars false
variable [En]
variable {P : Program} {Φ : Out → Prop} {fl : Nat}

theorem TR.set {σ : Sg} {t : RM LV} {tmps : Array Value} (h : TR σ t tmps) {d : Nat} {v : LV} {x : Value} (hd : tmps[d]? = some x) (hv : VR σ v x) : TR σ (t.set d v) tmps := fun i u hu => by
  rw [RM.get_set] at hu
  by_cases e : d = i
  · subst e
    simp only [if_true, Option.some.injEq] at hu; subst hu
    exact ⟨x, hd, hv⟩
  · rw [if_neg e] at hu
    exact h i u hu
theorem SR.setT {σ : Sg} {st : St} {a : Act} {w : World} (s : SR P σ st a w) {d : Nat} {v : LV} {x : Value} (hd : a.tmps[d]? = some x) (hv : VR σ v x) : SR P σ (st.setT d v) a w ∧ After σ st w σ (st.setT d v) w :=
  ⟨⟨s.sim, s.fr, s.nt, s.tr.set hd hv, s.ds⟩, ⟨Step.refl, rfl, rfl, Nat.le_refl _, fun _ _ => rfl⟩⟩

theorem guard_sound (hs : Good Φ) {ops : List Oper} {o : Oper} {st : St} {yes no : St → Out} (H : Φ (guardL ops o.guard st yes no)) {σ : Sg} {a : Act} {w : World} (s : SR P σ st a w) :
    (∃ st', Φ (yes st') ∧ SR P σ st' a w ∧ After σ st w σ st' w ∧ Region.wanted o (yielded ops.toArray a.tmps) = true) ∨
    (∃ st', Φ (no st') ∧ SR P σ st' a w ∧ After σ st w σ st' w ∧ Region.wanted o (yielded ops.toArray a.tmps) = false) := by
  unfold guardL at H
  cases hg : o.guard with
  | none =>
    simp only [hg] at H
    exact .inl ⟨st, H, s, After.refl, by simp [Region.wanted, hg]⟩
  | some p =>
    obtain ⟨j, want⟩ := p
    simp only [hg] at H
    have hw : Region.wanted o (yielded ops.toArray a.tmps) = (yielded ops.toArray a.tmps j == some want) := by simp [Region.wanted, hg]
    rw [hw]
    unfold guardD dstOf at H
    cases ho : ops[j]? with
    | none => simp only [ho] at H; exact absurd H (hs _)
    | some g =>
      simp only [ho] at H
      cases hd : g.dst with
      | none => simp only [hd] at H; exact absurd H (hs _)
      | some d =>
        simp only [hd] at H
        have hyB : ∀ b, a.tmps[d]? = some (.bool b) → yielded ops.toArray a.tmps j = some b := fun b hb => by simp [yielded, ho, hd, hb]
        have hyT : ∀ xs, a.tmps[d]? = some (.tuple xs) → yielded ops.toArray a.tmps j = none := fun b hb => by simp [yielded, ho, hd, hb]
        cases hv : st.t.get d with
        | none => simp only [hv, guardV] at H; exact absurd H (hs _)
        | some v =>
          obtain ⟨x, hx, hr⟩ := s.tr d v hv
          simp only [hv] at H
          unfold guardV at H
          split at H
          · rename_i b heq
            cases heq
            simp only [VR] at hr; subst hr
            rw [hyB _ hx]
            simp only [guardB] at H
            cases b with
            | true =>
              simp only [lif] at H
              obtain ⟨r1, r2⟩ := s.setT (v := .bool true) hx (by simp [VR])
              cases want with
              | true => exact .inl ⟨_, H, r1, r2, rfl⟩
              | false => exact .inr ⟨_, H, r1, r2, rfl⟩
            | false =>
              simp only [lif] at H
              obtain ⟨r1, r2⟩ := s.setT (v := .bool false) hx (by simp [VR])
              cases want with
              | true => exact .inr ⟨_, H, r1, r2, rfl⟩
              | false => exact .inl ⟨_, H, r1, r2, rfl⟩
          · rename_i b heq
            cases heq
            simp only [VR] at hr; subst hr
            rw [hyB _ hx]
            rcases of_br hs H with ⟨hb, H⟩ | ⟨hb, H⟩ <;> rw [hb] <;> cases want
            · exact .inr ⟨_, H, s, After.refl, rfl⟩
            · exact .inl ⟨_, H, s, After.refl, rfl⟩
            · exact .inl ⟨_, H, s, After.refl, rfl⟩
            · exact .inr ⟨_, H, s, After.refl, rfl⟩
          · rename_i heq
            cases heq
            simp only [VR] at hr
            obtain ⟨xs, rfl, hxs⟩ := hr
            rw [hyT _ hx]
            exact .inr ⟨_, H, s, After.refl, rfl⟩
          · exact absurd H (hs _)

theorem VR.undef' {σ : Sg} : VR σ (.tup []) undef := ⟨[], rfl, by simp [VRs]⟩

theorem opsL_sound (hs : Good Φ) {cf cy : KF} (hcf : CfOk P Φ cf) (hcy : CyOk P Φ cy) {all : List Oper} {r : Option Nat} {Q : Exit → Act → World → Prop} {c : St → Out} :
    ∀ (os : List Oper) (i : Nat), os = all.drop i → ∀ {st : St}, Φ (opsL P cf cy all os st c) → ∀ {σ : Sg} {a : Act} {w : World}, SR P σ st a w →
    (∀ st' σ' a' w', Φ (c st') → SR P σ' st' a' w' → After σ st w σ' st' w' → Q .normal a' w') → wpOpsIn (wd r) 0 P all.toArray Q (List.range' i os.length) a w
  | [], i, he, st, H, σ, a, w, s, hQ => hQ _ _ _ _ H s After.refl
  | o :: os, i, he, st, H, σ, a, w, s, hQ => by
    have hi : all[i]? = some o := by
      have : (all.drop i)[0]? = some o := by rw [← he]; rfl
      simpa using this
    have hos : os = all.drop (i + 1) := by
      have := congrArg List.tail he
      simpa using this
    rw [List.length_cons, List.range'_succ, wpOpsIn_cons]
    unfold wpOpIn
    have hi' : all.toArray[i]? = some o := by simpa using hi
    simp only [hi']
    simp only [opsL, opsB] at H
    rcases guard_sound hs H s with ⟨st', H', s', af', hw⟩ | ⟨st', H', s', af', hw⟩
    · rw [if_pos hw]
      refine oper_sound (K := wpOpsIn (wd r) 0 P all.toArray Q (List.range' (i + 1) os.length)) hs hcf hcy H' (fun x _ => lev_sound s'.tr x) s'.sim s'.fr fun v h' nx' σ' x w' hv k1 k2 k3 k4 => ?_
      have s2 : SR P σ' (st'.setH h' nx') a w' := ⟨k2, k3.1, s'.nt, s'.tr.mono k4.ext, s'.ds.mono k4.ext⟩
      have af2 : After σ st' w σ' (st'.setH h' nx') w' := ⟨k4, rfl, rfl, k3.2.1, k3.2.2⟩
      obtain ⟨st3, H3, s3, af3⟩ := s2.put hs k1 hv
      exact opsL_sound hs hcf hcy os (i + 1) hos H3 s3 fun st4 σ4 a4 w4 h4 s4 af4 => hQ st4 σ4 a4 w4 h4 s4 (((af'.trans af2).trans af3).trans af4)
    · rw [if_neg (by simp [hw])]
      refine ⟨fun _ _ => trivial, ?_⟩
      obtain ⟨st3, H3, s3, af3⟩ := s'.put hs VR.undef' H'
      exact opsL_sound hs hcf hcy os (i + 1) hos H3 s3 fun st4 σ4 a4 w4 h4 s4 af4 => hQ st4 σ4 a4 w4 h4 s4 ((af'.trans af3).trans af4)

/-! ### Results -/
theorem asAddr_of_loadAt {t : TypeId} {a y : Value} {w : World} (h : (Instr.loadAt t a).run P w = .ok y w) : (asAddr a >>= fun ad => loadVar t ad).run P w = .ok y w := by
  cases a with
  | pointer p =>
    cases p with
    | none => simp [Instr.loadAt, Instr.sureAddr] at h
    | some ad => simpa [Instr.loadAt, Instr.sureAddr, asAddr] using h
  | _ => simp [Instr.loadAt, Instr.sureAddr] at h

abbrev resOf (tmps : Array Value) : ResultVar → Sem Value
  | .tmp t => pure (tmps.getD t undef)
  | .cell a t => do loadVar t (← asAddr (tmps.getD a undef))

theorem get_sound {σ : Sg} {t : RM LV} {tmps : Array Value} (h : TR σ t tmps) (i : Nat) : VR σ ((t.get i).getD .undef) (tmps.getD i undef) :=
  lev_sound (a := { tmps := tmps, defers := [] }) h (.tmp i)

theorem rets_sound (hs : Good Φ) {st : St} {k : List LV → Out} : ∀ (rs : List ResultVar) (acc : List LV), Φ (retL.rets P st rs acc k) →
    ∃ vs, Φ (k (acc.reverse ++ vs)) ∧ ∀ σ (a : Act) w, SR P σ st a w → ∃ xs, (rs.mapM (resOf a.tmps)).run P w = .ok xs w ∧ VRs σ vs xs
  | [], acc, H => ⟨[], by simpa [retL.rets] using H, fun σ a w s => ⟨[], rfl, by simp [VRs]⟩⟩
  | .tmp t :: rs, acc, H => by
    obtain ⟨vs, H', key⟩ := rets_sound hs rs _ (by simpa only [retL.rets] using H)
    refine ⟨(st.t.get t).getD .undef :: vs, by simpa using H', fun σ a w s => ?_⟩
    obtain ⟨xs, h1, h2⟩ := key σ a w s
    exact ⟨a.tmps.getD t undef :: xs, by simp [List.mapM_cons, Sem.run_bind, h1], VRs.cons (get_sound s.tr t) h2⟩
  | .cell c ty :: rs, acc, H => by
    simp only [retL.rets] at H
    obtain ⟨v, H1, key1⟩ := loadL_sound hs H
    obtain ⟨vs, H', key⟩ := rets_sound hs rs _ H1
    refine ⟨v :: vs, by simpa using H', fun σ a w s => ?_⟩
    obtain ⟨xs, h1, h2⟩ := key σ a w s
    obtain ⟨y, hy, hv⟩ := key1 σ w _ (get_sound s.tr c) s.sim
    have hy' := asAddr_of_loadAt hy
    refine ⟨y :: xs, ?_, VRs.cons hv h2⟩
    rw [List.mapM_cons, Sem.run_bind, hy']
    simp [Sem.run_bind, h1]

theorem retL_sound (hs : Good Φ) {fn : Func} {st : St} {c : KV} (H : Φ (retL P fn st c)) :
    ∃ v, Φ (c v st.h st.nx) ∧ ∀ σ (a : Act) w, SR P σ st a w → ∃ x, (results fn a.tmps).run P w = .ok x w ∧ VR σ v x := by
  have key : ∀ rs : List ResultVar, fn.results = rs.toArray → Φ (retL.rets P st rs [] fun vs => match vs with
    | [v] => c v st.h st.nx
    | vs => c (.tup vs) st.h st.nx) → ∃ v, Φ (c v st.h st.nx) ∧ ∀ σ (a : Act) w, SR P σ st a w → ∃ x, (results fn a.tmps).run P w = .ok x w ∧ VR σ v x := by
    intro rs hrs H
    obtain ⟨vs, H', key⟩ := rets_sound hs rs [] H
    simp only [List.reverse_nil, List.nil_append] at H'
    have hres : ∀ σ (a : Act) w, SR P σ st a w → ∃ xs : List Value, VRs σ vs xs ∧ (results fn a.tmps).run P w = .ok (if h : xs.toArray.size = 1 then xs.toArray[0] else .tuple xs.toArray) w := fun σ a w s => by
      obtain ⟨xs, h1, h2⟩ := key σ a w s
      refine ⟨xs, h2, ?_⟩
      have : (fn.results.mapM (resOf a.tmps)).run P w = .ok xs.toArray w := by
        rw [hrs, List.mapM_toArray, Sem.run_map, h1]; rfl
      unfold results
      rw [Sem.run_bind]
      refine (congrArg (fun r => Result.andThen r _) (?_ : _ = Result.ok xs.toArray w)).trans rfl
      rw [← this]
      congr 2
    split at H'
    · rename_i v
      refine ⟨v, H', fun σ a w s => ?_⟩
      obtain ⟨xs, h1, h2⟩ := hres σ a w s
      obtain ⟨x, l, rfl, hx, hl⟩ := h1
      simp only [VRs] at hl; subst hl
      exact ⟨x, by simpa using h2, hx⟩
    · rename_i hne
      refine ⟨_, H', fun σ a w s => ?_⟩
      obtain ⟨xs, h1, h2⟩ := hres σ a w s
      refine ⟨.tuple xs.toArray, ?_, ⟨xs, rfl, h1⟩⟩
      have hl := h1.length
      have : ¬ xs.length = 1 := fun e => by
        rw [e] at hl
        match vs, hl with
        | [v], _ => exact hne v rfl
      rw [h2, dif_neg (by simpa using this)]
  unfold retL at H
  split at H
  · rename_i t ht
    refine key [.tmp t] (by rw [← ht]) ?_
    simpa [retL.rets] using H
  · exact key fn.results.toList (by simp) H
end Go.Proofs.Ytigilihpofafoaa.Loc
