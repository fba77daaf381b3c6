/- The small machine of local values: regions whose order is drawn. Part 2: masks and plans. -/
import Derived.Test.YtigilihpofafoaaLocD
namespace Go.Proofs.Ytigilihpofafoaa.Loc
open Go
set_option linter.unusedVariables false
set_option linter.unusedSimpArgs false
set_option linter.unusedSectionVars false
variable [En]
variable {P : Program} {Φ : Out → Prop} {fl : Nat}

theorem of_condF {a b : Bool} (h : cond a b false = true) : a = true ∧ b = true := by
  cases a
  · cases h
  · exact ⟨rfl, h⟩
/-- 'j' comes before 'i' -/
def Pre (ms : List Nat) (i j : Nat) : Prop := Nat.testBit ((ms[i]?).getD 0) j = true

theorem maskOf_spec {ms : List Nat} {j : Nat} : ∀ {es : List Edge}, Nat.testBit (maskOf es ms) j = true → ∃ e ∈ es, Region.binds .any e = true ∧ (e.on = j ∨ Pre ms e.on j)
  | [], h => by simp [maskOf] at h
  | e :: es, h => by
    unfold maskOf at h
    cases hb : Region.binds .any e with
    | false =>
      simp only [hb, cond_false] at h
      obtain ⟨e', h1, h2⟩ := maskOf_spec h
      exact ⟨e', by simp [h1], h2⟩
    | true =>
      simp only [hb, cond_true] at h
      have h' : Nat.testBit ((1 <<< e.on ||| (ms[e.on]?).getD 0) ||| maskOf es ms) j = true := h
      rw [Nat.testBit_or, Nat.testBit_or] at h'
      simp only [Bool.or_eq_true] at h'
      rcases h' with (h' | h') | h'
      · refine ⟨e, by simp, hb, .inl ?_⟩
        rw [Nat.testBit_shiftLeft] at h'
        simp only [Bool.and_eq_true, decide_eq_true_eq] at h'
        obtain ⟨h1, h2⟩ := h'
        have : j - e.on = 0 := by
          rcases Nat.eq_zero_or_pos (j - e.on) with h0 | h0
          · exact h0
          · rw [Nat.testBit_one_eq_true_iff_self_eq_zero] at h2; omega
        omega
      · exact ⟨e, by simp, hb, .inr h'⟩
      · obtain ⟨e', h1, h2⟩ := maskOf_spec h'
        exact ⟨e', by simp [h1], h2⟩

theorem edgesOk_spec {n : Nat} : ∀ {es : List Edge}, edgesOk n es = true → ∀ e ∈ es, Region.binds .any e = true → e.on < n
  | [], _, e, he, _ => by simp at he
  | a :: es, h, e, he, hb => by
    unfold edgesOk at h
    obtain ⟨h1, h2⟩ := of_condF h
    rcases List.mem_cons.1 he with rfl | he
    · rw [hb, cond_true, Nat.blt_eq] at h1; exact h1
    · exact edgesOk_spec h2 e he hb
theorem masksOk_spec {ms : List Nat} : ∀ {os : List Oper} {n : Nat}, masksOk ms os n = true → ∀ (i : Nat) (o : Oper), os[i]? = some o → (∀ e ∈ o.after.toList, Region.binds .any e = true → e.on < n + i) ∧ (ms[n + i]?).getD 0 = maskOf o.after.toList ms
  | [], n, _, i, o, ho => by simp at ho
  | a :: os, n, h, i, o, ho => by
    unfold masksOk at h
    obtain ⟨h1, h2⟩ := of_condF h
    obtain ⟨h3, h4⟩ := of_condF h1
    cases i with
    | zero =>
      simp at ho; subst ho
      exact ⟨edgesOk_spec h3, by rw [beq_t] at h4; exact h4⟩
    | succ i =>
      have := masksOk_spec h2 i o (by simpa using ho)
      rw [show n + (i + 1) = n + 1 + i by omega]
      exact this

/-- closed under the edges that bind -/
def Closed (ops : List Oper) (D : Nat → Prop) : Prop := ∀ (i : Nat) (o : Oper), ops[i]? = some o → D i → ∀ e ∈ o.after.toList, Region.binds .any e = true → D e.on
theorem Closed.pre {ops : List Oper} {ms : List Nat} (hm : masksOk ms ops 0 = true) {D : Nat → Prop} (hc : Closed ops D) : ∀ (i : Nat) (o : Oper), ops[i]? = some o → (∀ e ∈ o.after.toList, Region.binds .any e = true → D e.on) → ∀ j, Pre ms i j → D j := by
  intro i
  induction i using Nat.strongRecOn with
  | _ i ih =>
    intro o ho he j hj
    obtain ⟨h1, h2⟩ := masksOk_spec hm i o ho
    rw [Nat.zero_add] at h1 h2
    unfold Pre at hj
    rw [h2] at hj
    obtain ⟨e, e1, e2, e3⟩ := maskOf_spec hj
    rcases e3 with rfl | e3
    · exact he e e1 e2
    · have hlt := h1 e e1 e2
      have hlen : i < ops.length := (List.getElem?_eq_some_iff.1 ho).1
      have hoe : ops[e.on]? = some (ops[e.on]'(by omega)) := List.getElem?_eq_getElem (by omega)
      exact ih e.on hlt _ hoe (hc e.on _ hoe (he e e1 e2)) j e3

/-! ### Plans -/
theorem pairsOk_spec {ops : List Oper} {ms : List Nat} {p : Pl} : ∀ {l : List Pl}, pairsOk ops ms p l = true → ∀ q ∈ l, pairOk ops ms p q = true
  | [], _, q, hq => by simp at hq
  | a :: l, h, q, hq => by
    unfold pairsOk at h
    obtain ⟨h1, h2⟩ := of_condF h
    rcases List.mem_cons.1 hq with rfl | hq
    · exact h1
    · exact pairsOk_spec h2 q hq
theorem plOk_spec {ops : List Oper} {ms : List Nat} : ∀ {l : List Pl}, plOk ops ms l = true → (∀ p ∈ l, ∃ o, ops[p.i]? = some o) ∧ ∀ (i j : Nat) (p q : Pl), i < j → l[i]? = some p → l[j]? = some q → pairOk ops ms p q = true
  | [], _ => ⟨fun p hp => by simp at hp, fun i j p q _ h => by simp at h⟩
  | a :: l, h => by
    unfold plOk at h
    obtain ⟨h1, h2⟩ := of_condF h
    obtain ⟨h3, h4⟩ := of_condF h2
    obtain ⟨q1, q2⟩ := plOk_spec h4
    refine ⟨fun p hp => ?_, fun i j p q hij hi hj => ?_⟩
    · rcases List.mem_cons.1 hp with rfl | hp
      · cases ho : ops[p.i]? with
        | none => simp [ho] at h1
        | some o => exact ⟨o, rfl⟩
      · exact q1 p hp
    · cases j with
      | zero => omega
      | succ j =>
        have hj' : l[j]? = some q := by simpa using hj
        cases i with
        | zero =>
          simp at hi; subst hi
          exact pairsOk_spec h3 q (List.mem_of_getElem? hj')
        | succ i => exact q2 i j p q (by omega) (by simpa using hi) hj'
theorem allIn_spec {pl : List Pl} : ∀ {n : Nat}, allIn pl n = true → ∀ i, i < n → ∃ (k : Nat) (p : Pl), pl[k]? = some p ∧ p.i = i
  | 0, _, i, hi => by omega
  | n + 1, h, i, hi => by
    unfold allIn at h
    obtain ⟨h1, h2⟩ := of_condF h
    rcases Nat.lt_or_ge i n with hlt | hge
    · exact allIn_spec h2 i hlt
    · have : i = n := by omega
      subst this
      simp only [List.any_eq_true] at h1
      obtain ⟨p, hp, he⟩ := h1
      rw [beq_t] at he
      obtain ⟨k, hk⟩ := List.mem_iff_getElem?.1 hp
      exact ⟨k, p, hk, he⟩

/-- what a pair's check tells -/
theorem pairOk_spec {ops : List Oper} {ms : List Nat} {p q : Pl} (h : pairOk ops ms p q = true) : p.i ≠ q.i ∧ (Pre ms q.i p.i ∨ ((∀ o u, ops[p.i]? = some o → ops[q.i]? = some u → clash ops o u = false) ∧
    (p.k = .fp ∨ p.k = .al ∨ (p.k = .fh ∧ q.k ≠ .act)))) := by
  unfold pairOk at h
  cases h0 : Nat.beq p.i q.i with
  | true => simp [h0] at h
  | false =>
    simp only [h0, cond_false] at h
    refine ⟨beq_f.1 h0, ?_⟩
    cases h1 : Nat.testBit ((ms[q.i]?).getD 0) p.i with
    | true => exact .inl h1
    | false =>
      simp only [h1, cond_false] at h
      right
      split at h
      · rename_i o u ho hu
        cases hc : clash ops o u with
        | true => simp [hc] at h
        | false =>
          simp only [hc, cond_false] at h
          refine ⟨fun o' u' h1 h2 => by rw [ho] at h1; rw [hu] at h2; cases h1; cases h2; exact hc, ?_⟩
          split at h
          · rename_i hk; exact .inl hk
          · rename_i hk; exact .inr (.inl hk)
          · rename_i hk
            refine .inr (.inr ⟨hk, fun e => ?_⟩)
            rw [e] at h; cases h
          · cases h
      · cases h
end Go.Proofs.Ytigilihpofafoaa.Loc
