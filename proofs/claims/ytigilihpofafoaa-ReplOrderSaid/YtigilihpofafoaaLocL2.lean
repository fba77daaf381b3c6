/- The small machine of local values: laws by cases: answers reckoned in lists; boxes that lie in others. -/
import Derived.Test.YtigilihpofafoaaLocL
namespace Go.Proofs.Ytigilihpofafoaa.Loc
open Go Go.RowKit
set_option linter.unusedVariables false
set_option linter.unusedSectionVars false

noncomputable def isNil {α : Type} : List α → Bool
  | [] => true
  | _ :: _ => false
theorem isNil_t {α : Type} {l : List α} (h : isNil l = true) : l = [] := by cases l <;> first | rfl | cases h
noncomputable def ptN : Pth := ⟨[], [], false⟩
theorem ptN_ok [En] : PtOk ptN := ⟨(by intro p hp; cases hp), (by intro p hp; cases hp), rfl⟩
section
variable [En]
noncomputable def memChk (P : Program) (G : Know) (n : Nat) : List Mem → Bool
  | [] => true
  | m :: l => cond (LV.frees m.args) (cond (isNil (bad (callL P G (runF P G n) 0 m.f m.args .nil 0 (resK m.res)) ptN)) (memChk P G n l) false) false
theorem memChk_ok {P : Program} {G : Know} {n : Nat} (hmo : P.follows .mixedOrders = true) (hgo : NoGo P) (hG : ConOk P Fin G) : ∀ {ms : List Mem}, memChk P G n ms = true → ∀ m ∈ ms, MemOk P m
  | [], _, m, hm => by cases hm
  | a :: l, h, m, hm => by
    simp only [memChk] at h
    obtain ⟨h1, h⟩ := condT h
    obtain ⟨h2, h3⟩ := condT h
    rcases List.mem_cons.1 hm with rfl | hm
    · exact memOk_of hmo hgo hG h1 (bad_sound ptN_ok (by rw [isNil_t h2]; intro p hp; cases hp))
    · exact memChk_ok hmo hgo hG h3 m hm
/-- all answers of a table hold -/
def TabOk (P : Program) (tab : List (FuncId × List Mem)) : Prop := ∀ p ∈ tab, ∀ m ∈ p.2, m.f = p.1 ∧ MemOk P m
noncomputable def allF (f : FuncId) : List Mem → Bool
  | [] => true
  | m :: l => cond (Nat.beq m.f f) (allF f l) false
theorem allF_t {f : FuncId} : ∀ {l : List Mem}, allF f l = true → ∀ m ∈ l, m.f = f
  | [], _, m, hm => by cases hm
  | a :: l, h, m, hm => by
    simp only [allF] at h
    obtain ⟨h1, h2⟩ := condT h
    rcases List.mem_cons.1 hm with rfl | hm
    · exact Nat.eq_of_beq_eq_true h1
    · exact allF_t h2 m hm
theorem TabOk.nil {P : Program} : TabOk P [] := fun p hp => by cases hp
theorem TabOk.cons {P : Program} {f : FuncId} {ms : List Mem} {tab : List (FuncId × List Mem)} (h1 : allF f ms = true) (h2 : ∀ m ∈ ms, MemOk P m) (h3 : TabOk P tab) : TabOk P ((f, ms) :: tab) := fun p hp m hm => by
  rcases List.mem_cons.1 hp with rfl | hp
  · exact ⟨allF_t h1 m hm, h2 m hm⟩
  · exact h3 p hp m hm
theorem TabOk.con {P : Program} {Φ : Out → Prop} {tab : List (FuncId × List Mem)} {wr : FuncId → Bool} (h : TabOk P tab) : ConOk P Φ ⟨fun f => conM f tab, wr⟩ := conM_ok tab h
end

theorem ind_of : ∀ {b F : List (Int × Int)} {ns : List Int}, InD F ns → b.length ≤ F.length → (∀ i r, b[i]? = some r → r.1 ≤ ns.getD i 0 ∧ ns.getD i 0 ≤ r.2) → InD (b ++ F.drop b.length) ns
  | [], F, ns, h, _, _ => by simpa using h
  | r :: b, [], ns, h, hl, _ => by simp at hl
  | r :: b, q :: F, ns, ⟨n, ns', e, h1, h2, h3⟩, hl, hb => by
    subst e
    have h0 := hb 0 r (by simp)
    simp only [List.getD_cons_zero] at h0
    refine ⟨n, ns', rfl, h0.1, h0.2, ?_⟩
    have := ind_of (b := b) h3 (by simpa using hl) fun i p hp => by
      have := hb (i + 1) p (by simpa using hp)
      simpa using this
    simpa using this
/-- the numbers lie in a box, or in none -/
theorem split_of {xs : List (List (Int × Int))} {F : List (Int × Int)} {ns : List Int} (h : InD F ns) (hl : xs.all (fun b => Nat.ble b.length F.length) = true) : NotIn xs ns ∨ ∃ b ∈ xs, InD (b ++ F.drop b.length) ns := by
  rcases Classical.em (∃ b ∈ xs, ∀ i r, b[i]? = some r → r.1 ≤ ns.getD i 0 ∧ ns.getD i 0 ≤ r.2) with ⟨b, hb, hk⟩ | hx
  · rw [List.all_eq_true] at hl
    exact .inr ⟨b, hb, ind_of h (Nat.le_of_ble_eq_true (hl b hb)) hk⟩
  · exact .inl fun b hb hk => hx ⟨b, hb, hk⟩
theorem Alls.get {α : Type} {p : α → Prop} : ∀ {l : List α}, Alls p l → ∀ a ∈ l, p a
  | [], _, a, h => by cases h
  | b :: l, ⟨h1, h2⟩, a, h => by
    rcases List.mem_cons.1 h with rfl | h
    · exact h1
    · exact Alls.get h2 a h
theorem Alls.append {α : Type} {p : α → Prop} : ∀ {l m : List α}, Alls p l → Alls p m → Alls p (l ++ m)
  | [], m, _, h => h
  | b :: l, m, ⟨h1, h2⟩, h => ⟨h1, h2.append h⟩

/-! ### Many boxes at once -/
abbrev OkR (l : List (Int × Int)) (rho : Nat → Int) : Prop := ∀ i p, l[i]? = some p → p.1 ≤ rho i ∧ rho i ≤ p.2
noncomputable def badsL (P : Program) (G : Know) (f n : Nat) (ss : List Sh) : (ls : List (List (Int × Int))) → (rho : Nat → Nat → Int) → (∀ j l, ls[j]? = some l → OkR l (rho j)) → Bool
  | [], _, _ => true
  | l :: ls, rho, ok => cond (isNil (@bad (enOf l (rho 0) (ok 0 l rfl)) (callL P G (@runF (enOf l (rho 0) (ok 0 l rfl)) P G n) 0 f (symAs ss 0 0 l) (symH ss 0 0 l) (nls ss) okK) ⟨[], [], false⟩))
      (badsL P G f n ss ls (fun j => rho (j + 1)) fun j l h => ok (j + 1) l h) false
def wfB : List (Int × Int) → Bool
  | [] => true
  | r :: l => cond (decide (r.1 ≤ r.2)) (wfB l) false
def loR (l : List (Int × Int)) : Nat → Int := fun i => ((l[i]?).getD (0, 0)).1
theorem wfB_ok : ∀ {l : List (Int × Int)}, wfB l = true → OkR l (loR l)
  | [], _, i, p, h => by simp at h
  | r :: l, hw, i, p, h => by
    simp only [wfB] at hw
    obtain ⟨h1, h2⟩ := condF hw
    cases i with
    | zero =>
      simp at h; subst h
      simp only [loR, List.getElem?_cons_zero, Option.getD_some]
      exact ⟨Int.le_refl _, of_decide_eq_true h1⟩
    | succ i => exact wfB_ok h2 i p (by simpa using h)
def consR (r : Nat → Int) (rho : Nat → Nat → Int) : Nat → Nat → Int
  | 0 => r
  | j + 1 => rho j
theorem badsL_ok {P : Program} {G : Know} {f n : Nat} {ss : List Sh} : ∀ {ls : List (List (Int × Int))}, ls.all wfB = true → (∀ rho ok, badsL P G f n ss ls rho ok = true) → Alls (BoxOk P G f n ss) ls
  | [], _, _ => trivial
  | l :: ls, hw, H => by
    have hw' := hw
    rw [List.all_eq_true] at hw
    have h1 := wfB_ok (hw l (by simp))
    have key : ∀ (r : Nat → Int) (okr : OkR l r) (rho : Nat → Nat → Int) (ok : ∀ j l, ls[j]? = some l → OkR l (rho j)),
        isNil (@bad (enOf l r okr) (callL P G (@runF (enOf l r okr) P G n) 0 f (symAs ss 0 0 l) (symH ss 0 0 l) (nls ss) okK) ⟨[], [], false⟩) = true ∧ badsL P G f n ss ls rho ok = true := fun r okr rho ok => by
      have := H (consR r rho) (fun j => match j with
        | 0 => fun l' h => by simp at h; subst h; exact okr
        | j + 1 => fun l' h => ok j l' (by simpa using h))
      exact condF this
    have lo : ∀ j l, ls[j]? = some l → OkR l (loR ((ls[j]?).getD [])) := fun j l hj => by
      rw [hj]
      exact wfB_ok (hw l (List.mem_cons_of_mem _ (List.mem_of_getElem? hj)))
    refine ⟨fun rho ok => isNil_t (key rho ok _ lo).1, badsL_ok ?_ fun rho ok => (key _ h1 rho ok).2⟩
    rw [List.all_eq_true]
    exact fun b hb => hw b (by simp [hb])
end Go.Proofs.Ytigilihpofafoaa.Loc
