/- The small machine of local values: regions whose order is drawn. Part 3: new objects; views. -/
import Derived.Test.YtigilihpofafoaaLocD2
namespace Go.Proofs.Ytigilihpofafoaa.Loc
open Go
set_option linter.unusedVariables false
set_option linter.unusedSimpArgs false
set_option linter.unusedSectionVars false
variable [En]
variable {P : Program} {Φ : Out → Prop} {fl : Nat}

theorem ext_upd {σ : Sg} {id : Nat} {p : Place} (h : σ id = none) : Ext σ (upd σ id p) := fun i q e => by
  have : i ≠ id := fun x => by rw [x, h] at e; cases e
  rw [upd_other this]; exact e

theorem alloc_sound (hs : Good Φ) {ev : Operand → LV} {op : Op} {id : Nat} {c : LV → LObj → Out} (H : Φ (allocL P ev op id c)) :
    ∃ v o, Φ (c v o) ∧ o.rw = true ∧ ∀ σ w (ρ : Operand → Value) (u : Oper), u.op = op → (∀ x ∈ op.operands, VR σ (ev x) (ρ x)) → σ id = none →
      ∃ x ob p, (execOp ρ u).run P w = .ok (.value x) (w.alloc ob) ∧ p.blk = w.heap.size ∧ VR (upd σ id p) v x ∧ OK P (upd σ id p) p o ob := by
  have hbox : ∀ {σ : Sg} {w : World} {v : LV} {x : Value} {cs : List LV} (t t' : TypeId), v.cells = some cs → VR σ v x → σ id = none →
      VR (upd σ id ⟨w.heap.size, 0, 1, 1, 1⟩) (.ptr id 0 0 []) (.pointer (some ⟨w.heap.size, 0, none⟩)) ∧ OK P (upd σ id ⟨w.heap.size, 0, 1, 1, 1⟩) ⟨w.heap.size, 0, 1, 1, 1⟩ (.var cs t') (.cells x.cells t) := fun t t' hc hv hn => by
    obtain ⟨q1, q2, _⟩ := LV.cells_sound hc hv
    refine ⟨?_, rfl, rfl, _, t, by simp, VRs.mono (ext_upd hn) _ _ q1, q2⟩
    simp only [VR]
    exact ⟨_, upd_same, by simp, trivial, by simp [plAddr, ixSum]⟩
  cases op with
  | alloc t =>
    simp only [allocL] at H
    cases hc : (zeroL P t).cells with
    | none => simp only [hc] at H; exact absurd H (hs _)
    | some cs =>
      simp only [hc] at H
      refine ⟨_, _, H, rfl, fun σ w ρ u hu hx hn => ?_⟩
      obtain ⟨z, hz, he⟩ := zeroL_sound hc
      obtain ⟨k1, k2⟩ := hbox (w := w) t t hc (he ▸ ofVal_sound z) hn
      exact ⟨_, _, ⟨w.heap.size, 0, 1, 1, 1⟩, by simp [execOp, hu, Instr.alloc, hz, newVar, newRow], rfl, k1, k2⟩
  | box t x =>
    simp only [allocL] at H
    cases hc : (ev x).cells with
    | none => simp only [hc] at H; exact absurd H (hs _)
    | some cs =>
      simp only [hc] at H
      refine ⟨_, _, H, rfl, fun σ w ρ u hu hx hn => ?_⟩
      obtain ⟨k1, k2⟩ := hbox (w := w) t t hc (hx x (by simp [Op.operands])) hn
      exact ⟨_, _, ⟨w.heap.size, 0, 1, 1, 1⟩, by simp [execOp, hu, Instr.box, newVar, newRow], rfl, k1, k2⟩
  | buildSlice t n ps =>
    simp only [allocL] at H
    obtain ⟨e, get, es, H', key⟩ := buildSlice_core hs H
    rw [RM.get_set, if_pos rfl] at H'
    refine ⟨_, _, H', rfl, fun σ w ρ u hu hx hn => ?_⟩
    obtain ⟨ys, hr, hok⟩ := key σ (upd σ id ⟨w.heap.size, 0, es, n, n⟩) w (ps.map fun (i, x) => (i, ρ x)) (by
      simp only [Array.toList_map]
      exact VRp.map fun x hx' => hx x.2 (by simp only [Op.operands]; simp; exact ⟨x.1, by simpa using hx'⟩)) (ext_upd hn)
    refine ⟨.slice (some ⟨w.heap.size, 0, none⟩) n n, .cells ys e, ⟨w.heap.size, 0, es, n, n⟩, by simp only [execOp, hu, Sem.run_bind, hr, Result.andThen_ok, Sem.run_pure], rfl, ?_, hok⟩
    simp only [VR]
    exact ⟨_, upd_same, by simp, by simp, .inl (by simp [plAddr])⟩
  | _ => exact absurd H (hs _)

/-! ### Views: what a heap that was says of the world that is -/
def View (P : Program) (σ : Sg) (h : LH) (w : World) : Prop := ∃ fl, Sim P fl σ h w
theorem Sim.view {σ : Sg} {h : LH} {w : World} (s : Sim P fl σ h w) : View P σ h w := ⟨fl, s⟩
theorem View.nil {σ : Sg} {w : World} : View P σ .nil w := ⟨0, fun id o h => by simp [RM.get_nil] at h⟩
theorem View.mono {σ σ' : Sg} {h : LH} {w w' : World} (v : View P σ h w) (e : Ext σ σ') (hb : ∀ b, b < w.heap.size → w'.heap[b]? = w.heap[b]?) : View P σ' h w' := by
  obtain ⟨f, s⟩ := v
  refine ⟨f, fun id o hg => ?_⟩
  obtain ⟨p, ob, h1, h2, h3, h4⟩ := s id o hg
  refine ⟨p, ob, e id p h1, by rw [hb _ (s.lt hg h1)]; exact h2, OK.mono e h3, fun hr i' o' p' g1 g2 g3 => ?_⟩
  obtain ⟨q, _, k1, _⟩ := s i' o' g1
  have := e i' q k1
  rw [g2] at this; cases this
  exact h4 hr i' o' p' g1 k1 g3
end Go.Proofs.Ytigilihpofafoaa.Loc
