/- The small machine of local values: code. Part 1: what is left to do; one operation, calls among them; a region in its text's order. -/
import Derived.Test.YtigilihpofafoaaLocR5
import Derived.RangeFuncRecord
import Derived.RangeFuncNested
namespace Go.Proofs.Ytigilihpofafoaa.Loc
open Go
set_option linter.unusedVariables false
set_option linter.unusedSimpArgs false
set_option linter.unusedSectionVars false
variable [En]
variable {P : Program} {Φ : Out → Prop} {fl : Nat}

/-! ### Fences -/
abbrev wd (r : Option Nat) : Fence := { Fence.wide with round := r }
theorem wd_none : wd none = Fence.wide := rfl
theorem room_wd (r : Option Nat) (n : Nat) : (wd r).room n := fun _ h => by simp [Fence.wide] at h

/-! ### What is left to do -/
/-- the loop's next round -/
def LW (F : Fence) (n : Nat) (P : Program) (c : Code) (Q : Exit → Act → World → Prop) (a : Act) (w : World) : Prop :=
  ∀ (b : Frame) (k : List Item) (cs : List Frame), b.roundOf = F.round → F.fn b.fn → F.room (cs.length + 1 + n) →
    ∃ e a' w', Q e a' w' ∧ ArrivesIn (Machine.fenced P F) P (lone (b.atR a (.inLoop c :: k)) cs w) b k cs e a' w'
theorem lw_core {F : Fence} {n : Nat} {c : Code} {Q : Exit → Act → World → Prop} {a : Act} {w : World} (h : c.wpIn F n P (Exit.then (LW F n P c Q) Q) a w) (b : Frame) (k : List Item) (cs : List Frame) (hro : b.roundOf = F.round) (hb : F.fn b.fn) (hr : F.room (cs.length + 1 + n)) :
    ∃ e a' w', Q e a' w' ∧ ArrivesIn (Machine.fenced P F) P (lone (b.atR a (.code c :: .inLoop c :: k)) cs w) b k cs e a' w' := by
  obtain ⟨e, a₁, w₁, hq, harr⟩ := h b (.inLoop c :: k) cs hro hb hr
  cases e with
  | normal =>
    obtain ⟨e₂, a₂, w₂, hq₂, harr₂⟩ := hq b k cs hro hb hr
    exact ⟨e₂, a₂, w₂, hq₂, .of_steps harr harr₂⟩
  | exit id => exact ⟨_, a₁, w₁, hq, .pass (x := .inLoop c) rfl (fun _ _ => .inl (by simp)) harr⟩
  | goto l => exact ⟨_, a₁, w₁, hq, .pass (x := .inLoop c) rfl (fun _ _ => .inl (by simp)) harr⟩
  | ret => exact ⟨_, a₁, w₁, hq, .pass (x := .inLoop c) rfl (fun _ _ => .inl (by simp)) harr⟩
  | panic ch => exact ⟨_, a₁, w₁, hq, .pass (x := .inLoop c) rfl (fun _ _ => .inl (by simp)) harr⟩
  | outgrown => exact ⟨_, a₁, w₁, hq, .pass (x := .inLoop c) rfl (fun _ _ => .inl (by simp)) harr⟩
theorem lw_of {F : Fence} {n : Nat} {c : Code} {Q : Exit → Act → World → Prop} {a : Act} {w : World} (h : c.wpIn F n P (Exit.then (LW F n P c Q) Q) a w) : LW F n P c Q a w := by
  intro b k cs hro hb hr
  obtain ⟨e, a', w', hq, harr⟩ := lw_core h b k cs hro hb hr
  exact ⟨e, a', w', hq, .of_steps (.one (fenced_calm hb hr rfl) stepR_inLoop) harr⟩
theorem loop_of {F : Fence} {n : Nat} {c : Code} {Q : Exit → Act → World → Prop} {a : Act} {w : World} (h : c.wpIn F n P (Exit.then (LW F n P c Q) Q) a w) : (Code.loop c).wpIn F n P Q a w := by
  intro b k cs hro hb hr
  obtain ⟨e, a', w', hq, harr⟩ := lw_core h b k cs hro hb hr
  exact ⟨e, a', w', hq, .of_steps (.one (fenced_calm hb hr rfl) stepR_loop) harr⟩

def swp (r : Option Nat) (P : Program) (Q : Exit → Act → World → Prop) : List Itm → Exit → Act → World → Prop
  | [] => Q
  | .code c :: k => Exit.then (fun a w => c.wpIn (wd r) 0 P (swp r P Q k) a w) (swp r P Q k)
  | .blk id :: k => Exit.inBlock id (swp r P Q k)
  | .lp c :: k => Exit.then (fun a w => LW (wd r) 0 P c (swp r P Q k) a w) (swp r P Q k)

theorem swp_exit {r : Option Nat} {Q : Exit → Act → World → Prop} {id : Nat} {a : Act} {w : World} : ∀ {k : List Itm}, (match exitItm id k with | some k' => swp r P Q k' .normal a w | none => Q (.exit id) a w) → swp r P Q k (.exit id) a w
  | [], h => h
  | .code c :: k, h => by
    have := swp_exit (k := k) (by simpa [exitItm] using h)
    exact this
  | .lp c :: k, h => by
    have := swp_exit (k := k) (by simpa [exitItm] using h)
    exact this
  | .blk i :: k, h => by
    simp only [exitItm] at h
    simp only [swp, Exit.inBlock]
    by_cases e : i = id
    · subst e
      simp only [Nat.beq_refl, cond_true] at h
      rw [if_pos rfl]; exact h
    · rw [beq_f.2 e, cond_false] at h
      rw [if_neg (fun x => e x.symm)]
      exact swp_exit h
theorem swp_ret {r : Option Nat} {Q : Exit → Act → World → Prop} {a : Act} {w : World} : ∀ {k : List Itm}, Q .ret a w → swp r P Q k .ret a w
  | [], h => h
  | .code c :: k, h => swp_ret (k := k) h
  | .lp c :: k, h => swp_ret (k := k) h
  | .blk i :: k, h => swp_ret (k := k) h

def LE.toExit : LE → Exit
  | .normal => .normal
  | .exit id => .exit id
  | .ret => .ret

/-! ### A state and an activation -/
def DR (σ : Sg) : List Nat → List Deferred → Prop
  | [], l => l = []
  | id :: ds, l => ∃ p l', σ id = some p ∧ l = { target := .collected p.blk, args := #[] } :: l' ∧ DR σ ds l'
theorem DR.mono {σ σ' : Sg} (e : Ext σ σ') : ∀ {ds : List Nat} {l : List Deferred}, DR σ ds l → DR σ' ds l
  | [], _, h => h
  | id :: ds, _, ⟨p, l', h1, h2, h3⟩ => ⟨p, l', e id p h1, h2, h3.mono e⟩
structure SR (P : Program) (σ : Sg) (st : St) (a : Act) (w : World) : Prop where
  sim : Sim P st.fl σ st.h w
  fr : Fr st.fl σ st.nx
  nt : a.tmps.size = st.nt
  tr : TR σ st.t a.tmps
  ds : DR σ st.ds a.defers
structure After (σ : Sg) (st : St) (w : World) (σ' : Sg) (st' : St) (w' : World) : Prop where
  step : Step st.fl σ st.h w σ' st'.h w'
  fl : st'.fl = st.fl
  nt : st'.nt = st.nt
  le : st.nx ≤ st'.nx
  agr : ∀ id, id < st.nx → σ' id = σ id
theorem After.refl {σ : Sg} {st : St} {w : World} : After σ st w σ st w := ⟨Step.refl, rfl, rfl, Nat.le_refl _, fun _ _ => rfl⟩
theorem After.trans {a b c : Sg} {s t u : St} {w w' w'' : World} (h : After a s w b t w') (k : After b t w' c u w'') : After a s w c u w'' :=
  ⟨h.step.trans (h.fl ▸ k.step), k.fl.trans h.fl, k.nt.trans h.nt, Nat.le_trans h.le k.le, fun id hid => (k.agr id (Nat.lt_of_lt_of_le hid h.le)).trans (h.agr id hid)⟩
def RoOk (σ : Sg) : Option Nat → Option Nat → Prop
  | none, r => r = none
  | some l, r => ∃ p, σ l = some p ∧ r = some p.blk
theorem RoOk.mono {σ σ' : Sg} (e : Ext σ σ') : ∀ {ro r : Option Nat}, RoOk σ ro r → RoOk σ' ro r
  | none, _, h => h
  | some l, _, ⟨p, h1, h2⟩ => ⟨p, e l p h1, h2⟩

theorem lev_sound {σ : Sg} {t : RM LV} {a : Act} (h : TR σ t a.tmps) : ∀ x, VR σ (lev t x) (a.eval x)
  | .tmp i => by
    simp only [lev, Act.eval]
    cases hg : t.get i with
    | none => simp [VR]
    | some v =>
      obtain ⟨x, hx, hv⟩ := h i v hg
      simp only [Option.getD_some]
      rw [Array.getD_eq_getD_getElem?, hx]
      exact hv
  | .const v => ofVal_sound v
  | .func f => by
    simp only [lev, Act.eval, VR]
    exact ⟨[], [], rfl, by simp [VRs], by simp [VRs]⟩
  | .global g => by simp [lev, VR]

theorem TR.put {σ : Sg} {t : RM LV} {tmps : Array Value} (h : TR σ t tmps) {d : Nat} {v : LV} {x : Value} (hd : d < tmps.size) (hv : VR σ v x) : TR σ (t.set d v) (tmps.setIfInBounds d x) := fun i u hu => by
  rw [RM.get_set] at hu
  by_cases e : d = i
  · subst e
    simp only [if_true, Option.some.injEq] at hu; subst hu
    exact ⟨x, by simp [hd], hv⟩
  · rw [if_neg e] at hu
    obtain ⟨y, hy, hr⟩ := h i u hu
    exact ⟨y, by rw [Array.getElem?_setIfInBounds_ne e]; exact hy, hr⟩

theorem SR.put {σ : Sg} {st : St} {a : Act} {w : World} (hs : Good Φ) (s : SR P σ st a w) {d : Option Tmp} {v : LV} {x : Value} {c : St → Out} (hv : VR σ v x) (H : Φ (st.put d v c)) :
    ∃ st', Φ (c st') ∧ SR P σ st' (a.put d x) w ∧ After σ st w σ st' w := by
  cases d with
  | none => exact ⟨st, H, s, After.refl⟩
  | some d =>
    obtain ⟨hd, H⟩ := of_cond hs H
    rw [Nat.blt_eq] at hd
    refine ⟨_, H, ⟨s.sim, s.fr, by simp [Act.put, St.setT, s.nt], TR.put s.tr (by rw [s.nt]; exact hd) hv, s.ds⟩, ⟨Step.refl, rfl, rfl, Nat.le_refl _, fun _ _ => rfl⟩⟩

/-! ### Calls -/
/-- a function that is entered -/
def Enters (P : Program) (f : FuncId) : Prop := ∃ fn, P.funcs[f]? = some fn ∧ fn.body.isSome = true ∧ fn.name ≠ "runtime.NumGoroutine"
theorem Enters.run {f : FuncId} (h : Enters P f) (args : Array Value) (w : World) : (callFunc f args).run P w = .ok (.enter f args) w := by
  obtain ⟨fn, h1, h2, h3⟩ := h
  simp [callFunc, h1, h3]
  intro hb; simp [hb] at h2
/-- what is asked behind a call -/
def Rets (P : Program) (Φ : Out → Prop) (fl : Nat) (σ : Sg) (h : LH) (nx : Nat) (w : World) (c : KV) (x : Value) (w' : World) : Prop :=
  ∃ v h' nx' σ', Φ (c v h' nx') ∧ VR σ' v x ∧ Sim P fl σ' h' w' ∧ Fx fl σ nx σ' nx' ∧ Step fl σ h w σ' h' w'
def CfOk (P : Program) (Φ : Out → Prop) (cf : KF) : Prop := ∀ fl f args h nx c, Φ (cf fl f args h nx c) → ∀ σ w vals, VRs σ args vals → Sim P fl σ h w → Fr fl σ nx →
  Enters P f ∧ CallsIn Fence.wide 0 P f vals.toArray w fun e w' => ∃ x, e = .returned x ∧ Rets P Φ fl σ h nx w c x w'
def CyOk (P : Program) (Φ : Out → Prop) (cy : KF) : Prop := ∀ fl l args h nx c, Φ (cy fl l args h nx c) → ∀ σ w vals p, VRs σ args vals → Sim P fl σ h w → Fr fl σ nx → σ l = some p →
  ∃ rec : Loop, w.heap[p.blk]? = some (.loop rec) ∧ vals.length = rec.params.size ∧
    RoundIn Fence.wide 0 P p.blk rec.fn ((rec.params.zip vals.toArray).foldl (fun tmps (t, a) => tmps.setIfInBounds t a) rec.tmps) rec.assign rec.body w fun e w' => ∃ x, e = .returned x ∧ Rets P Φ fl σ h nx w c x w'

theorem VRs.append' {σ : Sg} {a b : List LV} {xs ys : List Value} (h : VRs σ a xs) (k : VRs σ b ys) : VRs σ (a ++ b) (xs ++ ys) := h.append k

theorem callsIn_wd {r : Option Nat} {n m : Nat} {f : FuncId} {args : Array Value} {w : World} {R : Ending → World → Prop} (h : CallsIn Fence.wide n P f args w R) : CallsIn (wd r) m P f args w R :=
  ⟨trivial, fun cs _ => h.2 cs (room_wd none _)⟩
theorem roundIn_wd {r : Option Nat} {n m l : Nat} {f : FuncId} {tmps : Array Value} {assign body : Code} {w : World} {R : Ending → World → Prop} (h : RoundIn Fence.wide n P l f tmps assign body w R) : RoundIn (wd r) m P l f tmps assign body w R :=
  ⟨trivial, fun c cs _ => h.2 c cs (room_wd none _)⟩

/-- one operation -/
theorem oper_sound (hs : Good Φ) {cf cy : KF} (hcf : CfOk P Φ cf) (hcy : CyOk P Φ cy) {o : Oper} {ev : Operand → LV} {h : LH} {nx : Nat} {c : KV} (H : Φ (opL P fl cf cy ev o.op h nx c))
    {σ : Sg} {a : Act} {w : World} {r : Option Nat} (hev : ∀ x ∈ o.op.operands, VR σ (ev x) (a.eval x)) (sim : Sim P fl σ h w) (fr : Fr fl σ nx) {K : Act → World → Prop} {Q : Exit → Act → World → Prop}
    (hK : ∀ v h' nx' σ' x w', Φ (c v h' nx') → VR σ' v x → Sim P fl σ' h' w' → Fx fl σ nx σ' nx' → Step fl σ h w σ' h' w' → K (a.put o.dst x) w') : o.wpIn (wd r) 0 P a w K Q := by
  refine ⟨fun _ _ => trivial, ?_⟩
  have hnd : ∀ c, o.op ≠ .defer c := fun d e => by rw [e] at H; exact hs _ H
  rw [Oper.semAt_eq _ _ _ hnd]
  by_cases hp : Op.plain o.op = true
  · obtain ⟨v, h', nx', hv, key⟩ := op_sound hs hp H
    obtain ⟨x, w', σ', hr, k1, k2, k3, k4⟩ := key σ w a.eval o rfl hev sim fr
    rcases hr with hr | ⟨hr, rfl⟩
    · rw [hr]; exact hK _ _ _ _ _ _ hv k1 k2 k3 k4
    · rw [hr]; exact hK _ _ _ _ _ _ hv k1 k2 k3 k4
  · cases hop : o.op with
    | call cl =>
      obtain ⟨callee, args, ats⟩ := cl
      rw [hop] at H hev
      cases callee with
      | builtin b => rw [hop] at hp; exact absurd rfl hp
      | invoke x m => exact absurd H (hs _)
      | value f =>
        have hf : VR σ (ev f) (a.eval f) := hev f (by simp [Op.operands, Call.operands])
        have hargs : VRs σ (oneArg ev args.toList) (args.map a.eval).toList := by
          rw [Array.toList_map]
          exact VRs.oneArg fun x hx' => hev x (by simp only [Op.operands, Call.operands]; simp; exact .inr (by simpa using hx'))
        simp only [opL, opB, callOp] at H
        unfold callV at H
        split at H
        · rename_i g xs ys he
          rw [he] at hf
          simp only [VR] at hf
          obtain ⟨us, vs, hfe, h1, h2⟩ := hf
          obtain ⟨hen, hcall⟩ := hcf _ _ _ _ _ _ H σ w _ (h1.append' (hargs.append' h2)) sim fr
          have harr : (us ++ ((args.map a.eval).toList ++ vs)).toArray = us.toArray ++ args.map a.eval ++ vs.toArray := by simp
          rw [harr] at hcall
          simp only [execOp, hop, resolve, hfe, Deferred.ofValue, invoke, Sem.run_bind, Sem.run_pure, Result.andThen_ok, hen.run]
          refine ⟨fun e => by simp [Fence.wide] at e, (callsIn_wd hcall).mono fun e w' he => ?_⟩
          obtain ⟨x, rfl, v, h', nx', σ', q1, q2, q3, q4, q5⟩ := he
          exact hK _ _ _ _ _ _ q1 q2 q3 q4 q5
        · rename_i l he
          rw [he] at hf
          simp only [VR] at hf
          obtain ⟨p, hp', hfe⟩ := hf
          obtain ⟨rec, h1, h2, h3⟩ := hcy _ _ _ _ _ _ H σ w _ p hargs sim fr hp'
          have hy := run_yield (P := P) (args := args.map a.eval) h1 (by simpa using h2)
          simp only [Array.toArray_toList] at h3
          simp only [execOp, hop, resolve, hfe, Deferred.ofValue, invoke, Sem.run_bind, Sem.run_pure, Result.andThen_ok, Array.empty_append]
          simp only [Array.append_empty] at hy ⊢
          rw [hy]
          refine ⟨fun e => by simp [Fence.wide] at e, (roundIn_wd h3).mono fun e w' he => ?_⟩
          obtain ⟨x, rfl, v, h', nx', σ', q1, q2, q3, q4, q5⟩ := he
          exact hK _ _ _ _ _ _ q1 q2 q3 q4 q5
        · exact absurd H (hs _)
    | _ => rw [hop] at hp; exact absurd rfl hp
end Go.Proofs.Ytigilihpofafoaa.Loc
