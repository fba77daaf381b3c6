/- The small machine of local values: checks of many boxes; an answer by name: a number and a truth that stand for what a function answers. -/
import Derived.Test.YtigilihpofafoaaLocL2
namespace Go.Proofs.Ytigilihpofafoaa.Loc
open Go Go.RowKit
set_option linter.unusedVariables false
set_option linter.unusedSectionVars false

/-! ### A check of many boxes -/
noncomputable def allL (chk : ∀ (l : List (Int × Int)) (rho : Nat → Int), OkR l rho → Bool) : (ls : List (List (Int × Int))) → (rho : Nat → Nat → Int) → (∀ j l, ls[j]? = some l → OkR l (rho j)) → Bool
  | [], _, _ => true
  | l :: ls, rho, ok => cond (chk l (rho 0) (ok 0 l rfl)) (allL chk ls (fun j => rho (j + 1)) fun j l h => ok (j + 1) l h) false
theorem allL_ok {chk : ∀ (l : List (Int × Int)) (rho : Nat → Int), OkR l rho → Bool} : ∀ {ls : List (List (Int × Int))}, ls.all wfB = true → (∀ rho ok, allL chk ls rho ok = true) → ∀ l ∈ ls, ∀ rho ok, chk l rho ok = true
  | [], _, _, l, h => by cases h
  | l :: ls, hw, H, l', hl' => by
    have hw' := hw
    rw [List.all_eq_true] at hw
    have h1 := wfB_ok (hw l (by simp))
    have key : ∀ (r : Nat → Int) (okr : OkR l r) (rho : Nat → Nat → Int) (ok : ∀ j l, ls[j]? = some l → OkR l (rho j)), chk l r okr = true ∧ allL chk ls rho ok = true := fun r okr rho ok => by
      have := H (consR r rho) (fun j => match j with
        | 0 => fun l' h => by simp at h; subst h; exact okr
        | j + 1 => fun l' h => ok j l' (by simpa using h))
      exact condF this
    have lo : ∀ j l, ls[j]? = some l → OkR l (loR ((ls[j]?).getD [])) := fun j l hj => by
      rw [hj]
      exact wfB_ok (hw l (List.mem_cons_of_mem _ (List.mem_of_getElem? hj)))
    rcases List.mem_cons.1 hl' with rfl | hl'
    · exact fun rho ok => (key rho ok _ lo).1
    · exact allL_ok (by rw [List.all_eq_true]; exact fun b hb => hw b (by simp [hb])) (fun rho ok => (key _ h1 rho ok).2) l' hl'

/-! ### What speaks of the first variables alone -/
noncomputable def SE.low (n : Nat) : SE → Bool
  | .c _ => true
  | .v i => Nat.blt i n
  | .bin _ _ a b => cond (a.low n) (b.low n) false
  | .wr _ a => a.low n
  | .sel _ _ _ _ => false
noncomputable def SB.low (n : Nat) : SB → Bool
  | .lit _ => true
  | .eq a b => cond (a.low n) (b.low n) false
  | .lt a b => cond (a.low n) (b.low n) false
  | .not a => a.low n
  | .and a b => cond (a.low n) (b.low n) false
  | .iff a b => cond (a.low n) (b.low n) false
mutual
noncomputable def LV.low (n : Nat) : LV → Bool
  | .sym _ e => e.low n
  | .sbl b => b.low n
  | .agg cs => LV.lows n cs
  | .tup cs => LV.lows n cs
  | .int _ _ => true
  | .bool _ => true
  | .str _ => true
  | .nilp => true
  | .nils => true
  | .nilm => true
  | .nilf => true
  | .nili => true
  | _ => false
noncomputable def LV.lows (n : Nat) : List LV → Bool
  | [] => true
  | c :: cs => cond (c.low n) (LV.lows n cs) false
end
section
variable {E E' : En} {n : Nat}
theorem SE.low_ev (h : ∀ i, i < n → E.rho i = E'.rho i) : ∀ {e : SE}, e.low n = true → @SE.ev E e = @SE.ev E' e
  | .c _, _ => rfl
  | .v i, hl => h i (Nat.blt_eq.mp hl)
  | .bin _ _ a b, hl => by
    obtain ⟨h1, h2⟩ := condF hl
    simp only [SE.ev]
    rw [SE.low_ev h h1, SE.low_ev h h2]
  | .wr _ a, hl => by
    simp only [SE.ev]
    rw [SE.low_ev h (e := a) hl]
  | .sel _ _ _ _, hl => by cases hl
theorem SB.low_ev (h : ∀ i, i < n → E.rho i = E'.rho i) : ∀ {e : SB}, e.low n = true → @SB.ev E e = @SB.ev E' e
  | .lit _, _ => rfl
  | .eq a b, hl => by
    obtain ⟨h1, h2⟩ := condF hl
    simp only [SB.ev]
    rw [SE.low_ev h h1, SE.low_ev h h2]
  | .lt a b, hl => by
    obtain ⟨h1, h2⟩ := condF hl
    simp only [SB.ev]
    rw [SE.low_ev h h1, SE.low_ev h h2]
  | .not a, hl => by
    simp only [SB.ev]
    rw [SB.low_ev h (e := a) hl]
  | .and a b, hl => by
    obtain ⟨h1, h2⟩ := condF hl
    simp only [SB.ev]
    rw [SB.low_ev h h1, SB.low_ev h h2]
  | .iff a b, hl => by
    obtain ⟨h1, h2⟩ := condF hl
    simp only [SB.ev]
    rw [SB.low_ev h h1, SB.low_ev h h2]
mutual
theorem VR.low {σ : Sg} (h : ∀ i, i < n → E.rho i = E'.rho i) : ∀ (v : LV) (x : Value), v.low n = true → @VR E σ v x → @VR E' σ v x
  | .sym k e, x, hl, hv => by
    simp only [VR] at hv ⊢
    rw [hv, SE.low_ev h hl]
  | .sbl b, x, hl, hv => by
    simp only [VR] at hv ⊢
    rw [hv, SB.low_ev h hl]
  | .agg cs, x, hl, hv => by
    simp only [VR] at hv ⊢
    obtain ⟨xs, e, r⟩ := hv
    exact ⟨xs, e, VRs.low h cs xs hl r⟩
  | .tup cs, x, hl, hv => by
    simp only [VR] at hv ⊢
    obtain ⟨xs, e, r⟩ := hv
    exact ⟨xs, e, VRs.low h cs xs hl r⟩
  | .int _ _, x, _, hv => hv
  | .bool _, x, _, hv => hv
  | .str _, x, _, hv => hv
  | .nilp, x, _, hv => hv
  | .nils, x, _, hv => hv
  | .nilm, x, _, hv => hv
  | .nilf, x, _, hv => hv
  | .nili, x, _, hv => hv
  | .undef, x, hl, _ => by simp [LV.low] at hl
  | .ptr _ _ _ _, x, hl, _ => by simp [LV.low] at hl
  | .sq _ _ _, x, hl, _ => by simp [LV.low] at hl
  | .sv _ _ _ _ _, x, hl, _ => by simp [LV.low] at hl
  | .os _ _, x, hl, _ => by simp [LV.low] at hl
  | .pel _ _ _, x, hl, _ => by simp [LV.low] at hl
  | .map _, x, hl, _ => by simp [LV.low] at hl
  | .fn _ _ _, x, hl, _ => by simp [LV.low] at hl
  | .yld _, x, hl, _ => by simp [LV.low] at hl
  | .iface _ _, x, hl, _ => by simp [LV.low] at hl
theorem VRs.low {σ : Sg} (h : ∀ i, i < n → E.rho i = E'.rho i) : ∀ (vs : List LV) (xs : List Value), LV.lows n vs = true → @VRs E σ vs xs → @VRs E' σ vs xs
  | [], xs, _, hv => hv
  | c :: cs, xs, hl, ⟨b, bs, e, h1, h2⟩ => by
    obtain ⟨l1, l2⟩ := condF hl
    exact ⟨b, bs, e, VR.low h c b l1 h1, VRs.low h cs bs l2 h2⟩
end
end

/-! ### A number and a truth that are answered -/
noncomputable def numS : LV → Option SE
  | .int .i64 n => some (.c n)
  | .sym .i64 e => some e
  | _ => none
noncomputable def bolS : LV → Option SB
  | .bool b => some (.lit b)
  | .sbl b => some b
  | _ => none
noncomputable def keepP : KV := fun v _ _ =>
  match v with
  | .tup [a, b] => (match numS a, bolS b with
    | some e, some s => .fin .normal ⟨.node (some (.tup [.sym .i64 e, .sbl s])) .nil .nil, 0, .nil, 0, [], 0⟩
    | _, _ => .stuck "no number and truth")
  | _ => .stuck "no pair"
noncomputable def kept (st : St) : LV :=
  match st.t with
  | .node (some v) _ _ => v
  | _ => .undef
noncomputable def bindO (k : St → Out) : Out → Out
  | .br b x y => .br b (bindO k x) (bindO k y)
  | .fin _ st => k st
  | .stuck s => .stuck s
  | .cfg _ _ => .stuck "stop"
noncomputable def cmpP [En] (u v : LV) : Out :=
  match v with
  | .tup [.sym .i64 e, .sbl s] => (match resEq u (.tup [.sym .i64 e, .sbl s]) with
    | some b => brS b okO (.stuck "another answer")
    | none => .stuck "no such answer")
  | _ => .stuck "no pair"
noncomputable def abOf [En] (v : LV) : Int × Bool :=
  match v with
  | .tup [.sym .i64 e, .sbl s] => (e.ev, s.ev)
  | _ => (0, false)
/-- the function 'f' answers these -/
def CallIs (P : Program) (f : FuncId) (vals : List Value) (a : Int) (b : Bool) : Prop := ∀ w, Enters P f ∧ CallsIn Fence.wide 0 P f vals.toArray w fun e w' => ∃ x, e = .returned x ∧ Quiet w w' ∧ x = .tuple #[.int .i64 a, .bool b]
section
variable [En] {P : Program}
theorem bindO_fin {k : St → Out} : ∀ {o : Out}, Fin (bindO k o) → ∃ e st, reach o = .fin e st ∧ Fin (k st)
  | .br b x y, h => by
    have h' := Fin.good.br _ _ _ h
    cases hb : b.ev with
    | true =>
      rw [hb] at h'
      obtain ⟨e, st, h1, h2⟩ := bindO_fin (o := x) h'
      exact ⟨e, st, by simp only [reach, hb, cond_true]; exact h1, h2⟩
    | false =>
      rw [hb] at h'
      obtain ⟨e, st, h1, h2⟩ := bindO_fin (o := y) h'
      exact ⟨e, st, by simp only [reach, hb, cond_false]; exact h1, h2⟩
  | .fin e st, h => ⟨e, st, rfl, h⟩
  | .stuck s, h => absurd h (Fin.good.s _)
  | .cfg _ _, h => absurd h (Fin.good.s _)
theorem At.good {e : LE} {st : St} : Good (fun o => reach o = .fin e st) :=
  ⟨fun s h => by simp [reach] at h, fun b x y h => by
    simp only [reach] at h
    cases hb : b.ev <;> rw [hb] at h <;> exact h⟩
theorem numS_vr {a : LV} {e : SE} (h : numS a = some e) {σ : Sg} {x : Value} (hv : VR σ a x) : x = .int .i64 e.ev := by
  unfold numS at h
  split at h
  · cases h; exact hv
  · cases h; exact hv
  · cases h
theorem bolS_vr {a : LV} {e : SB} (h : bolS a = some e) {σ : Sg} {x : Value} (hv : VR σ a x) : x = .bool e.ev := by
  unfold bolS at h
  split at h
  · cases h; exact hv
  · cases h; exact hv
  · cases h
theorem keepP_at {v : LV} {h : LH} {nx : Nat} {e : LE} {st : St} (H : reach (keepP v h nx) = .fin e st) : ∃ se sb, kept st = .tup [.sym .i64 se, .sbl sb] ∧ ∀ σ x, VR σ v x → x = .tuple #[.int .i64 se.ev, .bool sb.ev] := by
  unfold keepP at H
  split at H
  · rename_i a b
    split at H
    · rename_i se sb h1 h2
      simp only [reach, Out.fin.injEq] at H
      obtain ⟨_, rfl⟩ := H
      refine ⟨se, sb, rfl, fun σ x hv => ?_⟩
      simp only [VR] at hv
      obtain ⟨xs, rfl, y, ys, rfl, k1, z, zs, rfl, k2, k3⟩ := hv
      simp only [VRs] at k3
      subst k3
      rw [numS_vr h1 k1, bolS_vr h2 k2]
    · simp [reach] at H
  · simp [reach] at H
theorem cmpP_fin {u v : LV} (H : Fin (cmpP u v)) {σ : Sg} {x : Value} (hv : VR σ u x) : x = .tuple #[.int .i64 (abOf v).1, .bool (abOf v).2] := by
  unfold cmpP at H
  split at H
  · rename_i e s
    split at H
    · rename_i b hb
      rcases of_br Fin.good H with ⟨hb', _⟩ | ⟨_, H⟩
      · have := (resEq_t u _ b hb hb' σ σ x hv).1
        simp only [VR] at this
        obtain ⟨xs, rfl, y, ys, rfl, k1, z, zs, rfl, k2, k3⟩ := this
        simp only [VR] at k1 k2
        simp only [VRs] at k3
        subst k1; subst k2; subst k3
        rfl
      · exact absurd H (Fin.good.s _)
    · exact absurd H (Fin.good.s _)
  · exact absurd H (Fin.good.s _)
/-- both functions answer the same number and the same truth -/
theorem named {G : Know} {n : Nat} (hmo : P.follows .mixedOrders = true) (hgo : NoGo P) (hG : ConOk P Fin G) (hG' : ∀ e st, ConOk P (fun o => reach o = .fin e st) G) {f g : FuncId} {args : List LV} (hf : LV.frees args = true)
    (H1 : Fin (callL P G (runF P G n) 0 f args .nil 0 keepP)) (H2 : Fin (callL P G (runF P G n) 0 g args .nil 0 fun u _ _ => bindO (fun st => cmpP u (kept st)) (callL P G (runF P G n) 0 f args .nil 0 keepP))) :
    ∃ a b, ∀ σ vals, VRs σ args vals → CallIs P f vals a b ∧ CallIs P g vals a b := by
  obtain ⟨e, st, h1⟩ := H1
  have sim0 : ∀ w, Sim P 0 (fun _ => none) .nil w := fun w id o hg => by rw [RM.get_nil] at hg; cases hg
  have quiet : ∀ {w w' : World} {σ' : Sg} {h' : LH}, Step 0 (fun _ => none) .nil w σ' h' w' → Quiet w w' := fun q => ⟨q.os, q.tape, q.output, q.size, fun b hb => q.frame b hb fun id o p hg => by rw [RM.get_nil] at hg; cases hg⟩
  refine ⟨(abOf (kept st)).1, (abOf (kept st)).2, fun σ vals hv => ?_⟩
  have hv0 : VRs (fun _ => none) args vals := VRs.free _ _ hf hv
  refine ⟨fun w => ?_, fun w => ?_⟩
  · obtain ⟨k1, k2⟩ := callL_sound (At.good (e := e) (st := st)) hgo (hG' e st) (runF_sound At.good hmo hgo (hG' e st) n) 0 f args .nil 0 keepP h1 (fun _ => none) w vals hv0 (sim0 w) ⟨Nat.le_refl _, fun _ _ => rfl⟩
    refine ⟨k1, k2.mono fun e' w' he => ?_⟩
    obtain ⟨x, rfl, v, h', nx', σ', q1, q2, q3, q4, q5⟩ := he
    obtain ⟨se, sb, s1, s2⟩ := keepP_at q1
    refine ⟨x, rfl, quiet q5, ?_⟩
    rw [s1]
    exact s2 σ' x q2
  · obtain ⟨k1, k2⟩ := callL_sound Fin.good hgo hG (runF_sound Fin.good hmo hgo hG n) 0 g args .nil 0 _ H2 (fun _ => none) w vals hv0 (sim0 w) ⟨Nat.le_refl _, fun _ _ => rfl⟩
    refine ⟨k1, k2.mono fun e' w' he => ?_⟩
    obtain ⟨x, rfl, v, h', nx', σ', q1, q2, q3, q4, q5⟩ := he
    obtain ⟨e2, st2, r1, r2⟩ := bindO_fin q1
    rw [h1] at r1
    simp only [Out.fin.injEq] at r1
    obtain ⟨_, rfl⟩ := r1
    exact ⟨x, rfl, quiet q5, cmpP_fin r2 q2⟩
/-- an answer's name: variables 'i' and 'i + 1' -/
noncomputable def nameV (i : Nat) : LV := .tup [.sym .i64 (.v i), .sbl (.eq (.v (i + 1)) (.c 1))]
def b01 (b : Bool) : Int := if b then 1 else 0
theorem CallIs.mem {f : FuncId} {args : List LV} {a : Int} {b : Bool} {i : Nat} (h : ∀ σ vals, VRs σ args vals → CallIs P f vals a b) (ha : En.rho i = a) (hb : En.rho (i + 1) = b01 b) : MemOk P ⟨f, args, .val (nameV i)⟩ := fun σ w vals hv => by
  obtain ⟨k1, k2⟩ := h σ vals hv w
  refine ⟨k1, k2.mono fun e w' he => ?_⟩
  obtain ⟨x, rfl, q, rfl⟩ := he
  refine ⟨_, rfl, q, rfl, fun _ => none, ?_⟩
  refine ⟨[.int .i64 a, .bool b], rfl, .int .i64 a, [.bool b], rfl, ?_, .bool b, [], rfl, ?_, rfl⟩
  · show Value.int .i64 a = .int .i64 (En.rho i)
    rw [ha]
  · show Value.bool b = .bool (En.rho (i + 1) == 1)
    rw [hb]
    cases b <;> rfl
end
/-- the frame of a plain law, the variables standing for what is given -/
theorem plain_lawR {P : Program} (hmo : P.follows .mixedOrders = true) (hgo : NoGo P) {G : Know} {f n : Nat} {ss : List Sh} {l : List (Int × Int)} {rho : Nat → Int} {ok : OkR l rho}
    (H : @bad (enOf l rho ok) (callL P G (@runF (enOf l rho ok) P G n) 0 f (symAs ss 0 0 l) (symH ss 0 0 l) (nls ss) okK) ⟨[], [], false⟩ = [])
    {w : World} {Ls : Nat → Nat → Nat → Int} {vs : List Value} {ns : List Int} (hv : ShsOk P w Ls ss 0 vs ns) (hin : InD l ns) (hr : ∀ j m, ns[j]? = some m → rho j = m)
    (hsel : ∀ j f i, j < 16 → f < 64 → rho (selI j f i) = Ls j f i.toNat) (hG : @ConOk (enOf l rho ok) P (@Fin (enOf l rho ok)) G) (hls : Nat.ble (nls ss) 16 = true) :
    Calls P f vs.toArray w fun e w' => e = .returned (.bool true) ∧ Below w.heap.size w w' := by
  letI : En := enOf l rho ok
  have hls := Nat.le_of_ble_eq_true hls
  have st : Strt P w (sgOf ss vs 0) (symH ss 0 0 l) 0 (nls ss) (symAs ss 0 0 l) vs :=
    symAs_sound (Ls := Ls) (ms := []) hsel hv (by rw [List.append_nil]; exact hin) (fun j m hj => by
      rw [List.append_nil] at hj
      rw [Nat.zero_add]; exact hr j m hj) (by omega)
  exact law_of hmo hgo hG (pt := ⟨[], [], false⟩) ⟨(by intro p hp; cases hp), (by intro p hp; cases hp), rfl⟩ H st.vr w st.sim' st.fr' st.lone
end Go.Proofs.Ytigilihpofafoaa.Loc
