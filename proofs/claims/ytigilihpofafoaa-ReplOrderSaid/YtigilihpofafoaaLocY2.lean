/- The small machine of local values: a law with a loop, part 2: the rounds. -/
import Derived.Test.YtigilihpofafoaaLocY
namespace Go.Proofs.Ytigilihpofafoaa.Loc
open Go Go.RowKit
set_option linter.unusedVariables false
set_option linter.unusedSimpArgs false
set_option linter.unusedSectionVars false

section
variable [En]
noncomputable def stops : Out → Pth → List (Pth × (List Itm × St))
  | .br b x y, pt => match decP pt b with
    | some true => stops x pt
    | some false => stops y pt
    | none => cond (addP b true pt).dead (cond (addP b false pt).dead [] (stops y (addP b false pt))) (cond (addP b false pt).dead (stops x (addP b true pt)) (stops x (addP b true pt) ++ stops y (addP b false pt)))
  | .stuck _, _ => []
  | .cfg k st, pt => [(pt, k, st)]
  | .fin _ _, _ => []
def Ends (R : Pth → List Itm → St → Prop) (o : Out) : Prop := (∃ e st, reach o = .fin e st) ∨ ∃ pt k st, reach o = .cfg k st ∧ PtOk pt ∧ R pt k st
theorem Ends.good (R : Pth → List Itm → St → Prop) : Good (Ends R) :=
  ⟨fun s h => by
    rcases h with ⟨_, _, h⟩ | ⟨_, _, _, h, _⟩ <;> simp [reach] at h, fun b x y h => by
    have e : reach (.br b x y) = reach (cond b.ev x y) := by
      simp only [reach]; cases b.ev <;> rfl
    unfold Ends at h ⊢
    rw [e] at h; exact h⟩
theorem stops_sound {R : Pth → List Itm → St → Prop} : ∀ {o : Out} {pt : Pth}, PtOk pt → (∀ p ∈ badC o pt, ¬ FactsOk p.2) → (∀ p ∈ stops o pt, R p.1 p.2.1 p.2.2) → Ends R o
  | .br b x y, pt, h, hb, hst => by
    have hx := fun {pt'} => stops_sound (R := R) (o := x) (pt := pt')
    have hy := fun {pt'} => stops_sound (R := R) (o := y) (pt := pt')
    have go : ∀ v, b.ev = v → Ends R (cond v x y) → Ends R (.br b x y) := fun v hv h => by
      have e : reach (.br b x y) = reach (cond v x y) := by
        simp only [reach, hv]; cases v <;> rfl
      unfold Ends at h ⊢
      rw [e]; exact h
    unfold badC at hb
    unfold stops at hst
    cases hd : decP pt b with
    | some v =>
      have hv := decP_sound h hd
      rw [hd] at hb hst
      cases v with
      | true => exact go true hv (hx h hb hst)
      | false => exact go false hv (hy h hb hst)
    | none =>
      rw [hd] at hb hst
      simp only at hb hst
      cases hv : b.ev with
      | true =>
        have h' := addP_sound h hv
        rw [h'.live] at hb hst
        simp only [cond_false] at hb hst
        refine go true hv (hx h' (fun p hp => ?_) fun p hp => ?_)
        · cases hdd : (addP b false pt).dead with
          | true => rw [hdd] at hb; exact hb p hp
          | false => rw [hdd] at hb; exact hb p (by simp [hp])
        · cases hdd : (addP b false pt).dead with
          | true => rw [hdd] at hst; exact hst p hp
          | false => rw [hdd] at hst; exact hst p (by simp [hp])
      | false =>
        have h' := addP_sound h hv
        cases hdd : (addP b true pt).dead with
        | true =>
          rw [hdd, h'.live] at hb hst
          exact go false hv (hy h' hb hst)
        | false =>
          rw [hdd, h'.live] at hb hst
          simp only [cond_false] at hb hst
          exact go false hv (hy h' (fun p hp => hb p (by simp [hp])) fun p hp => hst p (by simp [hp]))
  | .stuck s, pt, h, hb, _ => absurd h.facts (hb (s, pt.facts) (by simp [badC]))
  | .cfg k st, pt, h, _, hst => .inr ⟨pt, k, st, rfl, h, hst (pt, k, st) (by simp [stops])⟩
  | .fin e st, pt, h, _, _ => .inl ⟨e, st, rfl⟩
theorem okK_good {Φ : Out → Prop} (hs : Good Φ) {v : LV} {h : LH} {nx : Nat} (H : Φ (okK v h nx)) {σ : Sg} {x : Value} (hv : VR σ v x) : x = .bool true := by
  unfold okK at H
  split at H
  · rename_i b
    obtain ⟨hb, _⟩ := of_lif hs H
    subst hb; exact hv
  · rename_i b
    rcases of_br hs H with ⟨hb, _⟩ | ⟨_, H⟩
    · simp only [VR] at hv; rw [hv, hb]
    · exact absurd H (hs _)
  · exact absurd H (hs _)

/-- all objects of one's own lie behind block B -/
def Hi (B : Nat) (σ : Sg) (h : LH) : Prop := ∀ id o p, h.get id = some o → o.rw = true → σ id = some p → B ≤ p.blk
theorem below_of {B : Nat} {σ σ' : Sg} {h h' : LH} {w w' : World} (hh : Hi B σ h) (t : Step 0 σ h w σ' h' w') (hB : B ≤ w.heap.size) : Below B w w' :=
  ⟨t.os, t.tape, t.output, t.size, fun b hb => t.frame b (by omega) fun id o p hg how hp he => by
    have := hh id o p hg how.2 hp
    omega⟩
theorem hi_of {P : Program} {B : Nat} {σ σ' : Sg} {h h' : LH} {w w' : World} (hh : Hi B σ h) (s : Sim P 0 σ h w) (t : Step 0 σ h w σ' h' w') (hB : B ≤ w.heap.size) : Hi B σ' h' := fun id o p hg hrw hp => by
  rcases t.own id o p hg ⟨Nat.zero_le _, hrw⟩ hp with hge | ⟨i0, o0, p0, g1, g2, g3, g4⟩
  · omega
  · rw [← g4]; exact hh i0 o0 p0 g1 g2.2 g3
end

theorem SR.live {E : En} {P : Program} {σ : Sg} {st : St} {a : Act} {w : World} (s : @SR E P σ st a w) {id : Nat} {o : LObj} (h : st.h.get id = some o) : id < st.nx := by
  obtain ⟨p, ob, e1, _⟩ := s.sim id o h
  rcases Nat.lt_or_ge id st.nx with h | h
  · exact h
  · rw [s.fr.2 id h] at e1; cases e1

/-- what is left to do at a stop, the stop's own block entered -/
def inside : List Itm → List Itm
  | .code (.block id b) :: k => .code b :: .blk id :: k
  | k => k
noncomputable def finK (P : Program) (fn : Func) : LE → St → Out := fun e st => match e with
    | .normal => endL P fn st okK
    | .ret => endL P fn st okK
    | .exit _ => .stuck "exit"
noncomputable def roundO (E : En) (P : Program) (G : Know) (n : Nat) (ss : List Nat) (fn : Func) (T : Tm) (k : List Itm) : Out := @runF E P G n none ss (inside k) T.st (finK P fn)
noncomputable def startO (E : En) (P : Program) (G : Know) (n : Nat) (ss : List Nat) (fn : Func) (b : Code) (args : List LV) (h : LH) (nx : Nat) : Out :=
  @runF E P G n none ss [.code b] { t := RM.ofArgs args 0 .nil, nt := fn.ntmps, h := h, nx := nx, ds := [], fl := 0 } (finK P fn)
/-- variable 'j' is one higher: it counts -/
noncomputable def nextB (dom : List (Int × Int)) (j : Nat) (e : SE) : Bool :=
  match e with
  | .bin .add k (.v i) (.c x) => cond (cond (Nat.beq i j) (iBeq x 1) false) (match domGet dom j with
    | some r => cond (iLe (kLo k) r.1) (iLt r.2 (kHi k)) false
    | none => false) false
  | _ => false
noncomputable def again (T : Tm) (t : St) : Bool :=
  match T.ctr with
  | some j => (match (subOf t T.src 0)[j]? with
    | some e => nextB T.dom j e
    | none => false)
  | none => false
def Fits (E : En) (T : Tm) (p : Pth × (List Itm × St)) : Prop := @fits E T p.1 p.2.2 = true ∧ p.2.2.nt = T.nt ∧ p.2.2.fl = 0
/-- one round is well: from the template to itself one higher, to a later one, or to the end -/
structure RoundOk (P : Program) (G : Know) (n : Nat) (ss : List Nat) (fn : Func) (T : Tm) (later : List Tm) (k : List Itm) (E : En) : Prop where
  bad : ∀ p ∈ @badC E (roundO E P G n ss fn T k) (@ptOf E T.fa), ¬ @FactsOk E p.2
  stop : ∀ p ∈ @stops E (roundO E P G n ss fn T k) (@ptOf E T.fa), p.2.1 = k ∧ ((Fits E T p ∧ again T p.2.2 = true) ∨ ∃ T' ∈ later, Fits E T' p)
structure StartOk (P : Program) (G : Know) (n : Nat) (ss : List Nat) (fn : Func) (b : Code) (args : List LV) (h : LH) (nx : Nat) (Ts : List Tm) (k : List Itm) (E : En) : Prop where
  bad : ∀ p ∈ @badC E (startO E P G n ss fn b args h nx) ⟨[], [], false⟩, ¬ @FactsOk E p.2
  stop : ∀ p ∈ @stops E (startO E P G n ss fn b args h nx) ⟨[], [], false⟩, p.2.1 = k ∧ ∃ T ∈ Ts, Fits E T p
/-- all rounds are well -/
def Rounds (P : Program) (G : Know) (n : Nat) (ss : List Nat) (fn : Func) (k : List Itm) : List Tm → Prop
  | [] => True
  | T :: later => (∀ rho ok, RoundOk P G n ss fn T later k (enOf T.dom rho ok)) ∧ Rounds P G n ss fn k later

theorem swp_inside {r : Option Nat} {P : Program} {Q : Exit → Act → World → Prop} {k : List Itm} {a : Act} {w : World} (h : swp r P Q (inside k) .normal a w) : swp r P Q k .normal a w := by
  unfold inside at h
  split at h
  · exact wpIn_block h
  · exact h

section
variable {P : Program} {G : Know} {fn : Func} {n : Nat} {ss : List Nat} {k : List Itm}
def lawPost (B : Nat) (w0 : World) : Ending → World → Prop := fun e w' => e = .returned (.bool true) ∧ Below B w0 w'
/-- what is shown of a template -/
def Claim (P : Program) (fn : Func) (k : List Itm) (B : Nat) (w0 : World) (T : Tm) : Prop := ∀ (rho : Nat → Int) (ok : ∀ i p, T.dom[i]? = some p → p.1 ≤ rho i ∧ rho i ≤ p.2), @FaOk (enOf T.dom rho ok) T.fa →
  ∀ (σ : Sg) (a : Act) (w : World), @SR (enOf T.dom rho ok) P σ T.st a w → Hi B σ T.st.h → Below B w0 w → swp none P (bodyPostM Fence.wide 0 P fn (lawPost B w0)) k .normal a w
noncomputable def left (T : Tm) (rho : Nat → Int) : Nat :=
  match T.ctr with
  | some j => (match domGet T.dom j with
    | some r => (r.2 - rho j).toNat
    | none => 0)
  | none => 0
theorem hi_cut {T : Tm} {E E' : En} {B : Nat} {σ' : Sg} {st' : St} {a' : Act} {w' : World} {pt : Pth} (hH : Hi B σ' st'.h) (hf : @fits E T pt st' = true) (s2 : @SR E' P (cut T.nx σ') T.st a' w') : Hi B (cut T.nx σ') T.st.h := fun id o p hg hrw hp => by
  have : cut T.nx σ' id = σ' id := by
    have hb : Nat.blt id T.nx = true := Nat.blt_eq.mpr (SR.live s2 hg)
    simp only [cut, hb, cond_true]
  rw [this] at hp
  have hm := @ofL_mem E _ _ _ _ hg
  rcases List.mem_append.1 hm with hm | hm
  rotate_left
  · obtain ⟨q, hq, he⟩ := List.mem_map.1 hm
    simp only [Prod.mk.injEq] at he
    obtain ⟨_, rfl⟩ := he
    cases hrw
  obtain ⟨q, hq, he⟩ := List.mem_map.1 hm
  simp only [Prod.mk.injEq] at he
  obtain ⟨rfl, rfl⟩ := he
  unfold fits at hf
  obtain ⟨_, hf⟩ := condF hf
  obtain ⟨_, hf⟩ := condF hf
  obtain ⟨_, hf⟩ := condF hf
  obtain ⟨_, hf⟩ := condF hf
  obtain ⟨hf, _⟩ := condF hf
  obtain ⟨ds, e, g1, _⟩ := @obsOk_mem E _ _ _ _ hf q.1 q.2 hq
  exact hH q.1 _ p g1 rfl hp

theorem again_left {T : Tm} {t : St} (E : En) (hE : E.dom = T.dom) (h : again T t = true) (ok' : ∀ i p, T.dom[i]? = some p → p.1 ≤ @rhoOf E (subOf t T.src 0) i ∧ @rhoOf E (subOf t T.src 0) i ≤ p.2) :
    left T (@rhoOf E (subOf t T.src 0)) < left T E.rho := by
  unfold again at h
  unfold left
  cases hc : T.ctr with
  | none => rw [hc] at h; cases h
  | some j =>
    rw [hc] at h
    simp only at h ⊢
    cases hs : (subOf t T.src 0)[j]? with
    | none => rw [hs] at h; cases h
    | some e =>
      rw [hs] at h
      simp only at h
      unfold nextB at h
      split at h
      · rename_i k i x
        obtain ⟨h1, h2⟩ := condF h
        obtain ⟨h1, h3⟩ := condF h1
        rw [nbeq_t] at h1
        subst h1
        have h3 := @iBeq_t E _ _ h3
        subst h3
        cases hd : domGet T.dom i with
        | none => rw [hd] at h2; cases h2
        | some r =>
          rw [hd] at h2
          simp only at h2 ⊢
          obtain ⟨h4, h5⟩ := condF h2
          have h4 := @iLe_t E _ _ h4
          have h5 := @iLt_t E _ _ h5
          have hd' : T.dom[i]? = some r := by rw [← @domGet_eq E]; exact hd
          have b1 := E.ok i r (by rw [hE]; exact hd')
          have b2 := ok' i r hd'
          have e1 : @rhoOf E (subOf t T.src 0) i = E.rho i + 1 := by
            unfold rhoOf
            rw [hs]
            show k.wrap (E.rho i + 1) = E.rho i + 1
            exact @wrap_id E _ _ (by omega) (by omega)
          rw [e1] at b2 ⊢
          omega
      · cases h

theorem loop_rounds (hmo : P.follows .mixedOrders = true) (hgo : NoGo P) (hG : ∀ E R, @ConOk E P (@Ends E R) G) {T : Tm} {later : List Tm} {B : Nat} {w0 : World} (hB0 : B ≤ w0.heap.size)
    (hr : ∀ rho ok, RoundOk P G n ss fn T later k (enOf T.dom rho ok)) (hl : ∀ T' ∈ later, Claim P fn k B w0 T') : Claim P fn k B w0 T := by
  have key : ∀ (m : Nat) (rho : Nat → Int) (ok : ∀ i p, T.dom[i]? = some p → p.1 ≤ rho i ∧ rho i ≤ p.2), left T rho = m → @FaOk (enOf T.dom rho ok) T.fa →
      ∀ (σ : Sg) (a : Act) (w : World), @SR (enOf T.dom rho ok) P σ T.st a w → Hi B σ T.st.h → Below B w0 w → swp none P (bodyPostM Fence.wide 0 P fn (lawPost B w0)) k .normal a w := by
    intro m
    induction m using Nat.strongRecOn with
    | _ m ih =>
      intro rho ok hm hfa σ a w s hH hB
      letI : En := enOf T.dom rho ok
      have hBw : B ≤ w.heap.size := Nat.le_trans hB0 hB.size
      have R := hr rho ok
      refine swp_inside ?_
      have hΦ := stops_sound (R := fun pt k' st => k' = k ∧ ((Fits (enOf T.dom rho ok) T (pt, k', st) ∧ again T st = true) ∨ ∃ T' ∈ later, Fits (enOf T.dom rho ok) T' (pt, k', st))) (pt := ptOf T.fa) (ptOf_sound hfa) R.bad R.stop
      have good := Ends.good (fun pt k' st => k' = k ∧ ((Fits (enOf T.dom rho ok) T (pt, k', st) ∧ again T st = true) ∨ ∃ T' ∈ later, Fits (enOf T.dom rho ok) T' (pt, k', st)))
      refine runF_sound good hmo hgo (hG _ _) n none ss (inside k) T.st _ hΦ σ a w none rfl s _ (fun e st' σ' a' w' he s' af => ?_) (fun k' st' σ' a' w' _ hc s' af => ?_)
      · have key : Ends (fun pt k' st => k' = k ∧ ((Fits (enOf T.dom rho ok) T (pt, k', st) ∧ again T st = true) ∨ ∃ T' ∈ later, Fits (enOf T.dom rho ok) T' (pt, k', st))) (endL P fn st' okK) → LeavesInM Fence.wide 0 P fn a'.tmps (lawPost B w0) a'.defers .returning w' := fun he => by
          refine endL_sound good he s' fun v h' x w'' h1 h2 h3 h4 => ⟨by rw [okK_good good h1 h2], ?_⟩
          have hfl : st'.fl = 0 := af.fl
          rw [hfl] at h4
          exact hB.trans (below_of hH (af.step.trans h4) hBw)
        cases e with
        | normal => exact key he
        | ret => exact key he
        | exit id => exact absurd he (good.s _)
      · rcases hc with ⟨e, st, hc⟩ | ⟨pt, k2, st2, hc, hp, rfl, hs⟩
        · simp [reach] at hc
        · simp only [reach, Out.cfg.injEq] at hc
          obtain ⟨rfl, rfl⟩ := hc
          have hH' := hi_of (P := P) hH s.sim af.step hBw
          have hB' := hB.trans (below_of hH af.step hBw)
          rcases hs with ⟨⟨hf, hnt, hfl⟩, hag⟩ | ⟨T', hT', hf, hnt, hfl⟩
          · obtain ⟨ok', s2, hnx, hfa'⟩ := fits_sound hp hf s' hfl hnt
            have hlt := again_left (enOf T.dom rho ok) rfl hag ok'
            exact ih _ (by rw [← hm]; exact hlt) _ ok' rfl hfa' _ _ _ s2 (hi_cut hH' hf s2) hB'
          · obtain ⟨ok', s2, hnx, hfa'⟩ := fits_sound hp hf s' hfl hnt
            exact hl T' hT' _ ok' hfa' _ _ _ s2 (hi_cut hH' hf s2) hB'
  exact fun rho ok => key _ rho ok rfl
theorem Rounds.claims (hmo : P.follows .mixedOrders = true) (hgo : NoGo P) (hG : ∀ E R, @ConOk E P (@Ends E R) G) {B : Nat} {w0 : World} (hB0 : B ≤ w0.heap.size) : ∀ {Ts : List Tm}, Rounds P G n ss fn k Ts → ∀ T ∈ Ts, Claim P fn k B w0 T
  | [], _, T, h => by cases h
  | T :: later, ⟨h1, h2⟩, T', h => by
    have ih := Rounds.claims hmo hgo hG hB0 h2
    rcases List.mem_cons.1 h with rfl | h
    · exact loop_rounds hmo hgo hG hB0 h1 ih
    · exact ih T' h

theorem loop_law (hmo : P.follows .mixedOrders = true) (hgo : NoGo P) (hG : ∀ E R, @ConOk E P (@Ends E R) G) {f : FuncId} {b : Code} (hf : P.funcs[f]? = some fn) (hb : fn.body = some b)
    {Ts : List Tm} (hr : Rounds P G n ss fn k Ts) {shs : List Sh} {l : List (Int × Int)} (hst : ∀ rho ok, StartOk P G n ss fn b (symAs shs 0 0 l) (symH shs 0 0 l) (nls shs) Ts k (enOf l rho ok))
    {w : World} {Ls : Nat → Nat → Nat → Int} {vs : List Value} {ns : List Int} (hv : ShsOk P w Ls shs 0 vs ns) (hin : InD l ns) (hle : vs.length ≤ fn.ntmps) (hl1 : Nat.ble l.length 1000 = true) (hl2 : Nat.ble (nls shs) 16 = true) :
    Calls P f vs.toArray w fun e w' => e = .returned (.bool true) ∧ Below w.heap.size w w' := by
  rw [← callsIn_wide (n := 0)]
  refine callsIn_of_wp_marks hf hb trivial ?_
  have st0 := start_of hv hin (Nat.le_of_ble_eq_true hl1) (Nat.le_of_ble_eq_true hl2)
  obtain ⟨ok, hok⟩ : ∃ ok : (∀ i p, l[i]? = some p → p.1 ≤ rho0 ns Ls i ∧ rho0 ns Ls i ≤ p.2), ok = rho0_ok hin := ⟨_, rfl⟩
  letI : En := enOf l (rho0 ns Ls) ok
  have S := hst _ ok
  have s0 : SR P (sgOf shs vs 0) { t := RM.ofArgs (symAs shs 0 0 l) 0 .nil, nt := fn.ntmps, h := symH shs 0 0 l, nx := nls shs, ds := [], fl := 0 } { tmps := vs.toArray ++ Array.replicate (fn.ntmps - vs.toArray.size) undef, defers := [] } w :=
    ⟨st0.sim', st0.fr', (by simp; omega), TR.args st0.vr _, rfl⟩
  have hH0 : Hi w.heap.size (sgOf shs vs 0) (symH shs 0 0 l) := fun id o p h hrw => by
    have := st0.lone id o h
    rw [hrw] at this; cases this
  have hΦ := stops_sound (R := fun pt k' st => k' = k ∧ ∃ T ∈ Ts, Fits (enOf l (rho0 ns Ls) ok) T (pt, k', st)) (pt := ⟨[], [], false⟩) ⟨(by intro p hp; cases hp), (by intro p hp; cases hp), rfl⟩ S.bad S.stop
  have good := Ends.good (fun pt k' st => k' = k ∧ ∃ T ∈ Ts, Fits (enOf l (rho0 ns Ls) ok) T (pt, k', st))
  refine runF_sound good hmo hgo (hG _ _) n none ss [.code b] _ _ hΦ _ _ w none rfl s0 (bodyPostM Fence.wide 0 P fn (lawPost w.heap.size w)) (fun e st' σ' a' w' he s' af => ?_) (fun k' st' σ' a' w' _ hc s' af => ?_)
  · have key : Ends (fun pt k' st => k' = k ∧ ∃ T ∈ Ts, Fits (enOf l (rho0 ns Ls) ok) T (pt, k', st)) (endL P fn st' okK) → LeavesInM Fence.wide 0 P fn a'.tmps (lawPost w.heap.size w) a'.defers .returning w' := fun he => by
      refine endL_sound good he s' fun v h' x w'' h1 h2 h3 h4 => ⟨by rw [okK_good good h1 h2], ?_⟩
      have hfl : st'.fl = 0 := af.fl
      rw [hfl] at h4
      exact below_of hH0 (af.step.trans h4) (Nat.le_refl _)
    cases e with
    | normal => exact key he
    | ret => exact key he
    | exit id => exact absurd he (good.s _)
  · rcases hc with ⟨e, st, hc⟩ | ⟨pt, k2, st2, hc, hp, rfl, T, hT, hf2, hnt, hfl⟩
    · simp [reach] at hc
    · simp only [reach, Out.cfg.injEq] at hc
      obtain ⟨rfl, rfl⟩ := hc
      obtain ⟨ok', s2, hnx, hfa⟩ := fits_sound hp hf2 s' hfl hnt
      exact (hr.claims hmo hgo hG (Nat.le_refl _) T hT) _ ok' hfa _ _ _ s2 (hi_cut (hi_of (P := P) hH0 s0.sim af.step (Nat.le_refl _)) hf2 s2) (below_of hH0 af.step (Nat.le_refl _))
end
end Go.Proofs.Ytigilihpofafoaa.Loc
