/- The small machine of local values: the frame of a law whose arguments are plain: whole numbers, truths, structs and arrays of them. -/
import Derived.Test.YtigilihpofafoaaLocN
import Derived.WalkKit
import Derived.ProofKit
import Derived.OpenShut
import Derived.ShutString
import Derived.ChangeOld
import Derived.Below
import Derived.Deep.Slices
namespace Go.Proofs.Ytigilihpofafoaa.Loc
open Go Go.RowKit
set_option linter.unusedVariables false
set_option linter.unusedSimpArgs false
set_option linter.unusedSectionVars false

/-! ### The law's answer -/
noncomputable def okK : KV := fun v _ _ =>
  match v with
  | .bool b => lif b (.fin .normal ⟨.nil, 0, .nil, 0, [], 0⟩) (.stuck "false")
  | .sbl b => brS b (.fin .normal ⟨.nil, 0, .nil, 0, [], 0⟩) (.stuck "false")
  | _ => .stuck "no truth"
section
variable [En]
theorem Fin.not_stuck {s : String} : ¬ Fin (.stuck s) := Fin.good.s s
theorem okK_true {v : LV} {h : LH} {nx : Nat} (H : Fin (okK v h nx)) {σ : Sg} {x : Value} (hv : VR σ v x) : x = .bool true := by
  unfold okK at H
  split at H
  · rename_i b
    obtain ⟨hb, _⟩ := of_lif Fin.good H
    subst hb; exact hv
  · rename_i b
    rcases of_br Fin.good H with ⟨hb, _⟩ | ⟨_, H⟩
    · simp only [VR] at hv; rw [hv, hb]
    · exact absurd H Fin.not_stuck
  · exact absurd H Fin.not_stuck
/-- only what is read alone -/
def Lone (h : LH) : Prop := ∀ id o, h.get id = some o → o.rw = false
theorem law_fin {P : Program} (hmo : P.follows .mixedOrders = true) (hgo : NoGo P) {G : Know} (hG : ConOk P Fin G) {f n : Nat} {args : List LV} {h0 : LH} {nx : Nat} {σ : Sg}
    (hF : Fin (callL P G (runF P G n) 0 f args h0 nx okK)) {vals : List Value} (hv : VRs σ args vals) (w : World) (hsim : Sim P 0 σ h0 w) (hfr : Fr 0 σ nx) (hlo : Lone h0) :
    Calls P f vals.toArray w fun e w' => e = .returned (.bool true) ∧ Below w.heap.size w w' := by
  obtain ⟨_, hc⟩ := callL_sound Fin.good hgo hG (runF_sound Fin.good hmo hgo hG n) 0 f args h0 nx okK hF σ w vals hv hsim hfr
  rw [← callsIn_wide (n := 0)]
  refine hc.mono fun e w' he => ?_
  obtain ⟨x, rfl, v, h', nx', σ', q1, q2, q3, q4, q5⟩ := he
  refine ⟨by rw [okK_true q1 q2], q5.os, q5.tape, q5.output, q5.size, fun b hb => q5.frame b hb fun id o p hg how => ?_⟩
  have := hlo id o hg
  rw [how.2] at this; cases this
theorem law_of {P : Program} (hmo : P.follows .mixedOrders = true) (hgo : NoGo P) {G : Know} (hG : ConOk P Fin G) {f n : Nat} {args : List LV} {pt : Pth} (hp : PtOk pt) {h0 : LH} {nx : Nat} {σ : Sg}
    (H : bad (callL P G (runF P G n) 0 f args h0 nx okK) pt = []) {vals : List Value} (hv : VRs σ args vals) (w : World) (hsim : Sim P 0 σ h0 w) (hfr : Fr 0 σ nx) (hlo : Lone h0) :
    Calls P f vals.toArray w fun e w' => e = .returned (.bool true) ∧ Below w.heap.size w w' := by
  have hF := bad_sound hp (o := callL P G (runF P G n) 0 f args h0 nx okK) (by rw [H]; simp)
  obtain ⟨_, hc⟩ := callL_sound Fin.good hgo hG (runF_sound Fin.good hmo hgo hG n) 0 f args h0 nx okK hF σ w vals hv hsim hfr
  rw [← callsIn_wide (n := 0)]
  refine hc.mono fun e w' he => ?_
  obtain ⟨x, rfl, v, h', nx', σ', q1, q2, q3, q4, q5⟩ := he
  refine ⟨by rw [okK_true q1 q2], q5.os, q5.tape, q5.output, q5.size, fun b hb => q5.frame b hb fun id o p hg how => ?_⟩
  have := hlo id o hg
  rw [how.2] at this; cases this
theorem ConOk.none {P : Program} {Φ : Out → Prop} {wr : FuncId → Bool} : ConOk P Φ ⟨fun _ => .none, wr⟩ := fun f g h => by cases h
end

theorem nbeq_t {a b : Nat} : (Nat.beq a b = true) ↔ a = b := by simp
theorem condF {a b : Bool} (h : cond a b false = true) : a = true ∧ b = true := by
  cases a
  · cases h
  · exact ⟨rfl, h⟩
/-! ### Plain types -/
def Kd1 : Kd → Value → Int → Prop
  | .int k, v, n => v = .int k n ∧ kLo k ≤ n ∧ n ≤ kHi k
  | .bool, v, n => (v = .bool true ∧ n = 1) ∨ (v = .bool false ∧ n = 0)
def KdOk : List Kd → List Value → List Int → Prop
  | [], vs, ns => vs = [] ∧ ns = []
  | k :: ks, vs, ns => ∃ v vs' n ns', vs = v :: vs' ∧ ns = n :: ns' ∧ Kd1 k v n ∧ KdOk ks vs' ns'
theorem KdOk.append : ∀ {a b : List Kd} {vs us : List Value} {ns ms : List Int}, KdOk a vs ns → KdOk b us ms → KdOk (a ++ b) (vs ++ us) (ns ++ ms)
  | [], b, vs, us, ns, ms, ⟨h1, h2⟩, k => by subst h1; subst h2; exact k
  | x :: a, b, vs, us, ns, ms, ⟨v, vs', n, ns', h1, h2, h3, h4⟩, k => by
    subst h1; subst h2
    exact ⟨v, vs' ++ us, n, ns' ++ ms, rfl, rfl, h3, h4.append k⟩
def repL {α : Type} : Nat → List α → List α
  | 0, _ => []
  | n + 1, l => l ++ repL n l
noncomputable def flatFs (P : Program) (rec : TypeId → Option (List Kd)) : List Field → Nat → Option (List Kd)
  | [], _ => some []
  | f :: fs, o => cond (Nat.beq f.offset o) (match rec f.type, flatFs P rec fs (o + P.cellsOf f.type) with
    | some a, some b => cond (Nat.beq a.length (P.cellsOf f.type)) (some (a ++ b)) none
    | _, _ => none) none
noncomputable def flat (P : Program) : Nat → TypeId → Option (List Kd)
  | 0, _ => none
  | d + 1, t => match P.underlying t with
    | some .bool => some [.bool]
    | some (.int k) => some [.int k]
    | some (.struct fs) => (match flatFs P (flat P d) fs.toList 0 with
      | some ks => cond (Nat.beq ks.length (P.cellsOf t)) (some ks) none
      | none => none)
    | some (.array n e) => (match flat P d e with
      | some ks => cond (cond (Nat.beq ks.length (P.cellsOf e)) (Nat.beq (n * P.cellsOf e) (P.cellsOf t)) false) (some (repL n ks)) none
      | none => none)
    | _ => none

section
variable {H : Type} {enc : TypeId × Value → H} {P : Program} {w : World} {base : Nat} {spare : Nat → Bool} {held : Bool}
theorem wf_rg {k : IntKind} {n : Int} (h : (Lit.int k n).wf = true) : kLo k ≤ n ∧ n ≤ kHi k := by
  simp only [Lit.wf, Bool.and_eq_true, decide_eq_true_eq] at h
  cases k <;> simp [IntKind.min, IntKind.max, IntKind.bits, IntKind.signed] at h <;> simp [kLo, kHi] <;> omega
theorem mapM_some {α β : Type} {g : α → Option β} {a : α} {l : List α} {xs : List β} (h : (a :: l).mapM g = some xs) : ∃ y ys, g a = some y ∧ l.mapM g = some ys ∧ xs = y :: ys := by
  rw [List.mapM_cons] at h
  cases ha : g a with
  | none => rw [ha] at h; cases h
  | some y =>
    rw [ha] at h
    cases hl : l.mapM g with
    | none => rw [hl] at h; cases h
    | some ys =>
      rw [hl] at h
      exact ⟨y, ys, rfl, rfl, by cases h; rfl⟩
theorem range_get {β : Type} {g : Nat → Option β} {n : Nat} {xs : List β} (h : (List.range n).mapM g = some xs) (i : Nat) (hi : i < n) : ∃ y, g i = some y := by
  have key : ∀ (l : List Nat) (xs : List β), l.mapM g = some xs → ∀ i ∈ l, ∃ y, g i = some y := by
    intro l
    induction l with
    | nil => intro xs _ i hi; cases hi
    | cons a l ih =>
      intro xs h i hi
      obtain ⟨y, ys, h1, h2, _⟩ := mapM_some h
      rcases List.mem_cons.1 hi with rfl | hi
      · exact ⟨y, h1⟩
      · exact ih ys h2 i hi
  exact key _ _ h i (List.mem_range.2 hi)
theorem flatFs_sound {rec : TypeId → Option (List Kd)} {fuel : Nat} (hrec : ∀ t ks cs x, rec t = some ks → DataW.trod enc P w base spare held fuel t cs = some x → ∃ ns, KdOk ks cs ns) {cs : List Value} :
    ∀ (fs : List Field) (o : Nat) (ks : List Kd) (xs : List (DataW H × List MemPlace)), flatFs P rec fs o = some ks → (fs.mapM fun f => DataW.trod enc P w base spare held fuel f.type ((cs.drop f.offset).take (P.cellsOf f.type))) = some xs →
      ∃ ns, KdOk ks ((cs.drop o).take ks.length) ns
  | [], o, ks, xs, h, _ => by
    simp only [flatFs, Option.some.injEq] at h; subst h
    exact ⟨[], by simp, rfl⟩
  | f :: fs, o, ks, xs, h, hm => by
    unfold flatFs at h
    cases ho : Nat.beq f.offset o with
    | false => simp [ho] at h
    | true =>
      rw [nbeq_t] at ho; subst ho
      simp only [Nat.beq_refl, cond_true] at h
      obtain ⟨y, ys, h1, h2, _⟩ := mapM_some hm
      cases ha : rec f.type with
      | none => simp [ha] at h
      | some a =>
        cases hb : flatFs P rec fs (f.offset + P.cellsOf f.type) with
        | none => simp [ha, hb] at h
        | some b =>
          simp only [ha, hb] at h
          cases hl : Nat.beq a.length (P.cellsOf f.type) with
          | false => simp [hl] at h
          | true =>
            simp only [hl, cond_true, Option.some.injEq] at h; subst h
            rw [nbeq_t] at hl
            obtain ⟨n1, k1⟩ := hrec _ _ _ _ ha h1
            obtain ⟨n2, k2⟩ := flatFs_sound hrec fs _ _ _ hb h2
            refine ⟨n1 ++ n2, ?_⟩
            have := k1.append k2
            rw [List.length_append]
            have e : List.take (a.length + b.length) (List.drop f.offset cs) = List.take (P.cellsOf f.type) (List.drop f.offset cs) ++ List.take b.length (List.drop (f.offset + P.cellsOf f.type) cs) := by
              rw [List.take_add, hl, List.drop_drop]
            rw [e]; exact this
theorem repL_sound {ks : List Kd} {cs : List Value} {sz : Nat} (hl : ks.length = sz) : ∀ (n i : Nat), (∀ j, j < n → ∃ ns, KdOk ks ((cs.drop ((i + j) * sz)).take sz) ns) → ∃ ns, KdOk (repL n ks) ((cs.drop (i * sz)).take (n * sz)) ns
  | 0, i, h => ⟨[], by simp, rfl⟩
  | n + 1, i, h => by
    obtain ⟨n1, k1⟩ := h 0 (by omega)
    obtain ⟨n2, k2⟩ := repL_sound hl n (i + 1) fun j hj => by
      have := h (j + 1) (by omega)
      rw [show i + 1 + j = i + (j + 1) by omega]; exact this
    refine ⟨n1 ++ n2, ?_⟩
    have := k1.append k2
    have e : List.take ((n + 1) * sz) (List.drop (i * sz) cs) = List.take sz (List.drop ((i + 0) * sz) cs) ++ List.take (n * sz) (List.drop ((i + 1) * sz) cs) := by
      rw [show (n + 1) * sz = sz + n * sz by rw [Nat.add_mul, Nat.one_mul, Nat.add_comm], List.take_add, List.drop_drop, Nat.add_zero, Nat.add_mul, Nat.one_mul]
    show KdOk (ks ++ repL n ks) _ _
    rw [e]; exact this
theorem flat_sound : ∀ (d : Nat) (t : TypeId) (ks : List Kd) (fuel : Nat) (cs : List Value) (x : DataW H × List MemPlace), flat P d t = some ks → DataW.trod enc P w base spare held fuel t cs = some x → ∃ ns, KdOk ks cs ns
  | 0, t, ks, fuel, cs, x, h, _ => by cases h
  | d + 1, t, ks, 0, cs, x, _, h => by simp [DataW.trod] at h
  | d + 1, t, ks, fuel + 1, cs, x, h, hx => by
    unfold flat at h
    cases hu : P.underlying t with
    | none => simp [hu] at h
    | some ty =>
      rw [hu] at h
      cases ty with
      | bool =>
        simp only [Option.some.injEq] at h; subst h
        match cs, hx with
        | [], hx => simp [DataW.trod, hu] at hx
        | [v], hx =>
          cases v with
          | bool b =>
            cases b with
            | true => exact ⟨[1], _, _, _, _, rfl, rfl, .inl ⟨rfl, rfl⟩, rfl, rfl⟩
            | false => exact ⟨[0], _, _, _, _, rfl, rfl, .inr ⟨rfl, rfl⟩, rfl, rfl⟩
          | _ => simp [DataW.trod, hu] at hx
        | v :: u :: l, hx => simp [DataW.trod, hu] at hx
      | int k =>
        simp only [Option.some.injEq] at h; subst h
        match cs, hx with
        | [], hx => simp [DataW.trod, hu] at hx
        | [v], hx =>
          cases v with
          | int k' n =>
            simp [DataW.trod, hu] at hx
            obtain ⟨⟨rfl, hw⟩, _⟩ := hx
            exact ⟨[n], _, _, _, _, rfl, rfl, ⟨rfl, wf_rg hw⟩, rfl, rfl⟩
          | _ => simp [DataW.trod, hu] at hx
        | v :: u :: l, hx => simp [DataW.trod, hu] at hx
      | struct fs =>
        simp only at h
        cases hf : flatFs P (flat P d) fs.toList 0 with
        | none => simp [hf] at h
        | some ks' =>
          simp only [hf] at h
          cases hl : Nat.beq ks'.length (P.cellsOf t) with
          | false => simp [hl] at h
          | true =>
            simp only [hl, cond_true, Option.some.injEq] at h; subst h
            rw [nbeq_t] at hl
            simp only [DataW.trod, hu] at hx
            split at hx
            · rename_i hc
              cases hm : (fs.toList.mapM fun f => DataW.trod enc P w base spare held fuel f.type ((cs.drop f.offset).take (P.cellsOf f.type))) with
              | none => rw [hm] at hx; cases hx
              | some xs =>
                obtain ⟨ns, hns⟩ := flatFs_sound (fun t ks cs x h1 h2 => flat_sound d t ks fuel cs x h1 h2) _ _ _ _ hf hm
                refine ⟨ns, ?_⟩
                rw [List.drop_zero, hl, ← hc, List.take_length] at hns
                exact hns
            · cases hx
      | array n e =>
        simp only at h
        cases hf : flat P d e with
        | none => simp [hf] at h
        | some ks' =>
          simp only [hf] at h
          cases hl : cond (Nat.beq ks'.length (P.cellsOf e)) (Nat.beq (n * P.cellsOf e) (P.cellsOf t)) false with
          | false => simp [hl] at h
          | true =>
            obtain ⟨h1, h2⟩ := condF hl
            simp only [hl, cond_true, Option.some.injEq] at h; subst h
            rw [nbeq_t] at h1 h2
            simp only [DataW.trod, hu] at hx
            split at hx
            · rename_i hc
              cases hm : ((List.range n).mapM fun i => DataW.trod enc P w base spare held fuel e ((cs.drop (i * P.cellsOf e)).take (P.cellsOf e))) with
              | none => rw [hm] at hx; cases hx
              | some xs =>
                obtain ⟨ns, hns⟩ := repL_sound (cs := cs) h1 n 0 fun j hj => by
                  obtain ⟨y, hy⟩ := range_get hm j hj
                  rw [Nat.zero_add]
                  exact flat_sound d e ks' fuel _ y hf hy
                refine ⟨ns, ?_⟩
                rw [Nat.zero_mul, List.drop_zero, h2, ← hc, List.take_length] at hns
                exact hns
            · cases hx
      | _ => simp at h
end

/-! ### Arguments -/
inductive Sh where
  | one (k : Kd)
  | agg (ks : List Kd)
  | lst (ks : List Kd) (e : TypeId)
noncomputable def lstSh (P : Program) (e : TypeId) : Option Sh :=
  match flat P 20 e, szOf P e with
  | some ks, some n => cond (cond (Nat.beq ks.length n) (cond (Nat.beq n (P.cellsOf e)) (cond (Nat.blt 0 n) (Nat.ble n 64) false) false) false) (some (.lst ks e)) none
  | _, _ => none
noncomputable def shOf (P : Program) (t : TypeId) : Option Sh :=
  match P.underlying t with
  | some .bool => some (.one .bool)
  | some (.int k) => some (.one (.int k))
  | some (.struct _) => (flat P 20 t).map .agg
  | some (.array _ _) => (flat P 20 t).map .agg
  | some (.slice e) => lstSh P e
  | _ => none
/-- what an argument is in the world 'W': its numbers; of a list: its length, and 'L': its cells -/
def ShOk (P : Program) (W : World) (L : Nat → Nat → Int) : Sh → Value → List Int → Prop
  | .one k, v, ns => ∃ n, ns = [n] ∧ Kd1 k v n
  | .agg ks, v, ns => ∃ cs : List Value, v = .agg cs.toArray ∧ KdOk ks cs ns
  | .lst ks e, v, ns => ∃ n : Nat, ns = [(n : Int)] ∧ n ≤ maxLen ∧ szOf P e = some ks.length ∧ 0 < ks.length ∧ ks.length ≤ 64 ∧
      ((n = 0 ∧ ∃ A c, v = .slice A 0 c) ∨
       (0 < n ∧ ∃ b off c, v = .slice (some ⟨b, off, none⟩) n c ∧ n ≤ c ∧ ∃ cells e' fz, W.heap[b]? = some (.cells cells e' fz) ∧
          ∀ i, i < n → ∀ f kd, ks[f]? = some kd → cells[off + (i * ks.length + f)]? = some (kdV kd (L f i))))
theorem cells?_get {W : World} {base : Nat} {a : Addr} {n : Nat} {cs : List Value} (h : W.cells? base a n = some cs) : cs.length = n ∧ ∀ f, f < n → W.cell? (a.add f) = cs[f]? := by
  unfold World.cells? at h
  split at h
  · exact ⟨by simpa using mapM_some_length h, fun f hf => by
      have := mapM_some_get h f f (by simp [hf])
      exact this⟩
  · cases h
theorem kdV_of {k : Kd} {v : Value} {n : Int} (h : Kd1 k v n) : v = kdV k n := by
  cases k with
  | int k =>
    obtain ⟨rfl, h1, h2⟩ := h
    simp only [kdV]
    rw [@wrap_id ⟨fun _ => 0, [], fun i p h => by simp at h⟩ _ _ h1 h2]
  | bool =>
    rcases h with ⟨rfl, rfl⟩ | ⟨rfl, rfl⟩ <;> rfl
theorem KdOk.at : ∀ {ks : List Kd} {vs : List Value} {ns : List Int}, KdOk ks vs ns → ∀ f kd, ks[f]? = some kd → vs[f]? = some (kdV kd (ns.getD f 0))
  | [], vs, ns, _, f, kd, h => by simp at h
  | k :: ks, vs, ns, ⟨v, vs', n, ns', h1, h2, h3, h4⟩, f, kd, h => by
    subst h1; subst h2
    cases f with
    | zero =>
      simp at h; subst h
      simp [kdV_of h3]
    | succ f => simpa using h4.at f kd (by simpa using h)
theorem lst_sound {H : Type} {enc : TypeId × Value → H} {P : Program} {W : World} {base : Nat} {spare : Nat → Bool} {held : Bool} {e : TypeId} {a : Addr} {len cap : Nat} {ks : List Kd}
    (hf : flat P 20 e = some ks) (hz : szOf P e = some ks.length) (hc : ks.length = P.cellsOf e) (b3 : 0 < ks.length) (b4 : ks.length ≤ 64) (hpos : 0 < len) (hl : len ≤ cap) (hm : len ≤ maxLen)
    (hel : ∀ i, i < len → ∃ (m : Nat) (cs : List Value) (x : DataW H × List MemPlace), W.cells? base (a.add (i * P.cellsOf e)) (P.cellsOf e) = some cs ∧ DataW.trod enc P W base spare held m e cs = some x) :
    ∃ ns L, ShOk P W L (.lst ks e) (.slice (some a) len cap) ns := by
  have hrow : ∀ i, i < len → ∃ ns : List Int, ∀ f kd, ks[f]? = some kd → W.cell? ((a.add (i * ks.length)).add f) = some (kdV kd (ns.getD f 0)) := fun i hi => by
    obtain ⟨m, cs, x, h1, h2⟩ := hel i hi
    obtain ⟨ns, hns⟩ := flat_sound 20 e ks m cs x hf h2
    rw [← hc] at h1
    obtain ⟨g1, g2⟩ := cells?_get h1
    refine ⟨ns, fun f kd hk => ?_⟩
    have hlt : f < ks.length := (List.getElem?_eq_some_iff.1 hk).1
    rw [g2 f hlt]
    exact hns.at f kd hk
  obtain ⟨N, hN⟩ := Deep.choose_lt hrow
  have hk0 : ∃ kd, ks[0]? = some kd := ⟨ks[0], by simp [b3]⟩
  obtain ⟨kd0, hk0⟩ := hk0
  have h00 := hN 0 hpos 0 kd0 hk0
  have ha : (a.add (0 * ks.length)).add 0 = a := by simp [Addr.add]
  rw [ha] at h00
  obtain ⟨b, off, sp⟩ := a
  unfold World.cell? at h00
  cases hb : W.heap[b]? with
  | none => simp [hb] at h00
  | some ob =>
    cases ob with
    | cells c e' fz =>
      simp only [hb] at h00
      cases sp with
      | some s => simp at h00
      | none =>
        refine ⟨[(len : Int)], fun f i => (N i).getD f 0, len, rfl, hm, hz, b3, b4, .inr ⟨hpos, b, off, cap, rfl, hl, c, e', fz, hb, fun i hi f kd hk => ?_⟩⟩
        have := hN i hi f kd hk
        rw [Deep.add_add] at this
        have e1 : (Addr.add ⟨b, off, none⟩ (i * ks.length + f)) = ⟨b, off + (i * ks.length + f), none⟩ := by
          unfold Addr.add
          split
          · rename_i h; simp [h]
          · rfl
        rw [e1] at this
        simpa [World.cell?, hb] using this
    | _ => simp [hb] at h00
theorem sh_sound {H : Type} {enc : TypeId × Value → H} {P : Program} {W : World} {base : Nat} {spare : Nat → Bool} {held : Bool} {r : Reach} {b0 : Nat} {t : TypeId} {v : Value} {d : DataW H} {ps : List MemPlace}
    (hval : Value.okWide P W r b0 t v) (hd : DataW.Trod enc P W base spare held t v d ps) {sh : Sh} (hs : shOf P t = some sh) : ∃ ns L, ShOk P W L sh v ns := by
  obtain ⟨fuel, hx⟩ := hd
  have plain : (∃ ns, ShOk P W (fun _ _ => 0) sh v ns) → ∃ ns L, ShOk P W L sh v ns := fun ⟨ns, h⟩ => ⟨ns, _, h⟩
  unfold shOf at hs
  cases hu : P.underlying t with
  | none => simp [hu] at hs
  | some ty =>
    rw [hu] at hs
    have agg : (∃ cs, v = .agg cs) → (flat P 20 t).map Sh.agg = some sh → ∃ ns L, ShOk P W L sh v ns := fun ⟨cs, hc⟩ hs => by
      cases hf : flat P 20 t with
      | none => simp [hf] at hs
      | some ks =>
        simp only [hf, Option.map_some, Option.some.injEq] at hs; subst hs
        subst hc
        obtain ⟨ns, hns⟩ := flat_sound 20 t ks fuel _ _ hf hx
        exact ⟨ns, fun _ _ => 0, cs.toList, by simp, by simpa [Value.cells] using hns⟩
    cases ty with
    | bool =>
      simp only [Option.some.injEq] at hs; subst hs
      obtain ⟨b, rfl⟩ := WideShapes.okWide_bool hu hval
      cases b with
      | true => exact plain ⟨[1], 1, rfl, .inl ⟨rfl, rfl⟩⟩
      | false => exact plain ⟨[0], 0, rfl, .inr ⟨rfl, rfl⟩⟩
    | int k =>
      simp only [Option.some.injEq] at hs; subst hs
      obtain ⟨n, rfl⟩ := WideShapes.okWide_int hu hval
      obtain ⟨ns, hns⟩ := flat_sound 1 t [.int k] fuel _ _ (by simp [flat, hu]) hx
      simp only [Value.cells] at hns
      obtain ⟨v, vs', n', ns', h1, h2, h3, h4⟩ := hns
      simp at h1
      obtain ⟨rfl, rfl⟩ := h1
      obtain ⟨_, rfl⟩ := h4
      exact plain ⟨_, n', h2, h3⟩
    | struct fs =>
      obtain ⟨cs, hc, _⟩ := WideShapes.okWide_struct hu hval
      exact agg ⟨cs, hc⟩ hs
    | array n e =>
      have : ∃ cs, v = .agg cs := by
        simp only [Value.okWide, hu] at hval
        obtain ⟨cs, hc, _⟩ := hval
        exact ⟨cs, hc⟩
      exact agg this hs
    | slice e =>
      simp only [lstSh] at hs
      cases hf : flat P 20 e with
      | none => simp [hf] at hs
      | some ks =>
        cases hz : szOf P e with
        | none => simp [hf, hz] at hs
        | some sz =>
          simp only [hf, hz] at hs
          cases hb : cond (Nat.beq ks.length sz) (cond (Nat.beq sz (P.cellsOf e)) (cond (Nat.blt 0 sz) (Nat.ble sz 64) false) false) false with
          | false => rw [hb] at hs; cases hs
          | true =>
            rw [hb] at hs
            simp only [cond_true, Option.some.injEq] at hs; subst hs
            obtain ⟨b1, hb⟩ := condF hb
            obtain ⟨b2, hb⟩ := condF hb
            obtain ⟨b3, b4⟩ := condF hb
            rw [nbeq_t] at b1 b2
            have b3 := Nat.blt_eq.mp b3
            have b4 := Nat.le_of_ble_eq_true b4
            subst b1
            obtain ⟨a0, len, cap, rfl⟩ := WideShapes.okWide_slice hu hval
            have hc : (Value.slice a0 len cap).cells.toList = [.slice a0 len cap] := rfl
            rw [hc] at hx
            rcases DataW.trod_slice hu hx with ⟨h0, _⟩ | ⟨a, len', cap', elems, rest, m, _, hcs, _, _, hl, hm, hlen, hel, _⟩
            · simp only [List.cons.injEq, Value.slice.injEq, and_true] at h0
              obtain ⟨rfl, rfl, rfl⟩ := h0
              exact ⟨[0], fun _ _ => 0, 0, rfl, Nat.zero_le _, hz, b3, b4, .inl ⟨rfl, _, _, rfl⟩⟩
            · simp only [List.cons.injEq, Value.slice.injEq, and_true] at hcs
              obtain ⟨rfl, rfl, rfl⟩ := hcs
              rcases Nat.eq_zero_or_pos len with rfl | hpos
              · exact ⟨[0], fun _ _ => 0, 0, rfl, Nat.zero_le _, hz, b3, b4, .inl ⟨rfl, _, _, rfl⟩⟩
              · exact lst_sound hf hz b2 b3 b4 hpos hl (Nat.le_trans hl hm) fun i hi => by
                  have := hel i hi
                  rw [List.getElem?_eq_getElem (by omega)] at this
                  obtain ⟨cs', h1, h2⟩ := Option.bind_eq_some_iff.1 this
                  exact ⟨m, cs', _, h1, h2⟩
    | _ => simp at hs

/-! ### Open arguments -/
noncomputable def symC (k : Kd) (i : Nat) (r : Int × Int) : LV :=
  match k with
  | .int k => cond (iBeq r.1 r.2) (.int k r.1) (.sym k (.v i))
  | .bool => cond (iBeq r.1 r.2) (.bool (cond (iBeq r.1 0) false true)) (.sbl (.eq (.v i) (.c 1)))
noncomputable def symCs : List Kd → Nat → List (Int × Int) → List LV × List (Int × Int)
  | [], _, l => ([], l)
  | k :: ks, i, r :: l => (symC k i r :: (symCs ks (i + 1) l).1, (symCs ks (i + 1) l).2)
  | _ :: _, _, [] => ([], [])
/-- how many lists -/
def nls : List Sh → Nat
  | [] => 0
  | .lst _ _ :: ss => nls ss + 1
  | .one _ :: ss => nls ss
  | .agg _ :: ss => nls ss
noncomputable def symAs : List Sh → (i id : Nat) → List (Int × Int) → List LV
  | [], _, _, _ => []
  | .one k :: shs, i, id, r :: l => symC k i r :: symAs shs (i + 1) id l
  | .one _ :: _, _, _, [] => []
  | .agg ks :: shs, i, id, l => .agg (symCs ks i l).1 :: symAs shs (i + ks.length) id (symCs ks i l).2
  | .lst _ _ :: shs, i, id, r :: l => .os id (cond (iBeq r.1 r.2) (.c r.1) (.v i)) :: symAs shs (i + 1) (id + 1) l
  | .lst _ _ :: _, _, _, [] => []
noncomputable def symH : List Sh → (i id : Nat) → List (Int × Int) → LH
  | [], _, _, _ => .nil
  | .one _ :: shs, i, id, _ :: l => symH shs (i + 1) id l
  | .one _ :: _, _, _, [] => .nil
  | .agg ks :: shs, i, id, l => symH shs (i + ks.length) id (symCs ks i l).2
  | .lst ks e :: shs, i, id, r :: l => cond (iLe 1 r.1) ((symH shs (i + 1) (id + 1) l).set id (.lst id ks e)) (symH shs (i + 1) (id + 1) l)
  | .lst _ _ :: _, _, _, [] => .nil
def sgOf : List Sh → List Value → Nat → Sg
  | .lst ks _ :: ss, .slice (some a) n c :: vs, id => upd (sgOf ss vs (id + 1)) id ⟨a.block, a.off, ks.length, n, c⟩
  | .lst _ _ :: ss, _ :: vs, id => sgOf ss vs (id + 1)
  | .one _ :: ss, _ :: vs, id => sgOf ss vs id
  | .agg _ :: ss, _ :: vs, id => sgOf ss vs id
  | _, _, _ => fun _ => none
def InD : List (Int × Int) → List Int → Prop
  | [], ns => ns = []
  | r :: l, ns => ∃ n ns', ns = n :: ns' ∧ r.1 ≤ n ∧ n ≤ r.2 ∧ InD l ns'
theorem InD.at : ∀ {l : List (Int × Int)} {ns : List Int}, InD l ns → ∀ i p, l[i]? = some p → p.1 ≤ ns.getD i 0 ∧ ns.getD i 0 ≤ p.2
  | [], _, _, i, p, h => by simp at h
  | r :: l, _, ⟨n, ns', h0, h1, h2, h3⟩, i, p, h => by
    subst h0
    cases i with
    | zero => simp at h; subst h; simpa using ⟨h1, h2⟩
    | succ i => simpa using h3.at i p (by simpa using h)
@[reducible] def enOf (l : List (Int × Int)) (rho : Nat → Int) (ok : ∀ i p, l[i]? = some p → p.1 ≤ rho i ∧ rho i ≤ p.2) : En := ⟨rho, l, ok⟩

section
variable [En] {σ : Sg}
theorem symC_sound {k : Kd} {i : Nat} {r : Int × Int} {v : Value} {n : Int} (h : Kd1 k v n) (h1 : r.1 ≤ n) (h2 : n ≤ r.2) (hr : En.rho i = n) : VR σ (symC k i r) v := by
  unfold symC
  cases k with
  | int k =>
    obtain ⟨rfl, _⟩ := h
    cases hb : iBeq r.1 r.2 with
    | true =>
      have := iBeq_t hb
      simp only [cond_true, VR]
      congr 1; omega
    | false => simp only [cond_false, VR, SE.ev, hr]
  | bool =>
    cases hb : iBeq r.1 r.2 with
    | true =>
      have hb := iBeq_t hb
      simp only [cond_true, VR]
      rcases h with ⟨rfl, rfl⟩ | ⟨rfl, rfl⟩
      · have : r.1 = 1 := by omega
        rw [this]; rfl
      · have : r.1 = 0 := by omega
        rw [this]; rfl
    | false =>
      simp only [cond_false, VR, SB.ev, SE.ev, hr]
      rcases h with ⟨rfl, rfl⟩ | ⟨rfl, rfl⟩ <;> rfl
theorem symCs_sound : ∀ {ks : List Kd} {i : Nat} {l : List (Int × Int)} {vs : List Value} {ns ms : List Int}, KdOk ks vs ns → InD l (ns ++ ms) → (∀ j n, (ns ++ ms)[j]? = some n → En.rho (i + j) = n) →
    VRs σ (symCs ks i l).1 vs ∧ InD (symCs ks i l).2 ms ∧ ∀ j n, ms[j]? = some n → En.rho (i + ks.length + j) = n
  | [], i, l, vs, ns, ms, ⟨h1, h2⟩, h, hr => by
    subst h1; subst h2
    exact ⟨by simp [symCs, VRs], h, by simpa using hr⟩
  | k :: ks, i, [], vs, ns, ms, ⟨v, vs', n, ns', h1, h2, h3, h4⟩, h, hr => by subst h2; cases h
  | k :: ks, i, r :: l, vs, ns, ms, ⟨v, vs', n, ns', h1, h2, h3, h4⟩, h, hr => by
    subst h1; subst h2
    obtain ⟨n', ns2, e, r1, r2, r3⟩ := h
    simp only [List.cons_append, List.cons.injEq] at e
    obtain ⟨rfl, rfl⟩ := e
    obtain ⟨k1, k2, k3⟩ := symCs_sound (i := i + 1) h4 r3 fun j m hj => by
      have := hr (j + 1) m (by simpa using hj)
      rw [show i + 1 + j = i + (j + 1) by omega]; exact this
    refine ⟨VRs.cons (symC_sound h3 r1 r2 (by simpa using hr 0 n (by simp))) k1, k2, fun j m hj => ?_⟩
    have := k3 j m hj
    rw [List.length_cons, show i + (ks.length + 1) + j = i + 1 + ks.length + j by omega]; exact this
def nextId : Sh → Nat → Nat
  | .lst _ _, id => id + 1
  | .one _, id => id
  | .agg _, id => id
def ShsOk (P : Program) (W : World) (Ls : Nat → Nat → Nat → Int) : List Sh → Nat → List Value → List Int → Prop
  | [], _, vs, ns => vs = [] ∧ ns = []
  | s :: ss, id, vs, ns => ∃ v vs' n1 n2, vs = v :: vs' ∧ ns = n1 ++ n2 ∧ ShOk P W (Ls id) s v n1 ∧ ShsOk P W Ls ss (nextId s id) vs' n2
structure Strt (P : Program) (W : World) (σ : Sg) (h : LH) (id n : Nat) (avs : List LV) (vs : List Value) : Prop where
  vr : VRs σ avs vs
  fr : ∀ a, a < id ∨ id + n ≤ a → σ a = none
  sim : ∀ a o, h.get a = some o → o.rw = false ∧ id ≤ a ∧ ∃ p ob, σ a = some p ∧ W.heap[p.blk]? = some ob ∧ OK P σ p o ob
theorem Strt.sim' {P : Program} {W : World} {σ : Sg} {h : LH} {n : Nat} {avs : List LV} {vs : List Value} (s : Strt P W σ h 0 n avs vs) : Sim P 0 σ h W := fun id o ho => by
  obtain ⟨h1, _, p, ob, h2, h3, h4⟩ := s.sim id o ho
  exact ⟨p, ob, h2, h3, h4, fun how => by rw [how.2] at h1; cases h1⟩
theorem Strt.fr' {P : Program} {W : World} {σ : Sg} {h : LH} {n : Nat} {avs : List LV} {vs : List Value} (s : Strt P W σ h 0 n avs vs) : Fr 0 σ n := ⟨Nat.zero_le _, fun id hid => s.fr id (.inr (by omega))⟩
theorem Strt.lone {P : Program} {W : World} {σ : Sg} {h : LH} {n : Nat} {avs : List LV} {vs : List Value} (s : Strt P W σ h 0 n avs vs) : Lone h := fun id o ho => (s.sim id o ho).1
theorem symAs_sound {P : Program} {W : World} {Ls : Nat → Nat → Nat → Int} (hsel : ∀ j f i, j < 16 → f < 64 → En.rho (selI j f i) = Ls j f i.toNat) :
    ∀ {ss : List Sh} {i id : Nat} {l : List (Int × Int)} {vs : List Value} {ns ms : List Int}, ShsOk P W Ls ss id vs ns → InD l (ns ++ ms) → (∀ j n, (ns ++ ms)[j]? = some n → En.rho (i + j) = n) → id + nls ss ≤ 16 →
      Strt P W (sgOf ss vs id) (symH ss i id l) id (nls ss) (symAs ss i id l) vs
  | [], i, id, l, vs, ns, ms, ⟨h1, h2⟩, h, hr, hid => by
    subst h1
    exact ⟨by simp [symAs, VRs], fun _ _ => rfl, fun a o ho => by rw [symH, RM.get_nil] at ho; cases ho⟩
  | .one k :: ss, i, id, l, vs, ns, ms, ⟨v, vs', n1, n2, h1, h2, ⟨n, hn, h3⟩, h4⟩, h, hr, hid => by
    subst h1; subst h2; subst hn
    cases l with
    | nil => cases h
    | cons r l =>
      obtain ⟨n', ns2, e, r1, r2, r3⟩ := h
      simp only [List.cons_append, List.nil_append, List.cons.injEq] at e
      obtain ⟨rfl, rfl⟩ := e
      have ih := symAs_sound hsel (i := i + 1) h4 r3 (fun j m hj => by
        have := hr (j + 1) m (by simpa using hj)
        rw [show i + 1 + j = i + (j + 1) by omega]; exact this) hid
      exact ⟨VRs.cons (symC_sound h3 r1 r2 (by simpa using hr 0 n (by simp))) ih.vr, ih.fr, ih.sim⟩
  | .agg ks :: ss, i, id, l, vs, ns, ms, ⟨v, vs', n1, n2, h1, h2, ⟨cs, hc, h3⟩, h4⟩, h, hr, hid => by
    subst h1; subst h2; subst hc
    rw [List.append_assoc] at h
    have hh := fun σ => symCs_sound (σ := σ) h3 h (by rw [← List.append_assoc]; exact hr)
    obtain ⟨_, k2, k3⟩ := hh (fun _ => none)
    have ih := symAs_sound hsel h4 k2 k3 hid
    exact ⟨VRs.cons ⟨cs, rfl, (hh _).1⟩ ih.vr, ih.fr, ih.sim⟩
  | .lst ks e :: ss, i, id, l, vs, ns, ms, ⟨v, vs', n1, n2, h1, h2, ⟨n, hn, hmx, hz, hk0, hk64, h3⟩, h4⟩, h, hr, hid => by
    subst h1; subst h2; subst hn
    cases l with
    | nil => cases h
    | cons r l =>
      obtain ⟨n', ns2, e', r1, r2, r3⟩ := h
      simp only [List.cons_append, List.nil_append, List.cons.injEq] at e'
      obtain ⟨rfl, rfl⟩ := e'
      have hid' : id + (nls ss + 1) ≤ 16 := hid
      have ih := symAs_sound hsel (i := i + 1) (id := id + 1) h4 r3 (fun j m hj => by
        have := hr (j + 1) m (by simpa using hj)
        rw [show i + 1 + j = i + (j + 1) by omega]; exact this) (by omega)
      have hri : En.rho i = (n : Int) := by simpa using hr 0 (n : Int) (by simp)
      have hev : (cond (iBeq r.1 r.2) (SE.c r.1) (SE.v i)).ev = (n : Int) := by
        cases hb : iBeq r.1 r.2 with
        | true => have := iBeq_t hb; simp only [cond_true, SE.ev]; omega
        | false => simp only [cond_false, SE.ev, hri]
      have hnone : sgOf ss vs' (id + 1) id = none := ih.fr id (.inl (by omega))
      have lift : ∀ p : Place, Ext (sgOf ss vs' (id + 1)) (upd (sgOf ss vs' (id + 1)) id p) := fun p a q hq => by
        have : a ≠ id := fun he => by rw [he, hnone] at hq; cases hq
        rw [upd_other this]; exact hq
      have fr1 : ∀ p : Place, ∀ a, a < id ∨ id + (nls ss + 1) ≤ a → upd (sgOf ss vs' (id + 1)) id p a = none := fun p a ha => by
        rw [upd_other (by omega)]; exact ih.fr a (by omega)
      have fr0 : ∀ a, a < id ∨ id + (nls ss + 1) ≤ a → sgOf ss vs' (id + 1) a = none := fun a ha => ih.fr a (by omega)
      have sim1 : ∀ p : Place, ∀ a o, (symH ss (i + 1) (id + 1) l).get a = some o → o.rw = false ∧ id ≤ a ∧ ∃ q ob, upd (sgOf ss vs' (id + 1)) id p a = some q ∧ W.heap[q.blk]? = some ob ∧ OK P (upd (sgOf ss vs' (id + 1)) id p) q o ob := fun p a o ho => by
        obtain ⟨g1, g2, q, ob, g3, g4, g5⟩ := ih.sim a o ho
        exact ⟨g1, by omega, q, ob, lift p a q g3, g4, OK.mono (lift p) g5⟩
      have sim0 : ∀ a o, (symH ss (i + 1) (id + 1) l).get a = some o → o.rw = false ∧ id ≤ a ∧ ∃ q ob, sgOf ss vs' (id + 1) a = some q ∧ W.heap[q.blk]? = some ob ∧ OK P (sgOf ss vs' (id + 1)) q o ob := fun a o ho => by
        obtain ⟨g1, g2, q, ob, g3, g4, g5⟩ := ih.sim a o ho
        exact ⟨g1, by omega, q, ob, g3, g4, g5⟩
      rcases h3 with ⟨rfl, A, c, rfl⟩ | ⟨hpos, b, off, c, rfl, hnc, cells, e', fz, hb, hcs⟩
      · have hlt : iLe 1 r.1 = false := by
          cases hh : iLe 1 r.1 with
          | false => rfl
          | true => have := iLe_t hh; omega
        cases A with
        | none =>
          refine ⟨VRs.cons (.inr ⟨hev, _, _, rfl⟩) ih.vr, fr0, fun a o ho => ?_⟩
          simp only [symH, hlt, cond_false] at ho
          exact sim0 a o ho
        | some A =>
          refine ⟨VRs.cons (.inr ⟨hev, _, _, rfl⟩) (VRs.mono (lift _) _ _ ih.vr), fr1 _, fun a o ho => ?_⟩
          simp only [symH, hlt, cond_false] at ho
          exact sim1 _ a o ho
      · have hp : Value.slice (some ⟨b, off, none⟩) n c = .slice (some (plAddr ⟨b, off, ks.length, n, c⟩ 0 0)) n c := by simp [plAddr]
        refine ⟨VRs.cons (.inl ⟨⟨b, off, ks.length, n, c⟩, upd_same, hev, c, hnc, hp⟩) (VRs.mono (lift _) _ _ ih.vr), fr1 _, fun a o ho => ?_⟩
        cases hlt : iLe 1 r.1 with
        | false =>
          simp only [symH, hlt, cond_false] at ho
          exact sim1 _ a o ho
        | true =>
          simp only [symH, hlt, cond_true, RM.get_set] at ho
          by_cases he : id = a
          · subst he
            simp only [if_true, Option.some.injEq] at ho; subst ho
            refine ⟨rfl, Nat.le_refl _, _, _, upd_same, hb, cells, e', fz, rfl, hz, hk0, rfl, fun i' hi' f kd hf => ?_⟩
            rw [hcs i' hi' f kd hf]
            have hf' : f < ks.length := (List.getElem?_eq_some_iff.1 hf).1
            rw [hsel id f i' (by omega) (by omega), Int.toNat_natCast]
          · rw [if_neg he] at ho
            exact sim1 _ a o ho
end

/-- what the variables stand for: the arguments' numbers, behind them the lists' cells -/
def rho0 (ns : List Int) (Ls : Nat → Nat → Nat → Int) : Nat → Int := fun i => (ns[i]?).getD (Ls ((i - 1000) % 16) ((i - 1000) / 16 % 64) ((i - 1000) / 16 / 64))
theorem rho0_at {ns : List Int} {Ls : Nat → Nat → Nat → Int} {j : Nat} {n : Int} (h : ns[j]? = some n) : rho0 ns Ls j = n := by simp [rho0, h]
theorem rho0_sel {ns : List Int} {Ls : Nat → Nat → Nat → Int} (hl : ns.length ≤ 1000) {j f : Nat} {i : Int} (hj : j < 16) (hf : f < 64) : rho0 ns Ls (selI j f i) = Ls j f i.toNat := by
  unfold rho0 selI
  rw [List.getElem?_eq_none (by omega)]
  have e1 : (1000 + ((i.toNat * 64 + f) * 16 + j) - 1000) % 16 = j := by omega
  have e2 : (1000 + ((i.toNat * 64 + f) * 16 + j) - 1000) / 16 = i.toNat * 64 + f := by omega
  rw [e1, e2]
  have e3 : (i.toNat * 64 + f) % 64 = f := by omega
  have e4 : (i.toNat * 64 + f) / 64 = i.toNat := by omega
  rw [e3, e4]; rfl
theorem InD.len : ∀ {l : List (Int × Int)} {ns : List Int}, InD l ns → ns.length = l.length
  | [], _, h => by simp only [InD] at h; subst h; rfl
  | r :: l, _, ⟨n, ns', h0, _, _, h3⟩ => by subst h0; simp [h3.len]
theorem rho0_ok {l : List (Int × Int)} {ns : List Int} {Ls : Nat → Nat → Nat → Int} (h : InD l ns) : ∀ i p, l[i]? = some p → p.1 ≤ rho0 ns Ls i ∧ rho0 ns Ls i ≤ p.2 := fun i p hp => by
  have := h.at i p hp
  have hi : i < ns.length := by rw [h.len]; exact (List.getElem?_eq_some_iff.1 hp).1
  rw [rho0_at (List.getElem?_eq_getElem hi)]
  rw [List.getD_eq_getElem?_getD, List.getElem?_eq_getElem hi] at this
  exact this
theorem start_ofX {P : Program} {W : World} {Ls : Nat → Nat → Nat → Int} {ss : List Sh} {l : List (Int × Int)} {vs : List Value} {ns ms : List Int} (hv : ShsOk P W Ls ss 0 vs ns) (hin : InD l (ns ++ ms)) (hle : l.length ≤ 1000) (hls : nls ss ≤ 16) :
    @Strt (enOf l (rho0 (ns ++ ms) Ls) (rho0_ok hin)) P W (sgOf ss vs 0) (symH ss 0 0 l) 0 (nls ss) (symAs ss 0 0 l) vs := by
  letI : En := enOf l (rho0 (ns ++ ms) Ls) (rho0_ok hin)
  refine symAs_sound (Ls := Ls) (fun j f i hj hf => rho0_sel (by rw [hin.len]; exact hle) hj hf) hv hin (fun j m hj => ?_) (by omega)
  rw [Nat.zero_add]; exact rho0_at hj
theorem start_of {P : Program} {W : World} {Ls : Nat → Nat → Nat → Int} {ss : List Sh} {l : List (Int × Int)} {vs : List Value} {ns : List Int} (hv : ShsOk P W Ls ss 0 vs ns) (hin : InD l ns) (hle : l.length ≤ 1000) (hls : nls ss ≤ 16) :
    @Strt (enOf l (rho0 ns Ls) (rho0_ok hin)) P W (sgOf ss vs 0) (symH ss 0 0 l) 0 (nls ss) (symAs ss 0 0 l) vs := by
  letI : En := enOf l (rho0 ns Ls) (rho0_ok hin)
  refine symAs_sound (Ls := Ls) (ms := []) (fun j f i hj hf => rho0_sel (by rw [hin.len]; exact hle) hj hf) hv (by rw [List.append_nil]; exact hin) (fun j m hj => ?_) (by omega)
  rw [Nat.zero_add]; exact rho0_at (by rwa [List.append_nil] at hj)

/-- **THE FRAME OF A PLAIN LAW**: her arguments lie in a box; in it all ways end well. -/
theorem plain_law {P : Program} (hmo : P.follows .mixedOrders = true) (hgo : NoGo P) {G : Know} {f n : Nat} {ss : List Sh} {l : List (Int × Int)}
    (hG : ∀ rho ok, @ConOk (enOf l rho ok) P (@Fin (enOf l rho ok)) G)
    (H : ∀ rho ok, @bad (enOf l rho ok) (callL P G (@runF (enOf l rho ok) P G n) 0 f (symAs ss 0 0 l) (symH ss 0 0 l) (nls ss) okK) ⟨[], [], false⟩ = [])
    {w : World} {Ls : Nat → Nat → Nat → Int} {vs : List Value} {ns : List Int} (hv : ShsOk P w Ls ss 0 vs ns) (hin : InD l ns) (hle : Nat.ble l.length 1000 = true) (hls : Nat.ble (nls ss) 16 = true) : Calls P f vs.toArray w fun e w' => e = .returned (.bool true) ∧ Below w.heap.size w w' := by
  have st := start_of hv hin (Nat.le_of_ble_eq_true hle) (Nat.le_of_ble_eq_true hls)
  letI : En := enOf l (rho0 ns Ls) (rho0_ok hin)
  exact law_of hmo hgo (hG _ _) (pt := ⟨[], [], false⟩) ⟨(by intro p hp; cases hp), (by intro p hp; cases hp), rfl⟩ (H _ _) st.vr w st.sim' st.fr' st.lone

/-- no box among 'xs' holds the numbers -/
def NotIn (xs : List (List (Int × Int))) (ns : List Int) : Prop := ∀ b ∈ xs, ¬ ∀ i r, b[i]? = some r → r.1 ≤ ns.getD i 0 ∧ ns.getD i 0 ≤ r.2
/-- .. with answers that are known, and with boxes that are left out -/
theorem plain_lawX {P : Program} (hmo : P.follows .mixedOrders = true) (hgo : NoGo P) {G : Know} {f n : Nat} {ss : List Sh} {l : List (Int × Int)} {xs : List (List (Int × Int))}
    (H : ∀ rho ok, @badX (enOf l rho ok) xs (callL P G (@runF (enOf l rho ok) P G n) 0 f (symAs ss 0 0 l) (symH ss 0 0 l) (nls ss) okK) ⟨[], [], false⟩ = [])
    {w : World} {Ls : Nat → Nat → Nat → Int} {vs : List Value} {ns : List Int} (hv : ShsOk P w Ls ss 0 vs ns) (hin : InD l ns) (hG : @ConOk (enOf l (rho0 ns Ls) (rho0_ok hin)) P (@Fin (enOf l (rho0 ns Ls) (rho0_ok hin))) G)
    (hx : @OutB (enOf l (rho0 ns Ls) (rho0_ok hin)) xs) (hle : Nat.ble l.length 1000 = true) (hls : Nat.ble (nls ss) 16 = true) : Calls P f vs.toArray w fun e w' => e = .returned (.bool true) ∧ Below w.heap.size w w' := by
  have st := start_of hv hin (Nat.le_of_ble_eq_true hle) (Nat.le_of_ble_eq_true hls)
  letI : En := enOf l (rho0 ns Ls) (rho0_ok hin)
  have hF := badX_sound (xs := xs) hx (pt := ⟨[], [], false⟩) ⟨(by intro p hp; cases hp), (by intro p hp; cases hp), rfl⟩ (o := callL P G (runF P G n) 0 f (symAs ss 0 0 l) (symH ss 0 0 l) (nls ss) okK) (by rw [H _ _]; intro p hp; cases hp)
  exact law_fin hmo hgo hG hF st.vr w st.sim' st.fr' st.lone
theorem NotIn.out {xs : List (List (Int × Int))} {ns : List Int} {Ls : Nat → Nat → Nat → Int} {l : List (Int × Int)} {ok} (h : NotIn xs ns) (hl : ∀ b ∈ xs, b.length ≤ ns.length) : @OutB (enOf l (rho0 ns Ls) ok) xs := fun b hb hk => h b hb fun i r hr => by
  have hi : i < ns.length := Nat.lt_of_lt_of_le (List.getElem?_eq_some_iff.1 hr).1 (hl b hb)
  have := hk i r hr
  have e : rho0 ns Ls i = ns.getD i 0 := by
    rw [rho0_at (List.getElem?_eq_getElem hi), List.getD_eq_getElem?_getD, List.getElem?_eq_getElem hi]; rfl
  rw [← e]; exact this

/-! ### Boxes -/
noncomputable def fullK : Kd → Int × Int
  | .int k => (kLo k, kHi k)
  | .bool => (0, 1)
noncomputable def fullD : List Sh → List (Int × Int)
  | [] => []
  | .one k :: ss => fullK k :: fullD ss
  | .agg ks :: ss => ks.map fullK ++ fullD ss
  | .lst _ _ :: ss => (0, 9223372036854775807) :: fullD ss
theorem InD.append : ∀ {a b : List (Int × Int)} {ns ms : List Int}, InD a ns → InD b ms → InD (a ++ b) (ns ++ ms)
  | [], b, ns, ms, h, k => by simp only [InD] at h; subst h; exact k
  | r :: a, b, ns, ms, ⟨n, ns', h0, h1, h2, h3⟩, k => by subst h0; exact ⟨n, ns' ++ ms, rfl, h1, h2, h3.append k⟩
theorem Kd1.full {k : Kd} {v : Value} {n : Int} (h : Kd1 k v n) : (fullK k).1 ≤ n ∧ n ≤ (fullK k).2 := by
  cases k with
  | int k => exact h.2
  | bool => rcases h with ⟨_, rfl⟩ | ⟨_, rfl⟩ <;> simp [fullK]
theorem KdOk.full : ∀ {ks : List Kd} {vs : List Value} {ns : List Int}, KdOk ks vs ns → InD (ks.map fullK) ns
  | [], vs, ns, ⟨_, h⟩ => h
  | k :: ks, vs, ns, ⟨v, vs', n, ns', h1, h2, h3, h4⟩ => ⟨n, ns', h2, h3.full.1, h3.full.2, h4.full⟩
theorem ShsOk.full {P : Program} {W : World} {Ls : Nat → Nat → Nat → Int} : ∀ {ss : List Sh} {id : Nat} {vs : List Value} {ns : List Int}, ShsOk P W Ls ss id vs ns → InD (fullD ss) ns
  | [], _, vs, ns, ⟨_, h⟩ => h
  | .lst ks e :: ss, _, vs, ns, ⟨v, vs', n1, n2, h1, h2, ⟨n, hn, hmx, _⟩, h4⟩ => by
    subst h2; subst hn
    have : maxLen ≤ 9223372036854775807 := by decide
    exact ⟨n, n2, rfl, by omega, by omega, h4.full⟩
  | .one k :: ss, _, vs, ns, ⟨v, vs', n1, n2, h1, h2, ⟨n, hn, h3⟩, h4⟩ => by
    subst h2; subst hn
    exact ⟨n, n2, rfl, h3.full.1, h3.full.2, h4.full⟩
  | .agg ks :: ss, _, vs, ns, ⟨v, vs', n1, n2, h1, h2, ⟨cs, hc, h3⟩, h4⟩ => by
    subst h2
    exact h3.full.append h4.full
theorem ShsOk.len {P : Program} {W : World} {Ls : Nat → Nat → Nat → Int} : ∀ {ss : List Sh} {id : Nat} {vs : List Value} {ns : List Int}, ShsOk P W Ls ss id vs ns → vs.length = ss.length
  | [], _, vs, ns, ⟨h, _⟩ => by subst h; rfl
  | s :: ss, _, vs, ns, ⟨v, vs', n1, n2, h1, h2, h3, h4⟩ => by subst h1; simp [h4.len]
def InB : List (Int × Int) → List Int → Prop
  | [], ns => match ns with
    | [] => True
    | _ :: _ => False
  | r :: l, ns => match ns with
    | [] => False
    | n :: ns => r.1 ≤ n ∧ n ≤ r.2 ∧ InB l ns
theorem InB.ind : ∀ {l : List (Int × Int)} {ns : List Int}, InB l ns → InD l ns
  | [], [], _ => rfl
  | [], _ :: _, h => h.elim
  | r :: l, [], h => h.elim
  | r :: l, n :: ns, h => ⟨n, ns, rfl, h.1, h.2.1, h.2.2.ind⟩
def Alls {α : Type} (p : α → Prop) : List α → Prop
  | [] => True
  | a :: l => p a ∧ Alls p l
def Somes {α : Type} (p : α → Prop) : List α → Prop
  | [] => False
  | a :: l => p a ∨ Somes p l
theorem Somes.get {α : Type} {p q : α → Prop} : ∀ {l : List α}, Alls q l → Somes p l → ∃ a, p a ∧ q a
  | [], _, h => h.elim
  | a :: l, k, .inl h => ⟨a, h, k.1⟩
  | a :: l, k, .inr h => Somes.get k.2 h
/-- what is to be reckoned of a box -/
def BoxOk (P : Program) (G : Know) (f n : Nat) (ss : List Sh) (l : List (Int × Int)) : Prop :=
  ∀ rho ok, @bad (enOf l rho ok) (callL P G (@runF (enOf l rho ok) P G n) 0 f (symAs ss 0 0 l) (symH ss 0 0 l) (nls ss) okK) ⟨[], [], false⟩ = []
theorem nogo_of {P : Program} (h : (P.funcs.toList.all fun fn => fn.name != "runtime.NumGoroutine") = true) : NoGo P := fun f fn hf => by
  rw [List.all_eq_true] at h
  have hm : fn ∈ P.funcs.toList := by
    rw [← Array.getElem?_toList] at hf
    exact List.mem_of_getElem? hf
  simpa using h fn hm
end Go.Proofs.Ytigilihpofafoaa.Loc
