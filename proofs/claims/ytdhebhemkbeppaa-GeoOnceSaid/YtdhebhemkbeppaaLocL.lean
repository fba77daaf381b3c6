/- The small machine of local values: the frame of a law whose arguments are plain: whole numbers, truths, structs and arrays of them. -/
import Derived.Test.YtdhebhemkbeppaaLocX
import Derived.WalkKit
import Derived.ProofKit
import Derived.OpenShut
import Derived.ShutString
import Derived.ChangeOld
import Derived.Below
namespace Go.Proofs.Ytdhebhemkbeppaa.Loc
open Go Go.RowKit
set_option linter.unusedVariables false
set_option linter.unusedSimpArgs false
set_option linter.unusedSectionVars false

/-! ### The law's answer -/
noncomputable def okK : KV := fun v _ _ =>
  match v with
  | .bool b => lif b (.fin .normal ⟨.nil, 0, .nil, 0, [], 0⟩) (.stuck "false")
  | .sbl b => brS b (.fin .normal ⟨.nil, 0, .nil, 0, [], 0⟩) (.stuck "false")
  | _ => .stuck "no truth"
section
variable [En]
theorem Fin.not_stuck {s : String} : ¬ Fin (.stuck s) := Fin.good.s s
theorem okK_true {v : LV} {h : LH} {nx : Nat} (H : Fin (okK v h nx)) {σ : Sg} {x : Value} (hv : VR σ v x) : x = .bool true := by
  unfold okK at H
  split at H
  · rename_i b
    obtain ⟨hb, _⟩ := of_lif Fin.good H
    subst hb; exact hv
  · rename_i b
    rcases of_br Fin.good H with ⟨hb, _⟩ | ⟨_, H⟩
    · simp only [VR] at hv; rw [hv, hb]
    · exact absurd H Fin.not_stuck
  · exact absurd H Fin.not_stuck
theorem law_of {P : Program} (hmo : P.follows .mixedOrders = true) (hgo : NoGo P) {G : Know} (hG : ConOk P Fin G) {f n : Nat} {args : List LV} {pt : Pth} (hp : PtOk pt)
    (H : bad (callL P G (run P G n) 0 f args .nil 0 okK) pt = []) {vals : List Value} (hv : VRs (fun _ => none) args vals) (w : World) :
    Calls P f vals.toArray w fun e w' => e = .returned (.bool true) ∧ Below w.heap.size w w' := by
  have hF := bad_sound hp (o := callL P G (run P G n) 0 f args .nil 0 okK) (by rw [H]; simp)
  have hsim : Sim P 0 (fun _ => none) .nil w := fun id o h => by rw [RM.get_nil] at h; cases h
  have hfr : Fr 0 (fun _ => none) 0 := ⟨Nat.le_refl _, fun _ _ => rfl⟩
  obtain ⟨_, hc⟩ := callL_sound Fin.good hgo hG (run_sound Fin.good hmo hgo hG n) 0 f args .nil 0 okK hF (fun _ => none) w vals hv hsim hfr
  rw [← callsIn_wide (n := 0)]
  refine hc.mono fun e w' he => ?_
  obtain ⟨x, rfl, v, h', nx', σ', q1, q2, q3, q4, q5⟩ := he
  refine ⟨by rw [okK_true q1 q2], q5.os, q5.tape, q5.output, q5.size, fun b hb => q5.frame b hb fun id o p hg => ?_⟩
  rw [RM.get_nil] at hg; cases hg
theorem ConOk.none {P : Program} {Φ : Out → Prop} {wr : FuncId → Bool} : ConOk P Φ ⟨fun _ => .none, wr⟩ := fun f g h => by cases h
end

theorem nbeq_t {a b : Nat} : (Nat.beq a b = true) ↔ a = b := by simp
theorem condF {a b : Bool} (h : cond a b false = true) : a = true ∧ b = true := by
  cases a
  · cases h
  · exact ⟨rfl, h⟩
/-! ### Plain types -/
inductive Kd where
  | int (k : IntKind)
  | bool
def Kd1 : Kd → Value → Int → Prop
  | .int k, v, n => v = .int k n ∧ kLo k ≤ n ∧ n ≤ kHi k
  | .bool, v, n => (v = .bool true ∧ n = 1) ∨ (v = .bool false ∧ n = 0)
def KdOk : List Kd → List Value → List Int → Prop
  | [], vs, ns => vs = [] ∧ ns = []
  | k :: ks, vs, ns => ∃ v vs' n ns', vs = v :: vs' ∧ ns = n :: ns' ∧ Kd1 k v n ∧ KdOk ks vs' ns'
theorem KdOk.append : ∀ {a b : List Kd} {vs us : List Value} {ns ms : List Int}, KdOk a vs ns → KdOk b us ms → KdOk (a ++ b) (vs ++ us) (ns ++ ms)
  | [], b, vs, us, ns, ms, ⟨h1, h2⟩, k => by subst h1; subst h2; exact k
  | x :: a, b, vs, us, ns, ms, ⟨v, vs', n, ns', h1, h2, h3, h4⟩, k => by
    subst h1; subst h2
    exact ⟨v, vs' ++ us, n, ns' ++ ms, rfl, rfl, h3, h4.append k⟩
def repL {α : Type} : Nat → List α → List α
  | 0, _ => []
  | n + 1, l => l ++ repL n l
noncomputable def flatFs (P : Program) (rec : TypeId → Option (List Kd)) : List Field → Nat → Option (List Kd)
  | [], _ => some []
  | f :: fs, o => cond (Nat.beq f.offset o) (match rec f.type, flatFs P rec fs (o + P.cellsOf f.type) with
    | some a, some b => cond (Nat.beq a.length (P.cellsOf f.type)) (some (a ++ b)) none
    | _, _ => none) none
noncomputable def flat (P : Program) : Nat → TypeId → Option (List Kd)
  | 0, _ => none
  | d + 1, t => match P.underlying t with
    | some .bool => some [.bool]
    | some (.int k) => some [.int k]
    | some (.struct fs) => (match flatFs P (flat P d) fs.toList 0 with
      | some ks => cond (Nat.beq ks.length (P.cellsOf t)) (some ks) none
      | none => none)
    | some (.array n e) => (match flat P d e with
      | some ks => cond (cond (Nat.beq ks.length (P.cellsOf e)) (Nat.beq (n * P.cellsOf e) (P.cellsOf t)) false) (some (repL n ks)) none
      | none => none)
    | _ => none

section
variable {H : Type} {enc : TypeId × Value → H} {P : Program} {w : World} {base : Nat} {spare : Nat → Bool} {held : Bool}
theorem wf_rg {k : IntKind} {n : Int} (h : (Lit.int k n).wf = true) : kLo k ≤ n ∧ n ≤ kHi k := by
  simp only [Lit.wf, Bool.and_eq_true, decide_eq_true_eq] at h
  cases k <;> simp [IntKind.min, IntKind.max, IntKind.bits, IntKind.signed] at h <;> simp [kLo, kHi] <;> omega
theorem mapM_some {α β : Type} {g : α → Option β} {a : α} {l : List α} {xs : List β} (h : (a :: l).mapM g = some xs) : ∃ y ys, g a = some y ∧ l.mapM g = some ys ∧ xs = y :: ys := by
  rw [List.mapM_cons] at h
  cases ha : g a with
  | none => rw [ha] at h; cases h
  | some y =>
    rw [ha] at h
    cases hl : l.mapM g with
    | none => rw [hl] at h; cases h
    | some ys =>
      rw [hl] at h
      exact ⟨y, ys, rfl, rfl, by cases h; rfl⟩
theorem range_get {β : Type} {g : Nat → Option β} {n : Nat} {xs : List β} (h : (List.range n).mapM g = some xs) (i : Nat) (hi : i < n) : ∃ y, g i = some y := by
  have key : ∀ (l : List Nat) (xs : List β), l.mapM g = some xs → ∀ i ∈ l, ∃ y, g i = some y := by
    intro l
    induction l with
    | nil => intro xs _ i hi; cases hi
    | cons a l ih =>
      intro xs h i hi
      obtain ⟨y, ys, h1, h2, _⟩ := mapM_some h
      rcases List.mem_cons.1 hi with rfl | hi
      · exact ⟨y, h1⟩
      · exact ih ys h2 i hi
  exact key _ _ h i (List.mem_range.2 hi)
theorem flatFs_sound {rec : TypeId → Option (List Kd)} {fuel : Nat} (hrec : ∀ t ks cs x, rec t = some ks → DataW.trod enc P w base spare held fuel t cs = some x → ∃ ns, KdOk ks cs ns) {cs : List Value} :
    ∀ (fs : List Field) (o : Nat) (ks : List Kd) (xs : List (DataW H × List MemPlace)), flatFs P rec fs o = some ks → (fs.mapM fun f => DataW.trod enc P w base spare held fuel f.type ((cs.drop f.offset).take (P.cellsOf f.type))) = some xs →
      ∃ ns, KdOk ks ((cs.drop o).take ks.length) ns
  | [], o, ks, xs, h, _ => by
    simp only [flatFs, Option.some.injEq] at h; subst h
    exact ⟨[], by simp, rfl⟩
  | f :: fs, o, ks, xs, h, hm => by
    unfold flatFs at h
    cases ho : Nat.beq f.offset o with
    | false => simp [ho] at h
    | true =>
      rw [nbeq_t] at ho; subst ho
      simp only [Nat.beq_refl, cond_true] at h
      obtain ⟨y, ys, h1, h2, _⟩ := mapM_some hm
      cases ha : rec f.type with
      | none => simp [ha] at h
      | some a =>
        cases hb : flatFs P rec fs (f.offset + P.cellsOf f.type) with
        | none => simp [ha, hb] at h
        | some b =>
          simp only [ha, hb] at h
          cases hl : Nat.beq a.length (P.cellsOf f.type) with
          | false => simp [hl] at h
          | true =>
            simp only [hl, cond_true, Option.some.injEq] at h; subst h
            rw [nbeq_t] at hl
            obtain ⟨n1, k1⟩ := hrec _ _ _ _ ha h1
            obtain ⟨n2, k2⟩ := flatFs_sound hrec fs _ _ _ hb h2
            refine ⟨n1 ++ n2, ?_⟩
            have := k1.append k2
            rw [List.length_append]
            have e : List.take (a.length + b.length) (List.drop f.offset cs) = List.take (P.cellsOf f.type) (List.drop f.offset cs) ++ List.take b.length (List.drop (f.offset + P.cellsOf f.type) cs) := by
              rw [List.take_add, hl, List.drop_drop]
            rw [e]; exact this
theorem repL_sound {ks : List Kd} {cs : List Value} {sz : Nat} (hl : ks.length = sz) : ∀ (n i : Nat), (∀ j, j < n → ∃ ns, KdOk ks ((cs.drop ((i + j) * sz)).take sz) ns) → ∃ ns, KdOk (repL n ks) ((cs.drop (i * sz)).take (n * sz)) ns
  | 0, i, h => ⟨[], by simp, rfl⟩
  | n + 1, i, h => by
    obtain ⟨n1, k1⟩ := h 0 (by omega)
    obtain ⟨n2, k2⟩ := repL_sound hl n (i + 1) fun j hj => by
      have := h (j + 1) (by omega)
      rw [show i + 1 + j = i + (j + 1) by omega]; exact this
    refine ⟨n1 ++ n2, ?_⟩
    have := k1.append k2
    have e : List.take ((n + 1) * sz) (List.drop (i * sz) cs) = List.take sz (List.drop ((i + 0) * sz) cs) ++ List.take (n * sz) (List.drop ((i + 1) * sz) cs) := by
      rw [show (n + 1) * sz = sz + n * sz by rw [Nat.add_mul, Nat.one_mul, Nat.add_comm], List.take_add, List.drop_drop, Nat.add_zero, Nat.add_mul, Nat.one_mul]
    show KdOk (ks ++ repL n ks) _ _
    rw [e]; exact this
theorem flat_sound : ∀ (d : Nat) (t : TypeId) (ks : List Kd) (fuel : Nat) (cs : List Value) (x : DataW H × List MemPlace), flat P d t = some ks → DataW.trod enc P w base spare held fuel t cs = some x → ∃ ns, KdOk ks cs ns
  | 0, t, ks, fuel, cs, x, h, _ => by cases h
  | d + 1, t, ks, 0, cs, x, _, h => by simp [DataW.trod] at h
  | d + 1, t, ks, fuel + 1, cs, x, h, hx => by
    unfold flat at h
    cases hu : P.underlying t with
    | none => simp [hu] at h
    | some ty =>
      rw [hu] at h
      cases ty with
      | bool =>
        simp only [Option.some.injEq] at h; subst h
        match cs, hx with
        | [], hx => simp [DataW.trod, hu] at hx
        | [v], hx =>
          cases v with
          | bool b =>
            cases b with
            | true => exact ⟨[1], _, _, _, _, rfl, rfl, .inl ⟨rfl, rfl⟩, rfl, rfl⟩
            | false => exact ⟨[0], _, _, _, _, rfl, rfl, .inr ⟨rfl, rfl⟩, rfl, rfl⟩
          | _ => simp [DataW.trod, hu] at hx
        | v :: u :: l, hx => simp [DataW.trod, hu] at hx
      | int k =>
        simp only [Option.some.injEq] at h; subst h
        match cs, hx with
        | [], hx => simp [DataW.trod, hu] at hx
        | [v], hx =>
          cases v with
          | int k' n =>
            simp [DataW.trod, hu] at hx
            obtain ⟨⟨rfl, hw⟩, _⟩ := hx
            exact ⟨[n], _, _, _, _, rfl, rfl, ⟨rfl, wf_rg hw⟩, rfl, rfl⟩
          | _ => simp [DataW.trod, hu] at hx
        | v :: u :: l, hx => simp [DataW.trod, hu] at hx
      | struct fs =>
        simp only at h
        cases hf : flatFs P (flat P d) fs.toList 0 with
        | none => simp [hf] at h
        | some ks' =>
          simp only [hf] at h
          cases hl : Nat.beq ks'.length (P.cellsOf t) with
          | false => simp [hl] at h
          | true =>
            simp only [hl, cond_true, Option.some.injEq] at h; subst h
            rw [nbeq_t] at hl
            simp only [DataW.trod, hu] at hx
            split at hx
            · rename_i hc
              cases hm : (fs.toList.mapM fun f => DataW.trod enc P w base spare held fuel f.type ((cs.drop f.offset).take (P.cellsOf f.type))) with
              | none => rw [hm] at hx; cases hx
              | some xs =>
                obtain ⟨ns, hns⟩ := flatFs_sound (fun t ks cs x h1 h2 => flat_sound d t ks fuel cs x h1 h2) _ _ _ _ hf hm
                refine ⟨ns, ?_⟩
                rw [List.drop_zero, hl, ← hc, List.take_length] at hns
                exact hns
            · cases hx
      | array n e =>
        simp only at h
        cases hf : flat P d e with
        | none => simp [hf] at h
        | some ks' =>
          simp only [hf] at h
          cases hl : cond (Nat.beq ks'.length (P.cellsOf e)) (Nat.beq (n * P.cellsOf e) (P.cellsOf t)) false with
          | false => simp [hl] at h
          | true =>
            obtain ⟨h1, h2⟩ := condF hl
            simp only [hl, cond_true, Option.some.injEq] at h; subst h
            rw [nbeq_t] at h1 h2
            simp only [DataW.trod, hu] at hx
            split at hx
            · rename_i hc
              cases hm : ((List.range n).mapM fun i => DataW.trod enc P w base spare held fuel e ((cs.drop (i * P.cellsOf e)).take (P.cellsOf e))) with
              | none => rw [hm] at hx; cases hx
              | some xs =>
                obtain ⟨ns, hns⟩ := repL_sound (cs := cs) h1 n 0 fun j hj => by
                  obtain ⟨y, hy⟩ := range_get hm j hj
                  rw [Nat.zero_add]
                  exact flat_sound d e ks' fuel _ y hf hy
                refine ⟨ns, ?_⟩
                rw [Nat.zero_mul, List.drop_zero, h2, ← hc, List.take_length] at hns
                exact hns
            · cases hx
      | _ => simp at h
end

/-! ### Arguments -/
inductive Sh where
  | one (k : Kd)
  | agg (ks : List Kd)
noncomputable def shOf (P : Program) (t : TypeId) : Option Sh :=
  match P.underlying t with
  | some .bool => some (.one .bool)
  | some (.int k) => some (.one (.int k))
  | some (.struct _) => (flat P 20 t).map .agg
  | some (.array _ _) => (flat P 20 t).map .agg
  | _ => none
def ShOk : Sh → Value → List Int → Prop
  | .one k, v, ns => ∃ n, ns = [n] ∧ Kd1 k v n
  | .agg ks, v, ns => ∃ cs : List Value, v = .agg cs.toArray ∧ KdOk ks cs ns
theorem sh_sound {H : Type} {enc : TypeId × Value → H} {P : Program} {W : World} {base : Nat} {spare : Nat → Bool} {held : Bool} {r : Reach} {b0 : Nat} {t : TypeId} {v : Value} {d : DataW H} {ps : List MemPlace}
    (hval : Value.okWide P W r b0 t v) (hd : DataW.Trod enc P W base spare held t v d ps) {sh : Sh} (hs : shOf P t = some sh) : ∃ ns, ShOk sh v ns := by
  obtain ⟨fuel, hx⟩ := hd
  unfold shOf at hs
  cases hu : P.underlying t with
  | none => simp [hu] at hs
  | some ty =>
    rw [hu] at hs
    have agg : (∃ cs, v = .agg cs) → (flat P 20 t).map Sh.agg = some sh → ∃ ns, ShOk sh v ns := fun ⟨cs, hc⟩ hs => by
      cases hf : flat P 20 t with
      | none => simp [hf] at hs
      | some ks =>
        simp only [hf, Option.map_some, Option.some.injEq] at hs; subst hs
        subst hc
        obtain ⟨ns, hns⟩ := flat_sound 20 t ks fuel _ _ hf hx
        exact ⟨ns, cs.toList, by simp, by simpa [Value.cells] using hns⟩
    cases ty with
    | bool =>
      simp only [Option.some.injEq] at hs; subst hs
      obtain ⟨b, rfl⟩ := WideShapes.okWide_bool hu hval
      cases b with
      | true => exact ⟨[1], 1, rfl, .inl ⟨rfl, rfl⟩⟩
      | false => exact ⟨[0], 0, rfl, .inr ⟨rfl, rfl⟩⟩
    | int k =>
      simp only [Option.some.injEq] at hs; subst hs
      obtain ⟨n, rfl⟩ := WideShapes.okWide_int hu hval
      obtain ⟨ns, hns⟩ := flat_sound 1 t [.int k] fuel _ _ (by simp [flat, hu]) hx
      simp only [Value.cells] at hns
      obtain ⟨v, vs', n', ns', h1, h2, h3, h4⟩ := hns
      simp at h1
      obtain ⟨rfl, rfl⟩ := h1
      obtain ⟨_, rfl⟩ := h4
      exact ⟨_, n', h2, h3⟩
    | struct fs =>
      obtain ⟨cs, hc, _⟩ := WideShapes.okWide_struct hu hval
      exact agg ⟨cs, hc⟩ hs
    | array n e =>
      have : ∃ cs, v = .agg cs := by
        simp only [Value.okWide, hu] at hval
        obtain ⟨cs, hc, _⟩ := hval
        exact ⟨cs, hc⟩
      exact agg this hs
    | _ => simp at hs

/-! ### Open arguments -/
noncomputable def symC (k : Kd) (i : Nat) (r : Int × Int) : LV :=
  match k with
  | .int k => cond (iBeq r.1 r.2) (.int k r.1) (.sym k (.v i))
  | .bool => cond (iBeq r.1 r.2) (.bool (cond (iBeq r.1 0) false true)) (.sbl (.eq (.v i) (.c 1)))
noncomputable def symCs : List Kd → Nat → List (Int × Int) → List LV × List (Int × Int)
  | [], _, l => ([], l)
  | k :: ks, i, r :: l => (symC k i r :: (symCs ks (i + 1) l).1, (symCs ks (i + 1) l).2)
  | _ :: _, _, [] => ([], [])
noncomputable def symAs : List Sh → Nat → List (Int × Int) → List LV
  | [], _, _ => []
  | .one k :: shs, i, r :: l => symC k i r :: symAs shs (i + 1) l
  | .one _ :: _, _, [] => []
  | .agg ks :: shs, i, l => .agg (symCs ks i l).1 :: symAs shs (i + ks.length) (symCs ks i l).2
def InD : List (Int × Int) → List Int → Prop
  | [], ns => ns = []
  | r :: l, ns => ∃ n ns', ns = n :: ns' ∧ r.1 ≤ n ∧ n ≤ r.2 ∧ InD l ns'
theorem InD.at : ∀ {l : List (Int × Int)} {ns : List Int}, InD l ns → ∀ i p, l[i]? = some p → p.1 ≤ ns.getD i 0 ∧ ns.getD i 0 ≤ p.2
  | [], _, _, i, p, h => by simp at h
  | r :: l, _, ⟨n, ns', h0, h1, h2, h3⟩, i, p, h => by
    subst h0
    cases i with
    | zero => simp at h; subst h; simpa using ⟨h1, h2⟩
    | succ i => simpa using h3.at i p (by simpa using h)
@[reducible] def enOf (l : List (Int × Int)) (rho : Nat → Int) (ok : ∀ i p, l[i]? = some p → p.1 ≤ rho i ∧ rho i ≤ p.2) : En := ⟨rho, l, ok⟩

section
variable [En] {σ : Sg}
theorem symC_sound {k : Kd} {i : Nat} {r : Int × Int} {v : Value} {n : Int} (h : Kd1 k v n) (h1 : r.1 ≤ n) (h2 : n ≤ r.2) (hr : En.rho i = n) : VR σ (symC k i r) v := by
  unfold symC
  cases k with
  | int k =>
    obtain ⟨rfl, _⟩ := h
    cases hb : iBeq r.1 r.2 with
    | true =>
      have := iBeq_t hb
      simp only [cond_true, VR]
      congr 1; omega
    | false => simp only [cond_false, VR, SE.ev, hr]
  | bool =>
    cases hb : iBeq r.1 r.2 with
    | true =>
      have hb := iBeq_t hb
      simp only [cond_true, VR]
      rcases h with ⟨rfl, rfl⟩ | ⟨rfl, rfl⟩
      · have : r.1 = 1 := by omega
        rw [this]; rfl
      · have : r.1 = 0 := by omega
        rw [this]; rfl
    | false =>
      simp only [cond_false, VR, SB.ev, SE.ev, hr]
      rcases h with ⟨rfl, rfl⟩ | ⟨rfl, rfl⟩ <;> rfl
theorem symCs_sound : ∀ {ks : List Kd} {i : Nat} {l : List (Int × Int)} {vs : List Value} {ns ms : List Int}, KdOk ks vs ns → InD l (ns ++ ms) → (∀ j n, (ns ++ ms)[j]? = some n → En.rho (i + j) = n) →
    VRs σ (symCs ks i l).1 vs ∧ InD (symCs ks i l).2 ms ∧ ∀ j n, ms[j]? = some n → En.rho (i + ks.length + j) = n
  | [], i, l, vs, ns, ms, ⟨h1, h2⟩, h, hr => by
    subst h1; subst h2
    exact ⟨by simp [symCs, VRs], h, by simpa using hr⟩
  | k :: ks, i, [], vs, ns, ms, ⟨v, vs', n, ns', h1, h2, h3, h4⟩, h, hr => by subst h2; cases h
  | k :: ks, i, r :: l, vs, ns, ms, ⟨v, vs', n, ns', h1, h2, h3, h4⟩, h, hr => by
    subst h1; subst h2
    obtain ⟨n', ns2, e, r1, r2, r3⟩ := h
    simp only [List.cons_append, List.cons.injEq] at e
    obtain ⟨rfl, rfl⟩ := e
    obtain ⟨k1, k2, k3⟩ := symCs_sound (i := i + 1) h4 r3 fun j m hj => by
      have := hr (j + 1) m (by simpa using hj)
      rw [show i + 1 + j = i + (j + 1) by omega]; exact this
    refine ⟨VRs.cons (symC_sound h3 r1 r2 (by simpa using hr 0 n (by simp))) k1, k2, fun j m hj => ?_⟩
    have := k3 j m hj
    rw [List.length_cons, show i + (ks.length + 1) + j = i + 1 + ks.length + j by omega]; exact this
def ShsOk : List Sh → List Value → List Int → Prop
  | [], vs, ns => vs = [] ∧ ns = []
  | s :: ss, vs, ns => ∃ v vs' n1 n2, vs = v :: vs' ∧ ns = n1 ++ n2 ∧ ShOk s v n1 ∧ ShsOk ss vs' n2
theorem symAs_sound : ∀ {ss : List Sh} {i : Nat} {l : List (Int × Int)} {vs : List Value} {ns : List Int}, ShsOk ss vs ns → InD l ns → (∀ j n, ns[j]? = some n → En.rho (i + j) = n) → VRs σ (symAs ss i l) vs
  | [], i, l, vs, ns, ⟨h1, h2⟩, h, hr => by subst h1; simp [symAs, VRs]
  | .one k :: ss, i, l, vs, ns, ⟨v, vs', n1, n2, h1, h2, ⟨n, hn, h3⟩, h4⟩, h, hr => by
    subst h1; subst h2; subst hn
    cases l with
    | nil => cases h
    | cons r l =>
      obtain ⟨n', ns2, e, r1, r2, r3⟩ := h
      simp only [List.cons_append, List.nil_append, List.cons.injEq] at e
      obtain ⟨rfl, rfl⟩ := e
      refine VRs.cons (symC_sound h3 r1 r2 (by simpa using hr 0 n (by simp))) (symAs_sound (i := i + 1) h4 r3 fun j m hj => ?_)
      have := hr (j + 1) m (by simpa using hj)
      rw [show i + 1 + j = i + (j + 1) by omega]; exact this
  | .agg ks :: ss, i, l, vs, ns, ⟨v, vs', n1, n2, h1, h2, ⟨cs, hc, h3⟩, h4⟩, h, hr => by
    subst h1; subst h2; subst hc
    obtain ⟨k1, k2, k3⟩ := symCs_sound (σ := σ) h3 h hr
    exact VRs.cons ⟨cs, rfl, k1⟩ (symAs_sound h4 k2 k3)
end

/-- **THE FRAME OF A PLAIN LAW**: her arguments lie in a box; in it all ways end well. -/
theorem plain_law {P : Program} (hmo : P.follows .mixedOrders = true) (hgo : NoGo P) {G : Know} {f n : Nat} {ss : List Sh} {l : List (Int × Int)}
    (hG : ∀ rho ok, @ConOk (enOf l rho ok) P (@Fin (enOf l rho ok)) G)
    (H : ∀ rho ok, @bad (enOf l rho ok) (callL P G (@run (enOf l rho ok) P G n) 0 f (symAs ss 0 l) .nil 0 okK) ⟨[], [], false⟩ = [])
    {vs : List Value} {ns : List Int} (hv : ShsOk ss vs ns) (hin : InD l ns) (w : World) : Calls P f vs.toArray w fun e w' => e = .returned (.bool true) ∧ Below w.heap.size w w' := by
  have ok := fun i p h => hin.at i p h
  letI : En := enOf l (fun i => ns.getD i 0) ok
  refine law_of hmo hgo (hG _ ok) (pt := ⟨[], [], false⟩) ⟨(by intro p hp; cases hp), (by intro p hp; cases hp), rfl⟩ (H _ ok) (symAs_sound hv hin fun j m hj => ?_) w
  show ns.getD (0 + j) 0 = m
  rw [Nat.zero_add, List.getD_eq_getElem?_getD, hj]; rfl

/-! ### Boxes -/
noncomputable def fullK : Kd → Int × Int
  | .int k => (kLo k, kHi k)
  | .bool => (0, 1)
noncomputable def fullD : List Sh → List (Int × Int)
  | [] => []
  | .one k :: ss => fullK k :: fullD ss
  | .agg ks :: ss => ks.map fullK ++ fullD ss
theorem InD.append : ∀ {a b : List (Int × Int)} {ns ms : List Int}, InD a ns → InD b ms → InD (a ++ b) (ns ++ ms)
  | [], b, ns, ms, h, k => by simp only [InD] at h; subst h; exact k
  | r :: a, b, ns, ms, ⟨n, ns', h0, h1, h2, h3⟩, k => by subst h0; exact ⟨n, ns' ++ ms, rfl, h1, h2, h3.append k⟩
theorem Kd1.full {k : Kd} {v : Value} {n : Int} (h : Kd1 k v n) : (fullK k).1 ≤ n ∧ n ≤ (fullK k).2 := by
  cases k with
  | int k => exact h.2
  | bool => rcases h with ⟨_, rfl⟩ | ⟨_, rfl⟩ <;> simp [fullK]
theorem KdOk.full : ∀ {ks : List Kd} {vs : List Value} {ns : List Int}, KdOk ks vs ns → InD (ks.map fullK) ns
  | [], vs, ns, ⟨_, h⟩ => h
  | k :: ks, vs, ns, ⟨v, vs', n, ns', h1, h2, h3, h4⟩ => ⟨n, ns', h2, h3.full.1, h3.full.2, h4.full⟩
theorem ShsOk.full : ∀ {ss : List Sh} {vs : List Value} {ns : List Int}, ShsOk ss vs ns → InD (fullD ss) ns
  | [], vs, ns, ⟨_, h⟩ => h
  | .one k :: ss, vs, ns, ⟨v, vs', n1, n2, h1, h2, ⟨n, hn, h3⟩, h4⟩ => by
    subst h2; subst hn
    exact ⟨n, n2, rfl, h3.full.1, h3.full.2, h4.full⟩
  | .agg ks :: ss, vs, ns, ⟨v, vs', n1, n2, h1, h2, ⟨cs, hc, h3⟩, h4⟩ => by
    subst h2
    exact h3.full.append h4.full
def InB : List (Int × Int) → List Int → Prop
  | [], ns => match ns with
    | [] => True
    | _ :: _ => False
  | r :: l, ns => match ns with
    | [] => False
    | n :: ns => r.1 ≤ n ∧ n ≤ r.2 ∧ InB l ns
theorem InB.ind : ∀ {l : List (Int × Int)} {ns : List Int}, InB l ns → InD l ns
  | [], [], _ => rfl
  | [], _ :: _, h => h.elim
  | r :: l, [], h => h.elim
  | r :: l, n :: ns, h => ⟨n, ns, rfl, h.1, h.2.1, h.2.2.ind⟩
def Alls {α : Type} (p : α → Prop) : List α → Prop
  | [] => True
  | a :: l => p a ∧ Alls p l
def Somes {α : Type} (p : α → Prop) : List α → Prop
  | [] => False
  | a :: l => p a ∨ Somes p l
theorem Somes.get {α : Type} {p q : α → Prop} : ∀ {l : List α}, Alls q l → Somes p l → ∃ a, p a ∧ q a
  | [], _, h => h.elim
  | a :: l, k, .inl h => ⟨a, h, k.1⟩
  | a :: l, k, .inr h => Somes.get k.2 h
/-- what is to be reckoned of a box -/
def BoxOk (P : Program) (G : Know) (f n : Nat) (ss : List Sh) (l : List (Int × Int)) : Prop :=
  ∀ rho ok, @bad (enOf l rho ok) (callL P G (@run (enOf l rho ok) P G n) 0 f (symAs ss 0 l) .nil 0 okK) ⟨[], [], false⟩ = []
theorem plain_law2 {P : Program} (hmo : P.follows .mixedOrders = true) (hgo : NoGo P) {G : Know} {f n : Nat} {ss : List Sh} {boxes : List (List (Int × Int))}
    (hcover : ∀ (ns : List Int), InD (fullD ss) ns → Somes (fun l => InB l ns) boxes)
    (hG : ∀ l rho ok, @ConOk (enOf l rho ok) P (@Fin (enOf l rho ok)) G)
    (H : Alls (BoxOk P G f n ss) boxes)
    {vs : List Value} {ns : List Int} (hv : ShsOk ss vs ns) (w : World) : Calls P f vs.toArray w fun e w' => e = .returned (.bool true) ∧ Below w.heap.size w w' := by
  obtain ⟨l, h1, h2⟩ := (hcover ns hv.full).get H
  exact plain_law hmo hgo (hG l) h2 hv h1.ind w
theorem nogo_of {P : Program} (h : (P.funcs.toList.all fun fn => fn.name != "runtime.NumGoroutine") = true) : NoGo P := fun f fn hf => by
  rw [List.all_eq_true] at h
  have hm : fn ∈ P.funcs.toList := by
    rw [← Array.getElem?_toList] at hf
    exact List.mem_of_getElem? hf
  simpa using h fn hm
end Go.Proofs.Ytdhebhemkbeppaa.Loc
