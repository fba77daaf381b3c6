/- The small machine of local values: a law with a loop: the state at the loop's stop is told by a template; each round leads from the template to itself, one number higher, or to the end. -/
import Derived.Test.YtigilihpofafoaaLocL2
namespace Go.Proofs.Ytigilihpofafoaa.Loc
open Go Go.RowKit
set_option linter.unusedVariables false
set_option linter.unusedSimpArgs false
set_option linter.unusedSectionVars false

/-! ### Substitution -/
section
variable [En]
noncomputable def SE.sub (s : List SE) : SE → SE
  | .c n => .c n
  | .v i => (s[i]?).getD (.v i)
  | .sel j f k a => .sel j f k (a.sub s)
  | .bin op k a b => mkBin op k (a.sub s) (b.sub s)
  | .wr k a => mkWr k (a.sub s)
noncomputable def SB.sub (s : List SE) : SB → SB
  | .lit b => .lit b
  | .eq a b => mkEq (a.sub s) (b.sub s)
  | .lt a b => mkLt (a.sub s) (b.sub s)
  | .not a => mkNot (a.sub s)
  | .and a b => mkAnd (a.sub s) (b.sub s)
  | .iff a b => mkIff (a.sub s) (b.sub s)
/-- what the variables stand for behind a substitution -/
noncomputable def rhoOf (s : List SE) : Nat → Int := fun i => ((s[i]?).getD (.v i)).ev
theorem rhoOf_far {s : List SE} {i : Nat} (h : s.length ≤ i) : rhoOf s i = En.rho i := by
  unfold rhoOf
  rw [List.getElem?_eq_none h]; rfl
end
theorem selI_far (j f : Nat) (i : Int) : 1000 ≤ selI j f i := Nat.le_add_right _ _
theorem SE.sub_ev {E E' : En} {s : List SE} (h : E'.rho = @rhoOf E s) (hs : s.length ≤ 1000) : ∀ e : SE, @SE.ev E (@SE.sub E s e) = @SE.ev E' e
  | .c n => rfl
  | .v i => by
    show _ = E'.rho i
    rw [h]; rfl
  | .bin op k a b => by
    simp only [SE.sub, mkBin_ev, SE.ev]
    rw [SE.sub_ev h hs a, SE.sub_ev h hs b]
  | .wr k a => by
    simp only [SE.sub, mkWr_ev, SE.ev]
    rw [SE.sub_ev h hs a]
  | .sel j f k a => by
    simp only [SE.sub, SE.ev]
    rw [SE.sub_ev h hs a, h, @rhoOf_far E s _ (Nat.le_trans hs (selI_far _ _ _))]
theorem SB.sub_ev {E E' : En} {s : List SE} (h : E'.rho = @rhoOf E s) (hs : s.length ≤ 1000) : ∀ b : SB, @SB.ev E (@SB.sub E s b) = @SB.ev E' b
  | .lit b => rfl
  | .eq a b => by simp only [SB.sub, mkEq_ev, SB.ev]; rw [SE.sub_ev h hs a, SE.sub_ev h hs b]
  | .lt a b => by simp only [SB.sub, mkLt_ev, SB.ev]; rw [SE.sub_ev h hs a, SE.sub_ev h hs b]
  | .not a => by simp only [SB.sub, mkNot_ev, SB.ev]; rw [SB.sub_ev h hs a]
  | .and a b => by simp only [SB.sub, mkAnd_ev, SB.ev]; rw [SB.sub_ev h hs a, SB.sub_ev h hs b]
  | .iff a b => by simp only [SB.sub, mkIff_ev, SB.ev]; rw [SB.sub_ev h hs a, SB.sub_ev h hs b]

/-! ### A value fits a template's -/
mutual
noncomputable def mat [En] (nx : Nat) (s : List SE) : LV → LV → Bool
  | .undef, _ => true
  | .int k n, .int k' n' => cond (kBeq k k') (iBeq n n') false
  | .sym k e, .int k' n => cond (kBeq k k') ((e.sub s).beq (.c n)) false
  | .sym k e, .sym k' e' => cond (kBeq k k') ((e.sub s).beq e') false
  | .bool b, .bool c => cond b c (cond c false true)
  | .sbl b, .bool c => (b.sub s).beq (.lit c)
  | .sbl b, .sbl c => (b.sub s).beq c
  | .ptr id i off [], .ptr id' i' off' [] => cond (Nat.blt id nx) (cond (Nat.beq id id') (cond (Nat.beq i i') (Nat.beq off off') false) false) false
  | .os id e, .os id' e' => cond (Nat.blt id nx) (cond (Nat.beq id id') ((e.sub s).beq e') false) false
  | .nilp, .nilp => true
  | .nils, .nils => true
  | .nilf, .nilf => true
  | .nilm, .nilm => true
  | .nili, .nili => true
  | .str a, .str b => lBeq a.data.toList b.data.toList
  | .agg cs, .agg ds => mats nx s cs ds
  | .tup cs, .tup ds => mats nx s cs ds
  | _, _ => false
noncomputable def mats [En] (nx : Nat) (s : List SE) : List LV → List LV → Bool
  | [], [] => true
  | a :: l, b :: m => cond (mat nx s a b) (mats nx s l m) false
  | _, _ => false
end
def cut (nx : Nat) (σ : Sg) : Sg := fun id => cond (Nat.blt id nx) (σ id) none
mutual
theorem mat_sound {E E' : En} {nx : Nat} {s : List SE} (h : E'.rho = @rhoOf E s) (hs : s.length ≤ 1000) {σ : Sg} : ∀ (v u : LV) (x : Value), @mat E nx s v u = true → @VR E σ u x → @VR E' (cut nx σ) v x
  | .undef, _, _, _, _ => trivial
  | .int k n, u, x, hm, hv => by
    cases u <;> simp only [mat] at hm <;> first | (cases hm; done) | skip
    obtain ⟨h1, h2⟩ := condF hm
    simp only [VR] at hv ⊢
    rw [hv, kBeq_eq h1, iBeq_t h2]
  | .sym k e, u, x, hm, hv => by
    cases u <;> simp only [mat] at hm <;> first | (cases hm; done) | skip
    · obtain ⟨h1, h2⟩ := condF hm
      have h2 := congrArg (@SE.ev E) (@SE.beq_t E _ _ h2)
      rw [SE.sub_ev h hs] at h2
      simp only [VR] at hv ⊢
      rw [hv, kBeq_eq h1, h2]; rfl
    · obtain ⟨h1, h2⟩ := condF hm
      have h2 := congrArg (@SE.ev E) (@SE.beq_t E _ _ h2)
      rw [SE.sub_ev h hs] at h2
      simp only [VR] at hv ⊢
      rw [hv, kBeq_eq h1, h2]
  | .bool b, u, x, hm, hv => by
    cases u <;> simp only [mat] at hm <;> first | (cases hm; done) | skip
    rename_i c
    simp only [VR] at hv ⊢
    rw [hv]
    cases b <;> cases c <;> first | rfl | cases hm
  | .sbl b, u, x, hm, hv => by
    cases u <;> simp only [mat] at hm <;> first | (cases hm; done) | skip
    · have h2 := congrArg (@SB.ev E) (@SB.beq_t E _ _ hm)
      rw [SB.sub_ev h hs] at h2
      simp only [VR] at hv ⊢
      rw [hv, h2]; rfl
    · have h2 := congrArg (@SB.ev E) (@SB.beq_t E _ _ hm)
      rw [SB.sub_ev h hs] at h2
      simp only [VR] at hv ⊢
      rw [hv, h2]
  | .ptr id i off ix, u, x, hm, hv => by
    cases ix with
    | cons a l => cases u <;> simp only [mat] at hm <;> cases hm
    | nil =>
      cases u with
      | ptr id' i' off' ix' =>
        cases ix' with
        | cons a l => simp only [mat] at hm; cases hm
        | nil =>
          simp only [mat] at hm
          obtain ⟨h0, hm⟩ := condF hm
          obtain ⟨h1, hm⟩ := condF hm
          obtain ⟨h2, h3⟩ := condF hm
          rw [nbeq_t] at h1 h2 h3
          subst h1; subst h2; subst h3
          simp only [VR] at hv ⊢
          obtain ⟨p, hp, r⟩ := hv
          exact ⟨p, by simp only [cut, h0, cond_true]; exact hp, r⟩
      | _ => simp only [mat] at hm; cases hm
  | .nilp, u, x, hm, hv => by cases u <;> simp only [mat] at hm <;> first | (cases hm; done) | exact hv
  | .nils, u, x, hm, hv => by cases u <;> simp only [mat] at hm <;> first | (cases hm; done) | exact hv
  | .nilf, u, x, hm, hv => by cases u <;> simp only [mat] at hm <;> first | (cases hm; done) | exact hv
  | .nilm, u, x, hm, hv => by cases u <;> simp only [mat] at hm <;> first | (cases hm; done) | exact hv
  | .nili, u, x, hm, hv => by cases u <;> simp only [mat] at hm <;> first | (cases hm; done) | exact hv
  | .str a, u, x, hm, hv => by
    cases u <;> simp only [mat] at hm <;> first | (cases hm; done) | skip
    rename_i b
    rw [lBeq_eq, beq_iff_eq] at hm
    simp only [VR] at hv ⊢
    rw [hv]
    congr 1
    cases a; cases b
    simp only [ByteArray.mk.injEq]
    exact (Array.toList_inj.1 hm).symm
  | .agg cs, u, x, hm, hv => by
    cases u <;> simp only [mat] at hm <;> first | (cases hm; done) | skip
    simp only [VR] at hv ⊢
    obtain ⟨xs, rfl, r⟩ := hv
    exact ⟨xs, rfl, mats_sound h hs _ _ _ hm r⟩
  | .tup cs, u, x, hm, hv => by
    cases u <;> simp only [mat] at hm <;> first | (cases hm; done) | skip
    simp only [VR] at hv ⊢
    obtain ⟨xs, rfl, r⟩ := hv
    exact ⟨xs, rfl, mats_sound h hs _ _ _ hm r⟩
  | .sq _ _ _, u, x, hm, hv => by cases u <;> simp only [mat] at hm <;> cases hm
  | .sv _ _ _ _ _, u, x, hm, hv => by cases u <;> simp only [mat] at hm <;> cases hm
  | .pel _ _ _, u, x, hm, hv => by cases u <;> simp only [mat] at hm <;> cases hm
  | .os id e, u, x, hm, hv => by
    cases u <;> simp only [mat] at hm <;> first | (cases hm; done) | skip
    obtain ⟨h0, hm⟩ := condF hm
    obtain ⟨h1, h2⟩ := condF hm
    rw [nbeq_t] at h1
    subst h1
    have h2 := congrArg (@SE.ev E) (@SE.beq_t E _ _ h2)
    rw [SE.sub_ev h hs] at h2
    simp only [VR] at hv ⊢
    rcases hv with ⟨p, hp, hn, r⟩ | ⟨hz, r⟩
    · exact .inl ⟨p, by simp only [cut, h0, cond_true]; exact hp, by rw [h2]; exact hn, r⟩
    · exact .inr ⟨by rw [h2]; exact hz, r⟩
  | .map _, u, x, hm, hv => by cases u <;> simp only [mat] at hm <;> cases hm
  | .fn _ _ _, u, x, hm, hv => by cases u <;> simp only [mat] at hm <;> cases hm
  | .yld _, u, x, hm, hv => by cases u <;> simp only [mat] at hm <;> cases hm
  | .iface _ _, u, x, hm, hv => by cases u <;> simp only [mat] at hm <;> cases hm
theorem mats_sound {E E' : En} {nx : Nat} {s : List SE} (h : E'.rho = @rhoOf E s) (hs : s.length ≤ 1000) {σ : Sg} : ∀ (vs us : List LV) (xs : List Value), @mats E nx s vs us = true → @VRs E σ us xs → @VRs E' (cut nx σ) vs xs
  | [], [], xs, hm, hv => hv
  | [], _ :: _, xs, hm, hv => by simp only [mats] at hm; cases hm
  | _ :: _, [], xs, hm, hv => by simp only [mats] at hm; cases hm
  | a :: l, b :: m, xs, hm, hv => by
    simp only [mats] at hm
    obtain ⟨h1, h2⟩ := condF hm
    obtain ⟨y, ys, rfl, r1, r2⟩ := hv
    exact ⟨y, ys, rfl, mat_sound h hs a b y h1 r1, mats_sound h hs l m ys h2 r2⟩
end

/-! ### Templates -/
structure Tm where
  nt : Nat
  nx : Nat
  sl : List (Nat × LV)
  ob : List (Nat × List LV)
  /-- where the variables come from: 'none': it stays; 'some d': slot d -/
  src : List (Option Nat)
  dom : List (Int × Int)
  /-- what is known besides -/
  fa : List SB := []
  /-- the variable that counts the rounds -/
  ctr : Option Nat := none
  /-- the lists: which object, which list, the kinds, the elements' type -/
  lo : List (Nat × Nat × List Kd × TypeId) := []
noncomputable def ofL {α : Type} : List (Nat × α) → RM α
  | [] => .nil
  | p :: l => (ofL l).set p.1 p.2
theorem ofL_mem [En] {α : Type} {i : Nat} {v : α} : ∀ {l : List (Nat × α)}, (ofL l).get i = some v → (i, v) ∈ l
  | [], h => by rw [ofL, RM.get_nil] at h; cases h
  | p :: l, h => by
    rw [ofL, RM.get_set] at h
    by_cases e : p.1 = i
    · rw [if_pos e] at h
      simp only [Option.some.injEq] at h
      simp [← e, ← h]
    · rw [if_neg e] at h
      exact List.mem_cons_of_mem _ (ofL_mem h)
noncomputable def Tm.st (T : Tm) : St := ⟨ofL T.sl, T.nt, ofL (T.ob.map (fun p => (p.1, .var p.2 0)) ++ T.lo.map fun p => (p.1, .lst p.2.1 p.2.2.1 p.2.2.2)), T.nx, [], 0⟩
noncomputable def seOf : Option LV → SE
  | some (.int _ n) => .c n
  | some (.sym _ e) => e
  | _ => .c 0
/-- slot 'd', or (from 1000 on) a cell: 1000 + object * 100 + place -/
noncomputable def srcGet (st : St) (d : Nat) : Option LV :=
  cond (Nat.blt d 1000) (st.t.get d) (match st.h.get ((d - 1000) / 100) with
    | some (.var cs _) => some (lget cs ((d - 1000) % 100))
    | _ => none)
noncomputable def subOf (t : St) : List (Option Nat) → Nat → List SE
  | [], _ => []
  | none :: l, i => .v i :: subOf t l (i + 1)
  | some d :: l, i => seOf (srcGet t d) :: subOf t l (i + 1)
section
variable [En]
noncomputable def inDom (pt : Pth) : List SE → List (Int × Int) → Bool
  | _, [] => true
  | e :: s, r :: l => cond (match rgP pt.ivs e with
    | some p => cond (iLe r.1 p.1) (iLe p.2 r.2) false
    | none => false) (inDom pt s l) false
  | [], _ :: _ => false
noncomputable def slotsOk (nx : Nat) (s : List SE) (t : RM LV) : List (Nat × LV) → Bool
  | [] => true
  | p :: l => cond (match t.get p.1 with
    | some v => mat nx s p.2 v
    | none => false) (slotsOk nx s t l) false
noncomputable def obsOk (nx : Nat) (s : List SE) (h : LH) : List (Nat × List LV) → Bool
  | [] => true
  | p :: l => cond (match h.get p.1 with
    | some (.var cs _) => cond (Nat.blt p.1 nx) (mats nx s p.2 cs) false
    | _ => false) (obsOk nx s h l) false
noncomputable def kdBeq : Kd → Kd → Bool
  | .int k, .int k' => kBeq k k'
  | .bool, .bool => true
  | _, _ => false
noncomputable def kdsBeq : List Kd → List Kd → Bool
  | [], [] => true
  | a :: l, b :: m => cond (kdBeq a b) (kdsBeq l m) false
  | _, _ => false
theorem kdBeq_t {a b : Kd} (h : kdBeq a b = true) : a = b := by
  cases a <;> cases b <;> simp only [kdBeq] at h <;> first | (cases h; done) | (rw [kBeq_eq h]) | rfl
theorem kdsBeq_t : ∀ {a b : List Kd}, kdsBeq a b = true → a = b
  | [], [], _ => rfl
  | [], _ :: _, h => by cases h
  | _ :: _, [], h => by cases h
  | a :: l, b :: m, h => by
    obtain ⟨h1, h2⟩ := condF h
    rw [kdBeq_t h1, kdsBeq_t h2]
noncomputable def losOk (nx : Nat) (h : LH) : List (Nat × Nat × List Kd × TypeId) → Bool
  | [] => true
  | p :: l => cond (match h.get p.1 with
    | some (.lst j ks e) => cond (Nat.blt p.1 nx) (cond (Nat.beq p.2.1 j) (cond (kdsBeq p.2.2.1 ks) (Nat.beq p.2.2.2 e) false) false) false
    | _ => false) (losOk nx h l) false
theorem losOk_mem {nx : Nat} {hh : LH} : ∀ {l : List (Nat × Nat × List Kd × TypeId)}, losOk nx hh l = true → ∀ p ∈ l, hh.get p.1 = some (.lst p.2.1 p.2.2.1 p.2.2.2) ∧ p.1 < nx
  | [], _, p, h => by cases h
  | q :: l, hs, p, h => by
    simp only [losOk] at hs
    obtain ⟨h1, h2⟩ := condF hs
    rcases List.mem_cons.1 h with rfl | h
    · split at h1
      · rename_i j ks e hg
        obtain ⟨g1, h1⟩ := condF h1
        obtain ⟨g2, h1⟩ := condF h1
        obtain ⟨g3, g4⟩ := condF h1
        rw [nbeq_t] at g2 g4
        rw [g2, kdsBeq_t g3, g4]
        exact ⟨hg, Nat.blt_eq.mp g1⟩
      · cases h1
    · exact losOk_mem h2 p h
noncomputable def yesB : Option Bool → Bool
  | some b => b
  | none => false
noncomputable def faOk (pt : Pth) (s : List SE) : List SB → Bool
  | [] => true
  | b :: l => cond (yesB (decP pt (b.sub s))) (faOk pt s l) false
noncomputable def ptOf (l : List SB) : Pth := l.foldr (fun b pt => addP b true pt) ⟨[], [], false⟩
def FaOk (l : List SB) : Prop := ∀ b ∈ l, b.ev = true
theorem ptOf_sound : ∀ {l : List SB}, FaOk l → PtOk (ptOf l)
  | [], _ => ⟨(by intro p hp; cases hp), (by intro p hp; cases hp), rfl⟩
  | b :: l, h => addP_sound (ptOf_sound fun b hb => h b (by simp [hb])) (h b (by simp))
noncomputable def noDs : List Nat → Bool
  | [] => true
  | _ :: _ => false
/-- the state fits the template -/
noncomputable def fits (T : Tm) (pt : Pth) (st : St) : Bool :=
  cond (cond (noDs st.ds) (cond (Nat.ble T.src.length 1000) (losOk T.nx st.h T.lo) false) false) (cond (Nat.ble T.nx st.nx) (cond (inDom pt (subOf st T.src 0) T.dom) (cond (slotsOk T.nx (subOf st T.src 0) st.t T.sl) (cond (obsOk T.nx (subOf st T.src 0) st.h T.ob) (faOk pt (subOf st T.src 0) T.fa) false) false) false) false) false
theorem inDom_sound' {pt : Pth} (hp : PtOk pt) : ∀ {s : List SE} {l : List (Int × Int)}, inDom pt s l = true → ∀ (i : Nat) (p : Int × Int), l[i]? = some p → ∃ e : SE, s[i]? = some e ∧ p.1 ≤ e.ev ∧ e.ev ≤ p.2
  | s, [], _, i, p, h => by simp at h
  | [], r :: l, hd, i, p, h => by simp only [inDom] at hd; cases hd
  | e :: s, r :: l, hd, i, p, h => by
    simp only [inDom] at hd
    obtain ⟨h1, h2⟩ := condF hd
    cases i with
    | zero =>
      simp at h; subst h
      cases hr : rgP pt.ivs e with
      | none => simp [hr] at h1
      | some q =>
        simp only [hr] at h1
        obtain ⟨g1, g2⟩ := condF h1
        obtain ⟨k1, k2⟩ := rgP_sound hp.ivs e q hr
        have g1 := iLe_t g1
        have g2 := iLe_t g2
        exact ⟨e, by simp, by omega, by omega⟩
    | succ i =>
      have := inDom_sound' hp h2 i p (by simpa using h)
      simpa using this
theorem inDom_sound {pt : Pth} (hp : PtOk pt) {s : List SE} {l : List (Int × Int)} (h : inDom pt s l = true) : ∀ i p, l[i]? = some p → p.1 ≤ rhoOf s i ∧ rhoOf s i ≤ p.2 := fun i p hi => by
  obtain ⟨e, h1, h2⟩ := inDom_sound' hp h i p hi
  simpa [rhoOf, h1] using h2
theorem subOf_len (t : St) : ∀ (l : List (Option Nat)) (i : Nat), (subOf t l i).length = l.length
  | [], _ => rfl
  | none :: l, i => by simp [subOf, subOf_len t l]
  | some d :: l, i => by simp [subOf, subOf_len t l]
theorem slotsOk_mem {nx : Nat} {s : List SE} {t : RM LV} : ∀ {l : List (Nat × LV)}, slotsOk nx s t l = true → ∀ i v, (i, v) ∈ l → ∃ u, t.get i = some u ∧ mat nx s v u = true
  | [], _, i, v, h => by cases h
  | p :: l, hs, i, v, h => by
    simp only [slotsOk] at hs
    obtain ⟨h1, h2⟩ := condF hs
    rcases List.mem_cons.1 h with rfl | h
    · cases hg : t.get i with
      | none => simp [hg] at h1
      | some u => simp only [hg] at h1; exact ⟨u, rfl, h1⟩
    · exact slotsOk_mem h2 i v h
theorem obsOk_mem {nx : Nat} {s : List SE} {hh : LH} : ∀ {l : List (Nat × List LV)}, obsOk nx s hh l = true → ∀ i cs, (i, cs) ∈ l → ∃ ds e, hh.get i = some (.var ds e) ∧ i < nx ∧ mats nx s cs ds = true
  | [], _, i, v, h => by cases h
  | p :: l, hs, i, v, h => by
    simp only [obsOk] at hs
    obtain ⟨h1, h2⟩ := condF hs
    rcases List.mem_cons.1 h with rfl | h
    · split at h1
      · rename_i cs e hg
        obtain ⟨g1, g2⟩ := condF h1
        exact ⟨cs, e, hg, Nat.blt_eq.mp g1, g2⟩
      · cases h1
    · exact obsOk_mem h2 i v h
end
theorem faOk_sound {E E' : En} {pt : Pth} (hp : @PtOk E pt) {s : List SE} (h : E'.rho = @rhoOf E s) (hs : s.length ≤ 1000) : ∀ {l : List SB}, @faOk E pt s l = true → @FaOk E' l
  | [], _ => fun b hb => by cases hb
  | b :: l, hl => fun c hc => by
    simp only [faOk] at hl
    obtain ⟨h1, h2⟩ := condF hl
    rcases List.mem_cons.1 hc with rfl | hc
    · cases hd : @decP E pt (@SB.sub E s c) with
      | none => rw [hd] at h1; cases h1
      | some v =>
        rw [hd] at h1
        simp only [yesB] at h1
        subst h1
        have := @decP_sound E pt hp _ _ hd
        rw [SB.sub_ev h hs] at this
        exact this
    · exact faOk_sound hp h hs h2 c hc
/-- **THE STATE FITS: SO THE TEMPLATE HOLDS**, for other values of the variables -/
theorem fits_sound [E : En] {P : Program} {T : Tm} {pt : Pth} (hp : PtOk pt) {st : St} (hf : fits T pt st = true) {σ : Sg} {a : Act} {w : World} (s : SR P σ st a w) (hfl : st.fl = 0) (hnt : st.nt = T.nt) :
    ∃ ok, @SR (enOf T.dom (rhoOf (subOf st T.src 0)) ok) P (cut T.nx σ) T.st a w ∧ T.nx ≤ st.nx ∧ @FaOk (enOf T.dom (rhoOf (subOf st T.src 0)) ok) T.fa := by
  unfold fits at hf
  obtain ⟨h1, hf⟩ := condF hf
  obtain ⟨h1, hlo⟩ := condF h1
  obtain ⟨hlen, hlo⟩ := condF hlo
  obtain ⟨h2, hf⟩ := condF hf
  obtain ⟨h3, hf⟩ := condF hf
  obtain ⟨h4, hf⟩ := condF hf
  obtain ⟨h5, h6⟩ := condF hf
  rw [Nat.ble_eq] at h2
  have hlen := Nat.le_of_ble_eq_true hlen
  rw [← subOf_len st T.src 0] at hlen
  obtain ⟨sb, hsb⟩ : ∃ sb, sb = subOf st T.src 0 := ⟨_, rfl⟩
  rw [← hsb] at h3 h4 h5 h6 hlen ⊢
  refine ⟨inDom_sound hp h3, ?_, h2, faOk_sound (E' := enOf T.dom (rhoOf sb) (inDom_sound hp h3)) hp rfl hlen h6⟩
  have hE : (enOf T.dom (rhoOf sb) (inDom_sound hp h3)).rho = rhoOf sb := rfl
  have hds : st.ds = [] := by
    cases hd : st.ds with
    | nil => rfl
    | cons a l => rw [hd] at h1; cases h1
  have hobj : ∀ id o, T.st.h.get id = some o → (∃ cs ds e, o = .var cs 0 ∧ st.h.get id = some (.var ds e) ∧ id < T.nx ∧ mats T.nx sb cs ds = true) ∨ (o.rw = false ∧ st.h.get id = some o ∧ id < T.nx ∧ ∃ j ks e, o = .lst j ks e) := fun id o ho => by
    have hm := ofL_mem ho
    rcases List.mem_append.1 hm with hm | hm
    · obtain ⟨q, hq, he⟩ := List.mem_map.1 hm
      simp only [Prod.mk.injEq] at he
      obtain ⟨rfl, rfl⟩ := he
      obtain ⟨ds, e, g1, g2, g3⟩ := obsOk_mem h5 q.1 q.2 hq
      exact .inl ⟨_, ds, e, rfl, g1, g2, g3⟩
    · obtain ⟨q, hq, he⟩ := List.mem_map.1 hm
      simp only [Prod.mk.injEq] at he
      obtain ⟨rfl, rfl⟩ := he
      obtain ⟨g1, g2⟩ := losOk_mem hlo q hq
      exact .inr ⟨rfl, g1, g2, _, _, _, rfl⟩
  have hcut : ∀ id, id < T.nx → cut T.nx σ id = σ id := fun id h => by
    have : Nat.blt id T.nx = true := Nat.blt_eq.mpr h
    simp only [cut, this, cond_true]
  have hnt' : a.tmps.size = T.st.nt := s.nt.trans hnt
  refine @SR.mk (enOf T.dom (rhoOf sb) (inDom_sound hp h3)) P (cut T.nx σ) T.st a w (fun id o ho => ?_) ⟨Nat.zero_le _, fun id hid => ?_⟩ hnt' (fun i v hv => ?_) ?_
  · rcases hobj id o ho with ⟨cs, ds, e, rfl, g1, g2, g3⟩ | ⟨hrw, g1, g2, j, ks, e, rfl⟩
    · obtain ⟨p, ob, k1, k2, k3, k4⟩ := s.sim id _ g1
      obtain ⟨q1, q2, xs, el, rfl, q4, q5⟩ := k3
      refine ⟨p, _, (by rw [hcut id g2]; exact k1), k2, ⟨q1, q2, xs, el, rfl, mats_sound (E := E) (s := sb) (E' := enOf T.dom (rhoOf sb) (inDom_sound hp h3)) hE hlen _ _ _ g3 q4, q5⟩, fun hr id' o' p' j1 j2 j3 => ?_⟩
      rcases hobj id' o' j1 with ⟨cs', ds', e', rfl, m1, m2, m3⟩ | ⟨_, m1, m2, _⟩
      · rw [hcut id' m2] at j2
        exact k4 ⟨by rw [hfl]; exact Nat.zero_le _, rfl⟩ id' _ p' m1 j2 j3
      · rw [hcut id' m2] at j2
        exact k4 ⟨by rw [hfl]; exact Nat.zero_le _, rfl⟩ id' _ p' m1 j2 j3
    · obtain ⟨p, ob, k1, k2, k3, k4⟩ := s.sim id _ g1
      obtain ⟨c, e', fz, rfl, q1, q2, q3, q4⟩ := k3
      refine ⟨p, _, (by rw [hcut id g2]; exact k1), k2, ⟨c, e', fz, rfl, q1, q2, q3, fun i hi f kd hf => ?_⟩, fun hr => by have := hr.2; cases this⟩
      rw [q4 i hi f kd hf]
      show _ = some (kdV kd (rhoOf sb (selI j f i)))
      rw [rhoOf_far (Nat.le_trans hlen (selI_far _ _ _))]
  · have : Nat.blt id T.nx = false := by
      cases hb : Nat.blt id T.nx with
      | false => rfl
      | true =>
        have := Nat.blt_eq.mp hb
        have hid' : T.nx ≤ id := hid
        omega
    simp only [cut, this, cond_false]
  · obtain ⟨u, g1, g2⟩ := slotsOk_mem h4 i v (ofL_mem hv)
    obtain ⟨x, k1, k2⟩ := s.tr i u g1
    exact ⟨x, k1, mat_sound (E := E) (s := sb) (E' := enOf T.dom (rhoOf sb) (inDom_sound hp h3)) hE hlen v u x g2 k2⟩
  · have := s.ds
    rw [hds] at this
    exact this
end Go.Proofs.Ytigilihpofafoaa.Loc
