/- The small machine of local values: what a local value stands for, and what it is for a local heap to lie in a world. -/
import Derived.Test.YtigilihpofafoaaLocV
import Derived.OrdersIn
import Derived.RangeFuncLeaves
import Derived.Laws.Tables
import Derived.Laws.StructEq
import Derived.Deep.MidRow
import Derived.Laws.AppendOwn
import Derived.ChangeKeysEq
namespace Go.Proofs.Ytigilihpofafoaa.Loc
open Go
set_option linter.unusedVariables false
set_option linter.unusedSimpArgs false
set_option linter.unusedSectionVars false
variable [En]

/-! ### The radix map -/
theorem beq_t {a b : Nat} : (Nat.beq a b = true) ↔ a = b := by simp
theorem beq_f {a b : Nat} : (Nat.beq a b = false) ↔ a ≠ b := by
  rw [← Bool.not_eq_true, beq_t]

theorem RM.idx {i j : Nat} (hi : i ≠ 0) (hj : j ≠ 0) :
    (i = j) ↔ ((i % 2 = j % 2) ∧ (if i % 2 = 1 then i / 2 = j / 2 else i / 2 - 1 = j / 2 - 1)) := by
  by_cases h : i % 2 = 1
  · simp only [h, if_true]; omega
  · simp only [h, if_false]; omega

theorem getB_nil {α : Type} : ∀ (f j : Nat), (getB f j).v (.nil : RM α) = none
  | 0, j => rfl
  | f + 1, j => by
    unfold getB
    by_cases hj : j = 0
    · subst hj; rfl
    · rw [beq_f.2 hj, cond_false]
      by_cases hjo : j % 2 = 1
      · rw [beq_t.2 hjo, cond_true]; rfl
      · rw [beq_f.2 hjo, cond_false]; rfl
theorem getB_node {α : Type} (f j : Nat) (x : Option α) (l r : RM α) : (getB (f + 1) j).v (.node x l r) = if j = 0 then x else if j % 2 = 1 then (getB f (j / 2)).v l else (getB f (j / 2 - 1)).v r := by
  conv => lhs; unfold getB
  by_cases hj : j = 0
  · subst hj; rfl
  · rw [beq_f.2 hj, cond_false, if_neg hj]
    by_cases hjo : j % 2 = 1
    · rw [beq_t.2 hjo, cond_true, if_pos hjo]; rfl
    · rw [beq_f.2 hjo, cond_false, if_neg hjo]; rfl
theorem setB_eq {α : Type} (f i : Nat) (v : α) (m : RM α) : (setB (f + 1) i).v v m = match m with
    | .nil => if i = 0 then .node (some v) .nil .nil else if i % 2 = 1 then .node none ((setB f (i / 2)).v v .nil) .nil else .node none .nil ((setB f (i / 2 - 1)).v v .nil)
    | .node x l r => if i = 0 then .node (some v) l r else if i % 2 = 1 then .node x ((setB f (i / 2)).v v l) r else .node x l ((setB f (i / 2 - 1)).v v r) := by
  conv => lhs; unfold setB
  by_cases hi : i = 0
  · subst hi; cases m <;> rfl
  · rw [beq_f.2 hi, cond_false]
    by_cases hio : i % 2 = 1
    · rw [beq_t.2 hio, cond_true]; cases m <;> simp only [if_neg hi, if_pos hio] <;> rfl
    · rw [beq_f.2 hio, cond_false]; cases m <;> simp only [if_neg hi, if_neg hio] <;> rfl
theorem getB_setB {α : Type} (v : α) : ∀ (f f' i j : Nat) (m : RM α), i < f → j < f' → (getB f' j).v ((setB f i).v v m) = if i = j then some v else (getB f' j).v m
  | 0, f', i, j, m, h, h' => by omega
  | f + 1, 0, i, j, m, h, h' => by omega
  | f + 1, f' + 1, i, j, m, h, h' => by
    have ih := fun i j m h h' => getB_setB v f f' i j m h h'
    rw [setB_eq]
    have hnil : ∀ j, (getB f' j).v (.nil : RM α) = none := getB_nil f'
    cases m with
    | nil =>
      simp only
      rw [getB_nil]
      by_cases hi : i = 0
      · rw [if_pos hi, getB_node]
        by_cases hj : j = 0
        · rw [if_pos hj, if_pos (show i = j by omega)]
        · rw [if_neg hj, if_neg (show ¬ i = j by omega)]
          by_cases hjo : j % 2 = 1
          · rw [if_pos hjo, hnil]
          · rw [if_neg hjo, hnil]
      · rw [if_neg hi]
        by_cases hio : i % 2 = 1
        · rw [if_pos hio, getB_node]
          by_cases hj : j = 0
          · rw [if_pos hj, if_neg (show ¬ i = j by omega)]
          · rw [if_neg hj]
            by_cases hjo : j % 2 = 1
            · rw [if_pos hjo, ih _ _ _ (by omega) (by omega), hnil]
              have e := RM.idx hi hj
              simp only [hio, hjo, if_true, true_and] at e
              simp only [e]
            · rw [if_neg hjo, hnil, if_neg (show ¬ i = j by omega)]
        · rw [if_neg hio, getB_node]
          by_cases hj : j = 0
          · rw [if_pos hj, if_neg (show ¬ i = j by omega)]
          · rw [if_neg hj]
            by_cases hjo : j % 2 = 1
            · rw [if_pos hjo, hnil, if_neg (show ¬ i = j by omega)]
            · rw [if_neg hjo, ih _ _ _ (by omega) (by omega), hnil]
              have e := RM.idx hi hj
              have e2 : i % 2 = j % 2 := by omega
              simp only [e2, true_and, hjo, if_false] at e
              simp only [e]
    | node x l r =>
      simp only
      rw [getB_node]
      by_cases hi : i = 0
      · rw [if_pos hi, getB_node]
        by_cases hj : j = 0
        · rw [if_pos hj, if_pos (show i = j by omega)]
        · rw [if_neg hj, if_neg (show ¬ i = j by omega), if_neg hj]
      · rw [if_neg hi]
        by_cases hio : i % 2 = 1
        · rw [if_pos hio, getB_node]
          by_cases hj : j = 0
          · rw [if_pos hj, if_neg (show ¬ i = j by omega), if_pos hj]
          · rw [if_neg hj, if_neg hj]
            by_cases hjo : j % 2 = 1
            · rw [if_pos hjo, if_pos hjo, ih _ _ _ (by omega) (by omega)]
              have e := RM.idx hi hj
              simp only [hio, hjo, if_true, true_and] at e
              simp only [e]
            · rw [if_neg hjo, if_neg hjo, if_neg (show ¬ i = j by omega)]
        · rw [if_neg hio, getB_node]
          by_cases hj : j = 0
          · rw [if_pos hj, if_neg (show ¬ i = j by omega), if_pos hj]
          · rw [if_neg hj, if_neg hj]
            by_cases hjo : j % 2 = 1
            · rw [if_pos hjo, if_pos hjo, if_neg (show ¬ i = j by omega)]
            · rw [if_neg hjo, if_neg hjo, ih _ _ _ (by omega) (by omega)]
              have e := RM.idx hi hj
              have e2 : i % 2 = j % 2 := by omega
              simp only [e2, true_and, hjo, if_false] at e
              simp only [e]
theorem RM.get_set {α : Type} (v : α) (t : RM α) (i j : Nat) : (t.set i v).get j = if i = j then some v else t.get j := getB_setB v (i + 1) (j + 1) i j t (by omega) (by omega)
theorem RM.get_nil {α : Type} (j : Nat) : (RM.nil : RM α).get j = none := getB_nil _ _
theorem getB_more {α : Type} : ∀ (f f' j : Nat) (m : RM α), j < f → j < f' → (getB f j).v m = (getB f' j).v m
  | 0, f', j, m, h, h' => by omega
  | f + 1, 0, j, m, h, h' => by omega
  | f + 1, f' + 1, j, m, h, h' => by
    cases m with
    | nil => rw [getB_nil, getB_nil]
    | node x l r =>
      rw [getB_node, getB_node]
      by_cases hj : j = 0
      · rw [if_pos hj, if_pos hj]
      · rw [if_neg hj, if_neg hj]
        by_cases hjo : j % 2 = 1
        · rw [if_pos hjo, if_pos hjo]; exact getB_more f f' _ _ (by omega) (by omega)
        · rw [if_neg hjo, if_neg hjo]; exact getB_more f f' _ _ (by omega) (by omega)
theorem RM.get_node {α : Type} (j : Nat) (x : Option α) (l r : RM α) : (RM.node x l r).get j = if j = 0 then x else if j % 2 = 1 then l.get (j / 2) else r.get (j / 2 - 1) := by
  unfold RM.get
  rw [getB_node]
  by_cases hj : j = 0
  · rw [if_pos hj, if_pos hj]
  · rw [if_neg hj, if_neg hj]
    by_cases hjo : j % 2 = 1
    · rw [if_pos hjo, if_pos hjo]; exact getB_more _ _ _ _ (by omega) (by omega)
    · rw [if_neg hjo, if_neg hjo]; exact getB_more _ _ _ _ (by omega) (by omega)

theorem RM.get_del {α : Type} : ∀ (t : RM α) (i j : Nat), (t.del i).get j = if i = j then none else t.get j := by
  intro t
  induction t with
  | nil => intro i j; simp [RM.del, RM.get_nil]
  | node x l r ihl ihr =>
    intro i j
    unfold RM.del
    by_cases hi : i = 0
    · subst hi
      simp only [Nat.beq, cond_true, RM.get_node]
      by_cases hj : j = 0
      · subst hj; simp
      · have : ¬ 0 = j := fun e => hj e.symm
        simp only [hj, this, if_false]
    · simp only [beq_f.2 hi, cond_false]
      by_cases ho : i % 2 = 1
      · simp only [beq_t.2 ho, cond_true, RM.get_node]
        by_cases hj : j = 0
        · subst hj; simp [hi]
        · simp only [hj, if_false]
          by_cases hjo : j % 2 = 1
          · simp only [hjo, if_true]
            rw [ihl]
            have e := RM.idx hi hj
            simp only [ho, hjo, if_true, true_and] at e
            simp only [e]
          · have : ¬ i = j := fun e => hjo (e ▸ ho)
            simp only [hjo, if_false, this]
      · simp only [beq_f.2 ho, cond_false, RM.get_node]
        by_cases hj : j = 0
        · subst hj; simp [hi]
        · simp only [hj, if_false]
          by_cases hjo : j % 2 = 1
          · have : ¬ i = j := fun e => ho (e ▸ hjo)
            simp only [hjo, if_true, this, if_false]
          · simp only [hjo, if_false]
            rw [ihr]
            have e := RM.idx hi hj
            have e2 : i % 2 = j % 2 := by omega
            simp only [e2, true_and, hjo, if_false] at e
            simp only [e]

/-! ### Places; what a local value stands for -/
structure Place where
  blk : Nat
  off : Nat
  es : Nat
  n : Nat
  cap : Nat
abbrev Sg := Nat → Option Place
abbrev HF := Nat → Option LObj

def ixOk : List (Nat × Nat × Nat) → Prop
  | [] => True
  | (i, n, _) :: l => i < n ∧ ixOk l
def plAddr (p : Place) (i off : Nat) : Addr := ⟨p.blk, p.off + (i * p.es + off), none⟩

mutual
def VR (σ : Sg) : LV → Value → Prop
  | .undef, _ => True
  | .bool b, x => x = .bool b
  | .int k n, x => x = .int k n
  | .sym k e, x => x = .int k e.ev
  | .sbl b, x => x = .bool b.ev
  | .str s, x => x = .string s
  | .nilp, x => x = .pointer none
  | .ptr id i off ix, x => ∃ p, σ id = some p ∧ i < p.n ∧ ixOk ix ∧ x = .pointer (some (plAddr p i (off + ixSum ix)))
  | .nils, x => x = .slice none 0 0
  | .sq id s n, x => ∃ p, σ id = some p ∧ s + n ≤ p.n ∧ p.n ≤ p.cap ∧ (x = .slice (some (plAddr p s 0)) n (p.cap - s) ∨ (n = 0 ∧ s = p.cap ∧ 0 < s ∧ ∃ A, x = .slice (some A) 0 0))
  | .sv id off es n c, x => ∃ p, σ id = some p ∧ 0 < p.n ∧ n ≤ c ∧ (x = .slice (some (plAddr p 0 off)) n c ∨ (n = 0 ∧ c = 0 ∧ ∃ A, x = .slice (some A) 0 0))
  | .os id e, x => (∃ p, σ id = some p ∧ e.ev = (p.n : Int) ∧ ∃ c, p.n ≤ c ∧ x = .slice (some (plAddr p 0 0)) p.n c) ∨ (e.ev = 0 ∧ ∃ A c, x = .slice A 0 c)
  | .pel id e off, x => ∃ p, σ id = some p ∧ 0 ≤ e.ev ∧ e.ev < (p.n : Int) ∧ x = .pointer (some (plAddr p e.ev.toNat off))
  | .nilm, x => x = .map none
  | .map id, x => ∃ p, σ id = some p ∧ x = .map (some p.blk)
  | .nilf, x => x = .nilFunc
  | .fn f a b, x => ∃ xs ys : List Value, x = .func f xs.toArray ys.toArray ∧ VRs σ a xs ∧ VRs σ b ys
  | .yld id, x => ∃ p, σ id = some p ∧ x = .func (.yield p.blk) #[] #[]
  | .nili, x => x = .nilIface
  | .iface t v, x => ∃ y, x = .iface t y ∧ VR σ v y
  | .agg cs, x => ∃ xs : List Value, x = .agg xs.toArray ∧ VRs σ cs xs
  | .tup vs, x => ∃ xs : List Value, x = .tuple xs.toArray ∧ VRs σ vs xs
def VRs (σ : Sg) : List LV → List Value → Prop
  | [], ys => ys = []
  | a :: l, ys => ∃ b bs, ys = b :: bs ∧ VR σ a b ∧ VRs σ l bs
end

def Ext (σ σ' : Sg) : Prop := ∀ id p, σ id = some p → σ' id = some p
theorem Ext.refl (σ : Sg) : Ext σ σ := fun _ _ h => h
theorem Ext.trans {a b c : Sg} (h : Ext a b) (k : Ext b c) : Ext a c := fun id p e => k id p (h id p e)

mutual
theorem VR.mono {σ σ' : Sg} (h : Ext σ σ') : ∀ (v : LV) (x : Value), VR σ v x → VR σ' v x
  | .undef, _, _ => trivial
  | .bool b, x, e => e
  | .int k n, x, e => e
  | .sym k s, x, e => e
  | .sbl b, x, e => e
  | .str s, x, e => e
  | .nilp, x, e => e
  | .ptr id i off ix, x, ⟨p, e, r⟩ => ⟨p, h id p e, r⟩
  | .nils, x, e => e
  | .sq id s n, x, ⟨p, e, r⟩ => ⟨p, h id p e, r⟩
  | .sv id off es n c, x, ⟨p, e, r⟩ => ⟨p, h id p e, r⟩
  | .os id e, x, .inl ⟨p, q, r⟩ => .inl ⟨p, h id p q, r⟩
  | .os id e, x, .inr q => .inr q
  | .pel id e off, x, ⟨p, q, r⟩ => ⟨p, h id p q, r⟩
  | .nilm, x, e => e
  | .map id, x, ⟨p, e, r⟩ => ⟨p, h id p e, r⟩
  | .nilf, x, e => e
  | .fn f a b, x, ⟨xs, ys, e, r, s⟩ => ⟨xs, ys, e, VRs.mono h a xs r, VRs.mono h b ys s⟩
  | .yld id, x, ⟨p, e, r⟩ => ⟨p, h id p e, r⟩
  | .nili, x, e => e
  | .iface t v, x, ⟨y, e, r⟩ => ⟨y, e, VR.mono h v y r⟩
  | .agg cs, x, ⟨xs, e, r⟩ => ⟨xs, e, VRs.mono h cs xs r⟩
  | .tup vs, x, ⟨xs, e, r⟩ => ⟨xs, e, VRs.mono h vs xs r⟩
theorem VRs.mono {σ σ' : Sg} (h : Ext σ σ') : ∀ (vs : List LV) (xs : List Value), VRs σ vs xs → VRs σ' vs xs
  | [], _, e => e
  | a :: l, _, ⟨b, bs, e, r, s⟩ => ⟨b, bs, e, VR.mono h a b r, VRs.mono h l bs s⟩
end

/-! ### Lists of local values -/
theorem llen_eq : ∀ (l : List LV), llen l = l.length
  | [] => rfl
  | _ :: l => by simp [llen, llen_eq l]
theorem ltake_eq : ∀ (l : List LV) (n : Nat), ltake l n = l.take n
  | [], n => by simp [ltake]
  | a :: l, n => by
    unfold ltake
    cases n with
    | zero => simp [Nat.beq]
    | succ n => simp [Nat.beq, ltake_eq l n]
theorem ldrop_eq : ∀ (l : List LV) (n : Nat), ldrop l n = l.drop n
  | [], n => by simp [ldrop]
  | a :: l, n => by
    unfold ldrop
    cases n with
    | zero => simp [Nat.beq]
    | succ n => simp [Nat.beq, ldrop_eq l n]
theorem lget_eq : ∀ (l : List LV) (n : Nat), lget l n = (l[n]?).getD .undef
  | [], n => by simp [lget]
  | a :: l, n => by
    unfold lget
    cases n with
    | zero => simp [Nat.beq]
    | succ n => simp [Nat.beq, lget_eq l n]
theorem lover_eq : ∀ (vs cs : List LV), vs.length ≤ cs.length → lover vs cs = vs ++ cs.drop vs.length
  | [], cs, _ => by simp [lover]
  | v :: vs, [], h => by simp at h
  | v :: vs, c :: cs, h => by simp [lover, lover_eq vs cs (by simpa using h)]
theorem lput_eq : ∀ (cs : List LV) (n : Nat) (vs : List LV), n + vs.length ≤ cs.length → lput cs n vs = cs.take n ++ vs ++ cs.drop (n + vs.length)
  | [], n, vs, h => by
    have : vs = [] := by cases vs with | nil => rfl | cons a b => simp at h
    subst this; simp [lput]
  | c :: cs, n, vs, h => by
    unfold lput
    cases n with
    | zero => simp only [Nat.beq, cond_true]; rw [lover_eq _ _ (by simpa using h)]; simp
    | succ n =>
      simp only [Nat.beq, cond_false, Nat.add_one_sub_one]
      rw [lput_eq cs n vs (by simp at h; omega)]
      simp [Nat.add_right_comm]

theorem VRs.nil {σ : Sg} : VRs σ [] [] := by simp [VRs]
theorem VRs.cons {σ : Sg} {a : LV} {l : List LV} {b : Value} {bs : List Value} (h : VR σ a b) (k : VRs σ l bs) : VRs σ (a :: l) (b :: bs) := ⟨b, bs, rfl, h, k⟩
theorem VRs.length {σ : Sg} : ∀ {vs : List LV} {xs : List Value}, VRs σ vs xs → xs.length = vs.length
  | [], xs, h => by cases h; rfl
  | a :: l, _, ⟨b, bs, e, _, r⟩ => by subst e; simp [VRs.length r]
theorem VRs.at {σ : Sg} : ∀ {vs : List LV} {xs : List Value}, VRs σ vs xs → ∀ (i : Nat) (v : LV), vs[i]? = some v → ∃ x, xs[i]? = some x ∧ VR σ v x
  | [], xs, h, i, v, e => by simp at e
  | a :: l, _, ⟨b, bs, e, h, r⟩, i, v, ei => by
    subst e
    cases i with
    | zero => simp at ei; subst ei; exact ⟨b, by simp, h⟩
    | succ i => simpa using VRs.at r i v (by simpa using ei)
theorem VRs.get {σ : Sg} : ∀ {vs : List LV} {xs : List Value}, VRs σ vs xs → ∀ (i : Nat) (x : Value), xs[i]? = some x → VR σ (lget vs i) x
  | [], xs, h, i, x, e => by cases h; simp at e
  | a :: l, _, ⟨b, bs, e, h, r⟩, i, x, ei => by
    subst e
    cases i with
    | zero => simp at ei; subst ei; simpa [lget, Nat.beq] using h
    | succ i => simpa [lget, Nat.beq] using VRs.get r i x (by simpa using ei)
theorem VRs.take {σ : Sg} : ∀ {vs : List LV} {xs : List Value}, VRs σ vs xs → ∀ n, VRs σ (vs.take n) (xs.take n)
  | [], xs, h, n => by cases h; simp [VRs]
  | a :: l, _, ⟨b, bs, e, h, r⟩, n => by
    subst e
    cases n with
    | zero => simp [VRs]
    | succ n => exact VRs.cons h (VRs.take r n)
theorem VRs.drop {σ : Sg} : ∀ {vs : List LV} {xs : List Value}, VRs σ vs xs → ∀ n, VRs σ (vs.drop n) (xs.drop n)
  | [], xs, h, n => by cases h; simp [VRs]
  | a :: l, _, ⟨b, bs, e, h, r⟩, n => by
    subst e
    cases n with
    | zero => exact VRs.cons h r
    | succ n => exact VRs.drop r n
theorem VRs.append {σ : Sg} : ∀ {l : List LV} {xs : List Value} {bs : List LV} {ys : List Value}, VRs σ l xs → VRs σ bs ys → VRs σ (l ++ bs) (xs ++ ys)
  | [], xs, bs, ys, h, k => by cases h; simpa using k
  | a :: l, _, bs, ys, ⟨b, cs, e, h, r⟩, k => by subst e; exact VRs.cons h (VRs.append r k)
theorem VRs.lput {σ : Sg} {cs vs : List LV} {xs ys : List Value} {n : Nat} (h : VRs σ cs xs) (k : VRs σ vs ys) (hn : n + vs.length ≤ cs.length) :
    VRs σ (Loc.lput cs n vs) (xs.take n ++ ys ++ xs.drop (n + ys.length)) := by
  rw [lput_eq _ _ _ hn, k.length]
  exact ((h.take n).append k).append (h.drop _)
theorem VRs.of_at {σ : Sg} : ∀ {vs : List LV} {xs : List Value}, vs.length = xs.length → (∀ (i : Nat) (v : LV) (x : Value), vs[i]? = some v → xs[i]? = some x → VR σ v x) → VRs σ vs xs
  | [], [], _, _ => by simp [VRs]
  | [], x :: xs, h, _ => by simp at h
  | v :: vs, [], h, _ => by simp at h
  | v :: vs, x :: xs, h, k => VRs.cons (k 0 v x (by simp) (by simp)) (VRs.of_at (by simpa using h) fun i v x a b => k (i + 1) v x (by simpa using a) (by simpa using b))

theorem kBeq_eq {a b : IntKind} (h : kBeq a b = true) : a = b := by cases a <;> cases b <;> first | rfl | simp [kBeq] at h
theorem kBeq_self (a : IntKind) : kBeq a a = true := by cases a <;> rfl
theorem LV.isInt_spec {k : IntKind} {v : LV} (h : v.isInt k = true) : v = .int k v.asInt := by
  cases v <;> simp [LV.isInt] at h
  rw [← kBeq_eq h]; rfl
theorem LV.isBool_spec {v : LV} (h : v.isBool = true) : v = .bool v.asBool := by
  cases v <;> simp [LV.isBool] at h
  rfl

theorem upto_spec {p : Nat → Bool} : ∀ {n : Nat}, upto n p = true → ∀ i, i < n → p i = true
  | 0, _, i, hi => by omega
  | n + 1, h, i, hi => by
    unfold upto at h
    cases hp : p n with
    | false => simp [hp] at h
    | true =>
      simp only [hp, cond_true] at h
      rcases Nat.lt_or_ge i n with hlt | hge
      · exact upto_spec h i hlt
      · have : i = n := by omega
        exact this ▸ hp
theorem ixAll_spec {p : Nat → Bool} : ∀ {ix : List (Nat × Nat × Nat)} {off : Nat}, ixAll p off ix = true → ixOk ix → p (off + ixSum ix) = true
  | [], off, h, _ => by simpa [ixAll, ixSum] using h
  | (i, n, s) :: l, off, h, ⟨hi, hl⟩ => by
    have := ixAll_spec (upto_spec (by simpa [ixAll] using h) i hi) hl
    simpa [ixSum, Nat.add_assoc] using this

theorem cellAs_sound {σ : Sg} {cells : List LV} {xs : List Value} (h : VRs σ cells xs) {off : Nat} {ix : List (Nat × Nat × Nat)} (hix : ixOk ix) (z : LV) {x : Value} (hx : xs[off + ixSum ix]? = some x) :
    VR σ (cellAs cells off ix z) x := by
  cases ix with
  | nil => simpa [cellAs, ixSum] using h.get _ _ hx
  | cons a l =>
    have hg := h.get _ _ hx
    cases z <;> simp only [cellAs] <;> try exact hg
    · cases hc : ixAll (fun o => (lget cells o).isBool) off (a :: l) with
      | false => simp [VR]
      | true =>
        have hb := LV.isBool_spec (ixAll_spec hc hix)
        rw [hb] at hg
        simpa using hg
    · rename_i k _
      cases hc : ixAll (fun o => (lget cells o).isInt k) off (a :: l) with
      | false => simp [VR]
      | true =>
        have hb := LV.isInt_spec (ixAll_spec hc hix)
        rw [hb] at hg
        simpa using hg

/-- 'xs' with 'ys' laid over it from 'o' on -/
def ov (xs : List Value) (o : Nat) (ys : List Value) : List Value := xs.take o ++ ys ++ xs.drop (o + ys.length)
theorem ov_length {xs ys : List Value} {o : Nat} (h : o + ys.length ≤ xs.length) : (ov xs o ys).length = xs.length := by
  simp [ov]; omega
theorem merge_sound {σ : Sg} {b : Bool} {v c : LV} {y x : Value} (hv : VR σ v y) (hc : VR σ c x) : VR σ (mergeL b v c) (if b then y else x) := by
  unfold mergeL
  split
  · rename_i k n k' m
    cases hk : kBeq k k' with
    | false => simp [VR]
    | true =>
      have := kBeq_eq hk; subst this
      simp only [VR] at hv hc; subst hv; subst hc
      cases b <;> simp [VR, lif]
  · simp only [VR] at hv hc; subst hv; subst hc
    cases b <;> simp [VR, lif]
  · simp [VR]
theorem mergeOver_sound {σ : Sg} {b : Bool} : ∀ {vs cs : List LV} {ys xs : List Value}, VRs σ vs ys → VRs σ cs xs → vs.length ≤ cs.length → VRs σ (mergeOver b vs cs) (if b then ys ++ xs.drop ys.length else xs)
  | [], cs, _, xs, hv, hc, _ => by cases hv; cases b <;> simpa [mergeOver] using hc
  | v :: vs, [], _, xs, hv, hc, h => by simp at h
  | v :: vs, c :: cs, _, _, ⟨y, ys, e1, h1, r1⟩, ⟨x, xs, e2, h2, r2⟩, h => by
    subst e1; subst e2
    have ih := mergeOver_sound (b := b) r1 r2 (by simpa using h)
    have im := merge_sound (b := b) h1 h2
    cases b
    · exact VRs.cons im ih
    · exact VRs.cons im ih
theorem mergePut_sound {σ : Sg} {b : Bool} : ∀ {cs vs : List LV} {n : Nat} {xs ys : List Value}, VRs σ cs xs → VRs σ vs ys → n + vs.length ≤ cs.length → VRs σ (mergePut b cs n vs) (if b then ov xs n ys else xs)
  | [], vs, n, xs, ys, hc, hv, h => by
    have : vs = [] := by cases vs with | nil => rfl | cons a b => simp at h
    subst this; cases hv; cases hc
    cases b <;> simp [mergePut, ov, VRs]
  | c :: cs, vs, n, _, ys, ⟨x, xs, e, hx, hr⟩, hv, h => by
    subst e
    unfold mergePut
    cases n with
    | zero =>
      simp only [Nat.beq, cond_true]
      have := mergeOver_sound (b := b) hv (VRs.cons hx hr) (by simpa using h)
      cases b
      · simpa using this
      · simpa [ov] using this
    | succ n =>
      simp only [Nat.beq, cond_false, Nat.add_one_sub_one]
      have ih := mergePut_sound (b := b) (n := n) hr hv (by simp at h; omega)
      cases b
      · exact VRs.cons hx ih
      · have := VRs.cons hx ih
        simpa [ov, Nat.add_right_comm] using this
theorem storeIx_sound {σ : Sg} {vs : List LV} {ys : List Value} (hv : VRs σ vs ys) : ∀ {ix : List (Nat × Nat × Nat)} {off : Nat} {b : Bool} {cs : List LV} {xs : List Value}, VRs σ cs xs → ixOk ix →
    ixAll (fun o => Nat.ble (o + vs.length) cs.length) off ix = true → VRs σ (storeIx vs off ix b cs) (if b then ov xs (off + ixSum ix) ys else xs)
  | [], off, b, cs, xs, hc, _, h => by
    simpa [storeIx, ixSum] using mergePut_sound (b := b) hc hv (by simpa [ixAll] using h)
  | (i, n, s) :: l, off, b, cs, xs, hc, ⟨hi, hl⟩, h => by
    have hall := upto_spec (p := fun i => ixAll (fun o => Nat.ble (o + vs.length) cs.length) (off + i * s) l) (by simpa [ixAll] using h)
    have hlen : off + ixSum ((i, n, s) :: l) + ys.length ≤ xs.length := by
      have := ixAll_spec (hall i hi) hl
      simp only [Nat.ble_eq] at this
      rw [hv.length, hc.length]; simp [ixSum]; omega
    have key : ∀ j, j ≤ n → VRs σ (foldTo (fun j cs => storeIx vs (off + j * s) l (b && Nat.beq i j) cs) j cs) (if b && decide (i < j) then ov xs (off + ixSum ((i, n, s) :: l)) ys else xs) := by
      intro j
      induction j with
      | zero => intro _; simpa [foldTo] using hc
      | succ j ih =>
        intro hj
        have ih' := ih (by omega)
        have hlen' : (foldTo (fun j cs => storeIx vs (off + j * s) l (b && Nat.beq i j) cs) j cs).length = cs.length := by
          rw [← ih'.length, ← hc.length]
          split
          · exact ov_length hlen
          · rfl
        have hr := storeIx_sound hv (ix := l) (off := off + j * s) (b := b && Nat.beq i j) ih' hl (by rw [hlen']; exact hall j (by omega))
        have : (if (b && Nat.beq i j) = true then ov (if (b && decide (i < j)) = true then ov xs (off + ixSum ((i, n, s) :: l)) ys else xs) (off + j * s + ixSum l) ys else if (b && decide (i < j)) = true then ov xs (off + ixSum ((i, n, s) :: l)) ys else xs)
            = (if (b && decide (i < j + 1)) = true then ov xs (off + ixSum ((i, n, s) :: l)) ys else xs) := by
          by_cases hij : i = j
          · subst hij
            have hs : off + i * s + ixSum l = off + ixSum ((i, n, s) :: l) := by simp [ixSum, Nat.add_assoc]
            cases b <;> simp [hs]
          · have h1 : Nat.beq i j = false := beq_f.2 hij
            have h2 : decide (i < j + 1) = decide (i < j) := by simp; omega
            simp [h1, h2]
        rw [this] at hr
        exact hr
    have := key n (Nat.le_refl _)
    simpa [storeIx, hi] using this
