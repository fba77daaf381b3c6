/- The small machine of local values: all ways of a run are looked at; tests that were met are known from there on. -/
import Derived.Test.YtigilihpofafoaaLocF3
namespace Go.Proofs.Ytigilihpofafoaa.Loc
open Go
set_option linter.unusedVariables false
set_option linter.unusedSimpArgs false
set_option linter.unusedSectionVars false
variable [En]

structure Pth where
  facts : List (SB × Bool)
  ivs : List (SE × (Int × Int))
  dead : Bool

noncomputable def ivGet : List (SE × (Int × Int)) → SE → Rg
  | [], _ => none
  | p :: l, e => cond (p.1.beq e) (some p.2) (ivGet l e)
noncomputable def orR : Rg → Rg → Rg
  | some p, _ => some p
  | none, r => r
/-- bit 'n' of 's', where 's & m' is known -/
noncomputable def bitHit (p : SE × (Int × Int)) (k : IntKind) (s : SE) (n : Nat) : Bool :=
  match p.1 with
  | .bin .and k' s' (.c m) => cond (kBeq k k') (cond (s'.beq s) (cond (iBeq p.2.1 p.2.2) (cond (iLe 0 m) (cond (iLe m (kHi k)) (Nat.testBit m.toNat n) false) false) false) false) false
  | _ => false
noncomputable def bitFind (k : IntKind) (s : SE) (n : Nat) : List (SE × (Int × Int)) → Rg
  | [] => none
  | p :: l => cond (bitHit p k s n) (some ((Int.ofNat (p.2.1.toNat / 2 ^ n % 2)), (Int.ofNat (p.2.1.toNat / 2 ^ n % 2)))) (bitFind k s n l)
noncomputable def inK (k : IntKind) : Rg → Bool
  | some r => cond (iLe 0 r.1) (iLe r.2 (kHi k)) false
  | none => false
noncomputable def bitR (ivs : List (SE × (Int × Int))) (op : BinOp) (k : IntKind) (a b : SE) : Rg :=
  match op, a, b with
  | .rem, .bin .shr k' s (.c n), .c x => cond (cond (iBeq x 2) (cond (kBeq k k') (cond (iLe 0 n) (inK k s.rg) false) false) false) (bitFind k s n.toNat ivs) none
  | .and, .bin .shr k' s (.c n), .c x => cond (cond (iBeq x 1) (cond (kBeq k k') (cond (iLe 0 n) (inK k s.rg) false) false) false) (bitFind k s n.toNat ivs) none
  | _, _, _ => none
/-- the lowest bit, told by '& 1' or by '% 2' -/
noncomputable def twinR (ivs : List (SE × (Int × Int))) (op : BinOp) (k : IntKind) (a b : SE) : Rg :=
  match op, b with
  | .rem, .c x => cond (cond (iBeq x 2) (inK k a.rg) false) (ivGet ivs (.bin .and k a (.c 1))) none
  | .and, .c x => cond (cond (iBeq x 1) (inK k a.rg) false) (ivGet ivs (.bin .rem k a (.c 2))) none
  | _, _ => none
noncomputable def rgP (ivs : List (SE × (Int × Int))) : SE → Rg
  | .c n => some (n, n)
  | .v i => orR (ivGet ivs (.v i)) (domGet En.dom i)
  | .bin op k a b => orR (ivGet ivs (.bin op k a b)) (orR (bitR ivs op k a b) (orR (twinR ivs op k a b) (binR op k (rgP ivs a) (rgP ivs b))))
  | .wr k a => orR (ivGet ivs (.wr k a)) (match rgP ivs a with
    | some p => fitR k p.1 p.2
    | none => fullR k)
  | .sel j f k a => orR (ivGet ivs (.sel j f k a)) (fullR k)
noncomputable def factGet : List (SB × Bool) → SB → Option Bool
  | [], _ => none
  | p :: l, b => cond (p.1.beq b) (some p.2) (factGet l b)
noncomputable def litOf : SB → Option Bool
  | .lit b => some b
  | _ => none
noncomputable def orB : Option Bool → Option Bool → Option Bool
  | some b, _ => some b
  | none, r => r
noncomputable def andB : Option Bool → Option Bool → Option Bool
  | some false, _ => some false
  | some true, r => r
  | none, some false => some false
  | none, _ => none
noncomputable def notB : Option Bool → Option Bool
  | some b => some (cond b false true)
  | none => none
noncomputable def iffB : Option Bool → Option Bool → Option Bool
  | some a, some b => some (cond a b (cond b false true))
  | _, _ => none
noncomputable def trueB : Option Bool → Option Bool
  | some true => some true
  | _ => none
/-- 'a < x + 1', by what is known of 'a' and 'x' -/
noncomputable def plusB (pt : Pth) (a b : SE) : Option Bool :=
  match b with
  | .bin .add k x (.c n) => cond (iBeq n 1) (match rgP pt.ivs x with
    | some r => cond (cond (iLe (kLo k) r.1) (iLt r.2 (kHi k)) false) (cond (a.beq x) (some true) (orB (trueB (factGet pt.facts (.lt a x))) (notB (factGet pt.facts (.lt x a))))) none
    | none => none) none
  | _ => none
/-- what is known of a test -/
noncomputable def decP (pt : Pth) : SB → Option Bool
  | .lit b => some b
  | .eq a b => orB (litOf (eqR a b (rgP pt.ivs a) (rgP pt.ivs b))) (factGet pt.facts (.eq a b))
  | .lt a b => orB (litOf (ltR a b (rgP pt.ivs a) (rgP pt.ivs b))) (orB (factGet pt.facts (.lt a b)) (plusB pt a b))
  | .not a => notB (decP pt a)
  | .and a b => orB (andB (decP pt a) (decP pt b)) (factGet pt.facts (.and a b))
  | .iff a b => orB (iffB (decP pt a) (decP pt b)) (factGet pt.facts (.iff a b))
noncomputable def maxI (a b : Int) : Int := cond (iLe a b) b a
/-- a bit of 's' that is known, against 's & m' -/
noncomputable def clash1 (k : IntKind) (s : SE) (m v : Nat) (q : SE × (Int × Int)) : Bool :=
  match q.1 with
  | .bin .and k' (.bin .shr k'' s' (.c n)) (.c o) => cond (cond (iBeq o 1) (cond (kBeq k k') (cond (kBeq k k'') (cond (s'.beq s) (cond (iLe 0 n) (Nat.testBit m n.toNat) false) false) false) false) false)
      (cond (iBeq q.2.1 q.2.2) (cond (iBeq q.2.1 (Int.ofNat (v / 2 ^ n.toNat % 2))) false true) false) false
  | _ => false
noncomputable def clashIv (e : SE) (r : Int × Int) (ivs : List (SE × (Int × Int))) : Bool :=
  match e with
  | .bin .and k s (.c m) => cond (cond (iBeq r.1 r.2) (cond (iLe 0 m) (cond (iLe m (kHi k)) (inK k s.rg) false) false) false) (ivs.any (clash1 k s m.toNat r.1.toNat)) false
  | _ => false
/-- 'e' lies in 'r' -/
noncomputable def addIv (pt : Pth) (e : SE) (r : Int × Int) : Pth :=
  match e with
  | .c _ => pt
  | e => ⟨pt.facts, (e, r) :: pt.ivs, cond (iLt r.2 r.1) true (cond (clashIv e r pt.ivs) true pt.dead)⟩
noncomputable def atMost (pt : Pth) (e : SE) (n : Int) : Pth :=
  match rgP pt.ivs e with
  | some p => addIv pt e (p.1, minI p.2 n)
  | none => pt
noncomputable def atLeast (pt : Pth) (e : SE) (n : Int) : Pth :=
  match rgP pt.ivs e with
  | some p => addIv pt e (maxI p.1 n, p.2)
  | none => pt
noncomputable def isNot (pt : Pth) (e : SE) (n : Int) : Pth :=
  match rgP pt.ivs e with
  | some p => cond (iBeq p.1 n) (addIv pt e (n + 1, p.2)) (cond (iBeq p.2 n) (addIv pt e (p.1, n - 1)) pt)
  | none => pt
noncomputable def isIt (pt : Pth) (e : SE) (n : Int) : Pth :=
  match rgP pt.ivs e with
  | some p => cond (cond (iLe p.1 n) (iLe n p.2) false) (addIv pt e (n, n)) ⟨pt.facts, pt.ivs, true⟩
  | none => addIv pt e (n, n)
noncomputable def addEq (pt : Pth) (v : Bool) : SE → SE → Pth
  | a, .c n => cond v (isIt pt a n) (isNot pt a n)
  | .c n, b => cond v (isIt pt b n) (isNot pt b n)
  | a, b => pt
noncomputable def ltHi (pt : Pth) (a : SE) : Rg → Pth
  | some p => atMost pt a (p.2 - 1)
  | none => pt
noncomputable def ltLo (pt : Pth) (b : SE) : Rg → Pth
  | some p => atLeast pt b (p.1 + 1)
  | none => pt
noncomputable def geLo (pt : Pth) (a : SE) : Rg → Pth
  | some p => atLeast pt a p.1
  | none => pt
noncomputable def geHi (pt : Pth) (b : SE) : Rg → Pth
  | some p => atMost pt b p.2
  | none => pt
noncomputable def addLt (pt : Pth) (v : Bool) (a b : SE) : Pth :=
  cond v (ltLo (ltHi pt a (rgP pt.ivs b)) b (rgP pt.ivs a)) (geHi (geLo pt a (rgP pt.ivs b)) b (rgP pt.ivs a))
noncomputable def Pth.fact (pt : Pth) (b : SB) (v : Bool) : Pth := ⟨(b, v) :: pt.facts, pt.ivs, pt.dead⟩
noncomputable def addP : SB → Bool → Pth → Pth
  | .lit b, v, pt => ⟨pt.facts, pt.ivs, cond (cond b v (cond v false true)) pt.dead true⟩
  | .not a, v, pt => addP a (cond v false true) pt
  | .eq a b, v, pt => (addEq pt v a b).fact (.eq a b) v
  | .lt a b, v, pt => (addLt pt v a b).fact (.lt a b) v
  | .and a b, true, pt => addP b true (addP a true pt)
  | .and a b, false, pt => pt.fact (.and a b) false
  | .iff a b, v, pt => pt.fact (.iff a b) v

def FactsOk (l : List (SB × Bool)) : Prop := ∀ p ∈ l, p.1.ev = p.2
structure PtOk (pt : Pth) : Prop where
  facts : FactsOk pt.facts
  ivs : ∀ p ∈ pt.ivs, p.2.1 ≤ p.1.ev ∧ p.1.ev ≤ p.2.2
  live : pt.dead = false

theorem ivGet_sound {ivs : List (SE × (Int × Int))} (h : ∀ p ∈ ivs, p.2.1 ≤ p.1.ev ∧ p.1.ev ≤ p.2.2) (e : SE) : InR (ivGet ivs e) e.ev := by
  induction ivs with
  | nil => exact InR.none _
  | cons p l ih =>
    unfold ivGet
    cases hb : p.1.beq e with
    | true =>
      intro q hq
      simp only [cond_true, Option.some.injEq] at hq; subst hq
      rw [← SE.beq_t hb]; exact h p (by simp)
    | false => exact ih fun q hq => h q (by simp [hq])
theorem orR_sound {a b : Rg} {n : Int} (ha : InR a n) (hb : InR b n) : InR (orR a b) n := by
  cases a with
  | none => exact hb
  | some p => exact ha
theorem kHi_pow (k : IntKind) : (kHi k).toNat < 2 ^ k.bits := by cases k <;> decide
theorem and_ev {k : IntKind} {x y : Int} (h1 : 0 ≤ x) (h2 : x ≤ kHi k) (h3 : 0 ≤ y) (h4 : y ≤ kHi k) : opI .and k x y = ((x.toNat &&& y.toNat : Nat) : Int) := by
  have hx : x.toNat < 2 ^ k.bits := Nat.lt_of_le_of_lt (by omega) (kHi_pow k)
  have hy : y.toNat < 2 ^ k.bits := Nat.lt_of_le_of_lt (by omega) (kHi_pow k)
  have e : (BitVec.ofInt k.bits x &&& BitVec.ofInt k.bits y).toNat = x.toNat &&& y.toNat := by
    rw [BitVec.toNat_and, BitVec.toNat_ofInt, BitVec.toNat_ofInt]
    have ex : x % ((2 ^ k.bits : Nat) : Int) = x := Int.emod_eq_of_lt h1 (by omega)
    have ey : y % ((2 ^ k.bits : Nat) : Int) = y := Int.emod_eq_of_lt h3 (by omega)
    rw [ex, ey]
  have hle : x.toNat &&& y.toNat ≤ x.toNat := Nat.and_le_left
  simp only [opI, bitI, Option.getD_some]
  rw [e]
  exact wrap_id (by have := kLo_np k; omega) (by omega)
theorem bitFind_sound {ivs : List (SE × (Int × Int))} (h : ∀ p ∈ ivs, p.2.1 ≤ p.1.ev ∧ p.1.ev ≤ p.2.2) {k : IntKind} {s : SE} {n : Nat} (h0 : 0 ≤ s.ev) (h1 : s.ev ≤ kHi k) :
    InR (bitFind k s n ivs) (((s.ev.toNat / 2 ^ n % 2 : Nat)) : Int) ∧ (∀ r, bitFind k s n ivs = some r → n < k.bits) := by
  induction ivs with
  | nil => exact ⟨InR.none _, fun r hr => by cases hr⟩
  | cons p l ih =>
    unfold bitFind
    cases hb : bitHit p k s n with
    | false => exact ih fun q hq => h q (by simp [hq])
    | true =>
      obtain ⟨e, r1, r2⟩ := p
      unfold bitHit at hb
      split at hb
      · rename_i k' s' m he
        simp only at he
        subst he
        obtain ⟨b1, hb⟩ := of_condF' hb
        obtain ⟨b2, hb⟩ := of_condF' hb
        obtain ⟨b3, hb⟩ := of_condF' hb
        obtain ⟨b4, hb⟩ := of_condF' hb
        obtain ⟨b5, b6⟩ := of_condF' hb
        have b1 := kBeq_eq b1
        subst b1
        have b2 := SE.beq_t b2
        subst b2
        have b3 := iBeq_t b3
        simp only at b3
        subst b3
        have b4 := iLe_t b4
        have b5 := iLe_t b5
        have hv := h (.bin .and k s' (.c m), r1, r1) (by simp)
        simp only [SE.ev] at hv
        have hv' : r1 = opI .and k s'.ev m := by omega
        rw [and_ev h0 h1 b4 b5] at hv'
        have hbit : s'.ev.toNat / 2 ^ n % 2 = r1.toNat / 2 ^ n % 2 := by
          rw [hv', Int.toNat_natCast]
          have t1 := Nat.testBit_and s'.ev.toNat m.toNat n
          rw [b6, Bool.and_true, Nat.testBit_eq_decide_div_mod_eq, Nat.testBit_eq_decide_div_mod_eq] at t1
          have := decide_eq_decide.1 t1
          omega
        refine ⟨fun q hq => ?_, fun _ _ => ?_⟩
        · simp only [cond_true, Option.some.injEq] at hq; subst hq
          rw [hbit]
          exact ⟨Int.le_refl _, Int.le_refl _⟩
        · rcases Nat.lt_or_ge n k.bits with hlt | hge
          · exact hlt
          · have hm : m.toNat < 2 ^ n := Nat.lt_of_lt_of_le (Nat.lt_of_le_of_lt (by omega) (kHi_pow k)) (Nat.pow_le_pow_right (by omega) hge)
            rw [Nat.testBit_lt_two_pow hm] at b6; cases b6
      · cases hb
theorem inK_sound {k : IntKind} {s : SE} (h : inK k s.rg = true) : 0 ≤ s.ev ∧ s.ev ≤ kHi k := by
  cases hr : s.rg with
  | none => rw [hr] at h; cases h
  | some r =>
    rw [hr] at h
    obtain ⟨h1, h2⟩ := of_condF' h
    have h1 := iLe_t h1
    have h2 := iLe_t h2
    have := SE.rg_sound s r hr
    omega
theorem shr_ev {k : IntKind} {x : Int} {n : Int} (h0 : 0 ≤ x) (hn : 0 ≤ n) (hb : n.toNat < k.bits) : opI .shr k x n = ((x.toNat / 2 ^ n.toNat : Nat) : Int) := by
  simp only [opI, shrI]
  rw [Nat.min_eq_left (Nat.le_of_lt hb)]
  rw [Int.fdiv_eq_ediv_of_nonneg _ (Int.le_of_lt (Int.pow_pos (by omega)))]
  conv => lhs; rw [← Int.toNat_of_nonneg h0]
  push_cast
  rfl
theorem bitR_sound {ivs : List (SE × (Int × Int))} (h : ∀ p ∈ ivs, p.2.1 ≤ p.1.ev ∧ p.1.ev ≤ p.2.2) {op : BinOp} {k : IntKind} {a b : SE} : InR (bitR ivs op k a b) (SE.bin op k a b).ev := by
  unfold bitR
  split
  · rename_i k' s n x
    cases hc : cond (iBeq x 2) (cond (kBeq k k') (cond (iLe 0 n) (inK k s.rg) false) false) false with
    | false => exact InR.none _
    | true =>
      obtain ⟨c1, hc⟩ := of_condF' hc
      obtain ⟨c2, hc⟩ := of_condF' hc
      obtain ⟨c3, c4⟩ := of_condF' hc
      have c1 := iBeq_t c1
      subst c1
      have c2 := kBeq_eq c2
      subst c2
      have c3 := iLe_t c3
      obtain ⟨d1, d2⟩ := inK_sound c4
      obtain ⟨f1, f2⟩ := bitFind_sound h (n := n.toNat) d1 d2
      intro r hr
      have hr' : bitFind k s n.toNat ivs = some r := hr
      have hb := f2 r hr'
      have := f1 r hr'
      have e : (SE.bin .rem k (.bin .shr k s (.c n)) (.c 2)).ev = ((s.ev.toNat / 2 ^ n.toNat % 2 : Nat) : Int) := by
        simp only [SE.ev]
        rw [shr_ev d1 c3 hb]
        simp only [opI]
        rw [Int.tmod_eq_emod_of_nonneg (Int.natCast_nonneg _)]
        push_cast
        rfl
      rw [e]; exact this
  · rename_i k' s n x
    cases hc : cond (iBeq x 1) (cond (kBeq k k') (cond (iLe 0 n) (inK k s.rg) false) false) false with
    | false => exact InR.none _
    | true =>
      obtain ⟨c1, hc⟩ := of_condF' hc
      obtain ⟨c2, hc⟩ := of_condF' hc
      obtain ⟨c3, c4⟩ := of_condF' hc
      have c1 := iBeq_t c1
      subst c1
      have c2 := kBeq_eq c2
      subst c2
      have c3 := iLe_t c3
      obtain ⟨d1, d2⟩ := inK_sound c4
      obtain ⟨f1, f2⟩ := bitFind_sound h (n := n.toNat) d1 d2
      intro r hr
      have hr' : bitFind k s n.toNat ivs = some r := hr
      have hb := f2 r hr'
      have := f1 r hr'
      have hle : s.ev.toNat / 2 ^ n.toNat ≤ s.ev.toNat := Nat.div_le_self _ _
      have hle2 : ((s.ev.toNat / 2 ^ n.toNat : Nat) : Int) ≤ kHi k := Int.le_trans (Int.ofNat_le.2 hle) (by omega)
      have e : (SE.bin .and k (.bin .shr k s (.c n)) (.c 1)).ev = ((s.ev.toNat / 2 ^ n.toNat % 2 : Nat) : Int) := by
        simp only [SE.ev]
        rw [shr_ev d1 c3 hb, and_ev (Int.natCast_nonneg _) hle2 (by omega) (by cases k <;> decide)]
        rw [Int.toNat_natCast]
        have : (1 : Int).toNat = 1 := rfl
        rw [this, Nat.and_one_is_mod]
      rw [e]; exact this
  · exact InR.none _
theorem twin_ev {k : IntKind} {a : SE} (h : inK k a.rg = true) : (SE.bin .rem k a (.c 2)).ev = (SE.bin .and k a (.c 1)).ev := by
  obtain ⟨h1, h2⟩ := inK_sound h
  simp only [SE.ev]
  rw [and_ev h1 h2 (by omega) (by cases k <;> decide)]
  simp only [opI]
  rw [Int.tmod_eq_emod_of_nonneg h1]
  have : (1 : Int).toNat = 1 := rfl
  rw [this, Nat.and_one_is_mod]
  omega
theorem twinR_sound {ivs : List (SE × (Int × Int))} (h : ∀ p ∈ ivs, p.2.1 ≤ p.1.ev ∧ p.1.ev ≤ p.2.2) {op : BinOp} {k : IntKind} {a b : SE} : InR (twinR ivs op k a b) (SE.bin op k a b).ev := by
  unfold twinR
  split
  · rename_i x
    cases hc : cond (iBeq x 2) (inK k a.rg) false with
    | false => exact InR.none _
    | true =>
      obtain ⟨c1, c2⟩ := of_condF' hc
      have c1 := iBeq_t c1
      subst c1
      rw [twin_ev c2]
      exact ivGet_sound h _
  · rename_i x
    cases hc : cond (iBeq x 1) (inK k a.rg) false with
    | false => exact InR.none _
    | true =>
      obtain ⟨c1, c2⟩ := of_condF' hc
      have c1 := iBeq_t c1
      subst c1
      rw [← twin_ev c2]
      exact ivGet_sound h _
  · exact InR.none _
theorem rgP_sound {ivs : List (SE × (Int × Int))} (h : ∀ p ∈ ivs, p.2.1 ≤ p.1.ev ∧ p.1.ev ≤ p.2.2) : ∀ (e : SE), InR (rgP ivs e) e.ev
  | .c n => fun p hp => by simp only [rgP, Option.some.injEq] at hp; subst hp; exact ⟨Int.le_refl _, Int.le_refl _⟩
  | .v i => orR_sound (ivGet_sound h _) (SE.rg_sound (.v i))
  | .bin op k a b => orR_sound (ivGet_sound h _) (orR_sound (bitR_sound h) (orR_sound (twinR_sound h) (binR_sound (rgP_sound h a) (rgP_sound h b))))
  | .wr k a => orR_sound (ivGet_sound h _) (by
    have ih := rgP_sound h a
    cases hr : rgP ivs a with
    | none => exact InR.full _ _
    | some p =>
      obtain ⟨h1, h2⟩ := ih p hr
      exact InR.fit h1 h2)
  | .sel j f k a => orR_sound (ivGet_sound h _) (InR.full k _)
theorem factGet_sound {l : List (SB × Bool)} (h : FactsOk l) {b : SB} {v : Bool} (hv : factGet l b = some v) : b.ev = v := by
  induction l with
  | nil => cases hv
  | cons p l ih =>
    unfold factGet at hv
    cases hb : p.1.beq b with
    | true =>
      simp only [hb, cond_true, Option.some.injEq] at hv; subst hv
      rw [← SB.beq_t hb]; exact h p (by simp)
    | false =>
      simp only [hb, cond_false] at hv
      exact ih (fun q hq => h q (by simp [hq])) hv
theorem eqR_sound {a b : SE} {x y : Rg} (hx : InR x a.ev) (hy : InR y b.ev) {v : Bool} (h : litOf (eqR a b x y) = some v) : (a.ev == b.ev) = v := by
  unfold eqR at h
  split at h
  · rename_i x y
    obtain ⟨h1, h2⟩ := hx _ rfl
    obtain ⟨h3, h4⟩ := hy _ rfl
    cases c1 : iLt x.2 y.1 with
    | true =>
      have := iLt_t c1
      simp only [c1, cond_true, litOf, Option.some.injEq] at h; subst h
      rw [beq_eq_false_iff_ne]; omega
    | false =>
      cases c2 : iLt y.2 x.1 with
      | true =>
        have := iLt_t c2
        simp only [c1, c2, cond_true, cond_false, litOf, Option.some.injEq] at h; subst h
        rw [beq_eq_false_iff_ne]; omega
      | false =>
        simp only [c1, c2, cond_false] at h
        cases c3 : cond (iBeq x.1 x.2) (cond (iBeq y.1 y.2) (iBeq x.1 y.1) false) false with
        | false => simp only [c3, cond_false, litOf] at h; cases h
        | true =>
          simp only [c3, cond_true, litOf, Option.some.injEq] at h; subst h
          obtain ⟨d1, d2⟩ := of_condF' c3
          obtain ⟨d2, d3⟩ := of_condF' d2
          have d1 := iBeq_t d1
          have d2 := iBeq_t d2
          have d3 := iBeq_t d3
          rw [beq_iff_eq]; omega
  · cases h
theorem ltR_sound {a b : SE} {x y : Rg} (hx : InR x a.ev) (hy : InR y b.ev) {v : Bool} (h : litOf (ltR a b x y) = some v) : decide (a.ev < b.ev) = v := by
  unfold ltR at h
  split at h
  · rename_i x y
    obtain ⟨h1, h2⟩ := hx _ rfl
    obtain ⟨h3, h4⟩ := hy _ rfl
    cases c1 : iLt x.2 y.1 with
    | true =>
      have := iLt_t c1
      simp only [c1, cond_true, litOf, Option.some.injEq] at h; subst h
      rw [decide_eq_true_iff]; omega
    | false =>
      cases c2 : iLe y.2 x.1 with
      | true =>
        have := iLe_t c2
        simp only [c1, c2, cond_true, cond_false, litOf, Option.some.injEq] at h; subst h
        rw [decide_eq_false_iff_not]; omega
      | false =>
        simp only [c1, c2, cond_false, litOf] at h; cases h
  · cases h
theorem orB_cases {a b : Option Bool} {v : Bool} (h : orB a b = some v) : a = some v ∨ b = some v := by
  cases a with
  | none => exact .inr h
  | some x => exact .inl h
theorem plusB_sound {pt : Pth} (h : PtOk pt) {a b : SE} {v : Bool} (hv : plusB pt a b = some v) : decide (a.ev < b.ev) = v := by
  unfold plusB at hv
  split at hv
  · rename_i k x n
    cases c1 : iBeq n 1 with
    | false => rw [c1] at hv; cases hv
    | true =>
      rw [c1] at hv
      have c1 := iBeq_t c1
      subst c1
      simp only [cond_true] at hv
      cases hr : rgP pt.ivs x with
      | none => rw [hr] at hv; cases hv
      | some r =>
        rw [hr] at hv
        simp only at hv
        cases c2 : cond (iLe (kLo k) r.1) (iLt r.2 (kHi k)) false with
        | false => rw [c2] at hv; cases hv
        | true =>
          rw [c2] at hv
          obtain ⟨d1, d2⟩ := of_condF' c2
          have d1 := iLe_t d1
          have d2 := iLt_t d2
          have hx := rgP_sound h.ivs x r hr
          have e : (SE.bin .add k x (.c 1)).ev = x.ev + 1 := by
            show k.wrap (x.ev + 1) = _
            exact wrap_id (by omega) (by omega)
          rw [e]
          simp only [cond_true] at hv
          cases c3 : a.beq x with
          | true =>
            rw [c3] at hv
            simp only [cond_true, Option.some.injEq] at hv; subst hv
            rw [SE.beq_t c3]
            simp; omega
          | false =>
            rw [c3] at hv
            simp only [cond_false] at hv
            rcases orB_cases hv with hv | hv
            · cases hf : factGet pt.facts (.lt a x) with
              | none => rw [hf] at hv; cases hv
              | some b =>
                rw [hf] at hv
                cases b with
                | false => cases hv
                | true =>
                  simp only [trueB, Option.some.injEq] at hv; subst hv
                  have := factGet_sound h.facts hf
                  simp only [SB.ev, decide_eq_true_eq] at this ⊢
                  omega
            · cases hf : factGet pt.facts (.lt x a) with
              | none => rw [hf] at hv; cases hv
              | some b =>
                rw [hf] at hv
                simp only [notB, Option.some.injEq] at hv; subst hv
                have := factGet_sound h.facts hf
                cases b with
                | true =>
                  simp only [SB.ev, decide_eq_true_eq] at this
                  simp only [cond_true, decide_eq_false_iff_not]
                  omega
                | false =>
                  simp only [SB.ev, decide_eq_false_iff_not] at this
                  simp only [cond_false, decide_eq_true_eq]
                  omega
  · cases hv
theorem decP_sound {pt : Pth} (h : PtOk pt) : ∀ {b : SB} {v : Bool}, decP pt b = some v → b.ev = v
  | .lit b, v, hv => by simp only [decP, Option.some.injEq] at hv; exact hv
  | .eq a b, v, hv => by
    rcases orB_cases hv with hv | hv
    · exact eqR_sound (rgP_sound h.ivs a) (rgP_sound h.ivs b) hv
    · exact factGet_sound h.facts hv
  | .lt a b, v, hv => by
    rcases orB_cases hv with hv | hv
    · exact ltR_sound (rgP_sound h.ivs a) (rgP_sound h.ivs b) hv
    · rcases orB_cases hv with hv | hv
      · exact factGet_sound h.facts hv
      · exact plusB_sound h hv
  | .not a, v, hv => by
    unfold decP at hv
    cases ha : decP pt a with
    | none => rw [ha] at hv; cases hv
    | some x =>
      rw [ha] at hv
      have := decP_sound h ha
      simp only [notB, Option.some.injEq] at hv
      simp only [SB.ev, this]
      rw [← hv]; cases x <;> rfl
  | .and a b, v, hv => by
    rcases orB_cases hv with hv | hv
    · have ia := fun x => decP_sound h (b := a) (v := x)
      have ib := fun x => decP_sound h (b := b) (v := x)
      cases ha : decP pt a with
      | none =>
        rw [ha] at hv
        cases hb : decP pt b with
        | none => rw [hb] at hv; cases hv
        | some y =>
          rw [hb] at hv
          cases y with
          | true => cases hv
          | false =>
            have := ib false hb
            simp only [andB, Option.some.injEq] at hv; subst hv
            simp [SB.ev, this]
      | some x =>
        rw [ha] at hv
        have hx := ia x ha
        cases x with
        | false =>
          simp only [andB, Option.some.injEq] at hv; subst hv
          simp [SB.ev, hx]
        | true =>
          simp only [andB] at hv
          have := ib v hv
          simp [SB.ev, hx, this]
    · exact factGet_sound h.facts hv
  | .iff a b, v, hv => by
    rcases orB_cases hv with hv | hv
    · cases ha : decP pt a with
      | none => rw [ha] at hv; cases hv
      | some x =>
        rw [ha] at hv
        cases hb : decP pt b with
        | none => rw [hb] at hv; cases hv
        | some y =>
          rw [hb] at hv
          have hx := decP_sound h ha
          have hy := decP_sound h hb
          simp only [iffB, Option.some.injEq] at hv
          simp only [SB.ev, hx, hy]
          rw [← hv]; cases x <;> cases y <;> rfl
    · exact factGet_sound h.facts hv

theorem maxI_le (a b : Int) : a ≤ maxI a b ∧ b ≤ maxI a b ∧ (maxI a b = a ∨ maxI a b = b) := by
  unfold maxI
  cases h : iLe a b with
  | true => have := iLe_t h; simp; omega
  | false => have := iLe_f h; simp; omega
theorem iBeq_ff {a b : Int} : iBeq a b = false ↔ ¬ a = b := by
  constructor
  · intro h e
    subst e
    cases a <;> simp [iBeq] at h
  · intro h
    cases hb : iBeq a b with
    | false => rfl
    | true => exact absurd (iBeq_t hb) h
theorem clashIv_f {ivs : List (SE × (Int × Int))} (h : ∀ p ∈ ivs, p.2.1 ≤ p.1.ev ∧ p.1.ev ≤ p.2.2) {e : SE} {r : Int × Int} (h1 : r.1 ≤ e.ev) (h2 : e.ev ≤ r.2) : clashIv e r ivs = false := by
  unfold clashIv
  split
  · rename_i k s m
    cases hc : cond (iBeq r.1 r.2) (cond (iLe 0 m) (cond (iLe m (kHi k)) (inK k s.rg) false) false) false with
    | false => rfl
    | true =>
      obtain ⟨c1, hc⟩ := of_condF' hc
      obtain ⟨c2, hc⟩ := of_condF' hc
      obtain ⟨c3, c4⟩ := of_condF' hc
      have c1 := iBeq_t c1
      have c2 := iLe_t c2
      have c3 := iLe_t c3
      obtain ⟨d1, d2⟩ := inK_sound c4
      have hv : (SE.bin .and k s (.c m)).ev = ((s.ev.toNat &&& m.toNat : Nat) : Int) := and_ev d1 d2 c2 c3
      rw [hv] at h1 h2
      simp only [cond_true]
      rw [List.any_eq_false]
      intro q hq hk
      unfold clash1 at hk
      split at hk
      · rename_i k' k'' s' n o heq
        cases hc : cond (iBeq o 1) (cond (kBeq k k') (cond (kBeq k k'') (cond (s'.beq s) (cond (iLe 0 n) (Nat.testBit m.toNat n.toNat) false) false) false) false) false with
        | false => rw [hc] at hk; cases hk
        | true =>
          rw [hc] at hk
          obtain ⟨e1, hc⟩ := of_condF' hc
          obtain ⟨e2, hc⟩ := of_condF' hc
          obtain ⟨e3, hc⟩ := of_condF' hc
          obtain ⟨e4, hc⟩ := of_condF' hc
          obtain ⟨e5, e6⟩ := of_condF' hc
          have e1 := iBeq_t e1
          have e2 := kBeq_eq e2
          have e3 := kBeq_eq e3
          have e4 := SE.beq_t e4
          have e5 := iLe_t e5
          subst e1; subst e2; subst e3; subst e4
          simp only [cond_true] at hk
          obtain ⟨f1, f2⟩ := of_condF' hk
          have f1 := iBeq_t f1
          have hb : n.toNat < k.bits := by
            rcases Nat.lt_or_ge n.toNat k.bits with hlt | hge
            · exact hlt
            · have hm : m.toNat < 2 ^ n.toNat := Nat.lt_of_lt_of_le (Nat.lt_of_le_of_lt (by omega) (kHi_pow k)) (Nat.pow_le_pow_right (by omega) hge)
              rw [Nat.testBit_lt_two_pow hm] at e6; cases e6
          have hle : s'.ev.toNat / 2 ^ n.toNat ≤ s'.ev.toNat := Nat.div_le_self _ _
          have hle2 : ((s'.ev.toNat / 2 ^ n.toNat : Nat) : Int) ≤ kHi k := Int.le_trans (Int.ofNat_le.2 hle) (by omega)
          have e : (SE.bin .and k (.bin .shr k s' (.c n)) (.c 1)).ev = ((s'.ev.toNat / 2 ^ n.toNat % 2 : Nat) : Int) := by
            simp only [SE.ev]
            rw [shr_ev d1 e5 hb, and_ev (Int.natCast_nonneg _) hle2 (by omega) (by cases k <;> decide)]
            rw [Int.toNat_natCast]
            have : (1 : Int).toNat = 1 := rfl
            rw [this, Nat.and_one_is_mod]
          have hq := h q hq
          rw [heq, e] at hq
          have hbit : s'.ev.toNat / 2 ^ n.toNat % 2 = r.1.toNat / 2 ^ n.toNat % 2 := by
            have hr : r.1.toNat = s'.ev.toNat &&& m.toNat := by omega
            rw [hr]
            have t1 := Nat.testBit_and s'.ev.toNat m.toNat n.toNat
            rw [e6, Bool.and_true, Nat.testBit_eq_decide_div_mod_eq, Nat.testBit_eq_decide_div_mod_eq] at t1
            have := decide_eq_decide.1 t1
            omega
          cases hf : iBeq q.2.1 (Int.ofNat (r.1.toNat / 2 ^ n.toNat % 2)) with
          | true => rw [hf] at f2; cases f2
          | false =>
            rw [iBeq_ff] at hf
            apply hf
            rw [← hbit]
            show q.2.1 = ((s'.ev.toNat / 2 ^ n.toNat % 2 : Nat) : Int)
            omega
      · cases hk
  · rfl
theorem addIv_sound {pt : Pth} (h : PtOk pt) {e : SE} {r : Int × Int} (h1 : r.1 ≤ e.ev) (h2 : e.ev ≤ r.2) : PtOk (addIv pt e r) := by
  have key : PtOk ⟨pt.facts, (e, r) :: pt.ivs, cond (iLt r.2 r.1) true (cond (clashIv e r pt.ivs) true pt.dead)⟩ := by
    refine ⟨h.facts, fun p hp => ?_, ?_⟩
    · rcases List.mem_cons.1 hp with rfl | hp
      · exact ⟨h1, h2⟩
      · exact h.ivs p hp
    · rw [clashIv_f h.ivs h1 h2]
      cases c : iLt r.2 r.1 with
      | true => have := iLt_t c; omega
      | false => exact h.live
  cases e with
  | c n => exact h
  | _ => exact key
theorem atMost_sound {pt : Pth} (h : PtOk pt) {e : SE} {n : Int} (h1 : e.ev ≤ n) : PtOk (atMost pt e n) := by
  unfold atMost
  cases hr : rgP pt.ivs e with
  | none => exact h
  | some p =>
    obtain ⟨a, b⟩ := rgP_sound h.ivs e p hr
    obtain ⟨m1, m2, m3⟩ := minI_le p.2 n
    exact addIv_sound h a (show e.ev ≤ minI p.2 n by omega)
theorem atLeast_sound {pt : Pth} (h : PtOk pt) {e : SE} {n : Int} (h1 : n ≤ e.ev) : PtOk (atLeast pt e n) := by
  unfold atLeast
  cases hr : rgP pt.ivs e with
  | none => exact h
  | some p =>
    obtain ⟨a, b⟩ := rgP_sound h.ivs e p hr
    obtain ⟨m1, m2, m3⟩ := maxI_le p.1 n
    exact addIv_sound h (show maxI p.1 n ≤ e.ev by omega) b
theorem isNot_sound {pt : Pth} (h : PtOk pt) {e : SE} {n : Int} (h1 : e.ev ≠ n) : PtOk (isNot pt e n) := by
  unfold isNot
  cases hr : rgP pt.ivs e with
  | none => exact h
  | some p =>
    obtain ⟨a, b⟩ := rgP_sound h.ivs e p hr
    simp only
    cases c1 : iBeq p.1 n with
    | true => have := iBeq_t c1; exact addIv_sound h (show n + 1 ≤ e.ev by omega) b
    | false =>
      cases c2 : iBeq p.2 n with
      | true => have := iBeq_t c2; exact addIv_sound h a (show e.ev ≤ n - 1 by omega)
      | false => exact h
theorem isIt_sound {pt : Pth} (h : PtOk pt) {e : SE} {n : Int} (h1 : e.ev = n) : PtOk (isIt pt e n) := by
  unfold isIt
  cases hr : rgP pt.ivs e with
  | none => exact addIv_sound h (show n ≤ e.ev by omega) (show e.ev ≤ n by omega)
  | some p =>
    obtain ⟨a, b⟩ := rgP_sound h.ivs e p hr
    simp only
    cases c : cond (iLe p.1 n) (iLe n p.2) false with
    | true => exact addIv_sound h (show n ≤ e.ev by omega) (show e.ev ≤ n by omega)
    | false =>
      exfalso
      cases c1 : iLe p.1 n with
      | false => have := iLe_f c1; omega
      | true =>
        rw [c1] at c
        have := iLe_f c; omega
theorem addEq_sound {pt : Pth} (h : PtOk pt) {v : Bool} {a b : SE} (hv : (a.ev == b.ev) = v) : PtOk (addEq pt v a b) := by
  have ke : ∀ {a : SE} {n : Int}, (a.ev == n) = v → PtOk (cond v (isIt pt a n) (isNot pt a n)) := fun {a n} hv => by
    cases v with
    | true => rw [beq_iff_eq] at hv; exact isIt_sound h hv
    | false => rw [beq_eq_false_iff_ne] at hv; exact isNot_sound h hv
  unfold addEq
  split
  · exact ke hv
  · refine ke ?_
    rw [← hv]
    exact Bool.eq_iff_iff.2 (by rw [beq_iff_eq, beq_iff_eq]; exact eq_comm)
  · exact h
theorem addLt_sound {pt : Pth} (h : PtOk pt) {v : Bool} {a b : SE} (hv : decide (a.ev < b.ev) = v) : PtOk (addLt pt v a b) := by
  have ra := rgP_sound h.ivs a
  have rb := rgP_sound h.ivs b
  unfold addLt
  cases v with
  | true =>
    have hlt : a.ev < b.ev := by simpa using hv
    have h1 : PtOk (ltHi pt a (rgP pt.ivs b)) := by
      cases hr : rgP pt.ivs b with
      | none => exact h
      | some p => have := rb p hr; exact atMost_sound h (show a.ev ≤ p.2 - 1 by omega)
    show PtOk (ltLo _ b (rgP pt.ivs a))
    cases hr : rgP pt.ivs a with
    | none => exact h1
    | some p => have := ra p hr; exact atLeast_sound h1 (show p.1 + 1 ≤ b.ev by omega)
  | false =>
    have hge : b.ev ≤ a.ev := by simpa using hv
    have h1 : PtOk (geLo pt a (rgP pt.ivs b)) := by
      cases hr : rgP pt.ivs b with
      | none => exact h
      | some p => have := rb p hr; exact atLeast_sound h (show p.1 ≤ a.ev by omega)
    show PtOk (geHi _ b (rgP pt.ivs a))
    cases hr : rgP pt.ivs a with
    | none => exact h1
    | some p => have := ra p hr; exact atMost_sound h1 (show b.ev ≤ p.2 by omega)
theorem fact_sound {pt : Pth} (h : PtOk pt) {b : SB} {v : Bool} (hv : b.ev = v) : PtOk (pt.fact b v) :=
  ⟨fun p hp => by
    rcases List.mem_cons.1 hp with rfl | hp
    · exact hv
    · exact h.facts p hp, h.ivs, h.live⟩
theorem addP_sound : ∀ {b : SB} {v : Bool} {pt : Pth}, PtOk pt → b.ev = v → PtOk (addP b v pt)
  | .lit b, v, pt, h, hv => by
    simp only [SB.ev] at hv; subst hv
    refine ⟨h.facts, h.ivs, ?_⟩
    have := h.live
    cases b <;> simpa [addP] using this
  | .not a, v, pt, h, hv => addP_sound (b := a) h (by
    simp only [SB.ev] at hv
    rw [← hv]; cases a.ev <;> rfl)
  | .eq a b, v, pt, h, hv => fact_sound (addEq_sound h hv) hv
  | .lt a b, v, pt, h, hv => fact_sound (addLt_sound h hv) hv
  | .and a b, true, pt, h, hv => by
    simp only [SB.ev, Bool.and_eq_true] at hv
    exact addP_sound (b := b) (addP_sound (b := a) h hv.1) hv.2
  | .and a b, false, pt, h, hv => fact_sound h hv
  | .iff a b, v, pt, h, hv => fact_sound h hv

/-! ### All ways -/
noncomputable def reach : Out → Out
  | .br b x y => cond b.ev (reach x) (reach y)
  | .stuck s => .stuck s
  | .cfg k st => .cfg k st
  | .fin e st => .fin e st
/-- the ways that do not end well: where, and what was met -/
noncomputable def bad : Out → Pth → List (String × List (SB × Bool))
  | .br b x y, pt => match decP pt b with
    | some true => bad x pt
    | some false => bad y pt
    | none => cond (addP b true pt).dead (cond (addP b false pt).dead [] (bad y (addP b false pt))) (cond (addP b false pt).dead (bad x (addP b true pt)) (bad x (addP b true pt) ++ bad y (addP b false pt)))
  | .stuck s, pt => [(s, pt.facts)]
  | .cfg _ _, pt => [("stop", pt.facts)]
  | .fin _ _, _ => []
/-- .. and the same where a stop is well -/
noncomputable def badC : Out → Pth → List (String × List (SB × Bool))
  | .br b x y, pt => match decP pt b with
    | some true => badC x pt
    | some false => badC y pt
    | none => cond (addP b true pt).dead (cond (addP b false pt).dead [] (badC y (addP b false pt))) (cond (addP b false pt).dead (badC x (addP b true pt)) (badC x (addP b true pt) ++ badC y (addP b false pt)))
  | .stuck s, pt => [(s, pt.facts)]
  | .cfg _ _, _ => []
  | .fin _ _, _ => []
def Fin (o : Out) : Prop := ∃ e st, reach o = .fin e st
theorem Fin.good : Good Fin :=
  ⟨fun s ⟨_, _, h⟩ => by simp [reach] at h, fun b x y ⟨e, st, h⟩ => ⟨e, st, by
    simp only [reach] at h
    cases hb : b.ev <;> rw [hb] at h <;> exact h⟩⟩
theorem bad_sound : ∀ {o : Out} {pt : Pth}, PtOk pt → (∀ p ∈ bad o pt, ¬ FactsOk p.2) → Fin o
  | .br b x y, pt, h, hb => by
    have hx := fun {pt'} => bad_sound (o := x) (pt := pt')
    have hy := fun {pt'} => bad_sound (o := y) (pt := pt')
    have go : ∀ v, b.ev = v → Fin (cond v x y) → Fin (.br b x y) := fun v hv ⟨e, st, h⟩ => ⟨e, st, by
      simp only [reach, hv]
      cases v <;> exact h⟩
    unfold bad at hb
    cases hd : decP pt b with
    | some v =>
      have hv := decP_sound h hd
      rw [hd] at hb
      cases v with
      | true => exact go true hv (hx h hb)
      | false => exact go false hv (hy h hb)
    | none =>
      rw [hd] at hb
      simp only at hb
      cases hv : b.ev with
      | true =>
        have h' := addP_sound h hv
        rw [h'.live] at hb
        simp only [cond_false] at hb
        refine go true hv (hx h' fun p hp => ?_)
        cases hdd : (addP b false pt).dead with
        | true => rw [hdd] at hb; exact hb p hp
        | false => rw [hdd] at hb; exact hb p (by simp [hp])
      | false =>
        have h' := addP_sound h hv
        cases hdd : (addP b true pt).dead with
        | true =>
          rw [hdd, h'.live] at hb
          exact go false hv (hy h' hb)
        | false =>
          rw [hdd, h'.live] at hb
          simp only [cond_false] at hb
          exact go false hv (hy h' fun p hp => hb p (by simp [hp]))
  | .stuck s, pt, h, hb => absurd h.facts (hb (s, pt.facts) (by simp [bad]))
  | .cfg k st, pt, h, hb => absurd h.facts (hb ("stop", pt.facts) (by simp [bad]))
  | .fin e st, pt, h, hb => ⟨e, st, rfl⟩
end Go.Proofs.Ytigilihpofafoaa.Loc
