/- The small machine of local values: open numbers: what their tests and bounds tell. -/
import Derived.Test.YtigilihpofafoaaLocS
import Derived.Laws.Strings
import Derived.Laws.BytesArg
namespace Go.Proofs.Ytigilihpofafoaa.Loc
open Go
set_option linter.unusedVariables false
set_option linter.unusedSimpArgs false
set_option linter.unusedSectionVars false
variable [En]

theorem iBeq_t : ∀ {a b : Int}, iBeq a b = true → a = b
  | .ofNat a, .ofNat b, h => by rw [beq_t.1 h]
  | .negSucc a, .negSucc b, h => by rw [beq_t.1 h]
  | .ofNat _, .negSucc _, h => by cases h
  | .negSucc _, .ofNat _, h => by cases h
theorem iLe_t : ∀ {a b : Int}, iLe a b = true → a ≤ b
  | .ofNat a, .ofNat b, h => by have := Nat.le_of_ble_eq_true h; show (a : Int) ≤ b; omega
  | .negSucc a, .negSucc b, h => by have := Nat.le_of_ble_eq_true h; omega
  | .negSucc a, .ofNat b, _ => by show Int.negSucc a ≤ (b : Int); omega
  | .ofNat _, .negSucc _, h => by cases h
theorem iLe_f : ∀ {a b : Int}, iLe a b = false → b < a
  | .ofNat a, .ofNat b, h => by
    have : ¬ a ≤ b := fun h' => by simp only [iLe] at h; rw [Nat.ble_eq_true_of_le h'] at h; cases h
    show (b : Int) < a; omega
  | .negSucc a, .negSucc b, h => by
    have : ¬ b ≤ a := fun h' => by simp only [iLe] at h; rw [Nat.ble_eq_true_of_le h'] at h; cases h
    omega
  | .negSucc a, .ofNat b, h => by cases h
  | .ofNat a, .negSucc b, _ => by show Int.negSucc b < (a : Int); omega
theorem iLt_t : ∀ {a b : Int}, iLt a b = true → a < b
  | .ofNat a, .ofNat b, h => by simp only [iLt, Nat.blt_eq] at h; show (a : Int) < b; omega
  | .negSucc a, .negSucc b, h => by simp only [iLt, Nat.blt_eq] at h; omega
  | .negSucc a, .ofNat b, _ => by show Int.negSucc a < (b : Int); omega
  | .ofNat _, .negSucc _, h => by cases h

theorem iLt_f : ∀ {a b : Int}, iLt a b = false → b ≤ a
  | .ofNat a, .ofNat b, h => by
    have : ¬ a < b := fun h' => by simp only [iLt] at h; have e : Nat.blt _ _ = true := (Nat.blt_eq).mpr h'; rw [e] at h; cases h
    show (b : Int) ≤ a; omega
  | .negSucc a, .negSucc b, h => by
    have : ¬ b < a := fun h' => by simp only [iLt] at h; have e : Nat.blt _ _ = true := (Nat.blt_eq).mpr h'; rw [e] at h; cases h
    omega
  | .negSucc a, .ofNat b, h => by cases h
  | .ofNat a, .negSucc b, _ => by show Int.negSucc b ≤ (a : Int); omega
theorem opBeq_t {a b : BinOp} (h : opBeq a b = true) : a = b := by
  cases a <;> cases b <;> first | rfl | (simp [opBeq, opCode] at h)
theorem of_condF' {a b : Bool} (h : cond a b false = true) : a = true ∧ b = true := by
  cases a
  · cases h
  · exact ⟨rfl, h⟩
theorem SE.beq_t : ∀ {a b : SE}, a.beq b = true → a = b
  | .c a, b, h => by
    cases b <;> simp only [SE.beq] at h <;> first | (cases h; done) | (rw [iBeq_t h])
  | .v i, b, h => by
    cases b <;> simp only [SE.beq] at h <;> first | (cases h; done) | (rw [Nat.eq_of_beq_eq_true h])
  | .wr k a, b, h => by
    cases b <;> simp only [SE.beq] at h <;> first | (cases h; done) | skip
    obtain ⟨h1, h2⟩ := of_condF' h
    rw [kBeq_eq h1, SE.beq_t h2]
  | .sel j f k a, b, h => by
    cases b <;> simp only [SE.beq] at h <;> first | (cases h; done) | skip
    obtain ⟨h1, h2⟩ := of_condF' h
    obtain ⟨h2, h3⟩ := of_condF' h2
    obtain ⟨h3, h4⟩ := of_condF' h3
    rw [Nat.eq_of_beq_eq_true h1, Nat.eq_of_beq_eq_true h2, kBeq_eq h3, SE.beq_t h4]
  | .bin op k a b, d, h => by
    cases d <;> simp only [SE.beq] at h <;> first | (cases h; done) | skip
    obtain ⟨h1, h2⟩ := of_condF' h
    obtain ⟨h2, h3⟩ := of_condF' h2
    obtain ⟨h3, h4⟩ := of_condF' h3
    rw [opBeq_t h1, kBeq_eq h2, SE.beq_t h3, SE.beq_t h4]
theorem SB.beq_t : ∀ {a b : SB}, a.beq b = true → a = b
  | .lit a, b, h => by
    cases b <;> simp only [SB.beq] at h <;> first | (cases h; done) | skip
    rename_i b; cases a <;> cases b <;> first | rfl | cases h
  | .eq a a', b, h => by
    cases b <;> simp only [SB.beq] at h <;> first | (cases h; done) | skip
    obtain ⟨h1, h2⟩ := of_condF' h
    rw [SE.beq_t h1, SE.beq_t h2]
  | .lt a a', b, h => by
    cases b <;> simp only [SB.beq] at h <;> first | (cases h; done) | skip
    obtain ⟨h1, h2⟩ := of_condF' h
    rw [SE.beq_t h1, SE.beq_t h2]
  | .not a, b, h => by
    cases b <;> simp only [SB.beq] at h <;> first | (cases h; done) | skip
    rw [SB.beq_t h]
  | .and a a', b, h => by
    cases b <;> simp only [SB.beq] at h <;> first | (cases h; done) | skip
    obtain ⟨h1, h2⟩ := of_condF' h
    rw [SB.beq_t h1, SB.beq_t h2]
  | .iff a a', b, h => by
    cases b <;> simp only [SB.beq] at h <;> first | (cases h; done) | skip
    obtain ⟨h1, h2⟩ := of_condF' h
    rw [SB.beq_t h1, SB.beq_t h2]

theorem lBeq_eq : ∀ (a b : List UInt8), lBeq a b = (a == b)
  | [], [] => rfl
  | [], _ :: _ => rfl
  | _ :: _, [] => rfl
  | a :: l, b :: m => by
    unfold lBeq
    rw [lBeq_eq l m]
    by_cases h : a = b
    · subst h
      rw [Nat.beq_refl]
      simp [List.cons_beq_cons]
    · have : Nat.beq a.toNat b.toNat = false := by
        rw [beq_f]; exact fun e => h (UInt8.toNat_inj.1 e)
      rw [this]
      simp [List.cons_beq_cons, h]
theorem sBeq_eq (a b : ByteArray) : sBeq a b = (a.toList == b.toList) := by
  unfold sBeq
  rw [lBeq_eq, ByteArray.toList_eq, ByteArray.toList_eq]

/-! ### Wraps -/
theorem wrap_rg (k : IntKind) (n : Int) : kLo k ≤ k.wrap n ∧ k.wrap n ≤ kHi k := by
  cases k <;> simp [kLo, kHi, IntKind.wrap, IntKind.bits, IntKind.signed] <;> first | omega | (split <;> omega)
theorem wrap_id {k : IntKind} {n : Int} (h1 : kLo k ≤ n) (h2 : n ≤ kHi k) : k.wrap n = n := by
  cases k <;> simp [kLo, kHi] at h1 h2 <;> simp [IntKind.wrap, IntKind.bits, IntKind.signed] <;> first | omega | (split <;> omega)
theorem kHi_lt (k : IntKind) : kHi k < 2 ^ k.bits := by cases k <;> decide
theorem kHi_nn (k : IntKind) : 0 ≤ kHi k := by cases k <;> decide
theorem kLo_np (k : IntKind) : kLo k ≤ 0 := by cases k <;> decide

theorem wrapQ_eq (k : IntKind) (n : Int) : wrapQ k n = k.wrap n := by
  unfold wrapQ
  cases h1 : iLe (kLo k) n with
  | false => rfl
  | true =>
    cases h2 : iLe n (kHi k) with
    | false => rfl
    | true => exact (wrap_id (iLe_t h1) (iLe_t h2)).symm
theorem iLt_eq (a b : Int) : iLt a b = decide (a < b) := by
  cases h : iLt a b with
  | true => have := iLt_t h; simp [this]
  | false => have := iLt_f h; symm; rw [decide_eq_false_iff_not]; omega
theorem iLe_eq (a b : Int) : iLe a b = decide (a ≤ b) := by
  cases h : iLe a b with
  | true => have := iLe_t h; simp [this]
  | false => have := iLe_f h; symm; rw [decide_eq_false_iff_not]; omega
theorem litB_eq {op : BinOp} {k k' : IntKind} {a b : Int} {c : LV → Out} : (litB op).v k a k' b c = match op with
    | .shl | .shr => intOp op k a b c
    | op => cond (kBeq k k') (intOp op k a b c) (.stuck "kinds") := by
  cases op <;> simp only [litB, samK, intOp, cmpI, wrapQ_eq, iLt_eq, iLe_eq] <;> first | rfl | skip

/-! ### Bounds -/
def InR (r : Rg) (n : Int) : Prop := ∀ p, r = some p → p.1 ≤ n ∧ n ≤ p.2
theorem InR.full (k : IntKind) (n : Int) : InR (fullR k) (k.wrap n) := fun p h => by
  simp only [fullR, Option.some.injEq] at h; subst h
  exact wrap_rg k n
theorem InR.fit {k : IntKind} {l h n : Int} (h1 : l ≤ n) (h2 : n ≤ h) : InR (fitR k l h) (k.wrap n) := fun p hp => by
  unfold fitR at hp
  cases c1 : iLe (kLo k) l with
  | false => rw [c1] at hp; exact InR.full k n p hp
  | true =>
    rw [c1] at hp
    cases c2 : iLe h (kHi k) with
    | false => rw [c2] at hp; exact InR.full k n p hp
    | true =>
      rw [c2] at hp
      simp only [cond_true, Option.some.injEq] at hp; subst hp
      have := iLe_t c1
      have := iLe_t c2
      rw [wrap_id (by omega) (by omega)]
      exact ⟨h1, h2⟩
theorem InR.none (n : Int) : InR none n := fun p h => by cases h
theorem minI_le (a b : Int) : minI a b ≤ a ∧ minI a b ≤ b ∧ (minI a b = a ∨ minI a b = b) := by
  unfold minI
  cases h : iLe a b with
  | true => have := iLe_t h; simp; omega
  | false => have := iLe_f h; simp; omega
theorem domGet_eq : ∀ (l : List (Int × Int)) (i : Nat), domGet l i = l[i]?
  | [], i => by simp [domGet]
  | p :: l, i => by
    unfold domGet
    cases i with
    | zero => simp
    | succ i => simp [domGet_eq l i, Nat.beq]
theorem wrap_wrap (k : IntKind) (n : Int) : k.wrap (k.wrap n) = k.wrap n := wrap_id (wrap_rg k n).1 (wrap_rg k n).2

theorem binR_sound {op : BinOp} {k : IntKind} {ra rb : Rg} {a b : Int} (ha : InR ra a) (hb : InR rb b) : InR (binR op k ra rb) (opI op k a b) := by
  have hand : ∀ op, (op = BinOp.and ∨ op = .or ∨ op = .xor ∨ op = .andNot) → ∃ n, opI op k a b = k.wrap n := fun op h => by
    rcases h with rfl | rfl | rfl | rfl <;> exact ⟨_, rfl⟩
  cases op with
  | add =>
    cases ra with
    | none => exact InR.full _ _
    | some p =>
      cases rb with
      | none => exact InR.full _ _
      | some q =>
        obtain ⟨h1, h2⟩ := ha p rfl
        obtain ⟨h3, h4⟩ := hb q rfl
        exact InR.fit (by omega) (by omega)
  | sub =>
    cases ra with
    | none => exact InR.full _ _
    | some p =>
      cases rb with
      | none => exact InR.full _ _
      | some q =>
        obtain ⟨h1, h2⟩ := ha p rfl
        obtain ⟨h3, h4⟩ := hb q rfl
        exact InR.fit (by omega) (by omega)
  | mul =>
    cases ra with
    | none => exact InR.full _ _
    | some p =>
      cases rb with
      | none => exact InR.full _ _
      | some q =>
        obtain ⟨h1, h2⟩ := ha p rfl
        obtain ⟨h3, h4⟩ := hb q rfl
        simp only [binR]
        cases c : cond (iLe 0 p.1) (iLe 0 q.1) false with
        | false => exact InR.full _ _
        | true =>
          obtain ⟨c1, c2⟩ := of_condF' c
          have c1 := iLe_t c1
          have c2 := iLe_t c2
          exact InR.fit (Int.mul_le_mul h1 h3 c2 (by omega)) (Int.mul_le_mul h2 h4 (by omega) (by omega))
  | quo =>
    cases ra with
    | none => exact InR.full _ _
    | some p =>
      cases rb with
      | none => exact InR.full _ _
      | some q =>
        obtain ⟨h1, h2⟩ := ha p rfl
        obtain ⟨h3, h4⟩ := hb q rfl
        simp only [binR]
        cases c : cond (iLe 0 p.1) (iLe 1 q.1) false with
        | false => exact InR.full _ _
        | true =>
          obtain ⟨c1, c2⟩ := of_condF' c
          have c1 := iLe_t c1
          have c2 := iLe_t c2
          have he : a.tdiv b = a / b := Int.tdiv_eq_ediv_of_nonneg (by omega)
          simp only [cond_true, opI, he]
          refine InR.fit (Int.ediv_nonneg (by omega) (by omega)) ?_
          obtain ⟨x, rfl⟩ := Int.eq_ofNat_of_zero_le (show 0 ≤ a by omega)
          obtain ⟨y, rfl⟩ := Int.eq_ofNat_of_zero_le (show 0 ≤ b by omega)
          obtain ⟨u, hu⟩ := Int.eq_ofNat_of_zero_le (show 0 ≤ p.2 by omega)
          obtain ⟨v, hv⟩ := Int.eq_ofNat_of_zero_le (show 0 ≤ q.1 by omega)
          rw [hu, hv]
          have := Nat.div_le_div (a := x) (b := u) (c := y) (d := v) (by omega) (by omega) (by omega)
          exact_mod_cast this
  | rem =>
    cases ra with
    | none => exact InR.none _
    | some p =>
      cases rb with
      | none => exact InR.none _
      | some q =>
        obtain ⟨h1, h2⟩ := ha p rfl
        obtain ⟨h3, h4⟩ := hb q rfl
        simp only [binR]
        cases c : cond (iLe 0 p.1) (iLe 1 q.1) false with
        | false => exact InR.none _
        | true =>
          obtain ⟨c1, c2⟩ := of_condF' c
          have c1 := iLe_t c1
          have c2 := iLe_t c2
          have he : a.tmod b = a % b := Int.tmod_eq_emod_of_nonneg (by omega)
          intro r hr
          simp only [cond_true, Option.some.injEq] at hr; subst hr
          simp only [opI, he]
          have k1 := Int.emod_nonneg a (show b ≠ 0 by omega)
          have k2 := Int.emod_lt_of_pos a (show 0 < b by omega)
          have k3 : a % b ≤ a := by
            obtain ⟨x, rfl⟩ := Int.eq_ofNat_of_zero_le (show 0 ≤ a by omega)
            obtain ⟨y, rfl⟩ := Int.eq_ofNat_of_zero_le (show 0 ≤ b by omega)
            exact_mod_cast Nat.mod_le x y
          obtain ⟨m1, m2, m3⟩ := minI_le p.2 (q.2 - 1)
          exact ⟨k1, by omega⟩
  | shr =>
    cases ra with
    | none => exact InR.none _
    | some p =>
      cases rb with
      | none => exact InR.none _
      | some q =>
        obtain ⟨h1, h2⟩ := ha p rfl
        obtain ⟨h3, h4⟩ := hb q rfl
        simp only [binR]
        cases c : cond (iLe 0 p.1) (iLe 0 q.1) false with
        | false => exact InR.none _
        | true =>
          obtain ⟨c1, c2⟩ := of_condF' c
          have c1 := iLe_t c1
          intro r hr
          simp only [cond_true, Option.some.injEq] at hr; subst hr
          have hp : ∀ m : Nat, (0 : Int) < 2 ^ m := fun m => Int.pow_pos (by decide)
          have hle : opI .shr k a b ≤ p.2 := by
            simp only [opI, shrI]
            rw [Int.fdiv_eq_ediv_of_nonneg _ (Int.le_of_lt (hp _))]
            exact Int.le_trans (Int.ediv_le_self _ (by omega)) h2
          have hge : 0 ≤ opI .shr k a b := by
            simp only [opI, shrI]
            rw [Int.fdiv_eq_ediv_of_nonneg _ (Int.le_of_lt (hp _))]
            exact Int.ediv_nonneg (by omega) (Int.le_of_lt (hp _))
          refine ⟨hge, ?_⟩
          simp only
          cases d : cond (iBeq q.1 q.2) (iLe q.1 63) false with
          | false => exact hle
          | true =>
            obtain ⟨d1, _⟩ := of_condF' d
            have d1 := iBeq_t d1
            have e : b = q.1 := by omega
            subst e
            simp only [cond_true, opI, shrI]
            rw [Int.fdiv_eq_ediv_of_nonneg _ (Int.le_of_lt (hp _)), Int.fdiv_eq_ediv_of_nonneg _ (Int.le_of_lt (hp _))]
            exact Int.ediv_le_ediv (hp _) h2
  | shl => exact InR.full _ _
  | and =>
    cases ra with
    | none => exact InR.full _ _
    | some p =>
      cases rb with
      | none => exact InR.full _ _
      | some q =>
        obtain ⟨h1, h2⟩ := ha p rfl
        obtain ⟨h3, h4⟩ := hb q rfl
        simp only [binR]
        cases c : cond (cond (iLe 0 p.1) (iLe 0 q.1) false) (cond (iLe p.2 (kHi k)) (iLe q.2 (kHi k)) false) false with
        | false => exact InR.full _ _
        | true =>
          obtain ⟨c0, c5⟩ := of_condF' c
          obtain ⟨c1, c2⟩ := of_condF' c0
          obtain ⟨c3, c4⟩ := of_condF' c5
          have c1 := iLe_t c1
          have c2 := iLe_t c2
          have c3 := iLe_t c3
          have c4 := iLe_t c4
          intro r hr
          simp only [cond_true, Option.some.injEq] at hr; subst hr
          have hk := kHi_lt k
          obtain ⟨x, rfl⟩ := Int.eq_ofNat_of_zero_le (show 0 ≤ a by omega)
          obtain ⟨y, rfl⟩ := Int.eq_ofNat_of_zero_le (show 0 ≤ b by omega)
          have hx : (x : Int) < ((2 ^ k.bits : Nat) : Int) := by push_cast; omega
          have hy : (y : Int) < ((2 ^ k.bits : Nat) : Int) := by push_cast; omega
          have e : opI .and k (x : Int) (y : Int) = k.wrap ((x &&& y : Nat) : Int) := by
            simp only [opI, bitI, Option.getD_some, BitVec.toNat_and, BitVec.ofInt_natCast, BitVec.toNat_ofNat]
            rw [Nat.mod_eq_of_lt (by omega), Nat.mod_eq_of_lt (by omega)]
          have l1 : x &&& y ≤ x := Nat.and_le_left
          have l2 : x &&& y ≤ y := Nat.and_le_right
          have := kLo_np k
          rw [e, wrap_id (by omega) (by omega)]
          obtain ⟨m1, m2, m3⟩ := minI_le p.2 q.2
          exact ⟨by show (0 : Int) ≤ _; omega, by omega⟩
  | or => exact InR.full _ _
  | xor => exact InR.full _ _
  | andNot => exact InR.full _ _
  | _ => exact InR.none _

theorem SE.rg_sound : ∀ (e : SE), InR e.rg e.ev
  | .c n => fun p h => by simp only [SE.rg, Option.some.injEq] at h; subst h; exact ⟨Int.le_refl _, Int.le_refl _⟩
  | .v i => fun p h => by
    simp only [SE.rg, domGet_eq] at h
    exact En.ok i p h
  | .bin op k a b => binR_sound (SE.rg_sound a) (SE.rg_sound b)
  | .wr k a => by
    have ih := SE.rg_sound a
    unfold SE.rg
    cases h : a.rg with
    | none => exact InR.full _ _
    | some p =>
      obtain ⟨h1, h2⟩ := ih p h
      exact InR.fit h1 h2
  | .sel j f k e => InR.full k _

/-! ### What is made -/
theorem mkBin_ev {op : BinOp} {k : IntKind} {a b : SE} : (mkBin op k a b).ev = opI op k a.ev b.ev := by
  cases a <;> cases b <;> rfl
theorem mkWr_ev {k : IntKind} {a : SE} : (mkWr k a).ev = k.wrap a.ev := by
  have key : (match a.rg with
    | some p => cond (cond (iLe (kLo k) p.1) (iLe p.2 (kHi k)) false) a (.wr k a)
    | none => .wr k a : SE).ev = k.wrap a.ev := by
    cases h : a.rg with
    | none => rfl
    | some p =>
      obtain ⟨h1, h2⟩ := SE.rg_sound a p h
      simp only
      cases c : cond (iLe (kLo k) p.1) (iLe p.2 (kHi k)) false with
      | false => rfl
      | true =>
        obtain ⟨c1, c2⟩ := of_condF' c
        have c1 := iLe_t c1
        have c2 := iLe_t c2
        rw [wrap_id (by omega) (by omega)]; rfl
  cases a with
  | c n => rfl
  | _ => exact key
theorem mkEq_ev {a b : SE} : (mkEq a b).ev = (a.ev == b.ev) := by
  unfold mkEq
  cases h : a.beq b with
  | true => rw [SE.beq_t h]; simp [SB.ev]
  | false =>
    simp only [cond_false]
    unfold eqR
    split
    · rename_i x y hx hy
      obtain ⟨h1, h2⟩ := SE.rg_sound a x hx
      obtain ⟨h3, h4⟩ := SE.rg_sound b y hy
      cases c1 : iLt x.2 y.1 with
      | true =>
        have := iLt_t c1
        simp only [cond_true, SB.ev]
        symm; rw [beq_eq_false_iff_ne]; omega
      | false =>
        simp only [cond_false]
        cases c2 : iLt y.2 x.1 with
        | true =>
          have := iLt_t c2
          simp only [cond_true, SB.ev]
          symm; rw [beq_eq_false_iff_ne]; omega
        | false =>
          simp only [cond_false]
          cases c3 : cond (iBeq x.1 x.2) (cond (iBeq y.1 y.2) (iBeq x.1 y.1) false) false with
          | false => rfl
          | true =>
            obtain ⟨d1, d2⟩ := of_condF' c3
            obtain ⟨d2, d3⟩ := of_condF' d2
            have d1 := iBeq_t d1
            have d2 := iBeq_t d2
            have d3 := iBeq_t d3
            simp only [cond_true, SB.ev]
            symm; rw [beq_iff_eq]; omega
    · rfl
theorem mkLt_ev {a b : SE} : (mkLt a b).ev = decide (a.ev < b.ev) := by
  unfold mkLt
  cases h : a.beq b with
  | true => rw [SE.beq_t h]; simp [SB.ev]
  | false =>
    simp only [cond_false]
    unfold ltR
    split
    · rename_i x y hx hy
      obtain ⟨h1, h2⟩ := SE.rg_sound a x hx
      obtain ⟨h3, h4⟩ := SE.rg_sound b y hy
      cases c1 : iLt x.2 y.1 with
      | true =>
        have := iLt_t c1
        simp only [cond_true, SB.ev]
        symm; rw [decide_eq_true_iff]; omega
      | false =>
        simp only [cond_false]
        cases c2 : iLe y.2 x.1 with
        | true =>
          have := iLe_t c2
          simp only [cond_true, SB.ev]
          symm; rw [decide_eq_false_iff_not]; omega
        | false => rfl
    · rfl
theorem mkNot_ev {a : SB} : (mkNot a).ev = !a.ev := by
  cases a with
  | lit b => cases b <;> rfl
  | not a => simp [mkNot, SB.ev]
  | _ => rfl
theorem mkAnd_ev {a b : SB} : (mkAnd a b).ev = (a.ev && b.ev) := by
  unfold mkAnd
  split <;> simp [SB.ev]
theorem mkIff_ev {a b : SB} : (mkIff a b).ev = (a.ev == b.ev) := by
  unfold mkIff
  split
  · simp [SB.ev]
  · simp [SB.ev, mkNot_ev]
  · simp [SB.ev]
  · simp [SB.ev, mkNot_ev]
  · cases h : SB.beq a b with
    | true => rw [SB.beq_t h]; simp [SB.ev]
    | false => rfl
theorem VR_mkI {σ : Sg} {k : IntKind} {e : SE} {n : Int} (h : e.ev = n) : VR σ (mkI k e) (.int k n) := by
  cases e with
  | c m => simp only [SE.ev] at h; subst h; simp [mkI, VR]
  | _ => simp only [mkI, VR]; rw [h]
theorem VR_mkB {σ : Sg} {b : SB} {x : Bool} (h : b.ev = x) : VR σ (mkB b) (.bool x) := by
  cases b with
  | lit c => simp only [SB.ev] at h; subst h; simp [mkB, VR]
  | _ => simp only [mkB, VR]; rw [h]

/-! ### Tests -/
structure Good (Φ : Out → Prop) : Prop where
  s : ∀ s, ¬ Φ (.stuck s)
  br : ∀ b x y, Φ (.br b x y) → Φ (cond b.ev x y)
instance {Φ : Out → Prop} : CoeFun (Good Φ) fun _ => ∀ s, ¬ Φ (.stuck s) := ⟨Good.s⟩
variable {Φ : Out → Prop}
theorem of_br (hs : Good Φ) {b : SB} {x y : Out} (H : Φ (brS b x y)) : (b.ev = true ∧ Φ x) ∨ (b.ev = false ∧ Φ y) := by
  have key : Φ (.br b x y) → (b.ev = true ∧ Φ x) ∨ (b.ev = false ∧ Φ y) := fun h => by
    have := hs.br b x y h
    cases hb : b.ev with
    | true => rw [hb] at this; exact .inl ⟨rfl, this⟩
    | false => rw [hb] at this; exact .inr ⟨rfl, this⟩
  cases b with
  | lit c =>
    cases c with
    | true => exact .inl ⟨rfl, H⟩
    | false => exact .inr ⟨rfl, H⟩
  | _ => exact key H
theorem of_chain (hs : Good Φ) {e : SE} {k : Nat → Out} : ∀ (m i : Nat), Φ (chainS e k i m) → (i : Int) ≤ e.ev → e.ev ≤ (i : Int) + m → ∃ j : Nat, e.ev = j ∧ Φ (k j)
  | 0, i, H, h1, h2 => ⟨i, by omega, H⟩
  | m + 1, i, H, h1, h2 => by
    rcases of_br hs H with ⟨hb, H⟩ | ⟨hb, H⟩
    · rw [mkEq_ev, beq_iff_eq] at hb
      exact ⟨i, hb, H⟩
    · rw [mkEq_ev, beq_eq_false_iff_ne] at hb
      have hb' : ¬ e.ev = (i : Int) := hb
      exact of_chain hs m (i + 1) H (by omega) (by push_cast; omega)
theorem of_idx (hs : Good Φ) {e : SE} {n : Nat} {k : Nat → Out} (H : Φ (idxS e n k)) : ∃ j : Nat, e.ev = j ∧ j < n ∧ Φ (k j) := by
  unfold idxS at H
  rcases of_br hs H with ⟨_, H⟩ | ⟨h0, H⟩
  · exact absurd H (hs _)
  rcases of_br hs H with ⟨h1, H⟩ | ⟨_, H⟩
  rotate_left
  · exact absurd H (hs _)
  rw [mkLt_ev, decide_eq_false_iff_not] at h0
  rw [mkLt_ev, decide_eq_true_iff] at h1
  have h0' : ¬ e.ev < 0 := h0
  have h1' : e.ev < (n : Int) := h1
  have hlo : (loOf e.rg : Int) ≤ e.ev := by
    unfold loOf
    cases hr : e.rg with
    | none => simp only; omega
    | some p => have := (SE.rg_sound e p hr).1; simp only; omega
  have hhi : e.ev ≤ (hiOf (n - 1) e.rg : Int) := by
    unfold hiOf
    cases hr : e.rg with
    | none => simp only; omega
    | some p =>
      have := (SE.rg_sound e p hr).2
      simp only
      cases c : iLe p.2 (Int.ofNat (n - 1)) with
      | true => simp only [cond_true]; omega
      | false => simp only [cond_false]; omega
  obtain ⟨j, hj, H⟩ := of_chain hs _ _ H hlo (by omega)
  exact ⟨j, hj, by omega, H⟩
end Go.Proofs.Ytigilihpofafoaa.Loc
