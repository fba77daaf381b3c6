/- The small machine of local values, reckoned faster: it is the same machine. -/
import Derived.Test.YtigilihpofafoaaLocF
import Derived.Test.YtigilihpofafoaaLocA
namespace Go.Proofs.Ytigilihpofafoaa.Loc
open Go
set_option linter.unusedVariables false
set_option linter.unusedSimpArgs false
set_option linter.unusedSectionVars false
variable [En]

theorem bsel_eq {α : Type} (b : Bool) (x y : α) : bsel b x y = cond b x y := by cases b <;> rfl
theorem iLeF_eq (a b : Int) : iLeF a b = iLe a b := by cases a <;> cases b <;> rfl
theorem iLtF_eq (a b : Int) : iLtF a b = iLt a b := by cases a <;> cases b <;> rfl
theorem iBeqF_eq (a b : Int) : iBeqF a b = iBeq a b := by cases a <;> cases b <;> rfl
theorem iBeq_beq (a b : Int) : iBeq a b = (a == b) := by
  cases h : iBeq a b with
  | true => rw [iBeq_t h]; simp
  | false =>
    symm
    rw [beq_eq_false_iff_ne]
    intro e
    subst e
    cases a <;> simp [iBeq] at h
theorem subNF_eq (a b : Nat) : subNF a b = (a : Int) - (b : Int) := by
  unfold subNF
  cases h : Nat.ble b a with
  | true =>
    have := Nat.le_of_ble_eq_true h
    show ((a - b : Nat) : Int) = _
    omega
  | false =>
    have : ¬ b ≤ a := fun e => by rw [Nat.ble_eq_true_of_le e] at h; cases h
    show Int.negSucc (b - a - 1) = _
    omega
theorem iAddF_eq (a b : Int) : iAddF a b = a + b := by
  cases a with
  | ofNat a => cases b with
    | ofNat b => rfl
    | negSucc b => show subNF a (b + 1) = (a : Int) + Int.negSucc b; rw [subNF_eq]; omega
  | negSucc a => cases b with
    | ofNat b => show subNF b (a + 1) = Int.negSucc a + (b : Int); rw [subNF_eq]; omega
    | negSucc b => show Int.negSucc ((a + b) + 1) = _; omega
theorem iNegF_eq (a : Int) : iNegF a = -a := by
  cases a with
  | ofNat a => show subNF 0 a = _; rw [subNF_eq]; simp
  | negSucc a => show ((a + 1 : Nat) : Int) = _; omega
theorem iSubF_eq (a b : Int) : iSubF a b = a - b := by
  cases a with
  | ofNat a => cases b with
    | ofNat b => show subNF a b = _; rw [subNF_eq]; rfl
    | negSucc b => show ((a + (b + 1) : Nat) : Int) = (a : Int) - Int.negSucc b; omega
  | negSucc a => show iAddF (.negSucc a) (iNegF b) = _; rw [iAddF_eq, iNegF_eq]; omega
theorem wrapF_eq (k : IntKind) (n : Int) : wrapF k n = k.wrap n := by
  rw [← wrapQ_eq]
  unfold wrapF wrapQ
  rw [bsel_eq, bsel_eq, iLeF_eq, iLeF_eq]
theorem orU_eq (o : Option LV) : orU o = o.getD .undef := by cases o <;> rfl
theorem lvB_eq (x : Operand) (t : RM LV) : (lvB x).v t = lev t x := by
  cases x <;> first | rfl | (show orU _ = _; rw [orU_eq]; rfl)
theorem lif_eq {α : Type} (b : Bool) (x y : α) : lif b x y = cond b x y := by cases b <;> rfl

theorem kHi_two (k : IntKind) : ∃ m, kHi k = (2 ^ m : Nat) - 1 ∧ m ≤ k.bits := by
  cases k
  · exact ⟨7, by decide, by decide⟩
  · exact ⟨15, by decide, by decide⟩
  · exact ⟨31, by decide, by decide⟩
  · exact ⟨63, by decide, by decide⟩
  · exact ⟨8, by decide, by decide⟩
  · exact ⟨16, by decide, by decide⟩
  · exact ⟨32, by decide, by decide⟩
  · exact ⟨64, by decide, by decide⟩
theorem ofInt_nat {n : Nat} {x : Int} (h1 : 0 ≤ x) (h2 : x.toNat < 2 ^ n) : (BitVec.ofInt n x).toNat = x.toNat := by
  rw [BitVec.toNat_ofInt]
  congr 1
  exact Int.emod_eq_of_lt h1 (by omega)
theorem bit_in {k : IntKind} {a : Int} (h1 : iLeF 0 a = true) (h2 : iLeF a (kHi k) = true) {m : Nat} (hm : kHi k = (2 ^ m : Nat) - 1) : 0 ≤ a ∧ a.toNat < 2 ^ m := by
  rw [iLeF_eq] at h1 h2
  have h1 := iLe_t h1
  have h2 := iLe_t h2
  refine ⟨h1, ?_⟩
  have : 0 < 2 ^ m := Nat.pow_pos (by omega)
  omega
theorem of_bsel {a b : Bool} (h : bsel a b false = true) : a = true ∧ b = true := by
  cases a
  · cases h
  · exact ⟨rfl, h⟩
theorem bit1_eq {op : BinOp} {f : Nat → Nat → Nat} (hop : ∀ (n m : Nat) (x y : Int), m ≤ n → 0 ≤ x → x.toNat < 2 ^ m → 0 ≤ y → y.toNat < 2 ^ m → ∀ k : IntKind, k.bits = n → ∃ r : Nat, bitI op k x y = some (k.wrap (r : Int)) ∧ r = f x.toNat y.toNat ∧ r < 2 ^ m)
    (hi : ∀ k a b c, intOp op k a b c = match bitI op k a b with | some n => c (.int k n) | none => .stuck "bits")
    (k : IntKind) (a : Int) (k' : IntKind) (b : Int) (c : KV) (h : LH) (nx : Nat) : bit1 op f k a k' b c h nx = samK k k' (intOp op k a b fun v => c v h nx) := by
  unfold bit1 samK
  rw [bsel_eq]
  congr 1
  cases hc : bsel (bsel (iLeF 0 a) (iLeF a (kHi k)) false) (bsel (iLeF 0 b) (iLeF b (kHi k)) false) false with
  | false => rfl
  | true =>
    obtain ⟨h1, h2⟩ := of_bsel hc
    obtain ⟨h1, h3⟩ := of_bsel h1
    obtain ⟨h2, h4⟩ := of_bsel h2
    obtain ⟨m, hm, hmk⟩ := kHi_two k
    obtain ⟨p1, p2⟩ := bit_in h1 h3 hm
    obtain ⟨p3, p4⟩ := bit_in h2 h4 hm
    obtain ⟨r, e1, e2, e3⟩ := hop _ m a b hmk p1 p2 p3 p4 k rfl
    rw [hi, e1]
    show c (.int k (.ofNat (f a.toNat b.toNat))) h nx = c (.int k (k.wrap r)) h nx
    have hw : k.wrap (r : Int) = r := wrap_id (by have := kLo_np k; omega) (by omega)
    rw [hw, e2]; rfl
theorem shr1_eq (k : IntKind) (a : Int) (k' : IntKind) (b : Int) (c : KV) (h : LH) (nx : Nat) : shr1 k a k' b c h nx = intOp .shr k a b fun v => c v h nx := by
  unfold shr1
  cases hc : bsel (bsel (iLeF 0 a) (iLeF a (kHi k)) false) (iLeF 0 b) false with
  | false => rfl
  | true =>
    obtain ⟨h1, h2⟩ := of_bsel hc
    obtain ⟨h1, h3⟩ := of_bsel h1
    obtain ⟨m, hm, hmk⟩ := kHi_two k
    obtain ⟨p1, p2⟩ := bit_in h1 h3 hm
    rw [iLeF_eq] at h2
    have h2 := iLe_t h2
    show c (.int k (.ofNat (a.toNat >>> b.toNat))) h nx = lif (decide (b < 0)) (.stuck "negative shift") (c (.int k (shrI k a b)) h nx)
    have hb : decide (b < 0) = false := by simp; exact h2
    rw [hb]
    show _ = c (.int k (shrI k a b)) h nx
    congr 2
    unfold shrI
    rw [Int.fdiv_eq_ediv_of_nonneg _ (Int.le_of_lt (Int.pow_pos (by omega)))]
    conv => rhs; rw [← Int.toNat_of_nonneg p1]
    have e : ((2 : Int) ^ min b.toNat k.bits) = ((2 ^ min b.toNat k.bits : Nat) : Int) := by push_cast; rfl
    rw [e, ← Int.natCast_ediv]
    show ((a.toNat >>> b.toNat : Nat) : Int) = _
    congr 1
    rw [Nat.shiftRight_eq_div_pow]
    rcases Nat.le_total b.toNat k.bits with hle | hle
    · rw [Nat.min_eq_left hle]
    · rw [Nat.min_eq_right hle]
      have hlt : a.toNat < 2 ^ k.bits := Nat.lt_of_lt_of_le p2 (Nat.pow_le_pow_right (by omega) hmk)
      rw [Nat.div_eq_of_lt hlt, Nat.div_eq_of_lt (Nat.lt_of_lt_of_le hlt (Nat.pow_le_pow_right (by omega) hle))]
theorem shl1_eq (k : IntKind) (a : Int) (k' : IntKind) (b : Int) (c : KV) (h : LH) (nx : Nat) : shl1 k a k' b c h nx = intOp .shl k a b fun v => c v h nx := by
  unfold shl1
  cases hc : bsel (iLeF 0 a) (bsel (iLeF 0 b) (iLeF b (.ofNat k.bits)) false) false with
  | false => rfl
  | true =>
    obtain ⟨h1, h2⟩ := of_bsel hc
    obtain ⟨h2, h3⟩ := of_bsel h2
    rw [iLeF_eq] at h1 h2 h3
    have h1 := iLe_t h1
    have h2 := iLe_t h2
    have h3 := iLe_t h3
    show c (.int k (wrapF k (.ofNat (a.toNat <<< b.toNat)))) h nx = lif (decide (b < 0)) (.stuck "negative shift") (c (.int k (shlI k a b)) h nx)
    have hb : decide (b < 0) = false := by simp; exact h2
    rw [hb]
    show _ = c (.int k (shlI k a b)) h nx
    congr 2
    rw [wrapF_eq]
    unfold shlI
    congr 1
    have hle : b.toNat ≤ k.bits := by
      have : b ≤ (k.bits : Int) := h3
      omega
    rw [Nat.min_eq_left hle]
    conv => rhs; rw [← Int.toNat_of_nonneg h1]
    show ((a.toNat <<< b.toNat : Nat) : Int) = _
    rw [Nat.shiftLeft_eq]
    push_cast
    rfl
theorem and1_eq (k : IntKind) (a : Int) (k' : IntKind) (b : Int) (c : KV) (h : LH) (nx : Nat) : bit1 .and Nat.land k a k' b c h nx = samK k k' (intOp .and k a b fun v => c v h nx) := bit1_eq (fun n m x y hmn h1 h2 h3 h4 k hk => ⟨_, rfl, by
    rw [BitVec.toNat_and, ofInt_nat h1 (Nat.lt_of_lt_of_le h2 (Nat.pow_le_pow_right (by omega) (by omega))), ofInt_nat h3 (Nat.lt_of_lt_of_le h4 (Nat.pow_le_pow_right (by omega) (by omega)))]; rfl, by
    rw [BitVec.toNat_and, ofInt_nat h1 (Nat.lt_of_lt_of_le h2 (Nat.pow_le_pow_right (by omega) (by omega))), ofInt_nat h3 (Nat.lt_of_lt_of_le h4 (Nat.pow_le_pow_right (by omega) (by omega)))]
    exact Nat.lt_of_le_of_lt Nat.and_le_left h2⟩) (fun _ _ _ _ => rfl) k a k' b c h nx
theorem or1_eq (k : IntKind) (a : Int) (k' : IntKind) (b : Int) (c : KV) (h : LH) (nx : Nat) : bit1 .or Nat.lor k a k' b c h nx = samK k k' (intOp .or k a b fun v => c v h nx) := bit1_eq (fun n m x y hmn h1 h2 h3 h4 k hk => ⟨_, rfl, by
    rw [BitVec.toNat_or, ofInt_nat h1 (Nat.lt_of_lt_of_le h2 (Nat.pow_le_pow_right (by omega) (by omega))), ofInt_nat h3 (Nat.lt_of_lt_of_le h4 (Nat.pow_le_pow_right (by omega) (by omega)))]; rfl, by
    rw [BitVec.toNat_or, ofInt_nat h1 (Nat.lt_of_lt_of_le h2 (Nat.pow_le_pow_right (by omega) (by omega))), ofInt_nat h3 (Nat.lt_of_lt_of_le h4 (Nat.pow_le_pow_right (by omega) (by omega)))]
    exact Nat.or_lt_two_pow h2 h4⟩) (fun _ _ _ _ => rfl) k a k' b c h nx
theorem xor1_eq (k : IntKind) (a : Int) (k' : IntKind) (b : Int) (c : KV) (h : LH) (nx : Nat) : bit1 .xor Nat.xor k a k' b c h nx = samK k k' (intOp .xor k a b fun v => c v h nx) := bit1_eq (fun n m x y hmn h1 h2 h3 h4 k hk => ⟨_, rfl, by
    rw [BitVec.toNat_xor, ofInt_nat h1 (Nat.lt_of_lt_of_le h2 (Nat.pow_le_pow_right (by omega) (by omega))), ofInt_nat h3 (Nat.lt_of_lt_of_le h4 (Nat.pow_le_pow_right (by omega) (by omega)))]; rfl, by
    rw [BitVec.toNat_xor, ofInt_nat h1 (Nat.lt_of_lt_of_le h2 (Nat.pow_le_pow_right (by omega) (by omega))), ofInt_nat h3 (Nat.lt_of_lt_of_le h4 (Nat.pow_le_pow_right (by omega) (by omega)))]
    exact Nat.xor_lt_two_pow h2 h4⟩) (fun _ _ _ _ => rfl) k a k' b c h nx
theorem lit1_eq {f g : Int → Int → Int} (hf : ∀ a b, f a b = g a b) (k : IntKind) (a : Int) (k' : IntKind) (b : Int) (c : KV) (h : LH) (nx : Nat) : lit1 f k a k' b c h nx = samK k k' (c (.int k (wrapQ k (g a b))) h nx) := by
  unfold lit1 samK
  rw [bsel_eq, wrapF_eq, wrapQ_eq, hf]
theorem cmp1_eq {f g : Int → Int → Bool} (hf : ∀ a b, f a b = g a b) (k : IntKind) (a : Int) (k' : IntKind) (b : Int) (c : KV) (h : LH) (nx : Nat) : cmp1 f k a k' b c h nx = samK k k' (c (.bool (g a b)) h nx) := by
  unfold cmp1 samK
  rw [bsel_eq, hf]
theorem litF_eq (op : BinOp) (k : IntKind) (a : Int) (k' : IntKind) (b : Int) (c : KV) (h : LH) (nx : Nat) : (litF op).v k a k' b c h nx = (litB op).v k a k' b fun v => c v h nx := by
  cases op
  case add => exact lit1_eq iAddF_eq k a k' b c h nx
  case sub => exact lit1_eq iSubF_eq k a k' b c h nx
  case mul => exact lit1_eq (fun _ _ => rfl) k a k' b c h nx
  case eql => exact cmp1_eq (fun a b => by rw [iBeqF_eq, iBeq_beq]) k a k' b c h nx
  case neq => exact cmp1_eq (f := fun a b => bsel (iBeqF a b) false true) (g := fun a b => !(a == b)) (fun a b => by simp only [iBeqF_eq, iBeq_beq, bsel_eq]; cases a == b <;> rfl) k a k' b c h nx
  case lss => exact cmp1_eq iLtF_eq k a k' b c h nx
  case leq => exact cmp1_eq iLeF_eq k a k' b c h nx
  case gtr => exact cmp1_eq (fun a b => iLtF_eq b a) k a k' b c h nx
  case geq => exact cmp1_eq (fun a b => iLeF_eq b a) k a k' b c h nx
  case and => exact and1_eq k a k' b c h nx
  case or => exact or1_eq k a k' b c h nx
  case xor => exact xor1_eq k a k' b c h nx
  case shr => exact shr1_eq k a k' b c h nx
  case shl => exact shl1_eq k a k' b c h nx
  all_goals rfl
theorem nvF_eq (v : LV) : nvF v = v.nv := by cases v <;> rfl
section
variable {P : Program}
theorem binF_eq (op : BinOp) (t : TypeId) (x y : LV) (c : KV) (h : LH) (nx : Nat) : (binF P op t).v x y c h nx = binL P op t x y fun v => c v h nx := by
  show NV.rec (motive := fun _ => LV → LV → KV → LH → Nat → Out) (fun k a x y c h nx => binF2 P op t k a x y c h nx) (fun _ _ x y c h nx => binS P op t x y c h nx) (fun x y c h nx => binS P op t x y c h nx) (nvF x) x y c h nx = _
  cases hx : nvF x with
  | lit k a =>
    show NV.rec (motive := fun _ => IntKind → Int → LV → LV → KV → LH → Nat → Out) (fun k' b k a x y c h nx => (litF op).v k a k' b c h nx) (fun _ _ _ _ x y c h nx => binS P op t x y c h nx) (fun _ _ x y c h nx => binS P op t x y c h nx) (nvF y) k a x y c h nx = _
    cases hy : nvF y with
    | lit k' b =>
      show (litF op).v k a k' b c h nx = _
      rw [litF_eq]
      unfold binL
      rw [← nvF_eq, ← nvF_eq, hx, hy]
    | sym k' b => rfl
    | no => rfl
  | sym k a => rfl
  | no => rfl
theorem argsB_eq (t : RM LV) : ∀ l : List Operand, (argsB l).v t = oneArg (lev t) l
  | [] => rfl
  | x :: xs => by
    show (lvB x).v t :: (argsB xs).v t = _
    rw [lvB_eq, argsB_eq t xs]; rfl
theorem opF_eq (op : Op) (X : Cx) (t : RM LV) (h : LH) (nx : Nat) (c : KV) : (opF P op).v X t h nx c = opL P X.fl X.cf X.cy (lev t) op h nx c := by
  unfold opL
  cases op
  case move x => show c ((lvB x).v t) h nx = _; rw [lvB_eq]; rfl
  case assign x => show c ((lvB x).v t) h nx = _; rw [lvB_eq]; rfl
  case binOp op ty x y z => show (binF P op ty).v _ _ c h nx = _; rw [binF_eq, lvB_eq, lvB_eq]; rfl
  case call cl =>
    obtain ⟨callee, args, ats⟩ := cl
    cases callee with
    | builtin b => rfl
    | invoke x m => rfl
    | value f =>
      cases f with
      | func g =>
        show X.cf X.fl g ((argsB args.toList).v t) h nx c = X.cf X.fl g ([] ++ (oneArg (lev t) args.toList ++ [])) h nx c
        rw [argsB_eq]; simp
      | _ => rfl
  all_goals rfl
theorem guardL_congr {all : List Oper} {g : Option (Nat × Bool)} {st : St} {yes no yes' no' : St → Out}
    (h1 : ∀ s : St, s.nt = st.nt → s.ds = st.ds → s.fl = st.fl → yes s = yes' s) (h2 : ∀ s : St, s.nt = st.nt → s.ds = st.ds → s.fl = st.fl → no s = no' s) : guardL all g st yes no = guardL all g st yes' no' := by
  have e0 := h1 st rfl rfl rfl
  have f0 := h2 st rfl rfl rfl
  have e1 := fun d v => h1 (st.setT d v) rfl rfl rfl
  have f1 := fun d v => h2 (st.setT d v) rfl rfl rfl
  unfold guardL
  split
  · exact e0
  · unfold guardD
    split
    · unfold guardV guardB
      split
      · simp only [e1, f1]
      · simp only [e0, f0]
      · exact f0
      · rfl
    · rfl
theorem putF_eq {d : Option Tmp} {nt : Nat} (hd : okD nt d = true) (t : RM LV) (h : LH) (nx : Nat) (ds : List Nat) (fl : Nat) (v : LV) (c : St → Out) :
    St.put ⟨t, nt, h, nx, ds, fl⟩ d v c = c ⟨(putF d).v t v, nt, h, nx, ds, fl⟩ := by
  cases d with
  | none => rfl
  | some d =>
    unfold St.put
    simp only [okD] at hd
    simp only [hd, cond_true]
    rfl
theorem opsF_eq (all : List Oper) (cf cy : KF) (nt : Nat) (ds : List Nat) (fl : Nat) (C : St → Out) : ∀ (l : List Oper), dstsOk nt l = true → ∀ (t : RM LV) (h : LH) (nx : Nat),
    (opsF P all l).v ⟨cf, cy, nt, ds, fl⟩ t h nx (fun t h nx => C ⟨t, nt, h, nx, ds, fl⟩) = opsL P cf cy all l ⟨t, nt, h, nx, ds, fl⟩ C
  | [], _, t, h, nx => rfl
  | o :: os, hd, t, h, nx => by
    obtain ⟨hd1, hd2⟩ := of_bsel hd
    have ih := opsF_eq all cf cy nt ds fl C os hd2
    unfold opsL at ih ⊢
    unfold opsB
    have e : (opsF P all (o :: os)) = (match o.guard with
      | none => ⟨fun X t h nx c => (opF P o.op).v X t h nx fun v h nx => (opsF P all os).v X ((putF o.dst).v t v) h nx c⟩
      | some g => ⟨fun X t h nx c => guardL all (some g) ⟨t, X.nt, h, nx, X.ds, X.fl⟩
        (fun st => (opF P o.op).v X st.t st.h st.nx fun v h nx => (opsF P all os).v X ((putF o.dst).v st.t v) h nx c)
        (fun st => (opsF P all os).v X ((putF o.dst).v st.t (.tup [])) st.h st.nx c)⟩) := rfl
    rw [e]
    cases hg : o.guard with
    | none =>
      simp only [opF_eq, ih]
      show _ = opL P fl cf cy (lev t) o.op h nx _
      congr 1
      funext v h nx
      show _ = St.put (St.setH ⟨t, nt, _, _, ds, fl⟩ h nx) o.dst v _
      exact (putF_eq hd1 t h nx ds fl v fun st => (opsB P all os).v cf cy st C).symm
    | some g =>
      show guardL all (some g) ⟨t, nt, h, nx, ds, fl⟩ _ _ = _
      simp only [opF_eq, ih]
      refine guardL_congr (fun s s1 s2 s3 => ?_) (fun s s1 s2 s3 => ?_)
      · obtain ⟨t, nt', h, nx, ds', fl'⟩ := s
        simp only at s1 s2 s3
        subst s1; subst s2; subst s3
        congr 1
        funext v h nx
        exact (putF_eq hd1 t h nx _ _ v fun st => (opsB P all os).v cf cy st C).symm
      · obtain ⟨t, nt', h, nx, ds', fl'⟩ := s
        simp only at s1 s2 s3
        subst s1; subst s2; subst s3
        exact (putF_eq hd1 t h nx _ _ _ fun st => (opsB P all os).v cf cy st C).symm
theorem quF_eq (op : Op) (t : RM LV) (h : LH) (c : LV → Out) : (quF P op).v t h c = quietL P (lev t) op h c := by
  cases op
  case move x => show c ((lvB x).v t) = _; rw [lvB_eq]; rfl
  case assign x => show c ((lvB x).v t) = _; rw [lvB_eq]; rfl
  case binOp op ty x y z => show (binF P op ty).v _ _ (fun v _ _ => c v) h 0 = _; rw [binF_eq, lvB_eq, lvB_eq]; rfl
  all_goals rfl
theorem dsts_at {nt : Nat} : ∀ {l : List Oper}, dstsOk nt l = true → ∀ (i : Nat) (o : Oper), l[i]? = some o → okD nt o.dst = true
  | [], _, i, o, h => by simp at h
  | a :: l, hd, i, o, h => by
    obtain ⟨h1, h2⟩ := of_bsel hd
    cases i with
    | zero => simp at h; subst h; exact h1
    | succ i => exact dsts_at h2 i o (by simpa using h)
theorem dF_eq (all : List Oper) (ms : List Nat) (cf cy : KF) (nt : Nat) (ds : List Nat) (fl : Nat) (C : St → Out) (hd : dstsOk nt all = true) : ∀ (pl : List Pl) (sd : List Side) (t : RM LV) (h : LH) (nx : Nat),
    (dF P all ms pl).v ⟨cf, cy, nt, ds, fl⟩ sd t h nx (fun t h nx => C ⟨t, nt, h, nx, ds, fl⟩) = dL P cf cy all ms pl sd ⟨t, nt, h, nx, ds, fl⟩ C
  | [], sd, t, h, nx => rfl
  | p :: pl, sd, t, h, nx => by
    have ih := dF_eq all ms cf cy nt ds fl C hd pl
    have e : dF P all ms (p :: pl) = (match all[p.i]? with
      | none => ⟨fun X sd t h nx c => .stuck "plan"⟩
      | some o => dF1 P all ((ms[p.i]?).getD 0) p (dF P all ms pl) o) := rfl
    rw [e]
    unfold dL
    cases ho : all[p.i]? with
    | none => rfl
    | some o =>
      have hdo := dsts_at hd p.i o ho
      have put : ∀ (t : RM LV) (h : LH) (nx : Nat) (v : LV) (c : St → Out), St.put ⟨t, nt, h, nx, ds, fl⟩ o.dst v c = c ⟨(putF o.dst).v t v, nt, h, nx, ds, fl⟩ := fun t h nx v c => putF_eq hdo t h nx ds fl v c
      obtain ⟨i, k⟩ := p
      cases k with
      | fp =>
        cases hg : o.guard with
        | none =>
          simp only [dF1, hg, quF_eq, ih]
          show _ = quietL P (lev t) o.op .nil fun v => St.put ⟨t, nt, h, nx, ds, fl⟩ o.dst v fun st => dL P cf cy all ms pl sd st C
          congr 1; funext v
          exact (put t h nx v fun st => dL P cf cy all ms pl sd st C).symm
        | some g =>
          simp only [dF1, hg, quF_eq, ih]
          refine guardL_congr (fun s s1 s2 s3 => ?_) (fun s s1 s2 s3 => ?_)
          · obtain ⟨t, nt', h, nx, ds', fl'⟩ := s
            simp only at s1 s2 s3
            subst s1; subst s2; subst s3
            congr 1; funext v
            exact (put t h nx v fun st => dL P cf cy all ms pl sd st C).symm
          · obtain ⟨t, nt', h, nx, ds', fl'⟩ := s
            simp only at s1 s2 s3
            subst s1; subst s2; subst s3
            exact (put t h nx _ fun st => dL P cf cy all ms pl sd st C).symm
      | fh =>
        cases hg : o.guard with
        | none =>
          simp only [dF1, hg, quF_eq, ih]
          show _ = quietL P (lev t) o.op h fun v => St.put ⟨t, nt, h, nx, ds, fl⟩ o.dst v fun st => dL P cf cy all ms pl sd st C
          congr 1; funext v
          exact (put t h nx v fun st => dL P cf cy all ms pl sd st C).symm
        | some g =>
          simp only [dF1, hg, quF_eq, ih]
          refine guardL_congr (fun s s1 s2 s3 => ?_) (fun s s1 s2 s3 => ?_)
          · obtain ⟨t, nt', h, nx, ds', fl'⟩ := s
            simp only at s1 s2 s3
            subst s1; subst s2; subst s3
            congr 1; funext v
            exact (put t h nx v fun st => dL P cf cy all ms pl sd st C).symm
          · obtain ⟨t, nt', h, nx, ds', fl'⟩ := s
            simp only at s1 s2 s3
            subst s1; subst s2; subst s3
            exact (put t h nx _ fun st => dL P cf cy all ms pl sd st C).symm
      | al =>
        simp only [dF1, ih]
        refine guardL_congr (fun s s1 s2 s3 => ?_) (fun s s1 s2 s3 => ?_)
        · obtain ⟨t, nt', h, nx, ds', fl'⟩ := s
          simp only at s1 s2 s3
          subst s1; subst s2; subst s3
          congr 1; funext v ob
          exact (put t h (nx + 1) v fun st => dL P cf cy all ms pl (⟨i, nx, ob⟩ :: sd) st C).symm
        · obtain ⟨t, nt', h, nx, ds', fl'⟩ := s
          simp only at s1 s2 s3
          subst s1; subst s2; subst s3
          exact (put t h nx _ fun st => dL P cf cy all ms pl sd st C).symm
      | grow =>
        simp only [dF1, opF_eq, ih]
        refine guardL_congr (fun s s1 s2 s3 => ?_) (fun s s1 s2 s3 => ?_)
        · obtain ⟨t, nt', h, nx, ds', fl'⟩ := s
          simp only [St.setH] at s1 s2 s3
          subst s1; subst s2; subst s3
          congr 1; funext v h nx
          exact (put t h nx v fun st => dL P cf cy all ms pl (restSide ((ms[i]?).getD 0) sd) st C).symm
        · obtain ⟨t, nt', h, nx, ds', fl'⟩ := s
          simp only [St.setH] at s1 s2 s3
          subst s1; subst s2; subst s3
          exact (put t h nx _ fun st => dL P cf cy all ms pl (restSide ((ms[i]?).getD 0) sd) st C).symm
      | act =>
        cases hg : o.guard with
        | none =>
          simp only [dF1, hg, opF_eq, ih]
          show _ = opL P fl cf cy (lev t) o.op (putSide ((ms[i]?).getD 0) sd h) nx _
          congr 1; funext v h nx
          exact (put t h nx v fun st => dL P cf cy all ms pl (restSide ((ms[i]?).getD 0) sd) st C).symm
        | some g =>
          simp only [dF1, hg, opF_eq, ih]
          refine guardL_congr (fun s s1 s2 s3 => ?_) (fun s s1 s2 s3 => ?_)
          · obtain ⟨t, nt', h, nx, ds', fl'⟩ := s
            simp only [St.setH] at s1 s2 s3
            subst s1; subst s2; subst s3
            congr 1; funext v h nx
            exact (put t h nx v fun st => dL P cf cy all ms pl (restSide ((ms[i]?).getD 0) sd) st C).symm
          · obtain ⟨t, nt', h, nx, ds', fl'⟩ := s
            simp only [St.setH] at s1 s2 s3
            subst s1; subst s2; subst s3
            exact (put t h nx _ fun st => dL P cf cy all ms pl (restSide ((ms[i]?).getD 0) sd) st C).symm
theorem drawB_eq (ops : List Oper) (cf cy : KF) (nt : Nat) (ds : List Nat) (fl : Nat) (C : St → Out) (hd : dstsOk nt ops = true) (t : RM LV) (h : LH) (nx : Nat) :
    (drawB P ops).v ⟨cf, cy, nt, ds, fl⟩ t h nx (fun t h nx => C ⟨t, nt, h, nx, ds, fl⟩) = drawL P cf cy ops ⟨t, nt, h, nx, ds, fl⟩ C := by
  unfold drawB drawL
  cases planOk ops (preM ops []) (planOf ops (preM ops [])) with
  | false => rfl
  | true => exact dF_eq ops _ cf cy nt ds fl C hd _ [] t h nx
theorem cndF_eq (v : LV) (x y : Out) : cndF v x y = condL v x y := by cases v <;> rfl
theorem codeF_eq (c : Code) (G : Know) (rn : RunT) (ro : Option Nat) (ss : List Nat) (k : List Itm) (st : St) (K : LE → St → Out) : (codeF P c).v G rn ro ss k st K = codeL P G rn ro ss c k st K := by
  unfold codeL
  cases c
  case region id ops d =>
    obtain ⟨t, nt, h, nx, ds, fl⟩ := st
    cases d with
    | true =>
      show bsel (dstsOk nt ops.toList) ((drawB P ops.toList).v ⟨callL P G rn, yieldL rn, nt, ds, fl⟩ t h nx fun t h nx => rn ro ss k ⟨t, nt, h, nx, ds, fl⟩ K)
        (drawL P (callL P G rn) (yieldL rn) ops.toList ⟨t, nt, h, nx, ds, fl⟩ fun st => rn ro ss k st K) = drawL P (callL P G rn) (yieldL rn) ops.toList ⟨t, nt, h, nx, ds, fl⟩ fun st => rn ro ss k st K
      cases hd : dstsOk nt ops.toList with
      | false => rfl
      | true => exact drawB_eq ops.toList (callL P G rn) (yieldL rn) nt ds fl (fun st => rn ro ss k st K) hd t h nx
    | false =>
      show bsel (dstsOk nt ops.toList) ((opsF P ops.toList ops.toList).v ⟨callL P G rn, yieldL rn, nt, ds, fl⟩ t h nx fun t h nx => rn ro ss k ⟨t, nt, h, nx, ds, fl⟩ K)
        (opsL P (callL P G rn) (yieldL rn) ops.toList ops.toList ⟨t, nt, h, nx, ds, fl⟩ fun st => rn ro ss k st K) = opsL P (callL P G rn) (yieldL rn) ops.toList ops.toList ⟨t, nt, h, nx, ds, fl⟩ fun st => rn ro ss k st K
      cases hd : dstsOk nt ops.toList with
      | false => rfl
      | true => exact opsF_eq ops.toList (callL P G rn) (yieldL rn) nt ds fl (fun st => rn ro ss k st K) ops.toList hd t h nx
  case cond x a b =>
    show cndF ((lvB x).v st.t) _ _ = _
    rw [cndF_eq, lvB_eq]; rfl
  all_goals rfl
theorem run1F_eq (G : Know) (rn : RunT) (ro : Option Nat) (ss : List Nat) (k : List Itm) (st : St) (K : LE → St → Out) : run1F P G rn ro ss k st K = run1 P G rn ro ss k st K := by
  cases k with
  | nil => rfl
  | cons i k =>
    cases i with
    | code c => exact codeF_eq c G rn ro ss k st K
    | blk id => rfl
    | lp c => rfl
/-- **THE FASTER MACHINE IS THE MACHINE.** -/
theorem runF_eq (G : Know) : ∀ n, runF P G n = run P G n
  | 0 => rfl
  | n + 1 => by
    funext ro ss k st K
    show run1F P G (runF P G n) ro ss k st K = run1 P G (run P G n) ro ss k st K
    rw [run1F_eq, runF_eq G n]
end
end Go.Proofs.Ytigilihpofafoaa.Loc
