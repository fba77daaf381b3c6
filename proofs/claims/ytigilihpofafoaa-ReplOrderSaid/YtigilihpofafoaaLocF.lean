/- The small machine of local values: the same, reckoned faster. Every definition here equals one of V's ('.._eq' in F2). -/
import Derived.Test.YtigilihpofafoaaLocV
namespace Go.Proofs.Ytigilihpofafoaa.Loc
open Go
set_option linter.unusedVariables false

noncomputable abbrev bsel {α : Type} (b : Bool) (x y : α) : α := Bool.rec (motive := fun _ => α) y x b
noncomputable def iLeF (a b : Int) : Bool := Int.rec (motive := fun _ => Int → Bool) (fun a b => Int.rec (motive := fun _ => Bool) (fun b => Nat.ble a b) (fun _ => false) b) (fun a b => Int.rec (motive := fun _ => Bool) (fun _ => true) (fun b => Nat.ble b a) b) a b
noncomputable def iLtF (a b : Int) : Bool := Int.rec (motive := fun _ => Int → Bool) (fun a b => Int.rec (motive := fun _ => Bool) (fun b => Nat.ble (Nat.succ a) b) (fun _ => false) b) (fun a b => Int.rec (motive := fun _ => Bool) (fun _ => true) (fun b => Nat.ble (Nat.succ b) a) b) a b
noncomputable def iBeqF (a b : Int) : Bool := Int.rec (motive := fun _ => Int → Bool) (fun a b => Int.rec (motive := fun _ => Bool) (fun b => Nat.beq a b) (fun _ => false) b) (fun a b => Int.rec (motive := fun _ => Bool) (fun _ => false) (fun b => Nat.beq a b) b) a b
noncomputable def subNF (a b : Nat) : Int := Bool.rec (motive := fun _ => Int) (.negSucc (Nat.sub (Nat.sub b a) 1)) (.ofNat (Nat.sub a b)) (Nat.ble b a)
noncomputable def iAddF (a b : Int) : Int := Int.rec (motive := fun _ => Int → Int) (fun a b => Int.rec (motive := fun _ => Int) (fun b => .ofNat (Nat.add a b)) (fun b => subNF a (Nat.succ b)) b) (fun a b => Int.rec (motive := fun _ => Int) (fun b => subNF b (Nat.succ a)) (fun b => .negSucc (Nat.succ (Nat.add a b))) b) a b
noncomputable def iNegF (a : Int) : Int := Int.rec (motive := fun _ => Int) (fun a => subNF 0 a) (fun a => .ofNat (Nat.succ a)) a
noncomputable def iSubF (a b : Int) : Int := Int.rec (motive := fun _ => Int → Int) (fun a b => Int.rec (motive := fun _ => Int) (fun b => subNF a b) (fun b => .ofNat (Nat.add a (Nat.succ b))) b) (fun a b => iAddF (.negSucc a) (iNegF b)) a b
noncomputable def wrapF (k : IntKind) (n : Int) : Int := bsel (iLeF (kLo k) n) (bsel (iLeF n (kHi k)) n (k.wrap n)) (k.wrap n)
noncomputable def orU (o : Option LV) : LV := Option.rec (motive := fun _ => LV) .undef (fun v => v) o
noncomputable def lvB (x : Operand) : Bx (RM LV → LV) :=
  match x with
  | .tmp i => ⟨fun t => orU ((getB (i + 1) i).v t)⟩
  | .const v => ⟨fun _ => ofVal v⟩
  | .func f => ⟨fun _ => .fn (.func f) [] []⟩
  | .global _ => ⟨fun _ => .undef⟩
structure Cx where
  cf : KF
  cy : KF
  nt : Nat
  ds : List Nat
  fl : Nat
noncomputable def Cx.cfF (X : Cx) : KF := Cx.rec (motive := fun _ => KF) (fun cf _ _ _ _ => cf) X
abbrev KT := RM LV → LH → Nat → Out
abbrev KI := IntKind → Int → IntKind → Int → KV → LH → Nat → Out
noncomputable def lit1 (f : Int → Int → Int) : KI := fun k a k' b c h nx => bsel (kBeq k k') (c (.int k (wrapF k (f a b))) h nx) (.stuck "kinds")
noncomputable def cmp1 (f : Int → Int → Bool) : KI := fun k a k' b c h nx => bsel (kBeq k k') (c (.bool (f a b)) h nx) (.stuck "kinds")
/-- bits of numbers that are in range -/
noncomputable def bit1 (op : BinOp) (f : Nat → Nat → Nat) : KI := fun k a k' b c h nx => bsel (kBeq k k')
  (bsel (bsel (bsel (iLeF 0 a) (iLeF a (kHi k)) false) (bsel (iLeF 0 b) (iLeF b (kHi k)) false) false) (c (.int k (.ofNat (f a.toNat b.toNat))) h nx) (intOp op k a b fun v => c v h nx)) (.stuck "kinds")
noncomputable def shr1 : KI := fun k a k' b c h nx =>
  bsel (bsel (bsel (iLeF 0 a) (iLeF a (kHi k)) false) (iLeF 0 b) false) (c (.int k (.ofNat (Nat.shiftRight a.toNat b.toNat))) h nx) (intOp .shr k a b fun v => c v h nx)
noncomputable def shl1 : KI := fun k a k' b c h nx =>
  bsel (bsel (iLeF 0 a) (bsel (iLeF 0 b) (iLeF b (.ofNat k.bits)) false) false) (c (.int k (wrapF k (.ofNat (Nat.shiftLeft a.toNat b.toNat)))) h nx) (intOp .shl k a b fun v => c v h nx)
noncomputable def litF (op : BinOp) : Bx KI :=
  match op with
  | .add => ⟨lit1 iAddF⟩
  | .sub => ⟨lit1 iSubF⟩
  | .mul => ⟨lit1 Int.mul⟩
  | .eql => ⟨cmp1 iBeqF⟩
  | .neq => ⟨cmp1 fun a b => bsel (iBeqF a b) false true⟩
  | .lss => ⟨cmp1 iLtF⟩
  | .leq => ⟨cmp1 iLeF⟩
  | .gtr => ⟨cmp1 fun a b => iLtF b a⟩
  | .geq => ⟨cmp1 fun a b => iLeF b a⟩
  | .and => ⟨bit1 .and Nat.land⟩
  | .or => ⟨bit1 .or Nat.lor⟩
  | .xor => ⟨bit1 .xor Nat.xor⟩
  | .shr => ⟨shr1⟩
  | .shl => ⟨shl1⟩
  | op => ⟨fun k a k' b c h nx => (litB op).v k a k' b fun v => c v h nx⟩
noncomputable def nvF (v : LV) : NV := LV.rec (motive_1 := fun _ => NV) (motive_2 := fun _ => NV) .no (fun _ => .no) (fun k n => .lit k n) (fun k e => .sym k e) (fun _ => .no) (fun _ => .no) .no (fun _ _ _ _ => .no) .no (fun _ _ _ => .no) (fun _ _ _ _ _ => .no)
  (fun _ _ => .no) (fun _ _ _ => .no) .no (fun _ => .no) .no (fun _ _ _ _ _ => .no) (fun _ => .no) .no (fun _ _ _ => .no) (fun _ _ => .no) (fun _ _ => .no) .no (fun _ _ _ _ => .no) v
noncomputable def binS [En] (P : Program) (op : BinOp) (t : TypeId) (x y : LV) (c : KV) (h : LH) (nx : Nat) : Out := binL P op t x y fun v => c v h nx
noncomputable def binF2 [En] (P : Program) (op : BinOp) (t : TypeId) (k : IntKind) (a : Int) (x y : LV) (c : KV) (h : LH) (nx : Nat) : Out :=
  NV.rec (motive := fun _ => IntKind → Int → LV → LV → KV → LH → Nat → Out) (fun k' b k a x y c h nx => (litF op).v k a k' b c h nx) (fun _ _ _ _ x y c h nx => binS P op t x y c h nx) (fun _ _ x y c h nx => binS P op t x y c h nx) (nvF y) k a x y c h nx
noncomputable def binF [En] (P : Program) (op : BinOp) (t : TypeId) : Bx (LV → LV → KV → LH → Nat → Out) :=
  ⟨fun x y c h nx => NV.rec (motive := fun _ => LV → LV → KV → LH → Nat → Out) (fun k a x y c h nx => binF2 P op t k a x y c h nx) (fun _ _ x y c h nx => binS P op t x y c h nx) (fun x y c h nx => binS P op t x y c h nx) (nvF x) x y c h nx⟩
noncomputable def argsB : List Operand → Bx (RM LV → List LV)
  | [] => ⟨fun _ => []⟩
  | x :: xs => ⟨fun t => (lvB x).v t :: (argsB xs).v t⟩
noncomputable def opF [En] (P : Program) (op : Op) : Bx (Cx → RM LV → LH → Nat → KV → Out) :=
  match op with
  | .move x => ⟨fun X t h nx c => c ((lvB x).v t) h nx⟩
  | .assign x => ⟨fun X t h nx c => c ((lvB x).v t) h nx⟩
  | .binOp op ty x y _ => ⟨fun X t h nx c => (binF P op ty).v ((lvB x).v t) ((lvB y).v t) c h nx⟩
  | .call cl => (match cl.callee with
    | .value (.func g) => ⟨fun X t h nx c => X.cfF X.fl g ((argsB cl.args.toList).v t) h nx c⟩
    | _ => ⟨fun X t h nx c => (opB P op).v X.fl X.cf X.cy (lev t) h nx c⟩)
  | op => ⟨fun X t h nx c => (opB P op).v X.fl X.cf X.cy (lev t) h nx c⟩
noncomputable def putF (d : Option Tmp) : Bx (RM LV → LV → RM LV) :=
  match d with
  | some d => ⟨fun t v => (setB (d + 1) d).v v t⟩
  | none => ⟨fun t v => t⟩
noncomputable def okD (nt : Nat) (d : Option Tmp) : Bool :=
  match d with
  | some d => Nat.blt d nt
  | none => true
/-- the operations, their slots being there -/
noncomputable def opsF [En] (P : Program) (all : List Oper) (l : List Oper) : Bx (Cx → RM LV → LH → Nat → KT → Out) :=
  List.rec (motive := fun _ => Bx (Cx → RM LV → LH → Nat → KT → Out)) ⟨fun _ t h nx c => c t h nx⟩
   (fun o _ ih => match o.guard with
    | none => ⟨fun X t h nx c => (opF P o.op).v X t h nx fun v h nx => ih.v X ((putF o.dst).v t v) h nx c⟩
    | some g => ⟨fun X t h nx c => guardL all (some g) ⟨t, X.nt, h, nx, X.ds, X.fl⟩
      (fun st => (opF P o.op).v X st.t st.h st.nx fun v h nx => ih.v X ((putF o.dst).v st.t v) h nx c)
      (fun st => ih.v X ((putF o.dst).v st.t (.tup [])) st.h st.nx c)⟩) l
noncomputable def dstsOk (nt : Nat) : List Oper → Bool
  | [] => true
  | o :: os => bsel (okD nt o.dst) (dstsOk nt os) false
/-! #### Regions whose order is drawn -/
noncomputable def quF [En] (P : Program) (op : Op) : Bx (RM LV → LH → (LV → Out) → Out) :=
  match op with
  | .move x => ⟨fun t h c => c ((lvB x).v t)⟩
  | .assign x => ⟨fun t h c => c ((lvB x).v t)⟩
  | .binOp op ty x y _ => ⟨fun t h c => (binF P op ty).v ((lvB x).v t) ((lvB y).v t) (fun v _ _ => c v) h 0⟩
  | op => ⟨fun t h c => quietL P (lev t) op h c⟩
abbrev KD := Cx → List Side → RM LV → LH → Nat → KT → Out
noncomputable def dF1 [En] (P : Program) (all : List Oper) (m : Nat) (p : Pl) (ih : Bx KD) (o : Oper) : Bx KD :=
  match p.k, o.guard with
  | .fp, none => ⟨fun X sd t h nx c => (quF P o.op).v t .nil fun v => ih.v X sd ((putF o.dst).v t v) h nx c⟩
  | .fp, some g => ⟨fun X sd t h nx c => guardL all (some g) ⟨t, X.nt, h, nx, X.ds, X.fl⟩
      (fun st => (quF P o.op).v st.t .nil fun v => ih.v X sd ((putF o.dst).v st.t v) st.h st.nx c)
      (fun st => ih.v X sd ((putF o.dst).v st.t (.tup [])) st.h st.nx c)⟩
  | .fh, none => ⟨fun X sd t h nx c => (quF P o.op).v t h fun v => ih.v X sd ((putF o.dst).v t v) h nx c⟩
  | .fh, some g => ⟨fun X sd t h nx c => guardL all (some g) ⟨t, X.nt, h, nx, X.ds, X.fl⟩
      (fun st => (quF P o.op).v st.t st.h fun v => ih.v X sd ((putF o.dst).v st.t v) st.h st.nx c)
      (fun st => ih.v X sd ((putF o.dst).v st.t (.tup [])) st.h st.nx c)⟩
  | .al, g => ⟨fun X sd t h nx c => guardL all g ⟨t, X.nt, h, nx, X.ds, X.fl⟩
      (fun st => allocL P (lev st.t) o.op st.nx fun v ob => ih.v X (⟨p.i, st.nx, ob⟩ :: sd) ((putF o.dst).v st.t v) st.h (st.nx + 1) c)
      (fun st => ih.v X sd ((putF o.dst).v st.t (.tup [])) st.h st.nx c)⟩
  | .act, none => ⟨fun X sd t h nx c => (opF P o.op).v X t (putSide m sd h) nx fun v h nx => ih.v X (restSide m sd) ((putF o.dst).v t v) h nx c⟩
  | k, g => ⟨fun X sd t h nx c => guardL all g ⟨t, X.nt, putSide m sd h, nx, X.ds, X.fl⟩
      (fun st => (opF P o.op).v ⟨X.cf, X.cy, X.nt, X.ds, cond k.isAct X.fl st.nx⟩ st.t st.h st.nx fun v h nx => ih.v X (restSide m sd) ((putF o.dst).v st.t v) h nx c)
      (fun st => ih.v X (restSide m sd) ((putF o.dst).v st.t (.tup [])) st.h st.nx c)⟩
noncomputable def dF [En] (P : Program) (all : List Oper) (ms : List Nat) (pl : List Pl) : Bx KD :=
  List.rec (motive := fun _ => Bx KD) ⟨fun X sd t h nx c => c t (allSide sd h) nx⟩
    (fun p _ ih => match all[p.i]? with
      | none => ⟨fun X sd t h nx c => .stuck "plan"⟩
      | some o => dF1 P all ((ms[p.i]?).getD 0) p ih o) pl
noncomputable def drawB [En] (P : Program) (ops : List Oper) : Bx (Cx → RM LV → LH → Nat → KT → Out) :=
  cond (planOk ops (preM ops []) (planOf ops (preM ops []))) ⟨fun X t h nx c => (dF P ops (preM ops []) (planOf ops (preM ops []))).v X [] t h nx c⟩ ⟨fun X t h nx c => .stuck "a region that draws"⟩
noncomputable def cndF (v : LV) (x y : Out) : Out :=
  LV.rec (motive_1 := fun _ => Out → Out → Out) (motive_2 := fun _ => Out) (fun _ _ => .stuck "cond") (fun b x y => lif b x y) (fun k n _ _ => .stuck "cond") (fun k e _ _ => .stuck "cond") (fun b x y => brS b x y) (fun _ _ _ => .stuck "cond") (fun _ _ => .stuck "cond") (fun _ _ _ _ _ _ => .stuck "cond") (fun _ _ => .stuck "cond") (fun _ _ _ _ _ => .stuck "cond") (fun _ _ _ _ _ _ _ => .stuck "cond")
  (fun _ _ _ _ => .stuck "cond") (fun _ _ _ _ _ => .stuck "cond") (fun _ _ => .stuck "cond") (fun _ _ _ => .stuck "cond") (fun _ _ => .stuck "cond") (fun _ _ _ _ _ _ _ => .stuck "cond") (fun _ _ _ => .stuck "cond") (fun _ _ => .stuck "cond") (fun _ _ _ _ _ => .stuck "cond") (fun _ _ _ _ => .stuck "cond") (fun _ _ _ _ => .stuck "cond") (.stuck "") (fun _ _ _ _ => .stuck "") v x y
noncomputable def regF [En] (P : Program) (ops : List Oper) : Bx CodeF :=
  ⟨fun G rn ro ss k st K => St.rec (motive := fun _ => Out) (fun t nt h nx ds fl => bsel (dstsOk nt ops) ((opsF P ops ops).v ⟨callL P G rn, yieldL rn, nt, ds, fl⟩ t h nx fun t h nx => rn ro ss k ⟨t, nt, h, nx, ds, fl⟩ K)
     (opsL P (callL P G rn) (yieldL rn) ops ops ⟨t, nt, h, nx, ds, fl⟩ fun st => rn ro ss k st K)) st⟩
noncomputable def regD [En] (P : Program) (ops : List Oper) : Bx CodeF :=
  ⟨fun G rn ro ss k st K => St.rec (motive := fun _ => Out) (fun t nt h nx ds fl => bsel (dstsOk nt ops) ((drawB P ops).v ⟨callL P G rn, yieldL rn, nt, ds, fl⟩ t h nx fun t h nx => rn ro ss k ⟨t, nt, h, nx, ds, fl⟩ K)
     (drawL P (callL P G rn) (yieldL rn) ops ⟨t, nt, h, nx, ds, fl⟩ fun st => rn ro ss k st K)) st⟩
noncomputable def codeF [En] (P : Program) (c : Code) : Bx CodeF :=
  match c with
  | .region _ ops d => cond d (regD P ops.toList) (regF P ops.toList)
  | .cond x a b => ⟨fun G rn ro ss k st K => cndF ((lvB x).v st.t) (rn ro ss (.code a :: k) st K) (rn ro ss (.code b :: k) st K)⟩
  | c => codeB P c
noncomputable def itmF [En] (P : Program) (i : Itm) : Bx CodeF :=
  match i with
  | .blk _ => ⟨fun G rn ro ss k st K => rn ro ss k st K⟩
  | .lp c => ⟨fun G rn ro ss k st K => rn ro ss (.code c :: .lp c :: k) st K⟩
  | .code c => codeF P c
noncomputable def run1F [En] (P : Program) (G : Know) (rn : RunT) (ro : Option Nat) (ss : List Nat) (k : List Itm) (st : St) (K : LE → St → Out) : Out :=
  List.rec (motive := fun _ => Know → RunT → Option Nat → List Nat → St → (LE → St → Out) → Out) (fun _ _ _ _ st K => K .normal st) (fun i k _ G rn ro ss st K => (itmF P i).v G rn ro ss k st K) k G rn ro ss st K
noncomputable def runF [En] (P : Program) (G : Know) (n : Nat) : RunT := Nat.rec (motive := fun _ => RunT) (fun _ _ _ _ _ => .stuck "fuel") (fun _ rn ro ss k st K => run1F P G rn ro ss k st K) n
end Go.Proofs.Ytigilihpofafoaa.Loc
