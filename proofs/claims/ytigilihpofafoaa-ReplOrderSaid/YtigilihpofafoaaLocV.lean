/- The small machine of local values: definitions alone. A Go function's code is run over values with local object numbers; tests that are open stay open as 'lif'. -/
import Derived.Test.YtigilihpofafoaaProg
import Derived.KernelRfl
namespace Go.Proofs.Ytigilihpofafoaa.Loc
open Go
set_option linter.unusedVariables false

/-! ### A radix map on numbers -/
inductive RM (α : Type) where
  | nil
  | node (v : Option α) (l r : RM α)

/-- a box: what lies in it is reckoned once -/
structure Bx (α : Type) where
  v : α
noncomputable def bget0 {α : Type} : Bx (RM α → Option α) := ⟨fun m => RM.rec (motive := fun _ => Option α) none (fun v _ _ _ _ => v) m⟩
noncomputable def bgetL {α : Type} (b : Bx (RM α → Option α)) : Bx (RM α → Option α) := ⟨fun m => RM.rec (motive := fun _ => Option α) none (fun _ l _ _ _ => b.v l) m⟩
noncomputable def bgetR {α : Type} (b : Bx (RM α → Option α)) : Bx (RM α → Option α) := ⟨fun m => RM.rec (motive := fun _ => Option α) none (fun _ _ r _ _ => b.v r) m⟩
noncomputable def getB {α : Type} : Nat → Nat → Bx (RM α → Option α)
  | 0, _ => ⟨fun _ => none⟩
  | f + 1, i => cond (Nat.beq i 0) bget0 (cond (Nat.beq (i % 2) 1) (bgetL (getB f (i / 2))) (bgetR (getB f (i / 2 - 1))))
noncomputable def bset0 {α : Type} : Bx (α → RM α → RM α) := ⟨fun v m => RM.rec (motive := fun _ => RM α) (.node (some v) .nil .nil) (fun _ l r _ _ => .node (some v) l r) m⟩
noncomputable def bsetL {α : Type} (b : Bx (α → RM α → RM α)) : Bx (α → RM α → RM α) := ⟨fun v m => RM.rec (motive := fun _ => RM α) (.node none (b.v v .nil) .nil) (fun x l r _ _ => .node x (b.v v l) r) m⟩
noncomputable def bsetR {α : Type} (b : Bx (α → RM α → RM α)) : Bx (α → RM α → RM α) := ⟨fun v m => RM.rec (motive := fun _ => RM α) (.node none .nil (b.v v .nil)) (fun x l r _ _ => .node x l (b.v v r)) m⟩
noncomputable def setB {α : Type} : Nat → Nat → Bx (α → RM α → RM α)
  | 0, _ => ⟨fun _ m => m⟩
  | f + 1, i => cond (Nat.beq i 0) bset0 (cond (Nat.beq (i % 2) 1) (bsetL (setB f (i / 2))) (bsetR (setB f (i / 2 - 1))))
noncomputable def RM.get {α : Type} (m : RM α) (i : Nat) : Option α := (getB (i + 1) i).v m
noncomputable def RM.set {α : Type} (m : RM α) (i : Nat) (v : α) : RM α := (setB (i + 1) i).v v m
noncomputable def RM.del {α : Type} : RM α → Nat → RM α
  | .nil, _ => .nil
  | .node x l r, i => cond (Nat.beq i 0) (.node none l r) (cond (Nat.beq (i % 2) 1) (.node x (l.del (i / 2)) r) (.node x l (r.del (i / 2 - 1))))
noncomputable def RM.ofList {α : Type} (l : List (Nat × α)) : RM α := l.foldl (fun m p => m.set p.1 p.2) .nil
noncomputable def RM.ofArgs {α : Type} : List α → Nat → RM α → RM α
  | [], _, m => m
  | v :: vs, i, m => RM.ofArgs vs (i + 1) (m.set i v)

/-! ### Open numbers: expressions over variables. 'En': what the variables stand for, and between which numbers they lie -/
inductive SE where
  | c (n : Int)
  | v (i : Nat)
  | bin (op : BinOp) (k : IntKind) (a b : SE)
  | wr (k : IntKind) (a : SE)
  /-- cell 'f' of element 'e' of list 'j' -/
  | sel (j f : Nat) (k : IntKind) (e : SE)
  deriving Inhabited
inductive SB where
  | lit (b : Bool)
  | eq (a b : SE)
  | lt (a b : SE)
  | not (a : SB)
  | and (a b : SB)
  | iff (a b : SB)
  deriving Inhabited
class En where
  rho : Nat → Int
  dom : List (Int × Int)
  ok : ∀ i p, dom[i]? = some p → p.1 ≤ rho i ∧ rho i ≤ p.2

/-! ### Plain cells -/
inductive Kd where
  | int (k : IntKind)
  | bool

/-! ### Local values -/
inductive LV where
  | undef
  | bool (b : Bool)
  | int (k : IntKind) (n : Int)
  | sym (k : IntKind) (e : SE)
  | sbl (b : SB)
  | str (s : ByteArray)
  | nilp
  | ptr (id i off : Nat) (ix : List (Nat × Nat × Nat))
  | nils
  | sq (id start len : Nat)
  | sv (id off es len cap : Nat)
  /-- a list that is read alone: of open length -/
  | os (id : Nat) (len : SE)
  /-- the address of a part of its element -/
  | pel (id : Nat) (i : SE) (off : Nat)
  | nilm
  | map (id : Nat)
  | nilf
  | fn (f : Fn) (first caps : List LV)
  | yld (id : Nat)
  | nili
  | iface (t : TypeId) (v : LV)
  | agg (cs : List LV)
  | tup (vs : List LV)
  deriving Inhabited

inductive LObj where
  | var (cells : List LV) (elem : TypeId)
  | seq (n : Nat) (get : Nat → List LV) (elem : TypeId) (own : Bool)
  | map (es : List (LV × LV))
  /-- list 'j': what the cells of an element are -/
  | lst (j : Nat) (ks : List Kd) (elem : TypeId)
  | loop (state : LoopState) (pend : Option Code) (t : RM LV) (nt : Nat) (ps : Array Tmp) (assign body : Code) (dfr : Nat)
  | dfr
  deriving Inhabited

abbrev LH := RM LObj

structure St where
  t : RM LV
  nt : Nat
  h : LH
  nx : Nat
  ds : List Nat
  /-- objects below this number are not written -/
  fl : Nat

noncomputable def lif {α : Type} (b : Bool) (x y : α) : α :=
  match b with
  | true => x
  | false => y

inductive LE where
  | normal
  | exit (id : Nat)
  | ret

inductive Itm where
  | code (c : Code)
  | blk (id : Nat)
  | lp (c : Code)

inductive Out where
  | stuck (why : String)
  | br (b : SB) (x y : Out)
  | cfg (k : List Itm) (st : St)
  | fin (e : LE) (st : St)

/-! ### Constants -/
noncomputable def ofSc : Value → Option LV
  | .bool b => some (.bool b)
  | .int k n => some (.int k n)
  | .string s => some (.str s)
  | .pointer none => some .nilp
  | .slice none 0 0 => some .nils
  | .map none => some .nilm
  | .nilFunc => some .nilf
  | .nilIface => some .nili
  | _ => none
noncomputable def ofScs : List Value → Option (List LV)
  | [] => some []
  | v :: vs => match ofSc v, ofScs vs with
    | some x, some xs => some (x :: xs)
    | _, _ => none
noncomputable def ofVal (v : Value) : LV :=
  match v with
  | .agg cs => match ofScs cs.toList with
    | some xs => .agg xs
    | none => .undef
  | v => (ofSc v).getD .undef

noncomputable def lev (t : RM LV) : Operand → LV
  | .tmp i => (t.get i).getD .undef
  | .const v => ofVal v
  | .func f => .fn (.func f) [] []
  | .global _ => .undef

/-! ### Cells -/
noncomputable def LV.isSc : LV → Bool
  | .undef | .agg _ | .tup _ => false
  | _ => true
noncomputable def allSc : List LV → Bool
  | [] => true
  | c :: cs => cond c.isSc (allSc cs) false
/-- the cells of a value that is known -/
noncomputable def LV.cells : LV → Option (List LV)
  | .agg cs => cond (allSc cs) (some cs) none
  | .undef | .tup _ => none
  | v => some [v]

noncomputable def lget : List LV → Nat → LV
  | [], _ => .undef
  | c :: cs, n => cond (Nat.beq n 0) c (lget cs (n - 1))
noncomputable def ltake : List LV → Nat → List LV
  | [], _ => []
  | c :: cs, n => cond (Nat.beq n 0) [] (c :: ltake cs (n - 1))
noncomputable def ldrop : List LV → Nat → List LV
  | [], _ => []
  | c :: cs, n => cond (Nat.beq n 0) (c :: cs) (ldrop cs (n - 1))
noncomputable def llen : List LV → Nat
  | [] => 0
  | _ :: cs => llen cs + 1
/-- 'cs' with 'vs' laid over it from 'n' on -/
noncomputable def lover : List LV → List LV → List LV
  | [], cs => cs
  | v :: vs, [] => v :: vs
  | v :: vs, _ :: cs => v :: lover vs cs
noncomputable def lput : List LV → Nat → List LV → List LV
  | [], _, vs => vs
  | c :: cs, n, vs => cond (Nat.beq n 0) (lover vs (c :: cs)) (c :: lput cs (n - 1) vs)

noncomputable def LV.asInt : LV → Int
  | .int _ n => n
  | _ => 0
noncomputable def LV.asBool : LV → Bool
  | .bool b => b
  | _ => false
noncomputable def kBeq : IntKind → IntKind → Bool
  | .i8, .i8 | .i16, .i16 | .i32, .i32 | .i64, .i64 | .u8, .u8 | .u16, .u16 | .u32, .u32 | .u64, .u64 => true
  | _, _ => false
noncomputable def LV.isInt (k : IntKind) : LV → Bool
  | .int k' _ => kBeq k k'
  | _ => false
noncomputable def LV.isBool : LV → Bool
  | .bool _ => true
  | _ => false

noncomputable def ixSum : List (Nat × Nat × Nat) → Nat
  | [] => 0
  | (i, _, s) :: l => i * s + ixSum l
noncomputable def upto : Nat → (Nat → Bool) → Bool
  | 0, _ => true
  | n + 1, p => cond (p n) (upto n p) false
/-- of every place that the open indexes may lead to -/
noncomputable def ixAll (p : Nat → Bool) : Nat → List (Nat × Nat × Nat) → Bool
  | off, [] => p off
  | off, (_, n, s) :: l => upto n fun i => ixAll p (off + i * s) l

/-! ### Types -/
noncomputable def desc (P : Program) (t : TypeId) : Option TypeDesc := P.underlying t
noncomputable def aggB (P : Program) (t : TypeId) : Bool :=
  match P.underlying t with
  | some (.struct _) => true
  | some (.array _ _) => true
  | _ => false
noncomputable def szOf (P : Program) (t : TypeId) : Option Nat := (P.info? t).map (·.size)
noncomputable def zeroL (P : Program) (t : TypeId) : LV :=
  match P.info? t with
  | some i => match i.zero with
    | some z => ofVal z
    | none => .undef
  | none => .undef

/-- one cell, read at a place with open indexes: its kind is the zero's -/
noncomputable def cellAs (cells : List LV) (off : Nat) (ix : List (Nat × Nat × Nat)) (z : LV) : LV :=
  match ix with
  | [] => lget cells off
  | _ :: _ => match z with
    | .int k _ => cond (ixAll (fun o => (lget cells o).isInt k) off ix) (.int k (lget cells (off + ixSum ix)).asInt) .undef
    | .bool _ => cond (ixAll (fun o => (lget cells o).isBool) off ix) (.bool (lget cells (off + ixSum ix)).asBool) .undef
    | _ => lget cells (off + ixSum ix)
noncomputable def cellsAs (cells : List LV) (ix : List (Nat × Nat × Nat)) : Nat → List LV → List LV
  | _, [] => []
  | off, z :: zs => cellAs cells off ix z :: cellsAs cells ix (off + 1) zs
noncomputable def aggR (r : List LV) (n : Nat) (k : LV → Out) : Out := cond (Nat.beq (llen r) n) (k (.agg r)) (.stuck "part: out of range")
noncomputable def aggX (r : List LV) (n : Nat) (k : LV → Out) : Out := cond (Nat.beq (llen r) n && allSc r) (k (.agg r)) (.stuck "part: kinds")
noncomputable def scR (v : LV) (k : LV → Out) : Out := cond v.isSc (k v) (.stuck "part: unknown")
noncomputable def rowD : TypeDesc → Bool
  | .struct _ => true
  | .array _ _ => true
  | _ => false
/-- a value of type 't' that lies in the cells at 'off' -/
noncomputable def partL (P : Program) (t : TypeId) (cells : List LV) (off : Nat) (ix : List (Nat × Nat × Nat)) (k : LV → Out) : Out :=
  match szOf P t, P.underlying t with
  | some n, some d => cond (rowD d) (match ix with
      | [] => aggR (ltake (ldrop cells off) n) n k
      | _ :: _ => match zeroL P t with
        | .agg zs => aggX (cellsAs cells ix off zs) n k
        | _ => .stuck "part: no zero") (scR (cellAs cells off ix (zeroL P t)) k)
  | _, _ => .stuck "part: no size"

noncomputable def mergeL (b : Bool) (v c : LV) : LV :=
  match v, c with
  | .int k n, .int k' m => cond (kBeq k k') (.int k (lif b n m)) .undef
  | .bool p, .bool q => .bool (lif b p q)
  | _, _ => .undef
noncomputable def mergeOver (b : Bool) : List LV → List LV → List LV
  | [], cs => cs
  | _ :: _, [] => []
  | v :: vs, c :: cs => mergeL b v c :: mergeOver b vs cs
noncomputable def mergePut (b : Bool) : List LV → Nat → List LV → List LV
  | [], _, _ => []
  | c :: cs, n, vs => cond (Nat.beq n 0) (mergeOver b vs (c :: cs)) (c :: mergePut b cs (n - 1) vs)
noncomputable def foldTo {α : Type} (f : Nat → α → α) : Nat → α → α
  | 0, a => a
  | n + 1, a => f n (foldTo f n a)
/-- a store at a place with open indexes: each cell that may be meant is the old one or the new one -/
noncomputable def storeIx (vs : List LV) : (off : Nat) → List (Nat × Nat × Nat) → Bool → List LV → List LV
  | off, [], b, cells => mergePut b cells off vs
  | off, (i, n, s) :: l, b, cells => foldTo (fun j cs => storeIx vs (off + j * s) l (b && Nat.beq i j) cs) n cells

/-! ### Operations without calls. 'nx': the next free object number -/
abbrev KV := LV → LH → Nat → Out

noncomputable def wrapI (k : IntKind) (n : Int) : Int := k.wrap n
noncomputable def cmpI (op : BinOp) (x y : Int) : Option Bool :=
  match op with
  | .eql => some (x == y)
  | .neq => some (x != y)
  | .lss => some (decide (x < y))
  | .leq => some (decide (x ≤ y))
  | .gtr => some (decide (x > y))
  | .geq => some (decide (x ≥ y))
  | _ => none
noncomputable def bitI (op : BinOp) (k : IntKind) (x y : Int) : Option Int :=
  match op with
  | .and => some (k.wrap (BitVec.ofInt k.bits x &&& BitVec.ofInt k.bits y).toNat)
  | .or => some (k.wrap (BitVec.ofInt k.bits x ||| BitVec.ofInt k.bits y).toNat)
  | .xor => some (k.wrap (BitVec.ofInt k.bits x ^^^ BitVec.ofInt k.bits y).toNat)
  | .andNot => some (k.wrap (BitVec.ofInt k.bits x &&& ~~~BitVec.ofInt k.bits y).toNat)
  | _ => none
noncomputable def shlI (k : IntKind) (x y : Int) : Int := k.wrap (x * 2 ^ (min y.toNat k.bits))
noncomputable def shrI (k : IntKind) (x y : Int) : Int := x.fdiv (2 ^ (min y.toNat k.bits))

noncomputable def intOp (op : BinOp) (k : IntKind) (a b : Int) (c : LV → Out) : Out :=
  match op with
  | .add => c (.int k (k.wrap (a + b)))
  | .sub => c (.int k (k.wrap (a - b)))
  | .mul => c (.int k (k.wrap (a * b)))
  | .quo => lif (b == 0) (.stuck "division by zero") (c (.int k (k.wrap (a.tdiv b))))
  | .rem => lif (b == 0) (.stuck "division by zero") (c (.int k (a.tmod b)))
  | .shl => lif (decide (b < 0)) (.stuck "negative shift") (c (.int k (shlI k a b)))
  | .shr => lif (decide (b < 0)) (.stuck "negative shift") (c (.int k (shrI k a b)))
  | .and | .or | .xor | .andNot => match bitI op k a b with
    | some n => c (.int k n)
    | none => .stuck "bits"
  | _ => match cmpI op a b with
    | some x => c (.bool x)
    | none => .stuck "compare"

/-! #### Open numbers -/
noncomputable def opI (op : BinOp) (k : IntKind) (a b : Int) : Int :=
  match op with
  | .add => k.wrap (a + b)
  | .sub => k.wrap (a - b)
  | .mul => k.wrap (a * b)
  | .quo => k.wrap (a.tdiv b)
  | .rem => a.tmod b
  | .shl => shlI k a b
  | .shr => shrI k a b
  | op => (bitI op k a b).getD 0
/-- where a list's cells lie among the variables -/
def selI (j f : Nat) (i : Int) : Nat := 1000 + ((i.toNat * 64 + f) * 16 + j)
noncomputable def SE.ev [En] : SE → Int
  | .c n => n
  | .v i => En.rho i
  | .bin op k a b => opI op k a.ev b.ev
  | .wr k a => k.wrap a.ev
  | .sel j f k e => k.wrap (En.rho (selI j f e.ev))
noncomputable def SB.ev [En] : SB → Bool
  | .lit b => b
  | .eq a b => a.ev == b.ev
  | .lt a b => decide (a.ev < b.ev)
  | .not a => !a.ev
  | .and a b => a.ev && b.ev
  | .iff a b => a.ev == b.ev
noncomputable def iBeq : Int → Int → Bool
  | .ofNat a, .ofNat b => Nat.beq a b
  | .negSucc a, .negSucc b => Nat.beq a b
  | _, _ => false
noncomputable def iLe : Int → Int → Bool
  | .ofNat a, .ofNat b => Nat.ble a b
  | .negSucc a, .negSucc b => Nat.ble b a
  | .negSucc _, .ofNat _ => true
  | .ofNat _, .negSucc _ => false
noncomputable def iLt : Int → Int → Bool
  | .ofNat a, .ofNat b => Nat.blt a b
  | .negSucc a, .negSucc b => Nat.blt b a
  | .negSucc _, .ofNat _ => true
  | .ofNat _, .negSucc _ => false
noncomputable def opCode : BinOp → Nat
  | .add => 1
  | .sub => 2
  | .mul => 3
  | .quo => 4
  | .rem => 5
  | .and => 6
  | .or => 7
  | .xor => 8
  | .andNot => 9
  | .shl => 10
  | .shr => 11
  | _ => 0
noncomputable def opBeq (a b : BinOp) : Bool := cond (Nat.beq (opCode a) 0) false (Nat.beq (opCode a) (opCode b))
noncomputable def SE.beq : SE → SE → Bool
  | .c a, .c b => iBeq a b
  | .v i, .v j => Nat.beq i j
  | .bin op k a b, .bin op' k' a' b' => cond (opBeq op op') (cond (kBeq k k') (cond (a.beq a') (b.beq b') false) false) false
  | .wr k a, .wr k' a' => cond (kBeq k k') (a.beq a') false
  | .sel j f k a, .sel j' f' k' a' => cond (Nat.beq j j') (cond (Nat.beq f f') (cond (kBeq k k') (a.beq a') false) false) false
  | _, _ => false
noncomputable def SB.beq : SB → SB → Bool
  | .lit a, .lit b => cond a b (cond b false true)
  | .eq a b, .eq a' b' => cond (a.beq a') (b.beq b') false
  | .lt a b, .lt a' b' => cond (a.beq a') (b.beq b') false
  | .not a, .not b => a.beq b
  | .and a b, .and a' b' => cond (a.beq a') (b.beq b') false
  | .iff a b, .iff a' b' => cond (a.beq a') (b.beq b') false
  | _, _ => false
noncomputable def kLo : IntKind → Int
  | .i8 => -128
  | .i16 => -32768
  | .i32 => -2147483648
  | .i64 => -9223372036854775808
  | .u8 | .u16 | .u32 | .u64 => 0
noncomputable def kHi : IntKind → Int
  | .i8 => 127
  | .i16 => 32767
  | .i32 => 2147483647
  | .i64 => 9223372036854775807
  | .u8 => 255
  | .u16 => 65535
  | .u32 => 4294967295
  | .u64 => 18446744073709551615
abbrev Rg := Option (Int × Int)
noncomputable def domGet : List (Int × Int) → Nat → Rg
  | [], _ => none
  | p :: l, i => cond (Nat.beq i 0) (some p) (domGet l (i - 1))
noncomputable def fullR (k : IntKind) : Rg := some (kLo k, kHi k)
noncomputable def fitR (k : IntKind) (l h : Int) : Rg := cond (cond (iLe (kLo k) l) (iLe h (kHi k)) false) (some (l, h)) (fullR k)
noncomputable def minI (a b : Int) : Int := cond (iLe a b) a b
noncomputable def binR (op : BinOp) (k : IntKind) (ra rb : Rg) : Rg :=
  match op, ra, rb with
  | .add, some a, some b => fitR k (a.1 + b.1) (a.2 + b.2)
  | .add, _, _ => fullR k
  | .sub, some a, some b => fitR k (a.1 - b.2) (a.2 - b.1)
  | .sub, _, _ => fullR k
  | .mul, some a, some b => cond (cond (iLe 0 a.1) (iLe 0 b.1) false) (fitR k (a.1 * b.1) (a.2 * b.2)) (fullR k)
  | .mul, _, _ => fullR k
  | .quo, some a, some b => cond (cond (iLe 0 a.1) (iLe 1 b.1) false) (fitR k 0 (a.2 / b.1)) (fullR k)
  | .quo, _, _ => fullR k
  | .rem, some a, some b => cond (cond (iLe 0 a.1) (iLe 1 b.1) false) (some (0, minI a.2 (b.2 - 1))) none
  | .rem, _, _ => none
  | .shr, some a, some b => cond (cond (iLe 0 a.1) (iLe 0 b.1) false) (some (0, cond (cond (iBeq b.1 b.2) (iLe b.1 63) false) (shrI k a.2 b.1) a.2)) none
  | .shr, _, _ => none
  | .shl, _, _ => fullR k
  | .and, some a, some b => cond (cond (cond (iLe 0 a.1) (iLe 0 b.1) false) (cond (iLe a.2 (kHi k)) (iLe b.2 (kHi k)) false) false) (some (0, minI a.2 b.2)) (fullR k)
  | .and, _, _ => fullR k
  | .or, _, _ => fullR k
  | .xor, _, _ => fullR k
  | .andNot, _, _ => fullR k
  | _, _, _ => none
noncomputable def SE.rg [En] : SE → Rg
  | .c n => some (n, n)
  | .v i => domGet En.dom i
  | .bin op k a b => binR op k a.rg b.rg
  | .wr k a => match a.rg with
    | some p => fitR k p.1 p.2
    | none => fullR k
  | .sel _ _ k _ => fullR k
noncomputable def mkBin (op : BinOp) (k : IntKind) (a b : SE) : SE :=
  match a, b with
  | .c x, .c y => .c (opI op k x y)
  | a, b => .bin op k a b
noncomputable def mkWr [En] (k : IntKind) (a : SE) : SE :=
  match a with
  | .c x => .c (k.wrap x)
  | a => match a.rg with
    | some p => cond (cond (iLe (kLo k) p.1) (iLe p.2 (kHi k)) false) a (.wr k a)
    | none => .wr k a
noncomputable def eqR (a b : SE) : Rg → Rg → SB
  | some x, some y => cond (iLt x.2 y.1) (.lit false) (cond (iLt y.2 x.1) (.lit false) (cond (cond (iBeq x.1 x.2) (cond (iBeq y.1 y.2) (iBeq x.1 y.1) false) false) (.lit true) (.eq a b)))
  | _, _ => .eq a b
noncomputable def ltR (a b : SE) : Rg → Rg → SB
  | some x, some y => cond (iLt x.2 y.1) (.lit true) (cond (iLe y.2 x.1) (.lit false) (.lt a b))
  | _, _ => .lt a b
noncomputable def mkEq [En] (a b : SE) : SB := cond (a.beq b) (.lit true) (eqR a b a.rg b.rg)
noncomputable def mkLt [En] (a b : SE) : SB := cond (a.beq b) (.lit false) (ltR a b a.rg b.rg)
noncomputable def mkNot : SB → SB
  | .lit b => .lit (cond b false true)
  | .not a => a
  | a => .not a
noncomputable def mkAnd : SB → SB → SB
  | .lit true, b => b
  | .lit false, _ => .lit false
  | a, .lit true => a
  | _, .lit false => .lit false
  | a, b => .and a b
noncomputable def mkIff (a b : SB) : SB :=
  match a, b with
  | .lit true, b => b
  | .lit false, b => mkNot b
  | a, .lit true => a
  | a, .lit false => mkNot a
  | a, b => cond (a.beq b) (.lit true) (.iff a b)
noncomputable def mkI (k : IntKind) : SE → LV
  | .c n => .int k n
  | e => .sym k e
noncomputable def mkB : SB → LV
  | .lit b => .bool b
  | b => .sbl b
noncomputable def brS (b : SB) (x y : Out) : Out :=
  match b with
  | .lit true => x
  | .lit false => y
  | b => .br b x y
noncomputable def cmpS [En] (op : BinOp) (a b : SE) : Option SB :=
  match op with
  | .eql => some (mkEq a b)
  | .neq => some (mkNot (mkEq a b))
  | .lss => some (mkLt a b)
  | .leq => some (mkNot (mkLt b a))
  | .gtr => some (mkLt b a)
  | .geq => some (mkNot (mkLt a b))
  | _ => none
/-- an open number below 'n' is parted into its values -/
noncomputable def chainS [En] (e : SE) (k : Nat → Out) : Nat → Nat → Out
  | i, 0 => k i
  | i, m + 1 => brS (mkEq e (.c (Int.ofNat i))) (k i) (chainS e k (i + 1) m)
/-- a number of few values is parted -/
noncomputable def fewS [En] (k : IntKind) (e : SE) (c : LV → Out) : Out :=
  match e.rg with
  | some p => cond (cond (iLe 0 p.1) (iLe p.2 15) false) (chainS e (fun i => c (.int k (Int.ofNat i))) p.1.toNat (p.2.toNat - p.1.toNat)) (c (mkI k e))
  | none => c (mkI k e)
noncomputable def symOp [En] (op : BinOp) (k : IntKind) (a b : SE) (c : LV → Out) : Out :=
  match op with
  | .add | .sub | .mul | .or | .xor | .andNot => c (mkI k (mkBin op k a b))
  | .and => fewS k (mkBin op k a b) c
  | .rem => brS (mkEq b (.c 0)) (.stuck "division by zero") (fewS k (mkBin op k a b) c)
  | .quo => brS (mkEq b (.c 0)) (.stuck "division by zero") (c (mkI k (mkBin op k a b)))
  | .shl | .shr => brS (mkLt b (.c 0)) (.stuck "negative shift") (c (mkI k (mkBin op k a b)))
  | _ => match cmpS op a b with
    | some x => c (mkB x)
    | none => .stuck "compare"
noncomputable def loOf : Rg → Nat
  | some p => p.1.toNat
  | none => 0
noncomputable def hiOf (n : Nat) : Rg → Nat
  | some p => cond (iLe p.2 (Int.ofNat n)) p.2.toNat n
  | none => n
noncomputable def idxS [En] (e : SE) (n : Nat) (k : Nat → Out) : Out :=
  brS (mkLt e (.c 0)) (.stuck "index out of range") (brS (mkLt e (.c (Int.ofNat n))) (chainS e k (loOf e.rg) (hiOf (n - 1) e.rg - loOf e.rg)) (.stuck "index out of range"))

noncomputable def lBeq : List UInt8 → List UInt8 → Bool
  | [], [] => true
  | a :: l, b :: m => cond (Nat.beq a.toNat b.toNat) (lBeq l m) false
  | _, _ => false
noncomputable def sBeq (a b : ByteArray) : Bool := lBeq a.data.toList b.data.toList
/-- the cells of a part of type 't' at 'off' -/
noncomputable def subL (P : Program) (t : TypeId) (cs : List LV) (off : Nat) : List LV :=
  cond (aggB P t) (match szOf P t with
    | some n => ltake (ldrop cs off) n
    | none => []) [lget cs off]
noncomputable def eqFs (P : Program) (rec : TypeId → List LV → List LV → Option SB) (xs ys : List LV) : List Field → Option SB
  | [] => some (.lit true)
  | f :: fs => cond (f.name != "_") (match rec f.type (subL P f.type xs f.offset) (subL P f.type ys f.offset), eqFs P rec xs ys fs with
    | some a, some b => some (mkAnd a b)
    | _, _ => none) none
noncomputable def eqArr (P : Program) (e : TypeId) (sz : Nat) (rec : List LV → List LV → Option SB) (xs ys : List LV) : Nat → Nat → Option SB
  | 0, _ => some (.lit true)
  | n + 1, i => match rec (subL P e xs (i * sz)) (subL P e ys (i * sz)), eqArr P e sz rec xs ys n (i + 1) with
    | some a, some b => some (mkAnd a b)
    | _, _ => none
noncomputable def eqBs : LV → LV → Option SB
  | .bool a, .bool b => some (.lit (a == b))
  | .bool a, .sbl b => some (mkIff (.lit a) b)
  | .sbl a, .bool b => some (mkIff a (.lit b))
  | .sbl a, .sbl b => some (mkIff a b)
  | _, _ => none
noncomputable def eqIs [En] : LV → LV → Option SB
  | .int k a, .int k' b => cond (kBeq k k') (some (.lit (a == b))) none
  | .int k a, .sym k' b => cond (kBeq k k') (some (mkEq (.c a) b)) none
  | .sym k a, .int k' b => cond (kBeq k k') (some (mkEq a (.c b))) none
  | .sym k a, .sym k' b => cond (kBeq k k') (some (mkEq a b)) none
  | _, _ => none
/-- '==' by a type that holds no address; 'none': not served -/
noncomputable def eqT [En] (P : Program) : Nat → TypeId → List LV → List LV → Option SB
  | 0, _, _, _ => none
  | d + 1, t, xs, ys =>
    match P.underlying t with
    | some .bool => (match xs, ys with
      | [a], [b] => eqBs a b
      | _, _ => none)
    | some (.int _) => (match xs, ys with
      | [a], [b] => eqIs a b
      | _, _ => none)
    | some .string => (match xs, ys with
      | [.str a], [.str b] => some (.lit (sBeq a b))
      | _, _ => none)
    | some (.struct fs) => cond (P.stoodInHeld t) none (eqFs P (eqT P d) xs ys fs.toList)
    | some (.array n e) => (match szOf P e with
      | some sz => eqArr P e sz (eqT P d e) xs ys n 0
      | none => none)
    | _ => none
noncomputable def funcT (P : Program) (t : TypeId) : Bool :=
  match P.underlying t with
  | some (.func _ _ _) => true
  | _ => false
noncomputable def sliceT (P : Program) (t : TypeId) : Bool :=
  match P.underlying t with
  | some (.slice _) => true
  | _ => false
noncomputable def boolT (P : Program) (t : TypeId) : Bool :=
  match P.underlying t with
  | some .bool => true
  | _ => false
noncomputable def eqL [En] (P : Program) (t : TypeId) (x y : LV) (c : SB → Out) : Out :=
  match x, y with
  | .bool a, .bool b => cond (boolT P t) (c (.lit (a == b))) (.stuck "eq")
  | .bool a, .sbl b => cond (boolT P t) (c (mkIff (.lit a) b)) (.stuck "eq")
  | .sbl a, .bool b => cond (boolT P t) (c (mkIff a (.lit b))) (.stuck "eq")
  | .sbl a, .sbl b => cond (boolT P t) (c (mkIff a b)) (.stuck "eq")
  | .agg a, .agg b => cond (P.eqGuardType P.depth t) (.stuck "eq: guard") (cond (aggB P t) (match eqT P 50 t a b with
    | some r => c r
    | none => .stuck "eq: cells") (.stuck "eq: no aggregate"))
  | .nilf, .nilf => cond (funcT P t) (c (.lit true)) (.stuck "eq: type")
  | .nilf, .fn _ _ _ => cond (funcT P t) (c (.lit false)) (.stuck "eq: type")
  | .fn _ _ _, .nilf => cond (funcT P t) (c (.lit false)) (.stuck "eq: type")
  | .nils, .nils => cond (sliceT P t) (c (.lit true)) (.stuck "eq: type")
  | .nils, .sq _ _ _ => cond (sliceT P t) (c (.lit false)) (.stuck "eq: type")
  | .sq _ _ _, .nils => cond (sliceT P t) (c (.lit false)) (.stuck "eq: type")
  | _, _ => .stuck "eq: values"

noncomputable def wrapQ (k : IntKind) (n : Int) : Int := cond (iLe (kLo k) n) (cond (iLe n (kHi k)) n (k.wrap n)) (k.wrap n)
inductive NV where
  | lit (k : IntKind) (n : Int)
  | sym (k : IntKind) (e : SE)
  | no
noncomputable def LV.nv : LV → NV
  | .int k n => .lit k n
  | .sym k e => .sym k e
  | _ => .no
noncomputable def samK (k k' : IntKind) (x : Out) : Out := cond (kBeq k k') x (.stuck "kinds")
noncomputable def litB (op : BinOp) : Bx (IntKind → Int → IntKind → Int → (LV → Out) → Out) :=
  match op with
  | .add => ⟨fun k a k' b c => samK k k' (c (.int k (wrapQ k (Int.add a b))))⟩
  | .sub => ⟨fun k a k' b c => samK k k' (c (.int k (wrapQ k (Int.sub a b))))⟩
  | .mul => ⟨fun k a k' b c => samK k k' (c (.int k (wrapQ k (Int.mul a b))))⟩
  | .eql => ⟨fun k a k' b c => samK k k' (c (.bool (a == b)))⟩
  | .neq => ⟨fun k a k' b c => samK k k' (c (.bool (!(a == b))))⟩
  | .lss => ⟨fun k a k' b c => samK k k' (c (.bool (iLt a b)))⟩
  | .leq => ⟨fun k a k' b c => samK k k' (c (.bool (iLe a b)))⟩
  | .gtr => ⟨fun k a k' b c => samK k k' (c (.bool (iLt b a)))⟩
  | .geq => ⟨fun k a k' b c => samK k k' (c (.bool (iLe b a)))⟩
  | .quo => ⟨fun k a k' b c => samK k k' (intOp .quo k a b c)⟩
  | .rem => ⟨fun k a k' b c => samK k k' (intOp .rem k a b c)⟩
  | .shl => ⟨fun k a _ b c => intOp .shl k a b c⟩
  | .shr => ⟨fun k a _ b c => intOp .shr k a b c⟩
  | .and => ⟨fun k a k' b c => samK k k' (intOp .and k a b c)⟩
  | .or => ⟨fun k a k' b c => samK k k' (intOp .or k a b c)⟩
  | .xor => ⟨fun k a k' b c => samK k k' (intOp .xor k a b c)⟩
  | .andNot => ⟨fun k a k' b c => samK k k' (intOp .andNot k a b c)⟩
noncomputable def symL [En] (op : BinOp) (k : IntKind) (a : SE) (k' : IntKind) (b : SE) (c : LV → Out) : Out :=
  match op with
  | .shl | .shr => symOp op k a b c
  | _ => cond (kBeq k k') (symOp op k a b c) (.stuck "kinds")
noncomputable def binR0 [En] (P : Program) (op : BinOp) (t : TypeId) (x y : LV) (c : LV → Out) : Out :=
  match x, y with
  | .str a, .str b => (match op with
    | .eql => c (.bool (sBeq a b))
    | .neq => c (.bool (!(sBeq a b)))
    | _ => .stuck "string op")
  | x, y => match op with
    | .eql => eqL P t x y fun b => c (mkB b)
    | .neq => eqL P t x y fun b => c (mkB (mkNot b))
    | _ => .stuck "binop"
noncomputable def binL [En] (P : Program) (op : BinOp) (t : TypeId) (x y : LV) (c : LV → Out) : Out :=
  match x.nv, y.nv with
  | .lit k a, .lit k' b => (litB op).v k a k' b c
  | .sym k a, .lit k' b => symL op k a k' (.c b) c
  | .lit k a, .sym k' b => symL op k (.c a) k' b c
  | .sym k a, .sym k' b => symL op k a k' b c
  | _, _ => binR0 P op t x y c

noncomputable def unL (op : UnOp) (x : LV) (c : LV → Out) : Out :=
  match op, x with
  | .not, .bool b => c (.bool (!b))
  | .neg, .int k n => c (.int k (k.wrap (0 - n)))
  | .xor, .int k n => (match bitI .xor k (cond k.signed (-1) k.max) n with
    | some m => c (.int k m)
    | none => .stuck "xor")
  | .not, .sbl b => c (mkB (mkNot b))
  | .neg, .sym k e => c (mkI k (mkBin .sub k (.c 0) e))
  | .xor, .sym k e => c (mkI k (mkBin .xor k (.c (cond k.signed (-1) k.max)) e))
  | _, _ => .stuck "unary"
noncomputable def numsOf (get : Nat → List LV) : Nat → Nat → Option (List Int)
  | _, 0 => some []
  | s, n + 1 => match get s with
    | [.int .u8 z] => (match numsOf get (s + 1) n with
      | some l => some (z :: l)
      | none => none)
    | _ => none
noncomputable def strN (l : List Int) : ByteArray := ⟨(l.map fun n => UInt8.ofNat n.toNat).toArray⟩
noncomputable def byteT (P : Program) (e : TypeId) : Bool :=
  match P.underlying e with
  | some (.int .u8) => (match szOf P e with
    | some n => Nat.beq n 1
    | none => false)
  | _ => false
noncomputable def seqB (P : Program) (h : LH) (id : Nat) (e : TypeId) : Bool :=
  match h.get id with
  | some (.seq _ _ e' _) => cond (Nat.beq e e') true (match szOf P e, szOf P e' with
    | some a, some b => Nat.beq a b
    | _, _ => false)
  | _ => false
noncomputable def bytesL (h : LH) (id s n : Nat) (c : LV → Out) : Out :=
  match h.get id with
  | some (.seq m get _ _) => cond (Nat.ble (s + n) m) (match numsOf get s n with
    | some l => c (.str (strN l))
    | none => .stuck "string: the bytes") (.stuck "string: too long")
  | _ => .stuck "string: no object"
noncomputable def convL [En] (P : Program) (src dst : TypeId) (x : LV) (h : LH) (c : LV → Out) : Out :=
  match P.underlying src, P.underlying dst, x with
  | some _, some (.int k), .int _ n => c (.int k (k.wrap n))
  | some _, some (.int k), .sym _ e => c (mkI k (mkWr k e))
  | some _, some .string, .str s => c (.str s)
  | some (.slice e), some .string, .nils => cond (byteT P e) (c (.str .empty)) (.stuck "string of what")
  | some (.slice e), some .string, .sq id s n => cond (cond (byteT P e) (seqB P h id e) false) (bytesL h id s n c) (.stuck "string of what")
  | _, _, _ => .stuck "convert"

noncomputable def fieldAddrL (P : Program) (s : TypeId) (x : LV) (f : Nat) (c : LV → Out) : Out :=
  match P.underlying s with
  | some (.struct fs) => (match fs.toList[f]?, x with
    | some fl, .ptr id i off ix => (match szOf P fl.type with
      | some n => cond (Nat.beq n 0) (.stuck "a field of no size") (c (.ptr id i (off + fl.offset) ix))
      | none => .stuck "fieldAddr: size")
    | some fl, .pel id i off => (match szOf P fl.type with
      | some n => cond (Nat.beq n 0) (.stuck "a field of no size") (c (.pel id i (off + fl.offset)))
      | none => .stuck "fieldAddr: size")
    | _, _ => .stuck "fieldAddr")
  | _ => .stuck "fieldAddr: no struct"
noncomputable def inR (i : Int) (n : Nat) : Bool := decide (0 ≤ i) && decide (i < (n : Int))
noncomputable abbrev seqEs (P : Program) (h : LH) (id : Nat) (e : TypeId) : Bool := seqB P h id e
noncomputable def indexAt [En] (P : Program) (t : TypeId) (x : LV) (h : LH) (ix : (Nat → (Nat → Out) → Out)) (c : LV → Out) : Out :=
  match P.underlying t, x with
  | some (.array n e), .ptr id k off [] => (match szOf P e with
    | some sz => ix n fun j => c (.ptr id k (off + j * sz) [])
    | none => .stuck "indexAddr: size")
  | some (.slice e), .sq id s n => cond (seqEs P h id e) (ix n fun j => c (.ptr id (s + j) 0 [])) (.stuck "indexAddr: elements")
  | some (.slice e), .sv id off es n _ => (match szOf P e with
    | some sz => cond (Nat.beq sz es) (ix n fun j => c (.ptr id 0 (off + j * es) [])) (.stuck "indexAddr: size")
    | none => .stuck "indexAddr: size")
  | _, _ => .stuck "indexAddr"
/-- an index below 'n' -/
noncomputable def ixOf [En] (i : LV) (n : Nat) (k : Nat → Out) : Out :=
  match i with
  | .int _ j => lif (inR j n) (k j.toNat) (.stuck "index out of range")
  | .sym _ e => idxS e n k
  | _ => .stuck "index"
noncomputable def LV.se : LV → Option SE
  | .int _ n => some (.c n)
  | .sym _ e => some e
  | _ => none
/-- the object is a list, its elements are of the type 'e' -/
noncomputable def lstB (h : LH) (id : Nat) (e : TypeId) : Bool :=
  match h.get id with
  | some (.lst _ _ e') => Nat.beq e e'
  | _ => false
noncomputable def lstAt [En] (P : Program) (t : TypeId) (id : Nat) (len : SE) (i : LV) (h : LH) (c : LV → Out) : Out :=
  match P.underlying t, i.se with
  | some (.slice e), some j => cond (lstB h id e) (brS (mkLt j (.c 0)) (.stuck "index out of range") (brS (mkLt j len) (c (.pel id j 0)) (.stuck "index out of range"))) (.stuck "indexAddr: elements")
  | _, _ => .stuck "indexAddr: a list"
noncomputable def indexAddrL [En] (P : Program) (t : TypeId) (x i : LV) (h : LH) (c : LV → Out) : Out :=
  match x with
  | .os id len => lstAt P t id len i h c
  | x => indexAt P t x h (ixOf i) c
noncomputable def fieldL (P : Program) (s : TypeId) (x : LV) (f : Nat) (c : LV → Out) : Out :=
  match P.underlying s, x with
  | some (.struct fs), .agg cs => (match fs.toList[f]? with
    | some fl => partL P fl.type cs fl.offset [] c
    | none => .stuck "field")
  | _, _ => .stuck "field"
noncomputable def bt (s : ByteArray) (i : Int) : Int := ((s.data.toList[i.toNat]?).getD 0).toNat
noncomputable def indexL [En] (P : Program) (t : TypeId) (x i : LV) (c : LV → Out) : Out :=
  match P.underlying t, x with
  | some (.array n e), .agg cs => (match szOf P e with
    | some sz => ixOf i n fun j => partL P e cs (j * sz) [] c
    | none => .stuck "index: size")
  | some .string, .str s => ixOf i s.size fun j => c (.int .u8 (bt s (Int.ofNat j)))
  | _, _ => .stuck "index"

noncomputable def chunk (es : Nat) (cells : List LV) (i : Nat) : List LV := ltake (ldrop cells (i * es)) es

noncomputable def cellsAt (h : LH) (id i : Nat) : Option (List LV) :=
  match h.get id with
  | some (.var cs _) => cond (Nat.beq i 0) (some cs) none
  | some (.seq _ get _ _) => some (get i)
  | _ => none
/-- cell 'f' of element 'i' of list 'j' -/
noncomputable def selC (j f : Nat) (i : SE) : Kd → LV
  | .int k => .sym k (.sel j f k i)
  | .bool => .sbl (.eq (.sel j f .u8 i) (.c 1))
noncomputable def selCs (j : Nat) (i : SE) : List Kd → Nat → List LV
  | [], _ => []
  | k :: ks, f => selC j f i k :: selCs j i ks (f + 1)
noncomputable def loadL (P : Program) (t : TypeId) (x : LV) (h : LH) (c : LV → Out) : Out :=
  match x with
  | .pel id i off => (match h.get id with
    | some (.lst j ks _) => partL P t (selCs j i ks 0) off [] c
    | _ => .stuck "load: no list")
  | .ptr id i off ix => (match cellsAt h id i with
    | some cs => partL P t cs off ix c
    | none => .stuck "load: no object")
  | _ => .stuck "load"
noncomputable def storeCs (vs cs : List LV) (off : Nat) (ix : List (Nat × Nat × Nat)) : List LV :=
  match ix with
  | [] => lput cs off vs
  | _ :: _ => storeIx vs off ix true cs
noncomputable def storeL (P : Program) (fl : Nat) (t : TypeId) (x v : LV) (h : LH) (c : LH → Out) : Out :=
  match x, v.cells, szOf P t with
  | .ptr id i off ix, some vs, some sz => cond (Nat.beq (llen vs) sz && Nat.ble fl id) (match h.get id with
    | some (.var cs e) => cond (Nat.beq i 0 && ixAll (fun o => Nat.ble (o + sz) (llen cs)) off ix) (c (h.set id (.var (storeCs vs cs off ix) e))) (.stuck "store: range")
    | some (.seq n get e true) => cond (ixAll (fun o => Nat.ble (o + sz) (llen (get i))) off ix) (c (h.set id (.seq n (fun j => cond (Nat.beq j i) (storeCs vs (get i) off ix) (get j)) e true))) (.stuck "store: range")
    | _ => .stuck "store: no object") (.stuck "store: size")
  | _, _, _ => .stuck "store"

noncomputable def fillF (place : Nat → Option (Nat × Nat)) : List LV → List (Nat × LV) → Option (List LV)
  | cells, [] => some cells
  | cells, (i, v) :: rest => match place i, v.cells with
    | some (off, size), some vs => cond (Nat.beq (llen vs) size && Nat.ble (off + size) (llen cells)) (fillF place (lput cells off vs) rest) none
    | _, _ => none
noncomputable def placeOf (P : Program) (t : TypeId) : Option (Nat → Option (Nat × Nat)) :=
  match P.underlying t with
  | some (.struct fs) => (fs.toList.mapM fun f => (P.info? f.type).map fun i => (f.offset, i.size)).map fun ps i => ps[i]?
  | some (.array _ e) => (szOf P e).map fun n i => some (i * n, n)
  | _ => none
noncomputable def buildL (P : Program) (t : TypeId) (parts : List (Nat × LV)) (c : LV → Out) : Out :=
  match placeOf P t, zeroL P t with
  | some pl, .agg zs => (match fillF pl zs parts with
    | some cs => c (.agg cs)
    | none => .stuck "build: a part")
  | _, _ => .stuck "build"
noncomputable def putEl (els : List (List LV)) (i : Nat) (v : List LV) : List (List LV) :=
  match els with
  | [] => []
  | e :: es => cond (Nat.beq i 0) (v :: es) (e :: putEl es (i - 1) v)
noncomputable def fillEls (sz : Nat) : List (List LV) → List (Nat × LV) → Option (List (List LV))
  | els, [] => some els
  | els, (i, v) :: rest => match v.cells with
    | some vs => cond (Nat.beq (llen vs) sz && Nat.blt i els.length) (fillEls sz (putEl els i vs) rest) none
    | none => none
noncomputable def getEl : List (List LV) → Nat → List LV
  | [], _ => []
  | e :: es, i => cond (Nat.beq i 0) e (getEl es (i - 1))
noncomputable def buildSliceL (P : Program) (t : TypeId) (len : Nat) (parts : List (Nat × LV)) (nx : Nat) (h : LH) (c : KV) : Out :=
  match P.underlying t with
  | some (.slice e) => (match szOf P e, (zeroL P e).cells with
    | some sz, some zs => cond (Nat.ble (len * sz) 16777216 && (Nat.blt 0 sz && Nat.beq (llen zs) sz)) (match fillEls sz (List.replicate len zs) parts with
      | some els => c (.sq nx 0 len) (h.set nx (.seq len (getEl els) e true)) (nx + 1)
      | none => .stuck "buildSlice: a part") (.stuck "buildSlice: too long")
    | _, _ => .stuck "buildSlice: element")
  | _ => .stuck "buildSlice"

/-- a bound of a slice expression -/
noncomputable def boundL [En] (x : Option LV) (dflt most : Nat) (c : Nat → Out) : Out :=
  match x with
  | none => c dflt
  | some (.sym _ e) => idxS e (most + 1) c
  | some (.int _ j) => lif (decide (0 ≤ j) && decide (j ≤ (most : Int))) (c j.toNat) (.stuck "slice bounds")
  | some _ => .stuck "slice: a bound"
noncomputable def sliceL [En] (P : Program) (t : TypeId) (x : LV) (lo hi mx : Option LV) (h : LH) (c : LV → Out) : Out :=
  match mx with
  | some _ => .stuck "slice: three indexes"
  | none => match P.underlying t, x with
    | some (.slice e), .sq id s n => cond (seqEs P h id e) (boundL hi n n fun hh => boundL lo 0 hh fun l => c (.sq id (s + l) (hh - l))) (.stuck "slice: elements")
    | some (.slice e), .nils => (match szOf P e with
      | some _ => boundL hi 0 0 fun hh => boundL lo 0 hh fun _ => c .nils
      | none => .stuck "slice: size")
    | some (.slice e), .sv id off es n cap => (match szOf P e with
      | some sz => cond (Nat.beq sz es) (boundL hi n cap fun hh => boundL lo 0 hh fun l => c (.sv id (off + l * es) es (hh - l) (cap - l))) (.stuck "slice: size")
      | none => .stuck "slice: size")
    | some (.array n e), .ptr id 0 off [] => (match szOf P e with
      | some es => boundL hi n n fun hh => boundL lo 0 hh fun l => c (.sv id (off + l * es) es (hh - l) (n - l))
      | none => .stuck "slice: size")
    | some .string, .str s => boundL hi s.size s.size fun hh => boundL lo 0 hh fun l => c (.str (s.extract l hh))
    | _, _ => .stuck "slice"

/-! ### Maps -/
noncomputable def keyEq [En] : LV → LV → Option SB
  | .str a, .str b => some (.lit (sBeq a b))
  | a, b => eqIs a b
noncomputable def keyT (P : Program) (kt : TypeId) (k : LV) : Bool :=
  match P.underlying kt, k with
  | some (.int _), .int _ _ => true
  | some (.int _), .sym _ _ => true
  | some .string, .str _ => true
  | _, _ => false
noncomputable def findGo [En] (i : LV) : List (LV × LV) → Nat → (Nat → LV → Out) → Out → Out
  | [], _, _, nf => nf
  | p :: l, n, fd, nf => match keyEq i p.1 with
    | some b => brS b (fd n p.2) (findGo i l (n + 1) fd nf)
    | none => .stuck "map: keys"
noncomputable def repM : List (LV × LV) → Nat → LV × LV → List (LV × LV)
  | [], _, _ => []
  | a :: l, j, p => cond (Nat.beq j 0) (p :: l) (a :: repM l (j - 1) p)
noncomputable def lookC (ok : Bool) (v : LV) (b : Bool) (c : LV → Out) : Out := cond ok (c (.tup [v, .bool b])) (c v)
noncomputable def lookupL [En] (P : Program) (t : TypeId) (x i : LV) (ok : Bool) (h : LH) (c : LV → Out) : Out :=
  match P.underlying t with
  | some (.map kt et) => cond (keyT P kt i) (match (zeroL P et).cells with
    | some _ => (match x with
      | .nilm => lookC ok (zeroL P et) false c
      | .map id => (match h.get id with
        | some (.map es) => findGo i es 0 (fun _ v => lookC ok v true c) (lookC ok (zeroL P et) false c)
        | _ => .stuck "map: no object")
      | _ => .stuck "map: of what")
    | none => .stuck "map: zero") (.stuck "map: the key's type")
  | _ => .stuck "map: type"
noncomputable def insertL [En] (P : Program) (fl : Nat) (t : TypeId) (m k v : LV) (h : LH) (c : LH → Out) : Out :=
  match P.underlying t with
  | some (.map kt _) => cond (keyT P kt k) (match m with
    | .map id => cond (Nat.ble fl id) (match h.get id with
      | some (.map es) => findGo k es 0 (fun j _ => c (h.set id (.map (repM es j (k, v))))) (c (h.set id (.map (es ++ [(k, v)]))))
      | _ => .stuck "map: no object") (.stuck "map: not one's own")
    | _ => .stuck "map: of what") (.stuck "map: the key's type")
  | _ => .stuck "map: type"

noncomputable def lopt (ev : Operand → LV) : Option Operand → Option LV
  | none => none
  | some x => some (ev x)
/-- a function's call: its floor, its number, the arguments -/
abbrev KF := Nat → FuncId → List LV → LH → Nat → KV → Out
/-! ### Built-in functions -/
noncomputable def lenL (P : Program) (t : TypeId) (x : LV) (c : LV → Out) : Out :=
  match P.underlying t, x with
  | some (.slice _), .sq _ _ n => c (.int .i64 n)
  | some (.slice _), .sv _ _ _ n _ => c (.int .i64 n)
  | some (.slice _), .nils => c (.int .i64 0)
  | some (.slice _), .os _ e => c (mkI .i64 e)
  | some .string, .str s => c (.int .i64 s.size)
  | some (.array n _), _ => c (.int .i64 n)
  | _, _ => .stuck "len"
/-- what is appended: how many elements of the type 'e', and which -/
noncomputable def srcL (P : Program) (e : TypeId) (sz : Nat) (h : LH) (x : LV) (c : Nat → (Nat → List LV) → Out) : Out :=
  match x with
  | .nils => c 0 fun _ => []
  | .sq id s n => (match h.get id with
    | some (.seq m get _ _) => cond (seqEs P h id e && Nat.ble (s + n) m) (c n fun j => get (s + j)) (.stuck "append: elements")
    | _ => .stuck "append: no source")
  | .sv id off es n _ => (match h.get id with
    | some (.var cs _) => cond (Nat.beq es sz && Nat.ble (off + n * es) (llen cs)) (c n fun j => ltake (ldrop cs (off + j * es)) es) (.stuck "append: source")
    | _ => .stuck "append: no source")
  | _ => .stuck "append: source"
noncomputable def maxBytes : Nat := 140737488355328
noncomputable def appendL (P : Program) (fl : Nat) (t : TypeId) (s x : LV) (h : LH) (nx : Nat) (c : KV) : Out :=
  match P.underlying t with
  | some (.slice e) => (match P.info? e, (zeroL P e).cells with
    | some i, some zs => cond (Nat.blt 0 i.size && (Nat.blt 0 i.bytes && Nat.beq (llen zs) i.size)) (srcL P e i.size h x fun m src => match s with
      | .nils => lif (Nat.beq m 0) (c .nils h nx) (lif (Nat.ble (m * i.bytes) maxBytes) (c (.sq nx 0 m) (h.set nx (.seq m src e true)) (nx + 1)) (.stuck "append: too long"))
      | .sq id 0 n => (match h.get id with
        | some (.seq n' get e' true) => cond (Nat.beq n n' && (Nat.beq e e' && Nat.ble fl id)) (lif (Nat.ble ((n + m) * i.bytes) maxBytes)
            (c (.sq nx 0 (n + m)) ((h.del id).set nx (.seq (n + m) (fun j => cond (Nat.blt j n) (get j) (src (j - n))) e true)) (nx + 1)) (.stuck "append: too long")) (.stuck "append: not the whole")
        | _ => .stuck "append: no object")
      | _ => .stuck "append: to what") (.stuck "append: no size")
    | _, _ => .stuck "append: element")
  | _ => .stuck "append: type"
noncomputable def takeEls (get : Nat → List LV) : Nat → Nat → List LV
  | _, 0 => []
  | i, k + 1 => get i ++ takeEls get (i + 1) k
noncomputable def minN (a b : Nat) : Nat := cond (Nat.ble a b) a b
/-- copy, of elements of one cell, into a part of an array of one's own -/
noncomputable def copyL (P : Program) (fl : Nat) (t : TypeId) (s x : LV) (h : LH) (nx : Nat) (c : KV) : Out :=
  match P.underlying t with
  | some (.slice e) => (match szOf P e with
    | some 1 => srcL P e 1 h x fun m src => (match s with
      | .sv id off es n _ => cond (Nat.beq (minN m n) 0) (c (.int .i64 0) h nx) (cond (cond (Nat.beq es 1) (Nat.ble fl id) false) (match h.get id with
        | some (.var cs el) => cond (Nat.ble (off + minN m n) (llen cs)) (c (.int .i64 (Int.ofNat (minN m n))) (h.set id (.var (lput cs off (takeEls src 0 (minN m n))) el)) nx) (.stuck "copy: range")
        | _ => .stuck "copy: no object") (.stuck "copy: elements"))
      | _ => .stuck "copy: to what")
    | _ => .stuck "copy: size")
  | _ => .stuck "copy: type"
noncomputable def builtinL (P : Program) (fl : Nat) (b : Builtin) (ts : List TypeId) (args : List LV) (h : LH) (nx : Nat) (c : KV) : Out :=
  match b, ts, args with
  | .len, t :: _, [x] => lenL P t x fun v => c v h nx
  | .copy, [t, _], [s, x] => copyL P fl t s x h nx c
  | .append, [t, t'], [s, x] => cond (Nat.beq t t') (appendL P fl t s x h nx c) (.stuck "append: types")
  | _, _, _ => .stuck "a built-in that is not served"


noncomputable def oneArg (ev : Operand → LV) : List Operand → List LV
  | [] => []
  | x :: xs => ev x :: oneArg ev xs
noncomputable def callV (fl : Nat) (cf cy : KF) (f : LV) (args : List LV) (h : LH) (nx : Nat) (c : KV) : Out :=
  match f with
  | .fn (.func g) a b => cf fl g (a ++ (args ++ b)) h nx c
  | .yld l => cy fl l args h nx c
  | _ => .stuck "a call of what"
noncomputable def callOp (P : Program) (fl : Nat) (cf cy : KF) (ev : Operand → LV) (cl : Call) (h : LH) (nx : Nat) (c : KV) : Out :=
  match cl.callee with
  | .builtin b => builtinL P fl b cl.argTypes.toList (oneArg ev cl.args.toList) h nx c
  | .value f => callV fl cf cy (ev f) (oneArg ev cl.args.toList) h nx c
  | .invoke _ _ => .stuck "a method call"
/-- one operation, calls among them: 'cf' calls a function, 'cy' a loop's yield -/
abbrev OpF := Nat → KF → KF → (Operand → LV) → LH → Nat → KV → Out
noncomputable def opB [En] (P : Program) (op : Op) : Bx OpF :=
  match op with
  | .call cl => ⟨fun fl cf cy ev h nx c => callOp P fl cf cy ev cl h nx c⟩
  | .move x => ⟨fun fl cf cy ev h nx c => c (ev x) h nx⟩
  | .assign x => ⟨fun fl cf cy ev h nx c => c (ev x) h nx⟩
  | .pick b x y => ⟨fun fl cf cy ev h nx c => (match ev b with
    | .bool p => lif p (c (ev x) h nx) (c (ev y) h nx)
    | .sbl p => brS p (c (ev x) h nx) (c (ev y) h nx)
    | _ => .stuck "pick")⟩
  | .alloc t => ⟨fun fl cf cy ev h nx c => (match (zeroL P t).cells with
    | some cs => c (.ptr nx 0 0 []) (h.set nx (.var cs t)) (nx + 1)
    | none => .stuck "alloc")⟩
  | .box t x => ⟨fun fl cf cy ev h nx c => (match (ev x).cells with
    | some cs => c (.ptr nx 0 0 []) (h.set nx (.var cs t)) (nx + 1)
    | none => .stuck "box")⟩
  | .build t ps => ⟨fun fl cf cy ev h nx c => buildL P t (ps.toList.map fun p => (p.1, ev p.2)) fun v => c v h nx⟩
  | .buildSlice t n ps => ⟨fun fl cf cy ev h nx c => buildSliceL P t n (ps.toList.map fun p => (p.1, ev p.2)) nx h c⟩
  | .makeMap _ none => ⟨fun fl cf cy ev h nx c => c (.map nx) (h.set nx (.map [])) (nx + 1)⟩
  | .lookup t x i ok => ⟨fun fl cf cy ev h nx c => lookupL P t (ev x) (ev i) ok h fun v => c v h nx⟩
  | .insert t m k v => ⟨fun fl cf cy ev h nx c => insertL P fl t (ev m) (ev k) (ev v) h fun h' => c (.tup []) h' nx⟩
  | .mapUpdate t m k v => ⟨fun fl cf cy ev h nx c => insertL P fl t (ev m) (ev k) (ev v) h fun h' => c (.tup []) h' nx⟩
  | .load t x => ⟨fun fl cf cy ev h nx c => loadL P t (ev x) h fun v => c v h nx⟩
  | .store t x y => ⟨fun fl cf cy ev h nx c => storeL P fl t (ev x) (ev y) h fun h' => c (.tup []) h' nx⟩
  | .nilCheck x => ⟨fun fl cf cy ev h nx c => (match ev x with
    | .ptr id i off ix => c (.ptr id i off ix) h nx
    | .fn (.func f) a b => c (.fn (.func f) a b) h nx
    | _ => .stuck "nilCheck")⟩
  | .binOp op t x y _ => ⟨fun fl cf cy ev h nx c => binL P op t (ev x) (ev y) fun v => c v h nx⟩
  | .unOp op _ x => ⟨fun fl cf cy ev h nx c => unL op (ev x) fun v => c v h nx⟩
  | .convert a b x => ⟨fun fl cf cy ev h nx c => convL P a b (ev x) h fun v => c v h nx⟩
  | .makeFunc f a b => ⟨fun fl cf cy ev h nx c => c (.fn f (a.toList.map ev) (b.toList.map ev)) h nx⟩
  | .fieldAddr s x f => ⟨fun fl cf cy ev h nx c => fieldAddrL P s (ev x) f fun v => c v h nx⟩
  | .field s x f => ⟨fun fl cf cy ev h nx c => fieldL P s (ev x) f fun v => c v h nx⟩
  | .indexAddr t x i => ⟨fun fl cf cy ev h nx c => indexAddrL P t (ev x) (ev i) h fun v => c v h nx⟩
  | .index t x i => ⟨fun fl cf cy ev h nx c => indexL P t (ev x) (ev i) fun v => c v h nx⟩
  | .slice t x lo hi mx => ⟨fun fl cf cy ev h nx c => sliceL P t (ev x) (lopt ev lo) (lopt ev hi) (lopt ev mx) h fun v => c v h nx⟩
  | .extract x i => ⟨fun fl cf cy ev h nx c => (match ev x with
    | .tup vs => (match vs[i]? with
      | some v => c v h nx
      | none => .stuck "extract")
    | _ => .stuck "extract")⟩
  | _ => ⟨fun fl cf cy ev h nx c => .stuck "an operation that is not served"⟩
noncomputable def opL [En] (P : Program) (fl : Nat) (cf cy : KF) (ev : Operand → LV) (op : Op) (h : LH) (nx : Nat) (c : KV) : Out := (opB P op).v fl cf cy ev h nx c

/-! ### Regions -/
noncomputable def St.setT (st : St) (d : Nat) (v : LV) : St := ⟨st.t.set d v, st.nt, st.h, st.nx, st.ds, st.fl⟩
noncomputable def St.setH (st : St) (h : LH) (nx : Nat) : St := ⟨st.t, st.nt, h, nx, st.ds, st.fl⟩
noncomputable def St.put (st : St) (d : Option Tmp) (v : LV) (c : St → Out) : Out :=
  match d with
  | none => c st
  | some d => cond (Nat.blt d st.nt) (c (st.setT d v)) (.stuck "no such slot")
noncomputable def dstOf (ops : List Oper) (j : Nat) : Option Tmp :=
  match ops[j]? with
  | some g => g.dst
  | none => none
noncomputable def guardB (d : Nat) (b want : Bool) (st : St) (yes no : St → Out) : Out :=
  lif b (cond want (yes (st.setT d (.bool true))) (no (st.setT d (.bool true)))) (cond want (no (st.setT d (.bool false))) (yes (st.setT d (.bool false))))
noncomputable def guardV (d : Nat) (v : Option LV) (want : Bool) (st : St) (yes no : St → Out) : Out :=
  match v with
  | some (.bool b) => guardB d b want st yes no
  | some (.sbl b) => brS b (cond want (yes st) (no st)) (cond want (no st) (yes st))
  | some (.tup []) => no st
  | _ => .stuck "guard"
noncomputable def guardD (d : Option Tmp) (want : Bool) (st : St) (yes no : St → Out) : Out :=
  match d with
  | some d => guardV d (st.t.get d) want st yes no
  | none => .stuck "guard"
/-- is the operation wanted? the guard's slot is known from here on -/
noncomputable def guardL (ops : List Oper) (g : Option (Nat × Bool)) (st : St) (yes no : St → Out) : Out :=
  match g with
  | none => yes st
  | some p => guardD (dstOf ops p.1) p.2 st yes no
noncomputable def opsB [En] (P : Program) (all : List Oper) : List Oper → Bx (KF → KF → St → (St → Out) → Out)
  | [] => ⟨fun _ _ st c => c st⟩
  | o :: os => ⟨fun cf cy st c => guardL all o.guard st
      (fun st => opL P st.fl cf cy (lev st.t) o.op st.h st.nx fun v h nx => St.put (st.setH h nx) o.dst v fun st => (opsB P all os).v cf cy st c)
      (fun st => st.put o.dst (.tup []) fun st => (opsB P all os).v cf cy st c)⟩
noncomputable def opsL [En] (P : Program) (cf cy : KF) (all os : List Oper) (st : St) (c : St → Out) : Out := (opsB P all os).v cf cy st c

/-! ### Regions whose order is drawn -/
/-- operations that read alone and end in a value -/
noncomputable def isQuiet : Op → Bool
  | .move _ | .assign _ | .pick _ _ _ | .build _ _ | .load _ _ | .nilCheck _ | .binOp _ _ _ _ _ | .unOp _ _ _ | .convert _ _ _ | .makeFunc _ _ _ | .fieldAddr _ _ _ | .field _ _ _ | .indexAddr _ _ _ | .index _ _ _ | .slice _ _ _ _ _ | .extract _ _ => true
  | .call cl => (match cl.callee with
    | .builtin .len => true
    | _ => false)
  | _ => false
noncomputable def quietL [En] (P : Program) (ev : Operand → LV) (op : Op) (h : LH) (c : LV → Out) : Out :=
  match op with
  | .move x | .assign x => c (ev x)
  | .pick b x y => (match ev b with
    | .bool p => lif p (c (ev x)) (c (ev y))
    | .sbl p => brS p (c (ev x)) (c (ev y))
    | _ => .stuck "pick")
  | .build t ps => buildL P t (ps.toList.map fun p => (p.1, ev p.2)) c
  | .load t x => loadL P t (ev x) h c
  | .nilCheck x => (match ev x with
    | .ptr id i off ix => c (.ptr id i off ix)
    | .fn (.func f) a b => c (.fn (.func f) a b)
    | _ => .stuck "nilCheck")
  | .binOp op t x y _ => binL P op t (ev x) (ev y) c
  | .unOp op _ x => unL op (ev x) c
  | .convert a b x => convL P a b (ev x) h c
  | .makeFunc f a b => c (.fn f (a.toList.map ev) (b.toList.map ev))
  | .fieldAddr s x f => fieldAddrL P s (ev x) f c
  | .field s x f => fieldL P s (ev x) f c
  | .indexAddr t x i => indexAddrL P t (ev x) (ev i) h c
  | .index t x i => indexL P t (ev x) (ev i) c
  | .slice t x lo hi mx => sliceL P t (ev x) (lopt ev lo) (lopt ev hi) (lopt ev mx) h c
  | .extract x i => (match ev x with
    | .tup vs => (match vs[i]? with
      | some v => c v
      | none => .stuck "extract")
    | _ => .stuck "extract")
  | .call cl => (match cl.callee, cl.argTypes.toList, oneArg ev cl.args.toList with
    | .builtin .len, t :: _, [x] => lenL P t x c
    | _, _, _ => .stuck "a call that is not quiet")
  | _ => .stuck "an operation that is not quiet"

/-- who must come first: masks of operations -/
noncomputable def maskOf : List Edge → List Nat → Nat
  | [], _ => 0
  | e :: es, acc => cond (Region.binds .any e) (Nat.lor (Nat.lor (Nat.shiftLeft 1 e.on) ((acc[e.on]?).getD 0)) (maskOf es acc)) (maskOf es acc)
noncomputable def preM : List Oper → List Nat → List Nat
  | [], acc => acc
  | o :: os, acc => preM os (acc ++ [maskOf o.after.toList acc])
/-- the slots that an operation reads, its guard's among them -/
noncomputable def tmpsOf : List Operand → List Nat
  | [] => []
  | .tmp t :: l => t :: tmpsOf l
  | _ :: l => tmpsOf l
noncomputable def readsOf (ops : List Oper) (o : Oper) : List Nat :=
  match o.guard with
  | none => tmpsOf o.op.operands.toList
  | some p => match dstOf ops p.1 with
    | some d => d :: tmpsOf o.op.operands.toList
    | none => tmpsOf o.op.operands.toList
noncomputable def memN (n : Nat) : List Nat → Bool
  | [] => false
  | x :: l => cond (Nat.beq n x) true (memN n l)
noncomputable def writesTo (o : Oper) (l : List Nat) : Bool :=
  match o.dst with
  | some d => memN d l
  | none => false
noncomputable def sameDst (o p : Oper) : Bool :=
  match o.dst, p.dst with
  | some a, some b => Nat.beq a b
  | _, _ => false
/-- do the two share a slot that one of them writes? -/
noncomputable def clash (ops : List Oper) (o p : Oper) : Bool := cond (writesTo o (readsOf ops p)) true (cond (writesTo p (readsOf ops o)) true (sameDst o p))
/-- the kinds of a plan's places: 'fp': looks at no heap; 'fh': reads the heap; 'al': makes one new object; 'grow': acts, and writes nothing old; 'act': acts -/
inductive PK where
  | fp | fh | al | grow | act
structure Pl where
  i : Nat
  k : PK
noncomputable def PK.isAct : PK → Bool
  | .act => true
  | _ => false
noncomputable def pairOk (ops : List Oper) (ms : List Nat) (p q : Pl) : Bool :=
  cond (Nat.beq p.i q.i) false (cond (Nat.testBit ((ms[q.i]?).getD 0) p.i) true
    (match ops[p.i]?, ops[q.i]? with
      | some o, some u => cond (clash ops o u) false (match p.k with
        | .fp => true
        | .al => true
        | .fh => !q.k.isAct
        | _ => false)
      | _, _ => false))
noncomputable def pairsOk (ops : List Oper) (ms : List Nat) (p : Pl) : List Pl → Bool
  | [] => true
  | q :: l => cond (pairOk ops ms p q) (pairsOk ops ms p l) false
noncomputable def plOk (ops : List Oper) (ms : List Nat) : List Pl → Bool
  | [] => true
  | p :: l => cond (match ops[p.i]? with
    | some _ => true
    | none => false) (cond (pairsOk ops ms p l) (plOk ops ms l) false) false
noncomputable def edgesOk (n : Nat) : List Edge → Bool
  | [] => true
  | e :: es => cond (cond (Region.binds .any e) (Nat.blt e.on n) true) (edgesOk n es) false
noncomputable def masksOk (ms : List Nat) : List Oper → Nat → Bool
  | [], _ => true
  | o :: os, n => cond (cond (edgesOk n o.after.toList) (Nat.beq ((ms[n]?).getD 0) (maskOf o.after.toList ms)) false) (masksOk ms os (n + 1)) false
noncomputable def allIn (pl : List Pl) : Nat → Bool
  | 0 => true
  | n + 1 => cond (pl.any fun p => Nat.beq p.i n) (allIn pl n) false
noncomputable def planOk (ops : List Oper) (ms : List Nat) (pl : List Pl) : Bool := cond (masksOk ms ops 0) (cond (plOk ops ms pl) (allIn pl ops.length) false) false

/-- quiet operations that read the heap -/
noncomputable def isHeapy : Op → Bool
  | .load _ _ | .indexAddr _ _ _ | .slice _ _ _ _ _ => true
  | _ => false
noncomputable def isAlloc : Op → Bool
  | .alloc _ | .box _ _ | .buildSlice _ _ _ => true
  | _ => false
noncomputable def actsOf : List Oper → Nat → List Nat
  | [], _ => []
  | o :: os, n => cond (cond (isQuiet o.op) true (isAlloc o.op)) (actsOf os (n + 1)) (n :: actsOf os (n + 1))
noncomputable def floatsOf : List Oper → Nat → List Pl
  | [], _ => []
  | o :: os, n => cond (isQuiet o.op) (⟨n, cond (isHeapy o.op) .fh .fp⟩ :: floatsOf os (n + 1)) (cond (isAlloc o.op) (⟨n, .al⟩ :: floatsOf os (n + 1)) (floatsOf os (n + 1)))
noncomputable def cntIn (m : Nat) : List Nat → Nat
  | [] => 0
  | c :: cs => cond (Nat.testBit m c) (cntIn m cs + 1) (cntIn m cs)
noncomputable def lvlF (ms : List Nat) (cs : List Nat) (k : Nat) : List Pl → List Pl
  | [] => []
  | f :: fs => cond (Nat.beq (cntIn ((ms[f.i]?).getD 0) cs) k) (f :: lvlF ms cs k fs) (lvlF ms cs k fs)
noncomputable def PK.isFh : PK → Bool
  | .fh => true
  | _ => false
noncomputable def growOf (ms : List Nat) (c : Nat) (fs : List Pl) : Bool := fs.any fun f => cond f.k.isFh (cond (Nat.testBit ((ms[c]?).getD 0) f.i) false (cond (Nat.testBit ((ms[f.i]?).getD 0) c) false true)) false
noncomputable def planGo (ms cs : List Nat) (fs : List Pl) : List Nat → Nat → List Pl
  | [], k => lvlF ms cs k fs
  | c :: l, k => lvlF ms cs k fs ++ (⟨c, cond (growOf ms c fs) .grow .act⟩ :: planGo ms cs fs l (k + 1))
noncomputable def planOf (ops : List Oper) (ms : List Nat) : List Pl := planGo ms (actsOf ops 0) (floatsOf ops 0) (actsOf ops 0) 0

/-- one new object: its value, and what it is -/
noncomputable def allocL (P : Program) (ev : Operand → LV) (op : Op) (nx : Nat) (c : LV → LObj → Out) : Out :=
  match op with
  | .alloc t => (match (zeroL P t).cells with
    | some cs => c (.ptr nx 0 0 []) (.var cs t)
    | none => .stuck "alloc")
  | .box t x => (match (ev x).cells with
    | some cs => c (.ptr nx 0 0 []) (.var cs t)
    | none => .stuck "box")
  | .buildSlice t n ps => buildSliceL P t n (ps.toList.map fun p => (p.1, ev p.2)) nx .nil fun v h _ => match h.get nx with
    | some o => c v o
    | none => .stuck "buildSlice: the object"
  | _ => .stuck "an operation that makes no object"
/-- new objects that are not in the heap yet: by which operation, their numbers -/
structure Side where
  i : Nat
  id : Nat
  o : LObj
/-- those among 'm' are put into the heap -/
noncomputable def putSide (m : Nat) : List Side → LH → LH
  | [], h => h
  | s :: l, h => cond (Nat.testBit m s.i) (putSide m l (h.set s.id s.o)) (putSide m l h)
noncomputable def restSide (m : Nat) : List Side → List Side
  | [] => []
  | s :: l => cond (Nat.testBit m s.i) (restSide m l) (s :: restSide m l)
noncomputable def allSide : List Side → LH → LH
  | [], h => h
  | s :: l, h => allSide l (h.set s.id s.o)

noncomputable def dL [En] (P : Program) (cf cy : KF) (all : List Oper) (ms : List Nat) : List Pl → List Side → St → (St → Out) → Out
  | [], sd, st, c => c (st.setH (allSide sd st.h) st.nx)
  | p :: pl, sd, st, c => match all[p.i]? with
    | none => .stuck "plan"
    | some o => match p.k with
      | .fp => guardL all o.guard st
        (fun st => quietL P (lev st.t) o.op .nil fun v => st.put o.dst v fun st => dL P cf cy all ms pl sd st c)
        (fun st => st.put o.dst (.tup []) fun st => dL P cf cy all ms pl sd st c)
      | .fh => guardL all o.guard st
        (fun st => quietL P (lev st.t) o.op st.h fun v => st.put o.dst v fun st => dL P cf cy all ms pl sd st c)
        (fun st => st.put o.dst (.tup []) fun st => dL P cf cy all ms pl sd st c)
      | .al => guardL all o.guard st
        (fun st => allocL P (lev st.t) o.op st.nx fun v ob => St.put (st.setH st.h (st.nx + 1)) o.dst v fun st' => dL P cf cy all ms pl (⟨p.i, st.nx, ob⟩ :: sd) st' c)
        (fun st => st.put o.dst (.tup []) fun st => dL P cf cy all ms pl sd st c)
      | k => guardL all o.guard (st.setH (putSide ((ms[p.i]?).getD 0) sd st.h) st.nx)
        (fun st => opL P (cond k.isAct st.fl st.nx) cf cy (lev st.t) o.op st.h st.nx fun v h nx => St.put (st.setH h nx) o.dst v fun st => dL P cf cy all ms pl (restSide ((ms[p.i]?).getD 0) sd) st c)
        (fun st => st.put o.dst (.tup []) fun st => dL P cf cy all ms pl (restSide ((ms[p.i]?).getD 0) sd) st c)
noncomputable def drawL [En] (P : Program) (cf cy : KF) (ops : List Oper) (st : St) (c : St → Out) : Out :=
  cond (planOk ops (preM ops []) (planOf ops (preM ops []))) (dL P cf cy ops (preM ops []) (planOf ops (preM ops [])) [] st c) (.stuck "a region that draws")

/-! ### Code -/
noncomputable def exitItm (id : Nat) : List Itm → Option (List Itm)
  | [] => none
  | .blk i :: k => cond (Nat.beq i id) (some k) (exitItm id k)
  | _ :: k => exitItm id k

noncomputable def retL (P : Program) (fn : Func) (st : St) (c : KV) : Out :=
  match fn.results.toList with
  | [.tmp t] => c ((st.t.get t).getD .undef) st.h st.nx
  | rs => rets rs [] fun vs => match vs with
    | [v] => c v st.h st.nx
    | vs => c (.tup vs) st.h st.nx
where
  rets : List ResultVar → List LV → (List LV → Out) → Out
  | [], acc, k => k acc.reverse
  | .tmp t :: rs, acc, k => rets rs ((st.t.get t).getD .undef :: acc) k
  | .cell a ty :: rs, acc, k => loadL P ty ((st.t.get a).getD .undef) st.h fun v => rets rs (v :: acc) k

/-- what is known of functions: 'con': an answer, instead of the text; 'wr': the function writes what its caller hands it -/
structure Know where
  con : FuncId → Option (Nat → List LV → LH → Nat → KV → Out → Out)
  wr : FuncId → Bool

noncomputable def setPs (nt : Nat) : List Tmp → List LV → RM LV → RM LV
  | p :: ps, v :: vs, t => setPs nt ps vs (cond (Nat.blt p nt) (t.set p v) t)
  | _, _, t => t
mutual
/-- no address in it -/
noncomputable def LV.free : LV → Bool
  | .ptr _ _ _ _ => false
  | .sq _ _ _ => false
  | .sv _ _ _ _ _ => false
  | .os _ _ => false
  | .pel _ _ _ => false
  | .map _ => false
  | .yld _ => false
  | .fn _ a b => cond (LV.frees a) (LV.frees b) false
  | .iface _ v => v.free
  | .agg cs => LV.frees cs
  | .tup cs => LV.frees cs
  | _ => true
noncomputable def LV.frees : List LV → Bool
  | [] => true
  | c :: cs => cond c.free (LV.frees cs) false
end
mutual
/-- a loop's yield in it -/
noncomputable def LV.yl : LV → Bool
  | .yld _ => true
  | .fn _ a b => cond (LV.yls a) true (LV.yls b)
  | _ => false
noncomputable def LV.yls : List LV → Bool
  | [] => false
  | c :: cs => cond c.yl true (LV.yls cs)
end
/-- the blocks of deferred calls are taken -/
noncomputable def dropDs (fl : Nat) : List Nat → LH → Option LH
  | [], h => some h
  | id :: ds, h => match h.get id with
    | some .dfr => cond (Nat.ble fl id) (dropDs fl ds (h.del id)) none
    | _ => none
noncomputable def endL (P : Program) (fn : Func) (st : St) (c : KV) : Out :=
  match dropDs st.fl st.ds st.h with
  | some h => retL P fn (st.setH h st.nx) c
  | none => .stuck "the deferred calls"

abbrev RunT := (ro : Option Nat) → (ss : List Nat) → List Itm → St → (LE → St → Out) → Out
noncomputable def enterL (P : Program) (rn : RunT) (fl : Nat) (f : FuncId) (args : List LV) (h : LH) (nx : Nat) (c : KV) : Out :=
  match P.funcs.toList[f]? with
  | some fn => (match fn.body with
    | some b => cond (Nat.ble (llen args) fn.ntmps) (rn none [] [.code b] { t := RM.ofArgs args 0 .nil, nt := fn.ntmps, h := h, nx := nx, ds := [], fl := fl }
        fun e st => match e with
          | .normal => endL P fn st c
          | .ret => endL P fn st c
          | .exit _ => .stuck "exit") (.stuck "arguments")
    | none => .stuck "no body")
  | none => .stuck "no function"
noncomputable def plainL (P : Program) (G : Know) (rn : RunT) (fl : Nat) (f : FuncId) (args : List LV) (h : LH) (nx : Nat) (c : KV) : Out :=
  cond (cond (G.wr f) true (LV.yls args)) (enterL P rn fl f args h nx c)
    (enterL P rn nx f args h nx fun v h' nx' => cond v.free (c v h nx) (c v h' nx'))
noncomputable def callL (P : Program) (G : Know) (rn : RunT) (fl : Nat) (f : FuncId) (args : List LV) (h : LH) (nx : Nat) (c : KV) : Out :=
  match G.con f with
  | some g => g fl args h nx c (plainL P G rn fl f args h nx c)
  | none => plainL P G rn fl f args h nx c
/-- one round of a loop over a function: the loop is object 'l' -/
noncomputable def yieldL (rn : RunT) (fl : Nat) (l : Nat) (args : List LV) (h : LH) (nx : Nat) (c : KV) : Out :=
  match h.get l with
  | some (.loop .ready none t nt ps assign body _) => cond (Nat.beq (llen args) ps.size && Nat.ble fl l) (rn (some l) [] [.code assign] { t := setPs nt ps.toList args t, nt := nt, h := h, nx := nx, ds := [], fl := fl } fun e st => match e with
      | .normal => (match st.h.get l with
        | some (.loop .ready none t nt ps assign bd dfr) => rn (some l) [] [.code body] (st.setH (st.h.set l (.loop .busy none t nt ps assign bd dfr)) st.nx) fun e st => (match st.h.get l with
          | some (.loop .busy none t nt ps assign bd dfr) => (match e with
            | .normal => c (.bool true) (st.h.set l (.loop .ready none t nt ps assign bd dfr)) st.nx
            | .ret => c (.bool false) (st.h.set l (.loop .done (some .ret) t nt ps assign bd dfr)) st.nx
            | .exit id => c (.bool false) (st.h.set l (.loop .done (some (.exit id)) t nt ps assign bd dfr)) st.nx)
          | _ => .stuck "yield: the loop")
        | _ => .stuck "yield: the loop")
      | _ => .stuck "assign") (.stuck "yield: arguments")
  | _ => .stuck "yield: no loop"
/-- the one call of 'for .. := range f' -/
noncomputable def rangeL (P : Program) (G : Know) (rn : RunT) (ro : Option Nat) (f : LV) (ps : Array Tmp) (assign body : Code) (st : St) (c : Option Code → St → Out) : Out :=
  match f with
  | .fn (.func g) a b =>
    (match ro with
      | none => go g a b { st with h := st.h.set st.nx .dfr, nx := st.nx + 1, ds := st.nx :: st.ds } st.nx
      | some l => (match st.h.get l with
        | some (.loop _ _ _ _ _ _ _ d) => go g a b st d
        | _ => .stuck "range: no loop around"))
  | _ => .stuck "range over what"
where
  go (g : FuncId) (a b : List LV) (st : St) (d : Nat) : Out :=
    callL P G rn st.fl g (a ++ (.yld st.nx :: b)) (st.h.set st.nx (.loop .ready none st.t st.nt ps assign body d)) (st.nx + 1) fun _ h nx =>
      match h.get st.nx with
      | some (.loop .ready p _ _ _ _ _ _) => cond (Nat.ble st.fl st.nx) (c p (st.setH (h.del st.nx) nx)) (.stuck "range: the floor")
      | some (.loop .done p _ _ _ _ _ _) => cond (Nat.ble st.fl st.nx) (c p (st.setH (h.del st.nx) nx)) (.stuck "range: the floor")
      | _ => .stuck "range: the loop"

noncomputable def leaveL (rn : List Itm → St → Out) (k : List Itm) (st : St) (K : LE → St → Out) (id : Nat) : Out :=
  match exitItm id k with
  | some k' => rn k' st
  | none => K (.exit id) st
noncomputable def condL (v : LV) (x y : Out) : Out :=
  match v with
  | .bool p => lif p x y
  | .sbl b => brS b x y
  | _ => .stuck "cond"
noncomputable def jumpL (rn : List Itm → St → Out) (k : List Itm) (st : St) (K : LE → St → Out) (p : Option Code) : Out :=
  match p with
  | none => rn k st
  | some (.exit id) => leaveL rn k st K id
  | some .ret => K .ret st
  | some _ => .stuck "range: the jump"
abbrev CodeF := Know → RunT → Option Nat → List Nat → List Itm → St → (LE → St → Out) → Out
noncomputable def codeB [En] (P : Program) (c : Code) : Bx CodeF :=
  match c with
  | .skip => ⟨fun G rn ro ss k st K => rn ro ss k st K⟩
  | .label _ => ⟨fun G rn ro ss k st K => rn ro ss k st K⟩
  | .seq a b => ⟨fun G rn ro ss k st K => rn ro ss (.code a :: .code b :: k) st K⟩
  | .cond x a b => ⟨fun G rn ro ss k st K => condL (lev st.t x) (rn ro ss (.code a :: k) st K) (rn ro ss (.code b :: k) st K)⟩
  | .block id b => ⟨fun G rn ro ss k st K => cond (ss.elem id) (.cfg (.code (.block id b) :: k) st) (rn ro ss (.code b :: .blk id :: k) st K)⟩
  | .loop b => ⟨fun G rn ro ss k st K => rn ro ss (.code b :: .lp b :: k) st K⟩
  | .exit id => ⟨fun G rn ro ss k st K => leaveL (fun k st => rn ro ss k st K) k st K id⟩
  | .ret => ⟨fun G rn ro ss k st K => K .ret st⟩
  | .region _ ops d => ⟨fun G rn ro ss k st K => cond d (drawL P (callL P G rn) (yieldL rn) ops.toList st fun st => rn ro ss k st K) (opsL P (callL P G rn) (yieldL rn) ops.toList ops.toList st fun st => rn ro ss k st K)⟩
  | .rangeFunc f ps ag b => ⟨fun G rn ro ss k st K => rangeL P G rn ro (lev st.t f) ps ag b st fun p st => jumpL (fun k st => rn ro ss k st K) k st K p⟩
  | _ => ⟨fun G rn ro ss k st K => .stuck "code that is not served"⟩
noncomputable def codeL [En] (P : Program) (G : Know) (rn : RunT) (ro : Option Nat) (ss : List Nat) (c : Code) (k : List Itm) (st : St) (K : LE → St → Out) : Out := (codeB P c).v G rn ro ss k st K
noncomputable def itmL [En] (P : Program) (G : Know) (rn : RunT) (ro : Option Nat) (ss : List Nat) (i : Itm) (k : List Itm) (st : St) (K : LE → St → Out) : Out :=
  match i with
  | .blk _ => rn ro ss k st K
  | .lp c => rn ro ss (.code c :: .lp c :: k) st K
  | .code c => codeL P G rn ro ss c k st K
noncomputable def run1 [En] (P : Program) (G : Know) (rn : RunT) (ro : Option Nat) (ss : List Nat) (k : List Itm) (st : St) (K : LE → St → Out) : Out :=
  match k with
  | [] => K .normal st
  | i :: k => itmL P G rn ro ss i k st K
noncomputable def run [En] (P : Program) (G : Know) (n : Nat) : RunT := Nat.rec (motive := fun _ => RunT) (fun _ _ _ _ _ => .stuck "fuel") (fun _ rn ro ss k st K => run1 P G rn ro ss k st K) n
end Go.Proofs.Ytigilihpofafoaa.Loc
