/- ReplStays: the walk: a replacement state is valid, and then one of 131, or Right answers false; in each case all ways of the law's run end in 'true'. -/
import Derived.Test.YtigilihpofafoaaRs1
import Derived.Test.YtigilihpofafoaaRs2
import Derived.Test.YtigilihpofafoaaRs3
import Derived.Test.YtigilihpofafoaaRs4
namespace Go.Proofs.Ytigilihpofafoaa.ReplStaysP
open Go Go.RowKit Loc Rm Rsh
set_option linter.unusedVariables false
def witness : Array Value := #[.agg #[.int .u8 0, .int .i64 0, .int .u8 0, .int .u8 0, .int .u8 0, .int .u8 0, .int .u8 0], .int .i64 0, .int .u64 0]
theorem sh0 : shOf Try.prog 24 = some sA := Rsh.sh0
theorem sh1 : shOf Try.prog 3 = some sB := Rsh.sh1
theorem sh2 : shOf Try.prog 26 = some sC := Rsh.sh2
theorem boolT : Try.prog.underlying 4 = some .bool := Rsh.boolT
theorem okAll : Alls (Good1 7) xsAll := by
  unfold xsAll
  exact (Alls.append (Alls.append (Alls.append (Alls.append (Alls.append (Alls.append (Alls.append (Alls.append (Alls.append (Alls.append (Alls.append (Alls.append (Alls.append (Alls.append (Alls.append ok11 ok12) ok13) ok14) ok21) ok22) ok23) ok24) ok31) ok32) ok33) ok34) ok41) ok42) ok43) ok44)
theorem lf0 : ∀ rho ok, @badX (enOf ib0 rho ok) xb0 (callL Try.prog Gi0 (@runF (enOf ib0 rho ok) Try.prog Gi0 100000) 0 7 (symAs shs 0 0 ib0) (symH shs 0 0 ib0) (nls shs) okK) ⟨[], [], false⟩ = [] := fun rho ok => by kernel_rfl
theorem inv0 {w : World} {Ls : Nat → Nat → Nat → Int} {vs : List Value} {ns : List Int} (hv : ShsOk Try.prog w Ls shs 0 vs ns) (hx : NotIn xsAll ns) (h : InB ib0 ns) : Calls Try.prog 7 vs.toArray w fun e w' => e = .returned (.bool true) ∧ Below w.heap.size w w' :=
  plain_lawX mo nogo lf0 hv h.ind (con0 hx h.ind).2 (con0 hx h.ind).1 rfl rfl
theorem lf1 : ∀ rho ok, @badX (enOf ib1 rho ok) xb1 (callL Try.prog Gi1 (@runF (enOf ib1 rho ok) Try.prog Gi1 100000) 0 7 (symAs shs 0 0 ib1) (symH shs 0 0 ib1) (nls shs) okK) ⟨[], [], false⟩ = [] := fun rho ok => by kernel_rfl
theorem inv1 {w : World} {Ls : Nat → Nat → Nat → Int} {vs : List Value} {ns : List Int} (hv : ShsOk Try.prog w Ls shs 0 vs ns) (hx : NotIn xsAll ns) (h : InB ib1 ns) : Calls Try.prog 7 vs.toArray w fun e w' => e = .returned (.bool true) ∧ Below w.heap.size w w' :=
  plain_lawX mo nogo lf1 hv h.ind (con1 hx h.ind).2 (con1 hx h.ind).1 rfl rfl
theorem lf2 : ∀ rho ok, @badX (enOf ib2 rho ok) xb2 (callL Try.prog Gi2 (@runF (enOf ib2 rho ok) Try.prog Gi2 100000) 0 7 (symAs shs 0 0 ib2) (symH shs 0 0 ib2) (nls shs) okK) ⟨[], [], false⟩ = [] := fun rho ok => by kernel_rfl
theorem inv2 {w : World} {Ls : Nat → Nat → Nat → Int} {vs : List Value} {ns : List Int} (hv : ShsOk Try.prog w Ls shs 0 vs ns) (hx : NotIn xsAll ns) (h : InB ib2 ns) : Calls Try.prog 7 vs.toArray w fun e w' => e = .returned (.bool true) ∧ Below w.heap.size w w' :=
  plain_lawX mo nogo lf2 hv h.ind (con2 hx h.ind).2 (con2 hx h.ind).1 rfl rfl
theorem lf3 : ∀ rho ok, @badX (enOf ib3 rho ok) xb3 (callL Try.prog Gi3 (@runF (enOf ib3 rho ok) Try.prog Gi3 100000) 0 7 (symAs shs 0 0 ib3) (symH shs 0 0 ib3) (nls shs) okK) ⟨[], [], false⟩ = [] := fun rho ok => by kernel_rfl
theorem inv3 {w : World} {Ls : Nat → Nat → Nat → Int} {vs : List Value} {ns : List Int} (hv : ShsOk Try.prog w Ls shs 0 vs ns) (hx : NotIn xsAll ns) (h : InB ib3 ns) : Calls Try.prog 7 vs.toArray w fun e w' => e = .returned (.bool true) ∧ Below w.heap.size w w' :=
  plain_lawX mo nogo lf3 hv h.ind (con3 hx h.ind).2 (con3 hx h.ind).1 rfl rfl
theorem lf4 : ∀ rho ok, @badX (enOf ib4 rho ok) xb4 (callL Try.prog Gi4 (@runF (enOf ib4 rho ok) Try.prog Gi4 100000) 0 7 (symAs shs 0 0 ib4) (symH shs 0 0 ib4) (nls shs) okK) ⟨[], [], false⟩ = [] := fun rho ok => by kernel_rfl
theorem inv4 {w : World} {Ls : Nat → Nat → Nat → Int} {vs : List Value} {ns : List Int} (hv : ShsOk Try.prog w Ls shs 0 vs ns) (hx : NotIn xsAll ns) (h : InB ib4 ns) : Calls Try.prog 7 vs.toArray w fun e w' => e = .returned (.bool true) ∧ Below w.heap.size w w' :=
  plain_lawX mo nogo lf4 hv h.ind (con4 hx h.ind).2 (con4 hx h.ind).1 rfl rfl
theorem lf5 : ∀ rho ok, @badX (enOf ib5 rho ok) xb5 (callL Try.prog Gi5 (@runF (enOf ib5 rho ok) Try.prog Gi5 100000) 0 7 (symAs shs 0 0 ib5) (symH shs 0 0 ib5) (nls shs) okK) ⟨[], [], false⟩ = [] := fun rho ok => by kernel_rfl
theorem inv5 {w : World} {Ls : Nat → Nat → Nat → Int} {vs : List Value} {ns : List Int} (hv : ShsOk Try.prog w Ls shs 0 vs ns) (hx : NotIn xsAll ns) (h : InB ib5 ns) : Calls Try.prog 7 vs.toArray w fun e w' => e = .returned (.bool true) ∧ Below w.heap.size w w' :=
  plain_lawX mo nogo lf5 hv h.ind (con5 hx h.ind).2 (con5 hx h.ind).1 rfl rfl
theorem lf6 : ∀ rho ok, @badX (enOf ib6 rho ok) xb6 (callL Try.prog Gi6 (@runF (enOf ib6 rho ok) Try.prog Gi6 100000) 0 7 (symAs shs 0 0 ib6) (symH shs 0 0 ib6) (nls shs) okK) ⟨[], [], false⟩ = [] := fun rho ok => by kernel_rfl
theorem inv6 {w : World} {Ls : Nat → Nat → Nat → Int} {vs : List Value} {ns : List Int} (hv : ShsOk Try.prog w Ls shs 0 vs ns) (hx : NotIn xsAll ns) (h : InB ib6 ns) : Calls Try.prog 7 vs.toArray w fun e w' => e = .returned (.bool true) ∧ Below w.heap.size w w' :=
  plain_lawX mo nogo lf6 hv h.ind (con6 hx h.ind).2 (con6 hx h.ind).1 rfl rfl
theorem lf7 : ∀ rho ok, @badX (enOf ib7 rho ok) xb7 (callL Try.prog Gi7 (@runF (enOf ib7 rho ok) Try.prog Gi7 100000) 0 7 (symAs shs 0 0 ib7) (symH shs 0 0 ib7) (nls shs) okK) ⟨[], [], false⟩ = [] := fun rho ok => by kernel_rfl
theorem inv7 {w : World} {Ls : Nat → Nat → Nat → Int} {vs : List Value} {ns : List Int} (hv : ShsOk Try.prog w Ls shs 0 vs ns) (hx : NotIn xsAll ns) (h : InB ib7 ns) : Calls Try.prog 7 vs.toArray w fun e w' => e = .returned (.bool true) ∧ Below w.heap.size w w' :=
  plain_lawX mo nogo lf7 hv h.ind (con7 hx h.ind).2 (con7 hx h.ind).1 rfl rfl
theorem lf8 : ∀ rho ok, @badX (enOf ib8 rho ok) xb8 (callL Try.prog Gi8 (@runF (enOf ib8 rho ok) Try.prog Gi8 100000) 0 7 (symAs shs 0 0 ib8) (symH shs 0 0 ib8) (nls shs) okK) ⟨[], [], false⟩ = [] := fun rho ok => by kernel_rfl
theorem inv8 {w : World} {Ls : Nat → Nat → Nat → Int} {vs : List Value} {ns : List Int} (hv : ShsOk Try.prog w Ls shs 0 vs ns) (hx : NotIn xsAll ns) (h : InB ib8 ns) : Calls Try.prog 7 vs.toArray w fun e w' => e = .returned (.bool true) ∧ Below w.heap.size w w' :=
  plain_lawX mo nogo lf8 hv h.ind (con8 hx h.ind).2 (con8 hx h.ind).1 rfl rfl
theorem lf9 : ∀ rho ok, @badX (enOf ib9 rho ok) xb9 (callL Try.prog Gi9 (@runF (enOf ib9 rho ok) Try.prog Gi9 100000) 0 7 (symAs shs 0 0 ib9) (symH shs 0 0 ib9) (nls shs) okK) ⟨[], [], false⟩ = [] := fun rho ok => by kernel_rfl
theorem inv9 {w : World} {Ls : Nat → Nat → Nat → Int} {vs : List Value} {ns : List Int} (hv : ShsOk Try.prog w Ls shs 0 vs ns) (hx : NotIn xsAll ns) (h : InB ib9 ns) : Calls Try.prog 7 vs.toArray w fun e w' => e = .returned (.bool true) ∧ Below w.heap.size w w' :=
  plain_lawX mo nogo lf9 hv h.ind (con9 hx h.ind).2 (con9 hx h.ind).1 rfl rfl
theorem lf10 : ∀ rho ok, @badX (enOf ib10 rho ok) xb10 (callL Try.prog Gi10 (@runF (enOf ib10 rho ok) Try.prog Gi10 100000) 0 7 (symAs shs 0 0 ib10) (symH shs 0 0 ib10) (nls shs) okK) ⟨[], [], false⟩ = [] := fun rho ok => by kernel_rfl
theorem inv10 {w : World} {Ls : Nat → Nat → Nat → Int} {vs : List Value} {ns : List Int} (hv : ShsOk Try.prog w Ls shs 0 vs ns) (hx : NotIn xsAll ns) (h : InB ib10 ns) : Calls Try.prog 7 vs.toArray w fun e w' => e = .returned (.bool true) ∧ Below w.heap.size w w' :=
  plain_lawX mo nogo lf10 hv h.ind (con10 hx h.ind).2 (con10 hx h.ind).1 rfl rfl
theorem lf11 : ∀ rho ok, @badX (enOf ib11 rho ok) xb11 (callL Try.prog Gi11 (@runF (enOf ib11 rho ok) Try.prog Gi11 100000) 0 7 (symAs shs 0 0 ib11) (symH shs 0 0 ib11) (nls shs) okK) ⟨[], [], false⟩ = [] := fun rho ok => by kernel_rfl
theorem inv11 {w : World} {Ls : Nat → Nat → Nat → Int} {vs : List Value} {ns : List Int} (hv : ShsOk Try.prog w Ls shs 0 vs ns) (hx : NotIn xsAll ns) (h : InB ib11 ns) : Calls Try.prog 7 vs.toArray w fun e w' => e = .returned (.bool true) ∧ Below w.heap.size w w' :=
  plain_lawX mo nogo lf11 hv h.ind (con11 hx h.ind).2 (con11 hx h.ind).1 rfl rfl
theorem lf12 : ∀ rho ok, @badX (enOf ib12 rho ok) xb12 (callL Try.prog Gi12 (@runF (enOf ib12 rho ok) Try.prog Gi12 100000) 0 7 (symAs shs 0 0 ib12) (symH shs 0 0 ib12) (nls shs) okK) ⟨[], [], false⟩ = [] := fun rho ok => by kernel_rfl
theorem inv12 {w : World} {Ls : Nat → Nat → Nat → Int} {vs : List Value} {ns : List Int} (hv : ShsOk Try.prog w Ls shs 0 vs ns) (hx : NotIn xsAll ns) (h : InB ib12 ns) : Calls Try.prog 7 vs.toArray w fun e w' => e = .returned (.bool true) ∧ Below w.heap.size w w' :=
  plain_lawX mo nogo lf12 hv h.ind (con12 hx h.ind).2 (con12 hx h.ind).1 rfl rfl
theorem lf13 : ∀ rho ok, @badX (enOf ib13 rho ok) xb13 (callL Try.prog Gi13 (@runF (enOf ib13 rho ok) Try.prog Gi13 100000) 0 7 (symAs shs 0 0 ib13) (symH shs 0 0 ib13) (nls shs) okK) ⟨[], [], false⟩ = [] := fun rho ok => by kernel_rfl
theorem inv13 {w : World} {Ls : Nat → Nat → Nat → Int} {vs : List Value} {ns : List Int} (hv : ShsOk Try.prog w Ls shs 0 vs ns) (hx : NotIn xsAll ns) (h : InB ib13 ns) : Calls Try.prog 7 vs.toArray w fun e w' => e = .returned (.bool true) ∧ Below w.heap.size w w' :=
  plain_lawX mo nogo lf13 hv h.ind (con13 hx h.ind).2 (con13 hx h.ind).1 rfl rfl
theorem lf14 : ∀ rho ok, @badX (enOf ib14 rho ok) xb14 (callL Try.prog Gi14 (@runF (enOf ib14 rho ok) Try.prog Gi14 100000) 0 7 (symAs shs 0 0 ib14) (symH shs 0 0 ib14) (nls shs) okK) ⟨[], [], false⟩ = [] := fun rho ok => by kernel_rfl
theorem inv14 {w : World} {Ls : Nat → Nat → Nat → Int} {vs : List Value} {ns : List Int} (hv : ShsOk Try.prog w Ls shs 0 vs ns) (hx : NotIn xsAll ns) (h : InB ib14 ns) : Calls Try.prog 7 vs.toArray w fun e w' => e = .returned (.bool true) ∧ Below w.heap.size w w' :=
  plain_lawX mo nogo lf14 hv h.ind (con14 hx h.ind).2 (con14 hx h.ind).1 rfl rfl
theorem lf15 : ∀ rho ok, @badX (enOf ib15 rho ok) xb15 (callL Try.prog Gi15 (@runF (enOf ib15 rho ok) Try.prog Gi15 100000) 0 7 (symAs shs 0 0 ib15) (symH shs 0 0 ib15) (nls shs) okK) ⟨[], [], false⟩ = [] := fun rho ok => by kernel_rfl
theorem inv15 {w : World} {Ls : Nat → Nat → Nat → Int} {vs : List Value} {ns : List Int} (hv : ShsOk Try.prog w Ls shs 0 vs ns) (hx : NotIn xsAll ns) (h : InB ib15 ns) : Calls Try.prog 7 vs.toArray w fun e w' => e = .returned (.bool true) ∧ Below w.heap.size w w' :=
  plain_lawX mo nogo lf15 hv h.ind (con15 hx h.ind).2 (con15 hx h.ind).1 rfl rfl
theorem lf16 : ∀ rho ok, @badX (enOf ib16 rho ok) xb16 (callL Try.prog Gi16 (@runF (enOf ib16 rho ok) Try.prog Gi16 100000) 0 7 (symAs shs 0 0 ib16) (symH shs 0 0 ib16) (nls shs) okK) ⟨[], [], false⟩ = [] := fun rho ok => by kernel_rfl
theorem inv16 {w : World} {Ls : Nat → Nat → Nat → Int} {vs : List Value} {ns : List Int} (hv : ShsOk Try.prog w Ls shs 0 vs ns) (hx : NotIn xsAll ns) (h : InB ib16 ns) : Calls Try.prog 7 vs.toArray w fun e w' => e = .returned (.bool true) ∧ Below w.heap.size w w' :=
  plain_lawX mo nogo lf16 hv h.ind (con16 hx h.ind).2 (con16 hx h.ind).1 rfl rfl
theorem lf17 : ∀ rho ok, @badX (enOf ib17 rho ok) xb17 (callL Try.prog Gi17 (@runF (enOf ib17 rho ok) Try.prog Gi17 100000) 0 7 (symAs shs 0 0 ib17) (symH shs 0 0 ib17) (nls shs) okK) ⟨[], [], false⟩ = [] := fun rho ok => by kernel_rfl
theorem inv17 {w : World} {Ls : Nat → Nat → Nat → Int} {vs : List Value} {ns : List Int} (hv : ShsOk Try.prog w Ls shs 0 vs ns) (hx : NotIn xsAll ns) (h : InB ib17 ns) : Calls Try.prog 7 vs.toArray w fun e w' => e = .returned (.bool true) ∧ Below w.heap.size w w' :=
  plain_lawX mo nogo lf17 hv h.ind (con17 hx h.ind).2 (con17 hx h.ind).1 rfl rfl
theorem lf18 : ∀ rho ok, @badX (enOf ib18 rho ok) xb18 (callL Try.prog Gi18 (@runF (enOf ib18 rho ok) Try.prog Gi18 100000) 0 7 (symAs shs 0 0 ib18) (symH shs 0 0 ib18) (nls shs) okK) ⟨[], [], false⟩ = [] := fun rho ok => by kernel_rfl
theorem inv18 {w : World} {Ls : Nat → Nat → Nat → Int} {vs : List Value} {ns : List Int} (hv : ShsOk Try.prog w Ls shs 0 vs ns) (hx : NotIn xsAll ns) (h : InB ib18 ns) : Calls Try.prog 7 vs.toArray w fun e w' => e = .returned (.bool true) ∧ Below w.heap.size w w' :=
  plain_lawX mo nogo lf18 hv h.ind (con18 hx h.ind).2 (con18 hx h.ind).1 rfl rfl
theorem lf19 : ∀ rho ok, @badX (enOf ib19 rho ok) xb19 (callL Try.prog Gi19 (@runF (enOf ib19 rho ok) Try.prog Gi19 100000) 0 7 (symAs shs 0 0 ib19) (symH shs 0 0 ib19) (nls shs) okK) ⟨[], [], false⟩ = [] := fun rho ok => by kernel_rfl
theorem inv19 {w : World} {Ls : Nat → Nat → Nat → Int} {vs : List Value} {ns : List Int} (hv : ShsOk Try.prog w Ls shs 0 vs ns) (hx : NotIn xsAll ns) (h : InB ib19 ns) : Calls Try.prog 7 vs.toArray w fun e w' => e = .returned (.bool true) ∧ Below w.heap.size w w' :=
  plain_lawX mo nogo lf19 hv h.ind (con19 hx h.ind).2 (con19 hx h.ind).1 rfl rfl
theorem lf20 : ∀ rho ok, @badX (enOf ib20 rho ok) xb20 (callL Try.prog Gi20 (@runF (enOf ib20 rho ok) Try.prog Gi20 100000) 0 7 (symAs shs 0 0 ib20) (symH shs 0 0 ib20) (nls shs) okK) ⟨[], [], false⟩ = [] := fun rho ok => by kernel_rfl
theorem inv20 {w : World} {Ls : Nat → Nat → Nat → Int} {vs : List Value} {ns : List Int} (hv : ShsOk Try.prog w Ls shs 0 vs ns) (hx : NotIn xsAll ns) (h : InB ib20 ns) : Calls Try.prog 7 vs.toArray w fun e w' => e = .returned (.bool true) ∧ Below w.heap.size w w' :=
  plain_lawX mo nogo lf20 hv h.ind (con20 hx h.ind).2 (con20 hx h.ind).1 rfl rfl
theorem lf21 : ∀ rho ok, @badX (enOf ib21 rho ok) xb21 (callL Try.prog Gi21 (@runF (enOf ib21 rho ok) Try.prog Gi21 100000) 0 7 (symAs shs 0 0 ib21) (symH shs 0 0 ib21) (nls shs) okK) ⟨[], [], false⟩ = [] := fun rho ok => by kernel_rfl
theorem inv21 {w : World} {Ls : Nat → Nat → Nat → Int} {vs : List Value} {ns : List Int} (hv : ShsOk Try.prog w Ls shs 0 vs ns) (hx : NotIn xsAll ns) (h : InB ib21 ns) : Calls Try.prog 7 vs.toArray w fun e w' => e = .returned (.bool true) ∧ Below w.heap.size w w' :=
  plain_lawX mo nogo lf21 hv h.ind (con21 hx h.ind).2 (con21 hx h.ind).1 rfl rfl
theorem lf22 : ∀ rho ok, @badX (enOf ib22 rho ok) xb22 (callL Try.prog Gi22 (@runF (enOf ib22 rho ok) Try.prog Gi22 100000) 0 7 (symAs shs 0 0 ib22) (symH shs 0 0 ib22) (nls shs) okK) ⟨[], [], false⟩ = [] := fun rho ok => by kernel_rfl
theorem inv22 {w : World} {Ls : Nat → Nat → Nat → Int} {vs : List Value} {ns : List Int} (hv : ShsOk Try.prog w Ls shs 0 vs ns) (hx : NotIn xsAll ns) (h : InB ib22 ns) : Calls Try.prog 7 vs.toArray w fun e w' => e = .returned (.bool true) ∧ Below w.heap.size w w' :=
  plain_lawX mo nogo lf22 hv h.ind (con22 hx h.ind).2 (con22 hx h.ind).1 rfl rfl
theorem lf23 : ∀ rho ok, @badX (enOf ib23 rho ok) xb23 (callL Try.prog Gi23 (@runF (enOf ib23 rho ok) Try.prog Gi23 100000) 0 7 (symAs shs 0 0 ib23) (symH shs 0 0 ib23) (nls shs) okK) ⟨[], [], false⟩ = [] := fun rho ok => by kernel_rfl
theorem inv23 {w : World} {Ls : Nat → Nat → Nat → Int} {vs : List Value} {ns : List Int} (hv : ShsOk Try.prog w Ls shs 0 vs ns) (hx : NotIn xsAll ns) (h : InB ib23 ns) : Calls Try.prog 7 vs.toArray w fun e w' => e = .returned (.bool true) ∧ Below w.heap.size w w' :=
  plain_lawX mo nogo lf23 hv h.ind (con23 hx h.ind).2 (con23 hx h.ind).1 rfl rfl
theorem lf24 : ∀ rho ok, @badX (enOf ib24 rho ok) xb24 (callL Try.prog Gi24 (@runF (enOf ib24 rho ok) Try.prog Gi24 100000) 0 7 (symAs shs 0 0 ib24) (symH shs 0 0 ib24) (nls shs) okK) ⟨[], [], false⟩ = [] := fun rho ok => by kernel_rfl
theorem inv24 {w : World} {Ls : Nat → Nat → Nat → Int} {vs : List Value} {ns : List Int} (hv : ShsOk Try.prog w Ls shs 0 vs ns) (hx : NotIn xsAll ns) (h : InB ib24 ns) : Calls Try.prog 7 vs.toArray w fun e w' => e = .returned (.bool true) ∧ Below w.heap.size w w' :=
  plain_lawX mo nogo lf24 hv h.ind (con24 hx h.ind).2 (con24 hx h.ind).1 rfl rfl
theorem lf25 : ∀ rho ok, @badX (enOf ib25 rho ok) xb25 (callL Try.prog Gi25 (@runF (enOf ib25 rho ok) Try.prog Gi25 100000) 0 7 (symAs shs 0 0 ib25) (symH shs 0 0 ib25) (nls shs) okK) ⟨[], [], false⟩ = [] := fun rho ok => by kernel_rfl
theorem inv25 {w : World} {Ls : Nat → Nat → Nat → Int} {vs : List Value} {ns : List Int} (hv : ShsOk Try.prog w Ls shs 0 vs ns) (hx : NotIn xsAll ns) (h : InB ib25 ns) : Calls Try.prog 7 vs.toArray w fun e w' => e = .returned (.bool true) ∧ Below w.heap.size w w' :=
  plain_lawX mo nogo lf25 hv h.ind (con25 hx h.ind).2 (con25 hx h.ind).1 rfl rfl
theorem lf26 : ∀ rho ok, @badX (enOf ib26 rho ok) xb26 (callL Try.prog Gi26 (@runF (enOf ib26 rho ok) Try.prog Gi26 100000) 0 7 (symAs shs 0 0 ib26) (symH shs 0 0 ib26) (nls shs) okK) ⟨[], [], false⟩ = [] := fun rho ok => by kernel_rfl
theorem inv26 {w : World} {Ls : Nat → Nat → Nat → Int} {vs : List Value} {ns : List Int} (hv : ShsOk Try.prog w Ls shs 0 vs ns) (hx : NotIn xsAll ns) (h : InB ib26 ns) : Calls Try.prog 7 vs.toArray w fun e w' => e = .returned (.bool true) ∧ Below w.heap.size w w' :=
  plain_lawX mo nogo lf26 hv h.ind (con26 hx h.ind).2 (con26 hx h.ind).1 rfl rfl
theorem lf27 : ∀ rho ok, @badX (enOf ib27 rho ok) xb27 (callL Try.prog Gi27 (@runF (enOf ib27 rho ok) Try.prog Gi27 100000) 0 7 (symAs shs 0 0 ib27) (symH shs 0 0 ib27) (nls shs) okK) ⟨[], [], false⟩ = [] := fun rho ok => by kernel_rfl
theorem inv27 {w : World} {Ls : Nat → Nat → Nat → Int} {vs : List Value} {ns : List Int} (hv : ShsOk Try.prog w Ls shs 0 vs ns) (hx : NotIn xsAll ns) (h : InB ib27 ns) : Calls Try.prog 7 vs.toArray w fun e w' => e = .returned (.bool true) ∧ Below w.heap.size w w' :=
  plain_lawX mo nogo lf27 hv h.ind (con27 hx h.ind).2 (con27 hx h.ind).1 rfl rfl
theorem lf28 : ∀ rho ok, @badX (enOf ib28 rho ok) xb28 (callL Try.prog Gi28 (@runF (enOf ib28 rho ok) Try.prog Gi28 100000) 0 7 (symAs shs 0 0 ib28) (symH shs 0 0 ib28) (nls shs) okK) ⟨[], [], false⟩ = [] := fun rho ok => by kernel_rfl
theorem inv28 {w : World} {Ls : Nat → Nat → Nat → Int} {vs : List Value} {ns : List Int} (hv : ShsOk Try.prog w Ls shs 0 vs ns) (hx : NotIn xsAll ns) (h : InB ib28 ns) : Calls Try.prog 7 vs.toArray w fun e w' => e = .returned (.bool true) ∧ Below w.heap.size w w' :=
  plain_lawX mo nogo lf28 hv h.ind (con28 hx h.ind).2 (con28 hx h.ind).1 rfl rfl
theorem lf29 : ∀ rho ok, @badX (enOf ib29 rho ok) xb29 (callL Try.prog Gi29 (@runF (enOf ib29 rho ok) Try.prog Gi29 100000) 0 7 (symAs shs 0 0 ib29) (symH shs 0 0 ib29) (nls shs) okK) ⟨[], [], false⟩ = [] := fun rho ok => by kernel_rfl
theorem inv29 {w : World} {Ls : Nat → Nat → Nat → Int} {vs : List Value} {ns : List Int} (hv : ShsOk Try.prog w Ls shs 0 vs ns) (hx : NotIn xsAll ns) (h : InB ib29 ns) : Calls Try.prog 7 vs.toArray w fun e w' => e = .returned (.bool true) ∧ Below w.heap.size w w' :=
  plain_lawX mo nogo lf29 hv h.ind (con29 hx h.ind).2 (con29 hx h.ind).1 rfl rfl
theorem lf30 : ∀ rho ok, @badX (enOf ib30 rho ok) xb30 (callL Try.prog Gi30 (@runF (enOf ib30 rho ok) Try.prog Gi30 100000) 0 7 (symAs shs 0 0 ib30) (symH shs 0 0 ib30) (nls shs) okK) ⟨[], [], false⟩ = [] := fun rho ok => by kernel_rfl
theorem inv30 {w : World} {Ls : Nat → Nat → Nat → Int} {vs : List Value} {ns : List Int} (hv : ShsOk Try.prog w Ls shs 0 vs ns) (hx : NotIn xsAll ns) (h : InB ib30 ns) : Calls Try.prog 7 vs.toArray w fun e w' => e = .returned (.bool true) ∧ Below w.heap.size w w' :=
  plain_lawX mo nogo lf30 hv h.ind (con30 hx h.ind).2 (con30 hx h.ind).1 rfl rfl
theorem lf31 : ∀ rho ok, @badX (enOf ib31 rho ok) xb31 (callL Try.prog Gi31 (@runF (enOf ib31 rho ok) Try.prog Gi31 100000) 0 7 (symAs shs 0 0 ib31) (symH shs 0 0 ib31) (nls shs) okK) ⟨[], [], false⟩ = [] := fun rho ok => by kernel_rfl
theorem inv31 {w : World} {Ls : Nat → Nat → Nat → Int} {vs : List Value} {ns : List Int} (hv : ShsOk Try.prog w Ls shs 0 vs ns) (hx : NotIn xsAll ns) (h : InB ib31 ns) : Calls Try.prog 7 vs.toArray w fun e w' => e = .returned (.bool true) ∧ Below w.heap.size w w' :=
  plain_lawX mo nogo lf31 hv h.ind (con31 hx h.ind).2 (con31 hx h.ind).1 rfl rfl
theorem lf32 : ∀ rho ok, @badX (enOf ib32 rho ok) xb32 (callL Try.prog Gi32 (@runF (enOf ib32 rho ok) Try.prog Gi32 100000) 0 7 (symAs shs 0 0 ib32) (symH shs 0 0 ib32) (nls shs) okK) ⟨[], [], false⟩ = [] := fun rho ok => by kernel_rfl
theorem inv32 {w : World} {Ls : Nat → Nat → Nat → Int} {vs : List Value} {ns : List Int} (hv : ShsOk Try.prog w Ls shs 0 vs ns) (hx : NotIn xsAll ns) (h : InB ib32 ns) : Calls Try.prog 7 vs.toArray w fun e w' => e = .returned (.bool true) ∧ Below w.heap.size w w' :=
  plain_lawX mo nogo lf32 hv h.ind (con32 hx h.ind).2 (con32 hx h.ind).1 rfl rfl
theorem lf33 : ∀ rho ok, @badX (enOf ib33 rho ok) xb33 (callL Try.prog Gi33 (@runF (enOf ib33 rho ok) Try.prog Gi33 100000) 0 7 (symAs shs 0 0 ib33) (symH shs 0 0 ib33) (nls shs) okK) ⟨[], [], false⟩ = [] := fun rho ok => by kernel_rfl
theorem inv33 {w : World} {Ls : Nat → Nat → Nat → Int} {vs : List Value} {ns : List Int} (hv : ShsOk Try.prog w Ls shs 0 vs ns) (hx : NotIn xsAll ns) (h : InB ib33 ns) : Calls Try.prog 7 vs.toArray w fun e w' => e = .returned (.bool true) ∧ Below w.heap.size w w' :=
  plain_lawX mo nogo lf33 hv h.ind (con33 hx h.ind).2 (con33 hx h.ind).1 rfl rfl
theorem lf34 : ∀ rho ok, @badX (enOf ib34 rho ok) xb34 (callL Try.prog Gi34 (@runF (enOf ib34 rho ok) Try.prog Gi34 100000) 0 7 (symAs shs 0 0 ib34) (symH shs 0 0 ib34) (nls shs) okK) ⟨[], [], false⟩ = [] := fun rho ok => by kernel_rfl
theorem inv34 {w : World} {Ls : Nat → Nat → Nat → Int} {vs : List Value} {ns : List Int} (hv : ShsOk Try.prog w Ls shs 0 vs ns) (hx : NotIn xsAll ns) (h : InB ib34 ns) : Calls Try.prog 7 vs.toArray w fun e w' => e = .returned (.bool true) ∧ Below w.heap.size w w' :=
  plain_lawX mo nogo lf34 hv h.ind (con34 hx h.ind).2 (con34 hx h.ind).1 rfl rfl
theorem lf35 : ∀ rho ok, @badX (enOf ib35 rho ok) xb35 (callL Try.prog Gi35 (@runF (enOf ib35 rho ok) Try.prog Gi35 100000) 0 7 (symAs shs 0 0 ib35) (symH shs 0 0 ib35) (nls shs) okK) ⟨[], [], false⟩ = [] := fun rho ok => by kernel_rfl
theorem inv35 {w : World} {Ls : Nat → Nat → Nat → Int} {vs : List Value} {ns : List Int} (hv : ShsOk Try.prog w Ls shs 0 vs ns) (hx : NotIn xsAll ns) (h : InB ib35 ns) : Calls Try.prog 7 vs.toArray w fun e w' => e = .returned (.bool true) ∧ Below w.heap.size w w' :=
  plain_lawX mo nogo lf35 hv h.ind (con35 hx h.ind).2 (con35 hx h.ind).1 rfl rfl
theorem lf36 : ∀ rho ok, @badX (enOf ib36 rho ok) xb36 (callL Try.prog Gi36 (@runF (enOf ib36 rho ok) Try.prog Gi36 100000) 0 7 (symAs shs 0 0 ib36) (symH shs 0 0 ib36) (nls shs) okK) ⟨[], [], false⟩ = [] := fun rho ok => by kernel_rfl
theorem inv36 {w : World} {Ls : Nat → Nat → Nat → Int} {vs : List Value} {ns : List Int} (hv : ShsOk Try.prog w Ls shs 0 vs ns) (hx : NotIn xsAll ns) (h : InB ib36 ns) : Calls Try.prog 7 vs.toArray w fun e w' => e = .returned (.bool true) ∧ Below w.heap.size w w' :=
  plain_lawX mo nogo lf36 hv h.ind (con36 hx h.ind).2 (con36 hx h.ind).1 rfl rfl
theorem lf37 : ∀ rho ok, @badX (enOf ib37 rho ok) xb37 (callL Try.prog Gi37 (@runF (enOf ib37 rho ok) Try.prog Gi37 100000) 0 7 (symAs shs 0 0 ib37) (symH shs 0 0 ib37) (nls shs) okK) ⟨[], [], false⟩ = [] := fun rho ok => by kernel_rfl
theorem inv37 {w : World} {Ls : Nat → Nat → Nat → Int} {vs : List Value} {ns : List Int} (hv : ShsOk Try.prog w Ls shs 0 vs ns) (hx : NotIn xsAll ns) (h : InB ib37 ns) : Calls Try.prog 7 vs.toArray w fun e w' => e = .returned (.bool true) ∧ Below w.heap.size w w' :=
  plain_lawX mo nogo lf37 hv h.ind (con37 hx h.ind).2 (con37 hx h.ind).1 rfl rfl
theorem lf38 : ∀ rho ok, @badX (enOf ib38 rho ok) xb38 (callL Try.prog Gi38 (@runF (enOf ib38 rho ok) Try.prog Gi38 100000) 0 7 (symAs shs 0 0 ib38) (symH shs 0 0 ib38) (nls shs) okK) ⟨[], [], false⟩ = [] := fun rho ok => by kernel_rfl
theorem inv38 {w : World} {Ls : Nat → Nat → Nat → Int} {vs : List Value} {ns : List Int} (hv : ShsOk Try.prog w Ls shs 0 vs ns) (hx : NotIn xsAll ns) (h : InB ib38 ns) : Calls Try.prog 7 vs.toArray w fun e w' => e = .returned (.bool true) ∧ Below w.heap.size w w' :=
  plain_lawX mo nogo lf38 hv h.ind (con38 hx h.ind).2 (con38 hx h.ind).1 rfl rfl
theorem lf39 : ∀ rho ok, @badX (enOf ib39 rho ok) xb39 (callL Try.prog Gi39 (@runF (enOf ib39 rho ok) Try.prog Gi39 100000) 0 7 (symAs shs 0 0 ib39) (symH shs 0 0 ib39) (nls shs) okK) ⟨[], [], false⟩ = [] := fun rho ok => by kernel_rfl
theorem inv39 {w : World} {Ls : Nat → Nat → Nat → Int} {vs : List Value} {ns : List Int} (hv : ShsOk Try.prog w Ls shs 0 vs ns) (hx : NotIn xsAll ns) (h : InB ib39 ns) : Calls Try.prog 7 vs.toArray w fun e w' => e = .returned (.bool true) ∧ Below w.heap.size w w' :=
  plain_lawX mo nogo lf39 hv h.ind (con39 hx h.ind).2 (con39 hx h.ind).1 rfl rfl
theorem lf40 : ∀ rho ok, @badX (enOf ib40 rho ok) xb40 (callL Try.prog Gi40 (@runF (enOf ib40 rho ok) Try.prog Gi40 100000) 0 7 (symAs shs 0 0 ib40) (symH shs 0 0 ib40) (nls shs) okK) ⟨[], [], false⟩ = [] := fun rho ok => by kernel_rfl
theorem inv40 {w : World} {Ls : Nat → Nat → Nat → Int} {vs : List Value} {ns : List Int} (hv : ShsOk Try.prog w Ls shs 0 vs ns) (hx : NotIn xsAll ns) (h : InB ib40 ns) : Calls Try.prog 7 vs.toArray w fun e w' => e = .returned (.bool true) ∧ Below w.heap.size w w' :=
  plain_lawX mo nogo lf40 hv h.ind (con40 hx h.ind).2 (con40 hx h.ind).1 rfl rfl
theorem lf41 : ∀ rho ok, @badX (enOf ib41 rho ok) xb41 (callL Try.prog Gi41 (@runF (enOf ib41 rho ok) Try.prog Gi41 100000) 0 7 (symAs shs 0 0 ib41) (symH shs 0 0 ib41) (nls shs) okK) ⟨[], [], false⟩ = [] := fun rho ok => by kernel_rfl
theorem inv41 {w : World} {Ls : Nat → Nat → Nat → Int} {vs : List Value} {ns : List Int} (hv : ShsOk Try.prog w Ls shs 0 vs ns) (hx : NotIn xsAll ns) (h : InB ib41 ns) : Calls Try.prog 7 vs.toArray w fun e w' => e = .returned (.bool true) ∧ Below w.heap.size w w' :=
  plain_lawX mo nogo lf41 hv h.ind (con41 hx h.ind).2 (con41 hx h.ind).1 rfl rfl
theorem lf42 : ∀ rho ok, @badX (enOf ib42 rho ok) xb42 (callL Try.prog Gi42 (@runF (enOf ib42 rho ok) Try.prog Gi42 100000) 0 7 (symAs shs 0 0 ib42) (symH shs 0 0 ib42) (nls shs) okK) ⟨[], [], false⟩ = [] := fun rho ok => by kernel_rfl
theorem inv42 {w : World} {Ls : Nat → Nat → Nat → Int} {vs : List Value} {ns : List Int} (hv : ShsOk Try.prog w Ls shs 0 vs ns) (hx : NotIn xsAll ns) (h : InB ib42 ns) : Calls Try.prog 7 vs.toArray w fun e w' => e = .returned (.bool true) ∧ Below w.heap.size w w' :=
  plain_lawX mo nogo lf42 hv h.ind (con42 hx h.ind).2 (con42 hx h.ind).1 rfl rfl
theorem lf43 : ∀ rho ok, @badX (enOf ib43 rho ok) xb43 (callL Try.prog Gi43 (@runF (enOf ib43 rho ok) Try.prog Gi43 100000) 0 7 (symAs shs 0 0 ib43) (symH shs 0 0 ib43) (nls shs) okK) ⟨[], [], false⟩ = [] := fun rho ok => by kernel_rfl
theorem inv43 {w : World} {Ls : Nat → Nat → Nat → Int} {vs : List Value} {ns : List Int} (hv : ShsOk Try.prog w Ls shs 0 vs ns) (hx : NotIn xsAll ns) (h : InB ib43 ns) : Calls Try.prog 7 vs.toArray w fun e w' => e = .returned (.bool true) ∧ Below w.heap.size w w' :=
  plain_lawX mo nogo lf43 hv h.ind (con43 hx h.ind).2 (con43 hx h.ind).1 rfl rfl
theorem lf44 : ∀ rho ok, @badX (enOf ib44 rho ok) xb44 (callL Try.prog Gi44 (@runF (enOf ib44 rho ok) Try.prog Gi44 100000) 0 7 (symAs shs 0 0 ib44) (symH shs 0 0 ib44) (nls shs) okK) ⟨[], [], false⟩ = [] := fun rho ok => by kernel_rfl
theorem inv44 {w : World} {Ls : Nat → Nat → Nat → Int} {vs : List Value} {ns : List Int} (hv : ShsOk Try.prog w Ls shs 0 vs ns) (hx : NotIn xsAll ns) (h : InB ib44 ns) : Calls Try.prog 7 vs.toArray w fun e w' => e = .returned (.bool true) ∧ Below w.heap.size w w' :=
  plain_lawX mo nogo lf44 hv h.ind (con44 hx h.ind).2 (con44 hx h.ind).1 rfl rfl
theorem lf45 : ∀ rho ok, @badX (enOf ib45 rho ok) xb45 (callL Try.prog Gi45 (@runF (enOf ib45 rho ok) Try.prog Gi45 100000) 0 7 (symAs shs 0 0 ib45) (symH shs 0 0 ib45) (nls shs) okK) ⟨[], [], false⟩ = [] := fun rho ok => by kernel_rfl
theorem inv45 {w : World} {Ls : Nat → Nat → Nat → Int} {vs : List Value} {ns : List Int} (hv : ShsOk Try.prog w Ls shs 0 vs ns) (hx : NotIn xsAll ns) (h : InB ib45 ns) : Calls Try.prog 7 vs.toArray w fun e w' => e = .returned (.bool true) ∧ Below w.heap.size w w' :=
  plain_lawX mo nogo lf45 hv h.ind (con45 hx h.ind).2 (con45 hx h.ind).1 rfl rfl
theorem lf46 : ∀ rho ok, @badX (enOf ib46 rho ok) xb46 (callL Try.prog Gi46 (@runF (enOf ib46 rho ok) Try.prog Gi46 100000) 0 7 (symAs shs 0 0 ib46) (symH shs 0 0 ib46) (nls shs) okK) ⟨[], [], false⟩ = [] := fun rho ok => by kernel_rfl
theorem inv46 {w : World} {Ls : Nat → Nat → Nat → Int} {vs : List Value} {ns : List Int} (hv : ShsOk Try.prog w Ls shs 0 vs ns) (hx : NotIn xsAll ns) (h : InB ib46 ns) : Calls Try.prog 7 vs.toArray w fun e w' => e = .returned (.bool true) ∧ Below w.heap.size w w' :=
  plain_lawX mo nogo lf46 hv h.ind (con46 hx h.ind).2 (con46 hx h.ind).1 rfl rfl
theorem lf47 : ∀ rho ok, @badX (enOf ib47 rho ok) xb47 (callL Try.prog Gi47 (@runF (enOf ib47 rho ok) Try.prog Gi47 100000) 0 7 (symAs shs 0 0 ib47) (symH shs 0 0 ib47) (nls shs) okK) ⟨[], [], false⟩ = [] := fun rho ok => by kernel_rfl
theorem inv47 {w : World} {Ls : Nat → Nat → Nat → Int} {vs : List Value} {ns : List Int} (hv : ShsOk Try.prog w Ls shs 0 vs ns) (hx : NotIn xsAll ns) (h : InB ib47 ns) : Calls Try.prog 7 vs.toArray w fun e w' => e = .returned (.bool true) ∧ Below w.heap.size w w' :=
  plain_lawX mo nogo lf47 hv h.ind (con47 hx h.ind).2 (con47 hx h.ind).1 rfl rfl
theorem lf48 : ∀ rho ok, @badX (enOf ib48 rho ok) xb48 (callL Try.prog Gi48 (@runF (enOf ib48 rho ok) Try.prog Gi48 100000) 0 7 (symAs shs 0 0 ib48) (symH shs 0 0 ib48) (nls shs) okK) ⟨[], [], false⟩ = [] := fun rho ok => by kernel_rfl
theorem inv48 {w : World} {Ls : Nat → Nat → Nat → Int} {vs : List Value} {ns : List Int} (hv : ShsOk Try.prog w Ls shs 0 vs ns) (hx : NotIn xsAll ns) (h : InB ib48 ns) : Calls Try.prog 7 vs.toArray w fun e w' => e = .returned (.bool true) ∧ Below w.heap.size w w' :=
  plain_lawX mo nogo lf48 hv h.ind (con48 hx h.ind).2 (con48 hx h.ind).1 rfl rfl
theorem lf49 : ∀ rho ok, @badX (enOf ib49 rho ok) xb49 (callL Try.prog Gi49 (@runF (enOf ib49 rho ok) Try.prog Gi49 100000) 0 7 (symAs shs 0 0 ib49) (symH shs 0 0 ib49) (nls shs) okK) ⟨[], [], false⟩ = [] := fun rho ok => by kernel_rfl
theorem inv49 {w : World} {Ls : Nat → Nat → Nat → Int} {vs : List Value} {ns : List Int} (hv : ShsOk Try.prog w Ls shs 0 vs ns) (hx : NotIn xsAll ns) (h : InB ib49 ns) : Calls Try.prog 7 vs.toArray w fun e w' => e = .returned (.bool true) ∧ Below w.heap.size w w' :=
  plain_lawX mo nogo lf49 hv h.ind (con49 hx h.ind).2 (con49 hx h.ind).1 rfl rfl
theorem lf50 : ∀ rho ok, @badX (enOf ib50 rho ok) xb50 (callL Try.prog Gi50 (@runF (enOf ib50 rho ok) Try.prog Gi50 100000) 0 7 (symAs shs 0 0 ib50) (symH shs 0 0 ib50) (nls shs) okK) ⟨[], [], false⟩ = [] := fun rho ok => by kernel_rfl
theorem inv50 {w : World} {Ls : Nat → Nat → Nat → Int} {vs : List Value} {ns : List Int} (hv : ShsOk Try.prog w Ls shs 0 vs ns) (hx : NotIn xsAll ns) (h : InB ib50 ns) : Calls Try.prog 7 vs.toArray w fun e w' => e = .returned (.bool true) ∧ Below w.heap.size w w' :=
  plain_lawX mo nogo lf50 hv h.ind (con50 hx h.ind).2 (con50 hx h.ind).1 rfl rfl
theorem lf51 : ∀ rho ok, @badX (enOf ib51 rho ok) xb51 (callL Try.prog Gi51 (@runF (enOf ib51 rho ok) Try.prog Gi51 100000) 0 7 (symAs shs 0 0 ib51) (symH shs 0 0 ib51) (nls shs) okK) ⟨[], [], false⟩ = [] := fun rho ok => by kernel_rfl
theorem inv51 {w : World} {Ls : Nat → Nat → Nat → Int} {vs : List Value} {ns : List Int} (hv : ShsOk Try.prog w Ls shs 0 vs ns) (hx : NotIn xsAll ns) (h : InB ib51 ns) : Calls Try.prog 7 vs.toArray w fun e w' => e = .returned (.bool true) ∧ Below w.heap.size w w' :=
  plain_lawX mo nogo lf51 hv h.ind (con51 hx h.ind).2 (con51 hx h.ind).1 rfl rfl
theorem walk {w : World} {Ls : Nat → Nat → Nat → Int} {vs : List Value} {ns : List Int} (hv : ShsOk Try.prog w Ls shs 0 vs ns) : Calls Try.prog 7 vs.toArray w fun e w' => e = .returned (.bool true) ∧ Below w.heap.size w w' := by
  rcases split_of (xs := xsAll) hv.full (by decide) with hx | ⟨b, hb, hin⟩
  · rcases covers ns hv.full with h | h | h | h | h | h | h | h | h | h | h | h | h | h | h | h | h | h | h | h | h | h | h | h | h | h | h | h | h | h | h | h | h | h | h | h | h | h | h | h | h | h | h | h | h | h | h | h | h | h | h | h | h
    · exact inv0 hv hx h
    · exact inv1 hv hx h
    · exact inv2 hv hx h
    · exact inv3 hv hx h
    · exact inv4 hv hx h
    · exact inv5 hv hx h
    · exact inv6 hv hx h
    · exact inv7 hv hx h
    · exact inv8 hv hx h
    · exact inv9 hv hx h
    · exact inv10 hv hx h
    · exact inv11 hv hx h
    · exact inv12 hv hx h
    · exact inv13 hv hx h
    · exact inv14 hv hx h
    · exact inv15 hv hx h
    · exact inv16 hv hx h
    · exact inv17 hv hx h
    · exact inv18 hv hx h
    · exact inv19 hv hx h
    · exact inv20 hv hx h
    · exact inv21 hv hx h
    · exact inv22 hv hx h
    · exact inv23 hv hx h
    · exact inv24 hv hx h
    · exact inv25 hv hx h
    · exact inv26 hv hx h
    · exact inv27 hv hx h
    · exact inv28 hv hx h
    · exact inv29 hv hx h
    · exact inv30 hv hx h
    · exact inv31 hv hx h
    · exact inv32 hv hx h
    · exact inv33 hv hx h
    · exact inv34 hv hx h
    · exact inv35 hv hx h
    · exact inv36 hv hx h
    · exact inv37 hv hx h
    · exact inv38 hv hx h
    · exact inv39 hv hx h
    · exact inv40 hv hx h
    · exact inv41 hv hx h
    · exact inv42 hv hx h
    · exact inv43 hv hx h
    · exact inv44 hv hx h
    · exact inv45 hv hx h
    · exact inv46 hv hx h
    · exact inv47 hv hx h
    · exact inv48 hv hx h
    · exact inv49 hv hx h
    · exact inv50 hv hx h
    · exact inv51 hv hx h
    · exact h.elim
  · have h7 := len7
    rw [List.all_eq_true] at h7
    have hl : b.length = 7 := Nat.eq_of_beq_eq_true (h7 b hb)
    rw [hl] at hin
    obtain ⟨G, es, hG, hC, hB⟩ := okAll.get b hb
    obtain ⟨e, he, hin'⟩ := hC ns hin
    have hll : Nat.ble (b ++ e).length 1000 = true := by
      rw [← hin'.len, hin.len, List.length_append, hl]; rfl
    exact plain_law mo nogo (fun rho ok => hG (enOf (b ++ e) rho ok)) (hB.get e he) hv hin' hll rfl
end Go.Proofs.Ytigilihpofafoaa.ReplStaysP
