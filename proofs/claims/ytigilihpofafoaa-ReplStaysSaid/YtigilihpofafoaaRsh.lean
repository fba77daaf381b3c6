/- Replacement states, a way and a set of ways: the boxes; where no valid state is, Right answers false (hers and the model's). -/
import Derived.Test.YtigilihpofafoaaRm
namespace Go.Proofs.Ytigilihpofafoaa.Rsh
open Go Go.RowKit Loc Rm
set_option linter.unusedVariables false
def witness : Array Value := #[.agg #[.int .u8 0, .int .i64 0, .agg #[.int .u8 0, .int .u8 0, .int .u8 0, .int .u8 0], .int .u8 0], .int .i64 0, .int .u64 0]
def sA : Sh := .agg [.int .u8, .int .i64, .int .u8, .int .u8, .int .u8, .int .u8, .int .u8]
def sB : Sh := .one (.int .i64)
def sC : Sh := .one (.int .u64)
theorem sh0 : shOf Try.prog 24 = some sA := by kernel_rfl
theorem sh1 : shOf Try.prog 3 = some sB := by kernel_rfl
theorem sh2 : shOf Try.prog 26 = some sC := by kernel_rfl
theorem boolT : Try.prog.underlying 4 = some .bool := by kernel_rfl
def shs : List Sh := [sA, sB, sC]
def ext : List (Int × Int) := [(-9223372036854775808, 9223372036854775807), (0, 18446744073709551615)]
def Good1 (f : FuncId) (b : List (Int × Int)) : Prop := ∃ G es, (∀ E : En, @ConOk E Try.prog (@Fin E) G) ∧ (∀ ns, InD (b ++ ext) ns → ∃ e ∈ es, InD (b ++ e) ns) ∧ Alls (fun e => BoxOk Try.prog G f 100000 shs (b ++ e)) es
theorem Alls.of {α : Type} {p : α → Prop} : ∀ {l : List α}, (∀ a ∈ l, p a) → Alls p l
  | [], _ => trivial
  | a :: l, h => ⟨h a (by simp), Alls.of fun b hb => h b (by simp [hb])⟩
theorem InD.split : ∀ {a b : List (Int × Int)} {ns : List Int}, InD (a ++ b) ns → ∃ n1 n2, ns = n1 ++ n2 ∧ InD a n1 ∧ InD b n2
  | [], b, ns, h => ⟨[], ns, rfl, rfl, h⟩
  | r :: a, b, ns, ⟨n, ns', e, h1, h2, h3⟩ => by
    obtain ⟨n1, n2, e2, k1, k2⟩ := InD.split h3
    subst e; subst e2
    exact ⟨n :: n1, n2, rfl, ⟨n, n1, rfl, h1, h2, k1⟩, k2⟩
theorem Alls.map {α β : Type} {p : β → Prop} {g : α → β} : ∀ {l : List α}, Alls p (l.map g) → Alls (fun a => p (g a)) l
  | [], _ => trivial
  | a :: l, ⟨h1, h2⟩ => ⟨h1, Alls.map h2⟩
theorem badX_nil [En] {xs : List (List (Int × Int))} {x : Out} {pt : Pth} (h : badX xs x pt = []) : ∀ p ∈ badX xs x pt, ¬ FactsOk p.2 := by rw [h]; intro p hp; cases hp
def es1 : List (List (Int × Int)) := [[(-9223372036854775808, -1), (0, 18446744073709551615)], [(0, 0), (0, 18446744073709551615)], [(1, 9223372036854775807), (0, 18446744073709551615)]]
theorem cov1 (b : List (Int × Int)) (ns : List Int) (h : InD (b ++ ext) ns) : ∃ e ∈ es1, InD (b ++ e) ns := by
  obtain ⟨n1, n2, rfl, h1, h2⟩ := InD.split h
  obtain ⟨a, _, rfl, a1, a2, m, _, rfl, m1, m2, rfl⟩ := h2
  simp only at a1 a2 m1 m2
  by_cases q0 : a ≤ -1
  · exact ⟨[(-9223372036854775808, -1), (0, 18446744073709551615)], by simp [es1], h1.append (InB.ind (by simp only [InB, and_true]; omega))⟩
  by_cases q1 : a = 0
  · exact ⟨[(0, 0), (0, 18446744073709551615)], by simp [es1], h1.append (InB.ind (by simp only [InB, and_true]; omega))⟩
  exact ⟨[(1, 9223372036854775807), (0, 18446744073709551615)], by simp [es1], h1.append (InB.ind (by simp only [InB, and_true]; omega))⟩
def es2 : List (List (Int × Int)) := [[(-9223372036854775808, -1), (0, 18446744073709551615)], [(0, 0), (0, 18446744073709551615)], [(1, 1), (0, 18446744073709551615)], [(2, 9223372036854775807), (0, 18446744073709551615)]]
theorem cov2 (b : List (Int × Int)) (ns : List Int) (h : InD (b ++ ext) ns) : ∃ e ∈ es2, InD (b ++ e) ns := by
  obtain ⟨n1, n2, rfl, h1, h2⟩ := InD.split h
  obtain ⟨a, _, rfl, a1, a2, m, _, rfl, m1, m2, rfl⟩ := h2
  simp only at a1 a2 m1 m2
  by_cases q0 : a ≤ -1
  · exact ⟨[(-9223372036854775808, -1), (0, 18446744073709551615)], by simp [es2], h1.append (InB.ind (by simp only [InB, and_true]; omega))⟩
  by_cases q1 : a = 0
  · exact ⟨[(0, 0), (0, 18446744073709551615)], by simp [es2], h1.append (InB.ind (by simp only [InB, and_true]; omega))⟩
  by_cases q2 : a = 1
  · exact ⟨[(1, 1), (0, 18446744073709551615)], by simp [es2], h1.append (InB.ind (by simp only [InB, and_true]; omega))⟩
  exact ⟨[(2, 9223372036854775807), (0, 18446744073709551615)], by simp [es2], h1.append (InB.ind (by simp only [InB, and_true]; omega))⟩
def es3 : List (List (Int × Int)) := [[(-9223372036854775808, -1), (0, 18446744073709551615)], [(0, 0), (0, 18446744073709551615)], [(1, 1), (0, 18446744073709551615)], [(2, 2), (0, 18446744073709551615)], [(3, 9223372036854775807), (0, 18446744073709551615)]]
theorem cov3 (b : List (Int × Int)) (ns : List Int) (h : InD (b ++ ext) ns) : ∃ e ∈ es3, InD (b ++ e) ns := by
  obtain ⟨n1, n2, rfl, h1, h2⟩ := InD.split h
  obtain ⟨a, _, rfl, a1, a2, m, _, rfl, m1, m2, rfl⟩ := h2
  simp only at a1 a2 m1 m2
  by_cases q0 : a ≤ -1
  · exact ⟨[(-9223372036854775808, -1), (0, 18446744073709551615)], by simp [es3], h1.append (InB.ind (by simp only [InB, and_true]; omega))⟩
  by_cases q1 : a = 0
  · exact ⟨[(0, 0), (0, 18446744073709551615)], by simp [es3], h1.append (InB.ind (by simp only [InB, and_true]; omega))⟩
  by_cases q2 : a = 1
  · exact ⟨[(1, 1), (0, 18446744073709551615)], by simp [es3], h1.append (InB.ind (by simp only [InB, and_true]; omega))⟩
  by_cases q3 : a = 2
  · exact ⟨[(2, 2), (0, 18446744073709551615)], by simp [es3], h1.append (InB.ind (by simp only [InB, and_true]; omega))⟩
  exact ⟨[(3, 9223372036854775807), (0, 18446744073709551615)], by simp [es3], h1.append (InB.ind (by simp only [InB, and_true]; omega))⟩
def es4 : List (List (Int × Int)) := [[(-9223372036854775808, -1), (0, 18446744073709551615)], [(0, 0), (0, 18446744073709551615)], [(1, 1), (0, 18446744073709551615)], [(2, 2), (0, 18446744073709551615)], [(3, 3), (0, 18446744073709551615)], [(4, 9223372036854775807), (0, 18446744073709551615)]]
theorem cov4 (b : List (Int × Int)) (ns : List Int) (h : InD (b ++ ext) ns) : ∃ e ∈ es4, InD (b ++ e) ns := by
  obtain ⟨n1, n2, rfl, h1, h2⟩ := InD.split h
  obtain ⟨a, _, rfl, a1, a2, m, _, rfl, m1, m2, rfl⟩ := h2
  simp only at a1 a2 m1 m2
  by_cases q0 : a ≤ -1
  · exact ⟨[(-9223372036854775808, -1), (0, 18446744073709551615)], by simp [es4], h1.append (InB.ind (by simp only [InB, and_true]; omega))⟩
  by_cases q1 : a = 0
  · exact ⟨[(0, 0), (0, 18446744073709551615)], by simp [es4], h1.append (InB.ind (by simp only [InB, and_true]; omega))⟩
  by_cases q2 : a = 1
  · exact ⟨[(1, 1), (0, 18446744073709551615)], by simp [es4], h1.append (InB.ind (by simp only [InB, and_true]; omega))⟩
  by_cases q3 : a = 2
  · exact ⟨[(2, 2), (0, 18446744073709551615)], by simp [es4], h1.append (InB.ind (by simp only [InB, and_true]; omega))⟩
  by_cases q4 : a = 3
  · exact ⟨[(3, 3), (0, 18446744073709551615)], by simp [es4], h1.append (InB.ind (by simp only [InB, and_true]; omega))⟩
  exact ⟨[(4, 9223372036854775807), (0, 18446744073709551615)], by simp [es4], h1.append (InB.ind (by simp only [InB, and_true]; omega))⟩
def ib0 : List (Int × Int) := [(0, 0), (-9223372036854775808, 9223372036854775807), (0, 255), (0, 255), (0, 255), (0, 255), (0, 255), (-9223372036854775808, 9223372036854775807), (0, 18446744073709551615)]
def xb0 : List (List (Int × Int)) := []
noncomputable def im16_0 : Mem := ⟨16, [lget (symAs shs 0 0 ib0) 0], .val (.bool false)⟩
theorem rf16_0 (rho : Nat → Int) (ok : ∀ i p, ib0[i]? = some p → p.1 ≤ rho i ∧ rho i ≤ p.2) : @badX (enOf ib0 rho ok) xb0 (callL Try.prog G0 (@runF (enOf ib0 rho ok) Try.prog G0 100000) 0 im16_0.f im16_0.args .nil 0 (@resK (enOf ib0 rho ok) im16_0.res)) ptN = [] := by kernel_rfl
noncomputable def im20_0 : Mem := ⟨20, [lget (symAs shs 0 0 ib0) 0], .val (.bool false)⟩
theorem rf20_0 (rho : Nat → Int) (ok : ∀ i p, ib0[i]? = some p → p.1 ≤ rho i ∧ rho i ≤ p.2) : @badX (enOf ib0 rho ok) xb0 (callL Try.prog G0 (@runF (enOf ib0 rho ok) Try.prog G0 100000) 0 im20_0.f im20_0.args .nil 0 (@resK (enOf ib0 rho ok) im20_0.res)) ptN = [] := by kernel_rfl
noncomputable def Gi0 : Know := ⟨fun f => conM f [(16, [im16_0]), (20, [im20_0]), (11, maw)], wr⟩
theorem out0 {ns : List Int} (h : NotIn xsAll ns) : NotIn xb0 ns := fun b hb => by cases hb
theorem con0 {ns : List Int} {Ls : Nat → Nat → Nat → Int} (hx : NotIn xsAll ns) (h : InD ib0 ns) : @OutB (enOf ib0 (rho0 ns Ls) (rho0_ok h)) xb0 ∧ @ConOk (enOf ib0 (rho0 ns Ls) (rho0_ok h)) Try.prog (@Fin (enOf ib0 (rho0 ns Ls) (rho0_ok h))) Gi0 := by
  have hlen : ns.length = 9 := h.len
  have hO : @OutB (enOf ib0 (rho0 ns Ls) (rho0_ok h)) xb0 := NotIn.out (out0 hx) (fun b hb => by
    have : xb0.all (fun b => Nat.ble b.length 9) = true := by decide
    rw [List.all_eq_true] at this
    rw [hlen]; exact Nat.le_of_ble_eq_true (this b hb))
  refine ⟨hO, ?_⟩
  letI : En := enOf ib0 (rho0 ns Ls) (rho0_ok h)
  refine TabOk.con (TabOk.cons rfl (fun m hm => ?_) (TabOk.cons rfl (fun m hm => ?_) (TabOk.cons rfl awake TabOk.nil)))
  · rw [List.mem_singleton] at hm
    subst hm
    exact memOk_of mo nogo (ConOk.none (wr := wr)) (by kernel_rfl) (badX_sound hO ptN_ok (badX_nil (rf16_0 _ (rho0_ok h))))
  · rw [List.mem_singleton] at hm
    subst hm
    exact memOk_of mo nogo (ConOk.none (wr := wr)) (by kernel_rfl) (badX_sound hO ptN_ok (badX_nil (rf20_0 _ (rho0_ok h))))
def ib1 : List (Int × Int) := [(5, 255), (-9223372036854775808, 9223372036854775807), (0, 255), (0, 255), (0, 255), (0, 255), (0, 255), (-9223372036854775808, 9223372036854775807), (0, 18446744073709551615)]
def xb1 : List (List (Int × Int)) := []
noncomputable def im16_1 : Mem := ⟨16, [lget (symAs shs 0 0 ib1) 0], .val (.bool false)⟩
theorem rf16_1 (rho : Nat → Int) (ok : ∀ i p, ib1[i]? = some p → p.1 ≤ rho i ∧ rho i ≤ p.2) : @badX (enOf ib1 rho ok) xb1 (callL Try.prog G0 (@runF (enOf ib1 rho ok) Try.prog G0 100000) 0 im16_1.f im16_1.args .nil 0 (@resK (enOf ib1 rho ok) im16_1.res)) ptN = [] := by kernel_rfl
noncomputable def im20_1 : Mem := ⟨20, [lget (symAs shs 0 0 ib1) 0], .val (.bool false)⟩
theorem rf20_1 (rho : Nat → Int) (ok : ∀ i p, ib1[i]? = some p → p.1 ≤ rho i ∧ rho i ≤ p.2) : @badX (enOf ib1 rho ok) xb1 (callL Try.prog G0 (@runF (enOf ib1 rho ok) Try.prog G0 100000) 0 im20_1.f im20_1.args .nil 0 (@resK (enOf ib1 rho ok) im20_1.res)) ptN = [] := by kernel_rfl
noncomputable def Gi1 : Know := ⟨fun f => conM f [(16, [im16_1]), (20, [im20_1]), (11, maw)], wr⟩
theorem out1 {ns : List Int} (h : NotIn xsAll ns) : NotIn xb1 ns := fun b hb => by cases hb
theorem con1 {ns : List Int} {Ls : Nat → Nat → Nat → Int} (hx : NotIn xsAll ns) (h : InD ib1 ns) : @OutB (enOf ib1 (rho0 ns Ls) (rho0_ok h)) xb1 ∧ @ConOk (enOf ib1 (rho0 ns Ls) (rho0_ok h)) Try.prog (@Fin (enOf ib1 (rho0 ns Ls) (rho0_ok h))) Gi1 := by
  have hlen : ns.length = 9 := h.len
  have hO : @OutB (enOf ib1 (rho0 ns Ls) (rho0_ok h)) xb1 := NotIn.out (out1 hx) (fun b hb => by
    have : xb1.all (fun b => Nat.ble b.length 9) = true := by decide
    rw [List.all_eq_true] at this
    rw [hlen]; exact Nat.le_of_ble_eq_true (this b hb))
  refine ⟨hO, ?_⟩
  letI : En := enOf ib1 (rho0 ns Ls) (rho0_ok h)
  refine TabOk.con (TabOk.cons rfl (fun m hm => ?_) (TabOk.cons rfl (fun m hm => ?_) (TabOk.cons rfl awake TabOk.nil)))
  · rw [List.mem_singleton] at hm
    subst hm
    exact memOk_of mo nogo (ConOk.none (wr := wr)) (by kernel_rfl) (badX_sound hO ptN_ok (badX_nil (rf16_1 _ (rho0_ok h))))
  · rw [List.mem_singleton] at hm
    subst hm
    exact memOk_of mo nogo (ConOk.none (wr := wr)) (by kernel_rfl) (badX_sound hO ptN_ok (badX_nil (rf20_1 _ (rho0_ok h))))
def ib2 : List (Int × Int) := [(1, 4), (-9223372036854775808, 0), (0, 255), (0, 255), (0, 255), (0, 255), (0, 255), (-9223372036854775808, 9223372036854775807), (0, 18446744073709551615)]
def xb2 : List (List (Int × Int)) := []
noncomputable def im16_2 : Mem := ⟨16, [lget (symAs shs 0 0 ib2) 0], .val (.bool false)⟩
theorem rf16_2 (rho : Nat → Int) (ok : ∀ i p, ib2[i]? = some p → p.1 ≤ rho i ∧ rho i ≤ p.2) : @badX (enOf ib2 rho ok) xb2 (callL Try.prog G0 (@runF (enOf ib2 rho ok) Try.prog G0 100000) 0 im16_2.f im16_2.args .nil 0 (@resK (enOf ib2 rho ok) im16_2.res)) ptN = [] := by kernel_rfl
noncomputable def im20_2 : Mem := ⟨20, [lget (symAs shs 0 0 ib2) 0], .val (.bool false)⟩
theorem rf20_2 (rho : Nat → Int) (ok : ∀ i p, ib2[i]? = some p → p.1 ≤ rho i ∧ rho i ≤ p.2) : @badX (enOf ib2 rho ok) xb2 (callL Try.prog G0 (@runF (enOf ib2 rho ok) Try.prog G0 100000) 0 im20_2.f im20_2.args .nil 0 (@resK (enOf ib2 rho ok) im20_2.res)) ptN = [] := by kernel_rfl
noncomputable def Gi2 : Know := ⟨fun f => conM f [(16, [im16_2]), (20, [im20_2]), (11, maw)], wr⟩
theorem out2 {ns : List Int} (h : NotIn xsAll ns) : NotIn xb2 ns := fun b hb => by cases hb
theorem con2 {ns : List Int} {Ls : Nat → Nat → Nat → Int} (hx : NotIn xsAll ns) (h : InD ib2 ns) : @OutB (enOf ib2 (rho0 ns Ls) (rho0_ok h)) xb2 ∧ @ConOk (enOf ib2 (rho0 ns Ls) (rho0_ok h)) Try.prog (@Fin (enOf ib2 (rho0 ns Ls) (rho0_ok h))) Gi2 := by
  have hlen : ns.length = 9 := h.len
  have hO : @OutB (enOf ib2 (rho0 ns Ls) (rho0_ok h)) xb2 := NotIn.out (out2 hx) (fun b hb => by
    have : xb2.all (fun b => Nat.ble b.length 9) = true := by decide
    rw [List.all_eq_true] at this
    rw [hlen]; exact Nat.le_of_ble_eq_true (this b hb))
  refine ⟨hO, ?_⟩
  letI : En := enOf ib2 (rho0 ns Ls) (rho0_ok h)
  refine TabOk.con (TabOk.cons rfl (fun m hm => ?_) (TabOk.cons rfl (fun m hm => ?_) (TabOk.cons rfl awake TabOk.nil)))
  · rw [List.mem_singleton] at hm
    subst hm
    exact memOk_of mo nogo (ConOk.none (wr := wr)) (by kernel_rfl) (badX_sound hO ptN_ok (badX_nil (rf16_2 _ (rho0_ok h))))
  · rw [List.mem_singleton] at hm
    subst hm
    exact memOk_of mo nogo (ConOk.none (wr := wr)) (by kernel_rfl) (badX_sound hO ptN_ok (badX_nil (rf20_2 _ (rho0_ok h))))
def ib3 : List (Int × Int) := [(1, 4), (5, 9223372036854775807), (0, 255), (0, 255), (0, 255), (0, 255), (0, 255), (-9223372036854775808, 9223372036854775807), (0, 18446744073709551615)]
def xb3 : List (List (Int × Int)) := []
noncomputable def im16_3 : Mem := ⟨16, [lget (symAs shs 0 0 ib3) 0], .val (.bool false)⟩
theorem rf16_3 (rho : Nat → Int) (ok : ∀ i p, ib3[i]? = some p → p.1 ≤ rho i ∧ rho i ≤ p.2) : @badX (enOf ib3 rho ok) xb3 (callL Try.prog G0 (@runF (enOf ib3 rho ok) Try.prog G0 100000) 0 im16_3.f im16_3.args .nil 0 (@resK (enOf ib3 rho ok) im16_3.res)) ptN = [] := by kernel_rfl
noncomputable def im20_3 : Mem := ⟨20, [lget (symAs shs 0 0 ib3) 0], .val (.bool false)⟩
theorem rf20_3 (rho : Nat → Int) (ok : ∀ i p, ib3[i]? = some p → p.1 ≤ rho i ∧ rho i ≤ p.2) : @badX (enOf ib3 rho ok) xb3 (callL Try.prog G0 (@runF (enOf ib3 rho ok) Try.prog G0 100000) 0 im20_3.f im20_3.args .nil 0 (@resK (enOf ib3 rho ok) im20_3.res)) ptN = [] := by kernel_rfl
noncomputable def Gi3 : Know := ⟨fun f => conM f [(16, [im16_3]), (20, [im20_3]), (11, maw)], wr⟩
theorem out3 {ns : List Int} (h : NotIn xsAll ns) : NotIn xb3 ns := fun b hb => by cases hb
theorem con3 {ns : List Int} {Ls : Nat → Nat → Nat → Int} (hx : NotIn xsAll ns) (h : InD ib3 ns) : @OutB (enOf ib3 (rho0 ns Ls) (rho0_ok h)) xb3 ∧ @ConOk (enOf ib3 (rho0 ns Ls) (rho0_ok h)) Try.prog (@Fin (enOf ib3 (rho0 ns Ls) (rho0_ok h))) Gi3 := by
  have hlen : ns.length = 9 := h.len
  have hO : @OutB (enOf ib3 (rho0 ns Ls) (rho0_ok h)) xb3 := NotIn.out (out3 hx) (fun b hb => by
    have : xb3.all (fun b => Nat.ble b.length 9) = true := by decide
    rw [List.all_eq_true] at this
    rw [hlen]; exact Nat.le_of_ble_eq_true (this b hb))
  refine ⟨hO, ?_⟩
  letI : En := enOf ib3 (rho0 ns Ls) (rho0_ok h)
  refine TabOk.con (TabOk.cons rfl (fun m hm => ?_) (TabOk.cons rfl (fun m hm => ?_) (TabOk.cons rfl awake TabOk.nil)))
  · rw [List.mem_singleton] at hm
    subst hm
    exact memOk_of mo nogo (ConOk.none (wr := wr)) (by kernel_rfl) (badX_sound hO ptN_ok (badX_nil (rf16_3 _ (rho0_ok h))))
  · rw [List.mem_singleton] at hm
    subst hm
    exact memOk_of mo nogo (ConOk.none (wr := wr)) (by kernel_rfl) (badX_sound hO ptN_ok (badX_nil (rf20_3 _ (rho0_ok h))))
def ib4 : List (Int × Int) := [(1, 1), (1, 1), (0, 255), (0, 255), (0, 255), (0, 255), (0, 255), (-9223372036854775808, 9223372036854775807), (0, 18446744073709551615)]
def xb4 : List (List (Int × Int)) := xs11
noncomputable def im16_4 : Mem := ⟨16, [lget (symAs shs 0 0 ib4) 0], .val (.bool false)⟩
theorem rf16_4 (rho : Nat → Int) (ok : ∀ i p, ib4[i]? = some p → p.1 ≤ rho i ∧ rho i ≤ p.2) : @badX (enOf ib4 rho ok) xb4 (callL Try.prog G0 (@runF (enOf ib4 rho ok) Try.prog G0 100000) 0 im16_4.f im16_4.args .nil 0 (@resK (enOf ib4 rho ok) im16_4.res)) ptN = [] := by kernel_rfl
noncomputable def im20_4 : Mem := ⟨20, [lget (symAs shs 0 0 ib4) 0], .val (.bool false)⟩
theorem rf20_4 (rho : Nat → Int) (ok : ∀ i p, ib4[i]? = some p → p.1 ≤ rho i ∧ rho i ≤ p.2) : @badX (enOf ib4 rho ok) xb4 (callL Try.prog G0 (@runF (enOf ib4 rho ok) Try.prog G0 100000) 0 im20_4.f im20_4.args .nil 0 (@resK (enOf ib4 rho ok) im20_4.res)) ptN = [] := by kernel_rfl
noncomputable def Gi4 : Know := ⟨fun f => conM f [(16, [im16_4]), (20, [im20_4]), (11, maw)], wr⟩
theorem out4 {ns : List Int} (h : NotIn xsAll ns) : NotIn xb4 ns := fun b hb => h b (by unfold xsAll; simp only [List.mem_append]; simp only [xb4] at hb; simp [hb])
theorem con4 {ns : List Int} {Ls : Nat → Nat → Nat → Int} (hx : NotIn xsAll ns) (h : InD ib4 ns) : @OutB (enOf ib4 (rho0 ns Ls) (rho0_ok h)) xb4 ∧ @ConOk (enOf ib4 (rho0 ns Ls) (rho0_ok h)) Try.prog (@Fin (enOf ib4 (rho0 ns Ls) (rho0_ok h))) Gi4 := by
  have hlen : ns.length = 9 := h.len
  have hO : @OutB (enOf ib4 (rho0 ns Ls) (rho0_ok h)) xb4 := NotIn.out (out4 hx) (fun b hb => by
    have : xb4.all (fun b => Nat.ble b.length 9) = true := by decide
    rw [List.all_eq_true] at this
    rw [hlen]; exact Nat.le_of_ble_eq_true (this b hb))
  refine ⟨hO, ?_⟩
  letI : En := enOf ib4 (rho0 ns Ls) (rho0_ok h)
  refine TabOk.con (TabOk.cons rfl (fun m hm => ?_) (TabOk.cons rfl (fun m hm => ?_) (TabOk.cons rfl awake TabOk.nil)))
  · rw [List.mem_singleton] at hm
    subst hm
    exact memOk_of mo nogo (ConOk.none (wr := wr)) (by kernel_rfl) (badX_sound hO ptN_ok (badX_nil (rf16_4 _ (rho0_ok h))))
  · rw [List.mem_singleton] at hm
    subst hm
    exact memOk_of mo nogo (ConOk.none (wr := wr)) (by kernel_rfl) (badX_sound hO ptN_ok (badX_nil (rf20_4 _ (rho0_ok h))))
def ib5 : List (Int × Int) := [(1, 1), (2, 2), (0, 255), (0, 255), (0, 255), (0, 255), (0, 255), (-9223372036854775808, 9223372036854775807), (0, 18446744073709551615)]
def xb5 : List (List (Int × Int)) := xs12
noncomputable def im16_5 : Mem := ⟨16, [lget (symAs shs 0 0 ib5) 0], .val (.bool false)⟩
theorem rf16_5 (rho : Nat → Int) (ok : ∀ i p, ib5[i]? = some p → p.1 ≤ rho i ∧ rho i ≤ p.2) : @badX (enOf ib5 rho ok) xb5 (callL Try.prog G0 (@runF (enOf ib5 rho ok) Try.prog G0 100000) 0 im16_5.f im16_5.args .nil 0 (@resK (enOf ib5 rho ok) im16_5.res)) ptN = [] := by kernel_rfl
noncomputable def im20_5 : Mem := ⟨20, [lget (symAs shs 0 0 ib5) 0], .val (.bool false)⟩
theorem rf20_5 (rho : Nat → Int) (ok : ∀ i p, ib5[i]? = some p → p.1 ≤ rho i ∧ rho i ≤ p.2) : @badX (enOf ib5 rho ok) xb5 (callL Try.prog G0 (@runF (enOf ib5 rho ok) Try.prog G0 100000) 0 im20_5.f im20_5.args .nil 0 (@resK (enOf ib5 rho ok) im20_5.res)) ptN = [] := by kernel_rfl
noncomputable def Gi5 : Know := ⟨fun f => conM f [(16, [im16_5]), (20, [im20_5]), (11, maw)], wr⟩
theorem out5 {ns : List Int} (h : NotIn xsAll ns) : NotIn xb5 ns := fun b hb => h b (by unfold xsAll; simp only [List.mem_append]; simp only [xb5] at hb; simp [hb])
theorem con5 {ns : List Int} {Ls : Nat → Nat → Nat → Int} (hx : NotIn xsAll ns) (h : InD ib5 ns) : @OutB (enOf ib5 (rho0 ns Ls) (rho0_ok h)) xb5 ∧ @ConOk (enOf ib5 (rho0 ns Ls) (rho0_ok h)) Try.prog (@Fin (enOf ib5 (rho0 ns Ls) (rho0_ok h))) Gi5 := by
  have hlen : ns.length = 9 := h.len
  have hO : @OutB (enOf ib5 (rho0 ns Ls) (rho0_ok h)) xb5 := NotIn.out (out5 hx) (fun b hb => by
    have : xb5.all (fun b => Nat.ble b.length 9) = true := by decide
    rw [List.all_eq_true] at this
    rw [hlen]; exact Nat.le_of_ble_eq_true (this b hb))
  refine ⟨hO, ?_⟩
  letI : En := enOf ib5 (rho0 ns Ls) (rho0_ok h)
  refine TabOk.con (TabOk.cons rfl (fun m hm => ?_) (TabOk.cons rfl (fun m hm => ?_) (TabOk.cons rfl awake TabOk.nil)))
  · rw [List.mem_singleton] at hm
    subst hm
    exact memOk_of mo nogo (ConOk.none (wr := wr)) (by kernel_rfl) (badX_sound hO ptN_ok (badX_nil (rf16_5 _ (rho0_ok h))))
  · rw [List.mem_singleton] at hm
    subst hm
    exact memOk_of mo nogo (ConOk.none (wr := wr)) (by kernel_rfl) (badX_sound hO ptN_ok (badX_nil (rf20_5 _ (rho0_ok h))))
def ib6 : List (Int × Int) := [(1, 1), (3, 3), (0, 255), (0, 255), (0, 255), (0, 255), (0, 255), (-9223372036854775808, 9223372036854775807), (0, 18446744073709551615)]
def xb6 : List (List (Int × Int)) := xs13
noncomputable def im16_6 : Mem := ⟨16, [lget (symAs shs 0 0 ib6) 0], .val (.bool false)⟩
theorem rf16_6 (rho : Nat → Int) (ok : ∀ i p, ib6[i]? = some p → p.1 ≤ rho i ∧ rho i ≤ p.2) : @badX (enOf ib6 rho ok) xb6 (callL Try.prog G0 (@runF (enOf ib6 rho ok) Try.prog G0 100000) 0 im16_6.f im16_6.args .nil 0 (@resK (enOf ib6 rho ok) im16_6.res)) ptN = [] := by kernel_rfl
noncomputable def im20_6 : Mem := ⟨20, [lget (symAs shs 0 0 ib6) 0], .val (.bool false)⟩
theorem rf20_6 (rho : Nat → Int) (ok : ∀ i p, ib6[i]? = some p → p.1 ≤ rho i ∧ rho i ≤ p.2) : @badX (enOf ib6 rho ok) xb6 (callL Try.prog G0 (@runF (enOf ib6 rho ok) Try.prog G0 100000) 0 im20_6.f im20_6.args .nil 0 (@resK (enOf ib6 rho ok) im20_6.res)) ptN = [] := by kernel_rfl
noncomputable def Gi6 : Know := ⟨fun f => conM f [(16, [im16_6]), (20, [im20_6]), (11, maw)], wr⟩
theorem out6 {ns : List Int} (h : NotIn xsAll ns) : NotIn xb6 ns := fun b hb => h b (by unfold xsAll; simp only [List.mem_append]; simp only [xb6] at hb; simp [hb])
theorem con6 {ns : List Int} {Ls : Nat → Nat → Nat → Int} (hx : NotIn xsAll ns) (h : InD ib6 ns) : @OutB (enOf ib6 (rho0 ns Ls) (rho0_ok h)) xb6 ∧ @ConOk (enOf ib6 (rho0 ns Ls) (rho0_ok h)) Try.prog (@Fin (enOf ib6 (rho0 ns Ls) (rho0_ok h))) Gi6 := by
  have hlen : ns.length = 9 := h.len
  have hO : @OutB (enOf ib6 (rho0 ns Ls) (rho0_ok h)) xb6 := NotIn.out (out6 hx) (fun b hb => by
    have : xb6.all (fun b => Nat.ble b.length 9) = true := by decide
    rw [List.all_eq_true] at this
    rw [hlen]; exact Nat.le_of_ble_eq_true (this b hb))
  refine ⟨hO, ?_⟩
  letI : En := enOf ib6 (rho0 ns Ls) (rho0_ok h)
  refine TabOk.con (TabOk.cons rfl (fun m hm => ?_) (TabOk.cons rfl (fun m hm => ?_) (TabOk.cons rfl awake TabOk.nil)))
  · rw [List.mem_singleton] at hm
    subst hm
    exact memOk_of mo nogo (ConOk.none (wr := wr)) (by kernel_rfl) (badX_sound hO ptN_ok (badX_nil (rf16_6 _ (rho0_ok h))))
  · rw [List.mem_singleton] at hm
    subst hm
    exact memOk_of mo nogo (ConOk.none (wr := wr)) (by kernel_rfl) (badX_sound hO ptN_ok (badX_nil (rf20_6 _ (rho0_ok h))))
def ib7 : List (Int × Int) := [(1, 1), (4, 4), (0, 255), (0, 255), (0, 255), (0, 255), (0, 255), (-9223372036854775808, 9223372036854775807), (0, 18446744073709551615)]
def xb7 : List (List (Int × Int)) := xs14
noncomputable def im16_7 : Mem := ⟨16, [lget (symAs shs 0 0 ib7) 0], .val (.bool false)⟩
theorem rf16_7 (rho : Nat → Int) (ok : ∀ i p, ib7[i]? = some p → p.1 ≤ rho i ∧ rho i ≤ p.2) : @badX (enOf ib7 rho ok) xb7 (callL Try.prog G0 (@runF (enOf ib7 rho ok) Try.prog G0 100000) 0 im16_7.f im16_7.args .nil 0 (@resK (enOf ib7 rho ok) im16_7.res)) ptN = [] := by kernel_rfl
noncomputable def im20_7 : Mem := ⟨20, [lget (symAs shs 0 0 ib7) 0], .val (.bool false)⟩
theorem rf20_7 (rho : Nat → Int) (ok : ∀ i p, ib7[i]? = some p → p.1 ≤ rho i ∧ rho i ≤ p.2) : @badX (enOf ib7 rho ok) xb7 (callL Try.prog G0 (@runF (enOf ib7 rho ok) Try.prog G0 100000) 0 im20_7.f im20_7.args .nil 0 (@resK (enOf ib7 rho ok) im20_7.res)) ptN = [] := by kernel_rfl
noncomputable def Gi7 : Know := ⟨fun f => conM f [(16, [im16_7]), (20, [im20_7]), (11, maw)], wr⟩
theorem out7 {ns : List Int} (h : NotIn xsAll ns) : NotIn xb7 ns := fun b hb => h b (by unfold xsAll; simp only [List.mem_append]; simp only [xb7] at hb; simp [hb])
theorem con7 {ns : List Int} {Ls : Nat → Nat → Nat → Int} (hx : NotIn xsAll ns) (h : InD ib7 ns) : @OutB (enOf ib7 (rho0 ns Ls) (rho0_ok h)) xb7 ∧ @ConOk (enOf ib7 (rho0 ns Ls) (rho0_ok h)) Try.prog (@Fin (enOf ib7 (rho0 ns Ls) (rho0_ok h))) Gi7 := by
  have hlen : ns.length = 9 := h.len
  have hO : @OutB (enOf ib7 (rho0 ns Ls) (rho0_ok h)) xb7 := NotIn.out (out7 hx) (fun b hb => by
    have : xb7.all (fun b => Nat.ble b.length 9) = true := by decide
    rw [List.all_eq_true] at this
    rw [hlen]; exact Nat.le_of_ble_eq_true (this b hb))
  refine ⟨hO, ?_⟩
  letI : En := enOf ib7 (rho0 ns Ls) (rho0_ok h)
  refine TabOk.con (TabOk.cons rfl (fun m hm => ?_) (TabOk.cons rfl (fun m hm => ?_) (TabOk.cons rfl awake TabOk.nil)))
  · rw [List.mem_singleton] at hm
    subst hm
    exact memOk_of mo nogo (ConOk.none (wr := wr)) (by kernel_rfl) (badX_sound hO ptN_ok (badX_nil (rf16_7 _ (rho0_ok h))))
  · rw [List.mem_singleton] at hm
    subst hm
    exact memOk_of mo nogo (ConOk.none (wr := wr)) (by kernel_rfl) (badX_sound hO ptN_ok (badX_nil (rf20_7 _ (rho0_ok h))))
def ib8 : List (Int × Int) := [(2, 2), (1, 1), (0, 255), (0, 255), (0, 255), (0, 255), (0, 255), (-9223372036854775808, 9223372036854775807), (0, 18446744073709551615)]
def xb8 : List (List (Int × Int)) := xs21
noncomputable def im16_8 : Mem := ⟨16, [lget (symAs shs 0 0 ib8) 0], .val (.bool false)⟩
theorem rf16_8 (rho : Nat → Int) (ok : ∀ i p, ib8[i]? = some p → p.1 ≤ rho i ∧ rho i ≤ p.2) : @badX (enOf ib8 rho ok) xb8 (callL Try.prog G0 (@runF (enOf ib8 rho ok) Try.prog G0 100000) 0 im16_8.f im16_8.args .nil 0 (@resK (enOf ib8 rho ok) im16_8.res)) ptN = [] := by kernel_rfl
noncomputable def im20_8 : Mem := ⟨20, [lget (symAs shs 0 0 ib8) 0], .val (.bool false)⟩
theorem rf20_8 (rho : Nat → Int) (ok : ∀ i p, ib8[i]? = some p → p.1 ≤ rho i ∧ rho i ≤ p.2) : @badX (enOf ib8 rho ok) xb8 (callL Try.prog G0 (@runF (enOf ib8 rho ok) Try.prog G0 100000) 0 im20_8.f im20_8.args .nil 0 (@resK (enOf ib8 rho ok) im20_8.res)) ptN = [] := by kernel_rfl
noncomputable def Gi8 : Know := ⟨fun f => conM f [(16, [im16_8]), (20, [im20_8]), (11, maw)], wr⟩
theorem out8 {ns : List Int} (h : NotIn xsAll ns) : NotIn xb8 ns := fun b hb => h b (by unfold xsAll; simp only [List.mem_append]; simp only [xb8] at hb; simp [hb])
theorem con8 {ns : List Int} {Ls : Nat → Nat → Nat → Int} (hx : NotIn xsAll ns) (h : InD ib8 ns) : @OutB (enOf ib8 (rho0 ns Ls) (rho0_ok h)) xb8 ∧ @ConOk (enOf ib8 (rho0 ns Ls) (rho0_ok h)) Try.prog (@Fin (enOf ib8 (rho0 ns Ls) (rho0_ok h))) Gi8 := by
  have hlen : ns.length = 9 := h.len
  have hO : @OutB (enOf ib8 (rho0 ns Ls) (rho0_ok h)) xb8 := NotIn.out (out8 hx) (fun b hb => by
    have : xb8.all (fun b => Nat.ble b.length 9) = true := by decide
    rw [List.all_eq_true] at this
    rw [hlen]; exact Nat.le_of_ble_eq_true (this b hb))
  refine ⟨hO, ?_⟩
  letI : En := enOf ib8 (rho0 ns Ls) (rho0_ok h)
  refine TabOk.con (TabOk.cons rfl (fun m hm => ?_) (TabOk.cons rfl (fun m hm => ?_) (TabOk.cons rfl awake TabOk.nil)))
  · rw [List.mem_singleton] at hm
    subst hm
    exact memOk_of mo nogo (ConOk.none (wr := wr)) (by kernel_rfl) (badX_sound hO ptN_ok (badX_nil (rf16_8 _ (rho0_ok h))))
  · rw [List.mem_singleton] at hm
    subst hm
    exact memOk_of mo nogo (ConOk.none (wr := wr)) (by kernel_rfl) (badX_sound hO ptN_ok (badX_nil (rf20_8 _ (rho0_ok h))))
def ib9 : List (Int × Int) := [(2, 2), (2, 2), (0, 255), (0, 255), (0, 255), (0, 255), (0, 255), (-9223372036854775808, 9223372036854775807), (0, 18446744073709551615)]
def xb9 : List (List (Int × Int)) := xs22
noncomputable def im16_9 : Mem := ⟨16, [lget (symAs shs 0 0 ib9) 0], .val (.bool false)⟩
theorem rf16_9 (rho : Nat → Int) (ok : ∀ i p, ib9[i]? = some p → p.1 ≤ rho i ∧ rho i ≤ p.2) : @badX (enOf ib9 rho ok) xb9 (callL Try.prog G0 (@runF (enOf ib9 rho ok) Try.prog G0 100000) 0 im16_9.f im16_9.args .nil 0 (@resK (enOf ib9 rho ok) im16_9.res)) ptN = [] := by kernel_rfl
noncomputable def im20_9 : Mem := ⟨20, [lget (symAs shs 0 0 ib9) 0], .val (.bool false)⟩
theorem rf20_9 (rho : Nat → Int) (ok : ∀ i p, ib9[i]? = some p → p.1 ≤ rho i ∧ rho i ≤ p.2) : @badX (enOf ib9 rho ok) xb9 (callL Try.prog G0 (@runF (enOf ib9 rho ok) Try.prog G0 100000) 0 im20_9.f im20_9.args .nil 0 (@resK (enOf ib9 rho ok) im20_9.res)) ptN = [] := by kernel_rfl
noncomputable def Gi9 : Know := ⟨fun f => conM f [(16, [im16_9]), (20, [im20_9]), (11, maw)], wr⟩
theorem out9 {ns : List Int} (h : NotIn xsAll ns) : NotIn xb9 ns := fun b hb => h b (by unfold xsAll; simp only [List.mem_append]; simp only [xb9] at hb; simp [hb])
theorem con9 {ns : List Int} {Ls : Nat → Nat → Nat → Int} (hx : NotIn xsAll ns) (h : InD ib9 ns) : @OutB (enOf ib9 (rho0 ns Ls) (rho0_ok h)) xb9 ∧ @ConOk (enOf ib9 (rho0 ns Ls) (rho0_ok h)) Try.prog (@Fin (enOf ib9 (rho0 ns Ls) (rho0_ok h))) Gi9 := by
  have hlen : ns.length = 9 := h.len
  have hO : @OutB (enOf ib9 (rho0 ns Ls) (rho0_ok h)) xb9 := NotIn.out (out9 hx) (fun b hb => by
    have : xb9.all (fun b => Nat.ble b.length 9) = true := by decide
    rw [List.all_eq_true] at this
    rw [hlen]; exact Nat.le_of_ble_eq_true (this b hb))
  refine ⟨hO, ?_⟩
  letI : En := enOf ib9 (rho0 ns Ls) (rho0_ok h)
  refine TabOk.con (TabOk.cons rfl (fun m hm => ?_) (TabOk.cons rfl (fun m hm => ?_) (TabOk.cons rfl awake TabOk.nil)))
  · rw [List.mem_singleton] at hm
    subst hm
    exact memOk_of mo nogo (ConOk.none (wr := wr)) (by kernel_rfl) (badX_sound hO ptN_ok (badX_nil (rf16_9 _ (rho0_ok h))))
  · rw [List.mem_singleton] at hm
    subst hm
    exact memOk_of mo nogo (ConOk.none (wr := wr)) (by kernel_rfl) (badX_sound hO ptN_ok (badX_nil (rf20_9 _ (rho0_ok h))))
def ib10 : List (Int × Int) := [(2, 2), (3, 3), (0, 255), (0, 255), (0, 255), (0, 255), (0, 255), (-9223372036854775808, 9223372036854775807), (0, 18446744073709551615)]
def xb10 : List (List (Int × Int)) := xs23
noncomputable def im16_10 : Mem := ⟨16, [lget (symAs shs 0 0 ib10) 0], .val (.bool false)⟩
theorem rf16_10 (rho : Nat → Int) (ok : ∀ i p, ib10[i]? = some p → p.1 ≤ rho i ∧ rho i ≤ p.2) : @badX (enOf ib10 rho ok) xb10 (callL Try.prog G0 (@runF (enOf ib10 rho ok) Try.prog G0 100000) 0 im16_10.f im16_10.args .nil 0 (@resK (enOf ib10 rho ok) im16_10.res)) ptN = [] := by kernel_rfl
noncomputable def im20_10 : Mem := ⟨20, [lget (symAs shs 0 0 ib10) 0], .val (.bool false)⟩
theorem rf20_10 (rho : Nat → Int) (ok : ∀ i p, ib10[i]? = some p → p.1 ≤ rho i ∧ rho i ≤ p.2) : @badX (enOf ib10 rho ok) xb10 (callL Try.prog G0 (@runF (enOf ib10 rho ok) Try.prog G0 100000) 0 im20_10.f im20_10.args .nil 0 (@resK (enOf ib10 rho ok) im20_10.res)) ptN = [] := by kernel_rfl
noncomputable def Gi10 : Know := ⟨fun f => conM f [(16, [im16_10]), (20, [im20_10]), (11, maw)], wr⟩
theorem out10 {ns : List Int} (h : NotIn xsAll ns) : NotIn xb10 ns := fun b hb => h b (by unfold xsAll; simp only [List.mem_append]; simp only [xb10] at hb; simp [hb])
theorem con10 {ns : List Int} {Ls : Nat → Nat → Nat → Int} (hx : NotIn xsAll ns) (h : InD ib10 ns) : @OutB (enOf ib10 (rho0 ns Ls) (rho0_ok h)) xb10 ∧ @ConOk (enOf ib10 (rho0 ns Ls) (rho0_ok h)) Try.prog (@Fin (enOf ib10 (rho0 ns Ls) (rho0_ok h))) Gi10 := by
  have hlen : ns.length = 9 := h.len
  have hO : @OutB (enOf ib10 (rho0 ns Ls) (rho0_ok h)) xb10 := NotIn.out (out10 hx) (fun b hb => by
    have : xb10.all (fun b => Nat.ble b.length 9) = true := by decide
    rw [List.all_eq_true] at this
    rw [hlen]; exact Nat.le_of_ble_eq_true (this b hb))
  refine ⟨hO, ?_⟩
  letI : En := enOf ib10 (rho0 ns Ls) (rho0_ok h)
  refine TabOk.con (TabOk.cons rfl (fun m hm => ?_) (TabOk.cons rfl (fun m hm => ?_) (TabOk.cons rfl awake TabOk.nil)))
  · rw [List.mem_singleton] at hm
    subst hm
    exact memOk_of mo nogo (ConOk.none (wr := wr)) (by kernel_rfl) (badX_sound hO ptN_ok (badX_nil (rf16_10 _ (rho0_ok h))))
  · rw [List.mem_singleton] at hm
    subst hm
    exact memOk_of mo nogo (ConOk.none (wr := wr)) (by kernel_rfl) (badX_sound hO ptN_ok (badX_nil (rf20_10 _ (rho0_ok h))))
def ib11 : List (Int × Int) := [(2, 2), (4, 4), (0, 255), (0, 255), (0, 255), (0, 255), (0, 255), (-9223372036854775808, 9223372036854775807), (0, 18446744073709551615)]
def xb11 : List (List (Int × Int)) := xs24
noncomputable def im16_11 : Mem := ⟨16, [lget (symAs shs 0 0 ib11) 0], .val (.bool false)⟩
theorem rf16_11 (rho : Nat → Int) (ok : ∀ i p, ib11[i]? = some p → p.1 ≤ rho i ∧ rho i ≤ p.2) : @badX (enOf ib11 rho ok) xb11 (callL Try.prog G0 (@runF (enOf ib11 rho ok) Try.prog G0 100000) 0 im16_11.f im16_11.args .nil 0 (@resK (enOf ib11 rho ok) im16_11.res)) ptN = [] := by kernel_rfl
noncomputable def im20_11 : Mem := ⟨20, [lget (symAs shs 0 0 ib11) 0], .val (.bool false)⟩
theorem rf20_11 (rho : Nat → Int) (ok : ∀ i p, ib11[i]? = some p → p.1 ≤ rho i ∧ rho i ≤ p.2) : @badX (enOf ib11 rho ok) xb11 (callL Try.prog G0 (@runF (enOf ib11 rho ok) Try.prog G0 100000) 0 im20_11.f im20_11.args .nil 0 (@resK (enOf ib11 rho ok) im20_11.res)) ptN = [] := by kernel_rfl
noncomputable def Gi11 : Know := ⟨fun f => conM f [(16, [im16_11]), (20, [im20_11]), (11, maw)], wr⟩
theorem out11 {ns : List Int} (h : NotIn xsAll ns) : NotIn xb11 ns := fun b hb => h b (by unfold xsAll; simp only [List.mem_append]; simp only [xb11] at hb; simp [hb])
theorem con11 {ns : List Int} {Ls : Nat → Nat → Nat → Int} (hx : NotIn xsAll ns) (h : InD ib11 ns) : @OutB (enOf ib11 (rho0 ns Ls) (rho0_ok h)) xb11 ∧ @ConOk (enOf ib11 (rho0 ns Ls) (rho0_ok h)) Try.prog (@Fin (enOf ib11 (rho0 ns Ls) (rho0_ok h))) Gi11 := by
  have hlen : ns.length = 9 := h.len
  have hO : @OutB (enOf ib11 (rho0 ns Ls) (rho0_ok h)) xb11 := NotIn.out (out11 hx) (fun b hb => by
    have : xb11.all (fun b => Nat.ble b.length 9) = true := by decide
    rw [List.all_eq_true] at this
    rw [hlen]; exact Nat.le_of_ble_eq_true (this b hb))
  refine ⟨hO, ?_⟩
  letI : En := enOf ib11 (rho0 ns Ls) (rho0_ok h)
  refine TabOk.con (TabOk.cons rfl (fun m hm => ?_) (TabOk.cons rfl (fun m hm => ?_) (TabOk.cons rfl awake TabOk.nil)))
  · rw [List.mem_singleton] at hm
    subst hm
    exact memOk_of mo nogo (ConOk.none (wr := wr)) (by kernel_rfl) (badX_sound hO ptN_ok (badX_nil (rf16_11 _ (rho0_ok h))))
  · rw [List.mem_singleton] at hm
    subst hm
    exact memOk_of mo nogo (ConOk.none (wr := wr)) (by kernel_rfl) (badX_sound hO ptN_ok (badX_nil (rf20_11 _ (rho0_ok h))))
def ib12 : List (Int × Int) := [(3, 3), (1, 1), (0, 255), (0, 255), (0, 255), (0, 255), (0, 0), (-9223372036854775808, 9223372036854775807), (0, 18446744073709551615)]
def xb12 : List (List (Int × Int)) := xs31
noncomputable def im16_12 : Mem := ⟨16, [lget (symAs shs 0 0 ib12) 0], .val (.bool false)⟩
theorem rf16_12 (rho : Nat → Int) (ok : ∀ i p, ib12[i]? = some p → p.1 ≤ rho i ∧ rho i ≤ p.2) : @badX (enOf ib12 rho ok) xb12 (callL Try.prog G0 (@runF (enOf ib12 rho ok) Try.prog G0 100000) 0 im16_12.f im16_12.args .nil 0 (@resK (enOf ib12 rho ok) im16_12.res)) ptN = [] := by kernel_rfl
noncomputable def im20_12 : Mem := ⟨20, [lget (symAs shs 0 0 ib12) 0], .val (.bool false)⟩
theorem rf20_12 (rho : Nat → Int) (ok : ∀ i p, ib12[i]? = some p → p.1 ≤ rho i ∧ rho i ≤ p.2) : @badX (enOf ib12 rho ok) xb12 (callL Try.prog G0 (@runF (enOf ib12 rho ok) Try.prog G0 100000) 0 im20_12.f im20_12.args .nil 0 (@resK (enOf ib12 rho ok) im20_12.res)) ptN = [] := by kernel_rfl
noncomputable def Gi12 : Know := ⟨fun f => conM f [(16, [im16_12]), (20, [im20_12]), (11, maw)], wr⟩
theorem out12 {ns : List Int} (h : NotIn xsAll ns) : NotIn xb12 ns := fun b hb => h b (by unfold xsAll; simp only [List.mem_append]; simp only [xb12] at hb; simp [hb])
theorem con12 {ns : List Int} {Ls : Nat → Nat → Nat → Int} (hx : NotIn xsAll ns) (h : InD ib12 ns) : @OutB (enOf ib12 (rho0 ns Ls) (rho0_ok h)) xb12 ∧ @ConOk (enOf ib12 (rho0 ns Ls) (rho0_ok h)) Try.prog (@Fin (enOf ib12 (rho0 ns Ls) (rho0_ok h))) Gi12 := by
  have hlen : ns.length = 9 := h.len
  have hO : @OutB (enOf ib12 (rho0 ns Ls) (rho0_ok h)) xb12 := NotIn.out (out12 hx) (fun b hb => by
    have : xb12.all (fun b => Nat.ble b.length 9) = true := by decide
    rw [List.all_eq_true] at this
    rw [hlen]; exact Nat.le_of_ble_eq_true (this b hb))
  refine ⟨hO, ?_⟩
  letI : En := enOf ib12 (rho0 ns Ls) (rho0_ok h)
  refine TabOk.con (TabOk.cons rfl (fun m hm => ?_) (TabOk.cons rfl (fun m hm => ?_) (TabOk.cons rfl awake TabOk.nil)))
  · rw [List.mem_singleton] at hm
    subst hm
    exact memOk_of mo nogo (ConOk.none (wr := wr)) (by kernel_rfl) (badX_sound hO ptN_ok (badX_nil (rf16_12 _ (rho0_ok h))))
  · rw [List.mem_singleton] at hm
    subst hm
    exact memOk_of mo nogo (ConOk.none (wr := wr)) (by kernel_rfl) (badX_sound hO ptN_ok (badX_nil (rf20_12 _ (rho0_ok h))))
def ib13 : List (Int × Int) := [(3, 3), (1, 1), (0, 255), (0, 255), (0, 255), (0, 255), (1, 1), (-9223372036854775808, 9223372036854775807), (0, 18446744073709551615)]
def xb13 : List (List (Int × Int)) := xs31
noncomputable def im16_13 : Mem := ⟨16, [lget (symAs shs 0 0 ib13) 0], .val (.bool false)⟩
theorem rf16_13 (rho : Nat → Int) (ok : ∀ i p, ib13[i]? = some p → p.1 ≤ rho i ∧ rho i ≤ p.2) : @badX (enOf ib13 rho ok) xb13 (callL Try.prog G0 (@runF (enOf ib13 rho ok) Try.prog G0 100000) 0 im16_13.f im16_13.args .nil 0 (@resK (enOf ib13 rho ok) im16_13.res)) ptN = [] := by kernel_rfl
noncomputable def im20_13 : Mem := ⟨20, [lget (symAs shs 0 0 ib13) 0], .val (.bool false)⟩
theorem rf20_13 (rho : Nat → Int) (ok : ∀ i p, ib13[i]? = some p → p.1 ≤ rho i ∧ rho i ≤ p.2) : @badX (enOf ib13 rho ok) xb13 (callL Try.prog G0 (@runF (enOf ib13 rho ok) Try.prog G0 100000) 0 im20_13.f im20_13.args .nil 0 (@resK (enOf ib13 rho ok) im20_13.res)) ptN = [] := by kernel_rfl
noncomputable def Gi13 : Know := ⟨fun f => conM f [(16, [im16_13]), (20, [im20_13]), (11, maw)], wr⟩
theorem out13 {ns : List Int} (h : NotIn xsAll ns) : NotIn xb13 ns := fun b hb => h b (by unfold xsAll; simp only [List.mem_append]; simp only [xb13] at hb; simp [hb])
theorem con13 {ns : List Int} {Ls : Nat → Nat → Nat → Int} (hx : NotIn xsAll ns) (h : InD ib13 ns) : @OutB (enOf ib13 (rho0 ns Ls) (rho0_ok h)) xb13 ∧ @ConOk (enOf ib13 (rho0 ns Ls) (rho0_ok h)) Try.prog (@Fin (enOf ib13 (rho0 ns Ls) (rho0_ok h))) Gi13 := by
  have hlen : ns.length = 9 := h.len
  have hO : @OutB (enOf ib13 (rho0 ns Ls) (rho0_ok h)) xb13 := NotIn.out (out13 hx) (fun b hb => by
    have : xb13.all (fun b => Nat.ble b.length 9) = true := by decide
    rw [List.all_eq_true] at this
    rw [hlen]; exact Nat.le_of_ble_eq_true (this b hb))
  refine ⟨hO, ?_⟩
  letI : En := enOf ib13 (rho0 ns Ls) (rho0_ok h)
  refine TabOk.con (TabOk.cons rfl (fun m hm => ?_) (TabOk.cons rfl (fun m hm => ?_) (TabOk.cons rfl awake TabOk.nil)))
  · rw [List.mem_singleton] at hm
    subst hm
    exact memOk_of mo nogo (ConOk.none (wr := wr)) (by kernel_rfl) (badX_sound hO ptN_ok (badX_nil (rf16_13 _ (rho0_ok h))))
  · rw [List.mem_singleton] at hm
    subst hm
    exact memOk_of mo nogo (ConOk.none (wr := wr)) (by kernel_rfl) (badX_sound hO ptN_ok (badX_nil (rf20_13 _ (rho0_ok h))))
def ib14 : List (Int × Int) := [(3, 3), (1, 1), (0, 255), (0, 255), (0, 255), (0, 255), (2, 2), (-9223372036854775808, 9223372036854775807), (0, 18446744073709551615)]
def xb14 : List (List (Int × Int)) := xs31
noncomputable def im16_14 : Mem := ⟨16, [lget (symAs shs 0 0 ib14) 0], .val (.bool false)⟩
theorem rf16_14 (rho : Nat → Int) (ok : ∀ i p, ib14[i]? = some p → p.1 ≤ rho i ∧ rho i ≤ p.2) : @badX (enOf ib14 rho ok) xb14 (callL Try.prog G0 (@runF (enOf ib14 rho ok) Try.prog G0 100000) 0 im16_14.f im16_14.args .nil 0 (@resK (enOf ib14 rho ok) im16_14.res)) ptN = [] := by kernel_rfl
noncomputable def im20_14 : Mem := ⟨20, [lget (symAs shs 0 0 ib14) 0], .val (.bool false)⟩
theorem rf20_14 (rho : Nat → Int) (ok : ∀ i p, ib14[i]? = some p → p.1 ≤ rho i ∧ rho i ≤ p.2) : @badX (enOf ib14 rho ok) xb14 (callL Try.prog G0 (@runF (enOf ib14 rho ok) Try.prog G0 100000) 0 im20_14.f im20_14.args .nil 0 (@resK (enOf ib14 rho ok) im20_14.res)) ptN = [] := by kernel_rfl
noncomputable def Gi14 : Know := ⟨fun f => conM f [(16, [im16_14]), (20, [im20_14]), (11, maw)], wr⟩
theorem out14 {ns : List Int} (h : NotIn xsAll ns) : NotIn xb14 ns := fun b hb => h b (by unfold xsAll; simp only [List.mem_append]; simp only [xb14] at hb; simp [hb])
theorem con14 {ns : List Int} {Ls : Nat → Nat → Nat → Int} (hx : NotIn xsAll ns) (h : InD ib14 ns) : @OutB (enOf ib14 (rho0 ns Ls) (rho0_ok h)) xb14 ∧ @ConOk (enOf ib14 (rho0 ns Ls) (rho0_ok h)) Try.prog (@Fin (enOf ib14 (rho0 ns Ls) (rho0_ok h))) Gi14 := by
  have hlen : ns.length = 9 := h.len
  have hO : @OutB (enOf ib14 (rho0 ns Ls) (rho0_ok h)) xb14 := NotIn.out (out14 hx) (fun b hb => by
    have : xb14.all (fun b => Nat.ble b.length 9) = true := by decide
    rw [List.all_eq_true] at this
    rw [hlen]; exact Nat.le_of_ble_eq_true (this b hb))
  refine ⟨hO, ?_⟩
  letI : En := enOf ib14 (rho0 ns Ls) (rho0_ok h)
  refine TabOk.con (TabOk.cons rfl (fun m hm => ?_) (TabOk.cons rfl (fun m hm => ?_) (TabOk.cons rfl awake TabOk.nil)))
  · rw [List.mem_singleton] at hm
    subst hm
    exact memOk_of mo nogo (ConOk.none (wr := wr)) (by kernel_rfl) (badX_sound hO ptN_ok (badX_nil (rf16_14 _ (rho0_ok h))))
  · rw [List.mem_singleton] at hm
    subst hm
    exact memOk_of mo nogo (ConOk.none (wr := wr)) (by kernel_rfl) (badX_sound hO ptN_ok (badX_nil (rf20_14 _ (rho0_ok h))))
def ib15 : List (Int × Int) := [(3, 3), (1, 1), (0, 255), (0, 255), (0, 255), (0, 255), (3, 3), (-9223372036854775808, 9223372036854775807), (0, 18446744073709551615)]
def xb15 : List (List (Int × Int)) := xs31
noncomputable def im16_15 : Mem := ⟨16, [lget (symAs shs 0 0 ib15) 0], .val (.bool false)⟩
theorem rf16_15 (rho : Nat → Int) (ok : ∀ i p, ib15[i]? = some p → p.1 ≤ rho i ∧ rho i ≤ p.2) : @badX (enOf ib15 rho ok) xb15 (callL Try.prog G0 (@runF (enOf ib15 rho ok) Try.prog G0 100000) 0 im16_15.f im16_15.args .nil 0 (@resK (enOf ib15 rho ok) im16_15.res)) ptN = [] := by kernel_rfl
noncomputable def im20_15 : Mem := ⟨20, [lget (symAs shs 0 0 ib15) 0], .val (.bool false)⟩
theorem rf20_15 (rho : Nat → Int) (ok : ∀ i p, ib15[i]? = some p → p.1 ≤ rho i ∧ rho i ≤ p.2) : @badX (enOf ib15 rho ok) xb15 (callL Try.prog G0 (@runF (enOf ib15 rho ok) Try.prog G0 100000) 0 im20_15.f im20_15.args .nil 0 (@resK (enOf ib15 rho ok) im20_15.res)) ptN = [] := by kernel_rfl
noncomputable def Gi15 : Know := ⟨fun f => conM f [(16, [im16_15]), (20, [im20_15]), (11, maw)], wr⟩
theorem out15 {ns : List Int} (h : NotIn xsAll ns) : NotIn xb15 ns := fun b hb => h b (by unfold xsAll; simp only [List.mem_append]; simp only [xb15] at hb; simp [hb])
theorem con15 {ns : List Int} {Ls : Nat → Nat → Nat → Int} (hx : NotIn xsAll ns) (h : InD ib15 ns) : @OutB (enOf ib15 (rho0 ns Ls) (rho0_ok h)) xb15 ∧ @ConOk (enOf ib15 (rho0 ns Ls) (rho0_ok h)) Try.prog (@Fin (enOf ib15 (rho0 ns Ls) (rho0_ok h))) Gi15 := by
  have hlen : ns.length = 9 := h.len
  have hO : @OutB (enOf ib15 (rho0 ns Ls) (rho0_ok h)) xb15 := NotIn.out (out15 hx) (fun b hb => by
    have : xb15.all (fun b => Nat.ble b.length 9) = true := by decide
    rw [List.all_eq_true] at this
    rw [hlen]; exact Nat.le_of_ble_eq_true (this b hb))
  refine ⟨hO, ?_⟩
  letI : En := enOf ib15 (rho0 ns Ls) (rho0_ok h)
  refine TabOk.con (TabOk.cons rfl (fun m hm => ?_) (TabOk.cons rfl (fun m hm => ?_) (TabOk.cons rfl awake TabOk.nil)))
  · rw [List.mem_singleton] at hm
    subst hm
    exact memOk_of mo nogo (ConOk.none (wr := wr)) (by kernel_rfl) (badX_sound hO ptN_ok (badX_nil (rf16_15 _ (rho0_ok h))))
  · rw [List.mem_singleton] at hm
    subst hm
    exact memOk_of mo nogo (ConOk.none (wr := wr)) (by kernel_rfl) (badX_sound hO ptN_ok (badX_nil (rf20_15 _ (rho0_ok h))))
def ib16 : List (Int × Int) := [(3, 3), (1, 1), (0, 255), (0, 255), (0, 255), (0, 255), (4, 4), (-9223372036854775808, 9223372036854775807), (0, 18446744073709551615)]
def xb16 : List (List (Int × Int)) := xs31
noncomputable def im16_16 : Mem := ⟨16, [lget (symAs shs 0 0 ib16) 0], .val (.bool false)⟩
theorem rf16_16 (rho : Nat → Int) (ok : ∀ i p, ib16[i]? = some p → p.1 ≤ rho i ∧ rho i ≤ p.2) : @badX (enOf ib16 rho ok) xb16 (callL Try.prog G0 (@runF (enOf ib16 rho ok) Try.prog G0 100000) 0 im16_16.f im16_16.args .nil 0 (@resK (enOf ib16 rho ok) im16_16.res)) ptN = [] := by kernel_rfl
noncomputable def im20_16 : Mem := ⟨20, [lget (symAs shs 0 0 ib16) 0], .val (.bool false)⟩
theorem rf20_16 (rho : Nat → Int) (ok : ∀ i p, ib16[i]? = some p → p.1 ≤ rho i ∧ rho i ≤ p.2) : @badX (enOf ib16 rho ok) xb16 (callL Try.prog G0 (@runF (enOf ib16 rho ok) Try.prog G0 100000) 0 im20_16.f im20_16.args .nil 0 (@resK (enOf ib16 rho ok) im20_16.res)) ptN = [] := by kernel_rfl
noncomputable def Gi16 : Know := ⟨fun f => conM f [(16, [im16_16]), (20, [im20_16]), (11, maw)], wr⟩
theorem out16 {ns : List Int} (h : NotIn xsAll ns) : NotIn xb16 ns := fun b hb => h b (by unfold xsAll; simp only [List.mem_append]; simp only [xb16] at hb; simp [hb])
theorem con16 {ns : List Int} {Ls : Nat → Nat → Nat → Int} (hx : NotIn xsAll ns) (h : InD ib16 ns) : @OutB (enOf ib16 (rho0 ns Ls) (rho0_ok h)) xb16 ∧ @ConOk (enOf ib16 (rho0 ns Ls) (rho0_ok h)) Try.prog (@Fin (enOf ib16 (rho0 ns Ls) (rho0_ok h))) Gi16 := by
  have hlen : ns.length = 9 := h.len
  have hO : @OutB (enOf ib16 (rho0 ns Ls) (rho0_ok h)) xb16 := NotIn.out (out16 hx) (fun b hb => by
    have : xb16.all (fun b => Nat.ble b.length 9) = true := by decide
    rw [List.all_eq_true] at this
    rw [hlen]; exact Nat.le_of_ble_eq_true (this b hb))
  refine ⟨hO, ?_⟩
  letI : En := enOf ib16 (rho0 ns Ls) (rho0_ok h)
  refine TabOk.con (TabOk.cons rfl (fun m hm => ?_) (TabOk.cons rfl (fun m hm => ?_) (TabOk.cons rfl awake TabOk.nil)))
  · rw [List.mem_singleton] at hm
    subst hm
    exact memOk_of mo nogo (ConOk.none (wr := wr)) (by kernel_rfl) (badX_sound hO ptN_ok (badX_nil (rf16_16 _ (rho0_ok h))))
  · rw [List.mem_singleton] at hm
    subst hm
    exact memOk_of mo nogo (ConOk.none (wr := wr)) (by kernel_rfl) (badX_sound hO ptN_ok (badX_nil (rf20_16 _ (rho0_ok h))))
def ib17 : List (Int × Int) := [(3, 3), (1, 1), (0, 255), (0, 255), (0, 255), (0, 255), (5, 5), (-9223372036854775808, 9223372036854775807), (0, 18446744073709551615)]
def xb17 : List (List (Int × Int)) := xs31
noncomputable def im16_17 : Mem := ⟨16, [lget (symAs shs 0 0 ib17) 0], .val (.bool false)⟩
theorem rf16_17 (rho : Nat → Int) (ok : ∀ i p, ib17[i]? = some p → p.1 ≤ rho i ∧ rho i ≤ p.2) : @badX (enOf ib17 rho ok) xb17 (callL Try.prog G0 (@runF (enOf ib17 rho ok) Try.prog G0 100000) 0 im16_17.f im16_17.args .nil 0 (@resK (enOf ib17 rho ok) im16_17.res)) ptN = [] := by kernel_rfl
noncomputable def im20_17 : Mem := ⟨20, [lget (symAs shs 0 0 ib17) 0], .val (.bool false)⟩
theorem rf20_17 (rho : Nat → Int) (ok : ∀ i p, ib17[i]? = some p → p.1 ≤ rho i ∧ rho i ≤ p.2) : @badX (enOf ib17 rho ok) xb17 (callL Try.prog G0 (@runF (enOf ib17 rho ok) Try.prog G0 100000) 0 im20_17.f im20_17.args .nil 0 (@resK (enOf ib17 rho ok) im20_17.res)) ptN = [] := by kernel_rfl
noncomputable def Gi17 : Know := ⟨fun f => conM f [(16, [im16_17]), (20, [im20_17]), (11, maw)], wr⟩
theorem out17 {ns : List Int} (h : NotIn xsAll ns) : NotIn xb17 ns := fun b hb => h b (by unfold xsAll; simp only [List.mem_append]; simp only [xb17] at hb; simp [hb])
theorem con17 {ns : List Int} {Ls : Nat → Nat → Nat → Int} (hx : NotIn xsAll ns) (h : InD ib17 ns) : @OutB (enOf ib17 (rho0 ns Ls) (rho0_ok h)) xb17 ∧ @ConOk (enOf ib17 (rho0 ns Ls) (rho0_ok h)) Try.prog (@Fin (enOf ib17 (rho0 ns Ls) (rho0_ok h))) Gi17 := by
  have hlen : ns.length = 9 := h.len
  have hO : @OutB (enOf ib17 (rho0 ns Ls) (rho0_ok h)) xb17 := NotIn.out (out17 hx) (fun b hb => by
    have : xb17.all (fun b => Nat.ble b.length 9) = true := by decide
    rw [List.all_eq_true] at this
    rw [hlen]; exact Nat.le_of_ble_eq_true (this b hb))
  refine ⟨hO, ?_⟩
  letI : En := enOf ib17 (rho0 ns Ls) (rho0_ok h)
  refine TabOk.con (TabOk.cons rfl (fun m hm => ?_) (TabOk.cons rfl (fun m hm => ?_) (TabOk.cons rfl awake TabOk.nil)))
  · rw [List.mem_singleton] at hm
    subst hm
    exact memOk_of mo nogo (ConOk.none (wr := wr)) (by kernel_rfl) (badX_sound hO ptN_ok (badX_nil (rf16_17 _ (rho0_ok h))))
  · rw [List.mem_singleton] at hm
    subst hm
    exact memOk_of mo nogo (ConOk.none (wr := wr)) (by kernel_rfl) (badX_sound hO ptN_ok (badX_nil (rf20_17 _ (rho0_ok h))))
def ib18 : List (Int × Int) := [(3, 3), (1, 1), (0, 255), (0, 255), (0, 255), (0, 255), (6, 6), (-9223372036854775808, 9223372036854775807), (0, 18446744073709551615)]
def xb18 : List (List (Int × Int)) := xs31
noncomputable def im16_18 : Mem := ⟨16, [lget (symAs shs 0 0 ib18) 0], .val (.bool false)⟩
theorem rf16_18 (rho : Nat → Int) (ok : ∀ i p, ib18[i]? = some p → p.1 ≤ rho i ∧ rho i ≤ p.2) : @badX (enOf ib18 rho ok) xb18 (callL Try.prog G0 (@runF (enOf ib18 rho ok) Try.prog G0 100000) 0 im16_18.f im16_18.args .nil 0 (@resK (enOf ib18 rho ok) im16_18.res)) ptN = [] := by kernel_rfl
noncomputable def im20_18 : Mem := ⟨20, [lget (symAs shs 0 0 ib18) 0], .val (.bool false)⟩
theorem rf20_18 (rho : Nat → Int) (ok : ∀ i p, ib18[i]? = some p → p.1 ≤ rho i ∧ rho i ≤ p.2) : @badX (enOf ib18 rho ok) xb18 (callL Try.prog G0 (@runF (enOf ib18 rho ok) Try.prog G0 100000) 0 im20_18.f im20_18.args .nil 0 (@resK (enOf ib18 rho ok) im20_18.res)) ptN = [] := by kernel_rfl
noncomputable def Gi18 : Know := ⟨fun f => conM f [(16, [im16_18]), (20, [im20_18]), (11, maw)], wr⟩
theorem out18 {ns : List Int} (h : NotIn xsAll ns) : NotIn xb18 ns := fun b hb => h b (by unfold xsAll; simp only [List.mem_append]; simp only [xb18] at hb; simp [hb])
theorem con18 {ns : List Int} {Ls : Nat → Nat → Nat → Int} (hx : NotIn xsAll ns) (h : InD ib18 ns) : @OutB (enOf ib18 (rho0 ns Ls) (rho0_ok h)) xb18 ∧ @ConOk (enOf ib18 (rho0 ns Ls) (rho0_ok h)) Try.prog (@Fin (enOf ib18 (rho0 ns Ls) (rho0_ok h))) Gi18 := by
  have hlen : ns.length = 9 := h.len
  have hO : @OutB (enOf ib18 (rho0 ns Ls) (rho0_ok h)) xb18 := NotIn.out (out18 hx) (fun b hb => by
    have : xb18.all (fun b => Nat.ble b.length 9) = true := by decide
    rw [List.all_eq_true] at this
    rw [hlen]; exact Nat.le_of_ble_eq_true (this b hb))
  refine ⟨hO, ?_⟩
  letI : En := enOf ib18 (rho0 ns Ls) (rho0_ok h)
  refine TabOk.con (TabOk.cons rfl (fun m hm => ?_) (TabOk.cons rfl (fun m hm => ?_) (TabOk.cons rfl awake TabOk.nil)))
  · rw [List.mem_singleton] at hm
    subst hm
    exact memOk_of mo nogo (ConOk.none (wr := wr)) (by kernel_rfl) (badX_sound hO ptN_ok (badX_nil (rf16_18 _ (rho0_ok h))))
  · rw [List.mem_singleton] at hm
    subst hm
    exact memOk_of mo nogo (ConOk.none (wr := wr)) (by kernel_rfl) (badX_sound hO ptN_ok (badX_nil (rf20_18 _ (rho0_ok h))))
def ib19 : List (Int × Int) := [(3, 3), (1, 1), (0, 255), (0, 255), (0, 255), (0, 255), (7, 7), (-9223372036854775808, 9223372036854775807), (0, 18446744073709551615)]
def xb19 : List (List (Int × Int)) := xs31
noncomputable def im16_19 : Mem := ⟨16, [lget (symAs shs 0 0 ib19) 0], .val (.bool false)⟩
theorem rf16_19 (rho : Nat → Int) (ok : ∀ i p, ib19[i]? = some p → p.1 ≤ rho i ∧ rho i ≤ p.2) : @badX (enOf ib19 rho ok) xb19 (callL Try.prog G0 (@runF (enOf ib19 rho ok) Try.prog G0 100000) 0 im16_19.f im16_19.args .nil 0 (@resK (enOf ib19 rho ok) im16_19.res)) ptN = [] := by kernel_rfl
noncomputable def im20_19 : Mem := ⟨20, [lget (symAs shs 0 0 ib19) 0], .val (.bool false)⟩
theorem rf20_19 (rho : Nat → Int) (ok : ∀ i p, ib19[i]? = some p → p.1 ≤ rho i ∧ rho i ≤ p.2) : @badX (enOf ib19 rho ok) xb19 (callL Try.prog G0 (@runF (enOf ib19 rho ok) Try.prog G0 100000) 0 im20_19.f im20_19.args .nil 0 (@resK (enOf ib19 rho ok) im20_19.res)) ptN = [] := by kernel_rfl
noncomputable def Gi19 : Know := ⟨fun f => conM f [(16, [im16_19]), (20, [im20_19]), (11, maw)], wr⟩
theorem out19 {ns : List Int} (h : NotIn xsAll ns) : NotIn xb19 ns := fun b hb => h b (by unfold xsAll; simp only [List.mem_append]; simp only [xb19] at hb; simp [hb])
theorem con19 {ns : List Int} {Ls : Nat → Nat → Nat → Int} (hx : NotIn xsAll ns) (h : InD ib19 ns) : @OutB (enOf ib19 (rho0 ns Ls) (rho0_ok h)) xb19 ∧ @ConOk (enOf ib19 (rho0 ns Ls) (rho0_ok h)) Try.prog (@Fin (enOf ib19 (rho0 ns Ls) (rho0_ok h))) Gi19 := by
  have hlen : ns.length = 9 := h.len
  have hO : @OutB (enOf ib19 (rho0 ns Ls) (rho0_ok h)) xb19 := NotIn.out (out19 hx) (fun b hb => by
    have : xb19.all (fun b => Nat.ble b.length 9) = true := by decide
    rw [List.all_eq_true] at this
    rw [hlen]; exact Nat.le_of_ble_eq_true (this b hb))
  refine ⟨hO, ?_⟩
  letI : En := enOf ib19 (rho0 ns Ls) (rho0_ok h)
  refine TabOk.con (TabOk.cons rfl (fun m hm => ?_) (TabOk.cons rfl (fun m hm => ?_) (TabOk.cons rfl awake TabOk.nil)))
  · rw [List.mem_singleton] at hm
    subst hm
    exact memOk_of mo nogo (ConOk.none (wr := wr)) (by kernel_rfl) (badX_sound hO ptN_ok (badX_nil (rf16_19 _ (rho0_ok h))))
  · rw [List.mem_singleton] at hm
    subst hm
    exact memOk_of mo nogo (ConOk.none (wr := wr)) (by kernel_rfl) (badX_sound hO ptN_ok (badX_nil (rf20_19 _ (rho0_ok h))))
def ib20 : List (Int × Int) := [(3, 3), (1, 1), (0, 255), (0, 255), (0, 255), (0, 255), (8, 255), (-9223372036854775808, 9223372036854775807), (0, 18446744073709551615)]
def xb20 : List (List (Int × Int)) := xs31
noncomputable def im16_20 : Mem := ⟨16, [lget (symAs shs 0 0 ib20) 0], .val (.bool false)⟩
theorem rf16_20 (rho : Nat → Int) (ok : ∀ i p, ib20[i]? = some p → p.1 ≤ rho i ∧ rho i ≤ p.2) : @badX (enOf ib20 rho ok) xb20 (callL Try.prog G0 (@runF (enOf ib20 rho ok) Try.prog G0 100000) 0 im16_20.f im16_20.args .nil 0 (@resK (enOf ib20 rho ok) im16_20.res)) ptN = [] := by kernel_rfl
noncomputable def im20_20 : Mem := ⟨20, [lget (symAs shs 0 0 ib20) 0], .val (.bool false)⟩
theorem rf20_20 (rho : Nat → Int) (ok : ∀ i p, ib20[i]? = some p → p.1 ≤ rho i ∧ rho i ≤ p.2) : @badX (enOf ib20 rho ok) xb20 (callL Try.prog G0 (@runF (enOf ib20 rho ok) Try.prog G0 100000) 0 im20_20.f im20_20.args .nil 0 (@resK (enOf ib20 rho ok) im20_20.res)) ptN = [] := by kernel_rfl
noncomputable def Gi20 : Know := ⟨fun f => conM f [(16, [im16_20]), (20, [im20_20]), (11, maw)], wr⟩
theorem out20 {ns : List Int} (h : NotIn xsAll ns) : NotIn xb20 ns := fun b hb => h b (by unfold xsAll; simp only [List.mem_append]; simp only [xb20] at hb; simp [hb])
theorem con20 {ns : List Int} {Ls : Nat → Nat → Nat → Int} (hx : NotIn xsAll ns) (h : InD ib20 ns) : @OutB (enOf ib20 (rho0 ns Ls) (rho0_ok h)) xb20 ∧ @ConOk (enOf ib20 (rho0 ns Ls) (rho0_ok h)) Try.prog (@Fin (enOf ib20 (rho0 ns Ls) (rho0_ok h))) Gi20 := by
  have hlen : ns.length = 9 := h.len
  have hO : @OutB (enOf ib20 (rho0 ns Ls) (rho0_ok h)) xb20 := NotIn.out (out20 hx) (fun b hb => by
    have : xb20.all (fun b => Nat.ble b.length 9) = true := by decide
    rw [List.all_eq_true] at this
    rw [hlen]; exact Nat.le_of_ble_eq_true (this b hb))
  refine ⟨hO, ?_⟩
  letI : En := enOf ib20 (rho0 ns Ls) (rho0_ok h)
  refine TabOk.con (TabOk.cons rfl (fun m hm => ?_) (TabOk.cons rfl (fun m hm => ?_) (TabOk.cons rfl awake TabOk.nil)))
  · rw [List.mem_singleton] at hm
    subst hm
    exact memOk_of mo nogo (ConOk.none (wr := wr)) (by kernel_rfl) (badX_sound hO ptN_ok (badX_nil (rf16_20 _ (rho0_ok h))))
  · rw [List.mem_singleton] at hm
    subst hm
    exact memOk_of mo nogo (ConOk.none (wr := wr)) (by kernel_rfl) (badX_sound hO ptN_ok (badX_nil (rf20_20 _ (rho0_ok h))))
def ib21 : List (Int × Int) := [(3, 3), (2, 2), (0, 255), (0, 255), (0, 255), (0, 255), (0, 0), (-9223372036854775808, 9223372036854775807), (0, 18446744073709551615)]
def xb21 : List (List (Int × Int)) := xs32
noncomputable def im16_21 : Mem := ⟨16, [lget (symAs shs 0 0 ib21) 0], .val (.bool false)⟩
theorem rf16_21 (rho : Nat → Int) (ok : ∀ i p, ib21[i]? = some p → p.1 ≤ rho i ∧ rho i ≤ p.2) : @badX (enOf ib21 rho ok) xb21 (callL Try.prog G0 (@runF (enOf ib21 rho ok) Try.prog G0 100000) 0 im16_21.f im16_21.args .nil 0 (@resK (enOf ib21 rho ok) im16_21.res)) ptN = [] := by kernel_rfl
noncomputable def im20_21 : Mem := ⟨20, [lget (symAs shs 0 0 ib21) 0], .val (.bool false)⟩
theorem rf20_21 (rho : Nat → Int) (ok : ∀ i p, ib21[i]? = some p → p.1 ≤ rho i ∧ rho i ≤ p.2) : @badX (enOf ib21 rho ok) xb21 (callL Try.prog G0 (@runF (enOf ib21 rho ok) Try.prog G0 100000) 0 im20_21.f im20_21.args .nil 0 (@resK (enOf ib21 rho ok) im20_21.res)) ptN = [] := by kernel_rfl
noncomputable def Gi21 : Know := ⟨fun f => conM f [(16, [im16_21]), (20, [im20_21]), (11, maw)], wr⟩
theorem out21 {ns : List Int} (h : NotIn xsAll ns) : NotIn xb21 ns := fun b hb => h b (by unfold xsAll; simp only [List.mem_append]; simp only [xb21] at hb; simp [hb])
theorem con21 {ns : List Int} {Ls : Nat → Nat → Nat → Int} (hx : NotIn xsAll ns) (h : InD ib21 ns) : @OutB (enOf ib21 (rho0 ns Ls) (rho0_ok h)) xb21 ∧ @ConOk (enOf ib21 (rho0 ns Ls) (rho0_ok h)) Try.prog (@Fin (enOf ib21 (rho0 ns Ls) (rho0_ok h))) Gi21 := by
  have hlen : ns.length = 9 := h.len
  have hO : @OutB (enOf ib21 (rho0 ns Ls) (rho0_ok h)) xb21 := NotIn.out (out21 hx) (fun b hb => by
    have : xb21.all (fun b => Nat.ble b.length 9) = true := by decide
    rw [List.all_eq_true] at this
    rw [hlen]; exact Nat.le_of_ble_eq_true (this b hb))
  refine ⟨hO, ?_⟩
  letI : En := enOf ib21 (rho0 ns Ls) (rho0_ok h)
  refine TabOk.con (TabOk.cons rfl (fun m hm => ?_) (TabOk.cons rfl (fun m hm => ?_) (TabOk.cons rfl awake TabOk.nil)))
  · rw [List.mem_singleton] at hm
    subst hm
    exact memOk_of mo nogo (ConOk.none (wr := wr)) (by kernel_rfl) (badX_sound hO ptN_ok (badX_nil (rf16_21 _ (rho0_ok h))))
  · rw [List.mem_singleton] at hm
    subst hm
    exact memOk_of mo nogo (ConOk.none (wr := wr)) (by kernel_rfl) (badX_sound hO ptN_ok (badX_nil (rf20_21 _ (rho0_ok h))))
def ib22 : List (Int × Int) := [(3, 3), (2, 2), (0, 255), (0, 255), (0, 255), (0, 255), (1, 1), (-9223372036854775808, 9223372036854775807), (0, 18446744073709551615)]
def xb22 : List (List (Int × Int)) := xs32
noncomputable def im16_22 : Mem := ⟨16, [lget (symAs shs 0 0 ib22) 0], .val (.bool false)⟩
theorem rf16_22 (rho : Nat → Int) (ok : ∀ i p, ib22[i]? = some p → p.1 ≤ rho i ∧ rho i ≤ p.2) : @badX (enOf ib22 rho ok) xb22 (callL Try.prog G0 (@runF (enOf ib22 rho ok) Try.prog G0 100000) 0 im16_22.f im16_22.args .nil 0 (@resK (enOf ib22 rho ok) im16_22.res)) ptN = [] := by kernel_rfl
noncomputable def im20_22 : Mem := ⟨20, [lget (symAs shs 0 0 ib22) 0], .val (.bool false)⟩
theorem rf20_22 (rho : Nat → Int) (ok : ∀ i p, ib22[i]? = some p → p.1 ≤ rho i ∧ rho i ≤ p.2) : @badX (enOf ib22 rho ok) xb22 (callL Try.prog G0 (@runF (enOf ib22 rho ok) Try.prog G0 100000) 0 im20_22.f im20_22.args .nil 0 (@resK (enOf ib22 rho ok) im20_22.res)) ptN = [] := by kernel_rfl
noncomputable def Gi22 : Know := ⟨fun f => conM f [(16, [im16_22]), (20, [im20_22]), (11, maw)], wr⟩
theorem out22 {ns : List Int} (h : NotIn xsAll ns) : NotIn xb22 ns := fun b hb => h b (by unfold xsAll; simp only [List.mem_append]; simp only [xb22] at hb; simp [hb])
theorem con22 {ns : List Int} {Ls : Nat → Nat → Nat → Int} (hx : NotIn xsAll ns) (h : InD ib22 ns) : @OutB (enOf ib22 (rho0 ns Ls) (rho0_ok h)) xb22 ∧ @ConOk (enOf ib22 (rho0 ns Ls) (rho0_ok h)) Try.prog (@Fin (enOf ib22 (rho0 ns Ls) (rho0_ok h))) Gi22 := by
  have hlen : ns.length = 9 := h.len
  have hO : @OutB (enOf ib22 (rho0 ns Ls) (rho0_ok h)) xb22 := NotIn.out (out22 hx) (fun b hb => by
    have : xb22.all (fun b => Nat.ble b.length 9) = true := by decide
    rw [List.all_eq_true] at this
    rw [hlen]; exact Nat.le_of_ble_eq_true (this b hb))
  refine ⟨hO, ?_⟩
  letI : En := enOf ib22 (rho0 ns Ls) (rho0_ok h)
  refine TabOk.con (TabOk.cons rfl (fun m hm => ?_) (TabOk.cons rfl (fun m hm => ?_) (TabOk.cons rfl awake TabOk.nil)))
  · rw [List.mem_singleton] at hm
    subst hm
    exact memOk_of mo nogo (ConOk.none (wr := wr)) (by kernel_rfl) (badX_sound hO ptN_ok (badX_nil (rf16_22 _ (rho0_ok h))))
  · rw [List.mem_singleton] at hm
    subst hm
    exact memOk_of mo nogo (ConOk.none (wr := wr)) (by kernel_rfl) (badX_sound hO ptN_ok (badX_nil (rf20_22 _ (rho0_ok h))))
def ib23 : List (Int × Int) := [(3, 3), (2, 2), (0, 255), (0, 255), (0, 255), (0, 255), (2, 2), (-9223372036854775808, 9223372036854775807), (0, 18446744073709551615)]
def xb23 : List (List (Int × Int)) := xs32
noncomputable def im16_23 : Mem := ⟨16, [lget (symAs shs 0 0 ib23) 0], .val (.bool false)⟩
theorem rf16_23 (rho : Nat → Int) (ok : ∀ i p, ib23[i]? = some p → p.1 ≤ rho i ∧ rho i ≤ p.2) : @badX (enOf ib23 rho ok) xb23 (callL Try.prog G0 (@runF (enOf ib23 rho ok) Try.prog G0 100000) 0 im16_23.f im16_23.args .nil 0 (@resK (enOf ib23 rho ok) im16_23.res)) ptN = [] := by kernel_rfl
noncomputable def im20_23 : Mem := ⟨20, [lget (symAs shs 0 0 ib23) 0], .val (.bool false)⟩
theorem rf20_23 (rho : Nat → Int) (ok : ∀ i p, ib23[i]? = some p → p.1 ≤ rho i ∧ rho i ≤ p.2) : @badX (enOf ib23 rho ok) xb23 (callL Try.prog G0 (@runF (enOf ib23 rho ok) Try.prog G0 100000) 0 im20_23.f im20_23.args .nil 0 (@resK (enOf ib23 rho ok) im20_23.res)) ptN = [] := by kernel_rfl
noncomputable def Gi23 : Know := ⟨fun f => conM f [(16, [im16_23]), (20, [im20_23]), (11, maw)], wr⟩
theorem out23 {ns : List Int} (h : NotIn xsAll ns) : NotIn xb23 ns := fun b hb => h b (by unfold xsAll; simp only [List.mem_append]; simp only [xb23] at hb; simp [hb])
theorem con23 {ns : List Int} {Ls : Nat → Nat → Nat → Int} (hx : NotIn xsAll ns) (h : InD ib23 ns) : @OutB (enOf ib23 (rho0 ns Ls) (rho0_ok h)) xb23 ∧ @ConOk (enOf ib23 (rho0 ns Ls) (rho0_ok h)) Try.prog (@Fin (enOf ib23 (rho0 ns Ls) (rho0_ok h))) Gi23 := by
  have hlen : ns.length = 9 := h.len
  have hO : @OutB (enOf ib23 (rho0 ns Ls) (rho0_ok h)) xb23 := NotIn.out (out23 hx) (fun b hb => by
    have : xb23.all (fun b => Nat.ble b.length 9) = true := by decide
    rw [List.all_eq_true] at this
    rw [hlen]; exact Nat.le_of_ble_eq_true (this b hb))
  refine ⟨hO, ?_⟩
  letI : En := enOf ib23 (rho0 ns Ls) (rho0_ok h)
  refine TabOk.con (TabOk.cons rfl (fun m hm => ?_) (TabOk.cons rfl (fun m hm => ?_) (TabOk.cons rfl awake TabOk.nil)))
  · rw [List.mem_singleton] at hm
    subst hm
    exact memOk_of mo nogo (ConOk.none (wr := wr)) (by kernel_rfl) (badX_sound hO ptN_ok (badX_nil (rf16_23 _ (rho0_ok h))))
  · rw [List.mem_singleton] at hm
    subst hm
    exact memOk_of mo nogo (ConOk.none (wr := wr)) (by kernel_rfl) (badX_sound hO ptN_ok (badX_nil (rf20_23 _ (rho0_ok h))))
def ib24 : List (Int × Int) := [(3, 3), (2, 2), (0, 255), (0, 255), (0, 255), (0, 255), (3, 3), (-9223372036854775808, 9223372036854775807), (0, 18446744073709551615)]
def xb24 : List (List (Int × Int)) := xs32
noncomputable def im16_24 : Mem := ⟨16, [lget (symAs shs 0 0 ib24) 0], .val (.bool false)⟩
theorem rf16_24 (rho : Nat → Int) (ok : ∀ i p, ib24[i]? = some p → p.1 ≤ rho i ∧ rho i ≤ p.2) : @badX (enOf ib24 rho ok) xb24 (callL Try.prog G0 (@runF (enOf ib24 rho ok) Try.prog G0 100000) 0 im16_24.f im16_24.args .nil 0 (@resK (enOf ib24 rho ok) im16_24.res)) ptN = [] := by kernel_rfl
noncomputable def im20_24 : Mem := ⟨20, [lget (symAs shs 0 0 ib24) 0], .val (.bool false)⟩
theorem rf20_24 (rho : Nat → Int) (ok : ∀ i p, ib24[i]? = some p → p.1 ≤ rho i ∧ rho i ≤ p.2) : @badX (enOf ib24 rho ok) xb24 (callL Try.prog G0 (@runF (enOf ib24 rho ok) Try.prog G0 100000) 0 im20_24.f im20_24.args .nil 0 (@resK (enOf ib24 rho ok) im20_24.res)) ptN = [] := by kernel_rfl
noncomputable def Gi24 : Know := ⟨fun f => conM f [(16, [im16_24]), (20, [im20_24]), (11, maw)], wr⟩
theorem out24 {ns : List Int} (h : NotIn xsAll ns) : NotIn xb24 ns := fun b hb => h b (by unfold xsAll; simp only [List.mem_append]; simp only [xb24] at hb; simp [hb])
theorem con24 {ns : List Int} {Ls : Nat → Nat → Nat → Int} (hx : NotIn xsAll ns) (h : InD ib24 ns) : @OutB (enOf ib24 (rho0 ns Ls) (rho0_ok h)) xb24 ∧ @ConOk (enOf ib24 (rho0 ns Ls) (rho0_ok h)) Try.prog (@Fin (enOf ib24 (rho0 ns Ls) (rho0_ok h))) Gi24 := by
  have hlen : ns.length = 9 := h.len
  have hO : @OutB (enOf ib24 (rho0 ns Ls) (rho0_ok h)) xb24 := NotIn.out (out24 hx) (fun b hb => by
    have : xb24.all (fun b => Nat.ble b.length 9) = true := by decide
    rw [List.all_eq_true] at this
    rw [hlen]; exact Nat.le_of_ble_eq_true (this b hb))
  refine ⟨hO, ?_⟩
  letI : En := enOf ib24 (rho0 ns Ls) (rho0_ok h)
  refine TabOk.con (TabOk.cons rfl (fun m hm => ?_) (TabOk.cons rfl (fun m hm => ?_) (TabOk.cons rfl awake TabOk.nil)))
  · rw [List.mem_singleton] at hm
    subst hm
    exact memOk_of mo nogo (ConOk.none (wr := wr)) (by kernel_rfl) (badX_sound hO ptN_ok (badX_nil (rf16_24 _ (rho0_ok h))))
  · rw [List.mem_singleton] at hm
    subst hm
    exact memOk_of mo nogo (ConOk.none (wr := wr)) (by kernel_rfl) (badX_sound hO ptN_ok (badX_nil (rf20_24 _ (rho0_ok h))))
def ib25 : List (Int × Int) := [(3, 3), (2, 2), (0, 255), (0, 255), (0, 255), (0, 255), (4, 4), (-9223372036854775808, 9223372036854775807), (0, 18446744073709551615)]
def xb25 : List (List (Int × Int)) := xs32
noncomputable def im16_25 : Mem := ⟨16, [lget (symAs shs 0 0 ib25) 0], .val (.bool false)⟩
theorem rf16_25 (rho : Nat → Int) (ok : ∀ i p, ib25[i]? = some p → p.1 ≤ rho i ∧ rho i ≤ p.2) : @badX (enOf ib25 rho ok) xb25 (callL Try.prog G0 (@runF (enOf ib25 rho ok) Try.prog G0 100000) 0 im16_25.f im16_25.args .nil 0 (@resK (enOf ib25 rho ok) im16_25.res)) ptN = [] := by kernel_rfl
noncomputable def im20_25 : Mem := ⟨20, [lget (symAs shs 0 0 ib25) 0], .val (.bool false)⟩
theorem rf20_25 (rho : Nat → Int) (ok : ∀ i p, ib25[i]? = some p → p.1 ≤ rho i ∧ rho i ≤ p.2) : @badX (enOf ib25 rho ok) xb25 (callL Try.prog G0 (@runF (enOf ib25 rho ok) Try.prog G0 100000) 0 im20_25.f im20_25.args .nil 0 (@resK (enOf ib25 rho ok) im20_25.res)) ptN = [] := by kernel_rfl
noncomputable def Gi25 : Know := ⟨fun f => conM f [(16, [im16_25]), (20, [im20_25]), (11, maw)], wr⟩
theorem out25 {ns : List Int} (h : NotIn xsAll ns) : NotIn xb25 ns := fun b hb => h b (by unfold xsAll; simp only [List.mem_append]; simp only [xb25] at hb; simp [hb])
theorem con25 {ns : List Int} {Ls : Nat → Nat → Nat → Int} (hx : NotIn xsAll ns) (h : InD ib25 ns) : @OutB (enOf ib25 (rho0 ns Ls) (rho0_ok h)) xb25 ∧ @ConOk (enOf ib25 (rho0 ns Ls) (rho0_ok h)) Try.prog (@Fin (enOf ib25 (rho0 ns Ls) (rho0_ok h))) Gi25 := by
  have hlen : ns.length = 9 := h.len
  have hO : @OutB (enOf ib25 (rho0 ns Ls) (rho0_ok h)) xb25 := NotIn.out (out25 hx) (fun b hb => by
    have : xb25.all (fun b => Nat.ble b.length 9) = true := by decide
    rw [List.all_eq_true] at this
    rw [hlen]; exact Nat.le_of_ble_eq_true (this b hb))
  refine ⟨hO, ?_⟩
  letI : En := enOf ib25 (rho0 ns Ls) (rho0_ok h)
  refine TabOk.con (TabOk.cons rfl (fun m hm => ?_) (TabOk.cons rfl (fun m hm => ?_) (TabOk.cons rfl awake TabOk.nil)))
  · rw [List.mem_singleton] at hm
    subst hm
    exact memOk_of mo nogo (ConOk.none (wr := wr)) (by kernel_rfl) (badX_sound hO ptN_ok (badX_nil (rf16_25 _ (rho0_ok h))))
  · rw [List.mem_singleton] at hm
    subst hm
    exact memOk_of mo nogo (ConOk.none (wr := wr)) (by kernel_rfl) (badX_sound hO ptN_ok (badX_nil (rf20_25 _ (rho0_ok h))))
def ib26 : List (Int × Int) := [(3, 3), (2, 2), (0, 255), (0, 255), (0, 255), (0, 255), (5, 5), (-9223372036854775808, 9223372036854775807), (0, 18446744073709551615)]
def xb26 : List (List (Int × Int)) := xs32
noncomputable def im16_26 : Mem := ⟨16, [lget (symAs shs 0 0 ib26) 0], .val (.bool false)⟩
theorem rf16_26 (rho : Nat → Int) (ok : ∀ i p, ib26[i]? = some p → p.1 ≤ rho i ∧ rho i ≤ p.2) : @badX (enOf ib26 rho ok) xb26 (callL Try.prog G0 (@runF (enOf ib26 rho ok) Try.prog G0 100000) 0 im16_26.f im16_26.args .nil 0 (@resK (enOf ib26 rho ok) im16_26.res)) ptN = [] := by kernel_rfl
noncomputable def im20_26 : Mem := ⟨20, [lget (symAs shs 0 0 ib26) 0], .val (.bool false)⟩
theorem rf20_26 (rho : Nat → Int) (ok : ∀ i p, ib26[i]? = some p → p.1 ≤ rho i ∧ rho i ≤ p.2) : @badX (enOf ib26 rho ok) xb26 (callL Try.prog G0 (@runF (enOf ib26 rho ok) Try.prog G0 100000) 0 im20_26.f im20_26.args .nil 0 (@resK (enOf ib26 rho ok) im20_26.res)) ptN = [] := by kernel_rfl
noncomputable def Gi26 : Know := ⟨fun f => conM f [(16, [im16_26]), (20, [im20_26]), (11, maw)], wr⟩
theorem out26 {ns : List Int} (h : NotIn xsAll ns) : NotIn xb26 ns := fun b hb => h b (by unfold xsAll; simp only [List.mem_append]; simp only [xb26] at hb; simp [hb])
theorem con26 {ns : List Int} {Ls : Nat → Nat → Nat → Int} (hx : NotIn xsAll ns) (h : InD ib26 ns) : @OutB (enOf ib26 (rho0 ns Ls) (rho0_ok h)) xb26 ∧ @ConOk (enOf ib26 (rho0 ns Ls) (rho0_ok h)) Try.prog (@Fin (enOf ib26 (rho0 ns Ls) (rho0_ok h))) Gi26 := by
  have hlen : ns.length = 9 := h.len
  have hO : @OutB (enOf ib26 (rho0 ns Ls) (rho0_ok h)) xb26 := NotIn.out (out26 hx) (fun b hb => by
    have : xb26.all (fun b => Nat.ble b.length 9) = true := by decide
    rw [List.all_eq_true] at this
    rw [hlen]; exact Nat.le_of_ble_eq_true (this b hb))
  refine ⟨hO, ?_⟩
  letI : En := enOf ib26 (rho0 ns Ls) (rho0_ok h)
  refine TabOk.con (TabOk.cons rfl (fun m hm => ?_) (TabOk.cons rfl (fun m hm => ?_) (TabOk.cons rfl awake TabOk.nil)))
  · rw [List.mem_singleton] at hm
    subst hm
    exact memOk_of mo nogo (ConOk.none (wr := wr)) (by kernel_rfl) (badX_sound hO ptN_ok (badX_nil (rf16_26 _ (rho0_ok h))))
  · rw [List.mem_singleton] at hm
    subst hm
    exact memOk_of mo nogo (ConOk.none (wr := wr)) (by kernel_rfl) (badX_sound hO ptN_ok (badX_nil (rf20_26 _ (rho0_ok h))))
def ib27 : List (Int × Int) := [(3, 3), (2, 2), (0, 255), (0, 255), (0, 255), (0, 255), (6, 6), (-9223372036854775808, 9223372036854775807), (0, 18446744073709551615)]
def xb27 : List (List (Int × Int)) := xs32
noncomputable def im16_27 : Mem := ⟨16, [lget (symAs shs 0 0 ib27) 0], .val (.bool false)⟩
theorem rf16_27 (rho : Nat → Int) (ok : ∀ i p, ib27[i]? = some p → p.1 ≤ rho i ∧ rho i ≤ p.2) : @badX (enOf ib27 rho ok) xb27 (callL Try.prog G0 (@runF (enOf ib27 rho ok) Try.prog G0 100000) 0 im16_27.f im16_27.args .nil 0 (@resK (enOf ib27 rho ok) im16_27.res)) ptN = [] := by kernel_rfl
noncomputable def im20_27 : Mem := ⟨20, [lget (symAs shs 0 0 ib27) 0], .val (.bool false)⟩
theorem rf20_27 (rho : Nat → Int) (ok : ∀ i p, ib27[i]? = some p → p.1 ≤ rho i ∧ rho i ≤ p.2) : @badX (enOf ib27 rho ok) xb27 (callL Try.prog G0 (@runF (enOf ib27 rho ok) Try.prog G0 100000) 0 im20_27.f im20_27.args .nil 0 (@resK (enOf ib27 rho ok) im20_27.res)) ptN = [] := by kernel_rfl
noncomputable def Gi27 : Know := ⟨fun f => conM f [(16, [im16_27]), (20, [im20_27]), (11, maw)], wr⟩
theorem out27 {ns : List Int} (h : NotIn xsAll ns) : NotIn xb27 ns := fun b hb => h b (by unfold xsAll; simp only [List.mem_append]; simp only [xb27] at hb; simp [hb])
theorem con27 {ns : List Int} {Ls : Nat → Nat → Nat → Int} (hx : NotIn xsAll ns) (h : InD ib27 ns) : @OutB (enOf ib27 (rho0 ns Ls) (rho0_ok h)) xb27 ∧ @ConOk (enOf ib27 (rho0 ns Ls) (rho0_ok h)) Try.prog (@Fin (enOf ib27 (rho0 ns Ls) (rho0_ok h))) Gi27 := by
  have hlen : ns.length = 9 := h.len
  have hO : @OutB (enOf ib27 (rho0 ns Ls) (rho0_ok h)) xb27 := NotIn.out (out27 hx) (fun b hb => by
    have : xb27.all (fun b => Nat.ble b.length 9) = true := by decide
    rw [List.all_eq_true] at this
    rw [hlen]; exact Nat.le_of_ble_eq_true (this b hb))
  refine ⟨hO, ?_⟩
  letI : En := enOf ib27 (rho0 ns Ls) (rho0_ok h)
  refine TabOk.con (TabOk.cons rfl (fun m hm => ?_) (TabOk.cons rfl (fun m hm => ?_) (TabOk.cons rfl awake TabOk.nil)))
  · rw [List.mem_singleton] at hm
    subst hm
    exact memOk_of mo nogo (ConOk.none (wr := wr)) (by kernel_rfl) (badX_sound hO ptN_ok (badX_nil (rf16_27 _ (rho0_ok h))))
  · rw [List.mem_singleton] at hm
    subst hm
    exact memOk_of mo nogo (ConOk.none (wr := wr)) (by kernel_rfl) (badX_sound hO ptN_ok (badX_nil (rf20_27 _ (rho0_ok h))))
def ib28 : List (Int × Int) := [(3, 3), (2, 2), (0, 255), (0, 255), (0, 255), (0, 255), (7, 7), (-9223372036854775808, 9223372036854775807), (0, 18446744073709551615)]
def xb28 : List (List (Int × Int)) := xs32
noncomputable def im16_28 : Mem := ⟨16, [lget (symAs shs 0 0 ib28) 0], .val (.bool false)⟩
theorem rf16_28 (rho : Nat → Int) (ok : ∀ i p, ib28[i]? = some p → p.1 ≤ rho i ∧ rho i ≤ p.2) : @badX (enOf ib28 rho ok) xb28 (callL Try.prog G0 (@runF (enOf ib28 rho ok) Try.prog G0 100000) 0 im16_28.f im16_28.args .nil 0 (@resK (enOf ib28 rho ok) im16_28.res)) ptN = [] := by kernel_rfl
noncomputable def im20_28 : Mem := ⟨20, [lget (symAs shs 0 0 ib28) 0], .val (.bool false)⟩
theorem rf20_28 (rho : Nat → Int) (ok : ∀ i p, ib28[i]? = some p → p.1 ≤ rho i ∧ rho i ≤ p.2) : @badX (enOf ib28 rho ok) xb28 (callL Try.prog G0 (@runF (enOf ib28 rho ok) Try.prog G0 100000) 0 im20_28.f im20_28.args .nil 0 (@resK (enOf ib28 rho ok) im20_28.res)) ptN = [] := by kernel_rfl
noncomputable def Gi28 : Know := ⟨fun f => conM f [(16, [im16_28]), (20, [im20_28]), (11, maw)], wr⟩
theorem out28 {ns : List Int} (h : NotIn xsAll ns) : NotIn xb28 ns := fun b hb => h b (by unfold xsAll; simp only [List.mem_append]; simp only [xb28] at hb; simp [hb])
theorem con28 {ns : List Int} {Ls : Nat → Nat → Nat → Int} (hx : NotIn xsAll ns) (h : InD ib28 ns) : @OutB (enOf ib28 (rho0 ns Ls) (rho0_ok h)) xb28 ∧ @ConOk (enOf ib28 (rho0 ns Ls) (rho0_ok h)) Try.prog (@Fin (enOf ib28 (rho0 ns Ls) (rho0_ok h))) Gi28 := by
  have hlen : ns.length = 9 := h.len
  have hO : @OutB (enOf ib28 (rho0 ns Ls) (rho0_ok h)) xb28 := NotIn.out (out28 hx) (fun b hb => by
    have : xb28.all (fun b => Nat.ble b.length 9) = true := by decide
    rw [List.all_eq_true] at this
    rw [hlen]; exact Nat.le_of_ble_eq_true (this b hb))
  refine ⟨hO, ?_⟩
  letI : En := enOf ib28 (rho0 ns Ls) (rho0_ok h)
  refine TabOk.con (TabOk.cons rfl (fun m hm => ?_) (TabOk.cons rfl (fun m hm => ?_) (TabOk.cons rfl awake TabOk.nil)))
  · rw [List.mem_singleton] at hm
    subst hm
    exact memOk_of mo nogo (ConOk.none (wr := wr)) (by kernel_rfl) (badX_sound hO ptN_ok (badX_nil (rf16_28 _ (rho0_ok h))))
  · rw [List.mem_singleton] at hm
    subst hm
    exact memOk_of mo nogo (ConOk.none (wr := wr)) (by kernel_rfl) (badX_sound hO ptN_ok (badX_nil (rf20_28 _ (rho0_ok h))))
def ib29 : List (Int × Int) := [(3, 3), (2, 2), (0, 255), (0, 255), (0, 255), (0, 255), (8, 255), (-9223372036854775808, 9223372036854775807), (0, 18446744073709551615)]
def xb29 : List (List (Int × Int)) := xs32
noncomputable def im16_29 : Mem := ⟨16, [lget (symAs shs 0 0 ib29) 0], .val (.bool false)⟩
theorem rf16_29 (rho : Nat → Int) (ok : ∀ i p, ib29[i]? = some p → p.1 ≤ rho i ∧ rho i ≤ p.2) : @badX (enOf ib29 rho ok) xb29 (callL Try.prog G0 (@runF (enOf ib29 rho ok) Try.prog G0 100000) 0 im16_29.f im16_29.args .nil 0 (@resK (enOf ib29 rho ok) im16_29.res)) ptN = [] := by kernel_rfl
noncomputable def im20_29 : Mem := ⟨20, [lget (symAs shs 0 0 ib29) 0], .val (.bool false)⟩
theorem rf20_29 (rho : Nat → Int) (ok : ∀ i p, ib29[i]? = some p → p.1 ≤ rho i ∧ rho i ≤ p.2) : @badX (enOf ib29 rho ok) xb29 (callL Try.prog G0 (@runF (enOf ib29 rho ok) Try.prog G0 100000) 0 im20_29.f im20_29.args .nil 0 (@resK (enOf ib29 rho ok) im20_29.res)) ptN = [] := by kernel_rfl
noncomputable def Gi29 : Know := ⟨fun f => conM f [(16, [im16_29]), (20, [im20_29]), (11, maw)], wr⟩
theorem out29 {ns : List Int} (h : NotIn xsAll ns) : NotIn xb29 ns := fun b hb => h b (by unfold xsAll; simp only [List.mem_append]; simp only [xb29] at hb; simp [hb])
theorem con29 {ns : List Int} {Ls : Nat → Nat → Nat → Int} (hx : NotIn xsAll ns) (h : InD ib29 ns) : @OutB (enOf ib29 (rho0 ns Ls) (rho0_ok h)) xb29 ∧ @ConOk (enOf ib29 (rho0 ns Ls) (rho0_ok h)) Try.prog (@Fin (enOf ib29 (rho0 ns Ls) (rho0_ok h))) Gi29 := by
  have hlen : ns.length = 9 := h.len
  have hO : @OutB (enOf ib29 (rho0 ns Ls) (rho0_ok h)) xb29 := NotIn.out (out29 hx) (fun b hb => by
    have : xb29.all (fun b => Nat.ble b.length 9) = true := by decide
    rw [List.all_eq_true] at this
    rw [hlen]; exact Nat.le_of_ble_eq_true (this b hb))
  refine ⟨hO, ?_⟩
  letI : En := enOf ib29 (rho0 ns Ls) (rho0_ok h)
  refine TabOk.con (TabOk.cons rfl (fun m hm => ?_) (TabOk.cons rfl (fun m hm => ?_) (TabOk.cons rfl awake TabOk.nil)))
  · rw [List.mem_singleton] at hm
    subst hm
    exact memOk_of mo nogo (ConOk.none (wr := wr)) (by kernel_rfl) (badX_sound hO ptN_ok (badX_nil (rf16_29 _ (rho0_ok h))))
  · rw [List.mem_singleton] at hm
    subst hm
    exact memOk_of mo nogo (ConOk.none (wr := wr)) (by kernel_rfl) (badX_sound hO ptN_ok (badX_nil (rf20_29 _ (rho0_ok h))))
def ib30 : List (Int × Int) := [(3, 3), (3, 3), (0, 255), (0, 255), (0, 255), (0, 255), (0, 0), (-9223372036854775808, 9223372036854775807), (0, 18446744073709551615)]
def xb30 : List (List (Int × Int)) := xs33
noncomputable def im16_30 : Mem := ⟨16, [lget (symAs shs 0 0 ib30) 0], .val (.bool false)⟩
theorem rf16_30 (rho : Nat → Int) (ok : ∀ i p, ib30[i]? = some p → p.1 ≤ rho i ∧ rho i ≤ p.2) : @badX (enOf ib30 rho ok) xb30 (callL Try.prog G0 (@runF (enOf ib30 rho ok) Try.prog G0 100000) 0 im16_30.f im16_30.args .nil 0 (@resK (enOf ib30 rho ok) im16_30.res)) ptN = [] := by kernel_rfl
noncomputable def im20_30 : Mem := ⟨20, [lget (symAs shs 0 0 ib30) 0], .val (.bool false)⟩
theorem rf20_30 (rho : Nat → Int) (ok : ∀ i p, ib30[i]? = some p → p.1 ≤ rho i ∧ rho i ≤ p.2) : @badX (enOf ib30 rho ok) xb30 (callL Try.prog G0 (@runF (enOf ib30 rho ok) Try.prog G0 100000) 0 im20_30.f im20_30.args .nil 0 (@resK (enOf ib30 rho ok) im20_30.res)) ptN = [] := by kernel_rfl
noncomputable def Gi30 : Know := ⟨fun f => conM f [(16, [im16_30]), (20, [im20_30]), (11, maw)], wr⟩
theorem out30 {ns : List Int} (h : NotIn xsAll ns) : NotIn xb30 ns := fun b hb => h b (by unfold xsAll; simp only [List.mem_append]; simp only [xb30] at hb; simp [hb])
theorem con30 {ns : List Int} {Ls : Nat → Nat → Nat → Int} (hx : NotIn xsAll ns) (h : InD ib30 ns) : @OutB (enOf ib30 (rho0 ns Ls) (rho0_ok h)) xb30 ∧ @ConOk (enOf ib30 (rho0 ns Ls) (rho0_ok h)) Try.prog (@Fin (enOf ib30 (rho0 ns Ls) (rho0_ok h))) Gi30 := by
  have hlen : ns.length = 9 := h.len
  have hO : @OutB (enOf ib30 (rho0 ns Ls) (rho0_ok h)) xb30 := NotIn.out (out30 hx) (fun b hb => by
    have : xb30.all (fun b => Nat.ble b.length 9) = true := by decide
    rw [List.all_eq_true] at this
    rw [hlen]; exact Nat.le_of_ble_eq_true (this b hb))
  refine ⟨hO, ?_⟩
  letI : En := enOf ib30 (rho0 ns Ls) (rho0_ok h)
  refine TabOk.con (TabOk.cons rfl (fun m hm => ?_) (TabOk.cons rfl (fun m hm => ?_) (TabOk.cons rfl awake TabOk.nil)))
  · rw [List.mem_singleton] at hm
    subst hm
    exact memOk_of mo nogo (ConOk.none (wr := wr)) (by kernel_rfl) (badX_sound hO ptN_ok (badX_nil (rf16_30 _ (rho0_ok h))))
  · rw [List.mem_singleton] at hm
    subst hm
    exact memOk_of mo nogo (ConOk.none (wr := wr)) (by kernel_rfl) (badX_sound hO ptN_ok (badX_nil (rf20_30 _ (rho0_ok h))))
def ib31 : List (Int × Int) := [(3, 3), (3, 3), (0, 255), (0, 255), (0, 255), (0, 255), (1, 1), (-9223372036854775808, 9223372036854775807), (0, 18446744073709551615)]
def xb31 : List (List (Int × Int)) := xs33
noncomputable def im16_31 : Mem := ⟨16, [lget (symAs shs 0 0 ib31) 0], .val (.bool false)⟩
theorem rf16_31 (rho : Nat → Int) (ok : ∀ i p, ib31[i]? = some p → p.1 ≤ rho i ∧ rho i ≤ p.2) : @badX (enOf ib31 rho ok) xb31 (callL Try.prog G0 (@runF (enOf ib31 rho ok) Try.prog G0 100000) 0 im16_31.f im16_31.args .nil 0 (@resK (enOf ib31 rho ok) im16_31.res)) ptN = [] := by kernel_rfl
noncomputable def im20_31 : Mem := ⟨20, [lget (symAs shs 0 0 ib31) 0], .val (.bool false)⟩
theorem rf20_31 (rho : Nat → Int) (ok : ∀ i p, ib31[i]? = some p → p.1 ≤ rho i ∧ rho i ≤ p.2) : @badX (enOf ib31 rho ok) xb31 (callL Try.prog G0 (@runF (enOf ib31 rho ok) Try.prog G0 100000) 0 im20_31.f im20_31.args .nil 0 (@resK (enOf ib31 rho ok) im20_31.res)) ptN = [] := by kernel_rfl
noncomputable def Gi31 : Know := ⟨fun f => conM f [(16, [im16_31]), (20, [im20_31]), (11, maw)], wr⟩
theorem out31 {ns : List Int} (h : NotIn xsAll ns) : NotIn xb31 ns := fun b hb => h b (by unfold xsAll; simp only [List.mem_append]; simp only [xb31] at hb; simp [hb])
theorem con31 {ns : List Int} {Ls : Nat → Nat → Nat → Int} (hx : NotIn xsAll ns) (h : InD ib31 ns) : @OutB (enOf ib31 (rho0 ns Ls) (rho0_ok h)) xb31 ∧ @ConOk (enOf ib31 (rho0 ns Ls) (rho0_ok h)) Try.prog (@Fin (enOf ib31 (rho0 ns Ls) (rho0_ok h))) Gi31 := by
  have hlen : ns.length = 9 := h.len
  have hO : @OutB (enOf ib31 (rho0 ns Ls) (rho0_ok h)) xb31 := NotIn.out (out31 hx) (fun b hb => by
    have : xb31.all (fun b => Nat.ble b.length 9) = true := by decide
    rw [List.all_eq_true] at this
    rw [hlen]; exact Nat.le_of_ble_eq_true (this b hb))
  refine ⟨hO, ?_⟩
  letI : En := enOf ib31 (rho0 ns Ls) (rho0_ok h)
  refine TabOk.con (TabOk.cons rfl (fun m hm => ?_) (TabOk.cons rfl (fun m hm => ?_) (TabOk.cons rfl awake TabOk.nil)))
  · rw [List.mem_singleton] at hm
    subst hm
    exact memOk_of mo nogo (ConOk.none (wr := wr)) (by kernel_rfl) (badX_sound hO ptN_ok (badX_nil (rf16_31 _ (rho0_ok h))))
  · rw [List.mem_singleton] at hm
    subst hm
    exact memOk_of mo nogo (ConOk.none (wr := wr)) (by kernel_rfl) (badX_sound hO ptN_ok (badX_nil (rf20_31 _ (rho0_ok h))))
def ib32 : List (Int × Int) := [(3, 3), (3, 3), (0, 255), (0, 255), (0, 255), (0, 255), (2, 2), (-9223372036854775808, 9223372036854775807), (0, 18446744073709551615)]
def xb32 : List (List (Int × Int)) := xs33
noncomputable def im16_32 : Mem := ⟨16, [lget (symAs shs 0 0 ib32) 0], .val (.bool false)⟩
theorem rf16_32 (rho : Nat → Int) (ok : ∀ i p, ib32[i]? = some p → p.1 ≤ rho i ∧ rho i ≤ p.2) : @badX (enOf ib32 rho ok) xb32 (callL Try.prog G0 (@runF (enOf ib32 rho ok) Try.prog G0 100000) 0 im16_32.f im16_32.args .nil 0 (@resK (enOf ib32 rho ok) im16_32.res)) ptN = [] := by kernel_rfl
noncomputable def im20_32 : Mem := ⟨20, [lget (symAs shs 0 0 ib32) 0], .val (.bool false)⟩
theorem rf20_32 (rho : Nat → Int) (ok : ∀ i p, ib32[i]? = some p → p.1 ≤ rho i ∧ rho i ≤ p.2) : @badX (enOf ib32 rho ok) xb32 (callL Try.prog G0 (@runF (enOf ib32 rho ok) Try.prog G0 100000) 0 im20_32.f im20_32.args .nil 0 (@resK (enOf ib32 rho ok) im20_32.res)) ptN = [] := by kernel_rfl
noncomputable def Gi32 : Know := ⟨fun f => conM f [(16, [im16_32]), (20, [im20_32]), (11, maw)], wr⟩
theorem out32 {ns : List Int} (h : NotIn xsAll ns) : NotIn xb32 ns := fun b hb => h b (by unfold xsAll; simp only [List.mem_append]; simp only [xb32] at hb; simp [hb])
theorem con32 {ns : List Int} {Ls : Nat → Nat → Nat → Int} (hx : NotIn xsAll ns) (h : InD ib32 ns) : @OutB (enOf ib32 (rho0 ns Ls) (rho0_ok h)) xb32 ∧ @ConOk (enOf ib32 (rho0 ns Ls) (rho0_ok h)) Try.prog (@Fin (enOf ib32 (rho0 ns Ls) (rho0_ok h))) Gi32 := by
  have hlen : ns.length = 9 := h.len
  have hO : @OutB (enOf ib32 (rho0 ns Ls) (rho0_ok h)) xb32 := NotIn.out (out32 hx) (fun b hb => by
    have : xb32.all (fun b => Nat.ble b.length 9) = true := by decide
    rw [List.all_eq_true] at this
    rw [hlen]; exact Nat.le_of_ble_eq_true (this b hb))
  refine ⟨hO, ?_⟩
  letI : En := enOf ib32 (rho0 ns Ls) (rho0_ok h)
  refine TabOk.con (TabOk.cons rfl (fun m hm => ?_) (TabOk.cons rfl (fun m hm => ?_) (TabOk.cons rfl awake TabOk.nil)))
  · rw [List.mem_singleton] at hm
    subst hm
    exact memOk_of mo nogo (ConOk.none (wr := wr)) (by kernel_rfl) (badX_sound hO ptN_ok (badX_nil (rf16_32 _ (rho0_ok h))))
  · rw [List.mem_singleton] at hm
    subst hm
    exact memOk_of mo nogo (ConOk.none (wr := wr)) (by kernel_rfl) (badX_sound hO ptN_ok (badX_nil (rf20_32 _ (rho0_ok h))))
def ib33 : List (Int × Int) := [(3, 3), (3, 3), (0, 255), (0, 255), (0, 255), (0, 255), (3, 3), (-9223372036854775808, 9223372036854775807), (0, 18446744073709551615)]
def xb33 : List (List (Int × Int)) := xs33
noncomputable def im16_33 : Mem := ⟨16, [lget (symAs shs 0 0 ib33) 0], .val (.bool false)⟩
theorem rf16_33 (rho : Nat → Int) (ok : ∀ i p, ib33[i]? = some p → p.1 ≤ rho i ∧ rho i ≤ p.2) : @badX (enOf ib33 rho ok) xb33 (callL Try.prog G0 (@runF (enOf ib33 rho ok) Try.prog G0 100000) 0 im16_33.f im16_33.args .nil 0 (@resK (enOf ib33 rho ok) im16_33.res)) ptN = [] := by kernel_rfl
noncomputable def im20_33 : Mem := ⟨20, [lget (symAs shs 0 0 ib33) 0], .val (.bool false)⟩
theorem rf20_33 (rho : Nat → Int) (ok : ∀ i p, ib33[i]? = some p → p.1 ≤ rho i ∧ rho i ≤ p.2) : @badX (enOf ib33 rho ok) xb33 (callL Try.prog G0 (@runF (enOf ib33 rho ok) Try.prog G0 100000) 0 im20_33.f im20_33.args .nil 0 (@resK (enOf ib33 rho ok) im20_33.res)) ptN = [] := by kernel_rfl
noncomputable def Gi33 : Know := ⟨fun f => conM f [(16, [im16_33]), (20, [im20_33]), (11, maw)], wr⟩
theorem out33 {ns : List Int} (h : NotIn xsAll ns) : NotIn xb33 ns := fun b hb => h b (by unfold xsAll; simp only [List.mem_append]; simp only [xb33] at hb; simp [hb])
theorem con33 {ns : List Int} {Ls : Nat → Nat → Nat → Int} (hx : NotIn xsAll ns) (h : InD ib33 ns) : @OutB (enOf ib33 (rho0 ns Ls) (rho0_ok h)) xb33 ∧ @ConOk (enOf ib33 (rho0 ns Ls) (rho0_ok h)) Try.prog (@Fin (enOf ib33 (rho0 ns Ls) (rho0_ok h))) Gi33 := by
  have hlen : ns.length = 9 := h.len
  have hO : @OutB (enOf ib33 (rho0 ns Ls) (rho0_ok h)) xb33 := NotIn.out (out33 hx) (fun b hb => by
    have : xb33.all (fun b => Nat.ble b.length 9) = true := by decide
    rw [List.all_eq_true] at this
    rw [hlen]; exact Nat.le_of_ble_eq_true (this b hb))
  refine ⟨hO, ?_⟩
  letI : En := enOf ib33 (rho0 ns Ls) (rho0_ok h)
  refine TabOk.con (TabOk.cons rfl (fun m hm => ?_) (TabOk.cons rfl (fun m hm => ?_) (TabOk.cons rfl awake TabOk.nil)))
  · rw [List.mem_singleton] at hm
    subst hm
    exact memOk_of mo nogo (ConOk.none (wr := wr)) (by kernel_rfl) (badX_sound hO ptN_ok (badX_nil (rf16_33 _ (rho0_ok h))))
  · rw [List.mem_singleton] at hm
    subst hm
    exact memOk_of mo nogo (ConOk.none (wr := wr)) (by kernel_rfl) (badX_sound hO ptN_ok (badX_nil (rf20_33 _ (rho0_ok h))))
def ib34 : List (Int × Int) := [(3, 3), (3, 3), (0, 255), (0, 255), (0, 255), (0, 255), (4, 4), (-9223372036854775808, 9223372036854775807), (0, 18446744073709551615)]
def xb34 : List (List (Int × Int)) := xs33
noncomputable def im16_34 : Mem := ⟨16, [lget (symAs shs 0 0 ib34) 0], .val (.bool false)⟩
theorem rf16_34 (rho : Nat → Int) (ok : ∀ i p, ib34[i]? = some p → p.1 ≤ rho i ∧ rho i ≤ p.2) : @badX (enOf ib34 rho ok) xb34 (callL Try.prog G0 (@runF (enOf ib34 rho ok) Try.prog G0 100000) 0 im16_34.f im16_34.args .nil 0 (@resK (enOf ib34 rho ok) im16_34.res)) ptN = [] := by kernel_rfl
noncomputable def im20_34 : Mem := ⟨20, [lget (symAs shs 0 0 ib34) 0], .val (.bool false)⟩
theorem rf20_34 (rho : Nat → Int) (ok : ∀ i p, ib34[i]? = some p → p.1 ≤ rho i ∧ rho i ≤ p.2) : @badX (enOf ib34 rho ok) xb34 (callL Try.prog G0 (@runF (enOf ib34 rho ok) Try.prog G0 100000) 0 im20_34.f im20_34.args .nil 0 (@resK (enOf ib34 rho ok) im20_34.res)) ptN = [] := by kernel_rfl
noncomputable def Gi34 : Know := ⟨fun f => conM f [(16, [im16_34]), (20, [im20_34]), (11, maw)], wr⟩
theorem out34 {ns : List Int} (h : NotIn xsAll ns) : NotIn xb34 ns := fun b hb => h b (by unfold xsAll; simp only [List.mem_append]; simp only [xb34] at hb; simp [hb])
theorem con34 {ns : List Int} {Ls : Nat → Nat → Nat → Int} (hx : NotIn xsAll ns) (h : InD ib34 ns) : @OutB (enOf ib34 (rho0 ns Ls) (rho0_ok h)) xb34 ∧ @ConOk (enOf ib34 (rho0 ns Ls) (rho0_ok h)) Try.prog (@Fin (enOf ib34 (rho0 ns Ls) (rho0_ok h))) Gi34 := by
  have hlen : ns.length = 9 := h.len
  have hO : @OutB (enOf ib34 (rho0 ns Ls) (rho0_ok h)) xb34 := NotIn.out (out34 hx) (fun b hb => by
    have : xb34.all (fun b => Nat.ble b.length 9) = true := by decide
    rw [List.all_eq_true] at this
    rw [hlen]; exact Nat.le_of_ble_eq_true (this b hb))
  refine ⟨hO, ?_⟩
  letI : En := enOf ib34 (rho0 ns Ls) (rho0_ok h)
  refine TabOk.con (TabOk.cons rfl (fun m hm => ?_) (TabOk.cons rfl (fun m hm => ?_) (TabOk.cons rfl awake TabOk.nil)))
  · rw [List.mem_singleton] at hm
    subst hm
    exact memOk_of mo nogo (ConOk.none (wr := wr)) (by kernel_rfl) (badX_sound hO ptN_ok (badX_nil (rf16_34 _ (rho0_ok h))))
  · rw [List.mem_singleton] at hm
    subst hm
    exact memOk_of mo nogo (ConOk.none (wr := wr)) (by kernel_rfl) (badX_sound hO ptN_ok (badX_nil (rf20_34 _ (rho0_ok h))))
def ib35 : List (Int × Int) := [(3, 3), (3, 3), (0, 255), (0, 255), (0, 255), (0, 255), (5, 5), (-9223372036854775808, 9223372036854775807), (0, 18446744073709551615)]
def xb35 : List (List (Int × Int)) := xs33
noncomputable def im16_35 : Mem := ⟨16, [lget (symAs shs 0 0 ib35) 0], .val (.bool false)⟩
theorem rf16_35 (rho : Nat → Int) (ok : ∀ i p, ib35[i]? = some p → p.1 ≤ rho i ∧ rho i ≤ p.2) : @badX (enOf ib35 rho ok) xb35 (callL Try.prog G0 (@runF (enOf ib35 rho ok) Try.prog G0 100000) 0 im16_35.f im16_35.args .nil 0 (@resK (enOf ib35 rho ok) im16_35.res)) ptN = [] := by kernel_rfl
noncomputable def im20_35 : Mem := ⟨20, [lget (symAs shs 0 0 ib35) 0], .val (.bool false)⟩
theorem rf20_35 (rho : Nat → Int) (ok : ∀ i p, ib35[i]? = some p → p.1 ≤ rho i ∧ rho i ≤ p.2) : @badX (enOf ib35 rho ok) xb35 (callL Try.prog G0 (@runF (enOf ib35 rho ok) Try.prog G0 100000) 0 im20_35.f im20_35.args .nil 0 (@resK (enOf ib35 rho ok) im20_35.res)) ptN = [] := by kernel_rfl
noncomputable def Gi35 : Know := ⟨fun f => conM f [(16, [im16_35]), (20, [im20_35]), (11, maw)], wr⟩
theorem out35 {ns : List Int} (h : NotIn xsAll ns) : NotIn xb35 ns := fun b hb => h b (by unfold xsAll; simp only [List.mem_append]; simp only [xb35] at hb; simp [hb])
theorem con35 {ns : List Int} {Ls : Nat → Nat → Nat → Int} (hx : NotIn xsAll ns) (h : InD ib35 ns) : @OutB (enOf ib35 (rho0 ns Ls) (rho0_ok h)) xb35 ∧ @ConOk (enOf ib35 (rho0 ns Ls) (rho0_ok h)) Try.prog (@Fin (enOf ib35 (rho0 ns Ls) (rho0_ok h))) Gi35 := by
  have hlen : ns.length = 9 := h.len
  have hO : @OutB (enOf ib35 (rho0 ns Ls) (rho0_ok h)) xb35 := NotIn.out (out35 hx) (fun b hb => by
    have : xb35.all (fun b => Nat.ble b.length 9) = true := by decide
    rw [List.all_eq_true] at this
    rw [hlen]; exact Nat.le_of_ble_eq_true (this b hb))
  refine ⟨hO, ?_⟩
  letI : En := enOf ib35 (rho0 ns Ls) (rho0_ok h)
  refine TabOk.con (TabOk.cons rfl (fun m hm => ?_) (TabOk.cons rfl (fun m hm => ?_) (TabOk.cons rfl awake TabOk.nil)))
  · rw [List.mem_singleton] at hm
    subst hm
    exact memOk_of mo nogo (ConOk.none (wr := wr)) (by kernel_rfl) (badX_sound hO ptN_ok (badX_nil (rf16_35 _ (rho0_ok h))))
  · rw [List.mem_singleton] at hm
    subst hm
    exact memOk_of mo nogo (ConOk.none (wr := wr)) (by kernel_rfl) (badX_sound hO ptN_ok (badX_nil (rf20_35 _ (rho0_ok h))))
def ib36 : List (Int × Int) := [(3, 3), (3, 3), (0, 255), (0, 255), (0, 255), (0, 255), (6, 6), (-9223372036854775808, 9223372036854775807), (0, 18446744073709551615)]
def xb36 : List (List (Int × Int)) := xs33
noncomputable def im16_36 : Mem := ⟨16, [lget (symAs shs 0 0 ib36) 0], .val (.bool false)⟩
theorem rf16_36 (rho : Nat → Int) (ok : ∀ i p, ib36[i]? = some p → p.1 ≤ rho i ∧ rho i ≤ p.2) : @badX (enOf ib36 rho ok) xb36 (callL Try.prog G0 (@runF (enOf ib36 rho ok) Try.prog G0 100000) 0 im16_36.f im16_36.args .nil 0 (@resK (enOf ib36 rho ok) im16_36.res)) ptN = [] := by kernel_rfl
noncomputable def im20_36 : Mem := ⟨20, [lget (symAs shs 0 0 ib36) 0], .val (.bool false)⟩
theorem rf20_36 (rho : Nat → Int) (ok : ∀ i p, ib36[i]? = some p → p.1 ≤ rho i ∧ rho i ≤ p.2) : @badX (enOf ib36 rho ok) xb36 (callL Try.prog G0 (@runF (enOf ib36 rho ok) Try.prog G0 100000) 0 im20_36.f im20_36.args .nil 0 (@resK (enOf ib36 rho ok) im20_36.res)) ptN = [] := by kernel_rfl
noncomputable def Gi36 : Know := ⟨fun f => conM f [(16, [im16_36]), (20, [im20_36]), (11, maw)], wr⟩
theorem out36 {ns : List Int} (h : NotIn xsAll ns) : NotIn xb36 ns := fun b hb => h b (by unfold xsAll; simp only [List.mem_append]; simp only [xb36] at hb; simp [hb])
theorem con36 {ns : List Int} {Ls : Nat → Nat → Nat → Int} (hx : NotIn xsAll ns) (h : InD ib36 ns) : @OutB (enOf ib36 (rho0 ns Ls) (rho0_ok h)) xb36 ∧ @ConOk (enOf ib36 (rho0 ns Ls) (rho0_ok h)) Try.prog (@Fin (enOf ib36 (rho0 ns Ls) (rho0_ok h))) Gi36 := by
  have hlen : ns.length = 9 := h.len
  have hO : @OutB (enOf ib36 (rho0 ns Ls) (rho0_ok h)) xb36 := NotIn.out (out36 hx) (fun b hb => by
    have : xb36.all (fun b => Nat.ble b.length 9) = true := by decide
    rw [List.all_eq_true] at this
    rw [hlen]; exact Nat.le_of_ble_eq_true (this b hb))
  refine ⟨hO, ?_⟩
  letI : En := enOf ib36 (rho0 ns Ls) (rho0_ok h)
  refine TabOk.con (TabOk.cons rfl (fun m hm => ?_) (TabOk.cons rfl (fun m hm => ?_) (TabOk.cons rfl awake TabOk.nil)))
  · rw [List.mem_singleton] at hm
    subst hm
    exact memOk_of mo nogo (ConOk.none (wr := wr)) (by kernel_rfl) (badX_sound hO ptN_ok (badX_nil (rf16_36 _ (rho0_ok h))))
  · rw [List.mem_singleton] at hm
    subst hm
    exact memOk_of mo nogo (ConOk.none (wr := wr)) (by kernel_rfl) (badX_sound hO ptN_ok (badX_nil (rf20_36 _ (rho0_ok h))))
def ib37 : List (Int × Int) := [(3, 3), (3, 3), (0, 255), (0, 255), (0, 255), (0, 255), (7, 7), (-9223372036854775808, 9223372036854775807), (0, 18446744073709551615)]
def xb37 : List (List (Int × Int)) := xs33
noncomputable def im16_37 : Mem := ⟨16, [lget (symAs shs 0 0 ib37) 0], .val (.bool false)⟩
theorem rf16_37 (rho : Nat → Int) (ok : ∀ i p, ib37[i]? = some p → p.1 ≤ rho i ∧ rho i ≤ p.2) : @badX (enOf ib37 rho ok) xb37 (callL Try.prog G0 (@runF (enOf ib37 rho ok) Try.prog G0 100000) 0 im16_37.f im16_37.args .nil 0 (@resK (enOf ib37 rho ok) im16_37.res)) ptN = [] := by kernel_rfl
noncomputable def im20_37 : Mem := ⟨20, [lget (symAs shs 0 0 ib37) 0], .val (.bool false)⟩
theorem rf20_37 (rho : Nat → Int) (ok : ∀ i p, ib37[i]? = some p → p.1 ≤ rho i ∧ rho i ≤ p.2) : @badX (enOf ib37 rho ok) xb37 (callL Try.prog G0 (@runF (enOf ib37 rho ok) Try.prog G0 100000) 0 im20_37.f im20_37.args .nil 0 (@resK (enOf ib37 rho ok) im20_37.res)) ptN = [] := by kernel_rfl
noncomputable def Gi37 : Know := ⟨fun f => conM f [(16, [im16_37]), (20, [im20_37]), (11, maw)], wr⟩
theorem out37 {ns : List Int} (h : NotIn xsAll ns) : NotIn xb37 ns := fun b hb => h b (by unfold xsAll; simp only [List.mem_append]; simp only [xb37] at hb; simp [hb])
theorem con37 {ns : List Int} {Ls : Nat → Nat → Nat → Int} (hx : NotIn xsAll ns) (h : InD ib37 ns) : @OutB (enOf ib37 (rho0 ns Ls) (rho0_ok h)) xb37 ∧ @ConOk (enOf ib37 (rho0 ns Ls) (rho0_ok h)) Try.prog (@Fin (enOf ib37 (rho0 ns Ls) (rho0_ok h))) Gi37 := by
  have hlen : ns.length = 9 := h.len
  have hO : @OutB (enOf ib37 (rho0 ns Ls) (rho0_ok h)) xb37 := NotIn.out (out37 hx) (fun b hb => by
    have : xb37.all (fun b => Nat.ble b.length 9) = true := by decide
    rw [List.all_eq_true] at this
    rw [hlen]; exact Nat.le_of_ble_eq_true (this b hb))
  refine ⟨hO, ?_⟩
  letI : En := enOf ib37 (rho0 ns Ls) (rho0_ok h)
  refine TabOk.con (TabOk.cons rfl (fun m hm => ?_) (TabOk.cons rfl (fun m hm => ?_) (TabOk.cons rfl awake TabOk.nil)))
  · rw [List.mem_singleton] at hm
    subst hm
    exact memOk_of mo nogo (ConOk.none (wr := wr)) (by kernel_rfl) (badX_sound hO ptN_ok (badX_nil (rf16_37 _ (rho0_ok h))))
  · rw [List.mem_singleton] at hm
    subst hm
    exact memOk_of mo nogo (ConOk.none (wr := wr)) (by kernel_rfl) (badX_sound hO ptN_ok (badX_nil (rf20_37 _ (rho0_ok h))))
def ib38 : List (Int × Int) := [(3, 3), (3, 3), (0, 255), (0, 255), (0, 255), (0, 255), (8, 255), (-9223372036854775808, 9223372036854775807), (0, 18446744073709551615)]
def xb38 : List (List (Int × Int)) := xs33
noncomputable def im16_38 : Mem := ⟨16, [lget (symAs shs 0 0 ib38) 0], .val (.bool false)⟩
theorem rf16_38 (rho : Nat → Int) (ok : ∀ i p, ib38[i]? = some p → p.1 ≤ rho i ∧ rho i ≤ p.2) : @badX (enOf ib38 rho ok) xb38 (callL Try.prog G0 (@runF (enOf ib38 rho ok) Try.prog G0 100000) 0 im16_38.f im16_38.args .nil 0 (@resK (enOf ib38 rho ok) im16_38.res)) ptN = [] := by kernel_rfl
noncomputable def im20_38 : Mem := ⟨20, [lget (symAs shs 0 0 ib38) 0], .val (.bool false)⟩
theorem rf20_38 (rho : Nat → Int) (ok : ∀ i p, ib38[i]? = some p → p.1 ≤ rho i ∧ rho i ≤ p.2) : @badX (enOf ib38 rho ok) xb38 (callL Try.prog G0 (@runF (enOf ib38 rho ok) Try.prog G0 100000) 0 im20_38.f im20_38.args .nil 0 (@resK (enOf ib38 rho ok) im20_38.res)) ptN = [] := by kernel_rfl
noncomputable def Gi38 : Know := ⟨fun f => conM f [(16, [im16_38]), (20, [im20_38]), (11, maw)], wr⟩
theorem out38 {ns : List Int} (h : NotIn xsAll ns) : NotIn xb38 ns := fun b hb => h b (by unfold xsAll; simp only [List.mem_append]; simp only [xb38] at hb; simp [hb])
theorem con38 {ns : List Int} {Ls : Nat → Nat → Nat → Int} (hx : NotIn xsAll ns) (h : InD ib38 ns) : @OutB (enOf ib38 (rho0 ns Ls) (rho0_ok h)) xb38 ∧ @ConOk (enOf ib38 (rho0 ns Ls) (rho0_ok h)) Try.prog (@Fin (enOf ib38 (rho0 ns Ls) (rho0_ok h))) Gi38 := by
  have hlen : ns.length = 9 := h.len
  have hO : @OutB (enOf ib38 (rho0 ns Ls) (rho0_ok h)) xb38 := NotIn.out (out38 hx) (fun b hb => by
    have : xb38.all (fun b => Nat.ble b.length 9) = true := by decide
    rw [List.all_eq_true] at this
    rw [hlen]; exact Nat.le_of_ble_eq_true (this b hb))
  refine ⟨hO, ?_⟩
  letI : En := enOf ib38 (rho0 ns Ls) (rho0_ok h)
  refine TabOk.con (TabOk.cons rfl (fun m hm => ?_) (TabOk.cons rfl (fun m hm => ?_) (TabOk.cons rfl awake TabOk.nil)))
  · rw [List.mem_singleton] at hm
    subst hm
    exact memOk_of mo nogo (ConOk.none (wr := wr)) (by kernel_rfl) (badX_sound hO ptN_ok (badX_nil (rf16_38 _ (rho0_ok h))))
  · rw [List.mem_singleton] at hm
    subst hm
    exact memOk_of mo nogo (ConOk.none (wr := wr)) (by kernel_rfl) (badX_sound hO ptN_ok (badX_nil (rf20_38 _ (rho0_ok h))))
def ib39 : List (Int × Int) := [(3, 3), (4, 4), (0, 255), (0, 255), (0, 255), (0, 255), (0, 0), (-9223372036854775808, 9223372036854775807), (0, 18446744073709551615)]
def xb39 : List (List (Int × Int)) := xs34
noncomputable def im16_39 : Mem := ⟨16, [lget (symAs shs 0 0 ib39) 0], .val (.bool false)⟩
theorem rf16_39 (rho : Nat → Int) (ok : ∀ i p, ib39[i]? = some p → p.1 ≤ rho i ∧ rho i ≤ p.2) : @badX (enOf ib39 rho ok) xb39 (callL Try.prog G0 (@runF (enOf ib39 rho ok) Try.prog G0 100000) 0 im16_39.f im16_39.args .nil 0 (@resK (enOf ib39 rho ok) im16_39.res)) ptN = [] := by kernel_rfl
noncomputable def im20_39 : Mem := ⟨20, [lget (symAs shs 0 0 ib39) 0], .val (.bool false)⟩
theorem rf20_39 (rho : Nat → Int) (ok : ∀ i p, ib39[i]? = some p → p.1 ≤ rho i ∧ rho i ≤ p.2) : @badX (enOf ib39 rho ok) xb39 (callL Try.prog G0 (@runF (enOf ib39 rho ok) Try.prog G0 100000) 0 im20_39.f im20_39.args .nil 0 (@resK (enOf ib39 rho ok) im20_39.res)) ptN = [] := by kernel_rfl
noncomputable def Gi39 : Know := ⟨fun f => conM f [(16, [im16_39]), (20, [im20_39]), (11, maw)], wr⟩
theorem out39 {ns : List Int} (h : NotIn xsAll ns) : NotIn xb39 ns := fun b hb => h b (by unfold xsAll; simp only [List.mem_append]; simp only [xb39] at hb; simp [hb])
theorem con39 {ns : List Int} {Ls : Nat → Nat → Nat → Int} (hx : NotIn xsAll ns) (h : InD ib39 ns) : @OutB (enOf ib39 (rho0 ns Ls) (rho0_ok h)) xb39 ∧ @ConOk (enOf ib39 (rho0 ns Ls) (rho0_ok h)) Try.prog (@Fin (enOf ib39 (rho0 ns Ls) (rho0_ok h))) Gi39 := by
  have hlen : ns.length = 9 := h.len
  have hO : @OutB (enOf ib39 (rho0 ns Ls) (rho0_ok h)) xb39 := NotIn.out (out39 hx) (fun b hb => by
    have : xb39.all (fun b => Nat.ble b.length 9) = true := by decide
    rw [List.all_eq_true] at this
    rw [hlen]; exact Nat.le_of_ble_eq_true (this b hb))
  refine ⟨hO, ?_⟩
  letI : En := enOf ib39 (rho0 ns Ls) (rho0_ok h)
  refine TabOk.con (TabOk.cons rfl (fun m hm => ?_) (TabOk.cons rfl (fun m hm => ?_) (TabOk.cons rfl awake TabOk.nil)))
  · rw [List.mem_singleton] at hm
    subst hm
    exact memOk_of mo nogo (ConOk.none (wr := wr)) (by kernel_rfl) (badX_sound hO ptN_ok (badX_nil (rf16_39 _ (rho0_ok h))))
  · rw [List.mem_singleton] at hm
    subst hm
    exact memOk_of mo nogo (ConOk.none (wr := wr)) (by kernel_rfl) (badX_sound hO ptN_ok (badX_nil (rf20_39 _ (rho0_ok h))))
def ib40 : List (Int × Int) := [(3, 3), (4, 4), (0, 255), (0, 255), (0, 255), (0, 255), (1, 1), (-9223372036854775808, 9223372036854775807), (0, 18446744073709551615)]
def xb40 : List (List (Int × Int)) := xs34
noncomputable def im16_40 : Mem := ⟨16, [lget (symAs shs 0 0 ib40) 0], .val (.bool false)⟩
theorem rf16_40 (rho : Nat → Int) (ok : ∀ i p, ib40[i]? = some p → p.1 ≤ rho i ∧ rho i ≤ p.2) : @badX (enOf ib40 rho ok) xb40 (callL Try.prog G0 (@runF (enOf ib40 rho ok) Try.prog G0 100000) 0 im16_40.f im16_40.args .nil 0 (@resK (enOf ib40 rho ok) im16_40.res)) ptN = [] := by kernel_rfl
noncomputable def im20_40 : Mem := ⟨20, [lget (symAs shs 0 0 ib40) 0], .val (.bool false)⟩
theorem rf20_40 (rho : Nat → Int) (ok : ∀ i p, ib40[i]? = some p → p.1 ≤ rho i ∧ rho i ≤ p.2) : @badX (enOf ib40 rho ok) xb40 (callL Try.prog G0 (@runF (enOf ib40 rho ok) Try.prog G0 100000) 0 im20_40.f im20_40.args .nil 0 (@resK (enOf ib40 rho ok) im20_40.res)) ptN = [] := by kernel_rfl
noncomputable def Gi40 : Know := ⟨fun f => conM f [(16, [im16_40]), (20, [im20_40]), (11, maw)], wr⟩
theorem out40 {ns : List Int} (h : NotIn xsAll ns) : NotIn xb40 ns := fun b hb => h b (by unfold xsAll; simp only [List.mem_append]; simp only [xb40] at hb; simp [hb])
theorem con40 {ns : List Int} {Ls : Nat → Nat → Nat → Int} (hx : NotIn xsAll ns) (h : InD ib40 ns) : @OutB (enOf ib40 (rho0 ns Ls) (rho0_ok h)) xb40 ∧ @ConOk (enOf ib40 (rho0 ns Ls) (rho0_ok h)) Try.prog (@Fin (enOf ib40 (rho0 ns Ls) (rho0_ok h))) Gi40 := by
  have hlen : ns.length = 9 := h.len
  have hO : @OutB (enOf ib40 (rho0 ns Ls) (rho0_ok h)) xb40 := NotIn.out (out40 hx) (fun b hb => by
    have : xb40.all (fun b => Nat.ble b.length 9) = true := by decide
    rw [List.all_eq_true] at this
    rw [hlen]; exact Nat.le_of_ble_eq_true (this b hb))
  refine ⟨hO, ?_⟩
  letI : En := enOf ib40 (rho0 ns Ls) (rho0_ok h)
  refine TabOk.con (TabOk.cons rfl (fun m hm => ?_) (TabOk.cons rfl (fun m hm => ?_) (TabOk.cons rfl awake TabOk.nil)))
  · rw [List.mem_singleton] at hm
    subst hm
    exact memOk_of mo nogo (ConOk.none (wr := wr)) (by kernel_rfl) (badX_sound hO ptN_ok (badX_nil (rf16_40 _ (rho0_ok h))))
  · rw [List.mem_singleton] at hm
    subst hm
    exact memOk_of mo nogo (ConOk.none (wr := wr)) (by kernel_rfl) (badX_sound hO ptN_ok (badX_nil (rf20_40 _ (rho0_ok h))))
def ib41 : List (Int × Int) := [(3, 3), (4, 4), (0, 255), (0, 255), (0, 255), (0, 255), (2, 2), (-9223372036854775808, 9223372036854775807), (0, 18446744073709551615)]
def xb41 : List (List (Int × Int)) := xs34
noncomputable def im16_41 : Mem := ⟨16, [lget (symAs shs 0 0 ib41) 0], .val (.bool false)⟩
theorem rf16_41 (rho : Nat → Int) (ok : ∀ i p, ib41[i]? = some p → p.1 ≤ rho i ∧ rho i ≤ p.2) : @badX (enOf ib41 rho ok) xb41 (callL Try.prog G0 (@runF (enOf ib41 rho ok) Try.prog G0 100000) 0 im16_41.f im16_41.args .nil 0 (@resK (enOf ib41 rho ok) im16_41.res)) ptN = [] := by kernel_rfl
noncomputable def im20_41 : Mem := ⟨20, [lget (symAs shs 0 0 ib41) 0], .val (.bool false)⟩
theorem rf20_41 (rho : Nat → Int) (ok : ∀ i p, ib41[i]? = some p → p.1 ≤ rho i ∧ rho i ≤ p.2) : @badX (enOf ib41 rho ok) xb41 (callL Try.prog G0 (@runF (enOf ib41 rho ok) Try.prog G0 100000) 0 im20_41.f im20_41.args .nil 0 (@resK (enOf ib41 rho ok) im20_41.res)) ptN = [] := by kernel_rfl
noncomputable def Gi41 : Know := ⟨fun f => conM f [(16, [im16_41]), (20, [im20_41]), (11, maw)], wr⟩
theorem out41 {ns : List Int} (h : NotIn xsAll ns) : NotIn xb41 ns := fun b hb => h b (by unfold xsAll; simp only [List.mem_append]; simp only [xb41] at hb; simp [hb])
theorem con41 {ns : List Int} {Ls : Nat → Nat → Nat → Int} (hx : NotIn xsAll ns) (h : InD ib41 ns) : @OutB (enOf ib41 (rho0 ns Ls) (rho0_ok h)) xb41 ∧ @ConOk (enOf ib41 (rho0 ns Ls) (rho0_ok h)) Try.prog (@Fin (enOf ib41 (rho0 ns Ls) (rho0_ok h))) Gi41 := by
  have hlen : ns.length = 9 := h.len
  have hO : @OutB (enOf ib41 (rho0 ns Ls) (rho0_ok h)) xb41 := NotIn.out (out41 hx) (fun b hb => by
    have : xb41.all (fun b => Nat.ble b.length 9) = true := by decide
    rw [List.all_eq_true] at this
    rw [hlen]; exact Nat.le_of_ble_eq_true (this b hb))
  refine ⟨hO, ?_⟩
  letI : En := enOf ib41 (rho0 ns Ls) (rho0_ok h)
  refine TabOk.con (TabOk.cons rfl (fun m hm => ?_) (TabOk.cons rfl (fun m hm => ?_) (TabOk.cons rfl awake TabOk.nil)))
  · rw [List.mem_singleton] at hm
    subst hm
    exact memOk_of mo nogo (ConOk.none (wr := wr)) (by kernel_rfl) (badX_sound hO ptN_ok (badX_nil (rf16_41 _ (rho0_ok h))))
  · rw [List.mem_singleton] at hm
    subst hm
    exact memOk_of mo nogo (ConOk.none (wr := wr)) (by kernel_rfl) (badX_sound hO ptN_ok (badX_nil (rf20_41 _ (rho0_ok h))))
def ib42 : List (Int × Int) := [(3, 3), (4, 4), (0, 255), (0, 255), (0, 255), (0, 255), (3, 3), (-9223372036854775808, 9223372036854775807), (0, 18446744073709551615)]
def xb42 : List (List (Int × Int)) := xs34
noncomputable def im16_42 : Mem := ⟨16, [lget (symAs shs 0 0 ib42) 0], .val (.bool false)⟩
theorem rf16_42 (rho : Nat → Int) (ok : ∀ i p, ib42[i]? = some p → p.1 ≤ rho i ∧ rho i ≤ p.2) : @badX (enOf ib42 rho ok) xb42 (callL Try.prog G0 (@runF (enOf ib42 rho ok) Try.prog G0 100000) 0 im16_42.f im16_42.args .nil 0 (@resK (enOf ib42 rho ok) im16_42.res)) ptN = [] := by kernel_rfl
noncomputable def im20_42 : Mem := ⟨20, [lget (symAs shs 0 0 ib42) 0], .val (.bool false)⟩
theorem rf20_42 (rho : Nat → Int) (ok : ∀ i p, ib42[i]? = some p → p.1 ≤ rho i ∧ rho i ≤ p.2) : @badX (enOf ib42 rho ok) xb42 (callL Try.prog G0 (@runF (enOf ib42 rho ok) Try.prog G0 100000) 0 im20_42.f im20_42.args .nil 0 (@resK (enOf ib42 rho ok) im20_42.res)) ptN = [] := by kernel_rfl
noncomputable def Gi42 : Know := ⟨fun f => conM f [(16, [im16_42]), (20, [im20_42]), (11, maw)], wr⟩
theorem out42 {ns : List Int} (h : NotIn xsAll ns) : NotIn xb42 ns := fun b hb => h b (by unfold xsAll; simp only [List.mem_append]; simp only [xb42] at hb; simp [hb])
theorem con42 {ns : List Int} {Ls : Nat → Nat → Nat → Int} (hx : NotIn xsAll ns) (h : InD ib42 ns) : @OutB (enOf ib42 (rho0 ns Ls) (rho0_ok h)) xb42 ∧ @ConOk (enOf ib42 (rho0 ns Ls) (rho0_ok h)) Try.prog (@Fin (enOf ib42 (rho0 ns Ls) (rho0_ok h))) Gi42 := by
  have hlen : ns.length = 9 := h.len
  have hO : @OutB (enOf ib42 (rho0 ns Ls) (rho0_ok h)) xb42 := NotIn.out (out42 hx) (fun b hb => by
    have : xb42.all (fun b => Nat.ble b.length 9) = true := by decide
    rw [List.all_eq_true] at this
    rw [hlen]; exact Nat.le_of_ble_eq_true (this b hb))
  refine ⟨hO, ?_⟩
  letI : En := enOf ib42 (rho0 ns Ls) (rho0_ok h)
  refine TabOk.con (TabOk.cons rfl (fun m hm => ?_) (TabOk.cons rfl (fun m hm => ?_) (TabOk.cons rfl awake TabOk.nil)))
  · rw [List.mem_singleton] at hm
    subst hm
    exact memOk_of mo nogo (ConOk.none (wr := wr)) (by kernel_rfl) (badX_sound hO ptN_ok (badX_nil (rf16_42 _ (rho0_ok h))))
  · rw [List.mem_singleton] at hm
    subst hm
    exact memOk_of mo nogo (ConOk.none (wr := wr)) (by kernel_rfl) (badX_sound hO ptN_ok (badX_nil (rf20_42 _ (rho0_ok h))))
def ib43 : List (Int × Int) := [(3, 3), (4, 4), (0, 255), (0, 255), (0, 255), (0, 255), (4, 4), (-9223372036854775808, 9223372036854775807), (0, 18446744073709551615)]
def xb43 : List (List (Int × Int)) := xs34
noncomputable def im16_43 : Mem := ⟨16, [lget (symAs shs 0 0 ib43) 0], .val (.bool false)⟩
theorem rf16_43 (rho : Nat → Int) (ok : ∀ i p, ib43[i]? = some p → p.1 ≤ rho i ∧ rho i ≤ p.2) : @badX (enOf ib43 rho ok) xb43 (callL Try.prog G0 (@runF (enOf ib43 rho ok) Try.prog G0 100000) 0 im16_43.f im16_43.args .nil 0 (@resK (enOf ib43 rho ok) im16_43.res)) ptN = [] := by kernel_rfl
noncomputable def im20_43 : Mem := ⟨20, [lget (symAs shs 0 0 ib43) 0], .val (.bool false)⟩
theorem rf20_43 (rho : Nat → Int) (ok : ∀ i p, ib43[i]? = some p → p.1 ≤ rho i ∧ rho i ≤ p.2) : @badX (enOf ib43 rho ok) xb43 (callL Try.prog G0 (@runF (enOf ib43 rho ok) Try.prog G0 100000) 0 im20_43.f im20_43.args .nil 0 (@resK (enOf ib43 rho ok) im20_43.res)) ptN = [] := by kernel_rfl
noncomputable def Gi43 : Know := ⟨fun f => conM f [(16, [im16_43]), (20, [im20_43]), (11, maw)], wr⟩
theorem out43 {ns : List Int} (h : NotIn xsAll ns) : NotIn xb43 ns := fun b hb => h b (by unfold xsAll; simp only [List.mem_append]; simp only [xb43] at hb; simp [hb])
theorem con43 {ns : List Int} {Ls : Nat → Nat → Nat → Int} (hx : NotIn xsAll ns) (h : InD ib43 ns) : @OutB (enOf ib43 (rho0 ns Ls) (rho0_ok h)) xb43 ∧ @ConOk (enOf ib43 (rho0 ns Ls) (rho0_ok h)) Try.prog (@Fin (enOf ib43 (rho0 ns Ls) (rho0_ok h))) Gi43 := by
  have hlen : ns.length = 9 := h.len
  have hO : @OutB (enOf ib43 (rho0 ns Ls) (rho0_ok h)) xb43 := NotIn.out (out43 hx) (fun b hb => by
    have : xb43.all (fun b => Nat.ble b.length 9) = true := by decide
    rw [List.all_eq_true] at this
    rw [hlen]; exact Nat.le_of_ble_eq_true (this b hb))
  refine ⟨hO, ?_⟩
  letI : En := enOf ib43 (rho0 ns Ls) (rho0_ok h)
  refine TabOk.con (TabOk.cons rfl (fun m hm => ?_) (TabOk.cons rfl (fun m hm => ?_) (TabOk.cons rfl awake TabOk.nil)))
  · rw [List.mem_singleton] at hm
    subst hm
    exact memOk_of mo nogo (ConOk.none (wr := wr)) (by kernel_rfl) (badX_sound hO ptN_ok (badX_nil (rf16_43 _ (rho0_ok h))))
  · rw [List.mem_singleton] at hm
    subst hm
    exact memOk_of mo nogo (ConOk.none (wr := wr)) (by kernel_rfl) (badX_sound hO ptN_ok (badX_nil (rf20_43 _ (rho0_ok h))))
def ib44 : List (Int × Int) := [(3, 3), (4, 4), (0, 255), (0, 255), (0, 255), (0, 255), (5, 5), (-9223372036854775808, 9223372036854775807), (0, 18446744073709551615)]
def xb44 : List (List (Int × Int)) := xs34
noncomputable def im16_44 : Mem := ⟨16, [lget (symAs shs 0 0 ib44) 0], .val (.bool false)⟩
theorem rf16_44 (rho : Nat → Int) (ok : ∀ i p, ib44[i]? = some p → p.1 ≤ rho i ∧ rho i ≤ p.2) : @badX (enOf ib44 rho ok) xb44 (callL Try.prog G0 (@runF (enOf ib44 rho ok) Try.prog G0 100000) 0 im16_44.f im16_44.args .nil 0 (@resK (enOf ib44 rho ok) im16_44.res)) ptN = [] := by kernel_rfl
noncomputable def im20_44 : Mem := ⟨20, [lget (symAs shs 0 0 ib44) 0], .val (.bool false)⟩
theorem rf20_44 (rho : Nat → Int) (ok : ∀ i p, ib44[i]? = some p → p.1 ≤ rho i ∧ rho i ≤ p.2) : @badX (enOf ib44 rho ok) xb44 (callL Try.prog G0 (@runF (enOf ib44 rho ok) Try.prog G0 100000) 0 im20_44.f im20_44.args .nil 0 (@resK (enOf ib44 rho ok) im20_44.res)) ptN = [] := by kernel_rfl
noncomputable def Gi44 : Know := ⟨fun f => conM f [(16, [im16_44]), (20, [im20_44]), (11, maw)], wr⟩
theorem out44 {ns : List Int} (h : NotIn xsAll ns) : NotIn xb44 ns := fun b hb => h b (by unfold xsAll; simp only [List.mem_append]; simp only [xb44] at hb; simp [hb])
theorem con44 {ns : List Int} {Ls : Nat → Nat → Nat → Int} (hx : NotIn xsAll ns) (h : InD ib44 ns) : @OutB (enOf ib44 (rho0 ns Ls) (rho0_ok h)) xb44 ∧ @ConOk (enOf ib44 (rho0 ns Ls) (rho0_ok h)) Try.prog (@Fin (enOf ib44 (rho0 ns Ls) (rho0_ok h))) Gi44 := by
  have hlen : ns.length = 9 := h.len
  have hO : @OutB (enOf ib44 (rho0 ns Ls) (rho0_ok h)) xb44 := NotIn.out (out44 hx) (fun b hb => by
    have : xb44.all (fun b => Nat.ble b.length 9) = true := by decide
    rw [List.all_eq_true] at this
    rw [hlen]; exact Nat.le_of_ble_eq_true (this b hb))
  refine ⟨hO, ?_⟩
  letI : En := enOf ib44 (rho0 ns Ls) (rho0_ok h)
  refine TabOk.con (TabOk.cons rfl (fun m hm => ?_) (TabOk.cons rfl (fun m hm => ?_) (TabOk.cons rfl awake TabOk.nil)))
  · rw [List.mem_singleton] at hm
    subst hm
    exact memOk_of mo nogo (ConOk.none (wr := wr)) (by kernel_rfl) (badX_sound hO ptN_ok (badX_nil (rf16_44 _ (rho0_ok h))))
  · rw [List.mem_singleton] at hm
    subst hm
    exact memOk_of mo nogo (ConOk.none (wr := wr)) (by kernel_rfl) (badX_sound hO ptN_ok (badX_nil (rf20_44 _ (rho0_ok h))))
def ib45 : List (Int × Int) := [(3, 3), (4, 4), (0, 255), (0, 255), (0, 255), (0, 255), (6, 6), (-9223372036854775808, 9223372036854775807), (0, 18446744073709551615)]
def xb45 : List (List (Int × Int)) := xs34
noncomputable def im16_45 : Mem := ⟨16, [lget (symAs shs 0 0 ib45) 0], .val (.bool false)⟩
theorem rf16_45 (rho : Nat → Int) (ok : ∀ i p, ib45[i]? = some p → p.1 ≤ rho i ∧ rho i ≤ p.2) : @badX (enOf ib45 rho ok) xb45 (callL Try.prog G0 (@runF (enOf ib45 rho ok) Try.prog G0 100000) 0 im16_45.f im16_45.args .nil 0 (@resK (enOf ib45 rho ok) im16_45.res)) ptN = [] := by kernel_rfl
noncomputable def im20_45 : Mem := ⟨20, [lget (symAs shs 0 0 ib45) 0], .val (.bool false)⟩
theorem rf20_45 (rho : Nat → Int) (ok : ∀ i p, ib45[i]? = some p → p.1 ≤ rho i ∧ rho i ≤ p.2) : @badX (enOf ib45 rho ok) xb45 (callL Try.prog G0 (@runF (enOf ib45 rho ok) Try.prog G0 100000) 0 im20_45.f im20_45.args .nil 0 (@resK (enOf ib45 rho ok) im20_45.res)) ptN = [] := by kernel_rfl
noncomputable def Gi45 : Know := ⟨fun f => conM f [(16, [im16_45]), (20, [im20_45]), (11, maw)], wr⟩
theorem out45 {ns : List Int} (h : NotIn xsAll ns) : NotIn xb45 ns := fun b hb => h b (by unfold xsAll; simp only [List.mem_append]; simp only [xb45] at hb; simp [hb])
theorem con45 {ns : List Int} {Ls : Nat → Nat → Nat → Int} (hx : NotIn xsAll ns) (h : InD ib45 ns) : @OutB (enOf ib45 (rho0 ns Ls) (rho0_ok h)) xb45 ∧ @ConOk (enOf ib45 (rho0 ns Ls) (rho0_ok h)) Try.prog (@Fin (enOf ib45 (rho0 ns Ls) (rho0_ok h))) Gi45 := by
  have hlen : ns.length = 9 := h.len
  have hO : @OutB (enOf ib45 (rho0 ns Ls) (rho0_ok h)) xb45 := NotIn.out (out45 hx) (fun b hb => by
    have : xb45.all (fun b => Nat.ble b.length 9) = true := by decide
    rw [List.all_eq_true] at this
    rw [hlen]; exact Nat.le_of_ble_eq_true (this b hb))
  refine ⟨hO, ?_⟩
  letI : En := enOf ib45 (rho0 ns Ls) (rho0_ok h)
  refine TabOk.con (TabOk.cons rfl (fun m hm => ?_) (TabOk.cons rfl (fun m hm => ?_) (TabOk.cons rfl awake TabOk.nil)))
  · rw [List.mem_singleton] at hm
    subst hm
    exact memOk_of mo nogo (ConOk.none (wr := wr)) (by kernel_rfl) (badX_sound hO ptN_ok (badX_nil (rf16_45 _ (rho0_ok h))))
  · rw [List.mem_singleton] at hm
    subst hm
    exact memOk_of mo nogo (ConOk.none (wr := wr)) (by kernel_rfl) (badX_sound hO ptN_ok (badX_nil (rf20_45 _ (rho0_ok h))))
def ib46 : List (Int × Int) := [(3, 3), (4, 4), (0, 255), (0, 255), (0, 255), (0, 255), (7, 7), (-9223372036854775808, 9223372036854775807), (0, 18446744073709551615)]
def xb46 : List (List (Int × Int)) := xs34
noncomputable def im16_46 : Mem := ⟨16, [lget (symAs shs 0 0 ib46) 0], .val (.bool false)⟩
theorem rf16_46 (rho : Nat → Int) (ok : ∀ i p, ib46[i]? = some p → p.1 ≤ rho i ∧ rho i ≤ p.2) : @badX (enOf ib46 rho ok) xb46 (callL Try.prog G0 (@runF (enOf ib46 rho ok) Try.prog G0 100000) 0 im16_46.f im16_46.args .nil 0 (@resK (enOf ib46 rho ok) im16_46.res)) ptN = [] := by kernel_rfl
noncomputable def im20_46 : Mem := ⟨20, [lget (symAs shs 0 0 ib46) 0], .val (.bool false)⟩
theorem rf20_46 (rho : Nat → Int) (ok : ∀ i p, ib46[i]? = some p → p.1 ≤ rho i ∧ rho i ≤ p.2) : @badX (enOf ib46 rho ok) xb46 (callL Try.prog G0 (@runF (enOf ib46 rho ok) Try.prog G0 100000) 0 im20_46.f im20_46.args .nil 0 (@resK (enOf ib46 rho ok) im20_46.res)) ptN = [] := by kernel_rfl
noncomputable def Gi46 : Know := ⟨fun f => conM f [(16, [im16_46]), (20, [im20_46]), (11, maw)], wr⟩
theorem out46 {ns : List Int} (h : NotIn xsAll ns) : NotIn xb46 ns := fun b hb => h b (by unfold xsAll; simp only [List.mem_append]; simp only [xb46] at hb; simp [hb])
theorem con46 {ns : List Int} {Ls : Nat → Nat → Nat → Int} (hx : NotIn xsAll ns) (h : InD ib46 ns) : @OutB (enOf ib46 (rho0 ns Ls) (rho0_ok h)) xb46 ∧ @ConOk (enOf ib46 (rho0 ns Ls) (rho0_ok h)) Try.prog (@Fin (enOf ib46 (rho0 ns Ls) (rho0_ok h))) Gi46 := by
  have hlen : ns.length = 9 := h.len
  have hO : @OutB (enOf ib46 (rho0 ns Ls) (rho0_ok h)) xb46 := NotIn.out (out46 hx) (fun b hb => by
    have : xb46.all (fun b => Nat.ble b.length 9) = true := by decide
    rw [List.all_eq_true] at this
    rw [hlen]; exact Nat.le_of_ble_eq_true (this b hb))
  refine ⟨hO, ?_⟩
  letI : En := enOf ib46 (rho0 ns Ls) (rho0_ok h)
  refine TabOk.con (TabOk.cons rfl (fun m hm => ?_) (TabOk.cons rfl (fun m hm => ?_) (TabOk.cons rfl awake TabOk.nil)))
  · rw [List.mem_singleton] at hm
    subst hm
    exact memOk_of mo nogo (ConOk.none (wr := wr)) (by kernel_rfl) (badX_sound hO ptN_ok (badX_nil (rf16_46 _ (rho0_ok h))))
  · rw [List.mem_singleton] at hm
    subst hm
    exact memOk_of mo nogo (ConOk.none (wr := wr)) (by kernel_rfl) (badX_sound hO ptN_ok (badX_nil (rf20_46 _ (rho0_ok h))))
def ib47 : List (Int × Int) := [(3, 3), (4, 4), (0, 255), (0, 255), (0, 255), (0, 255), (8, 255), (-9223372036854775808, 9223372036854775807), (0, 18446744073709551615)]
def xb47 : List (List (Int × Int)) := xs34
noncomputable def im16_47 : Mem := ⟨16, [lget (symAs shs 0 0 ib47) 0], .val (.bool false)⟩
theorem rf16_47 (rho : Nat → Int) (ok : ∀ i p, ib47[i]? = some p → p.1 ≤ rho i ∧ rho i ≤ p.2) : @badX (enOf ib47 rho ok) xb47 (callL Try.prog G0 (@runF (enOf ib47 rho ok) Try.prog G0 100000) 0 im16_47.f im16_47.args .nil 0 (@resK (enOf ib47 rho ok) im16_47.res)) ptN = [] := by kernel_rfl
noncomputable def im20_47 : Mem := ⟨20, [lget (symAs shs 0 0 ib47) 0], .val (.bool false)⟩
theorem rf20_47 (rho : Nat → Int) (ok : ∀ i p, ib47[i]? = some p → p.1 ≤ rho i ∧ rho i ≤ p.2) : @badX (enOf ib47 rho ok) xb47 (callL Try.prog G0 (@runF (enOf ib47 rho ok) Try.prog G0 100000) 0 im20_47.f im20_47.args .nil 0 (@resK (enOf ib47 rho ok) im20_47.res)) ptN = [] := by kernel_rfl
noncomputable def Gi47 : Know := ⟨fun f => conM f [(16, [im16_47]), (20, [im20_47]), (11, maw)], wr⟩
theorem out47 {ns : List Int} (h : NotIn xsAll ns) : NotIn xb47 ns := fun b hb => h b (by unfold xsAll; simp only [List.mem_append]; simp only [xb47] at hb; simp [hb])
theorem con47 {ns : List Int} {Ls : Nat → Nat → Nat → Int} (hx : NotIn xsAll ns) (h : InD ib47 ns) : @OutB (enOf ib47 (rho0 ns Ls) (rho0_ok h)) xb47 ∧ @ConOk (enOf ib47 (rho0 ns Ls) (rho0_ok h)) Try.prog (@Fin (enOf ib47 (rho0 ns Ls) (rho0_ok h))) Gi47 := by
  have hlen : ns.length = 9 := h.len
  have hO : @OutB (enOf ib47 (rho0 ns Ls) (rho0_ok h)) xb47 := NotIn.out (out47 hx) (fun b hb => by
    have : xb47.all (fun b => Nat.ble b.length 9) = true := by decide
    rw [List.all_eq_true] at this
    rw [hlen]; exact Nat.le_of_ble_eq_true (this b hb))
  refine ⟨hO, ?_⟩
  letI : En := enOf ib47 (rho0 ns Ls) (rho0_ok h)
  refine TabOk.con (TabOk.cons rfl (fun m hm => ?_) (TabOk.cons rfl (fun m hm => ?_) (TabOk.cons rfl awake TabOk.nil)))
  · rw [List.mem_singleton] at hm
    subst hm
    exact memOk_of mo nogo (ConOk.none (wr := wr)) (by kernel_rfl) (badX_sound hO ptN_ok (badX_nil (rf16_47 _ (rho0_ok h))))
  · rw [List.mem_singleton] at hm
    subst hm
    exact memOk_of mo nogo (ConOk.none (wr := wr)) (by kernel_rfl) (badX_sound hO ptN_ok (badX_nil (rf20_47 _ (rho0_ok h))))
def ib48 : List (Int × Int) := [(4, 4), (1, 1), (0, 255), (0, 255), (0, 255), (0, 255), (0, 255), (-9223372036854775808, 9223372036854775807), (0, 18446744073709551615)]
def xb48 : List (List (Int × Int)) := xs41
noncomputable def im16_48 : Mem := ⟨16, [lget (symAs shs 0 0 ib48) 0], .val (.bool false)⟩
theorem rf16_48 (rho : Nat → Int) (ok : ∀ i p, ib48[i]? = some p → p.1 ≤ rho i ∧ rho i ≤ p.2) : @badX (enOf ib48 rho ok) xb48 (callL Try.prog G0 (@runF (enOf ib48 rho ok) Try.prog G0 100000) 0 im16_48.f im16_48.args .nil 0 (@resK (enOf ib48 rho ok) im16_48.res)) ptN = [] := by kernel_rfl
noncomputable def im20_48 : Mem := ⟨20, [lget (symAs shs 0 0 ib48) 0], .val (.bool false)⟩
theorem rf20_48 (rho : Nat → Int) (ok : ∀ i p, ib48[i]? = some p → p.1 ≤ rho i ∧ rho i ≤ p.2) : @badX (enOf ib48 rho ok) xb48 (callL Try.prog G0 (@runF (enOf ib48 rho ok) Try.prog G0 100000) 0 im20_48.f im20_48.args .nil 0 (@resK (enOf ib48 rho ok) im20_48.res)) ptN = [] := by kernel_rfl
noncomputable def Gi48 : Know := ⟨fun f => conM f [(16, [im16_48]), (20, [im20_48]), (11, maw)], wr⟩
theorem out48 {ns : List Int} (h : NotIn xsAll ns) : NotIn xb48 ns := fun b hb => h b (by unfold xsAll; simp only [List.mem_append]; simp only [xb48] at hb; simp [hb])
theorem con48 {ns : List Int} {Ls : Nat → Nat → Nat → Int} (hx : NotIn xsAll ns) (h : InD ib48 ns) : @OutB (enOf ib48 (rho0 ns Ls) (rho0_ok h)) xb48 ∧ @ConOk (enOf ib48 (rho0 ns Ls) (rho0_ok h)) Try.prog (@Fin (enOf ib48 (rho0 ns Ls) (rho0_ok h))) Gi48 := by
  have hlen : ns.length = 9 := h.len
  have hO : @OutB (enOf ib48 (rho0 ns Ls) (rho0_ok h)) xb48 := NotIn.out (out48 hx) (fun b hb => by
    have : xb48.all (fun b => Nat.ble b.length 9) = true := by decide
    rw [List.all_eq_true] at this
    rw [hlen]; exact Nat.le_of_ble_eq_true (this b hb))
  refine ⟨hO, ?_⟩
  letI : En := enOf ib48 (rho0 ns Ls) (rho0_ok h)
  refine TabOk.con (TabOk.cons rfl (fun m hm => ?_) (TabOk.cons rfl (fun m hm => ?_) (TabOk.cons rfl awake TabOk.nil)))
  · rw [List.mem_singleton] at hm
    subst hm
    exact memOk_of mo nogo (ConOk.none (wr := wr)) (by kernel_rfl) (badX_sound hO ptN_ok (badX_nil (rf16_48 _ (rho0_ok h))))
  · rw [List.mem_singleton] at hm
    subst hm
    exact memOk_of mo nogo (ConOk.none (wr := wr)) (by kernel_rfl) (badX_sound hO ptN_ok (badX_nil (rf20_48 _ (rho0_ok h))))
def ib49 : List (Int × Int) := [(4, 4), (2, 2), (0, 255), (0, 255), (0, 255), (0, 255), (0, 255), (-9223372036854775808, 9223372036854775807), (0, 18446744073709551615)]
def xb49 : List (List (Int × Int)) := xs42
noncomputable def im16_49 : Mem := ⟨16, [lget (symAs shs 0 0 ib49) 0], .val (.bool false)⟩
theorem rf16_49 (rho : Nat → Int) (ok : ∀ i p, ib49[i]? = some p → p.1 ≤ rho i ∧ rho i ≤ p.2) : @badX (enOf ib49 rho ok) xb49 (callL Try.prog G0 (@runF (enOf ib49 rho ok) Try.prog G0 100000) 0 im16_49.f im16_49.args .nil 0 (@resK (enOf ib49 rho ok) im16_49.res)) ptN = [] := by kernel_rfl
noncomputable def im20_49 : Mem := ⟨20, [lget (symAs shs 0 0 ib49) 0], .val (.bool false)⟩
theorem rf20_49 (rho : Nat → Int) (ok : ∀ i p, ib49[i]? = some p → p.1 ≤ rho i ∧ rho i ≤ p.2) : @badX (enOf ib49 rho ok) xb49 (callL Try.prog G0 (@runF (enOf ib49 rho ok) Try.prog G0 100000) 0 im20_49.f im20_49.args .nil 0 (@resK (enOf ib49 rho ok) im20_49.res)) ptN = [] := by kernel_rfl
noncomputable def Gi49 : Know := ⟨fun f => conM f [(16, [im16_49]), (20, [im20_49]), (11, maw)], wr⟩
theorem out49 {ns : List Int} (h : NotIn xsAll ns) : NotIn xb49 ns := fun b hb => h b (by unfold xsAll; simp only [List.mem_append]; simp only [xb49] at hb; simp [hb])
theorem con49 {ns : List Int} {Ls : Nat → Nat → Nat → Int} (hx : NotIn xsAll ns) (h : InD ib49 ns) : @OutB (enOf ib49 (rho0 ns Ls) (rho0_ok h)) xb49 ∧ @ConOk (enOf ib49 (rho0 ns Ls) (rho0_ok h)) Try.prog (@Fin (enOf ib49 (rho0 ns Ls) (rho0_ok h))) Gi49 := by
  have hlen : ns.length = 9 := h.len
  have hO : @OutB (enOf ib49 (rho0 ns Ls) (rho0_ok h)) xb49 := NotIn.out (out49 hx) (fun b hb => by
    have : xb49.all (fun b => Nat.ble b.length 9) = true := by decide
    rw [List.all_eq_true] at this
    rw [hlen]; exact Nat.le_of_ble_eq_true (this b hb))
  refine ⟨hO, ?_⟩
  letI : En := enOf ib49 (rho0 ns Ls) (rho0_ok h)
  refine TabOk.con (TabOk.cons rfl (fun m hm => ?_) (TabOk.cons rfl (fun m hm => ?_) (TabOk.cons rfl awake TabOk.nil)))
  · rw [List.mem_singleton] at hm
    subst hm
    exact memOk_of mo nogo (ConOk.none (wr := wr)) (by kernel_rfl) (badX_sound hO ptN_ok (badX_nil (rf16_49 _ (rho0_ok h))))
  · rw [List.mem_singleton] at hm
    subst hm
    exact memOk_of mo nogo (ConOk.none (wr := wr)) (by kernel_rfl) (badX_sound hO ptN_ok (badX_nil (rf20_49 _ (rho0_ok h))))
def ib50 : List (Int × Int) := [(4, 4), (3, 3), (0, 255), (0, 255), (0, 255), (0, 255), (0, 255), (-9223372036854775808, 9223372036854775807), (0, 18446744073709551615)]
def xb50 : List (List (Int × Int)) := xs43
noncomputable def im16_50 : Mem := ⟨16, [lget (symAs shs 0 0 ib50) 0], .val (.bool false)⟩
theorem rf16_50 (rho : Nat → Int) (ok : ∀ i p, ib50[i]? = some p → p.1 ≤ rho i ∧ rho i ≤ p.2) : @badX (enOf ib50 rho ok) xb50 (callL Try.prog G0 (@runF (enOf ib50 rho ok) Try.prog G0 100000) 0 im16_50.f im16_50.args .nil 0 (@resK (enOf ib50 rho ok) im16_50.res)) ptN = [] := by kernel_rfl
noncomputable def im20_50 : Mem := ⟨20, [lget (symAs shs 0 0 ib50) 0], .val (.bool false)⟩
theorem rf20_50 (rho : Nat → Int) (ok : ∀ i p, ib50[i]? = some p → p.1 ≤ rho i ∧ rho i ≤ p.2) : @badX (enOf ib50 rho ok) xb50 (callL Try.prog G0 (@runF (enOf ib50 rho ok) Try.prog G0 100000) 0 im20_50.f im20_50.args .nil 0 (@resK (enOf ib50 rho ok) im20_50.res)) ptN = [] := by kernel_rfl
noncomputable def Gi50 : Know := ⟨fun f => conM f [(16, [im16_50]), (20, [im20_50]), (11, maw)], wr⟩
theorem out50 {ns : List Int} (h : NotIn xsAll ns) : NotIn xb50 ns := fun b hb => h b (by unfold xsAll; simp only [List.mem_append]; simp only [xb50] at hb; simp [hb])
theorem con50 {ns : List Int} {Ls : Nat → Nat → Nat → Int} (hx : NotIn xsAll ns) (h : InD ib50 ns) : @OutB (enOf ib50 (rho0 ns Ls) (rho0_ok h)) xb50 ∧ @ConOk (enOf ib50 (rho0 ns Ls) (rho0_ok h)) Try.prog (@Fin (enOf ib50 (rho0 ns Ls) (rho0_ok h))) Gi50 := by
  have hlen : ns.length = 9 := h.len
  have hO : @OutB (enOf ib50 (rho0 ns Ls) (rho0_ok h)) xb50 := NotIn.out (out50 hx) (fun b hb => by
    have : xb50.all (fun b => Nat.ble b.length 9) = true := by decide
    rw [List.all_eq_true] at this
    rw [hlen]; exact Nat.le_of_ble_eq_true (this b hb))
  refine ⟨hO, ?_⟩
  letI : En := enOf ib50 (rho0 ns Ls) (rho0_ok h)
  refine TabOk.con (TabOk.cons rfl (fun m hm => ?_) (TabOk.cons rfl (fun m hm => ?_) (TabOk.cons rfl awake TabOk.nil)))
  · rw [List.mem_singleton] at hm
    subst hm
    exact memOk_of mo nogo (ConOk.none (wr := wr)) (by kernel_rfl) (badX_sound hO ptN_ok (badX_nil (rf16_50 _ (rho0_ok h))))
  · rw [List.mem_singleton] at hm
    subst hm
    exact memOk_of mo nogo (ConOk.none (wr := wr)) (by kernel_rfl) (badX_sound hO ptN_ok (badX_nil (rf20_50 _ (rho0_ok h))))
def ib51 : List (Int × Int) := [(4, 4), (4, 4), (0, 255), (0, 255), (0, 255), (0, 255), (0, 255), (-9223372036854775808, 9223372036854775807), (0, 18446744073709551615)]
def xb51 : List (List (Int × Int)) := xs44
noncomputable def im16_51 : Mem := ⟨16, [lget (symAs shs 0 0 ib51) 0], .val (.bool false)⟩
theorem rf16_51 (rho : Nat → Int) (ok : ∀ i p, ib51[i]? = some p → p.1 ≤ rho i ∧ rho i ≤ p.2) : @badX (enOf ib51 rho ok) xb51 (callL Try.prog G0 (@runF (enOf ib51 rho ok) Try.prog G0 100000) 0 im16_51.f im16_51.args .nil 0 (@resK (enOf ib51 rho ok) im16_51.res)) ptN = [] := by kernel_rfl
noncomputable def im20_51 : Mem := ⟨20, [lget (symAs shs 0 0 ib51) 0], .val (.bool false)⟩
theorem rf20_51 (rho : Nat → Int) (ok : ∀ i p, ib51[i]? = some p → p.1 ≤ rho i ∧ rho i ≤ p.2) : @badX (enOf ib51 rho ok) xb51 (callL Try.prog G0 (@runF (enOf ib51 rho ok) Try.prog G0 100000) 0 im20_51.f im20_51.args .nil 0 (@resK (enOf ib51 rho ok) im20_51.res)) ptN = [] := by kernel_rfl
noncomputable def Gi51 : Know := ⟨fun f => conM f [(16, [im16_51]), (20, [im20_51]), (11, maw)], wr⟩
theorem out51 {ns : List Int} (h : NotIn xsAll ns) : NotIn xb51 ns := fun b hb => h b (by unfold xsAll; simp only [List.mem_append]; simp only [xb51] at hb; simp [hb])
theorem con51 {ns : List Int} {Ls : Nat → Nat → Nat → Int} (hx : NotIn xsAll ns) (h : InD ib51 ns) : @OutB (enOf ib51 (rho0 ns Ls) (rho0_ok h)) xb51 ∧ @ConOk (enOf ib51 (rho0 ns Ls) (rho0_ok h)) Try.prog (@Fin (enOf ib51 (rho0 ns Ls) (rho0_ok h))) Gi51 := by
  have hlen : ns.length = 9 := h.len
  have hO : @OutB (enOf ib51 (rho0 ns Ls) (rho0_ok h)) xb51 := NotIn.out (out51 hx) (fun b hb => by
    have : xb51.all (fun b => Nat.ble b.length 9) = true := by decide
    rw [List.all_eq_true] at this
    rw [hlen]; exact Nat.le_of_ble_eq_true (this b hb))
  refine ⟨hO, ?_⟩
  letI : En := enOf ib51 (rho0 ns Ls) (rho0_ok h)
  refine TabOk.con (TabOk.cons rfl (fun m hm => ?_) (TabOk.cons rfl (fun m hm => ?_) (TabOk.cons rfl awake TabOk.nil)))
  · rw [List.mem_singleton] at hm
    subst hm
    exact memOk_of mo nogo (ConOk.none (wr := wr)) (by kernel_rfl) (badX_sound hO ptN_ok (badX_nil (rf16_51 _ (rho0_ok h))))
  · rw [List.mem_singleton] at hm
    subst hm
    exact memOk_of mo nogo (ConOk.none (wr := wr)) (by kernel_rfl) (badX_sound hO ptN_ok (badX_nil (rf20_51 _ (rho0_ok h))))
theorem covers (ns : List Int) (h : InD (fullD shs) ns) : Somes (fun l => InB l ns) [ib0, ib1, ib2, ib3, ib4, ib5, ib6, ib7, ib8, ib9, ib10, ib11, ib12, ib13, ib14, ib15, ib16, ib17, ib18, ib19, ib20, ib21, ib22, ib23, ib24, ib25, ib26, ib27, ib28, ib29, ib30, ib31, ib32, ib33, ib34, ib35, ib36, ib37, ib38, ib39, ib40, ib41, ib42, ib43, ib44, ib45, ib46, ib47, ib48, ib49, ib50, ib51] := by
  obtain ⟨k, _, rfl, k1, k2, w, _, rfl, w1, w2, a, _, rfl, a1, a2, b, _, rfl, b1, b2, c, _, rfl, c1, c2, d, _, rfl, d1, d2, e, _, rfl, e1, e2, f, _, rfl, f1, f2, g, _, rfl, g1, g2, rfl⟩ := h
  simp only [fullK, kLo, kHi] at k1 k2 w1 w2 a1 a2 b1 b2 c1 c2 d1 d2 e1 e2 f1 f2 g1 g2
  by_cases q0 : k ≤ 0
  · exact (.inl (by simp only [InB, ib0, and_true]; omega))
  by_cases q1 : 5 ≤ k
  · exact (.inr (.inl (by simp only [InB, ib1, and_true]; omega)))
  by_cases q2 : w ≤ 0
  · exact (.inr (.inr (.inl (by simp only [InB, ib2, and_true]; omega))))
  by_cases q3 : 5 ≤ w
  · exact (.inr (.inr (.inr (.inl (by simp only [InB, ib3, and_true]; omega)))))
  have hk : k = 1 ∨ k = 2 ∨ k = 3 ∨ k = 4 := by omega
  have hw : w = 1 ∨ w = 2 ∨ w = 3 ∨ w = 4 := by omega
  have he : e = 0 ∨ e = 1 ∨ e = 2 ∨ e = 3 ∨ e = 4 ∨ e = 5 ∨ e = 6 ∨ e = 7 ∨ 8 ≤ e := by omega
  rcases hk with rfl | rfl | rfl | rfl <;> rcases hw with rfl | rfl | rfl | rfl
  · exact (.inr (.inr (.inr (.inr (.inl (by simp only [InB, ib4, and_true]; omega))))))
  · exact (.inr (.inr (.inr (.inr (.inr (.inl (by simp only [InB, ib5, and_true]; omega)))))))
  · exact (.inr (.inr (.inr (.inr (.inr (.inr (.inl (by simp only [InB, ib6, and_true]; omega))))))))
  · exact (.inr (.inr (.inr (.inr (.inr (.inr (.inr (.inl (by simp only [InB, ib7, and_true]; omega)))))))))
  · exact (.inr (.inr (.inr (.inr (.inr (.inr (.inr (.inr (.inl (by simp only [InB, ib8, and_true]; omega))))))))))
  · exact (.inr (.inr (.inr (.inr (.inr (.inr (.inr (.inr (.inr (.inl (by simp only [InB, ib9, and_true]; omega)))))))))))
  · exact (.inr (.inr (.inr (.inr (.inr (.inr (.inr (.inr (.inr (.inr (.inl (by simp only [InB, ib10, and_true]; omega))))))))))))
  · exact (.inr (.inr (.inr (.inr (.inr (.inr (.inr (.inr (.inr (.inr (.inr (.inl (by simp only [InB, ib11, and_true]; omega)))))))))))))
  · rcases he with rfl | rfl | rfl | rfl | rfl | rfl | rfl | rfl | he
    · exact (.inr (.inr (.inr (.inr (.inr (.inr (.inr (.inr (.inr (.inr (.inr (.inr (.inl (by simp only [InB, ib12, and_true]; omega))))))))))))))
    · exact (.inr (.inr (.inr (.inr (.inr (.inr (.inr (.inr (.inr (.inr (.inr (.inr (.inr (.inl (by simp only [InB, ib13, and_true]; omega)))))))))))))))
    · exact (.inr (.inr (.inr (.inr (.inr (.inr (.inr (.inr (.inr (.inr (.inr (.inr (.inr (.inr (.inl (by simp only [InB, ib14, and_true]; omega))))))))))))))))
    · exact (.inr (.inr (.inr (.inr (.inr (.inr (.inr (.inr (.inr (.inr (.inr (.inr (.inr (.inr (.inr (.inl (by simp only [InB, ib15, and_true]; omega)))))))))))))))))
    · exact (.inr (.inr (.inr (.inr (.inr (.inr (.inr (.inr (.inr (.inr (.inr (.inr (.inr (.inr (.inr (.inr (.inl (by simp only [InB, ib16, and_true]; omega))))))))))))))))))
    · exact (.inr (.inr (.inr (.inr (.inr (.inr (.inr (.inr (.inr (.inr (.inr (.inr (.inr (.inr (.inr (.inr (.inr (.inl (by simp only [InB, ib17, and_true]; omega)))))))))))))))))))
    · exact (.inr (.inr (.inr (.inr (.inr (.inr (.inr (.inr (.inr (.inr (.inr (.inr (.inr (.inr (.inr (.inr (.inr (.inr (.inl (by simp only [InB, ib18, and_true]; omega))))))))))))))))))))
    · exact (.inr (.inr (.inr (.inr (.inr (.inr (.inr (.inr (.inr (.inr (.inr (.inr (.inr (.inr (.inr (.inr (.inr (.inr (.inr (.inl (by simp only [InB, ib19, and_true]; omega)))))))))))))))))))))
    · exact (.inr (.inr (.inr (.inr (.inr (.inr (.inr (.inr (.inr (.inr (.inr (.inr (.inr (.inr (.inr (.inr (.inr (.inr (.inr (.inr (.inl (by simp only [InB, ib20, and_true]; omega))))))))))))))))))))))
  · rcases he with rfl | rfl | rfl | rfl | rfl | rfl | rfl | rfl | he
    · exact (.inr (.inr (.inr (.inr (.inr (.inr (.inr (.inr (.inr (.inr (.inr (.inr (.inr (.inr (.inr (.inr (.inr (.inr (.inr (.inr (.inr (.inl (by simp only [InB, ib21, and_true]; omega)))))))))))))))))))))))
    · exact (.inr (.inr (.inr (.inr (.inr (.inr (.inr (.inr (.inr (.inr (.inr (.inr (.inr (.inr (.inr (.inr (.inr (.inr (.inr (.inr (.inr (.inr (.inl (by simp only [InB, ib22, and_true]; omega))))))))))))))))))))))))
    · exact (.inr (.inr (.inr (.inr (.inr (.inr (.inr (.inr (.inr (.inr (.inr (.inr (.inr (.inr (.inr (.inr (.inr (.inr (.inr (.inr (.inr (.inr (.inr (.inl (by simp only [InB, ib23, and_true]; omega)))))))))))))))))))))))))
    · exact (.inr (.inr (.inr (.inr (.inr (.inr (.inr (.inr (.inr (.inr (.inr (.inr (.inr (.inr (.inr (.inr (.inr (.inr (.inr (.inr (.inr (.inr (.inr (.inr (.inl (by simp only [InB, ib24, and_true]; omega))))))))))))))))))))))))))
    · exact (.inr (.inr (.inr (.inr (.inr (.inr (.inr (.inr (.inr (.inr (.inr (.inr (.inr (.inr (.inr (.inr (.inr (.inr (.inr (.inr (.inr (.inr (.inr (.inr (.inr (.inl (by simp only [InB, ib25, and_true]; omega)))))))))))))))))))))))))))
    · exact (.inr (.inr (.inr (.inr (.inr (.inr (.inr (.inr (.inr (.inr (.inr (.inr (.inr (.inr (.inr (.inr (.inr (.inr (.inr (.inr (.inr (.inr (.inr (.inr (.inr (.inr (.inl (by simp only [InB, ib26, and_true]; omega))))))))))))))))))))))))))))
    · exact (.inr (.inr (.inr (.inr (.inr (.inr (.inr (.inr (.inr (.inr (.inr (.inr (.inr (.inr (.inr (.inr (.inr (.inr (.inr (.inr (.inr (.inr (.inr (.inr (.inr (.inr (.inr (.inl (by simp only [InB, ib27, and_true]; omega)))))))))))))))))))))))))))))
    · exact (.inr (.inr (.inr (.inr (.inr (.inr (.inr (.inr (.inr (.inr (.inr (.inr (.inr (.inr (.inr (.inr (.inr (.inr (.inr (.inr (.inr (.inr (.inr (.inr (.inr (.inr (.inr (.inr (.inl (by simp only [InB, ib28, and_true]; omega))))))))))))))))))))))))))))))
    · exact (.inr (.inr (.inr (.inr (.inr (.inr (.inr (.inr (.inr (.inr (.inr (.inr (.inr (.inr (.inr (.inr (.inr (.inr (.inr (.inr (.inr (.inr (.inr (.inr (.inr (.inr (.inr (.inr (.inr (.inl (by simp only [InB, ib29, and_true]; omega)))))))))))))))))))))))))))))))
  · rcases he with rfl | rfl | rfl | rfl | rfl | rfl | rfl | rfl | he
    · exact (.inr (.inr (.inr (.inr (.inr (.inr (.inr (.inr (.inr (.inr (.inr (.inr (.inr (.inr (.inr (.inr (.inr (.inr (.inr (.inr (.inr (.inr (.inr (.inr (.inr (.inr (.inr (.inr (.inr (.inr (.inl (by simp only [InB, ib30, and_true]; omega))))))))))))))))))))))))))))))))
    · exact (.inr (.inr (.inr (.inr (.inr (.inr (.inr (.inr (.inr (.inr (.inr (.inr (.inr (.inr (.inr (.inr (.inr (.inr (.inr (.inr (.inr (.inr (.inr (.inr (.inr (.inr (.inr (.inr (.inr (.inr (.inr (.inl (by simp only [InB, ib31, and_true]; omega)))))))))))))))))))))))))))))))))
    · exact (.inr (.inr (.inr (.inr (.inr (.inr (.inr (.inr (.inr (.inr (.inr (.inr (.inr (.inr (.inr (.inr (.inr (.inr (.inr (.inr (.inr (.inr (.inr (.inr (.inr (.inr (.inr (.inr (.inr (.inr (.inr (.inr (.inl (by simp only [InB, ib32, and_true]; omega))))))))))))))))))))))))))))))))))
    · exact (.inr (.inr (.inr (.inr (.inr (.inr (.inr (.inr (.inr (.inr (.inr (.inr (.inr (.inr (.inr (.inr (.inr (.inr (.inr (.inr (.inr (.inr (.inr (.inr (.inr (.inr (.inr (.inr (.inr (.inr (.inr (.inr (.inr (.inl (by simp only [InB, ib33, and_true]; omega)))))))))))))))))))))))))))))))))))
    · exact (.inr (.inr (.inr (.inr (.inr (.inr (.inr (.inr (.inr (.inr (.inr (.inr (.inr (.inr (.inr (.inr (.inr (.inr (.inr (.inr (.inr (.inr (.inr (.inr (.inr (.inr (.inr (.inr (.inr (.inr (.inr (.inr (.inr (.inr (.inl (by simp only [InB, ib34, and_true]; omega))))))))))))))))))))))))))))))))))))
    · exact (.inr (.inr (.inr (.inr (.inr (.inr (.inr (.inr (.inr (.inr (.inr (.inr (.inr (.inr (.inr (.inr (.inr (.inr (.inr (.inr (.inr (.inr (.inr (.inr (.inr (.inr (.inr (.inr (.inr (.inr (.inr (.inr (.inr (.inr (.inr (.inl (by simp only [InB, ib35, and_true]; omega)))))))))))))))))))))))))))))))))))))
    · exact (.inr (.inr (.inr (.inr (.inr (.inr (.inr (.inr (.inr (.inr (.inr (.inr (.inr (.inr (.inr (.inr (.inr (.inr (.inr (.inr (.inr (.inr (.inr (.inr (.inr (.inr (.inr (.inr (.inr (.inr (.inr (.inr (.inr (.inr (.inr (.inr (.inl (by simp only [InB, ib36, and_true]; omega))))))))))))))))))))))))))))))))))))))
    · exact (.inr (.inr (.inr (.inr (.inr (.inr (.inr (.inr (.inr (.inr (.inr (.inr (.inr (.inr (.inr (.inr (.inr (.inr (.inr (.inr (.inr (.inr (.inr (.inr (.inr (.inr (.inr (.inr (.inr (.inr (.inr (.inr (.inr (.inr (.inr (.inr (.inr (.inl (by simp only [InB, ib37, and_true]; omega)))))))))))))))))))))))))))))))))))))))
    · exact (.inr (.inr (.inr (.inr (.inr (.inr (.inr (.inr (.inr (.inr (.inr (.inr (.inr (.inr (.inr (.inr (.inr (.inr (.inr (.inr (.inr (.inr (.inr (.inr (.inr (.inr (.inr (.inr (.inr (.inr (.inr (.inr (.inr (.inr (.inr (.inr (.inr (.inr (.inl (by simp only [InB, ib38, and_true]; omega))))))))))))))))))))))))))))))))))))))))
  · rcases he with rfl | rfl | rfl | rfl | rfl | rfl | rfl | rfl | he
    · exact (.inr (.inr (.inr (.inr (.inr (.inr (.inr (.inr (.inr (.inr (.inr (.inr (.inr (.inr (.inr (.inr (.inr (.inr (.inr (.inr (.inr (.inr (.inr (.inr (.inr (.inr (.inr (.inr (.inr (.inr (.inr (.inr (.inr (.inr (.inr (.inr (.inr (.inr (.inr (.inl (by simp only [InB, ib39, and_true]; omega)))))))))))))))))))))))))))))))))))))))))
    · exact (.inr (.inr (.inr (.inr (.inr (.inr (.inr (.inr (.inr (.inr (.inr (.inr (.inr (.inr (.inr (.inr (.inr (.inr (.inr (.inr (.inr (.inr (.inr (.inr (.inr (.inr (.inr (.inr (.inr (.inr (.inr (.inr (.inr (.inr (.inr (.inr (.inr (.inr (.inr (.inr (.inl (by simp only [InB, ib40, and_true]; omega))))))))))))))))))))))))))))))))))))))))))
    · exact (.inr (.inr (.inr (.inr (.inr (.inr (.inr (.inr (.inr (.inr (.inr (.inr (.inr (.inr (.inr (.inr (.inr (.inr (.inr (.inr (.inr (.inr (.inr (.inr (.inr (.inr (.inr (.inr (.inr (.inr (.inr (.inr (.inr (.inr (.inr (.inr (.inr (.inr (.inr (.inr (.inr (.inl (by simp only [InB, ib41, and_true]; omega)))))))))))))))))))))))))))))))))))))))))))
    · exact (.inr (.inr (.inr (.inr (.inr (.inr (.inr (.inr (.inr (.inr (.inr (.inr (.inr (.inr (.inr (.inr (.inr (.inr (.inr (.inr (.inr (.inr (.inr (.inr (.inr (.inr (.inr (.inr (.inr (.inr (.inr (.inr (.inr (.inr (.inr (.inr (.inr (.inr (.inr (.inr (.inr (.inr (.inl (by simp only [InB, ib42, and_true]; omega))))))))))))))))))))))))))))))))))))))))))))
    · exact (.inr (.inr (.inr (.inr (.inr (.inr (.inr (.inr (.inr (.inr (.inr (.inr (.inr (.inr (.inr (.inr (.inr (.inr (.inr (.inr (.inr (.inr (.inr (.inr (.inr (.inr (.inr (.inr (.inr (.inr (.inr (.inr (.inr (.inr (.inr (.inr (.inr (.inr (.inr (.inr (.inr (.inr (.inr (.inl (by simp only [InB, ib43, and_true]; omega)))))))))))))))))))))))))))))))))))))))))))))
    · exact (.inr (.inr (.inr (.inr (.inr (.inr (.inr (.inr (.inr (.inr (.inr (.inr (.inr (.inr (.inr (.inr (.inr (.inr (.inr (.inr (.inr (.inr (.inr (.inr (.inr (.inr (.inr (.inr (.inr (.inr (.inr (.inr (.inr (.inr (.inr (.inr (.inr (.inr (.inr (.inr (.inr (.inr (.inr (.inr (.inl (by simp only [InB, ib44, and_true]; omega))))))))))))))))))))))))))))))))))))))))))))))
    · exact (.inr (.inr (.inr (.inr (.inr (.inr (.inr (.inr (.inr (.inr (.inr (.inr (.inr (.inr (.inr (.inr (.inr (.inr (.inr (.inr (.inr (.inr (.inr (.inr (.inr (.inr (.inr (.inr (.inr (.inr (.inr (.inr (.inr (.inr (.inr (.inr (.inr (.inr (.inr (.inr (.inr (.inr (.inr (.inr (.inr (.inl (by simp only [InB, ib45, and_true]; omega)))))))))))))))))))))))))))))))))))))))))))))))
    · exact (.inr (.inr (.inr (.inr (.inr (.inr (.inr (.inr (.inr (.inr (.inr (.inr (.inr (.inr (.inr (.inr (.inr (.inr (.inr (.inr (.inr (.inr (.inr (.inr (.inr (.inr (.inr (.inr (.inr (.inr (.inr (.inr (.inr (.inr (.inr (.inr (.inr (.inr (.inr (.inr (.inr (.inr (.inr (.inr (.inr (.inr (.inl (by simp only [InB, ib46, and_true]; omega))))))))))))))))))))))))))))))))))))))))))))))))
    · exact (.inr (.inr (.inr (.inr (.inr (.inr (.inr (.inr (.inr (.inr (.inr (.inr (.inr (.inr (.inr (.inr (.inr (.inr (.inr (.inr (.inr (.inr (.inr (.inr (.inr (.inr (.inr (.inr (.inr (.inr (.inr (.inr (.inr (.inr (.inr (.inr (.inr (.inr (.inr (.inr (.inr (.inr (.inr (.inr (.inr (.inr (.inr (.inl (by simp only [InB, ib47, and_true]; omega)))))))))))))))))))))))))))))))))))))))))))))))))
  · exact (.inr (.inr (.inr (.inr (.inr (.inr (.inr (.inr (.inr (.inr (.inr (.inr (.inr (.inr (.inr (.inr (.inr (.inr (.inr (.inr (.inr (.inr (.inr (.inr (.inr (.inr (.inr (.inr (.inr (.inr (.inr (.inr (.inr (.inr (.inr (.inr (.inr (.inr (.inr (.inr (.inr (.inr (.inr (.inr (.inr (.inr (.inr (.inr (.inl (by simp only [InB, ib48, and_true]; omega))))))))))))))))))))))))))))))))))))))))))))))))))
  · exact (.inr (.inr (.inr (.inr (.inr (.inr (.inr (.inr (.inr (.inr (.inr (.inr (.inr (.inr (.inr (.inr (.inr (.inr (.inr (.inr (.inr (.inr (.inr (.inr (.inr (.inr (.inr (.inr (.inr (.inr (.inr (.inr (.inr (.inr (.inr (.inr (.inr (.inr (.inr (.inr (.inr (.inr (.inr (.inr (.inr (.inr (.inr (.inr (.inr (.inl (by simp only [InB, ib49, and_true]; omega)))))))))))))))))))))))))))))))))))))))))))))))))))
  · exact (.inr (.inr (.inr (.inr (.inr (.inr (.inr (.inr (.inr (.inr (.inr (.inr (.inr (.inr (.inr (.inr (.inr (.inr (.inr (.inr (.inr (.inr (.inr (.inr (.inr (.inr (.inr (.inr (.inr (.inr (.inr (.inr (.inr (.inr (.inr (.inr (.inr (.inr (.inr (.inr (.inr (.inr (.inr (.inr (.inr (.inr (.inr (.inr (.inr (.inr (.inl (by simp only [InB, ib50, and_true]; omega))))))))))))))))))))))))))))))))))))))))))))))))))))
  · exact (.inr (.inr (.inr (.inr (.inr (.inr (.inr (.inr (.inr (.inr (.inr (.inr (.inr (.inr (.inr (.inr (.inr (.inr (.inr (.inr (.inr (.inr (.inr (.inr (.inr (.inr (.inr (.inr (.inr (.inr (.inr (.inr (.inr (.inr (.inr (.inr (.inr (.inr (.inr (.inr (.inr (.inr (.inr (.inr (.inr (.inr (.inr (.inr (.inr (.inr (.inr (.inl (by simp only [InB, ib51, and_true]; omega)))))))))))))))))))))))))))))))))))))))))))))))))))))
theorem len7 : xsAll.all (fun b => Nat.beq b.length 7) = true := by decide
end Go.Proofs.Ytigilihpofafoaa.Rsh
