/- GeoNodes: the walk: in each of 10 boxes of arguments all ways of the law's run end in 'true'; where the geometry is valid her loop's round leads on by one, and what is left open is arithmetic. -/
import Derived.Test.YtdhebhemkbeppaaLocY3
namespace Go.Proofs.Ytdhebhemkbeppaa.GeoNodesP
open Go Go.RowKit Loc
set_option linter.unusedVariables false
theorem mo : Try.prog.follows .mixedOrders = true := by kernel_rfl
theorem nogo : NoGo Try.prog := nogo_of (by kernel_rfl)
noncomputable def G0 : Know := ⟨fun _ => none, fun _ => false⟩
def witness : Array Value := #[.agg #[.int .i64 1, .int .i64 1, .int .i64 1, .int .i64 1, .int .i64 1], .int .u8 0]
def shG : Sh := .agg [.int .i64, .int .i64, .int .i64, .int .i64, .int .i64]
theorem sh0 : shOf Try.prog 23 = some shG := by kernel_rfl
theorem sh1 : shOf Try.prog 5 = some (.one (.int .u8)) := by kernel_rfl
theorem boolT : Try.prog.underlying 4 = some .bool := by kernel_rfl
def shs : List Sh := [shG, .one (.int .u8)]
def box0 : List (Int × Int) := [(-9223372036854775808, 0), (-9223372036854775808, 9223372036854775807), (-9223372036854775808, 9223372036854775807), (-9223372036854775808, 9223372036854775807), (-9223372036854775808, 9223372036854775807), (0, 255)]
theorem ok0 : BoxOk Try.prog G0 6 8000 shs box0 := fun rho ok => by kernel_rfl
def box1 : List (Int × Int) := [(5, 9223372036854775807), (-9223372036854775808, 9223372036854775807), (-9223372036854775808, 9223372036854775807), (-9223372036854775808, 9223372036854775807), (-9223372036854775808, 9223372036854775807), (0, 255)]
theorem ok1 : BoxOk Try.prog G0 6 8000 shs box1 := fun rho ok => by kernel_rfl
def box2 : List (Int × Int) := [(1, 4), (-9223372036854775808, 0), (-9223372036854775808, 9223372036854775807), (-9223372036854775808, 9223372036854775807), (-9223372036854775808, 9223372036854775807), (0, 255)]
theorem ok2 : BoxOk Try.prog G0 6 8000 shs box2 := fun rho ok => by kernel_rfl
def box3 : List (Int × Int) := [(1, 4), (3, 9223372036854775807), (-9223372036854775808, 9223372036854775807), (-9223372036854775808, 9223372036854775807), (-9223372036854775808, 9223372036854775807), (0, 255)]
theorem ok3 : BoxOk Try.prog G0 6 8000 shs box3 := fun rho ok => by kernel_rfl
def box4 : List (Int × Int) := [(1, 4), (1, 2), (-9223372036854775808, 0), (-9223372036854775808, 9223372036854775807), (-9223372036854775808, 9223372036854775807), (0, 255)]
theorem ok4 : BoxOk Try.prog G0 6 8000 shs box4 := fun rho ok => by kernel_rfl
def box5 : List (Int × Int) := [(1, 4), (1, 2), (5, 9223372036854775807), (-9223372036854775808, 9223372036854775807), (-9223372036854775808, 9223372036854775807), (0, 255)]
theorem ok5 : BoxOk Try.prog G0 6 8000 shs box5 := fun rho ok => by kernel_rfl
def box6 : List (Int × Int) := [(1, 4), (1, 2), (1, 4), (-9223372036854775808, 0), (-9223372036854775808, 9223372036854775807), (0, 255)]
theorem ok6 : BoxOk Try.prog G0 6 8000 shs box6 := fun rho ok => by kernel_rfl
def box7 : List (Int × Int) := [(1, 4), (1, 2), (1, 4), (5, 9223372036854775807), (-9223372036854775808, 9223372036854775807), (0, 255)]
theorem ok7 : BoxOk Try.prog G0 6 8000 shs box7 := fun rho ok => by kernel_rfl
def box8 : List (Int × Int) := [(1, 4), (1, 2), (1, 4), (1, 4), (-9223372036854775808, 0), (0, 255)]
theorem ok8 : BoxOk Try.prog G0 6 8000 shs box8 := fun rho ok => by kernel_rfl
def box9 : List (Int × Int) := [(1, 4), (1, 2), (1, 4), (1, 4), (5, 9223372036854775807), (0, 255)]
theorem ok9 : BoxOk Try.prog G0 6 8000 shs box9 := fun rho ok => by kernel_rfl
def boxes : List (List (Int × Int)) := [box0, box1, box2, box3, box4, box5, box6, box7, box8, box9]
def D : List (Int × Int) := [(1, 4), (1, 2), (1, 4), (1, 4), (1, 4), (0, 255)]
def DT : List (Int × Int) := [(1, 4), (1, 2), (1, 4), (1, 4), (1, 4), (0, 255), (0, 255)]
noncomputable def T : Tm := ⟨100, 1, [(1, .sym .u8 (.v 5)), (2, .ptr 0 0 0 []), (5, .sym .i64 (.v 6))], [(0, [.sym .i64 (.v 0), .sym .i64 (.v 1), .sym .i64 (.v 2), .sym .i64 (.v 3), .sym .i64 (.v 4)])], [none, none, none, none, none, none, some 5], DT⟩
noncomputable def K : List Itm := stopK 1 Try.f6
noncomputable def body : Code := match Try.f6.body with
  | some b => b
  | none => .skip
theorem hbody : Try.f6.body = some body := by kernel_rfl
theorem start (rho : Nat → Int) (ok : ∀ i p, D[i]? = some p → p.1 ≤ rho i ∧ rho i ≤ p.2) : StartOk Try.prog G0 8000 [1] Try.f6 body (symAs shs 0 D) T K (enOf D rho ok) :=
  StartOk.of (m := 1) noR (by kernel_rfl)
abbrev a : SE := .v 0
abbrev b : SE := .v 1
abbrev d : SE := .v 3
abbrev l : SE := .v 5
abbrev n : SE := .v 6
abbrev home : SE := .bin .add .u8 a (.bin .rem .u8 l b)
abbrev low : SE := .bin .mul .u8 (.bin .quo .u8 l (.c 2)) (.c 2)
abbrev h1 : SE := .bin .add .u8 a (.bin .rem .u8 low b)
abbrev h2 : SE := .bin .add .u8 a (.bin .rem .u8 (.bin .add .u8 low (.c 1)) b)
abbrev nodes : SE := .bin .add .i64 a b
abbrev f1 : SB × Bool := (.lt n a, false)
abbrev f2 : SB × Bool := (.lt (.bin .add .i64 n (.c 1)) (.c 256), false)
abbrev f3 : SB × Bool := (.lt home a, false)
abbrev f4 : SB × Bool := (.lt home nodes, true)
abbrev f5 : SB × Bool := (.lt (.bin .rem .u8 l d) d, true)
def R : List (String × List (SB × Bool)) := [("false", [(.iff (.eq h1 h2) (.eq b (.c 1)), false), f5, f4, f3, f2, f1]), ("false", [(.lt (.bin .rem .u8 l d) d, false), f4, f3, f2, f1]),
  ("false", [(.lt home nodes, false), f3, f2, f1]), ("false", [(.lt home a, true), f2, f1]), ("false", [(.lt n nodes, false), (.lt n a, true)])]
theorem hR (rho : Nat → Int) (ok : ∀ i p, DT[i]? = some p → p.1 ≤ rho i ∧ rho i ≤ p.2) : ∀ p ∈ R, ¬ @FactsOk (enOf DT rho ok) p.2 := by
  intro p hp hF
  have k0 : 1 ≤ rho 0 ∧ rho 0 ≤ 4 := ok 0 _ rfl
  have k1 : 1 ≤ rho 1 ∧ rho 1 ≤ 2 := ok 1 _ rfl
  have k3 : 1 ≤ rho 3 ∧ rho 3 ≤ 4 := ok 3 _ rfl
  have k5 : 0 ≤ rho 5 ∧ rho 5 ≤ 255 := ok 5 _ rfl
  have hb : rho 1 = 1 ∨ rho 1 = 2 := by omega
  have w8 : ∀ m : Int, IntKind.u8.wrap m = m % 256 := fun m => by simp [IntKind.wrap, IntKind.bits, IntKind.signed]
  have w64 : ∀ m : Int, -9223372036854775808 ≤ m → m ≤ 9223372036854775807 → IntKind.i64.wrap m = m := fun m h1 h2 => @wrap_id (enOf DT rho ok) _ _ h1 h2
  have m1 : ∀ m : Int, m.tmod 1 = 0 := fun m => Int.tmod_one m
  have m2 : ∀ m : Int, 0 ≤ m → m.tmod 2 = m % 2 := fun m hm => Int.tmod_eq_emod_of_nonneg hm
  have hq : (rho 5).tdiv 2 = rho 5 / 2 := Int.tdiv_eq_ediv_of_nonneg k5.1
  have r5 : 0 ≤ (rho 5).tmod (rho 1) ∧ (rho 5).tmod (rho 1) < rho 1 := by
    rw [Int.tmod_eq_emod_of_nonneg k5.1]
    rcases hb with hb | hb <;> rw [hb] <;> omega
  have r3 : (rho 5).tmod (rho 3) < rho 3 := by
    rw [Int.tmod_eq_emod_of_nonneg k5.1]
    exact Int.emod_lt_of_pos _ (by omega)
  have hn : IntKind.i64.wrap (rho 0 + rho 1) = rho 0 + rho 1 := w64 _ (by omega) (by omega)
  have hh : IntKind.u8.wrap (rho 0 + (rho 5).tmod (rho 1)) = rho 0 + (rho 5).tmod (rho 1) := by rw [w8]; omega
  simp only [R, List.mem_cons, List.not_mem_nil, or_false] at hp
  rcases hp with rfl | rfl | rfl | rfl | rfl
  · have h : ((IntKind.u8.wrap (rho 0 + (IntKind.u8.wrap (IntKind.u8.wrap ((rho 5).tdiv 2) * 2)).tmod (rho 1)) == IntKind.u8.wrap (rho 0 + (IntKind.u8.wrap (IntKind.u8.wrap (IntKind.u8.wrap ((rho 5).tdiv 2) * 2) + 1)).tmod (rho 1))) == (rho 1 == 1)) = false := hF _ List.mem_cons_self
    rw [hq] at h
    simp only [w8] at h
    rcases hb with hb | hb <;> rw [hb] at h
    · rw [m1, m1] at h
      simp at h
    · rw [m2 _ (by omega), m2 _ (by omega)] at h
      have e1 : rho 5 / 2 % 256 * 2 % 256 % 2 = 0 := by omega
      have e2 : (rho 5 / 2 % 256 * 2 % 256 + 1) % 256 % 2 = 1 := by omega
      rw [e1, e2] at h
      have e3 : ((rho 0 + 0) % 256 == (rho 0 + 1) % 256) = false := by rw [beq_eq_false_iff_ne]; omega
      rw [e3] at h
      simp at h
  · have h : decide ((rho 5).tmod (rho 3) < rho 3) = false := hF _ List.mem_cons_self
    rw [decide_eq_false_iff_not] at h
    exact h r3
  · have h : decide (IntKind.u8.wrap (rho 0 + (rho 5).tmod (rho 1)) < IntKind.i64.wrap (rho 0 + rho 1)) = false := hF _ List.mem_cons_self
    rw [decide_eq_false_iff_not, hh, hn] at h
    omega
  · have h : decide (IntKind.u8.wrap (rho 0 + (rho 5).tmod (rho 1)) < rho 0) = true := hF _ List.mem_cons_self
    rw [decide_eq_true_iff, hh] at h
    omega
  · have g1 : decide (rho 6 < IntKind.i64.wrap (rho 0 + rho 1)) = false := hF (.lt n nodes, false) (by simp)
    have g2 : decide (rho 6 < rho 0) = true := hF (.lt n a, true) (by simp)
    rw [decide_eq_false_iff_not, hn] at g1
    rw [decide_eq_true_iff] at g2
    omega
theorem round (rho : Nat → Int) (ok : ∀ i p, DT[i]? = some p → p.1 ≤ rho i ∧ rho i ≤ p.2) : RoundOk Try.prog G0 8000 [1] Try.f6 T 6 K (enOf T.dom rho ok) :=
  RoundOk.of (R := R) (m := 2) (hR rho ok) (by kernel_rfl)
theorem covers (ns : List Int) (h : InD (fullD shs) ns) : InB D ns ∨ Somes (fun l => InB l ns) boxes := by
  obtain ⟨a, _, rfl, a1, a2, b, _, rfl, b1, b2, c, _, rfl, c1, c2, d, _, rfl, d1, d2, e, _, rfl, e1, e2, x0, _, rfl, x1, x2, rfl⟩ := h
  simp only [fullK, kLo, kHi] at a1 a2 b1 b2 c1 c2 d1 d2 e1 e2 x1 x2
  by_cases q0 : a ≤ 0
  · exact .inr (.inl (by simp only [InB, box0, and_true]; omega))
  by_cases q1 : 5 ≤ a
  · exact .inr (.inr (.inl (by simp only [InB, box1, and_true]; omega)))
  by_cases q2 : b ≤ 0
  · exact .inr (.inr (.inr (.inl (by simp only [InB, box2, and_true]; omega))))
  by_cases q3 : 3 ≤ b
  · exact .inr (.inr (.inr (.inr (.inl (by simp only [InB, box3, and_true]; omega)))))
  by_cases q4 : c ≤ 0
  · exact .inr (.inr (.inr (.inr (.inr (.inl (by simp only [InB, box4, and_true]; omega))))))
  by_cases q5 : 5 ≤ c
  · exact .inr (.inr (.inr (.inr (.inr (.inr (.inl (by simp only [InB, box5, and_true]; omega)))))))
  by_cases q6 : d ≤ 0
  · exact .inr (.inr (.inr (.inr (.inr (.inr (.inr (.inl (by simp only [InB, box6, and_true]; omega))))))))
  by_cases q7 : 5 ≤ d
  · exact .inr (.inr (.inr (.inr (.inr (.inr (.inr (.inr (.inl (by simp only [InB, box7, and_true]; omega)))))))))
  by_cases q8 : e ≤ 0
  · exact .inr (.inr (.inr (.inr (.inr (.inr (.inr (.inr (.inr (.inl (by simp only [InB, box8, and_true]; omega))))))))))
  by_cases q9 : 5 ≤ e
  · exact .inr (.inr (.inr (.inr (.inr (.inr (.inr (.inr (.inr (.inr (.inl (by simp only [InB, box9, and_true]; omega)))))))))))
  exact .inl (by simp only [InB, D, and_true]; omega)
theorem walk {vs : List Value} {ns : List Int} (hv : ShsOk shs vs ns) (w : World) : Calls Try.prog 6 vs.toArray w fun e w' => e = .returned (.bool true) ∧ Below w.heap.size w w' := by
  rcases covers ns hv.full with h | h
  · have hlen : vs.length ≤ Try.f6.ntmps := by
      obtain ⟨v, vs', n1, n2, rfl, _, _, v2, vs2, n3, n4, rfl, _, _, rfl, _⟩ := hv
      exact Nat.le_of_ble_eq_true (by kernel_rfl)
    exact loop_law (T := T) (j := 6) (k := K) (hi := 255) mo nogo (fun E _ => ConOk.none' E) Try.func6 hbody round rfl (by decide) start hv h.ind hlen w
  · obtain ⟨l, h1, h2⟩ := Somes.get (l := boxes) (q := BoxOk Try.prog G0 6 8000 shs) ⟨ok0, ok1, ok2, ok3, ok4, ok5, ok6, ok7, ok8, ok9, trivial⟩ h
    exact plain_law mo nogo (fun rho ok => @ConOk.none (enOf l rho ok) _ _ _) h2 hv h1.ind w
end Go.Proofs.Ytdhebhemkbeppaa.GeoNodesP
