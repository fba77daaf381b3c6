/- The small machine of local values: regions whose order is drawn. Part 1: operations that read alone; masks; plans. -/
import Derived.Test.YtigilihpofafoaaLocC3
import Derived.OrdersIn
namespace Go.Proofs.Ytigilihpofafoaa.Loc
open Go
set_option linter.unusedVariables false
set_option linter.unusedSimpArgs false
set_option linter.unusedSectionVars false
variable [En]
variable {P : Program} {Φ : Out → Prop} {fl : Nat}

theorem quiet_sound (hs : Good Φ) {ev : Operand → LV} {op : Op} {h : LH} {c : LV → Out} (H : Φ (quietL P ev op h c)) :
    ∃ v, Φ (c v) ∧ ∀ fl σ w (ρ : Operand → Value) (o : Oper), o.op = op → (∀ x ∈ op.operands, VR σ (ev x) (ρ x)) → Sim P fl σ h w → ∃ x, (execOp ρ o).run P w = .ok (.value x) w ∧ VR σ v x := by
  cases op with
  | call cl =>
    obtain ⟨callee, args, ats⟩ := cl
    simp only [quietL] at H
    split at H
    · rename_i t l x e2 e3
      obtain ⟨v, hv, key⟩ := lenL_sound hs H
      refine ⟨v, hv, fun fl σ w ρ o ho hx s => ?_⟩
      have hargs : VRs σ (Loc.oneArg ev args.toList) (args.map ρ).toList := by
        rw [Array.toList_map]
        exact VRs.oneArg fun x hx' => hx x (by simp only [Op.operands, Call.operands]; simpa using hx')
      rw [e3] at hargs
      obtain ⟨a, r, hr, ha, hn⟩ := hargs
      simp only [VRs] at hn; subst hn
      have har : args.map ρ = #[a] := by have := congrArg List.toArray hr; rwa [Array.toArray_toList] at this
      have hat : ats[0]? = some t := by rw [← Array.getElem?_toList, e2]; rfl
      obtain ⟨z, k1, k2⟩ := key σ w a ats o.type hat ha
      refine ⟨z, ?_, k2⟩
      simp only [execOp, ho, resolve, invoke, Sem.run_bind, Sem.run_pure, Result.andThen_ok, builtin, har, k1]
    · exact absurd H (hs _)
  | move x => exact ⟨_, H, fun fl σ w ρ o ho hx s => ⟨ρ x, by simp [execOp, ho], hx x (by simp [Op.operands])⟩⟩
  | assign x => exact ⟨_, H, fun fl σ w ρ o ho hx s => ⟨ρ x, by simp [execOp, ho], hx x (by simp [Op.operands])⟩⟩
  | pick b x y =>
    simp only [quietL] at H
    cases hb : ev b with
    | bool q =>
      simp only [hb] at H
      cases q with
      | true =>
        refine ⟨_, H, fun fl σ w ρ o ho hx s => ⟨ρ x, ?_, hx x (by simp [Op.operands])⟩⟩
        have := hx b (by simp [Op.operands])
        rw [hb] at this; simp only [VR] at this
        simp [execOp, ho, this, asBool]
      | false =>
        refine ⟨_, H, fun fl σ w ρ o ho hx s => ⟨ρ y, ?_, hx y (by simp [Op.operands])⟩⟩
        have := hx b (by simp [Op.operands])
        rw [hb] at this; simp only [VR] at this
        simp [execOp, ho, this, asBool]
    | sbl q =>
      simp only [hb] at H
      rcases of_br hs H with ⟨hq, H⟩ | ⟨hq, H⟩
      · refine ⟨_, H, fun fl σ w ρ o ho hx s => ⟨ρ x, ?_, hx x (by simp [Op.operands])⟩⟩
        have := hx b (by simp [Op.operands])
        rw [hb] at this; simp only [VR, hq] at this
        simp [execOp, ho, this, asBool]
      · refine ⟨_, H, fun fl σ w ρ o ho hx s => ⟨ρ y, ?_, hx y (by simp [Op.operands])⟩⟩
        have := hx b (by simp [Op.operands])
        rw [hb] at this; simp only [VR, hq] at this
        simp [execOp, ho, this, asBool]
    | _ => simp only [hb] at H; exact absurd H (hs _)
  | build t ps =>
    simp only [quietL] at H
    obtain ⟨v, hv, key⟩ := buildL_sound hs H
    refine ⟨v, hv, fun fl σ w ρ o ho hx s => ?_⟩
    obtain ⟨z, k1, k2⟩ := key σ w (ps.map fun (i, x) => (i, ρ x)) (by
      simp only [Array.toList_map]
      exact VRp.map fun x hx' => hx x.2 (by simp only [Op.operands]; simp; exact ⟨x.1, by simpa using hx'⟩))
    exact ⟨z, by simp only [execOp, ho, Sem.run_bind, k1, Result.andThen_ok, Sem.run_pure], k2⟩
  | load t x =>
    simp only [quietL] at H
    obtain ⟨v, hv, key⟩ := loadL_sound hs H
    refine ⟨v, hv, fun fl σ w ρ o ho hx s => ?_⟩
    obtain ⟨z, k1, k2⟩ := key σ w (ρ x) (hx x (by simp [Op.operands])) s
    exact ⟨z, by simp only [execOp, ho, Sem.run_bind, k1, Result.andThen_ok, Sem.run_pure], k2⟩
  | nilCheck x =>
    simp only [quietL] at H
    split at H
    · rename_i id i off ix hx0
      refine ⟨_, H, fun fl σ w ρ o ho hx s => ?_⟩
      have := hx x (by simp [Op.operands])
      rw [hx0] at this
      have hv := this
      simp only [VR] at this
      obtain ⟨p, hp, hi, hix, he⟩ := this
      exact ⟨ρ x, by simp [execOp, ho, he], hv⟩
    · rename_i g a b hx0
      refine ⟨_, H, fun fl σ w ρ o ho hx s => ?_⟩
      have := hx x (by simp [Op.operands])
      rw [hx0] at this
      have hv := this
      simp only [VR] at this
      obtain ⟨xs, ys, he, _⟩ := this
      exact ⟨ρ x, by simp [execOp, ho, he], hv⟩
    · exact absurd H (hs _)
  | binOp op t x y q =>
    simp only [quietL] at H
    obtain ⟨v, hv, key⟩ := binL_sound hs H
    refine ⟨v, hv, fun fl σ w ρ o ho hx s => ?_⟩
    obtain ⟨z, k0, k1, k2⟩ := key σ w (ρ x) (ρ y) (hx x (by simp [Op.operands])) (hx y (by simp [Op.operands]))
    exact ⟨z, by simp only [execOp, ho, Sem.run_bind, k0, k1, Result.andThen_ok, Sem.run_pure], k2⟩
  | unOp op t x =>
    simp only [quietL] at H
    obtain ⟨v, hv, key⟩ := unL_sound (P := P) hs H
    refine ⟨v, hv, fun fl σ w ρ o ho hx s => ?_⟩
    obtain ⟨z, k1, k2⟩ := key σ w (ρ x) (hx x (by simp [Op.operands]))
    exact ⟨z, by simp only [execOp, ho, Sem.run_bind, k1, Result.andThen_ok, Sem.run_pure], k2⟩
  | convert a b x =>
    simp only [quietL] at H
    obtain ⟨v, hv, key⟩ := convL_sound hs H
    refine ⟨v, hv, fun fl σ w ρ o ho hx s => ?_⟩
    obtain ⟨z, k1, k2⟩ := key σ w (ρ x) (hx x (by simp [Op.operands])) s
    exact ⟨z, by simp only [execOp, ho, Sem.run_bind, k1, Result.andThen_ok, Sem.run_pure], k2⟩
  | makeFunc fn a b =>
    refine ⟨_, H, fun fl σ w ρ o ho hx s => ⟨.func fn (a.map ρ) (b.map ρ), ?_, ?_⟩⟩
    · simp [execOp, ho, Instr.makeFunc]
    · exact ⟨a.toList.map ρ, b.toList.map ρ, by simp [← Array.toList_map], VRs.map fun x hx' => hx x (by simp [Op.operands]; exact .inl (by simpa using hx')), VRs.map fun x hx' => hx x (by simp [Op.operands]; exact .inr (by simpa using hx'))⟩
  | fieldAddr t x k =>
    simp only [quietL] at H
    obtain ⟨v, hv, key⟩ := fieldAddrL_sound hs H
    refine ⟨v, hv, fun fl σ w ρ o ho hx s => ?_⟩
    obtain ⟨z, k1, k2⟩ := key σ w (ρ x) (hx x (by simp [Op.operands]))
    exact ⟨z, by simp only [execOp, ho, Sem.run_bind, k1, Result.andThen_ok, Sem.run_pure], k2⟩
  | field t x k =>
    simp only [quietL] at H
    obtain ⟨v, hv, key⟩ := fieldL_sound hs H
    refine ⟨v, hv, fun fl σ w ρ o ho hx s => ?_⟩
    obtain ⟨z, k1, k2⟩ := key σ w (ρ x) (hx x (by simp [Op.operands]))
    exact ⟨z, by simp only [execOp, ho, Sem.run_bind, k1, Result.andThen_ok, Sem.run_pure], k2⟩
  | indexAddr t x i =>
    simp only [quietL] at H
    obtain ⟨v, hv, key⟩ := indexAddrL_sound hs H
    refine ⟨v, hv, fun fl σ w ρ o ho hx s => ?_⟩
    obtain ⟨z, k1, k2⟩ := key σ w (ρ x) (ρ i) (hx x (by simp [Op.operands])) (hx i (by simp [Op.operands])) s
    exact ⟨z, by simp only [execOp, ho, Sem.run_bind, k1, Result.andThen_ok, Sem.run_pure], k2⟩
  | index t x i =>
    simp only [quietL] at H
    obtain ⟨v, hv, key⟩ := indexL_sound hs H
    refine ⟨v, hv, fun fl σ w ρ o ho hx s => ?_⟩
    obtain ⟨z, k1, k2⟩ := key σ w (ρ x) (ρ i) (hx x (by simp [Op.operands])) (hx i (by simp [Op.operands]))
    exact ⟨z, by simp only [execOp, ho, Sem.run_bind, k1, Result.andThen_ok, Sem.run_pure], k2⟩
  | slice t x lo hi mx =>
    simp only [quietL] at H
    obtain ⟨v, hv, hm, key⟩ := sliceL_sound hs H
    refine ⟨v, hv, fun fl σ w ρ o ho hx s => ?_⟩
    have hm' : mx = none := by
      cases mx with
      | none => rfl
      | some y => cases hm
    subst hm'
    obtain ⟨z, k1, k2⟩ := key σ w (ρ x) (lo.map ρ) (hi.map ρ) (hx x (by simp [Op.operands])) (VRo.map fun y hy => hx y (by simp [Op.operands, hy])) (VRo.map fun y hy => hx y (by simp [Op.operands, hy])) s
    exact ⟨z, by simp only [execOp, ho, Sem.run_bind, Option.map_none, k1, Result.andThen_ok, Sem.run_pure], k2⟩
  | extract x i =>
    simp only [quietL] at H
    split at H
    · rename_i vs hx0
      cases hv : vs[i]? with
      | none => simp only [hv] at H; exact absurd H (hs _)
      | some v =>
        simp only [hv] at H
        refine ⟨_, H, fun fl σ w ρ o ho hx s => ?_⟩
        have := hx x (by simp [Op.operands])
        rw [hx0] at this
        simp only [VR] at this
        obtain ⟨xs, he, hxs⟩ := this
        obtain ⟨z, z1, z2⟩ := hxs.at i v hv
        exact ⟨z, by simp [execOp, ho, he, Instr.extract, z1], z2⟩
    · exact absurd H (hs _)
  | _ => exact absurd H (hs _)
end Go.Proofs.Ytigilihpofafoaa.Loc
