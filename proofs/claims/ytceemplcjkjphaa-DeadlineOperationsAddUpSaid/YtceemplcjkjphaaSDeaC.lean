import Derived.Test.YtceemplcjkjphaaSDeaT
/-
  The laws of deadline, in the seat's program: what each call of a law returns.
-/
namespace Go.Proofs.Ytceemplcjkjphaa
open Go.RM Go.RM.De

theorem c38 : IndexFuncIC FT 38 := indexFuncI_c t38
theorem c31 : ContainsFuncIC FT 31 := containsFuncI_c t31 c38
theorem c23 : CodeC FT 23 := opCode_c t23 t30 t32 c31
theorem c12 : ValC FT 12 := validate_c t12 c23
theorem c16 : FFaultC FT 16 := fFault_c t16
theorem c20 : CodeC FT 20 := fOpCode_c t20
theorem c8 : ValC FT 8 := procFault_c t8 c16 c20
theorem c21 : NewSysC FT 21 := newSys_c t21
theorem c25 : ClonePC FT 25 := cloneP_c t25
theorem c39 : InsSortC FT 39 := insSort_c t39
theorem c35 : StabSortC FT 26 := stabSort_c (n4 := 40) t26 t35 c39
theorem c28 : CmpC FT 28 := compare_c t28 t36
theorem c37 : RecvC FT 37 := recv_c t37
theorem c29 : TryC FT 29 := try_c t29 c37
theorem c22 : StepC FT 22 := step_c t22 c25 c35 t27 c28 c29
theorem c9 : RunU FT 9 := run_u (run_c t9 c12 c21 c22)
theorem c10 : StuckU FT 10 := stuck_u (stuck_c t10 c12 c21 c22)
theorem c17 : EqResC FT 17 := eqRes_c t17
theorem c15 : FEqualIntsC FT 15 := fEqualInts_c t15
theorem c19 : FHasC FT 19 := fHas_c t19
theorem c11 : ExC FT 11 := ex_c t11 c9 c10 c17 c15
theorem c33 : PickC FT 33 := pick_c t33
theorem c34 : ChoiceC FT 34 := choice_c t34
theorem c24 : PassC FT 24 := pass_c t24 c33 c34
theorem In.op {Pn : Nat → Prop} : In Pn (.struct [.int .i64, .int .i64, .int .i64, .int .i64, .slice 1 (.int .i64)]) tOp (fun _ => True) := ⟨fun {H c} h => by
  unfold WF WFs at h
  obtain ⟨a, b1, rfl, h1, h⟩ := h
  unfold WFs at h
  obtain ⟨b, b2, rfl, h2, h⟩ := h
  unfold WFs at h
  obtain ⟨d, b3, rfl, h3, h⟩ := h
  unfold WFs at h
  obtain ⟨e, b4, rfl, h4, h⟩ := h
  unfold WFs at h
  obtain ⟨g, b5, rfl, h5, h⟩ := h
  unfold WFs at h
  subst h
  obtain ⟨x, rfl, _⟩ := In.int.go h1
  obtain ⟨y, rfl, _⟩ := In.int.go h2
  obtain ⟨z, rfl, _⟩ := In.int.go h3
  obtain ⟨u, rfl, _⟩ := In.int.go h4
  obtain ⟨l, ⟨v, rfl, hl⟩, _⟩ := (In.int (Pn := Pn)).arr.go h5
  exact ⟨⟨x, y, z, u, l⟩, ⟨v, rfl, hl⟩, trivial⟩⟩

abbrev tcS : TC := .slice 1 (.slice 5 (.struct [.int .i64, .int .i64, .int .i64, .int .i64, .slice 1 (.int .i64)]))

/-- The arguments of a law. -/
theorem args {Pn : Nat → Prop} {H : Heap} {avs : List AV} {tl : List TC} (h : WFvs Pn H (.slice 1 (.int .i64) :: tcS :: .int .i64 :: tl) avs) : ∃ cv sv caps scr n r, avs = cv :: sv :: i64 n :: r ∧ Ints H cv caps ∧ Arr (tArr tOp) H sv scr ∧ WFvs Pn H tl r := by
  obtain ⟨v1, r1, e1, h1, g1⟩ := wfvs_cons h
  obtain ⟨v2, r2, e2, h2, g2⟩ := wfvs_cons g1
  obtain ⟨v3, r3, e3, h3, g3⟩ := wfvs_cons g2
  obtain ⟨caps, hc, _⟩ := (In.int (Pn := Pn)).sliceV h1
  obtain ⟨scr, hs, _⟩ := (In.op (Pn := Pn)).arr.sliceV h2
  obtain ⟨n, f3, _⟩ := in_intV h3
  exact ⟨v1, v2, caps, scr, n, r3, by rw [e1, e2, e3, f3], hc, hs, g3⟩

theorem core6 (H : Heap) (avs : List AV) (h : WFvs (fun _ => True) H [.slice 1 (.int .i64), tcS, .int .i64] avs) : ∃ n H', rcall (tableU Try.prog prims) n H.length 6 avs H = some (.bool true, H') := by
  obtain ⟨cv, sv, caps, scr, n, r, rfl, hc, hs, h⟩ := args h
  obtain rfl := wfvs_nil h
  exact core_of (lAddUp_c t6 c9 c10 c11 c19 hc hs (Nat.le_refl _))
end Go.Proofs.Ytceemplcjkjphaa

