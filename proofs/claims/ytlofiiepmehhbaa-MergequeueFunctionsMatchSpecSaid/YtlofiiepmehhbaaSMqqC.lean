import Derived.Test.YtlofiiepmehhbaaSMqqT
/-
  The laws of mergequeue, in the seat's program: what each call of a law returns.
-/
namespace Go.Proofs.Ytlofiiepmehhbaa
open Go.RM Go.RM.Mq

theorem c36 : IndexFuncEC FT 20 := indexFuncE_c t20
theorem c24 : FindC FT 24 := find_c t24 t36 c36
theorem c19 : IndexIC FT 19 := indexI_c t19
theorem c33 : ContainsIC FT 33 := containsI_c t33 c19
theorem c37 : DeleteEC FT 37 := deleteE_c t37
theorem c34 : InsertEC FT 34 := insertE_c t34
theorem c35 : ResetC FT 35 := reset_c t35
theorem c25 : RemoveC FT 25 := remove_c t25 c37 c35
theorem c23 : AddC FT 23 := add_c t23 c24 c33 c34 c35
theorem c17 : StepC FT 17 := step_c t17 c23 c24 c25
theorem c27 : CloneIC FT 27 := cloneI_c t27
theorem c38 : IndexFuncIC FT 38 := indexFuncI_c t38
theorem c26 : DeleteFuncC FT 26 := deleteFunc_c t26 c38
theorem c18 : SettleC FT 18 := settle_c t18 c25 c27 t28 c26
theorem c8 : RunC FT 8 := run_c t8 c17 c18
theorem c9 : OutcomeC FT 9 := outcome_c t9 c8 c19 t21 c36
theorem c16 : FEqualIntsC FT 16 := fEqualInts_c t16
theorem c10 : MExC FT 10 := mex_c t10 c8 c9 c16
theorem c29 : RIndexC FT 29 := rIndex_c t29
theorem c15 : FHasC FT 15 := fHas_c t15
theorem c30 : RInsertC FT 30 := rInsert_c t30
theorem c32 : RCutC FT 32 := rCut_c t32
theorem c31 : RSettledC FT 31 := rSettled_c t31 c32
theorem c22 : RStepC FT 22 := rStep_c t22 c29 c15 c30 c31 c32
theorem c14 : FFaultC FT 14 := fFault_c t14
theorem c11 : RRunC FT 11 := rRun_c t11 c14 c22
theorem c13 : RStateC FT 13 := rState_c t13
theorem c12 : REqC FT 12 := rEq_c t12 c16

theorem In.ev {Pn : Nat → Prop} : In Pn (.struct [.int .i64, .int .i64, .int .i64]) tEv (fun _ => True) := ⟨fun {H c} h => by
  simp only [WF, WFs] at h
  obtain ⟨_, _, rfl, ⟨x, rfl, _⟩, _, _, rfl, ⟨y, rfl, _⟩, _, _, rfl, ⟨z, rfl, _⟩, rfl⟩ := h
  exact ⟨⟨x, y, z⟩, rfl, trivial⟩⟩

abbrev tcE : TC := .slice 3 (.struct [.int .i64, .int .i64, .int .i64])

theorem args {Pn : Nat → Prop} {H : Heap} {avs : List AV} {tl : List TC} (h : WFvs Pn H (.int .i64 :: tcE :: tl) avs) : ∃ w v evs r, avs = i64 w :: v :: r ∧ Arr tEv H v evs ∧ WFvs Pn H tl r := by
  obtain ⟨v1, r1, e1, h1, g1⟩ := wfvs_cons h
  obtain ⟨v2, r2, e2, h2, g2⟩ := wfvs_cons g1
  obtain ⟨w, f1, _⟩ := in_intV h1
  obtain ⟨evs, he, _, _, _⟩ := In.ev.sliceV h2
  exact ⟨w, v2, evs, r2, by rw [e1, e2, f1], he, g2⟩

theorem core3 (H : Heap) (avs : List AV) (h : WFvs (fun _ => True) H [.int .i64, tcE, .int .i64] avs) : ∃ n H', rcall (tableU Try.prog prims) n H.length 3 avs H = some (.bool true, H') := by
  obtain ⟨w, v, evs, r, rfl, he, h⟩ := args h
  obtain ⟨v1, r1, e1, h1, g1⟩ := wfvs_cons h
  obtain ⟨c, rfl, _⟩ := in_intV h1
  obtain rfl := wfvs_nil g1
  subst e1
  exact core_of (lSpec_c t3 c8 c9 c10 c11 c13 c12 c14 he (Nat.le_refl _))
end Go.Proofs.Ytlofiiepmehhbaa

