import Derived.Test.YtpjbnjgckbhohaaSSpfT
/-
  The law PlanMatchesSpec of speculate, in the seat's program: what each call of it returns.
-/
namespace Go.Proofs.Ytpjbnjgckbhohaa
open Go.RM Go.RM.Sp

theorem c23 : FEqualIntsC FT 23 := fEqualInts_c t23
theorem c13 : FFaultC FT 13 := fFault_c t13
theorem c28 : RunCodeC FT 28 := runCode_c t28
theorem c12 : RunCodeC FT 12 := fRunCode_c t12
theorem c27 : PercC FT 27 := percents_c t27
theorem c11 : PercC FT 11 := fPercents_c t11 c13
theorem c40 : FEqualIntsC FT 40 := equalI_c t40
theorem c38 : SameC FT 38 := same_c t38 c40
theorem c21 : SameC FT 21 := fEqualRuns_c t21 c23
theorem c36 : IndexRC FT 36 := indexR_c t36
theorem c46 : ContainsRC FT 46 := containsR_c t46 c36
theorem c35 : ResC FT 35 := results_c t35 c28 c46 t47 c38
theorem c17 : DecC FT 17 := decide_c t17 c35 t37 c36 c38
theorem c18 : NextC FT 18 := next_c t18 c17
theorem c39 : BinC FT 39 := bin_c t39 t48 t45 t49
theorem c19 : UsefulC FT 19 := useful_c t19 c17 c28 c39 c40
theorem c29 : ChC FT 29 := chance_c t29
theorem c8 : ChanceC FT 8 := chanceA_c t8 c27 c28 c29
theorem c33 : FHasC FT 33 := fHas_c t33
theorem c14 : FChC FT 14 := fChance_c t14 c33
theorem c15 : RunOfC FT 15 := runOf_c t15
theorem c34 : WeightC FT 34 := weight_c t34
theorem c16 : BeforeC FT 16 := before_c t16 c14 c34
theorem c55 : InsG FT 55 := ins_g t55
theorem c61 : SwapG FT 61 := swap_g t61
theorem c60 : RotG FT 60 := rot_g t60 c61
theorem c56 : SymG FT 56 := sym_g t56 c60
theorem c30 : StabG FT 30 := stab_g t30 t44 c55 c56
theorem c32 : CmpC FT 32 := compare_c t32 t45
theorem c9 : PlanC FT 9 := plan_c t9 c27 c29 c30 t31 c32
theorem c10 : ExC FT 10 := ex_c t10 c8 c9 c17 c18 c19 c21 c23

abbrev tcN : TC := .struct [.int .i64, .slice 1 (.int .i64)]

theorem runV {Pn : Nat → Prop} {H : Heap} {v : AV} (h : WFv Pn H tcN v) : ∃ (w : AV) (r : Run), v = .agg (runC w r) ∧ Ints H w r.w := by
  obtain ⟨cs, rfl, h⟩ := h
  unfold WFs at h
  obtain ⟨a, b1, rfl, h1, h⟩ := h
  unfold WFs at h
  obtain ⟨b, b2, rfl, h2, h⟩ := h
  unfold WFs at h
  subst h
  obtain ⟨x, rfl, _⟩ := In.int.go h1
  obtain ⟨l, ⟨w, rfl, hl⟩, _⟩ := (In.int (Pn := Pn)).arr.go h2
  exact ⟨w, ⟨x, l⟩, rfl, hl⟩

theorem core3 (H : Heap) (avs : List AV) (h : WFvs (fun _ => True) H [.slice 1 (.int .i64), tcN, .int .i64] avs) : ∃ n H', rcall (tableU Try.prog prims) n H.length 3 avs H = some (.bool true, H') := by
  obtain ⟨v1, r1, rfl, h1, h⟩ := wfvs_cons h
  obtain ⟨v2, r2, rfl, h2, h⟩ := wfvs_cons h
  obtain ⟨v3, r3, rfl, h3, h⟩ := wfvs_cons h
  obtain rfl := wfvs_nil h
  obtain ⟨l, hl, _⟩ := (In.int (Pn := fun _ => True)).sliceV h1
  obtain ⟨w, r, rfl, hr⟩ := runV h2
  obtain ⟨b, rfl, _⟩ := in_intV h3
  exact core_of (lPlan_c t3 c8 c9 c10 c11 c12 c13 c14 c15 c16 hl hr (Nat.le_refl _))

end Go.Proofs.Ytpjbnjgckbhohaa

