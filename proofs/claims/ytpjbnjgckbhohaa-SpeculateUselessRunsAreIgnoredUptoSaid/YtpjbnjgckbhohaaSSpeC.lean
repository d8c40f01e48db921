import Derived.Test.YtpjbnjgckbhohaaSSpeT
/-
  The laws of speculate, in the seat's program: what each call of a law returns.
-/
namespace Go.Proofs.Ytpjbnjgckbhohaa
open Go.RM Go.RM.Sp

theorem c23 : FEqualIntsC FT 23 := fEqualInts_c t23
theorem c28 : RunCodeC FT 28 := runCode_c t28
theorem c27 : PercC FT 27 := percents_c t27
theorem c40 : FEqualIntsC FT 40 := equalI_c t40
theorem c38 : SameC FT 38 := same_c t38 c40
theorem c21 : SameC FT 21 := fEqualRuns_c t21 c23
theorem c36 : IndexRC FT 36 := indexR_c t36
theorem c46 : ContainsRC FT 46 := containsR_c t46 c36
theorem c35 : ResC FT 35 := results_c t35 c28 c46 t47 c38
theorem c17 : DecC FT 17 := decide_c t17 c35 t37 c36 c38
theorem c18 : NextC FT 18 := next_c t18 c17
theorem c39 : BinC FT 39 := bin_c t39 t48 t45 t49
theorem c19 : UsefulC FT 19 := useful_c t19 c17 c28 c39 c40
theorem c29 : ChC FT 29 := chance_c t29
theorem c8 : ChanceC FT 8 := chanceA_c t8 c27 c28 c29
theorem c55 : InsG FT 55 := ins_g t55
theorem c61 : SwapG FT 61 := swap_g t61
theorem c60 : RotG FT 60 := rot_g t60 c61
theorem c56 : SymG FT 56 := sym_g t56 c60
theorem c30 : StabG FT 30 := stab_g t30 t44 c55 c56
theorem c32 : CmpC FT 32 := compare_c t32 t45
theorem c9 : PlanC FT 9 := plan_c t9 c27 c29 c30 t31 c32
theorem c10 : ExC FT 10 := ex_c t10 c8 c9 c17 c18 c19 c21 c23

abbrev tcN : TC := .struct [.int .i64, .slice 1 (.int .i64)]
abbrev tcR : TC := .slice 3 (.struct [tcN, .bool])

theorem runV {Pn : Nat → Prop} {H : Heap} {v : AV} (h : WFv Pn H tcN v) : ∃ (w : AV) (r : Run), v = .agg (runC w r) ∧ Ints H w r.w := by
  obtain ⟨cs, rfl, h⟩ := h
  unfold WFs at h
  obtain ⟨a, b1, rfl, h1, h⟩ := h
  unfold WFs at h
  obtain ⟨b, b2, rfl, h2, h⟩ := h
  unfold WFs at h
  subst h
  obtain ⟨x, rfl, _⟩ := In.int.go h1
  obtain ⟨l, ⟨w, rfl, hl⟩, _⟩ := (In.int (Pn := Pn)).arr.go h2
  exact ⟨w, ⟨x, l⟩, rfl, hl⟩

theorem In.tr {Pn : Nat → Prop} : In Pn (.struct [tcN, .bool]) tTR (fun _ => True) := ⟨fun {H c} h => by
  unfold WF WFs at h
  obtain ⟨a, b1, rfl, h1, h⟩ := h
  unfold WFs at h
  obtain ⟨b, b2, rfl, h2, h⟩ := h
  unfold WFs at h
  subst h
  unfold WF WFs at h1
  obtain ⟨a1, e1, rfl, g1, h1⟩ := h1
  unfold WFs at h1
  obtain ⟨a2, e2, rfl, g2, h1⟩ := h1
  unfold WFs at h1
  subst h1
  obtain ⟨x, rfl, _⟩ := In.int.go g1
  obtain ⟨l, ⟨w, rfl, hl⟩, _⟩ := (In.int (Pn := Pn)).arr.go g2
  obtain ⟨ok, rfl, _⟩ := In.bool.go h2
  exact ⟨⟨⟨x, l⟩, ok⟩, ⟨w, rfl, hl⟩, trivial⟩⟩

theorem core6 (H : Heap) (avs : List AV) (h : WFvs (fun n => n ≤ 1048576) H [.int .i64, tcR, tcN, .bool] avs) : ∃ n H', rcall (tableU Try.prog prims) n H.length 6 avs H = some (.bool true, H') := by
  obtain ⟨v1, r1, rfl, h1, h⟩ := wfvs_cons h
  obtain ⟨v2, r2, rfl, h2, h⟩ := wfvs_cons h
  obtain ⟨v3, r3, rfl, h3, h⟩ := wfvs_cons h
  obtain ⟨v4, r4, rfl, h4, h⟩ := wfvs_cons h
  obtain rfl := wfvs_nil h
  obtain ⟨n, rfl, _⟩ := in_intV h1
  obtain ⟨l, hl, _, _, hp⟩ := In.tr.sliceV h2
  obtain ⟨w, r, rfl, hr⟩ := runV h3
  obtain ⟨b, rfl⟩ := in_boolV h4
  exact core_of (lUseless_c t6 c17 c19 c10 c23 hl hr (by omega) (Nat.le_refl _))
end Go.Proofs.Ytpjbnjgckbhohaa

