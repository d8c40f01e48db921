/-
  The laws of batchbisect, in the seat's program: what each call of a law returns.
-/
import Derived.Test.YtknhokihjigpiaaSBatT
namespace Go.Proofs.Ytknhokihjigpiaa
open Go.RM

theorem c24 : SetCodeC FT 24 := bSetCode_c t24
theorem c14 : CulFaultC FT 14 := bValidate_c t14 c24
theorem c37 : IndexIC FT 37 := indexI_c t37
theorem c34 : ContainsIC FT 34 := containsI_c t34 c37
theorem c32 : ContainsFuncIC FT 32 := containsFuncI_c t32 (indexFuncI_c t36)
theorem c30 : ContainsFuncLC FT 30 := containsFuncL_c t30 (indexFuncL_c t35)
theorem c25 : FailingC FT 25 := bFailing_c t25 t31 t33 c30 c32 c34
theorem c26 : PrefixC FT 26 := prefix_c t26
theorem c27 : SearchC FT 27 := search_c t27
theorem c9 : FailsC FT 9 := fails_c t9 c14 c24 c25
theorem c10 : FirstC FT 10 := first_c t10 c14 c26 c25 t28 c27
theorem c11 : MinimalC FT 11 := minimal_c t11 c14 c26 c25 t29 c27
theorem c12 : GreedyC FT 12 := greedy_c t12 c14 c25
theorem c19 : FEqualIntsC FT 19 := fEqualInts_c t19
theorem c13 : ExampleC FT 13 := bisectExample_c t13 c10 c11 c12 c9 c19
theorem c16 : FFaultC FT 16 := fFault_c t16
theorem c15 : SetCodeC FT 15 := fSetCode_c t15
theorem c8 : CulFaultC FT 8 := fCulFault_c t8 c16 c15
theorem c23 : FHasC FT 23 := fHas_c t23
theorem c17 : FailingC FT 17 := fFailing_c t17 c23
theorem c18 : LandedC FT 18 := fLanded_c t18 c17
theorem c22 : FFirstC FT 22 := fFirst_c t22
theorem c20 : FirstFailingC FT 20 := fFirstFailing_c t20 c22 c17
theorem c21 : FWithoutC FT 21 := fWithout_c t21

theorem listsV {Pn : Nat → Prop} {H : Heap} {v : AV} (h : WFv Pn H (.slice 1 (.slice 1 (.int .i64))) v) : ∃ l, Lists H v l ∧ Pn l.length := by
  obtain ⟨l, h1, _, _, h2⟩ := (In.arr (In.int (Pn := Pn))).sliceV (H := H) (v := v) h
  exact ⟨l, h1, h2⟩
theorem intsV {Pn : Nat → Prop} {H : Heap} {v : AV} (h : WFv Pn H (.slice 1 (.int .i64)) v) : ∃ l, Ints H v l ∧ Pn l.length := by
  obtain ⟨l, h1, _, _, h2⟩ := (In.int (Pn := Pn)).sliceV (H := H) (v := v) h
  exact ⟨l, h1, h2⟩

theorem core3 (H : Heap) (avs : List AV) (h : WFvs (fun _ => True) H [.int .i64, .slice 1 (.slice 1 (.int .i64)), .slice 1 (.int .i64)] avs) : ∃ n H', rcall (tableU Try.prog) n H.length 3 avs H = some (.bool true, H') := by
  obtain ⟨v1, r, rfl, h1, h⟩ := wfvs_cons h
  obtain ⟨v2, r, rfl, h2, h⟩ := wfvs_cons h
  obtain ⟨v3, r, rfl, h3, h⟩ := wfvs_cons h
  obtain rfl := wfvs_nil h
  obtain ⟨n, rfl, _⟩ := in_intV h1
  obtain ⟨cs, h2, _⟩ := listsV h2
  obtain ⟨set, h3, _⟩ := intsV h3
  exact core_of (bspec_run t3 c8 c9 c10 c11 c12 c13 c14 c15 c16 c17 c18 c19 c20 h2 h3 (Nat.le_refl _))

theorem core4 (H : Heap) (avs : List AV) (h : WFvs (fun _ => True) H [.int .i64, .slice 1 (.slice 1 (.int .i64))] avs) : ∃ n H', rcall (tableU Try.prog) n H.length 4 avs H = some (.bool true, H') := by
  obtain ⟨v1, r, rfl, h1, h⟩ := wfvs_cons h
  obtain ⟨v2, r, rfl, h2, h⟩ := wfvs_cons h
  obtain rfl := wfvs_nil h
  obtain ⟨n, rfl, _⟩ := in_intV h1
  obtain ⟨cs, h2, _⟩ := listsV h2
  exact core_of (minimal_run t4 c11 c13 c9 c21 h2 (Nat.le_refl _))

theorem core5 (H : Heap) (avs : List AV) (h : WFvs (fun _ => True) H [.int .i64, .slice 1 (.slice 1 (.int .i64))] avs) : ∃ n H', rcall (tableU Try.prog) n H.length 5 avs H = some (.bool true, H') := by
  obtain ⟨v1, r, rfl, h1, h⟩ := wfvs_cons h
  obtain ⟨v2, r, rfl, h2, h⟩ := wfvs_cons h
  obtain rfl := wfvs_nil h
  obtain ⟨n, rfl, _⟩ := in_intV h1
  obtain ⟨cs, h2, _⟩ := listsV h2
  exact core_of (first_run t5 c10 c13 c22 c9 h2 (Nat.le_refl _))

theorem core6 (H : Heap) (avs : List AV) (h : WFvs (fun _ => True) H [.int .i64, .slice 1 (.slice 1 (.int .i64))] avs) : ∃ n H', rcall (tableU Try.prog) n H.length 6 avs H = some (.bool true, H') := by
  obtain ⟨v1, r, rfl, h1, h⟩ := wfvs_cons h
  obtain ⟨v2, r, rfl, h2, h⟩ := wfvs_cons h
  obtain rfl := wfvs_nil h
  obtain ⟨n, rfl, _⟩ := in_intV h1
  obtain ⟨cs, h2, _⟩ := listsV h2
  exact core_of (greedy_run t6 c12 c13 c9 c23 h2 (Nat.le_refl _))

theorem core7 (H : Heap) (avs : List AV) (h : WFvs (fun n => n ≤ 1048576) H [.int .i64, .slice 1 (.slice 1 (.int .i64)), .slice 1 (.slice 1 (.int .i64)), .slice 1 (.int .i64), .slice 1 (.int .i64)] avs) : ∃ n H', rcall (tableU Try.prog) n H.length 7 avs H = some (.bool true, H') := by
  obtain ⟨v1, r, rfl, h1, h⟩ := wfvs_cons h
  obtain ⟨v2, r, rfl, h2, h⟩ := wfvs_cons h
  obtain ⟨v3, r, rfl, h3, h⟩ := wfvs_cons h
  obtain ⟨v4, r, rfl, h4, h⟩ := wfvs_cons h
  obtain ⟨v5, r, rfl, h5, h⟩ := wfvs_cons h
  obtain rfl := wfvs_nil h
  obtain ⟨n, rfl, _⟩ := in_intV h1
  obtain ⟨cs, h2, l2⟩ := listsV h2
  obtain ⟨more, h3, l3⟩ := listsV h3
  obtain ⟨a, h4, _⟩ := intsV h4
  obtain ⟨b, h5, _⟩ := intsV h5
  exact core_of (mono_run t7 c23 c9 c13 h2 h3 h4 h5 (by omega) (Nat.le_refl _))

end Go.Proofs.Ytknhokihjigpiaa
