import Derived.Test.YtpjbnjgckbhohaaRmWp
/-
  Functions of the program as the abstract machine runs them, and what must be shown of a run: printed by RmPrint.
-/
namespace Go.RM
set_option linter.unusedVariables false
set_option maxRecDepth 4000
def rf_FEqualRuns (nFEqualInts : Nat) : RFunc := ⟨2, 5, [.var 2],
 ((.seq (.ops [⟨.tomb 1 (.var 0), none, (some 3), true⟩, ⟨.tomb 1 (.var 1), none, (some 4), true⟩, ⟨.move (.k (.bool false)), none, (some 2), true⟩])
 ((.seq (.ops [⟨.field 0 none (.var 3), none, none, true⟩, ⟨.field 0 none (.var 3), none, none, true⟩, ⟨.field 0 none (.var 4), none, none, true⟩, ⟨.field 0 none (.var 4), none, none, true⟩, ⟨.bin .eql .no (.loc 1) (.loc 3), none, none, true⟩, ⟨.move (.loc 4), none, none, true⟩, ⟨.field 0 none (.var 3), none, none, true⟩, ⟨.field 1 none (.var 3), none, none, true⟩, ⟨.field 0 none (.var 4), none, none, true⟩, ⟨.field 1 none (.var 4), none, none, true⟩, ⟨.callS nFEqualInts [(.loc 7), (.loc 9)], (some (5, true)), none, true⟩, ⟨.pick (.loc 5) (.loc 10) (.k (.bool false)), none, none, true⟩, ⟨.move (.loc 11), none, (some 2), true⟩])
 (.ret))))), none⟩
theorem v_FEqualRuns {F : Nat → Option RFunc} {me nFEqualInts : Nat} (hF : F me = some (rf_FEqualRuns nFEqualInts)) {fl : Nat} {H : Heap} {Q : AV → Heap → Prop} (a0 : Int) (a1 : AV) (b2 : Int) (b3 : AV)
  (h : ∀ (H4 : Heap), Dead1 H 1 H4 → ∀ (H5 : Heap), Dead1 H4 1 H5 → ((a0 = b2) → Ret F fl nFEqualInts [a1, b3] H5 (fun v8 H7 => ∃ (r6 : Bool), v8 = (.bool r6) ∧ Q (.bool r6) H7)) ∧ (¬(a0 = b2) → Q (.bool false) H5)) : Ret F fl me [(.agg [(.int .i64 a0), a1]), (.agg [(.int .i64 b2), b3])] H Q := by
  refine ret_intro hF rfl ?_
  refine w_seq ?_
  refine w_run [1, 1, 0] ?_
  obtain ⟨H4, hb⟩ : ∃ H', Dead1 H 1 H' := ⟨_, ⟨rfl⟩⟩
  replace h := h H4 hb
  refine t_tomb true 1 (.agg [(.int .i64 a0), a1]) [(.int .i64 a0), a1] H4 H (by kernel_rfl) rfl hb ?_
  obtain ⟨H5, hb⟩ : ∃ H', Dead1 H4 1 H' := ⟨_, ⟨rfl⟩⟩
  replace h := h H5 hb
  refine t_tomb true 1 (.agg [(.int .i64 b2), b3]) [(.int .i64 b2), b3] H5 H4 (by kernel_rfl) rfl hb ?_
  refine t_done [(.agg [(.int .i64 a0), a1]), (.agg [(.int .i64 b2), b3]), (.bool false), (.agg [(.int .i64 a0), a1]), (.agg [(.int .i64 b2), b3])] H5 (by kernel_rfl) ?_
  refine then_norm ?_
  refine w_seq ?_
  refine w_run [0, 0, 0, 0, 0, 0, 0, 0, 0, 0, 3, 0, 0] ?_
  refine t_gd ((a0) == b2) true (by kernel_rfl) (fun hc => ?_) (fun hc => ?_)
  · replace h := h.1 (is_eq.t hc)
    refine t_call true nFEqualInts [a1, b3] H5 (by kernel_rfl) h ?_
    clear h
    rintro _ H7 ⟨r6, rfl, h⟩
    refine t_done [(.agg [(.int .i64 a0), a1]), (.agg [(.int .i64 b2), b3]), (.bool r6), (.agg [(.int .i64 a0), a1]), (.agg [(.int .i64 b2), b3])] H7 (by kernel_rfl) ?_
    refine then_norm ?_
    refine w_ret ?_
    exact body_ret (vs := [(.bool r6)]) _ (by kernel_rfl) rfl h
  · replace h := h.2 (is_eq.f hc)
    refine t_done [(.agg [(.int .i64 a0), a1]), (.agg [(.int .i64 b2), b3]), (.bool false), (.agg [(.int .i64 a0), a1]), (.agg [(.int .i64 b2), b3])] H5 (by kernel_rfl) ?_
    refine then_norm ?_
    refine w_ret ?_
    exact body_ret (vs := [(.bool false)]) _ (by kernel_rfl) rfl h

end Go.RM

