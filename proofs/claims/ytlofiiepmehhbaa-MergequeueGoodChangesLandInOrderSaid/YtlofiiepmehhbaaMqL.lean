import Derived.Test.YtlofiiepmehhbaaRmWp
/-
  Functions of the program as the abstract machine runs them, and what must be shown of a run: printed by RmPrint.
-/
namespace Go.RM
set_option linter.unusedVariables false
set_option maxRecDepth 4000
def rf_LqueueExample (nmergequeue_Run nmergequeue_Outcome nFEqualInts : Nat) : RFunc := ⟨0, 9, [.var 0],
 ((.seq (.ops [⟨.move (.k (.bool false)), none, (some 0), true⟩])
 ((.seq (.ops [⟨.build [.int .i64 0, .int .i64 0, .int .i64 0] [(0, 1, (.k (.int .i64 1))), (1, 1, (.k (.int .i64 5)))], none, none, true⟩, ⟨.build [.int .i64 0, .int .i64 0, .int .i64 0] [(0, 1, (.k (.int .i64 1))), (1, 1, (.k (.int .i64 6)))], none, none, true⟩, ⟨.build [.int .i64 0, .int .i64 0, .int .i64 0] [(0, 1, (.k (.int .i64 3))), (1, 1, (.k (.int .i64 6)))], none, none, true⟩, ⟨.build [.int .i64 0, .int .i64 0, .int .i64 0] [(0, 1, (.k (.int .i64 3))), (1, 1, (.k (.int .i64 5)))], none, none, true⟩, ⟨.buildSlice 3 [.int .i64 0, .int .i64 0, .int .i64 0] [(0, 3, (.loc 0)), (3, 3, (.loc 1)), (6, 3, (.loc 2)), (9, 3, (.loc 3))] 4, none, none, true⟩, ⟨.move (.loc 4), none, (some 1), true⟩])
 ((.seq (.ops [⟨.move (.var 1), none, none, true⟩, ⟨.slice 3 (.loc 0) none (some (.k (.int .i64 3))) none, none, none, true⟩, ⟨.callS nmergequeue_Run [(.k (.int .i64 2)), (.loc 1)], none, none, true⟩, ⟨.move (.loc 2), none, none, true⟩, ⟨.extract (.loc 3) 0, none, none, true⟩, ⟨.extract (.loc 3) 1, none, none, true⟩, ⟨.tomb 1 (.k (.agg [.empty, .empty, .empty])), none, (some 5), true⟩, ⟨.tomb 1 (.k (.agg [.int .i64 0, .int .i64 0])), none, (some 2), true⟩, ⟨.upd 3 0 (.loc 6) (.loc 4), none, (some 5), true⟩, ⟨.upd 2 0 (.loc 7) (.loc 5), none, (some 2), true⟩])
 ((.seq (.ops [⟨.move (.var 1), none, none, true⟩, ⟨.callS nmergequeue_Run [(.k (.int .i64 2)), (.loc 0)], none, none, true⟩, ⟨.move (.loc 1), none, none, true⟩, ⟨.extract (.loc 2) 0, none, none, true⟩, ⟨.extract (.loc 2) 1, none, none, true⟩, ⟨.tomb 1 (.k (.agg [.empty, .empty, .empty])), none, (some 6), true⟩, ⟨.tomb 1 (.k (.agg [.int .i64 0, .int .i64 0])), none, (some 3), true⟩, ⟨.upd 3 0 (.loc 5) (.loc 3), none, (some 6), true⟩, ⟨.upd 2 0 (.loc 6) (.loc 4), none, (some 3), true⟩])
 ((.seq (.ops [⟨.move (.var 1), none, none, true⟩, ⟨.callS nmergequeue_Outcome [(.k (.int .i64 2)), (.loc 0), (.k (.int .i64 6))], none, none, true⟩, ⟨.move (.loc 1), none, none, true⟩, ⟨.extract (.loc 2) 0, none, none, true⟩, ⟨.extract (.loc 2) 1, none, none, true⟩, ⟨.extract (.loc 2) 2, none, none, true⟩, ⟨.tomb 1 (.k (.agg [.int .i64 0, .int .i64 0])), none, (some 4), true⟩, ⟨.move (.loc 3), none, (some 7), true⟩, ⟨.move (.loc 4), none, (some 8), true⟩, ⟨.upd 2 0 (.loc 6) (.loc 5), none, (some 4), true⟩])
 ((.seq (.ops [⟨.field 0 none (.var 2), none, none, true⟩, ⟨.field 0 none (.var 2), none, none, true⟩, ⟨.bin .eql .no (.loc 1) (.k (.int .i64 0)), none, none, true⟩, ⟨.move (.loc 2), none, none, true⟩, ⟨.field 0 none (.var 3), none, none, true⟩, ⟨.field 0 none (.var 3), none, none, true⟩, ⟨.bin .eql .no (.loc 5) (.k (.int .i64 0)), none, none, true⟩, ⟨.pick (.loc 3) (.loc 6) (.k (.bool false)), none, none, true⟩, ⟨.move (.loc 7), none, none, true⟩, ⟨.field 0 none (.var 4), none, none, true⟩, ⟨.field 0 none (.var 4), none, none, true⟩, ⟨.bin .eql .no (.loc 10) (.k (.int .i64 0)), none, none, true⟩, ⟨.pick (.loc 8) (.loc 11) (.k (.bool false)), none, none, true⟩, ⟨.move (.loc 12), none, none, true⟩, ⟨.field 0 none (.var 5), none, none, true⟩, ⟨.field 1 none (.var 5), none, none, true⟩, ⟨.len (.loc 15), none, none, true⟩, ⟨.bin .eql .no (.loc 16) (.k (.int .i64 0)), none, none, true⟩, ⟨.pick (.loc 13) (.loc 17) (.k (.bool false)), none, none, true⟩, ⟨.move (.loc 18), none, none, true⟩, ⟨.field 0 none (.var 5), none, none, true⟩, ⟨.field 0 none (.var 5), none, none, true⟩, ⟨.len (.loc 21), none, none, true⟩, ⟨.bin .eql .no (.loc 22) (.k (.int .i64 2)), none, none, true⟩, ⟨.pick (.loc 19) (.loc 23) (.k (.bool false)), none, none, true⟩, ⟨.move (.loc 24), none, none, true⟩, ⟨.field 0 none (.var 6), none, none, true⟩, ⟨.field 1 none (.var 6), none, none, true⟩, ⟨.buildSlice 1 [.int .i64 0] [(0, 1, (.k (.int .i64 5))), (1, 1, (.k (.int .i64 6)))] 2, (some (25, true)), none, true⟩, ⟨.callS nFEqualInts [(.loc 27), (.loc 28)], (some (25, true)), none, true⟩, ⟨.pick (.loc 25) (.loc 29) (.k (.bool false)), none, none, true⟩, ⟨.move (.loc 30), none, none, true⟩, ⟨.move (.var 7), none, none, true⟩, ⟨.bin .eql .no (.loc 32) (.k (.int .i64 1)), none, none, true⟩, ⟨.pick (.loc 31) (.loc 33) (.k (.bool false)), none, none, true⟩, ⟨.move (.loc 34), none, none, true⟩, ⟨.move (.var 8), none, none, true⟩, ⟨.bin .eql .no (.loc 36) (.k (.int .i64 1)), none, none, true⟩, ⟨.pick (.loc 35) (.loc 37) (.k (.bool false)), none, none, true⟩, ⟨.move (.loc 38), none, (some 0), true⟩])
 (.ret))))))))))))), none⟩
theorem v_LqueueExample {F : Nat → Option RFunc} {me nmergequeue_Run nmergequeue_Outcome nFEqualInts : Nat} (hF : F me = some (rf_LqueueExample nmergequeue_Run nmergequeue_Outcome nFEqualInts)) {fl : Nat} {H : Heap} {Q : AV → Heap → Prop} 
  (h : ∀ (b0 : Nat) (H1 : Heap), NewB H 3 [(.int .i64 1), (.int .i64 5), (.int .i64 0), (.int .i64 1), (.int .i64 6), (.int .i64 0), (.int .i64 3), (.int .i64 6), (.int .i64 0), (.int .i64 3), (.int .i64 5), (.int .i64 0)] b0 H1 → ∃ s2 : AV, rslice H1 3 (.slice b0 0 4 (some 4)) none (some (.int .i64 3)) none = some s2 ∧ Ret F fl nmergequeue_Run [(.int .i64 2), s2] H1 (fun v9 H8 => ∃ (r3 : AV) (r4 : AV) (r5 : AV) (r6 : Int) (r7 : Int), v9 = (.tuple [(.agg [r3, r4, r5]), (.agg [(.int .i64 r6), (.int .i64 r7)])]) ∧ ∀ (H10 : Heap), Dead1 H8 1 H10 → ∀ (H11 : Heap), Dead1 H10 1 H11 → Scal r3 ∧ Scal r4 ∧ Scal r5 ∧ Ret F fl nmergequeue_Run [(.int .i64 2), (.slice b0 0 4 (some 4))] H11 (fun v21 H20 => ∃ (r15 : AV) (r16 : AV) (r17 : AV) (r18 : Int) (r19 : Int), v21 = (.tuple [(.agg [r15, r16, r17]), (.agg [(.int .i64 r18), (.int .i64 r19)])]) ∧ ∀ (H22 : Heap), Dead1 H20 1 H22 → ∀ (H23 : Heap), Dead1 H22 1 H23 → Scal r15 ∧ Scal r16 ∧ Scal r17 ∧ Ret F fl nmergequeue_Outcome [(.int .i64 2), (.slice b0 0 4 (some 4)), (.int .i64 6)] H23 (fun v32 H31 => ∃ (r27 : Int) (r28 : Int) (r29 : Int) (r30 : Int), v32 = (.tuple [(.int .i64 r27), (.int .i64 r28), (.agg [(.int .i64 r29), (.int .i64 r30)])]) ∧ ∀ (H33 : Heap), Dead1 H31 1 H33 → ∃ len34 : Nat, lenA r4 = some len34 ∧ ∃ len35 : Nat, lenA r3 = some len35 ∧ ((((((((((r6 = 0) ∧ (r18 = 0))) ∧ (r29 = 0))) ∧ ((len34 : Int) = 0))) ∧ ((len35 : Int) = 2))) → ∀ (b36 : Nat) (H37 : Heap), NewB H33 1 [(.int .i64 5), (.int .i64 6)] b36 H37 → Ret F fl nFEqualInts [r16, (.slice b36 0 2 (some 2))] H37 (fun v40 H39 => ∃ (r38 : Bool), v40 = (.bool r38) ∧ Q (.bool ((r38 && ((r27) == 1)) && ((r28) == 1))) H39)) ∧ (¬(((((((((r6 = 0) ∧ (r18 = 0))) ∧ (r29 = 0))) ∧ ((len34 : Int) = 0))) ∧ ((len35 : Int) = 2))) → Q (.bool false) H33))))) : Ret F fl me [] H Q := by
  refine ret_intro hF rfl ?_
  refine w_seq ?_
  refine w_run [0] ?_
  refine t_done [(.bool false), .undef, .undef, .undef, .undef, .undef, .undef, .undef, .undef] H (by kernel_rfl) ?_
  refine then_norm ?_
  refine w_seq ?_
  refine w_run [1, 1, 1, 1, 1, 0] ?_
  refine t_build true [(.int .i64 0), (.int .i64 0), (.int .i64 0)] [(0, 1, .loc 0), (1, 1, .loc 1)] [(.int .i64 1), (.int .i64 5)] [(.int .i64 1), (.int .i64 5), (.int .i64 0)] H (by kernel_rfl) (fill_c (vs := [(.int .i64 1)]) (size := 1) rfl (by kernel_rfl) (by kernel_rfl) (fill_c (vs := [(.int .i64 5)]) (size := 1) rfl (by kernel_rfl) (by kernel_rfl) (by kernel_rfl))) ?_
  refine t_build true [(.int .i64 0), (.int .i64 0), (.int .i64 0)] [(0, 1, .loc 0), (1, 1, .loc 1)] [(.int .i64 1), (.int .i64 6)] [(.int .i64 1), (.int .i64 6), (.int .i64 0)] H (by kernel_rfl) (fill_c (vs := [(.int .i64 1)]) (size := 1) rfl (by kernel_rfl) (by kernel_rfl) (fill_c (vs := [(.int .i64 6)]) (size := 1) rfl (by kernel_rfl) (by kernel_rfl) (by kernel_rfl))) ?_
  refine t_build true [(.int .i64 0), (.int .i64 0), (.int .i64 0)] [(0, 1, .loc 0), (1, 1, .loc 1)] [(.int .i64 3), (.int .i64 6)] [(.int .i64 3), (.int .i64 6), (.int .i64 0)] H (by kernel_rfl) (fill_c (vs := [(.int .i64 3)]) (size := 1) rfl (by kernel_rfl) (by kernel_rfl) (fill_c (vs := [(.int .i64 6)]) (size := 1) rfl (by kernel_rfl) (by kernel_rfl) (by kernel_rfl))) ?_
  refine t_build true [(.int .i64 0), (.int .i64 0), (.int .i64 0)] [(0, 1, .loc 0), (1, 1, .loc 1)] [(.int .i64 3), (.int .i64 5)] [(.int .i64 3), (.int .i64 5), (.int .i64 0)] H (by kernel_rfl) (fill_c (vs := [(.int .i64 3)]) (size := 1) rfl (by kernel_rfl) (by kernel_rfl) (fill_c (vs := [(.int .i64 5)]) (size := 1) rfl (by kernel_rfl) (by kernel_rfl) (by kernel_rfl))) ?_
  obtain ⟨b0, H1, hb⟩ : ∃ b H', NewB H 3 [(.int .i64 1), (.int .i64 5), (.int .i64 0), (.int .i64 1), (.int .i64 6), (.int .i64 0), (.int .i64 3), (.int .i64 6), (.int .i64 0), (.int .i64 3), (.int .i64 5), (.int .i64 0)] b H' := ⟨_, _, rfl, rfl⟩
  replace h := h b0 H1 hb
  refine t_bs true 3 [(.int .i64 0), (.int .i64 0), (.int .i64 0)] [(0, 3, .loc 0), (3, 3, .loc 1), (6, 3, .loc 2), (9, 3, .loc 3)] 4 [(.agg [(.int .i64 1), (.int .i64 5), (.int .i64 0)]), (.agg [(.int .i64 1), (.int .i64 6), (.int .i64 0)]), (.agg [(.int .i64 3), (.int .i64 6), (.int .i64 0)]), (.agg [(.int .i64 3), (.int .i64 5), (.int .i64 0)])] [(.int .i64 1), (.int .i64 5), (.int .i64 0), (.int .i64 1), (.int .i64 6), (.int .i64 0), (.int .i64 3), (.int .i64 6), (.int .i64 0), (.int .i64 3), (.int .i64 5), (.int .i64 0)] b0 H1 H (by kernel_rfl) (fill_c (vs := [(.int .i64 1), (.int .i64 5), (.int .i64 0)]) (size := 3) rfl (by kernel_rfl) (by kernel_rfl) (fill_c (vs := [(.int .i64 1), (.int .i64 6), (.int .i64 0)]) (size := 3) rfl (by kernel_rfl) (by kernel_rfl) (fill_c (vs := [(.int .i64 3), (.int .i64 6), (.int .i64 0)]) (size := 3) rfl (by kernel_rfl) (by kernel_rfl) (fill_c (vs := [(.int .i64 3), (.int .i64 5), (.int .i64 0)]) (size := 3) rfl (by kernel_rfl) (by kernel_rfl) (by kernel_rfl))))) hb ?_
  refine t_done [(.bool false), (.slice b0 0 4 (some 4)), .undef, .undef, .undef, .undef, .undef, .undef, .undef] H1 (by kernel_rfl) ?_
  refine then_norm ?_
  refine w_seq ?_
  refine w_run [0, 1, 1, 0, 0, 0, 1, 1, 1, 1] ?_
  obtain ⟨s2, hs, h⟩ := h
  refine t_slcH true 3 (.slice b0 0 4 (some 4)) (.int .i64 3) s2 H1 (by kernel_rfl) hs ?_
  refine t_call true nmergequeue_Run [(.int .i64 2), s2] H1 (by kernel_rfl) h ?_
  clear h
  rintro _ H8 ⟨r3, r4, r5, r6, r7, rfl, h⟩
  obtain ⟨H10, hb⟩ : ∃ H', Dead1 H8 1 H' := ⟨_, ⟨rfl⟩⟩
  replace h := h H10 hb
  refine t_tomb true 1 (.agg [.empty, .empty, .empty]) [.empty, .empty, .empty] H10 H8 (by kernel_rfl) rfl hb ?_
  obtain ⟨H11, hb⟩ : ∃ H', Dead1 H10 1 H' := ⟨_, ⟨rfl⟩⟩
  replace h := h H11 hb
  refine t_tomb true 1 (.agg [(.int .i64 0), (.int .i64 0)]) [(.int .i64 0), (.int .i64 0)] H11 H10 (by kernel_rfl) rfl hb ?_
  obtain ⟨hs12, h⟩ := h
  obtain ⟨hs13, h⟩ := h
  obtain ⟨hs14, h⟩ := h
  refine t_upd true 3 0 [.empty, .empty, .empty] (.agg [r3, r4, r5]) [r3, r4, r5] [r3, r4, r5] H11 (by kernel_rfl) rfl (all_c hs12.2 (all_c hs13.2 (all_c hs14.2 all_n))) ⟨rfl, Nat.le_of_ble_eq_true (by kernel_rfl), rfl⟩ ?_
  refine t_upd true 2 0 [(.int .i64 0), (.int .i64 0)] (.agg [(.int .i64 r6), (.int .i64 r7)]) [(.int .i64 r6), (.int .i64 r7)] [(.int .i64 r6), (.int .i64 r7)] H11 (by kernel_rfl) rfl (all_c rfl (all_c rfl all_n)) ⟨rfl, Nat.le_of_ble_eq_true (by kernel_rfl), rfl⟩ ?_
  refine t_done [(.bool false), (.slice b0 0 4 (some 4)), (.agg [(.int .i64 r6), (.int .i64 r7)]), .undef, .undef, (.agg [r3, r4, r5]), .undef, .undef, .undef] H11 (by kernel_rfl) ?_
  refine then_norm ?_
  refine w_seq ?_
  refine w_run [0, 1, 0, 0, 0, 1, 1, 1, 1] ?_
  refine t_call true nmergequeue_Run [(.int .i64 2), (.slice b0 0 4 (some 4))] H11 (by kernel_rfl) h ?_
  clear h
  rintro _ H20 ⟨r15, r16, r17, r18, r19, rfl, h⟩
  obtain ⟨H22, hb⟩ : ∃ H', Dead1 H20 1 H' := ⟨_, ⟨rfl⟩⟩
  replace h := h H22 hb
  refine t_tomb true 1 (.agg [.empty, .empty, .empty]) [.empty, .empty, .empty] H22 H20 (by kernel_rfl) rfl hb ?_
  obtain ⟨H23, hb⟩ : ∃ H', Dead1 H22 1 H' := ⟨_, ⟨rfl⟩⟩
  replace h := h H23 hb
  refine t_tomb true 1 (.agg [(.int .i64 0), (.int .i64 0)]) [(.int .i64 0), (.int .i64 0)] H23 H22 (by kernel_rfl) rfl hb ?_
  obtain ⟨hs24, h⟩ := h
  obtain ⟨hs25, h⟩ := h
  obtain ⟨hs26, h⟩ := h
  refine t_upd true 3 0 [.empty, .empty, .empty] (.agg [r15, r16, r17]) [r15, r16, r17] [r15, r16, r17] H23 (by kernel_rfl) rfl (all_c hs24.2 (all_c hs25.2 (all_c hs26.2 all_n))) ⟨rfl, Nat.le_of_ble_eq_true (by kernel_rfl), rfl⟩ ?_
  refine t_upd true 2 0 [(.int .i64 0), (.int .i64 0)] (.agg [(.int .i64 r18), (.int .i64 r19)]) [(.int .i64 r18), (.int .i64 r19)] [(.int .i64 r18), (.int .i64 r19)] H23 (by kernel_rfl) rfl (all_c rfl (all_c rfl all_n)) ⟨rfl, Nat.le_of_ble_eq_true (by kernel_rfl), rfl⟩ ?_
  refine t_done [(.bool false), (.slice b0 0 4 (some 4)), (.agg [(.int .i64 r6), (.int .i64 r7)]), (.agg [(.int .i64 r18), (.int .i64 r19)]), .undef, (.agg [r3, r4, r5]), (.agg [r15, r16, r17]), .undef, .undef] H23 (by kernel_rfl) ?_
  refine then_norm ?_
  refine w_seq ?_
  refine w_run [0, 1, 0, 0, 0, 0, 1, 0, 0, 1] ?_
  refine t_call true nmergequeue_Outcome [(.int .i64 2), (.slice b0 0 4 (some 4)), (.int .i64 6)] H23 (by kernel_rfl) h ?_
  clear h
  rintro _ H31 ⟨r27, r28, r29, r30, rfl, h⟩
  obtain ⟨H33, hb⟩ : ∃ H', Dead1 H31 1 H' := ⟨_, ⟨rfl⟩⟩
  replace h := h H33 hb
  refine t_tomb true 1 (.agg [(.int .i64 0), (.int .i64 0)]) [(.int .i64 0), (.int .i64 0)] H33 H31 (by kernel_rfl) rfl hb ?_
  refine t_upd true 2 0 [(.int .i64 0), (.int .i64 0)] (.agg [(.int .i64 r29), (.int .i64 r30)]) [(.int .i64 r29), (.int .i64 r30)] [(.int .i64 r29), (.int .i64 r30)] H33 (by kernel_rfl) rfl (all_c rfl (all_c rfl all_n)) ⟨rfl, Nat.le_of_ble_eq_true (by kernel_rfl), rfl⟩ ?_
  refine t_done [(.bool false), (.slice b0 0 4 (some 4)), (.agg [(.int .i64 r6), (.int .i64 r7)]), (.agg [(.int .i64 r18), (.int .i64 r19)]), (.agg [(.int .i64 r29), (.int .i64 r30)]), (.agg [r3, r4, r5]), (.agg [r15, r16, r17]), (.int .i64 r27), (.int .i64 r28)] H33 (by kernel_rfl) ?_
  refine then_norm ?_
  refine w_seq ?_
  refine w_run [0, 0, 0, 0, 0, 0, 0, 0, 0, 0, 0, 0, 0, 0, 0, 0, 1, 0, 0, 0, 0, 0, 1, 0, 0, 0, 0, 0, 3, 3, 0, 0, 0, 0, 0, 0, 0, 0, 0, 0] ?_
  obtain ⟨len34, hl, h⟩ := h
  refine t_len true r4 len34 H33 (by kernel_rfl) hl ?_
  obtain ⟨len35, hl, h⟩ := h
  refine t_len true r3 len35 H33 (by kernel_rfl) hl ?_
  refine t_gd ((((((r6) == 0) && ((r18) == 0)) && ((r29) == 0)) && (((len34 : Int)) == 0)) && (((len35 : Int)) == 2)) true (by kernel_rfl) (fun hc => ?_) (fun hc => ?_)
  · replace h := h.1 ((is_and (is_and (is_and (is_and is_eq is_eq) is_eq) is_eq) is_eq).t hc)
    obtain ⟨b36, H37, hb⟩ : ∃ b H', NewB H33 1 [(.int .i64 5), (.int .i64 6)] b H' := ⟨_, _, rfl, rfl⟩
    replace h := h b36 H37 hb
    refine t_bs true 1 [(.int .i64 0)] [(0, 1, .loc 0), (1, 1, .loc 1)] 2 [(.int .i64 5), (.int .i64 6)] [(.int .i64 5), (.int .i64 6)] b36 H37 H33 (by kernel_rfl) (fill_c (vs := [(.int .i64 5)]) (size := 1) rfl (by kernel_rfl) (by kernel_rfl) (fill_c (vs := [(.int .i64 6)]) (size := 1) rfl (by kernel_rfl) (by kernel_rfl) (by kernel_rfl))) hb ?_
    refine t_gd true true (by kernel_rfl) (fun _ => ?_) (fun hn => by cases hn)
    refine t_call true nFEqualInts [r16, (.slice b36 0 2 (some 2))] H37 (by kernel_rfl) h ?_
    clear h
    rintro _ H39 ⟨r38, rfl, h⟩
    refine t_done [(.bool ((r38 && ((r27) == 1)) && ((r28) == 1))), (.slice b0 0 4 (some 4)), (.agg [(.int .i64 r6), (.int .i64 r7)]), (.agg [(.int .i64 r18), (.int .i64 r19)]), (.agg [(.int .i64 r29), (.int .i64 r30)]), (.agg [r3, r4, r5]), (.agg [r15, r16, r17]), (.int .i64 r27), (.int .i64 r28)] H39 (by kernel_rfl) ?_
    refine then_norm ?_
    refine w_ret ?_
    exact body_ret (vs := [(.bool ((r38 && ((r27) == 1)) && ((r28) == 1)))]) _ (by kernel_rfl) rfl h
  · replace h := h.2 ((is_and (is_and (is_and (is_and is_eq is_eq) is_eq) is_eq) is_eq).f hc)
    refine t_gd false true (by kernel_rfl) (fun hn => by cases hn) (fun _ => ?_)
    refine t_done [(.bool false), (.slice b0 0 4 (some 4)), (.agg [(.int .i64 r6), (.int .i64 r7)]), (.agg [(.int .i64 r18), (.int .i64 r19)]), (.agg [(.int .i64 r29), (.int .i64 r30)]), (.agg [r3, r4, r5]), (.agg [r15, r16, r17]), (.int .i64 r27), (.int .i64 r28)] H33 (by kernel_rfl) ?_
    refine then_norm ?_
    refine w_ret ?_
    exact body_ret (vs := [(.bool false)]) _ (by kernel_rfl) rfl h

def rf_LMergequeueNothingIsLost (nmergequeue_Run nLqueueExample nFHas : Nat) : RFunc := ⟨2, 22, [.var 2],
 ((.seq (.ops [⟨.move (.k (.bool false)), none, (some 2), true⟩])
 ((.seq (.ops [⟨.move (.var 0), none, none, true⟩, ⟨.move (.var 1), none, none, true⟩, ⟨.callS nmergequeue_Run [(.loc 0), (.loc 1)], none, none, true⟩, ⟨.move (.loc 2), none, none, true⟩, ⟨.extract (.loc 3) 0, none, none, true⟩, ⟨.extract (.loc 3) 1, none, none, true⟩, ⟨.tomb 1 (.k (.agg [.empty, .empty, .empty])), none, (some 6), true⟩, ⟨.tomb 1 (.k (.agg [.int .i64 0, .int .i64 0])), none, (some 4), true⟩, ⟨.upd 3 0 (.loc 6) (.loc 4), none, (some 6), true⟩, ⟨.upd 2 0 (.loc 7) (.loc 5), none, (some 4), true⟩])
 ((.seq ((.seq (.ops [⟨.callS nLqueueExample [], none, none, true⟩, ⟨.un .not (.loc 0), none, (some 3), true⟩])
 (.cond (.var 3) ((.seq (.ops [⟨.move (.k (.bool false)), none, (some 2), true⟩])
 (.ret))) (.skip))))
 ((.seq ((.seq (.ops [⟨.field 0 none (.var 4), none, none, true⟩, ⟨.field 0 none (.var 4), none, none, true⟩, ⟨.bin .neq .no (.loc 1) (.k (.int .i64 0)), none, (some 5), true⟩])
 (.cond (.var 5) ((.seq (.ops [⟨.move (.k (.bool true)), none, (some 2), true⟩])
 (.ret))) (.skip))))
 ((.seq (.ops [⟨.field 0 none (.var 6), none, none, false⟩, ⟨.field 1 none (.var 6), none, none, false⟩, ⟨.append 1 8 (.k (.empty)) (.loc 1), none, none, false⟩, ⟨.field 0 none (.var 6), none, none, false⟩, ⟨.field 2 none (.var 6), none, none, false⟩, ⟨.append 1 8 (.loc 2) (.loc 4), none, none, true⟩, ⟨.move (.loc 5), none, (some 9), true⟩])
 ((.seq ((.seq (.ops [⟨.move (.k (.int .i64 0)), none, (some 7), true⟩])
 (.block 0 (.loop ((.seq ((.seq (.ops [⟨.move (.var 7), none, none, true⟩, ⟨.field 0 none (.var 6), none, none, true⟩, ⟨.field 0 none (.var 6), none, none, true⟩, ⟨.len (.loc 2), none, none, true⟩, ⟨.bin .lss .no (.loc 0) (.loc 3), none, (some 8), true⟩])
 (.cond (.var 8) (.skip) (.exit 0))))
 ((.seq (.block 1 (.ops [⟨.move (.var 9), none, none, true⟩, ⟨.field 0 none (.var 6), none, none, true⟩, ⟨.field 0 none (.var 6), none, none, true⟩, ⟨.move (.var 7), none, none, true⟩, ⟨.indexAddr 6 (.loc 2) (.loc 3), none, none, true⟩, ⟨.fieldAddr 0 (.loc 4), none, none, true⟩, ⟨.load none (.loc 5), none, none, true⟩, ⟨.buildSlice 1 [.int .i64 0] [(0, 1, (.loc 6))] 1, none, none, true⟩, ⟨.append 1 8 (.loc 0) (.loc 7), none, none, true⟩, ⟨.move (.loc 8), none, (some 9), true⟩]))
 (.ops [⟨.move (.var 7), none, none, true⟩, ⟨.bin .add .no (.loc 0) (.k (.int .i64 1)), none, none, true⟩, ⟨.move (.loc 1), none, (some 7), true⟩])))))))))
 ((.seq ((.seq (.ops [⟨.move (.k (.int .i64 0)), none, (some 10), true⟩])
 (.block 2 (.loop ((.seq ((.seq (.ops [⟨.move (.var 10), none, none, true⟩, ⟨.move (.var 9), none, none, true⟩, ⟨.len (.loc 1), none, none, true⟩, ⟨.bin .lss .no (.loc 0) (.loc 2), none, (some 11), true⟩])
 (.cond (.var 11) (.skip) (.exit 2))))
 ((.seq (.block 3 ((.seq (.ops [⟨.move (.var 9), none, none, false⟩, ⟨.move (.var 10), none, none, false⟩, ⟨.slice 1 (.loc 0) none (some (.loc 1)) none, none, none, false⟩, ⟨.move (.var 9), none, none, true⟩, ⟨.move (.var 10), none, none, true⟩, ⟨.indexAddr 1 (.loc 3) (.loc 4), none, none, true⟩, ⟨.load none (.loc 5), none, none, true⟩, ⟨.callS nFHas [(.loc 2), (.loc 6)], none, (some 12), true⟩])
 (.cond (.var 12) ((.seq (.ops [⟨.move (.k (.bool false)), none, (some 2), true⟩])
 (.ret))) (.skip)))))
 (.ops [⟨.move (.var 10), none, none, true⟩, ⟨.bin .add .no (.loc 0) (.k (.int .i64 1)), none, none, true⟩, ⟨.move (.loc 1), none, (some 10), true⟩])))))))))
 ((.seq (.ops [⟨.move (.var 9), none, none, true⟩, ⟨.len (.loc 0), none, none, true⟩, ⟨.move (.loc 1), none, (some 16), true⟩])
 ((.seq ((.seq (.ops [⟨.move (.k (.int .i64 0)), none, (some 13), true⟩])
 (.block 4 (.loop ((.seq ((.seq (.ops [⟨.move (.var 13), none, none, true⟩, ⟨.move (.var 1), none, none, true⟩, ⟨.len (.loc 1), none, none, true⟩, ⟨.bin .lss .no (.loc 0) (.loc 2), none, (some 14), true⟩])
 (.cond (.var 14) (.skip) (.exit 4))))
 ((.seq (.block 5 ((.seq ((.seq (.ops [⟨.move (.var 1), none, none, true⟩, ⟨.move (.var 13), none, none, true⟩, ⟨.indexAddr 3 (.loc 0) (.loc 1), none, none, true⟩, ⟨.fieldAddr 0 (.loc 2), none, none, true⟩, ⟨.load none (.loc 3), none, none, true⟩, ⟨.bin .eql .no (.loc 4) (.k (.int .i64 2)), none, (some 15), true⟩])
 (.cond (.var 15) (.ops [⟨.move (.var 16), none, none, true⟩, ⟨.bin .add .no (.loc 0) (.k (.int .i64 1)), none, none, true⟩, ⟨.move (.loc 1), none, (some 16), true⟩]) (.skip))))
 ((.seq (.ops [⟨.move (.var 1), none, none, true⟩, ⟨.move (.var 13), none, none, true⟩, ⟨.indexAddr 3 (.loc 0) (.loc 1), none, none, true⟩, ⟨.fieldAddr 0 (.loc 2), none, none, true⟩, ⟨.load none (.loc 3), none, none, true⟩, ⟨.bin .eql .no (.loc 4) (.k (.int .i64 1)), none, (some 17), true⟩])
 (.cond (.var 17) ((.seq (.ops [⟨.move (.var 16), none, none, true⟩, ⟨.bin .sub .no (.loc 0) (.k (.int .i64 1)), none, none, true⟩, ⟨.move (.loc 1), none, (some 16), true⟩])
 ((.seq (.ops [⟨.move (.k (.bool false)), none, (some 20), true⟩])
 ((.seq ((.seq (.ops [⟨.move (.var 13), none, none, true⟩, ⟨.move (.loc 0), none, (some 18), true⟩])
 (.block 6 (.loop ((.seq ((.seq (.ops [⟨.move (.var 18), none, none, true⟩, ⟨.move (.var 1), none, none, true⟩, ⟨.len (.loc 1), none, none, true⟩, ⟨.bin .lss .no (.loc 0) (.loc 2), none, (some 19), true⟩])
 (.cond (.var 19) (.skip) (.exit 6))))
 ((.seq (.block 7 (.ops [⟨.move (.var 20), none, none, true⟩, ⟨.move (.loc 0), none, none, true⟩, ⟨.move (.var 1), none, none, true⟩, ⟨.move (.var 18), none, none, true⟩, ⟨.indexAddr 3 (.loc 2) (.loc 3), (some (1, false)), none, true⟩, ⟨.fieldAddr 0 (.loc 4), (some (1, false)), none, true⟩, ⟨.load none (.loc 5), (some (1, false)), none, true⟩, ⟨.bin .eql .no (.loc 6) (.k (.int .i64 2)), (some (1, false)), none, true⟩, ⟨.move (.loc 7), (some (1, false)), none, true⟩, ⟨.move (.var 1), none, none, false⟩, ⟨.move (.var 18), none, none, false⟩, ⟨.indexAddr 3 (.loc 9) (.loc 10), (some (8, true)), none, false⟩, ⟨.fieldAddr 1 (.loc 11), (some (8, true)), none, false⟩, ⟨.load none (.loc 12), (some (8, true)), none, false⟩, ⟨.move (.var 1), none, none, false⟩, ⟨.move (.var 13), none, none, false⟩, ⟨.indexAddr 3 (.loc 14) (.loc 15), (some (8, true)), none, false⟩, ⟨.fieldAddr 1 (.loc 16), (some (8, true)), none, false⟩, ⟨.load none (.loc 17), (some (8, true)), none, false⟩, ⟨.bin .eql .no (.loc 13) (.loc 18), (some (8, true)), none, true⟩, ⟨.pick (.loc 8) (.loc 19) (.k (.bool false)), (some (1, false)), none, true⟩, ⟨.pick (.loc 1) (.k (.bool true)) (.loc 20), none, none, true⟩, ⟨.move (.loc 21), none, (some 20), true⟩]))
 (.ops [⟨.move (.var 18), none, none, true⟩, ⟨.bin .add .no (.loc 0) (.k (.int .i64 1)), none, none, true⟩, ⟨.move (.loc 1), none, (some 18), true⟩])))))))))
 ((.seq (.ops [⟨.move (.var 20), none, none, true⟩, ⟨.un .not (.loc 0), none, none, true⟩, ⟨.move (.loc 1), none, none, true⟩, ⟨.move (.var 9), none, none, true⟩, ⟨.move (.var 1), none, none, true⟩, ⟨.move (.var 13), none, none, true⟩, ⟨.indexAddr 3 (.loc 4) (.loc 5), (some (2, true)), none, true⟩, ⟨.fieldAddr 1 (.loc 6), (some (2, true)), none, true⟩, ⟨.load none (.loc 7), (some (2, true)), none, true⟩, ⟨.callS nFHas [(.loc 3), (.loc 8)], (some (2, true)), none, true⟩, ⟨.un .not (.loc 9), (some (2, true)), none, true⟩, ⟨.pick (.loc 2) (.loc 10) (.k (.bool false)), none, (some 21), true⟩])
 (.cond (.var 21) ((.seq (.ops [⟨.move (.k (.bool false)), none, (some 2), true⟩])
 (.ret))) (.skip)))))))))) (.skip)))))))
 (.ops [⟨.move (.var 13), none, none, true⟩, ⟨.bin .add .no (.loc 0) (.k (.int .i64 1)), none, none, true⟩, ⟨.move (.loc 1), none, (some 13), true⟩])))))))))
 ((.seq (.ops [⟨.move (.var 16), none, none, true⟩, ⟨.bin .eql .no (.loc 0) (.k (.int .i64 0)), none, none, true⟩, ⟨.move (.loc 1), none, (some 2), true⟩])
 (.ret))))))))))))))))))))), none⟩
def rf_LMergequeueGoodChangesLandInOrder (nmergequeue_Run nLqueueExample nFEqualInts : Nat) : RFunc := ⟨2, 20, [.var 2],
 ((.seq (.ops [⟨.move (.k (.bool false)), none, (some 2), true⟩])
 ((.seq (.ops [⟨.move (.var 0), none, none, true⟩, ⟨.move (.var 1), none, none, true⟩, ⟨.callS nmergequeue_Run [(.loc 0), (.loc 1)], none, none, true⟩, ⟨.move (.loc 2), none, none, true⟩, ⟨.extract (.loc 3) 0, none, none, true⟩, ⟨.extract (.loc 3) 1, none, none, true⟩, ⟨.tomb 1 (.k (.agg [.empty, .empty, .empty])), none, (some 6), true⟩, ⟨.tomb 1 (.k (.agg [.int .i64 0, .int .i64 0])), none, (some 4), true⟩, ⟨.upd 3 0 (.loc 6) (.loc 4), none, (some 6), true⟩, ⟨.upd 2 0 (.loc 7) (.loc 5), none, (some 4), true⟩])
 ((.seq ((.seq (.ops [⟨.callS nLqueueExample [], none, none, true⟩, ⟨.un .not (.loc 0), none, (some 3), true⟩])
 (.cond (.var 3) ((.seq (.ops [⟨.move (.k (.bool false)), none, (some 2), true⟩])
 (.ret))) (.skip))))
 ((.seq ((.seq (.ops [⟨.field 0 none (.var 4), none, none, true⟩, ⟨.field 0 none (.var 4), none, none, true⟩, ⟨.bin .neq .no (.loc 1) (.k (.int .i64 0)), none, (some 5), true⟩])
 (.cond (.var 5) ((.seq (.ops [⟨.move (.k (.bool true)), none, (some 2), true⟩])
 (.ret))) (.skip))))
 ((.seq (.ops [⟨.move (.var 1), none, none, true⟩, ⟨.append 3 24 (.k (.empty)) (.loc 0), none, none, true⟩, ⟨.move (.loc 1), none, (some 11), true⟩])
 ((.seq (.ops [⟨.field 0 none (.var 6), none, none, true⟩, ⟨.field 1 none (.var 6), none, none, true⟩, ⟨.append 1 8 (.k (.empty)) (.loc 1), none, none, true⟩, ⟨.move (.loc 2), none, (some 9), true⟩])
 ((.seq ((.seq (.ops [⟨.move (.k (.int .i64 0)), none, (some 7), true⟩])
 (.block 0 (.loop ((.seq ((.seq (.ops [⟨.move (.var 7), none, none, true⟩, ⟨.field 0 none (.var 6), none, none, true⟩, ⟨.field 0 none (.var 6), none, none, true⟩, ⟨.len (.loc 2), none, none, true⟩, ⟨.bin .lss .no (.loc 0) (.loc 3), none, (some 8), true⟩])
 (.cond (.var 8) (.skip) (.exit 0))))
 ((.seq (.block 1 (.ops [⟨.move (.var 9), none, none, true⟩, ⟨.field 0 none (.var 6), none, none, true⟩, ⟨.field 0 none (.var 6), none, none, true⟩, ⟨.move (.var 7), none, none, true⟩, ⟨.indexAddr 6 (.loc 2) (.loc 3), none, none, true⟩, ⟨.fieldAddr 0 (.loc 4), none, none, true⟩, ⟨.load none (.loc 5), none, none, true⟩, ⟨.buildSlice 1 [.int .i64 0] [(0, 1, (.loc 6))] 1, none, none, true⟩, ⟨.append 1 8 (.loc 0) (.loc 7), none, none, true⟩, ⟨.move (.loc 8), none, (some 9), true⟩]))
 (.ops [⟨.move (.var 7), none, none, true⟩, ⟨.bin .add .no (.loc 0) (.k (.int .i64 1)), none, none, true⟩, ⟨.move (.loc 1), none, (some 7), true⟩])))))))))
 ((.seq ((.seq (.ops [⟨.move (.k (.int .i64 0)), none, (some 10), true⟩])
 (.block 2 (.loop ((.seq ((.seq (.ops [⟨.move (.var 10), none, none, true⟩, ⟨.bin .lss .no (.loc 0) (.k (.int .i64 10)), none, none, true⟩, ⟨.move (.loc 1), none, none, true⟩, ⟨.move (.var 11), none, none, true⟩, ⟨.len (.loc 3), none, none, true⟩, ⟨.bin .lss .no (.loc 4) (.k (.int .i64 40)), none, none, true⟩, ⟨.pick (.loc 2) (.loc 5) (.k (.bool false)), none, (some 12), true⟩])
 (.cond (.var 12) (.skip) (.exit 2))))
 ((.seq (.block 3 ((.seq (.ops [⟨.move (.var 0), none, none, true⟩, ⟨.move (.var 11), none, none, true⟩, ⟨.callS nmergequeue_Run [(.loc 0), (.loc 1)], none, none, true⟩, ⟨.move (.loc 2), none, none, true⟩, ⟨.extract (.loc 3) 0, none, none, true⟩, ⟨.extract (.loc 3) 1, none, none, true⟩, ⟨.tomb 1 (.k (.agg [.empty, .empty, .empty])), none, (some 14), true⟩, ⟨.tomb 1 (.k (.agg [.int .i64 0, .int .i64 0])), none, (some 13), true⟩, ⟨.upd 3 0 (.loc 6) (.loc 4), none, (some 14), true⟩, ⟨.upd 2 0 (.loc 7) (.loc 5), none, (some 13), true⟩])
 ((.seq ((.seq (.ops [⟨.field 0 none (.var 13), none, none, true⟩, ⟨.field 0 none (.var 13), none, none, true⟩, ⟨.bin .neq .no (.loc 1) (.k (.int .i64 0)), none, none, true⟩, ⟨.move (.loc 2), none, none, true⟩, ⟨.field 0 none (.var 14), (some (3, false)), none, true⟩, ⟨.field 0 none (.var 14), (some (3, false)), none, true⟩, ⟨.len (.loc 5), (some (3, false)), none, true⟩, ⟨.bin .gtr .no (.loc 6) (.k (.int .i64 0)), (some (3, false)), none, true⟩, ⟨.move (.loc 7), (some (3, false)), none, true⟩, ⟨.field 0 none (.var 14), (some (8, true)), none, true⟩, ⟨.field 0 none (.var 14), (some (8, true)), none, true⟩, ⟨.indexAddr 6 (.loc 10) (.k (.int .i64 0)), (some (8, true)), none, true⟩, ⟨.fieldAddr 4 (.loc 11), (some (8, true)), none, true⟩, ⟨.load none (.loc 12), (some (8, true)), none, true⟩, ⟨.pick (.loc 8) (.loc 13) (.k (.bool false)), (some (3, false)), none, true⟩, ⟨.pick (.loc 3) (.k (.bool true)) (.loc 14), none, (some 15), true⟩])
 (.cond (.var 15) ((.seq (.ops [⟨.move (.k (.bool false)), none, (some 2), true⟩])
 (.ret))) (.skip))))
 ((.seq ((.seq (.ops [⟨.move (.k (.int .i64 0)), none, (some 16), true⟩])
 (.block 4 (.loop ((.seq ((.seq (.ops [⟨.move (.var 16), none, none, true⟩, ⟨.field 0 none (.var 14), none, none, true⟩, ⟨.field 0 none (.var 14), none, none, true⟩, ⟨.len (.loc 2), none, none, true⟩, ⟨.bin .lss .no (.loc 0) (.loc 3), none, (some 17), true⟩])
 (.cond (.var 17) (.skip) (.exit 4))))
 ((.seq (.block 5 ((.seq (.ops [⟨.field 0 none (.var 14), none, none, true⟩, ⟨.field 0 none (.var 14), none, none, true⟩, ⟨.move (.var 16), none, none, true⟩, ⟨.indexAddr 6 (.loc 1) (.loc 2), none, none, true⟩, ⟨.fieldAddr 4 (.loc 3), none, none, true⟩, ⟨.load none (.loc 4), none, (some 18), true⟩])
 (.cond (.var 18) ((.seq (.ops [⟨.move (.k (.bool true)), none, (some 2), true⟩])
 (.ret))) (.skip)))))
 (.ops [⟨.move (.var 16), none, none, true⟩, ⟨.bin .add .no (.loc 0) (.k (.int .i64 1)), none, none, true⟩, ⟨.move (.loc 1), none, (some 16), true⟩])))))))))
 ((.seq ((.seq (.ops [⟨.field 0 none (.var 14), none, none, true⟩, ⟨.field 0 none (.var 14), none, none, true⟩, ⟨.len (.loc 1), none, none, true⟩, ⟨.bin .eql .no (.loc 2) (.k (.int .i64 0)), none, (some 19), true⟩])
 (.cond (.var 19) ((.seq (.ops [⟨.field 0 none (.var 14), none, none, true⟩, ⟨.field 1 none (.var 14), none, none, true⟩, ⟨.move (.var 9), none, none, true⟩, ⟨.callS nFEqualInts [(.loc 1), (.loc 2)], none, none, true⟩, ⟨.move (.loc 3), none, (some 2), true⟩])
 (.ret))) (.skip))))
 (.ops [⟨.move (.var 11), none, none, true⟩, ⟨.field 0 none (.var 14), none, none, true⟩, ⟨.field 0 none (.var 14), none, none, true⟩, ⟨.indexAddr 6 (.loc 2) (.k (.int .i64 0)), none, none, true⟩, ⟨.fieldAddr 0 (.loc 3), none, none, true⟩, ⟨.load none (.loc 4), none, none, true⟩, ⟨.build [.int .i64 0, .int .i64 0, .int .i64 0] [(0, 1, (.k (.int .i64 3))), (1, 1, (.loc 5))], none, none, true⟩, ⟨.buildSlice 3 [.int .i64 0, .int .i64 0, .int .i64 0] [(0, 3, (.loc 6))] 1, none, none, true⟩, ⟨.append 3 24 (.loc 0) (.loc 7), none, none, true⟩, ⟨.move (.loc 8), none, (some 11), true⟩]))))))))))
 (.ops [⟨.move (.var 10), none, none, true⟩, ⟨.bin .add .no (.loc 0) (.k (.int .i64 1)), none, none, true⟩, ⟨.move (.loc 1), none, (some 10), true⟩])))))))))
 ((.seq (.ops [⟨.move (.k (.bool true)), none, (some 2), true⟩])
 (.ret))))))))))))))))))), none⟩
theorem v_LMergequeueGoodChangesLandInOrder {F : Nat → Option RFunc} {me nmergequeue_Run nLqueueExample nFEqualInts : Nat} (hF : F me = some (rf_LMergequeueGoodChangesLandInOrder nmergequeue_Run nLqueueExample nFEqualInts)) {fl : Nat} {H : Heap} {Q : AV → Heap → Prop} (window0 : Int) (events1 : AV)
  (h : Ret F fl nmergequeue_Run [(.int .i64 window0), events1] H (fun v8 H7 => ∃ (r2 : AV) (r3 : AV) (r4 : AV) (r5 : Int) (r6 : Int), v8 = (.tuple [(.agg [r2, r3, r4]), (.agg [(.int .i64 r5), (.int .i64 r6)])]) ∧ ∀ (H9 : Heap), Dead1 H7 1 H9 → ∀ (H10 : Heap), Dead1 H9 1 H10 → Scal r2 ∧ Scal r3 ∧ Scal r4 ∧ Ret F fl nLqueueExample [] H10 (fun v16 H15 => ∃ (r14 : Bool), v16 = (.bool r14) ∧ ((¬(r14 = true)) → Q (.bool false) H15) ∧ (¬(¬(r14 = true)) → ((r5 ≠ 0) → Q (.bool true) H15) ∧ (¬(r5 ≠ 0) → ∃ (a17 : AV) (H18 : Heap), appA fl true 3 24 H15 .empty events1 = some (a17, H18) ∧ ∃ (a19 : AV) (H20 : Heap), appA fl true 1 8 H18 .empty r3 = some (a19, H20) ∧ ∃ (J21 : Nat → Int → AV → Heap → Prop) (k22 : Nat), J21 k22 0 a19 H20 ∧ (∀ (m23 : Nat) (i24 : Int) (want26 : AV) (H27 : Heap), J21 m23 i24 want26 H27 → ∃ len28 : Nat, lenA r2 = some len28 ∧ ((i24 < (len28 : Int)) → ∃ (e29 : Int), getA H27 6 none r2 i24 0 = some (.int .i64 e29) ∧ ∀ (b31 : Nat) (H32 : Heap), NewB H27 1 [(.int .i64 e29)] b31 H32 → ∃ (a33 : AV) (H34 : Heap), appA fl true 1 8 H32 want26 (.slice b31 0 1 (some 1)) = some (a33, H34) ∧ ∃ m35 : Nat, m35 < m23 ∧ J21 m35 (IntKind.wrap .i64 (i24 + 1)) a33 H34) ∧ (¬(i24 < (len28 : Int)) → ∃ (J36 : Nat → Int → AV → Heap → Prop) (k37 : Nat), J36 k37 0 a17 H27 ∧ (∀ (m38 : Nat) (round40 : Int) (more41 : AV) (H50 : Heap), J36 m38 round40 more41 H50 → ∃ len51 : Nat, lenA more41 = some len51 ∧ ((((round40 < 10) ∧ ((len51 : Int) < 40))) → Ret F fl nmergequeue_Run [(.int .i64 window0), more41] H50 (fun v58 H57 => ∃ (r52 : AV) (r53 : AV) (r54 : AV) (r55 : Int) (r56 : Int), v58 = (.tuple [(.agg [r52, r53, r54]), (.agg [(.int .i64 r55), (.int .i64 r56)])]) ∧ ∀ (H59 : Heap), Dead1 H57 1 H59 → ∀ (H60 : Heap), Dead1 H59 1 H60 → Scal r52 ∧ Scal r53 ∧ Scal r54 ∧ ∃ (R64 : Prop), (((r55 ≠ 0) → Q (.bool false) H60) ∧ (¬(r55 ≠ 0) → ∃ len67 : Nat, lenA r52 = some len67 ∧ (((len67 : Int) > 0) → ∃ (e68 : Bool), getA H60 6 none r52 0 4 = some (.bool e68) ∧ ((e68 = true) → Q (.bool false) H60) ∧ (¬(e68 = true) → R64 )) ∧ (¬((len67 : Int) > 0) → R64 ))) ∧ (R64  → ∃ (J70 : Nat → Int → Prop) (k71 : Nat), J70 k71 0 ∧ (∀ (m72 : Nat) (i74 : Int), J70 m72 i74 → ∃ len77 : Nat, lenA r52 = some len77 ∧ ((i74 < (len77 : Int)) → ∃ (v78 : Bool), getA H60 6 none r52 i74 4 = some (.bool v78) ∧ ((v78 = true) → Q (.bool true) H60) ∧ (¬(v78 = true) → ∃ m80 : Nat, m80 < m72 ∧ J70 m80 (IntKind.wrap .i64 (i74 + 1)))) ∧ (¬(i74 < (len77 : Int)) → ∃ len81 : Nat, lenA r52 = some len81 ∧ (((len81 : Int) = 0) → Ret F fl nFEqualInts [r53, want26] H60 (fun v84 H83 => ∃ (r82 : Bool), v84 = (.bool r82) ∧ Q (.bool r82) H83)) ∧ (¬((len81 : Int) = 0) → ∃ (e85 : Int), getA H60 6 none r52 0 0 = some (.int .i64 e85) ∧ ∀ (b87 : Nat) (H88 : Heap), NewB H60 3 [(.int .i64 3), (.int .i64 e85), (.int .i64 0)] b87 H88 → ∃ (a89 : AV) (H90 : Heap), appA fl true 3 24 H88 more41 (.slice b87 0 1 (some 1)) = some (a89, H90) ∧ ∃ m91 : Nat, m91 < m38 ∧ J36 m91 (IntKind.wrap .i64 (round40 + 1)) a89 H90)))))) ∧ (¬(((round40 < 10) ∧ ((len51 : Int) < 40))) → Q (.bool true) H50))))))))) : Ret F fl me [(.int .i64 window0), events1] H Q := by
  refine ret_intro hF rfl ?_
  refine w_seq ?_
  refine w_run [0] ?_
  refine t_done [(.int .i64 window0), events1, (.bool false), .undef, .undef, .undef, .undef, .undef, .undef, .undef, .undef, .undef, .undef, .undef, .undef, .undef, .undef, .undef, .undef, .undef] H (by kernel_rfl) ?_
  refine then_norm ?_
  refine w_seq ?_
  refine w_run [0, 0, 1, 0, 0, 0, 1, 1, 1, 1] ?_
  refine t_call true nmergequeue_Run [(.int .i64 window0), events1] H (by kernel_rfl) h ?_
  clear h
  rintro _ H7 ⟨r2, r3, r4, r5, r6, rfl, h⟩
  obtain ⟨H9, hb⟩ : ∃ H', Dead1 H7 1 H' := ⟨_, ⟨rfl⟩⟩
  replace h := h H9 hb
  refine t_tomb true 1 (.agg [.empty, .empty, .empty]) [.empty, .empty, .empty] H9 H7 (by kernel_rfl) rfl hb ?_
  obtain ⟨H10, hb⟩ : ∃ H', Dead1 H9 1 H' := ⟨_, ⟨rfl⟩⟩
  replace h := h H10 hb
  refine t_tomb true 1 (.agg [(.int .i64 0), (.int .i64 0)]) [(.int .i64 0), (.int .i64 0)] H10 H9 (by kernel_rfl) rfl hb ?_
  obtain ⟨hs11, h⟩ := h
  obtain ⟨hs12, h⟩ := h
  obtain ⟨hs13, h⟩ := h
  refine t_upd true 3 0 [.empty, .empty, .empty] (.agg [r2, r3, r4]) [r2, r3, r4] [r2, r3, r4] H10 (by kernel_rfl) rfl (all_c hs11.2 (all_c hs12.2 (all_c hs13.2 all_n))) ⟨rfl, Nat.le_of_ble_eq_true (by kernel_rfl), rfl⟩ ?_
  refine t_upd true 2 0 [(.int .i64 0), (.int .i64 0)] (.agg [(.int .i64 r5), (.int .i64 r6)]) [(.int .i64 r5), (.int .i64 r6)] [(.int .i64 r5), (.int .i64 r6)] H10 (by kernel_rfl) rfl (all_c rfl (all_c rfl all_n)) ⟨rfl, Nat.le_of_ble_eq_true (by kernel_rfl), rfl⟩ ?_
  refine t_done [(.int .i64 window0), events1, (.bool false), .undef, (.agg [(.int .i64 r5), (.int .i64 r6)]), .undef, (.agg [r2, r3, r4]), .undef, .undef, .undef, .undef, .undef, .undef, .undef, .undef, .undef, .undef, .undef, .undef, .undef] H10 (by kernel_rfl) ?_
  refine then_norm ?_
  refine w_seq ?_
  refine w_seq ?_
  refine w_run [1, 0] ?_
  refine t_call true nLqueueExample [] H10 (by kernel_rfl) h ?_
  clear h
  rintro _ H15 ⟨r14, rfl, h⟩
  refine t_done [(.int .i64 window0), events1, (.bool false), (.bool (!r14)), (.agg [(.int .i64 r5), (.int .i64 r6)]), .undef, (.agg [r2, r3, r4]), .undef, .undef, .undef, .undef, .undef, .undef, .undef, .undef, .undef, .undef, .undef, .undef, .undef] H15 (by kernel_rfl) ?_
  refine then_norm ?_
  refine w_cond (t := (!r14)) rfl (fun hc => ?_) (fun hc => ?_)
  · replace h := h.1 ((is_not is_raw).t hc)
    refine w_seq ?_
    refine w_run [0] ?_
    refine t_done [(.int .i64 window0), events1, (.bool false), (.bool (!r14)), (.agg [(.int .i64 r5), (.int .i64 r6)]), .undef, (.agg [r2, r3, r4]), .undef, .undef, .undef, .undef, .undef, .undef, .undef, .undef, .undef, .undef, .undef, .undef, .undef] H15 (by kernel_rfl) ?_
    refine then_norm ?_
    refine w_ret ?_
    refine then_ret ?_
    exact body_ret (vs := [(.bool false)]) _ (by kernel_rfl) rfl h
  · replace h := h.2 ((is_not is_raw).f hc)
    refine w_skip ?_
    refine then_norm ?_
    refine w_seq ?_
    refine w_seq ?_
    refine w_run [0, 0, 0] ?_
    refine t_done [(.int .i64 window0), events1, (.bool false), (.bool (!r14)), (.agg [(.int .i64 r5), (.int .i64 r6)]), (.bool ((r5) != 0)), (.agg [r2, r3, r4]), .undef, .undef, .undef, .undef, .undef, .undef, .undef, .undef, .undef, .undef, .undef, .undef, .undef] H15 (by kernel_rfl) ?_
    refine then_norm ?_
    refine w_cond (t := ((r5) != 0)) rfl (fun hc => ?_) (fun hc => ?_)
    · replace h := h.1 (is_ne.t hc)
      refine w_seq ?_
      refine w_run [0] ?_
      refine t_done [(.int .i64 window0), events1, (.bool true), (.bool (!r14)), (.agg [(.int .i64 r5), (.int .i64 r6)]), (.bool ((r5) != 0)), (.agg [r2, r3, r4]), .undef, .undef, .undef, .undef, .undef, .undef, .undef, .undef, .undef, .undef, .undef, .undef, .undef] H15 (by kernel_rfl) ?_
      refine then_norm ?_
      refine w_ret ?_
      refine then_ret ?_
      exact body_ret (vs := [(.bool true)]) _ (by kernel_rfl) rfl h
    · replace h := h.2 (is_ne.f hc)
      refine w_skip ?_
      refine then_norm ?_
      refine w_seq ?_
      refine w_run [0, 1, 0] ?_
      obtain ⟨a17, H18, ha, h⟩ := h
      refine t_app true 3 24 .empty events1 a17 H18 H15 (by kernel_rfl) ha ?_
      refine t_done [(.int .i64 window0), events1, (.bool false), (.bool (!r14)), (.agg [(.int .i64 r5), (.int .i64 r6)]), (.bool ((r5) != 0)), (.agg [r2, r3, r4]), .undef, .undef, .undef, .undef, a17, .undef, .undef, .undef, .undef, .undef, .undef, .undef, .undef] H18 (by kernel_rfl) ?_
      refine then_norm ?_
      refine w_seq ?_
      refine w_run [0, 0, 1, 0] ?_
      obtain ⟨a19, H20, ha, h⟩ := h
      refine t_app true 1 8 .empty r3 a19 H20 H18 (by kernel_rfl) ha ?_
      refine t_done [(.int .i64 window0), events1, (.bool false), (.bool (!r14)), (.agg [(.int .i64 r5), (.int .i64 r6)]), (.bool ((r5) != 0)), (.agg [r2, r3, r4]), .undef, .undef, a19, .undef, a17, .undef, .undef, .undef, .undef, .undef, .undef, .undef, .undef] H20 (by kernel_rfl) ?_
      refine then_norm ?_
      refine w_seq ?_
      refine w_seq ?_
      refine w_run [0] ?_
      refine t_done [(.int .i64 window0), events1, (.bool false), (.bool (!r14)), (.agg [(.int .i64 r5), (.int .i64 r6)]), (.bool ((r5) != 0)), (.agg [r2, r3, r4]), (.int .i64 0), .undef, a19, .undef, a17, .undef, .undef, .undef, .undef, .undef, .undef, .undef, .undef] H20 (by kernel_rfl) ?_
      refine then_norm ?_
      refine w_block ?_
      obtain ⟨J21, k22, h0, h⟩ := h
      refine w_loop (I := fun mI EI HI => ∃ (i24 : Int) (d25 : AV) (want26 : AV), EI = [(.int .i64 window0), events1, (.bool false), (.bool (!r14)), (.agg [(.int .i64 r5), (.int .i64 r6)]), (.bool ((r5) != 0)), (.agg [r2, r3, r4]), (.int .i64 i24), d25, want26, .undef, a17, .undef, .undef, .undef, .undef, .undef, .undef, .undef, .undef] ∧ J21 mI i24 want26 HI) ?_ k22 ⟨_, _, _, rfl, h0⟩
      clear h0
      rintro m23 EI H27 ⟨i24, d25, want26, rfl, hJ⟩
      replace h := h m23 i24 want26 H27 hJ
      clear hJ
      refine w_seq ?_
      refine w_seq ?_
      refine w_run [0, 0, 0, 1, 0] ?_
      obtain ⟨len28, hl, h⟩ := h
      refine t_len true r2 len28 H27 (by kernel_rfl) hl ?_
      refine t_done [(.int .i64 window0), events1, (.bool false), (.bool (!r14)), (.agg [(.int .i64 r5), (.int .i64 r6)]), (.bool ((r5) != 0)), (.agg [r2, r3, r4]), (.int .i64 i24), (.bool (decide (i24 < (len28 : Int)))), want26, .undef, a17, .undef, .undef, .undef, .undef, .undef, .undef, .undef, .undef] H27 (by kernel_rfl) ?_
      refine then_norm ?_
      refine w_cond (t := (decide (i24 < (len28 : Int)))) rfl (fun hc => ?_) (fun hc => ?_)
      · replace h := h.1 (is_dec.t hc)
        refine w_skip ?_
        refine then_norm ?_
        refine w_seq ?_
        refine w_block ?_
        refine w_run [0, 0, 0, 0, 1, 1, 1, 1, 1, 0] ?_
        obtain ⟨e29, hg30, h⟩ := h
        refine t_idxG true 6 r2 .i64 i24 H27 (by kernel_rfl) hg30 ?_
        refine t_fldG true 0 6 r2 i24 0 H27 (by kernel_rfl) hg30 ?_
        refine t_loadG true none 6 r2 i24 0 (.int .i64 e29) H27 (by kernel_rfl) hg30 ?_
        obtain ⟨b31, H32, hb⟩ : ∃ b H', NewB H27 1 [(.int .i64 e29)] b H' := ⟨_, _, rfl, rfl⟩
        replace h := h b31 H32 hb
        refine t_bs true 1 [(.int .i64 0)] [(0, 1, .loc 0)] 1 [(.int .i64 e29)] [(.int .i64 e29)] b31 H32 H27 (by kernel_rfl) (fill_c (vs := [(.int .i64 e29)]) (size := 1) rfl (by kernel_rfl) (by kernel_rfl) (by kernel_rfl)) hb ?_
        obtain ⟨a33, H34, ha, h⟩ := h
        refine t_app true 1 8 want26 (.slice b31 0 1 (some 1)) a33 H34 H32 (by kernel_rfl) ha ?_
        refine t_done [(.int .i64 window0), events1, (.bool false), (.bool (!r14)), (.agg [(.int .i64 r5), (.int .i64 r6)]), (.bool ((r5) != 0)), (.agg [r2, r3, r4]), (.int .i64 i24), (.bool (decide (i24 < (len28 : Int)))), a33, .undef, a17, .undef, .undef, .undef, .undef, .undef, .undef, .undef, .undef] H34 (by kernel_rfl) ?_
        refine block_norm ?_
        refine then_norm ?_
        refine w_run [0, 0, 0] ?_
        refine t_done [(.int .i64 window0), events1, (.bool false), (.bool (!r14)), (.agg [(.int .i64 r5), (.int .i64 r6)]), (.bool ((r5) != 0)), (.agg [r2, r3, r4]), (.int .i64 (IntKind.wrap .i64 (i24 + 1))), (.bool (decide (i24 < (len28 : Int)))), a33, .undef, a17, .undef, .undef, .undef, .undef, .undef, .undef, .undef, .undef] H34 (by kernel_rfl) ?_
        obtain ⟨m', hm, h⟩ := h
        refine loop_norm ⟨m', hm, _, _, _, rfl, h⟩
      · replace h := h.2 (is_dec.f hc)
        refine w_exit ?_
        refine then_exit ?_
        refine loop_exit ?_
        refine block_exit ?_
        refine then_norm ?_
        refine w_seq ?_
        refine w_seq ?_
        refine w_run [0] ?_
        refine t_done [(.int .i64 window0), events1, (.bool false), (.bool (!r14)), (.agg [(.int .i64 r5), (.int .i64 r6)]), (.bool ((r5) != 0)), (.agg [r2, r3, r4]), (.int .i64 i24), (.bool (decide (i24 < (len28 : Int)))), want26, (.int .i64 0), a17, .undef, .undef, .undef, .undef, .undef, .undef, .undef, .undef] H27 (by kernel_rfl) ?_
        refine then_norm ?_
        refine w_block ?_
        obtain ⟨J36, k37, h0, h⟩ := h
        refine w_loop (I := fun mI EI HI => ∃ (d39 : AV) (round40 : Int) (more41 : AV) (d42 : AV) (d43 : AV) (d44 : AV) (d45 : AV) (d46 : AV) (d47 : AV) (d48 : AV) (d49 : AV), EI = [(.int .i64 window0), events1, d39, (.bool (!r14)), (.agg [(.int .i64 r5), (.int .i64 r6)]), (.bool ((r5) != 0)), (.agg [r2, r3, r4]), (.int .i64 i24), (.bool (decide (i24 < (len28 : Int)))), want26, (.int .i64 round40), more41, d42, d43, d44, d45, d46, d47, d48, d49] ∧ J36 mI round40 more41 HI) ?_ k37 ⟨_, _, _, _, _, _, _, _, _, _, _, rfl, h0⟩
        clear h0
        rintro m38 EI H50 ⟨d39, round40, more41, d42, d43, d44, d45, d46, d47, d48, d49, rfl, hJ⟩
        replace h := h m38 round40 more41 H50 hJ
        clear hJ
        refine w_seq ?_
        refine w_seq ?_
        refine w_run [0, 0, 0, 0, 1, 0, 0] ?_
        obtain ⟨len51, hl, h⟩ := h
        refine t_len true more41 len51 H50 (by kernel_rfl) hl ?_
        refine t_done [(.int .i64 window0), events1, d39, (.bool (!r14)), (.agg [(.int .i64 r5), (.int .i64 r6)]), (.bool ((r5) != 0)), (.agg [r2, r3, r4]), (.int .i64 i24), (.bool (decide (i24 < (len28 : Int)))), want26, (.int .i64 round40), more41, (.bool ((decide (round40 < 10)) && (decide ((len51 : Int) < 40)))), d43, d44, d45, d46, d47, d48, d49] H50 (by kernel_rfl) ?_
        refine then_norm ?_
        refine w_cond (t := ((decide (round40 < 10)) && (decide ((len51 : Int) < 40)))) rfl (fun hc => ?_) (fun hc => ?_)
        · replace h := h.1 ((is_and is_dec is_dec).t hc)
          refine w_skip ?_
          refine then_norm ?_
          refine w_seq ?_
          refine w_block ?_
          refine w_seq ?_
          refine w_run [0, 0, 1, 0, 0, 0, 1, 1, 1, 1] ?_
          refine t_call true nmergequeue_Run [(.int .i64 window0), more41] H50 (by kernel_rfl) h ?_
          clear h
          rintro _ H57 ⟨r52, r53, r54, r55, r56, rfl, h⟩
          obtain ⟨H59, hb⟩ : ∃ H', Dead1 H57 1 H' := ⟨_, ⟨rfl⟩⟩
          replace h := h H59 hb
          refine t_tomb true 1 (.agg [.empty, .empty, .empty]) [.empty, .empty, .empty] H59 H57 (by kernel_rfl) rfl hb ?_
          obtain ⟨H60, hb⟩ : ∃ H', Dead1 H59 1 H' := ⟨_, ⟨rfl⟩⟩
          replace h := h H60 hb
          refine t_tomb true 1 (.agg [(.int .i64 0), (.int .i64 0)]) [(.int .i64 0), (.int .i64 0)] H60 H59 (by kernel_rfl) rfl hb ?_
          obtain ⟨hs61, h⟩ := h
          obtain ⟨hs62, h⟩ := h
          obtain ⟨hs63, h⟩ := h
          refine t_upd true 3 0 [.empty, .empty, .empty] (.agg [r52, r53, r54]) [r52, r53, r54] [r52, r53, r54] H60 (by kernel_rfl) rfl (all_c hs61.2 (all_c hs62.2 (all_c hs63.2 all_n))) ⟨rfl, Nat.le_of_ble_eq_true (by kernel_rfl), rfl⟩ ?_
          refine t_upd true 2 0 [(.int .i64 0), (.int .i64 0)] (.agg [(.int .i64 r55), (.int .i64 r56)]) [(.int .i64 r55), (.int .i64 r56)] [(.int .i64 r55), (.int .i64 r56)] H60 (by kernel_rfl) rfl (all_c rfl (all_c rfl all_n)) ⟨rfl, Nat.le_of_ble_eq_true (by kernel_rfl), rfl⟩ ?_
          refine t_done [(.int .i64 window0), events1, d39, (.bool (!r14)), (.agg [(.int .i64 r5), (.int .i64 r6)]), (.bool ((r5) != 0)), (.agg [r2, r3, r4]), (.int .i64 i24), (.bool (decide (i24 < (len28 : Int)))), want26, (.int .i64 round40), more41, (.bool ((decide (round40 < 10)) && (decide ((len51 : Int) < 40)))), (.agg [(.int .i64 r55), (.int .i64 r56)]), (.agg [r52, r53, r54]), d45, d46, d47, d48, d49] H60 (by kernel_rfl) ?_
          refine then_norm ?_
          refine w_seq ?_
          obtain ⟨R64, h, hK⟩ := h
          refine w_join (fun EI HI => ∃ (d65 : AV) (d66 : AV), EI = [(.int .i64 window0), events1, d65, (.bool (!r14)), (.agg [(.int .i64 r5), (.int .i64 r6)]), (.bool ((r5) != 0)), (.agg [r2, r3, r4]), (.int .i64 i24), (.bool (decide (i24 < (len28 : Int)))), want26, (.int .i64 round40), more41, (.bool ((decide (round40 < 10)) && (decide ((len51 : Int) < 40)))), (.agg [(.int .i64 r55), (.int .i64 r56)]), (.agg [r52, r53, r54]), d66, d46, d47, d48, d49] ∧ H60 = HI ∧ R64 ) ?_ ?_
          · clear hK
            refine w_seq ?_
            refine w_run [0, 0, 0, 0, 2, 2, 3, 2, 2, 2, 2, 3, 3, 3, 2, 0] ?_
            refine t_gd ((r55) != 0) false (by kernel_rfl) (fun hc => ?_) (fun hc => ?_)
            · replace h := h.2 (is_ne.f hc)
              refine t_gd false false (by kernel_rfl) (fun _ => ?_) (fun hn => by cases hn)
              refine t_gd false false (by kernel_rfl) (fun _ => ?_) (fun hn => by cases hn)
              obtain ⟨len67, hl, h⟩ := h
              refine t_len true r52 len67 H60 (by kernel_rfl) hl ?_
              refine t_gd false false (by kernel_rfl) (fun _ => ?_) (fun hn => by cases hn)
              refine t_gd false false (by kernel_rfl) (fun _ => ?_) (fun hn => by cases hn)
              refine t_gd (decide ((len67 : Int) > 0)) true (by kernel_rfl) (fun hc => ?_) (fun hc => ?_)
              · replace h := h.1 (is_dec.t hc)
                refine t_gd true true (by kernel_rfl) (fun _ => ?_) (fun hn => by cases hn)
                refine t_gd true true (by kernel_rfl) (fun _ => ?_) (fun hn => by cases hn)
                obtain ⟨e68, hg69, h⟩ := h
                refine t_idxG true 6 r52 .i64 0 H60 (by kernel_rfl) hg69 ?_
                refine t_gd true true (by kernel_rfl) (fun _ => ?_) (fun hn => by cases hn)
                refine t_fldG true 4 6 r52 0 0 H60 (by kernel_rfl) hg69 ?_
                refine t_gd true true (by kernel_rfl) (fun _ => ?_) (fun hn => by cases hn)
                refine t_loadG true none 6 r52 0 4 (.bool e68) H60 (by kernel_rfl) hg69 ?_
                refine t_gd false false (by kernel_rfl) (fun _ => ?_) (fun hn => by cases hn)
                refine t_done [(.int .i64 window0), events1, d39, (.bool (!r14)), (.agg [(.int .i64 r5), (.int .i64 r6)]), (.bool ((r5) != 0)), (.agg [r2, r3, r4]), (.int .i64 i24), (.bool (decide (i24 < (len28 : Int)))), want26, (.int .i64 round40), more41, (.bool ((decide (round40 < 10)) && (decide ((len51 : Int) < 40)))), (.agg [(.int .i64 r55), (.int .i64 r56)]), (.agg [r52, r53, r54]), (.bool e68), d46, d47, d48, d49] H60 (by kernel_rfl) ?_
                refine then_norm ?_
                refine w_cond (t := e68) rfl (fun hc => ?_) (fun hc => ?_)
                · replace h := h.1 (is_raw.t hc)
                  refine w_seq ?_
                  refine w_run [0] ?_
                  refine t_done [(.int .i64 window0), events1, (.bool false), (.bool (!r14)), (.agg [(.int .i64 r5), (.int .i64 r6)]), (.bool ((r5) != 0)), (.agg [r2, r3, r4]), (.int .i64 i24), (.bool (decide (i24 < (len28 : Int)))), want26, (.int .i64 round40), more41, (.bool ((decide (round40 < 10)) && (decide ((len51 : Int) < 40)))), (.agg [(.int .i64 r55), (.int .i64 r56)]), (.agg [r52, r53, r54]), (.bool e68), d46, d47, d48, d49] H60 (by kernel_rfl) ?_
                  refine then_norm ?_
                  refine w_ret ?_
                  refine join_ret ?_
                  refine then_ret ?_
                  refine block_ret ?_
                  refine then_ret ?_
                  refine loop_ret ?_
                  refine block_ret ?_
                  refine then_ret ?_
                  exact body_ret (vs := [(.bool false)]) _ (by kernel_rfl) rfl h
                · replace h := h.2 (is_raw.f hc)
                  refine w_skip ?_
                  refine join_norm ⟨_, _, rfl, rfl, h⟩
              · replace h := h.2 (is_dec.f hc)
                refine t_gd false true (by kernel_rfl) (fun hn => by cases hn) (fun _ => ?_)
                refine t_gd false true (by kernel_rfl) (fun hn => by cases hn) (fun _ => ?_)
                refine t_gd false true (by kernel_rfl) (fun hn => by cases hn) (fun _ => ?_)
                refine t_gd false true (by kernel_rfl) (fun hn => by cases hn) (fun _ => ?_)
                refine t_gd false false (by kernel_rfl) (fun _ => ?_) (fun hn => by cases hn)
                refine t_done [(.int .i64 window0), events1, d39, (.bool (!r14)), (.agg [(.int .i64 r5), (.int .i64 r6)]), (.bool ((r5) != 0)), (.agg [r2, r3, r4]), (.int .i64 i24), (.bool (decide (i24 < (len28 : Int)))), want26, (.int .i64 round40), more41, (.bool ((decide (round40 < 10)) && (decide ((len51 : Int) < 40)))), (.agg [(.int .i64 r55), (.int .i64 r56)]), (.agg [r52, r53, r54]), (.bool false), d46, d47, d48, d49] H60 (by kernel_rfl) ?_
                refine then_norm ?_
                refine w_cond (t := false) rfl (fun hc => by cases hc) (fun _ => ?_)
                refine w_skip ?_
                refine join_norm ⟨_, _, rfl, rfl, h⟩
            · replace h := h.1 (is_ne.t hc)
              refine t_gd true false (by kernel_rfl) (fun hn => by cases hn) (fun _ => ?_)
              refine t_gd true false (by kernel_rfl) (fun hn => by cases hn) (fun _ => ?_)
              refine t_gd true false (by kernel_rfl) (fun hn => by cases hn) (fun _ => ?_)
              refine t_gd true false (by kernel_rfl) (fun hn => by cases hn) (fun _ => ?_)
              refine t_gdU true (by kernel_rfl) ?_
              refine t_gdU true (by kernel_rfl) ?_
              refine t_gdU true (by kernel_rfl) ?_
              refine t_gdU true (by kernel_rfl) ?_
              refine t_gdU true (by kernel_rfl) ?_
              refine t_gd true false (by kernel_rfl) (fun hn => by cases hn) (fun _ => ?_)
              refine t_done [(.int .i64 window0), events1, d39, (.bool (!r14)), (.agg [(.int .i64 r5), (.int .i64 r6)]), (.bool ((r5) != 0)), (.agg [r2, r3, r4]), (.int .i64 i24), (.bool (decide (i24 < (len28 : Int)))), want26, (.int .i64 round40), more41, (.bool ((decide (round40 < 10)) && (decide ((len51 : Int) < 40)))), (.agg [(.int .i64 r55), (.int .i64 r56)]), (.agg [r52, r53, r54]), (.bool true), d46, d47, d48, d49] H60 (by kernel_rfl) ?_
              refine then_norm ?_
              refine w_cond (t := true) rfl (fun _ => ?_) (fun hc => by cases hc)
              refine w_seq ?_
              refine w_run [0] ?_
              refine t_done [(.int .i64 window0), events1, (.bool false), (.bool (!r14)), (.agg [(.int .i64 r5), (.int .i64 r6)]), (.bool ((r5) != 0)), (.agg [r2, r3, r4]), (.int .i64 i24), (.bool (decide (i24 < (len28 : Int)))), want26, (.int .i64 round40), more41, (.bool ((decide (round40 < 10)) && (decide ((len51 : Int) < 40)))), (.agg [(.int .i64 r55), (.int .i64 r56)]), (.agg [r52, r53, r54]), (.bool true), d46, d47, d48, d49] H60 (by kernel_rfl) ?_
              refine then_norm ?_
              refine w_ret ?_
              refine join_ret ?_
              refine then_ret ?_
              refine block_ret ?_
              refine then_ret ?_
              refine loop_ret ?_
              refine block_ret ?_
              refine then_ret ?_
              exact body_ret (vs := [(.bool false)]) _ (by kernel_rfl) rfl h
          · clear h
            rintro EI HI ⟨d65, d66, rfl, rfl, hJ⟩
            have h := hK  hJ
            clear hJ hK
            refine then_norm ?_
            refine w_seq ?_
            refine w_seq ?_
            refine w_run [0] ?_
            refine t_done [(.int .i64 window0), events1, d65, (.bool (!r14)), (.agg [(.int .i64 r5), (.int .i64 r6)]), (.bool ((r5) != 0)), (.agg [r2, r3, r4]), (.int .i64 i24), (.bool (decide (i24 < (len28 : Int)))), want26, (.int .i64 round40), more41, (.bool ((decide (round40 < 10)) && (decide ((len51 : Int) < 40)))), (.agg [(.int .i64 r55), (.int .i64 r56)]), (.agg [r52, r53, r54]), d66, (.int .i64 0), d47, d48, d49] H60 (by kernel_rfl) ?_
            refine then_norm ?_
            refine w_block ?_
            obtain ⟨J70, k71, h0, h⟩ := h
            refine w_loop (I := fun mI EI HI => ∃ (d73 : AV) (i74 : Int) (d75 : AV) (d76 : AV), EI = [(.int .i64 window0), events1, d73, (.bool (!r14)), (.agg [(.int .i64 r5), (.int .i64 r6)]), (.bool ((r5) != 0)), (.agg [r2, r3, r4]), (.int .i64 i24), (.bool (decide (i24 < (len28 : Int)))), want26, (.int .i64 round40), more41, (.bool ((decide (round40 < 10)) && (decide ((len51 : Int) < 40)))), (.agg [(.int .i64 r55), (.int .i64 r56)]), (.agg [r52, r53, r54]), d66, (.int .i64 i74), d75, d76, d49] ∧ H60 = HI ∧ J70 mI i74) ?_ k71 ⟨_, _, _, _, rfl, rfl, h0⟩
            clear h0
            rintro m72 EI HI ⟨d73, i74, d75, d76, rfl, rfl, hJ⟩
            replace h := h m72 i74  hJ
            clear hJ
            refine w_seq ?_
            refine w_seq ?_
            refine w_run [0, 0, 0, 1, 0] ?_
            obtain ⟨len77, hl, h⟩ := h
            refine t_len true r52 len77 H60 (by kernel_rfl) hl ?_
            refine t_done [(.int .i64 window0), events1, d73, (.bool (!r14)), (.agg [(.int .i64 r5), (.int .i64 r6)]), (.bool ((r5) != 0)), (.agg [r2, r3, r4]), (.int .i64 i24), (.bool (decide (i24 < (len28 : Int)))), want26, (.int .i64 round40), more41, (.bool ((decide (round40 < 10)) && (decide ((len51 : Int) < 40)))), (.agg [(.int .i64 r55), (.int .i64 r56)]), (.agg [r52, r53, r54]), d66, (.int .i64 i74), (.bool (decide (i74 < (len77 : Int)))), d76, d49] H60 (by kernel_rfl) ?_
            refine then_norm ?_
            refine w_cond (t := (decide (i74 < (len77 : Int)))) rfl (fun hc => ?_) (fun hc => ?_)
            · replace h := h.1 (is_dec.t hc)
              refine w_skip ?_
              refine then_norm ?_
              refine w_seq ?_
              refine w_block ?_
              refine w_seq ?_
              refine w_run [0, 0, 0, 1, 1, 1] ?_
              obtain ⟨v78, hg79, h⟩ := h
              refine t_idxG true 6 r52 .i64 i74 H60 (by kernel_rfl) hg79 ?_
              refine t_fldG true 4 6 r52 i74 0 H60 (by kernel_rfl) hg79 ?_
              refine t_loadG true none 6 r52 i74 4 (.bool v78) H60 (by kernel_rfl) hg79 ?_
              refine t_done [(.int .i64 window0), events1, d73, (.bool (!r14)), (.agg [(.int .i64 r5), (.int .i64 r6)]), (.bool ((r5) != 0)), (.agg [r2, r3, r4]), (.int .i64 i24), (.bool (decide (i24 < (len28 : Int)))), want26, (.int .i64 round40), more41, (.bool ((decide (round40 < 10)) && (decide ((len51 : Int) < 40)))), (.agg [(.int .i64 r55), (.int .i64 r56)]), (.agg [r52, r53, r54]), d66, (.int .i64 i74), (.bool (decide (i74 < (len77 : Int)))), (.bool v78), d49] H60 (by kernel_rfl) ?_
              refine then_norm ?_
              refine w_cond (t := v78) rfl (fun hc => ?_) (fun hc => ?_)
              · replace h := h.1 (is_raw.t hc)
                refine w_seq ?_
                refine w_run [0] ?_
                refine t_done [(.int .i64 window0), events1, (.bool true), (.bool (!r14)), (.agg [(.int .i64 r5), (.int .i64 r6)]), (.bool ((r5) != 0)), (.agg [r2, r3, r4]), (.int .i64 i24), (.bool (decide (i24 < (len28 : Int)))), want26, (.int .i64 round40), more41, (.bool ((decide (round40 < 10)) && (decide ((len51 : Int) < 40)))), (.agg [(.int .i64 r55), (.int .i64 r56)]), (.agg [r52, r53, r54]), d66, (.int .i64 i74), (.bool (decide (i74 < (len77 : Int)))), (.bool v78), d49] H60 (by kernel_rfl) ?_
                refine then_norm ?_
                refine w_ret ?_
                refine block_ret ?_
                refine then_ret ?_
                refine loop_ret ?_
                refine block_ret ?_
                refine then_ret ?_
                refine block_ret ?_
                refine then_ret ?_
                refine loop_ret ?_
                refine block_ret ?_
                refine then_ret ?_
                exact body_ret (vs := [(.bool true)]) _ (by kernel_rfl) rfl h
              · replace h := h.2 (is_raw.f hc)
                refine w_skip ?_
                refine block_norm ?_
                refine then_norm ?_
                refine w_run [0, 0, 0] ?_
                refine t_done [(.int .i64 window0), events1, d73, (.bool (!r14)), (.agg [(.int .i64 r5), (.int .i64 r6)]), (.bool ((r5) != 0)), (.agg [r2, r3, r4]), (.int .i64 i24), (.bool (decide (i24 < (len28 : Int)))), want26, (.int .i64 round40), more41, (.bool ((decide (round40 < 10)) && (decide ((len51 : Int) < 40)))), (.agg [(.int .i64 r55), (.int .i64 r56)]), (.agg [r52, r53, r54]), d66, (.int .i64 (IntKind.wrap .i64 (i74 + 1))), (.bool (decide (i74 < (len77 : Int)))), (.bool v78), d49] H60 (by kernel_rfl) ?_
                obtain ⟨m', hm, h⟩ := h
                refine loop_norm ⟨m', hm, _, _, _, _, rfl, rfl, h⟩
            · replace h := h.2 (is_dec.f hc)
              refine w_exit ?_
              refine then_exit ?_
              refine loop_exit ?_
              refine block_exit ?_
              refine then_norm ?_
              refine w_seq ?_
              refine w_seq ?_
              refine w_run [0, 0, 1, 0] ?_
              obtain ⟨len81, hl, h⟩ := h
              refine t_len true r52 len81 H60 (by kernel_rfl) hl ?_
              refine t_done [(.int .i64 window0), events1, d73, (.bool (!r14)), (.agg [(.int .i64 r5), (.int .i64 r6)]), (.bool ((r5) != 0)), (.agg [r2, r3, r4]), (.int .i64 i24), (.bool (decide (i24 < (len28 : Int)))), want26, (.int .i64 round40), more41, (.bool ((decide (round40 < 10)) && (decide ((len51 : Int) < 40)))), (.agg [(.int .i64 r55), (.int .i64 r56)]), (.agg [r52, r53, r54]), d66, (.int .i64 i74), (.bool (decide (i74 < (len77 : Int)))), d76, (.bool (((len81 : Int)) == 0))] H60 (by kernel_rfl) ?_
              refine then_norm ?_
              refine w_cond (t := (((len81 : Int)) == 0)) rfl (fun hc => ?_) (fun hc => ?_)
              · replace h := h.1 (is_eq.t hc)
                refine w_seq ?_
                refine w_run [0, 0, 0, 1, 0] ?_
                refine t_call true nFEqualInts [r53, want26] H60 (by kernel_rfl) h ?_
                clear h
                rintro _ H83 ⟨r82, rfl, h⟩
                refine t_done [(.int .i64 window0), events1, (.bool r82), (.bool (!r14)), (.agg [(.int .i64 r5), (.int .i64 r6)]), (.bool ((r5) != 0)), (.agg [r2, r3, r4]), (.int .i64 i24), (.bool (decide (i24 < (len28 : Int)))), want26, (.int .i64 round40), more41, (.bool ((decide (round40 < 10)) && (decide ((len51 : Int) < 40)))), (.agg [(.int .i64 r55), (.int .i64 r56)]), (.agg [r52, r53, r54]), d66, (.int .i64 i74), (.bool (decide (i74 < (len77 : Int)))), d76, (.bool (((len81 : Int)) == 0))] H83 (by kernel_rfl) ?_
                refine then_norm ?_
                refine w_ret ?_
                refine then_ret ?_
                refine block_ret ?_
                refine then_ret ?_
                refine loop_ret ?_
                refine block_ret ?_
                refine then_ret ?_
                exact body_ret (vs := [(.bool r82)]) _ (by kernel_rfl) rfl h
              · replace h := h.2 (is_eq.f hc)
                refine w_skip ?_
                refine then_norm ?_
                refine w_run [0, 0, 0, 1, 1, 1, 1, 1, 1, 0] ?_
                obtain ⟨e85, hg86, h⟩ := h
                refine t_idxG true 6 r52 .i64 0 H60 (by kernel_rfl) hg86 ?_
                refine t_fldG true 0 6 r52 0 0 H60 (by kernel_rfl) hg86 ?_
                refine t_loadG true none 6 r52 0 0 (.int .i64 e85) H60 (by kernel_rfl) hg86 ?_
                refine t_build true [(.int .i64 0), (.int .i64 0), (.int .i64 0)] [(0, 1, .loc 0), (1, 1, .loc 1)] [(.int .i64 3), (.int .i64 e85)] [(.int .i64 3), (.int .i64 e85), (.int .i64 0)] H60 (by kernel_rfl) (fill_c (vs := [(.int .i64 3)]) (size := 1) rfl (by kernel_rfl) (by kernel_rfl) (fill_c (vs := [(.int .i64 e85)]) (size := 1) rfl (by kernel_rfl) (by kernel_rfl) (by kernel_rfl))) ?_
                obtain ⟨b87, H88, hb⟩ : ∃ b H', NewB H60 3 [(.int .i64 3), (.int .i64 e85), (.int .i64 0)] b H' := ⟨_, _, rfl, rfl⟩
                replace h := h b87 H88 hb
                refine t_bs true 3 [(.int .i64 0), (.int .i64 0), (.int .i64 0)] [(0, 3, .loc 0)] 1 [(.agg [(.int .i64 3), (.int .i64 e85), (.int .i64 0)])] [(.int .i64 3), (.int .i64 e85), (.int .i64 0)] b87 H88 H60 (by kernel_rfl) (fill_c (vs := [(.int .i64 3), (.int .i64 e85), (.int .i64 0)]) (size := 3) rfl (by kernel_rfl) (by kernel_rfl) (by kernel_rfl)) hb ?_
                obtain ⟨a89, H90, ha, h⟩ := h
                refine t_app true 3 24 more41 (.slice b87 0 1 (some 1)) a89 H90 H88 (by kernel_rfl) ha ?_
                refine t_done [(.int .i64 window0), events1, d73, (.bool (!r14)), (.agg [(.int .i64 r5), (.int .i64 r6)]), (.bool ((r5) != 0)), (.agg [r2, r3, r4]), (.int .i64 i24), (.bool (decide (i24 < (len28 : Int)))), want26, (.int .i64 round40), a89, (.bool ((decide (round40 < 10)) && (decide ((len51 : Int) < 40)))), (.agg [(.int .i64 r55), (.int .i64 r56)]), (.agg [r52, r53, r54]), d66, (.int .i64 i74), (.bool (decide (i74 < (len77 : Int)))), d76, (.bool (((len81 : Int)) == 0))] H90 (by kernel_rfl) ?_
                refine block_norm ?_
                refine then_norm ?_
                refine w_run [0, 0, 0] ?_
                refine t_done [(.int .i64 window0), events1, d73, (.bool (!r14)), (.agg [(.int .i64 r5), (.int .i64 r6)]), (.bool ((r5) != 0)), (.agg [r2, r3, r4]), (.int .i64 i24), (.bool (decide (i24 < (len28 : Int)))), want26, (.int .i64 (IntKind.wrap .i64 (round40 + 1))), a89, (.bool ((decide (round40 < 10)) && (decide ((len51 : Int) < 40)))), (.agg [(.int .i64 r55), (.int .i64 r56)]), (.agg [r52, r53, r54]), d66, (.int .i64 i74), (.bool (decide (i74 < (len77 : Int)))), d76, (.bool (((len81 : Int)) == 0))] H90 (by kernel_rfl) ?_
                obtain ⟨m', hm, h⟩ := h
                refine loop_norm ⟨m', hm, _, _, _, _, _, _, _, _, _, _, _, rfl, h⟩
        · replace h := h.2 ((is_and is_dec is_dec).f hc)
          refine w_exit ?_
          refine then_exit ?_
          refine loop_exit ?_
          refine block_exit ?_
          refine then_norm ?_
          refine w_seq ?_
          refine w_run [0] ?_
          refine t_done [(.int .i64 window0), events1, (.bool true), (.bool (!r14)), (.agg [(.int .i64 r5), (.int .i64 r6)]), (.bool ((r5) != 0)), (.agg [r2, r3, r4]), (.int .i64 i24), (.bool (decide (i24 < (len28 : Int)))), want26, (.int .i64 round40), more41, (.bool ((decide (round40 < 10)) && (decide ((len51 : Int) < 40)))), d43, d44, d45, d46, d47, d48, d49] H50 (by kernel_rfl) ?_
          refine then_norm ?_
          refine w_ret ?_
          exact body_ret (vs := [(.bool true)]) _ (by kernel_rfl) rfl h

def rf_LMergequeueFunctionsMatchSpec (nmergequeue_Run nmergequeue_Outcome nLqueueExample nFRunQueue nFQueue_State nFEqualQueues nFFault : Nat) : RFunc := ⟨3, 20, [.var 3],
 ((.seq (.ops [⟨.move (.k (.bool false)), none, (some 3), true⟩])
 ((.seq (.ops [⟨.move (.var 0), none, none, true⟩, ⟨.move (.var 1), none, none, true⟩, ⟨.callS nmergequeue_Run [(.loc 0), (.loc 1)], none, none, true⟩, ⟨.move (.loc 2), none, none, true⟩, ⟨.extract (.loc 3) 0, none, none, true⟩, ⟨.extract (.loc 3) 1, none, none, true⟩, ⟨.tomb 1 (.k (.agg [.empty, .empty, .empty])), none, (some 7), true⟩, ⟨.tomb 1 (.k (.agg [.int .i64 0, .int .i64 0])), none, (some 5), true⟩, ⟨.upd 3 0 (.loc 6) (.loc 4), none, (some 7), true⟩, ⟨.upd 2 0 (.loc 7) (.loc 5), none, (some 5), true⟩])
 ((.seq (.ops [⟨.move (.var 0), none, none, true⟩, ⟨.move (.var 1), none, none, true⟩, ⟨.move (.var 2), none, none, true⟩, ⟨.callS nmergequeue_Outcome [(.loc 0), (.loc 1), (.loc 2)], none, none, true⟩, ⟨.move (.loc 3), none, none, true⟩, ⟨.extract (.loc 4) 0, none, none, true⟩, ⟨.extract (.loc 4) 1, none, none, true⟩, ⟨.extract (.loc 4) 2, none, none, true⟩, ⟨.tomb 1 (.k (.agg [.int .i64 0, .int .i64 0])), none, (some 11), true⟩, ⟨.move (.loc 5), none, (some 12), true⟩, ⟨.move (.loc 6), none, (some 13), true⟩, ⟨.upd 2 0 (.loc 8) (.loc 7), none, (some 11), true⟩])
 ((.seq ((.seq (.ops [⟨.callS nLqueueExample [], none, none, true⟩, ⟨.un .not (.loc 0), none, (some 4), true⟩])
 (.cond (.var 4) ((.seq (.ops [⟨.move (.k (.bool false)), none, (some 3), true⟩])
 (.ret))) (.skip))))
 ((.seq (.ops [⟨.move (.var 0), none, none, true⟩, ⟨.move (.var 1), none, none, true⟩, ⟨.callS nFRunQueue [(.loc 0), (.loc 1)], none, none, true⟩, ⟨.move (.loc 2), none, none, true⟩, ⟨.extract (.loc 3) 0, none, none, true⟩, ⟨.extract (.loc 3) 1, none, none, true⟩, ⟨.tomb 1 (.k (.agg [.empty, .empty, .empty, .empty, .empty])), none, (some 8), true⟩, ⟨.tomb 1 (.k (.agg [.int .i64 0, .int .i64 0])), none, (some 6), true⟩, ⟨.upd 5 0 (.loc 6) (.loc 4), none, (some 8), true⟩, ⟨.upd 2 0 (.loc 7) (.loc 5), none, (some 6), true⟩])
 ((.seq ((.seq (.ops [⟨.field 0 (some 2) (.var 5), none, none, false⟩, ⟨.field 0 (some 2) (.var 6), none, none, false⟩, ⟨.bin .neq (.agg [.int, .int]) (.loc 0) (.loc 1), none, none, true⟩, ⟨.move (.loc 2), none, none, true⟩, ⟨.field 0 (some 3) (.var 7), none, none, false⟩, ⟨.field 0 (some 5) (.var 8), none, none, false⟩, ⟨.callS nFQueue_State [(.loc 5)], (some (3, false)), none, false⟩, ⟨.callS nFEqualQueues [(.loc 4), (.loc 6)], (some (3, false)), none, true⟩, ⟨.un .not (.loc 7), (some (3, false)), none, true⟩, ⟨.pick (.loc 3) (.k (.bool true)) (.loc 8), none, (some 9), true⟩])
 (.cond (.var 9) ((.seq (.ops [⟨.move (.k (.bool false)), none, (some 3), true⟩])
 (.ret))) (.skip))))
 ((.seq ((.seq (.ops [⟨.field 0 none (.var 6), none, none, true⟩, ⟨.field 0 none (.var 6), none, none, true⟩, ⟨.bin .neq .no (.loc 1) (.k (.int .i64 0)), none, (some 10), true⟩])
 (.cond (.var 10) ((.seq (.ops [⟨.field 0 (some 2) (.var 11), none, none, true⟩, ⟨.field 0 (some 2) (.var 6), none, none, true⟩, ⟨.bin .eql (.agg [.int, .int]) (.loc 0) (.loc 1), none, none, true⟩, ⟨.move (.loc 2), none, none, true⟩, ⟨.move (.var 12), none, none, true⟩, ⟨.bin .eql .no (.loc 4) (.k (.int .i64 0)), none, none, true⟩, ⟨.pick (.loc 3) (.loc 5) (.k (.bool false)), none, none, true⟩, ⟨.move (.loc 6), none, none, true⟩, ⟨.move (.var 13), none, none, true⟩, ⟨.bin .eql .no (.loc 8) (.k (.int .i64 0)), none, none, true⟩, ⟨.pick (.loc 7) (.loc 9) (.k (.bool false)), none, none, true⟩, ⟨.move (.loc 10), none, (some 3), true⟩])
 (.ret))) (.skip))))
 ((.seq (.ops [⟨.field 0 none (.var 8), none, none, true⟩, ⟨.field 3 none (.var 8), none, none, true⟩, ⟨.field 0 none (.var 8), none, none, true⟩, ⟨.field 4 none (.var 8), none, none, true⟩, ⟨.field 0 none (.var 8), none, none, true⟩, ⟨.field 0 none (.var 8), none, none, true⟩, ⟨.buildSlice 1 [.empty] [(0, 1, (.k (.empty))), (1, 1, (.loc 1)), (2, 1, (.loc 3)), (3, 1, (.loc 5))] 4, none, none, true⟩, ⟨.move (.loc 6), none, (some 17), true⟩])
 ((.seq ((.seq (.ops [⟨.move (.k (.int .i64 1)), none, (some 14), true⟩])
 (.block 0 (.loop ((.seq ((.seq (.ops [⟨.move (.var 14), none, none, true⟩, ⟨.bin .lss .no (.loc 0) (.k (.int .i64 4)), none, (some 15), true⟩])
 (.cond (.var 15) (.skip) (.exit 0))))
 ((.seq (.block 1 ((.seq (.ops [⟨.move (.k (.int .i64 0)), none, (some 16), true⟩])
 (.block 2 (.loop ((.seq ((.seq (.ops [⟨.move (.var 16), none, none, true⟩, ⟨.move (.var 17), none, none, true⟩, ⟨.move (.var 14), none, none, true⟩, ⟨.indexAddr 1 (.loc 1) (.loc 2), none, none, true⟩, ⟨.load none (.loc 3), none, none, true⟩, ⟨.len (.loc 4), none, none, true⟩, ⟨.bin .lss .no (.loc 0) (.loc 5), none, (some 18), true⟩])
 (.cond (.var 18) (.skip) (.exit 2))))
 ((.seq (.block 3 ((.seq (.ops [⟨.move (.var 17), none, none, true⟩, ⟨.move (.var 14), none, none, true⟩, ⟨.indexAddr 1 (.loc 0) (.loc 1), none, none, true⟩, ⟨.load none (.loc 2), none, none, true⟩, ⟨.move (.var 16), none, none, true⟩, ⟨.indexAddr 1 (.loc 3) (.loc 4), none, none, true⟩, ⟨.load none (.loc 5), none, none, true⟩, ⟨.move (.var 2), none, none, true⟩, ⟨.bin .eql .no (.loc 6) (.loc 7), none, (some 19), true⟩])
 (.cond (.var 19) ((.seq (.ops [⟨.field 0 none (.var 11), none, none, true⟩, ⟨.field 0 none (.var 11), none, none, true⟩, ⟨.bin .eql .no (.loc 1) (.k (.int .i64 0)), none, none, true⟩, ⟨.move (.loc 2), none, none, true⟩, ⟨.move (.var 12), none, none, true⟩, ⟨.move (.var 14), none, none, true⟩, ⟨.bin .eql .no (.loc 4) (.loc 5), none, none, true⟩, ⟨.pick (.loc 3) (.loc 6) (.k (.bool false)), none, none, true⟩, ⟨.move (.loc 7), none, none, true⟩, ⟨.move (.var 13), none, none, true⟩, ⟨.move (.var 16), none, none, true⟩, ⟨.bin .eql .no (.loc 9) (.loc 10), none, none, true⟩, ⟨.pick (.loc 8) (.loc 11) (.k (.bool false)), none, none, true⟩, ⟨.move (.loc 12), none, (some 3), true⟩])
 (.ret))) (.skip)))))
 (.ops [⟨.move (.var 16), none, none, true⟩, ⟨.bin .add .no (.loc 0) (.k (.int .i64 1)), none, none, true⟩, ⟨.move (.loc 1), none, (some 16), true⟩]))))))))))
 (.ops [⟨.move (.var 14), none, none, true⟩, ⟨.bin .add .no (.loc 0) (.k (.int .i64 1)), none, none, true⟩, ⟨.move (.loc 1), none, (some 14), true⟩])))))))))
 ((.seq (.ops [⟨.field 0 (some 2) (.var 11), none, none, false⟩, ⟨.callS nFFault [(.k (.int .i64 6)), (.k (.int .i64 (-3)))], none, none, false⟩, ⟨.bin .eql (.agg [.int, .int]) (.loc 0) (.loc 1), none, none, true⟩, ⟨.move (.loc 2), none, none, true⟩, ⟨.move (.var 12), none, none, true⟩, ⟨.bin .eql .no (.loc 4) (.k (.int .i64 0)), none, none, true⟩, ⟨.pick (.loc 3) (.loc 5) (.k (.bool false)), none, none, true⟩, ⟨.move (.loc 6), none, none, true⟩, ⟨.move (.var 13), none, none, true⟩, ⟨.bin .eql .no (.loc 8) (.k (.int .i64 0)), none, none, true⟩, ⟨.pick (.loc 7) (.loc 9) (.k (.bool false)), none, none, true⟩, ⟨.move (.loc 10), none, (some 3), true⟩])
 (.ret))))))))))))))))))))), none⟩
end Go.RM

/-
  Functions of the program as the abstract machine runs them, and what must be shown of a run: printed by RmPrint.
-/
namespace Go.RM
set_option linter.unusedVariables false
set_option maxRecDepth 4000
end Go.RM

