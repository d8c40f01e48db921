import Derived.Test.YtlofiiepmehhbaaRmWp
/-
  Functions of the program as the abstract machine runs them, and what must be shown of a run: printed by RmPrint.
-/
namespace Go.RM
set_option linter.unusedVariables false
set_option maxRecDepth 4000
def rf_LqueueExample (nmergequeue_Run nmergequeue_Outcome nFEqualInts : Nat) : RFunc := ⟨0, 9, [.var 0],
 ((.seq (.ops [⟨.move (.k (.bool false)), none, (some 0), true⟩])
 ((.seq (.ops [⟨.build [.int .i64 0, .int .i64 0, .int .i64 0] [(0, 1, (.k (.int .i64 1))), (1, 1, (.k (.int .i64 5)))], none, none, true⟩, ⟨.build [.int .i64 0, .int .i64 0, .int .i64 0] [(0, 1, (.k (.int .i64 1))), (1, 1, (.k (.int .i64 6)))], none, none, true⟩, ⟨.build [.int .i64 0, .int .i64 0, .int .i64 0] [(0, 1, (.k (.int .i64 3))), (1, 1, (.k (.int .i64 6)))], none, none, true⟩, ⟨.build [.int .i64 0, .int .i64 0, .int .i64 0] [(0, 1, (.k (.int .i64 3))), (1, 1, (.k (.int .i64 5)))], none, none, true⟩, ⟨.buildSlice 3 [.int .i64 0, .int .i64 0, .int .i64 0] [(0, 3, (.loc 0)), (3, 3, (.loc 1)), (6, 3, (.loc 2)), (9, 3, (.loc 3))] 4, none, none, true⟩, ⟨.move (.loc 4), none, (some 1), true⟩])
 ((.seq (.ops [⟨.move (.var 1), none, none, true⟩, ⟨.slice 3 (.loc 0) none (some (.k (.int .i64 3))) none, none, none, true⟩, ⟨.callS nmergequeue_Run [(.k (.int .i64 2)), (.loc 1)], none, none, true⟩, ⟨.move (.loc 2), none, none, true⟩, ⟨.extract (.loc 3) 0, none, none, true⟩, ⟨.extract (.loc 3) 1, none, none, true⟩, ⟨.tomb 1 (.k (.agg [.empty, .empty, .empty])), none, (some 5), true⟩, ⟨.tomb 1 (.k (.agg [.int .i64 0, .int .i64 0])), none, (some 2), true⟩, ⟨.upd 3 0 (.loc 6) (.loc 4), none, (some 5), true⟩, ⟨.upd 2 0 (.loc 7) (.loc 5), none, (some 2), true⟩])
 ((.seq (.ops [⟨.move (.var 1), none, none, true⟩, ⟨.callS nmergequeue_Run [(.k (.int .i64 2)), (.loc 0)], none, none, true⟩, ⟨.move (.loc 1), none, none, true⟩, ⟨.extract (.loc 2) 0, none, none, true⟩, ⟨.extract (.loc 2) 1, none, none, true⟩, ⟨.tomb 1 (.k (.agg [.empty, .empty, .empty])), none, (some 6), true⟩, ⟨.tomb 1 (.k (.agg [.int .i64 0, .int .i64 0])), none, (some 3), true⟩, ⟨.upd 3 0 (.loc 5) (.loc 3), none, (some 6), true⟩, ⟨.upd 2 0 (.loc 6) (.loc 4), none, (some 3), true⟩])
 ((.seq (.ops [⟨.move (.var 1), none, none, true⟩, ⟨.callS nmergequeue_Outcome [(.k (.int .i64 2)), (.loc 0), (.k (.int .i64 6))], none, none, true⟩, ⟨.move (.loc 1), none, none, true⟩, ⟨.extract (.loc 2) 0, none, none, true⟩, ⟨.extract (.loc 2) 1, none, none, true⟩, ⟨.extract (.loc 2) 2, none, none, true⟩, ⟨.tomb 1 (.k (.agg [.int .i64 0, .int .i64 0])), none, (some 4), true⟩, ⟨.move (.loc 3), none, (some 7), true⟩, ⟨.move (.loc 4), none, (some 8), true⟩, ⟨.upd 2 0 (.loc 6) (.loc 5), none, (some 4), true⟩])
 ((.seq (.ops [⟨.field 0 none (.var 2), none, none, true⟩, ⟨.field 0 none (.var 2), none, none, true⟩, ⟨.bin .eql .no (.loc 1) (.k (.int .i64 0)), none, none, true⟩, ⟨.move (.loc 2), none, none, true⟩, ⟨.field 0 none (.var 3), none, none, true⟩, ⟨.field 0 none (.var 3), none, none, true⟩, ⟨.bin .eql .no (.loc 5) (.k (.int .i64 0)), none, none, true⟩, ⟨.pick (.loc 3) (.loc 6) (.k (.bool false)), none, none, true⟩, ⟨.move (.loc 7), none, none, true⟩, ⟨.field 0 none (.var 4), none, none, true⟩, ⟨.field 0 none (.var 4), none, none, true⟩, ⟨.bin .eql .no (.loc 10) (.k (.int .i64 0)), none, none, true⟩, ⟨.pick (.loc 8) (.loc 11) (.k (.bool false)), none, none, true⟩, ⟨.move (.loc 12), none, none, true⟩, ⟨.field 0 none (.var 5), none, none, true⟩, ⟨.field 1 none (.var 5), none, none, true⟩, ⟨.len (.loc 15), none, none, true⟩, ⟨.bin .eql .no (.loc 16) (.k (.int .i64 0)), none, none, true⟩, ⟨.pick (.loc 13) (.loc 17) (.k (.bool false)), none, none, true⟩, ⟨.move (.loc 18), none, none, true⟩, ⟨.field 0 none (.var 5), none, none, true⟩, ⟨.field 0 none (.var 5), none, none, true⟩, ⟨.len (.loc 21), none, none, true⟩, ⟨.bin .eql .no (.loc 22) (.k (.int .i64 2)), none, none, true⟩, ⟨.pick (.loc 19) (.loc 23) (.k (.bool false)), none, none, true⟩, ⟨.move (.loc 24), none, none, true⟩, ⟨.field 0 none (.var 6), none, none, true⟩, ⟨.field 1 none (.var 6), none, none, true⟩, ⟨.buildSlice 1 [.int .i64 0] [(0, 1, (.k (.int .i64 5))), (1, 1, (.k (.int .i64 6)))] 2, (some (25, true)), none, true⟩, ⟨.callS nFEqualInts [(.loc 27), (.loc 28)], (some (25, true)), none, true⟩, ⟨.pick (.loc 25) (.loc 29) (.k (.bool false)), none, none, true⟩, ⟨.move (.loc 30), none, none, true⟩, ⟨.move (.var 7), none, none, true⟩, ⟨.bin .eql .no (.loc 32) (.k (.int .i64 1)), none, none, true⟩, ⟨.pick (.loc 31) (.loc 33) (.k (.bool false)), none, none, true⟩, ⟨.move (.loc 34), none, none, true⟩, ⟨.move (.var 8), none, none, true⟩, ⟨.bin .eql .no (.loc 36) (.k (.int .i64 1)), none, none, true⟩, ⟨.pick (.loc 35) (.loc 37) (.k (.bool false)), none, none, true⟩, ⟨.move (.loc 38), none, (some 0), true⟩])
 (.ret))))))))))))), none⟩
theorem v_LqueueExample {F : Nat → Option RFunc} {me nmergequeue_Run nmergequeue_Outcome nFEqualInts : Nat} (hF : F me = some (rf_LqueueExample nmergequeue_Run nmergequeue_Outcome nFEqualInts)) {fl : Nat} {H : Heap} {Q : AV → Heap → Prop} 
  (h : ∀ (b0 : Nat) (H1 : Heap), NewB H 3 [(.int .i64 1), (.int .i64 5), (.int .i64 0), (.int .i64 1), (.int .i64 6), (.int .i64 0), (.int .i64 3), (.int .i64 6), (.int .i64 0), (.int .i64 3), (.int .i64 5), (.int .i64 0)] b0 H1 → ∃ s2 : AV, rslice H1 3 (.slice b0 0 4 (some 4)) none (some (.int .i64 3)) none = some s2 ∧ Ret F fl nmergequeue_Run [(.int .i64 2), s2] H1 (fun v9 H8 => ∃ (r3 : AV) (r4 : AV) (r5 : AV) (r6 : Int) (r7 : Int), v9 = (.tuple [(.agg [r3, r4, r5]), (.agg [(.int .i64 r6), (.int .i64 r7)])]) ∧ ∀ (H10 : Heap), Dead1 H8 1 H10 → ∀ (H11 : Heap), Dead1 H10 1 H11 → Scal r3 ∧ Scal r4 ∧ Scal r5 ∧ Ret F fl nmergequeue_Run [(.int .i64 2), (.slice b0 0 4 (some 4))] H11 (fun v21 H20 => ∃ (r15 : AV) (r16 : AV) (r17 : AV) (r18 : Int) (r19 : Int), v21 = (.tuple [(.agg [r15, r16, r17]), (.agg [(.int .i64 r18), (.int .i64 r19)])]) ∧ ∀ (H22 : Heap), Dead1 H20 1 H22 → ∀ (H23 : Heap), Dead1 H22 1 H23 → Scal r15 ∧ Scal r16 ∧ Scal r17 ∧ Ret F fl nmergequeue_Outcome [(.int .i64 2), (.slice b0 0 4 (some 4)), (.int .i64 6)] H23 (fun v32 H31 => ∃ (r27 : Int) (r28 : Int) (r29 : Int) (r30 : Int), v32 = (.tuple [(.int .i64 r27), (.int .i64 r28), (.agg [(.int .i64 r29), (.int .i64 r30)])]) ∧ ∀ (H33 : Heap), Dead1 H31 1 H33 → ∃ len34 : Nat, lenA r4 = some len34 ∧ ∃ len35 : Nat, lenA r3 = some len35 ∧ ((((((((((r6 = 0) ∧ (r18 = 0))) ∧ (r29 = 0))) ∧ ((len34 : Int) = 0))) ∧ ((len35 : Int) = 2))) → ∀ (b36 : Nat) (H37 : Heap), NewB H33 1 [(.int .i64 5), (.int .i64 6)] b36 H37 → Ret F fl nFEqualInts [r16, (.slice b36 0 2 (some 2))] H37 (fun v40 H39 => ∃ (r38 : Bool), v40 = (.bool r38) ∧ Q (.bool ((r38 && ((r27) == 1)) && ((r28) == 1))) H39)) ∧ (¬(((((((((r6 = 0) ∧ (r18 = 0))) ∧ (r29 = 0))) ∧ ((len34 : Int) = 0))) ∧ ((len35 : Int) = 2))) → Q (.bool false) H33))))) : Ret F fl me [] H Q := by
  refine ret_intro hF rfl ?_
  refine w_seq ?_
  refine w_run [0] ?_
  refine t_done [(.bool false), .undef, .undef, .undef, .undef, .undef, .undef, .undef, .undef] H (by kernel_rfl) ?_
  refine then_norm ?_
  refine w_seq ?_
  refine w_run [1, 1, 1, 1, 1, 0] ?_
  refine t_build true [(.int .i64 0), (.int .i64 0), (.int .i64 0)] [(0, 1, .loc 0), (1, 1, .loc 1)] [(.int .i64 1), (.int .i64 5)] [(.int .i64 1), (.int .i64 5), (.int .i64 0)] H (by kernel_rfl) (fill_c (vs := [(.int .i64 1)]) (size := 1) rfl (by kernel_rfl) (by kernel_rfl) (fill_c (vs := [(.int .i64 5)]) (size := 1) rfl (by kernel_rfl) (by kernel_rfl) (by kernel_rfl))) ?_
  refine t_build true [(.int .i64 0), (.int .i64 0), (.int .i64 0)] [(0, 1, .loc 0), (1, 1, .loc 1)] [(.int .i64 1), (.int .i64 6)] [(.int .i64 1), (.int .i64 6), (.int .i64 0)] H (by kernel_rfl) (fill_c (vs := [(.int .i64 1)]) (size := 1) rfl (by kernel_rfl) (by kernel_rfl) (fill_c (vs := [(.int .i64 6)]) (size := 1) rfl (by kernel_rfl) (by kernel_rfl) (by kernel_rfl))) ?_
  refine t_build true [(.int .i64 0), (.int .i64 0), (.int .i64 0)] [(0, 1, .loc 0), (1, 1, .loc 1)] [(.int .i64 3), (.int .i64 6)] [(.int .i64 3), (.int .i64 6), (.int .i64 0)] H (by kernel_rfl) (fill_c (vs := [(.int .i64 3)]) (size := 1) rfl (by kernel_rfl) (by kernel_rfl) (fill_c (vs := [(.int .i64 6)]) (size := 1) rfl (by kernel_rfl) (by kernel_rfl) (by kernel_rfl))) ?_
  refine t_build true [(.int .i64 0), (.int .i64 0), (.int .i64 0)] [(0, 1, .loc 0), (1, 1, .loc 1)] [(.int .i64 3), (.int .i64 5)] [(.int .i64 3), (.int .i64 5), (.int .i64 0)] H (by kernel_rfl) (fill_c (vs := [(.int .i64 3)]) (size := 1) rfl (by kernel_rfl) (by kernel_rfl) (fill_c (vs := [(.int .i64 5)]) (size := 1) rfl (by kernel_rfl) (by kernel_rfl) (by kernel_rfl))) ?_
  obtain ⟨b0, H1, hb⟩ : ∃ b H', NewB H 3 [(.int .i64 1), (.int .i64 5), (.int .i64 0), (.int .i64 1), (.int .i64 6), (.int .i64 0), (.int .i64 3), (.int .i64 6), (.int .i64 0), (.int .i64 3), (.int .i64 5), (.int .i64 0)] b H' := ⟨_, _, rfl, rfl⟩
  replace h := h b0 H1 hb
  refine t_bs true 3 [(.int .i64 0), (.int .i64 0), (.int .i64 0)] [(0, 3, .loc 0), (3, 3, .loc 1), (6, 3, .loc 2), (9, 3, .loc 3)] 4 [(.agg [(.int .i64 1), (.int .i64 5), (.int .i64 0)]), (.agg [(.int .i64 1), (.int .i64 6), (.int .i64 0)]), (.agg [(.int .i64 3), (.int .i64 6), (.int .i64 0)]), (.agg [(.int .i64 3), (.int .i64 5), (.int .i64 0)])] [(.int .i64 1), (.int .i64 5), (.int .i64 0), (.int .i64 1), (.int .i64 6), (.int .i64 0), (.int .i64 3), (.int .i64 6), (.int .i64 0), (.int .i64 3), (.int .i64 5), (.int .i64 0)] b0 H1 H (by kernel_rfl) (fill_c (vs := [(.int .i64 1), (.int .i64 5), (.int .i64 0)]) (size := 3) rfl (by kernel_rfl) (by kernel_rfl) (fill_c (vs := [(.int .i64 1), (.int .i64 6), (.int .i64 0)]) (size := 3) rfl (by kernel_rfl) (by kernel_rfl) (fill_c (vs := [(.int .i64 3), (.int .i64 6), (.int .i64 0)]) (size := 3) rfl (by kernel_rfl) (by kernel_rfl) (fill_c (vs := [(.int .i64 3), (.int .i64 5), (.int .i64 0)]) (size := 3) rfl (by kernel_rfl) (by kernel_rfl) (by kernel_rfl))))) hb ?_
  refine t_done [(.bool false), (.slice b0 0 4 (some 4)), .undef, .undef, .undef, .undef, .undef, .undef, .undef] H1 (by kernel_rfl) ?_
  refine then_norm ?_
  refine w_seq ?_
  refine w_run [0, 1, 1, 0, 0, 0, 1, 1, 1, 1] ?_
  obtain ⟨s2, hs, h⟩ := h
  refine t_slcH true 3 (.slice b0 0 4 (some 4)) (.int .i64 3) s2 H1 (by kernel_rfl) hs ?_
  refine t_call true nmergequeue_Run [(.int .i64 2), s2] H1 (by kernel_rfl) h ?_
  clear h
  rintro _ H8 ⟨r3, r4, r5, r6, r7, rfl, h⟩
  obtain ⟨H10, hb⟩ : ∃ H', Dead1 H8 1 H' := ⟨_, ⟨rfl⟩⟩
  replace h := h H10 hb
  refine t_tomb true 1 (.agg [.empty, .empty, .empty]) [.empty, .empty, .empty] H10 H8 (by kernel_rfl) rfl hb ?_
  obtain ⟨H11, hb⟩ : ∃ H', Dead1 H10 1 H' := ⟨_, ⟨rfl⟩⟩
  replace h := h H11 hb
  refine t_tomb true 1 (.agg [(.int .i64 0), (.int .i64 0)]) [(.int .i64 0), (.int .i64 0)] H11 H10 (by kernel_rfl) rfl hb ?_
  obtain ⟨hs12, h⟩ := h
  obtain ⟨hs13, h⟩ := h
  obtain ⟨hs14, h⟩ := h
  refine t_upd true 3 0 [.empty, .empty, .empty] (.agg [r3, r4, r5]) [r3, r4, r5] [r3, r4, r5] H11 (by kernel_rfl) rfl (all_c hs12.2 (all_c hs13.2 (all_c hs14.2 all_n))) ⟨rfl, Nat.le_of_ble_eq_true (by kernel_rfl), rfl⟩ ?_
  refine t_upd true 2 0 [(.int .i64 0), (.int .i64 0)] (.agg [(.int .i64 r6), (.int .i64 r7)]) [(.int .i64 r6), (.int .i64 r7)] [(.int .i64 r6), (.int .i64 r7)] H11 (by kernel_rfl) rfl (all_c rfl (all_c rfl all_n)) ⟨rfl, Nat.le_of_ble_eq_true (by kernel_rfl), rfl⟩ ?_
  refine t_done [(.bool false), (.slice b0 0 4 (some 4)), (.agg [(.int .i64 r6), (.int .i64 r7)]), .undef, .undef, (.agg [r3, r4, r5]), .undef, .undef, .undef] H11 (by kernel_rfl) ?_
  refine then_norm ?_
  refine w_seq ?_
  refine w_run [0, 1, 0, 0, 0, 1, 1, 1, 1] ?_
  refine t_call true nmergequeue_Run [(.int .i64 2), (.slice b0 0 4 (some 4))] H11 (by kernel_rfl) h ?_
  clear h
  rintro _ H20 ⟨r15, r16, r17, r18, r19, rfl, h⟩
  obtain ⟨H22, hb⟩ : ∃ H', Dead1 H20 1 H' := ⟨_, ⟨rfl⟩⟩
  replace h := h H22 hb
  refine t_tomb true 1 (.agg [.empty, .empty, .empty]) [.empty, .empty, .empty] H22 H20 (by kernel_rfl) rfl hb ?_
  obtain ⟨H23, hb⟩ : ∃ H', Dead1 H22 1 H' := ⟨_, ⟨rfl⟩⟩
  replace h := h H23 hb
  refine t_tomb true 1 (.agg [(.int .i64 0), (.int .i64 0)]) [(.int .i64 0), (.int .i64 0)] H23 H22 (by kernel_rfl) rfl hb ?_
  obtain ⟨hs24, h⟩ := h
  obtain ⟨hs25, h⟩ := h
  obtain ⟨hs26, h⟩ := h
  refine t_upd true 3 0 [.empty, .empty, .empty] (.agg [r15, r16, r17]) [r15, r16, r17] [r15, r16, r17] H23 (by kernel_rfl) rfl (all_c hs24.2 (all_c hs25.2 (all_c hs26.2 all_n))) ⟨rfl, Nat.le_of_ble_eq_true (by kernel_rfl), rfl⟩ ?_
  refine t_upd true 2 0 [(.int .i64 0), (.int .i64 0)] (.agg [(.int .i64 r18), (.int .i64 r19)]) [(.int .i64 r18), (.int .i64 r19)] [(.int .i64 r18), (.int .i64 r19)] H23 (by kernel_rfl) rfl (all_c rfl (all_c rfl all_n)) ⟨rfl, Nat.le_of_ble_eq_true (by kernel_rfl), rfl⟩ ?_
  refine t_done [(.bool false), (.slice b0 0 4 (some 4)), (.agg [(.int .i64 r6), (.int .i64 r7)]), (.agg [(.int .i64 r18), (.int .i64 r19)]), .undef, (.agg [r3, r4, r5]), (.agg [r15, r16, r17]), .undef, .undef] H23 (by kernel_rfl) ?_
  refine then_norm ?_
  refine w_seq ?_
  refine w_run [0, 1, 0, 0, 0, 0, 1, 0, 0, 1] ?_
  refine t_call true nmergequeue_Outcome [(.int .i64 2), (.slice b0 0 4 (some 4)), (.int .i64 6)] H23 (by kernel_rfl) h ?_
  clear h
  rintro _ H31 ⟨r27, r28, r29, r30, rfl, h⟩
  obtain ⟨H33, hb⟩ : ∃ H', Dead1 H31 1 H' := ⟨_, ⟨rfl⟩⟩
  replace h := h H33 hb
  refine t_tomb true 1 (.agg [(.int .i64 0), (.int .i64 0)]) [(.int .i64 0), (.int .i64 0)] H33 H31 (by kernel_rfl) rfl hb ?_
  refine t_upd true 2 0 [(.int .i64 0), (.int .i64 0)] (.agg [(.int .i64 r29), (.int .i64 r30)]) [(.int .i64 r29), (.int .i64 r30)] [(.int .i64 r29), (.int .i64 r30)] H33 (by kernel_rfl) rfl (all_c rfl (all_c rfl all_n)) ⟨rfl, Nat.le_of_ble_eq_true (by kernel_rfl), rfl⟩ ?_
  refine t_done [(.bool false), (.slice b0 0 4 (some 4)), (.agg [(.int .i64 r6), (.int .i64 r7)]), (.agg [(.int .i64 r18), (.int .i64 r19)]), (.agg [(.int .i64 r29), (.int .i64 r30)]), (.agg [r3, r4, r5]), (.agg [r15, r16, r17]), (.int .i64 r27), (.int .i64 r28)] H33 (by kernel_rfl) ?_
  refine then_norm ?_
  refine w_seq ?_
  refine w_run [0, 0, 0, 0, 0, 0, 0, 0, 0, 0, 0, 0, 0, 0, 0, 0, 1, 0, 0, 0, 0, 0, 1, 0, 0, 0, 0, 0, 3, 3, 0, 0, 0, 0, 0, 0, 0, 0, 0, 0] ?_
  obtain ⟨len34, hl, h⟩ := h
  refine t_len true r4 len34 H33 (by kernel_rfl) hl ?_
  obtain ⟨len35, hl, h⟩ := h
  refine t_len true r3 len35 H33 (by kernel_rfl) hl ?_
  refine t_gd ((((((r6) == 0) && ((r18) == 0)) && ((r29) == 0)) && (((len34 : Int)) == 0)) && (((len35 : Int)) == 2)) true (by kernel_rfl) (fun hc => ?_) (fun hc => ?_)
  · replace h := h.1 ((is_and (is_and (is_and (is_and is_eq is_eq) is_eq) is_eq) is_eq).t hc)
    obtain ⟨b36, H37, hb⟩ : ∃ b H', NewB H33 1 [(.int .i64 5), (.int .i64 6)] b H' := ⟨_, _, rfl, rfl⟩
    replace h := h b36 H37 hb
    refine t_bs true 1 [(.int .i64 0)] [(0, 1, .loc 0), (1, 1, .loc 1)] 2 [(.int .i64 5), (.int .i64 6)] [(.int .i64 5), (.int .i64 6)] b36 H37 H33 (by kernel_rfl) (fill_c (vs := [(.int .i64 5)]) (size := 1) rfl (by kernel_rfl) (by kernel_rfl) (fill_c (vs := [(.int .i64 6)]) (size := 1) rfl (by kernel_rfl) (by kernel_rfl) (by kernel_rfl))) hb ?_
    refine t_gd true true (by kernel_rfl) (fun _ => ?_) (fun hn => by cases hn)
    refine t_call true nFEqualInts [r16, (.slice b36 0 2 (some 2))] H37 (by kernel_rfl) h ?_
    clear h
    rintro _ H39 ⟨r38, rfl, h⟩
    refine t_done [(.bool ((r38 && ((r27) == 1)) && ((r28) == 1))), (.slice b0 0 4 (some 4)), (.agg [(.int .i64 r6), (.int .i64 r7)]), (.agg [(.int .i64 r18), (.int .i64 r19)]), (.agg [(.int .i64 r29), (.int .i64 r30)]), (.agg [r3, r4, r5]), (.agg [r15, r16, r17]), (.int .i64 r27), (.int .i64 r28)] H39 (by kernel_rfl) ?_
    refine then_norm ?_
    refine w_ret ?_
    exact body_ret (vs := [(.bool ((r38 && ((r27) == 1)) && ((r28) == 1)))]) _ (by kernel_rfl) rfl h
  · replace h := h.2 ((is_and (is_and (is_and (is_and is_eq is_eq) is_eq) is_eq) is_eq).f hc)
    refine t_gd false true (by kernel_rfl) (fun hn => by cases hn) (fun _ => ?_)
    refine t_done [(.bool false), (.slice b0 0 4 (some 4)), (.agg [(.int .i64 r6), (.int .i64 r7)]), (.agg [(.int .i64 r18), (.int .i64 r19)]), (.agg [(.int .i64 r29), (.int .i64 r30)]), (.agg [r3, r4, r5]), (.agg [r15, r16, r17]), (.int .i64 r27), (.int .i64 r28)] H33 (by kernel_rfl) ?_
    refine then_norm ?_
    refine w_ret ?_
    exact body_ret (vs := [(.bool false)]) _ (by kernel_rfl) rfl h

def rf_LMergequeueNothingIsLost (nmergequeue_Run nLqueueExample nFHas : Nat) : RFunc := ⟨2, 22, [.var 2],
 ((.seq (.ops [⟨.move (.k (.bool false)), none, (some 2), true⟩])
 ((.seq (.ops [⟨.move (.var 0), none, none, true⟩, ⟨.move (.var 1), none, none, true⟩, ⟨.callS nmergequeue_Run [(.loc 0), (.loc 1)], none, none, true⟩, ⟨.move (.loc 2), none, none, true⟩, ⟨.extract (.loc 3) 0, none, none, true⟩, ⟨.extract (.loc 3) 1, none, none, true⟩, ⟨.tomb 1 (.k (.agg [.empty, .empty, .empty])), none, (some 6), true⟩, ⟨.tomb 1 (.k (.agg [.int .i64 0, .int .i64 0])), none, (some 4), true⟩, ⟨.upd 3 0 (.loc 6) (.loc 4), none, (some 6), true⟩, ⟨.upd 2 0 (.loc 7) (.loc 5), none, (some 4), true⟩])
 ((.seq ((.seq (.ops [⟨.callS nLqueueExample [], none, none, true⟩, ⟨.un .not (.loc 0), none, (some 3), true⟩])
 (.cond (.var 3) ((.seq (.ops [⟨.move (.k (.bool false)), none, (some 2), true⟩])
 (.ret))) (.skip))))
 ((.seq ((.seq (.ops [⟨.field 0 none (.var 4), none, none, true⟩, ⟨.field 0 none (.var 4), none, none, true⟩, ⟨.bin .neq .no (.loc 1) (.k (.int .i64 0)), none, (some 5), true⟩])
 (.cond (.var 5) ((.seq (.ops [⟨.move (.k (.bool true)), none, (some 2), true⟩])
 (.ret))) (.skip))))
 ((.seq (.ops [⟨.field 0 none (.var 6), none, none, false⟩, ⟨.field 1 none (.var 6), none, none, false⟩, ⟨.append 1 8 (.k (.empty)) (.loc 1), none, none, false⟩, ⟨.field 0 none (.var 6), none, none, false⟩, ⟨.field 2 none (.var 6), none, none, false⟩, ⟨.append 1 8 (.loc 2) (.loc 4), none, none, true⟩, ⟨.move (.loc 5), none, (some 9), true⟩])
 ((.seq ((.seq (.ops [⟨.move (.k (.int .i64 0)), none, (some 7), true⟩])
 (.block 0 (.loop ((.seq ((.seq (.ops [⟨.move (.var 7), none, none, true⟩, ⟨.field 0 none (.var 6), none, none, true⟩, ⟨.field 0 none (.var 6), none, none, true⟩, ⟨.len (.loc 2), none, none, true⟩, ⟨.bin .lss .no (.loc 0) (.loc 3), none, (some 8), true⟩])
 (.cond (.var 8) (.skip) (.exit 0))))
 ((.seq (.block 1 (.ops [⟨.move (.var 9), none, none, true⟩, ⟨.field 0 none (.var 6), none, none, true⟩, ⟨.field 0 none (.var 6), none, none, true⟩, ⟨.move (.var 7), none, none, true⟩, ⟨.indexAddr 6 (.loc 2) (.loc 3), none, none, true⟩, ⟨.fieldAddr 0 (.loc 4), none, none, true⟩, ⟨.load none (.loc 5), none, none, true⟩, ⟨.buildSlice 1 [.int .i64 0] [(0, 1, (.loc 6))] 1, none, none, true⟩, ⟨.append 1 8 (.loc 0) (.loc 7), none, none, true⟩, ⟨.move (.loc 8), none, (some 9), true⟩]))
 (.ops [⟨.move (.var 7), none, none, true⟩, ⟨.bin .add .no (.loc 0) (.k (.int .i64 1)), none, none, true⟩, ⟨.move (.loc 1), none, (some 7), true⟩])))))))))
 ((.seq ((.seq (.ops [⟨.move (.k (.int .i64 0)), none, (some 10), true⟩])
 (.block 2 (.loop ((.seq ((.seq (.ops [⟨.move (.var 10), none, none, true⟩, ⟨.move (.var 9), none, none, true⟩, ⟨.len (.loc 1), none, none, true⟩, ⟨.bin .lss .no (.loc 0) (.loc 2), none, (some 11), true⟩])
 (.cond (.var 11) (.skip) (.exit 2))))
 ((.seq (.block 3 ((.seq (.ops [⟨.move (.var 9), none, none, false⟩, ⟨.move (.var 10), none, none, false⟩, ⟨.slice 1 (.loc 0) none (some (.loc 1)) none, none, none, false⟩, ⟨.move (.var 9), none, none, true⟩, ⟨.move (.var 10), none, none, true⟩, ⟨.indexAddr 1 (.loc 3) (.loc 4), none, none, true⟩, ⟨.load none (.loc 5), none, none, true⟩, ⟨.callS nFHas [(.loc 2), (.loc 6)], none, (some 12), true⟩])
 (.cond (.var 12) ((.seq (.ops [⟨.move (.k (.bool false)), none, (some 2), true⟩])
 (.ret))) (.skip)))))
 (.ops [⟨.move (.var 10), none, none, true⟩, ⟨.bin .add .no (.loc 0) (.k (.int .i64 1)), none, none, true⟩, ⟨.move (.loc 1), none, (some 10), true⟩])))))))))
 ((.seq (.ops [⟨.move (.var 9), none, none, true⟩, ⟨.len (.loc 0), none, none, true⟩, ⟨.move (.loc 1), none, (some 16), true⟩])
 ((.seq ((.seq (.ops [⟨.move (.k (.int .i64 0)), none, (some 13), true⟩])
 (.block 4 (.loop ((.seq ((.seq (.ops [⟨.move (.var 13), none, none, true⟩, ⟨.move (.var 1), none, none, true⟩, ⟨.len (.loc 1), none, none, true⟩, ⟨.bin .lss .no (.loc 0) (.loc 2), none, (some 14), true⟩])
 (.cond (.var 14) (.skip) (.exit 4))))
 ((.seq (.block 5 ((.seq ((.seq (.ops [⟨.move (.var 1), none, none, true⟩, ⟨.move (.var 13), none, none, true⟩, ⟨.indexAddr 3 (.loc 0) (.loc 1), none, none, true⟩, ⟨.fieldAddr 0 (.loc 2), none, none, true⟩, ⟨.load none (.loc 3), none, none, true⟩, ⟨.bin .eql .no (.loc 4) (.k (.int .i64 2)), none, (some 15), true⟩])
 (.cond (.var 15) (.ops [⟨.move (.var 16), none, none, true⟩, ⟨.bin .add .no (.loc 0) (.k (.int .i64 1)), none, none, true⟩, ⟨.move (.loc 1), none, (some 16), true⟩]) (.skip))))
 ((.seq (.ops [⟨.move (.var 1), none, none, true⟩, ⟨.move (.var 13), none, none, true⟩, ⟨.indexAddr 3 (.loc 0) (.loc 1), none, none, true⟩, ⟨.fieldAddr 0 (.loc 2), none, none, true⟩, ⟨.load none (.loc 3), none, none, true⟩, ⟨.bin .eql .no (.loc 4) (.k (.int .i64 1)), none, (some 17), true⟩])
 (.cond (.var 17) ((.seq (.ops [⟨.move (.var 16), none, none, true⟩, ⟨.bin .sub .no (.loc 0) (.k (.int .i64 1)), none, none, true⟩, ⟨.move (.loc 1), none, (some 16), true⟩])
 ((.seq (.ops [⟨.move (.k (.bool false)), none, (some 20), true⟩])
 ((.seq ((.seq (.ops [⟨.move (.var 13), none, none, true⟩, ⟨.move (.loc 0), none, (some 18), true⟩])
 (.block 6 (.loop ((.seq ((.seq (.ops [⟨.move (.var 18), none, none, true⟩, ⟨.move (.var 1), none, none, true⟩, ⟨.len (.loc 1), none, none, true⟩, ⟨.bin .lss .no (.loc 0) (.loc 2), none, (some 19), true⟩])
 (.cond (.var 19) (.skip) (.exit 6))))
 ((.seq (.block 7 (.ops [⟨.move (.var 20), none, none, true⟩, ⟨.move (.loc 0), none, none, true⟩, ⟨.move (.var 1), none, none, true⟩, ⟨.move (.var 18), none, none, true⟩, ⟨.indexAddr 3 (.loc 2) (.loc 3), (some (1, false)), none, true⟩, ⟨.fieldAddr 0 (.loc 4), (some (1, false)), none, true⟩, ⟨.load none (.loc 5), (some (1, false)), none, true⟩, ⟨.bin .eql .no (.loc 6) (.k (.int .i64 2)), (some (1, false)), none, true⟩, ⟨.move (.loc 7), (some (1, false)), none, true⟩, ⟨.move (.var 1), none, none, false⟩, ⟨.move (.var 18), none, none, false⟩, ⟨.indexAddr 3 (.loc 9) (.loc 10), (some (8, true)), none, false⟩, ⟨.fieldAddr 1 (.loc 11), (some (8, true)), none, false⟩, ⟨.load none (.loc 12), (some (8, true)), none, false⟩, ⟨.move (.var 1), none, none, false⟩, ⟨.move (.var 13), none, none, false⟩, ⟨.indexAddr 3 (.loc 14) (.loc 15), (some (8, true)), none, false⟩, ⟨.fieldAddr 1 (.loc 16), (some (8, true)), none, false⟩, ⟨.load none (.loc 17), (some (8, true)), none, false⟩, ⟨.bin .eql .no (.loc 13) (.loc 18), (some (8, true)), none, true⟩, ⟨.pick (.loc 8) (.loc 19) (.k (.bool false)), (some (1, false)), none, true⟩, ⟨.pick (.loc 1) (.k (.bool true)) (.loc 20), none, none, true⟩, ⟨.move (.loc 21), none, (some 20), true⟩]))
 (.ops [⟨.move (.var 18), none, none, true⟩, ⟨.bin .add .no (.loc 0) (.k (.int .i64 1)), none, none, true⟩, ⟨.move (.loc 1), none, (some 18), true⟩])))))))))
 ((.seq (.ops [⟨.move (.var 20), none, none, true⟩, ⟨.un .not (.loc 0), none, none, true⟩, ⟨.move (.loc 1), none, none, true⟩, ⟨.move (.var 9), none, none, true⟩, ⟨.move (.var 1), none, none, true⟩, ⟨.move (.var 13), none, none, true⟩, ⟨.indexAddr 3 (.loc 4) (.loc 5), (some (2, true)), none, true⟩, ⟨.fieldAddr 1 (.loc 6), (some (2, true)), none, true⟩, ⟨.load none (.loc 7), (some (2, true)), none, true⟩, ⟨.callS nFHas [(.loc 3), (.loc 8)], (some (2, true)), none, true⟩, ⟨.un .not (.loc 9), (some (2, true)), none, true⟩, ⟨.pick (.loc 2) (.loc 10) (.k (.bool false)), none, (some 21), true⟩])
 (.cond (.var 21) ((.seq (.ops [⟨.move (.k (.bool false)), none, (some 2), true⟩])
 (.ret))) (.skip)))))))))) (.skip)))))))
 (.ops [⟨.move (.var 13), none, none, true⟩, ⟨.bin .add .no (.loc 0) (.k (.int .i64 1)), none, none, true⟩, ⟨.move (.loc 1), none, (some 13), true⟩])))))))))
 ((.seq (.ops [⟨.move (.var 16), none, none, true⟩, ⟨.bin .eql .no (.loc 0) (.k (.int .i64 0)), none, none, true⟩, ⟨.move (.loc 1), none, (some 2), true⟩])
 (.ret))))))))))))))))))))), none⟩
def rf_LMergequeueMainLineOnlyGrows (nLqueueExample nmergequeue_Run nFEqualInts : Nat) : RFunc := ⟨3, 11, [.var 3],
 ((.seq (.ops [⟨.move (.k (.bool false)), none, (some 3), true⟩])
 ((.seq ((.seq (.ops [⟨.callS nLqueueExample [], none, none, true⟩, ⟨.un .not (.loc 0), none, (some 4), true⟩])
 (.cond (.var 4) ((.seq (.ops [⟨.move (.k (.bool false)), none, (some 3), true⟩])
 (.ret))) (.skip))))
 ((.seq ((.seq (.ops [⟨.move (.var 2), none, none, true⟩, ⟨.bin .lss .no (.loc 0) (.k (.int .i64 0)), none, none, true⟩, ⟨.move (.loc 1), none, none, true⟩, ⟨.move (.var 2), none, none, true⟩, ⟨.move (.var 1), none, none, true⟩, ⟨.len (.loc 4), none, none, true⟩, ⟨.bin .gtr .no (.loc 3) (.loc 5), none, none, true⟩, ⟨.pick (.loc 2) (.k (.bool true)) (.loc 6), none, (some 5), true⟩])
 (.cond (.var 5) ((.seq (.ops [⟨.move (.k (.bool true)), none, (some 3), true⟩])
 (.ret))) (.skip))))
 ((.seq (.ops [⟨.move (.var 0), none, none, true⟩, ⟨.move (.var 1), none, none, true⟩, ⟨.move (.var 2), none, none, true⟩, ⟨.slice 3 (.loc 1) none (some (.loc 2)) none, none, none, true⟩, ⟨.callS nmergequeue_Run [(.loc 0), (.loc 3)], none, none, true⟩, ⟨.move (.loc 4), none, none, true⟩, ⟨.extract (.loc 5) 0, none, none, true⟩, ⟨.extract (.loc 5) 1, none, none, true⟩, ⟨.tomb 1 (.k (.agg [.empty, .empty, .empty])), none, (some 9), true⟩, ⟨.tomb 1 (.k (.agg [.int .i64 0, .int .i64 0])), none, (some 6), true⟩, ⟨.upd 3 0 (.loc 8) (.loc 6), none, (some 9), true⟩, ⟨.upd 2 0 (.loc 9) (.loc 7), none, (some 6), true⟩])
 ((.seq (.ops [⟨.move (.var 0), none, none, true⟩, ⟨.move (.var 1), none, none, true⟩, ⟨.callS nmergequeue_Run [(.loc 0), (.loc 1)], none, none, true⟩, ⟨.move (.loc 2), none, none, true⟩, ⟨.extract (.loc 3) 0, none, none, true⟩, ⟨.extract (.loc 3) 1, none, none, true⟩, ⟨.tomb 1 (.k (.agg [.empty, .empty, .empty])), none, (some 10), true⟩, ⟨.tomb 1 (.k (.agg [.int .i64 0, .int .i64 0])), none, (some 7), true⟩, ⟨.upd 3 0 (.loc 6) (.loc 4), none, (some 10), true⟩, ⟨.upd 2 0 (.loc 7) (.loc 5), none, (some 7), true⟩])
 ((.seq ((.seq (.ops [⟨.field 0 none (.var 6), none, none, true⟩, ⟨.field 0 none (.var 6), none, none, true⟩, ⟨.bin .neq .no (.loc 1) (.k (.int .i64 0)), none, none, true⟩, ⟨.move (.loc 2), none, none, true⟩, ⟨.field 0 none (.var 7), none, none, true⟩, ⟨.field 0 none (.var 7), none, none, true⟩, ⟨.bin .neq .no (.loc 5) (.k (.int .i64 0)), none, none, true⟩, ⟨.pick (.loc 3) (.k (.bool true)) (.loc 6), none, (some 8), true⟩])
 (.cond (.var 8) ((.seq (.ops [⟨.field 0 none (.var 7), none, none, true⟩, ⟨.field 0 none (.var 7), none, none, true⟩, ⟨.bin .neq .no (.loc 1) (.k (.int .i64 0)), none, none, true⟩, ⟨.move (.loc 2), none, (some 3), true⟩])
 (.ret))) (.skip))))
 ((.seq (.ops [⟨.field 0 none (.var 9), none, none, false⟩, ⟨.field 1 none (.var 9), none, none, false⟩, ⟨.len (.loc 1), none, none, false⟩, ⟨.field 0 none (.var 10), none, none, false⟩, ⟨.field 1 none (.var 10), none, none, false⟩, ⟨.len (.loc 4), none, none, false⟩, ⟨.bin .leq .no (.loc 2) (.loc 5), none, none, true⟩, ⟨.move (.loc 6), none, none, true⟩, ⟨.field 0 none (.var 9), none, none, false⟩, ⟨.field 1 none (.var 9), none, none, false⟩, ⟨.field 0 none (.var 10), none, none, false⟩, ⟨.field 1 none (.var 10), none, none, false⟩, ⟨.field 0 none (.var 9), none, none, false⟩, ⟨.field 1 none (.var 9), none, none, false⟩, ⟨.len (.loc 13), none, none, false⟩, ⟨.slice 1 (.loc 11) none (some (.loc 14)) none, (some (7, true)), none, false⟩, ⟨.callS nFEqualInts [(.loc 9), (.loc 15)], (some (7, true)), none, true⟩, ⟨.pick (.loc 7) (.loc 16) (.k (.bool false)), none, none, true⟩, ⟨.move (.loc 17), none, none, true⟩, ⟨.field 0 none (.var 9), none, none, false⟩, ⟨.field 2 none (.var 9), none, none, false⟩, ⟨.len (.loc 20), none, none, false⟩, ⟨.field 0 none (.var 10), none, none, false⟩, ⟨.field 2 none (.var 10), none, none, false⟩, ⟨.len (.loc 23), none, none, false⟩, ⟨.bin .leq .no (.loc 21) (.loc 24), none, none, true⟩, ⟨.pick (.loc 18) (.loc 25) (.k (.bool false)), none, none, true⟩, ⟨.move (.loc 26), none, none, true⟩, ⟨.field 0 none (.var 9), none, none, false⟩, ⟨.field 2 none (.var 9), none, none, false⟩, ⟨.field 0 none (.var 10), none, none, false⟩, ⟨.field 2 none (.var 10), none, none, false⟩, ⟨.field 0 none (.var 9), none, none, false⟩, ⟨.field 2 none (.var 9), none, none, false⟩, ⟨.len (.loc 33), none, none, false⟩, ⟨.slice 1 (.loc 31) none (some (.loc 34)) none, (some (27, true)), none, false⟩, ⟨.callS nFEqualInts [(.loc 29), (.loc 35)], (some (27, true)), none, true⟩, ⟨.pick (.loc 27) (.loc 36) (.k (.bool false)), none, none, true⟩, ⟨.move (.loc 37), none, (some 3), true⟩])
 (.ret))))))))))))))), none⟩
theorem v_LMergequeueMainLineOnlyGrows {F : Nat → Option RFunc} {me nLqueueExample nmergequeue_Run nFEqualInts : Nat} (hF : F me = some (rf_LMergequeueMainLineOnlyGrows nLqueueExample nmergequeue_Run nFEqualInts)) {fl : Nat} {H : Heap} {Q : AV → Heap → Prop} (window0 : Int) (events1 : AV) (n2 : Int)
  (h : Ret F fl nLqueueExample [] H (fun v5 H4 => ∃ (r3 : Bool), v5 = (.bool r3) ∧ ((¬(r3 = true)) → Q (.bool false) H4) ∧ (¬(¬(r3 = true)) → ∃ len6 : Nat, lenA events1 = some len6 ∧ ((((n2 < 0) ∨ (n2 > (len6 : Int)))) → Q (.bool true) H4) ∧ (¬(((n2 < 0) ∨ (n2 > (len6 : Int)))) → ∃ s7 : AV, rslice H4 3 events1 none (some (.int .i64 n2)) none = some s7 ∧ Ret F fl nmergequeue_Run [(.int .i64 window0), s7] H4 (fun v14 H13 => ∃ (r8 : AV) (r9 : AV) (r10 : AV) (r11 : Int) (r12 : Int), v14 = (.tuple [(.agg [r8, r9, r10]), (.agg [(.int .i64 r11), (.int .i64 r12)])]) ∧ ∀ (H15 : Heap), Dead1 H13 1 H15 → ∀ (H16 : Heap), Dead1 H15 1 H16 → Scal r8 ∧ Scal r9 ∧ Scal r10 ∧ Ret F fl nmergequeue_Run [(.int .i64 window0), events1] H16 (fun v26 H25 => ∃ (r20 : AV) (r21 : AV) (r22 : AV) (r23 : Int) (r24 : Int), v26 = (.tuple [(.agg [r20, r21, r22]), (.agg [(.int .i64 r23), (.int .i64 r24)])]) ∧ ∀ (H27 : Heap), Dead1 H25 1 H27 → ∀ (H28 : Heap), Dead1 H27 1 H28 → Scal r20 ∧ Scal r21 ∧ Scal r22 ∧ ((((r11 ≠ 0) ∨ (r23 ≠ 0))) → Q (.bool ((r23) != 0)) H28) ∧ (¬(((r11 ≠ 0) ∨ (r23 ≠ 0))) → ∃ len32 : Nat, lenA r9 = some len32 ∧ ∃ len33 : Nat, lenA r21 = some len33 ∧ ∃ len34 : Nat, lenA r9 = some len34 ∧ (((len32 : Int) ≤ (len33 : Int)) → ∃ s35 : AV, rslice H28 1 r21 none (some (.int .i64 (len34 : Int))) none = some s35 ∧ Ret F fl nFEqualInts [r9, s35] H28 (fun v38 H37 => ∃ (r36 : Bool), v38 = (.bool r36) ∧ ∃ len39 : Nat, lenA r10 = some len39 ∧ ∃ len40 : Nat, lenA r22 = some len40 ∧ ∃ len41 : Nat, lenA r10 = some len41 ∧ ((((r36 = true) ∧ ((len39 : Int) ≤ (len40 : Int)))) → ∃ s42 : AV, rslice H37 1 r22 none (some (.int .i64 (len41 : Int))) none = some s42 ∧ Ret F fl nFEqualInts [r10, s42] H37 (fun v45 H44 => ∃ (r43 : Bool), v45 = (.bool r43) ∧ Q (.bool r43) H44)) ∧ (¬(((r36 = true) ∧ ((len39 : Int) ≤ (len40 : Int)))) → Q (.bool false) H37))) ∧ (¬((len32 : Int) ≤ (len33 : Int)) → ∃ len46 : Nat, lenA r10 = some len46 ∧ ∃ len47 : Nat, lenA r22 = some len47 ∧ ∃ len48 : Nat, lenA r10 = some len48 ∧ Q (.bool false) H28)))))))) : Ret F fl me [(.int .i64 window0), events1, (.int .i64 n2)] H Q := by
  refine ret_intro hF rfl ?_
  refine w_seq ?_
  refine w_run [0] ?_
  refine t_done [(.int .i64 window0), events1, (.int .i64 n2), (.bool false), .undef, .undef, .undef, .undef, .undef, .undef, .undef] H (by kernel_rfl) ?_
  refine then_norm ?_
  refine w_seq ?_
  refine w_seq ?_
  refine w_run [1, 0] ?_
  refine t_call true nLqueueExample [] H (by kernel_rfl) h ?_
  clear h
  rintro _ H4 ⟨r3, rfl, h⟩
  refine t_done [(.int .i64 window0), events1, (.int .i64 n2), (.bool false), (.bool (!r3)), .undef, .undef, .undef, .undef, .undef, .undef] H4 (by kernel_rfl) ?_
  refine then_norm ?_
  refine w_cond (t := (!r3)) rfl (fun hc => ?_) (fun hc => ?_)
  · replace h := h.1 ((is_not is_raw).t hc)
    refine w_seq ?_
    refine w_run [0] ?_
    refine t_done [(.int .i64 window0), events1, (.int .i64 n2), (.bool false), (.bool (!r3)), .undef, .undef, .undef, .undef, .undef, .undef] H4 (by kernel_rfl) ?_
    refine then_norm ?_
    refine w_ret ?_
    refine then_ret ?_
    exact body_ret (vs := [(.bool false)]) _ (by kernel_rfl) rfl h
  · replace h := h.2 ((is_not is_raw).f hc)
    refine w_skip ?_
    refine then_norm ?_
    refine w_seq ?_
    refine w_seq ?_
    refine w_run [0, 0, 0, 0, 0, 1, 0, 0] ?_
    obtain ⟨len6, hl, h⟩ := h
    refine t_len true events1 len6 H4 (by kernel_rfl) hl ?_
    refine t_done [(.int .i64 window0), events1, (.int .i64 n2), (.bool false), (.bool (!r3)), (.bool ((decide (n2 < 0)) || (decide (n2 > (len6 : Int))))), .undef, .undef, .undef, .undef, .undef] H4 (by kernel_rfl) ?_
    refine then_norm ?_
    refine w_cond (t := ((decide (n2 < 0)) || (decide (n2 > (len6 : Int))))) rfl (fun hc => ?_) (fun hc => ?_)
    · replace h := h.1 ((is_or is_dec is_dec).t hc)
      refine w_seq ?_
      refine w_run [0] ?_
      refine t_done [(.int .i64 window0), events1, (.int .i64 n2), (.bool true), (.bool (!r3)), (.bool ((decide (n2 < 0)) || (decide (n2 > (len6 : Int))))), .undef, .undef, .undef, .undef, .undef] H4 (by kernel_rfl) ?_
      refine then_norm ?_
      refine w_ret ?_
      refine then_ret ?_
      exact body_ret (vs := [(.bool true)]) _ (by kernel_rfl) rfl h
    · replace h := h.2 ((is_or is_dec is_dec).f hc)
      refine w_skip ?_
      refine then_norm ?_
      refine w_seq ?_
      refine w_run [0, 0, 0, 1, 1, 0, 0, 0, 1, 1, 1, 1] ?_
      obtain ⟨s7, hs, h⟩ := h
      refine t_slcH true 3 events1 (.int .i64 n2) s7 H4 (by kernel_rfl) hs ?_
      refine t_call true nmergequeue_Run [(.int .i64 window0), s7] H4 (by kernel_rfl) h ?_
      clear h
      rintro _ H13 ⟨r8, r9, r10, r11, r12, rfl, h⟩
      obtain ⟨H15, hb⟩ : ∃ H', Dead1 H13 1 H' := ⟨_, ⟨rfl⟩⟩
      replace h := h H15 hb
      refine t_tomb true 1 (.agg [.empty, .empty, .empty]) [.empty, .empty, .empty] H15 H13 (by kernel_rfl) rfl hb ?_
      obtain ⟨H16, hb⟩ : ∃ H', Dead1 H15 1 H' := ⟨_, ⟨rfl⟩⟩
      replace h := h H16 hb
      refine t_tomb true 1 (.agg [(.int .i64 0), (.int .i64 0)]) [(.int .i64 0), (.int .i64 0)] H16 H15 (by kernel_rfl) rfl hb ?_
      obtain ⟨hs17, h⟩ := h
      obtain ⟨hs18, h⟩ := h
      obtain ⟨hs19, h⟩ := h
      refine t_upd true 3 0 [.empty, .empty, .empty] (.agg [r8, r9, r10]) [r8, r9, r10] [r8, r9, r10] H16 (by kernel_rfl) rfl (all_c hs17.2 (all_c hs18.2 (all_c hs19.2 all_n))) ⟨rfl, Nat.le_of_ble_eq_true (by kernel_rfl), rfl⟩ ?_
      refine t_upd true 2 0 [(.int .i64 0), (.int .i64 0)] (.agg [(.int .i64 r11), (.int .i64 r12)]) [(.int .i64 r11), (.int .i64 r12)] [(.int .i64 r11), (.int .i64 r12)] H16 (by kernel_rfl) rfl (all_c rfl (all_c rfl all_n)) ⟨rfl, Nat.le_of_ble_eq_true (by kernel_rfl), rfl⟩ ?_
      refine t_done [(.int .i64 window0), events1, (.int .i64 n2), (.bool false), (.bool (!r3)), (.bool ((decide (n2 < 0)) || (decide (n2 > (len6 : Int))))), (.agg [(.int .i64 r11), (.int .i64 r12)]), .undef, .undef, (.agg [r8, r9, r10]), .undef] H16 (by kernel_rfl) ?_
      refine then_norm ?_
      refine w_seq ?_
      refine w_run [0, 0, 1, 0, 0, 0, 1, 1, 1, 1] ?_
      refine t_call true nmergequeue_Run [(.int .i64 window0), events1] H16 (by kernel_rfl) h ?_
      clear h
      rintro _ H25 ⟨r20, r21, r22, r23, r24, rfl, h⟩
      obtain ⟨H27, hb⟩ : ∃ H', Dead1 H25 1 H' := ⟨_, ⟨rfl⟩⟩
      replace h := h H27 hb
      refine t_tomb true 1 (.agg [.empty, .empty, .empty]) [.empty, .empty, .empty] H27 H25 (by kernel_rfl) rfl hb ?_
      obtain ⟨H28, hb⟩ : ∃ H', Dead1 H27 1 H' := ⟨_, ⟨rfl⟩⟩
      replace h := h H28 hb
      refine t_tomb true 1 (.agg [(.int .i64 0), (.int .i64 0)]) [(.int .i64 0), (.int .i64 0)] H28 H27 (by kernel_rfl) rfl hb ?_
      obtain ⟨hs29, h⟩ := h
      obtain ⟨hs30, h⟩ := h
      obtain ⟨hs31, h⟩ := h
      refine t_upd true 3 0 [.empty, .empty, .empty] (.agg [r20, r21, r22]) [r20, r21, r22] [r20, r21, r22] H28 (by kernel_rfl) rfl (all_c hs29.2 (all_c hs30.2 (all_c hs31.2 all_n))) ⟨rfl, Nat.le_of_ble_eq_true (by kernel_rfl), rfl⟩ ?_
      refine t_upd true 2 0 [(.int .i64 0), (.int .i64 0)] (.agg [(.int .i64 r23), (.int .i64 r24)]) [(.int .i64 r23), (.int .i64 r24)] [(.int .i64 r23), (.int .i64 r24)] H28 (by kernel_rfl) rfl (all_c rfl (all_c rfl all_n)) ⟨rfl, Nat.le_of_ble_eq_true (by kernel_rfl), rfl⟩ ?_
      refine t_done [(.int .i64 window0), events1, (.int .i64 n2), (.bool false), (.bool (!r3)), (.bool ((decide (n2 < 0)) || (decide (n2 > (len6 : Int))))), (.agg [(.int .i64 r11), (.int .i64 r12)]), (.agg [(.int .i64 r23), (.int .i64 r24)]), .undef, (.agg [r8, r9, r10]), (.agg [r20, r21, r22])] H28 (by kernel_rfl) ?_
      refine then_norm ?_
      refine w_seq ?_
      refine w_seq ?_
      refine w_run [0, 0, 0, 0, 0, 0, 0, 0] ?_
      refine t_done [(.int .i64 window0), events1, (.int .i64 n2), (.bool false), (.bool (!r3)), (.bool ((decide (n2 < 0)) || (decide (n2 > (len6 : Int))))), (.agg [(.int .i64 r11), (.int .i64 r12)]), (.agg [(.int .i64 r23), (.int .i64 r24)]), (.bool (((r11) != 0) || ((r23) != 0))), (.agg [r8, r9, r10]), (.agg [r20, r21, r22])] H28 (by kernel_rfl) ?_
      refine then_norm ?_
      refine w_cond (t := (((r11) != 0) || ((r23) != 0))) rfl (fun hc => ?_) (fun hc => ?_)
      · replace h := h.1 ((is_or is_ne is_ne).t hc)
        refine w_seq ?_
        refine w_run [0, 0, 0, 0] ?_
        refine t_done [(.int .i64 window0), events1, (.int .i64 n2), (.bool ((r23) != 0)), (.bool (!r3)), (.bool ((decide (n2 < 0)) || (decide (n2 > (len6 : Int))))), (.agg [(.int .i64 r11), (.int .i64 r12)]), (.agg [(.int .i64 r23), (.int .i64 r24)]), (.bool (((r11) != 0) || ((r23) != 0))), (.agg [r8, r9, r10]), (.agg [r20, r21, r22])] H28 (by kernel_rfl) ?_
        refine then_norm ?_
        refine w_ret ?_
        refine then_ret ?_
        exact body_ret (vs := [(.bool ((r23) != 0))]) _ (by kernel_rfl) rfl h
      · replace h := h.2 ((is_or is_ne is_ne).f hc)
        refine w_skip ?_
        refine then_norm ?_
        refine w_seq ?_
        refine w_run [0, 0, 1, 0, 0, 1, 0, 0, 0, 0, 0, 0, 0, 0, 1, 3, 3, 0, 0, 0, 0, 1, 0, 0, 1, 0, 0, 0, 0, 0, 0, 0, 0, 0, 1, 3, 3, 0, 0] ?_
        obtain ⟨len32, hl, h⟩ := h
        refine t_len false r9 len32 H28 (by kernel_rfl) hl ?_
        obtain ⟨len33, hl, h⟩ := h
        refine t_len false r21 len33 H28 (by kernel_rfl) hl ?_
        obtain ⟨len34, hl, h⟩ := h
        refine t_len false r9 len34 H28 (by kernel_rfl) hl ?_
        refine t_gd (decide ((len32 : Int) ≤ (len33 : Int))) true (by kernel_rfl) (fun hc => ?_) (fun hc => ?_)
        · replace h := h.1 (is_dec.t hc)
          obtain ⟨s35, hs, h⟩ := h
          refine t_slcH false 1 r21 (.int .i64 (len34 : Int)) s35 H28 (by kernel_rfl) hs ?_
          refine t_gd true true (by kernel_rfl) (fun _ => ?_) (fun hn => by cases hn)
          refine t_call true nFEqualInts [r9, s35] H28 (by kernel_rfl) h ?_
          clear h
          rintro _ H37 ⟨r36, rfl, h⟩
          obtain ⟨len39, hl, h⟩ := h
          refine t_len false r10 len39 H37 (by kernel_rfl) hl ?_
          obtain ⟨len40, hl, h⟩ := h
          refine t_len false r22 len40 H37 (by kernel_rfl) hl ?_
          obtain ⟨len41, hl, h⟩ := h
          refine t_len false r10 len41 H37 (by kernel_rfl) hl ?_
          refine t_gd (r36 && (decide ((len39 : Int) ≤ (len40 : Int)))) true (by kernel_rfl) (fun hc => ?_) (fun hc => ?_)
          · replace h := h.1 ((is_and is_raw is_dec).t hc)
            obtain ⟨s42, hs, h⟩ := h
            refine t_slcH false 1 r22 (.int .i64 (len41 : Int)) s42 H37 (by kernel_rfl) hs ?_
            refine t_gd true true (by kernel_rfl) (fun _ => ?_) (fun hn => by cases hn)
            refine t_call true nFEqualInts [r10, s42] H37 (by kernel_rfl) h ?_
            clear h
            rintro _ H44 ⟨r43, rfl, h⟩
            refine t_done [(.int .i64 window0), events1, (.int .i64 n2), (.bool r43), (.bool (!r3)), (.bool ((decide (n2 < 0)) || (decide (n2 > (len6 : Int))))), (.agg [(.int .i64 r11), (.int .i64 r12)]), (.agg [(.int .i64 r23), (.int .i64 r24)]), (.bool (((r11) != 0) || ((r23) != 0))), (.agg [r8, r9, r10]), (.agg [r20, r21, r22])] H44 (by kernel_rfl) ?_
            refine then_norm ?_
            refine w_ret ?_
            exact body_ret (vs := [(.bool r43)]) _ (by kernel_rfl) rfl h
          · replace h := h.2 ((is_and is_raw is_dec).f hc)
            refine t_gd false true (by kernel_rfl) (fun hn => by cases hn) (fun _ => ?_)
            refine t_done [(.int .i64 window0), events1, (.int .i64 n2), (.bool false), (.bool (!r3)), (.bool ((decide (n2 < 0)) || (decide (n2 > (len6 : Int))))), (.agg [(.int .i64 r11), (.int .i64 r12)]), (.agg [(.int .i64 r23), (.int .i64 r24)]), (.bool (((r11) != 0) || ((r23) != 0))), (.agg [r8, r9, r10]), (.agg [r20, r21, r22])] H37 (by kernel_rfl) ?_
            refine then_norm ?_
            refine w_ret ?_
            exact body_ret (vs := [(.bool false)]) _ (by kernel_rfl) rfl h
        · replace h := h.2 (is_dec.f hc)
          refine t_gd false true (by kernel_rfl) (fun hn => by cases hn) (fun _ => ?_)
          obtain ⟨len46, hl, h⟩ := h
          refine t_len false r10 len46 H28 (by kernel_rfl) hl ?_
          obtain ⟨len47, hl, h⟩ := h
          refine t_len false r22 len47 H28 (by kernel_rfl) hl ?_
          obtain ⟨len48, hl, h⟩ := h
          refine t_len false r10 len48 H28 (by kernel_rfl) hl ?_
          refine t_gd false true (by kernel_rfl) (fun hn => by cases hn) (fun _ => ?_)
          refine t_gd false true (by kernel_rfl) (fun hn => by cases hn) (fun _ => ?_)
          refine t_done [(.int .i64 window0), events1, (.int .i64 n2), (.bool false), (.bool (!r3)), (.bool ((decide (n2 < 0)) || (decide (n2 > (len6 : Int))))), (.agg [(.int .i64 r11), (.int .i64 r12)]), (.agg [(.int .i64 r23), (.int .i64 r24)]), (.bool (((r11) != 0) || ((r23) != 0))), (.agg [r8, r9, r10]), (.agg [r20, r21, r22])] H28 (by kernel_rfl) ?_
          refine then_norm ?_
          refine w_ret ?_
          exact body_ret (vs := [(.bool false)]) _ (by kernel_rfl) rfl h

def rf_LMergequeueFunctionsMatchSpec (nmergequeue_Run nmergequeue_Outcome nLqueueExample nFRunQueue nFQueue_State nFEqualQueues nFFault : Nat) : RFunc := ⟨3, 20, [.var 3],
 ((.seq (.ops [⟨.move (.k (.bool false)), none, (some 3), true⟩])
 ((.seq (.ops [⟨.move (.var 0), none, none, true⟩, ⟨.move (.var 1), none, none, true⟩, ⟨.callS nmergequeue_Run [(.loc 0), (.loc 1)], none, none, true⟩, ⟨.move (.loc 2), none, none, true⟩, ⟨.extract (.loc 3) 0, none, none, true⟩, ⟨.extract (.loc 3) 1, none, none, true⟩, ⟨.tomb 1 (.k (.agg [.empty, .empty, .empty])), none, (some 7), true⟩, ⟨.tomb 1 (.k (.agg [.int .i64 0, .int .i64 0])), none, (some 5), true⟩, ⟨.upd 3 0 (.loc 6) (.loc 4), none, (some 7), true⟩, ⟨.upd 2 0 (.loc 7) (.loc 5), none, (some 5), true⟩])
 ((.seq (.ops [⟨.move (.var 0), none, none, true⟩, ⟨.move (.var 1), none, none, true⟩, ⟨.move (.var 2), none, none, true⟩, ⟨.callS nmergequeue_Outcome [(.loc 0), (.loc 1), (.loc 2)], none, none, true⟩, ⟨.move (.loc 3), none, none, true⟩, ⟨.extract (.loc 4) 0, none, none, true⟩, ⟨.extract (.loc 4) 1, none, none, true⟩, ⟨.extract (.loc 4) 2, none, none, true⟩, ⟨.tomb 1 (.k (.agg [.int .i64 0, .int .i64 0])), none, (some 11), true⟩, ⟨.move (.loc 5), none, (some 12), true⟩, ⟨.move (.loc 6), none, (some 13), true⟩, ⟨.upd 2 0 (.loc 8) (.loc 7), none, (some 11), true⟩])
 ((.seq ((.seq (.ops [⟨.callS nLqueueExample [], none, none, true⟩, ⟨.un .not (.loc 0), none, (some 4), true⟩])
 (.cond (.var 4) ((.seq (.ops [⟨.move (.k (.bool false)), none, (some 3), true⟩])
 (.ret))) (.skip))))
 ((.seq (.ops [⟨.move (.var 0), none, none, true⟩, ⟨.move (.var 1), none, none, true⟩, ⟨.callS nFRunQueue [(.loc 0), (.loc 1)], none, none, true⟩, ⟨.move (.loc 2), none, none, true⟩, ⟨.extract (.loc 3) 0, none, none, true⟩, ⟨.extract (.loc 3) 1, none, none, true⟩, ⟨.tomb 1 (.k (.agg [.empty, .empty, .empty, .empty, .empty])), none, (some 8), true⟩, ⟨.tomb 1 (.k (.agg [.int .i64 0, .int .i64 0])), none, (some 6), true⟩, ⟨.upd 5 0 (.loc 6) (.loc 4), none, (some 8), true⟩, ⟨.upd 2 0 (.loc 7) (.loc 5), none, (some 6), true⟩])
 ((.seq ((.seq (.ops [⟨.field 0 (some 2) (.var 5), none, none, false⟩, ⟨.field 0 (some 2) (.var 6), none, none, false⟩, ⟨.bin .neq (.agg [.int, .int]) (.loc 0) (.loc 1), none, none, true⟩, ⟨.move (.loc 2), none, none, true⟩, ⟨.field 0 (some 3) (.var 7), none, none, false⟩, ⟨.field 0 (some 5) (.var 8), none, none, false⟩, ⟨.callS nFQueue_State [(.loc 5)], (some (3, false)), none, false⟩, ⟨.callS nFEqualQueues [(.loc 4), (.loc 6)], (some (3, false)), none, true⟩, ⟨.un .not (.loc 7), (some (3, false)), none, true⟩, ⟨.pick (.loc 3) (.k (.bool true)) (.loc 8), none, (some 9), true⟩])
 (.cond (.var 9) ((.seq (.ops [⟨.move (.k (.bool false)), none, (some 3), true⟩])
 (.ret))) (.skip))))
 ((.seq ((.seq (.ops [⟨.field 0 none (.var 6), none, none, true⟩, ⟨.field 0 none (.var 6), none, none, true⟩, ⟨.bin .neq .no (.loc 1) (.k (.int .i64 0)), none, (some 10), true⟩])
 (.cond (.var 10) ((.seq (.ops [⟨.field 0 (some 2) (.var 11), none, none, true⟩, ⟨.field 0 (some 2) (.var 6), none, none, true⟩, ⟨.bin .eql (.agg [.int, .int]) (.loc 0) (.loc 1), none, none, true⟩, ⟨.move (.loc 2), none, none, true⟩, ⟨.move (.var 12), none, none, true⟩, ⟨.bin .eql .no (.loc 4) (.k (.int .i64 0)), none, none, true⟩, ⟨.pick (.loc 3) (.loc 5) (.k (.bool false)), none, none, true⟩, ⟨.move (.loc 6), none, none, true⟩, ⟨.move (.var 13), none, none, true⟩, ⟨.bin .eql .no (.loc 8) (.k (.int .i64 0)), none, none, true⟩, ⟨.pick (.loc 7) (.loc 9) (.k (.bool false)), none, none, true⟩, ⟨.move (.loc 10), none, (some 3), true⟩])
 (.ret))) (.skip))))
 ((.seq (.ops [⟨.field 0 none (.var 8), none, none, true⟩, ⟨.field 3 none (.var 8), none, none, true⟩, ⟨.field 0 none (.var 8), none, none, true⟩, ⟨.field 4 none (.var 8), none, none, true⟩, ⟨.field 0 none (.var 8), none, none, true⟩, ⟨.field 0 none (.var 8), none, none, true⟩, ⟨.buildSlice 1 [.empty] [(0, 1, (.k (.empty))), (1, 1, (.loc 1)), (2, 1, (.loc 3)), (3, 1, (.loc 5))] 4, none, none, true⟩, ⟨.move (.loc 6), none, (some 17), true⟩])
 ((.seq ((.seq (.ops [⟨.move (.k (.int .i64 1)), none, (some 14), true⟩])
 (.block 0 (.loop ((.seq ((.seq (.ops [⟨.move (.var 14), none, none, true⟩, ⟨.bin .lss .no (.loc 0) (.k (.int .i64 4)), none, (some 15), true⟩])
 (.cond (.var 15) (.skip) (.exit 0))))
 ((.seq (.block 1 ((.seq (.ops [⟨.move (.k (.int .i64 0)), none, (some 16), true⟩])
 (.block 2 (.loop ((.seq ((.seq (.ops [⟨.move (.var 16), none, none, true⟩, ⟨.move (.var 17), none, none, true⟩, ⟨.move (.var 14), none, none, true⟩, ⟨.indexAddr 1 (.loc 1) (.loc 2), none, none, true⟩, ⟨.load none (.loc 3), none, none, true⟩, ⟨.len (.loc 4), none, none, true⟩, ⟨.bin .lss .no (.loc 0) (.loc 5), none, (some 18), true⟩])
 (.cond (.var 18) (.skip) (.exit 2))))
 ((.seq (.block 3 ((.seq (.ops [⟨.move (.var 17), none, none, true⟩, ⟨.move (.var 14), none, none, true⟩, ⟨.indexAddr 1 (.loc 0) (.loc 1), none, none, true⟩, ⟨.load none (.loc 2), none, none, true⟩, ⟨.move (.var 16), none, none, true⟩, ⟨.indexAddr 1 (.loc 3) (.loc 4), none, none, true⟩, ⟨.load none (.loc 5), none, none, true⟩, ⟨.move (.var 2), none, none, true⟩, ⟨.bin .eql .no (.loc 6) (.loc 7), none, (some 19), true⟩])
 (.cond (.var 19) ((.seq (.ops [⟨.field 0 none (.var 11), none, none, true⟩, ⟨.field 0 none (.var 11), none, none, true⟩, ⟨.bin .eql .no (.loc 1) (.k (.int .i64 0)), none, none, true⟩, ⟨.move (.loc 2), none, none, true⟩, ⟨.move (.var 12), none, none, true⟩, ⟨.move (.var 14), none, none, true⟩, ⟨.bin .eql .no (.loc 4) (.loc 5), none, none, true⟩, ⟨.pick (.loc 3) (.loc 6) (.k (.bool false)), none, none, true⟩, ⟨.move (.loc 7), none, none, true⟩, ⟨.move (.var 13), none, none, true⟩, ⟨.move (.var 16), none, none, true⟩, ⟨.bin .eql .no (.loc 9) (.loc 10), none, none, true⟩, ⟨.pick (.loc 8) (.loc 11) (.k (.bool false)), none, none, true⟩, ⟨.move (.loc 12), none, (some 3), true⟩])
 (.ret))) (.skip)))))
 (.ops [⟨.move (.var 16), none, none, true⟩, ⟨.bin .add .no (.loc 0) (.k (.int .i64 1)), none, none, true⟩, ⟨.move (.loc 1), none, (some 16), true⟩]))))))))))
 (.ops [⟨.move (.var 14), none, none, true⟩, ⟨.bin .add .no (.loc 0) (.k (.int .i64 1)), none, none, true⟩, ⟨.move (.loc 1), none, (some 14), true⟩])))))))))
 ((.seq (.ops [⟨.field 0 (some 2) (.var 11), none, none, false⟩, ⟨.callS nFFault [(.k (.int .i64 6)), (.k (.int .i64 (-3)))], none, none, false⟩, ⟨.bin .eql (.agg [.int, .int]) (.loc 0) (.loc 1), none, none, true⟩, ⟨.move (.loc 2), none, none, true⟩, ⟨.move (.var 12), none, none, true⟩, ⟨.bin .eql .no (.loc 4) (.k (.int .i64 0)), none, none, true⟩, ⟨.pick (.loc 3) (.loc 5) (.k (.bool false)), none, none, true⟩, ⟨.move (.loc 6), none, none, true⟩, ⟨.move (.var 13), none, none, true⟩, ⟨.bin .eql .no (.loc 8) (.k (.int .i64 0)), none, none, true⟩, ⟨.pick (.loc 7) (.loc 9) (.k (.bool false)), none, none, true⟩, ⟨.move (.loc 10), none, (some 3), true⟩])
 (.ret))))))))))))))))))))), none⟩
end Go.RM

/-
  Functions of the program as the abstract machine runs them, and what must be shown of a run: printed by RmPrint.
-/
namespace Go.RM
set_option linter.unusedVariables false
set_option maxRecDepth 4000
end Go.RM

