import Derived.Test.YtlofiiepmehhbaaRmWp
/-
  Functions of the program as the abstract machine runs them, and what must be shown of a run: printed by RmPrint.
-/
namespace Go.RM
set_option linter.unusedVariables false
set_option maxRecDepth 4000
def rf_LqueueExample (nmergequeue_Run nmergequeue_Outcome nFEqualInts : Nat) : RFunc := ⟨0, 9, [.var 0],
 ((.seq (.ops [⟨.move (.k (.bool false)), none, (some 0), true⟩])
 ((.seq (.ops [⟨.build [.int .i64 0, .int .i64 0, .int .i64 0] [(0, 1, (.k (.int .i64 1))), (1, 1, (.k (.int .i64 5)))], none, none, true⟩, ⟨.build [.int .i64 0, .int .i64 0, .int .i64 0] [(0, 1, (.k (.int .i64 1))), (1, 1, (.k (.int .i64 6)))], none, none, true⟩, ⟨.build [.int .i64 0, .int .i64 0, .int .i64 0] [(0, 1, (.k (.int .i64 3))), (1, 1, (.k (.int .i64 6)))], none, none, true⟩, ⟨.build [.int .i64 0, .int .i64 0, .int .i64 0] [(0, 1, (.k (.int .i64 3))), (1, 1, (.k (.int .i64 5)))], none, none, true⟩, ⟨.buildSlice 3 [.int .i64 0, .int .i64 0, .int .i64 0] [(0, 3, (.loc 0)), (3, 3, (.loc 1)), (6, 3, (.loc 2)), (9, 3, (.loc 3))] 4, none, none, true⟩, ⟨.move (.loc 4), none, (some 1), true⟩])
 ((.seq (.ops [⟨.move (.var 1), none, none, true⟩, ⟨.slice 3 (.loc 0) none (some (.k (.int .i64 3))) none, none, none, true⟩, ⟨.callS nmergequeue_Run [(.k (.int .i64 2)), (.loc 1)], none, none, true⟩, ⟨.move (.loc 2), none, none, true⟩, ⟨.extract (.loc 3) 0, none, none, true⟩, ⟨.extract (.loc 3) 1, none, none, true⟩, ⟨.tomb 1 (.k (.agg [.empty, .empty, .empty])), none, (some 5), true⟩, ⟨.tomb 1 (.k (.agg [.int .i64 0, .int .i64 0])), none, (some 2), true⟩, ⟨.upd 3 0 (.loc 6) (.loc 4), none, (some 5), true⟩, ⟨.upd 2 0 (.loc 7) (.loc 5), none, (some 2), true⟩])
 ((.seq (.ops [⟨.move (.var 1), none, none, true⟩, ⟨.callS nmergequeue_Run [(.k (.int .i64 2)), (.loc 0)], none, none, true⟩, ⟨.move (.loc 1), none, none, true⟩, ⟨.extract (.loc 2) 0, none, none, true⟩, ⟨.extract (.loc 2) 1, none, none, true⟩, ⟨.tomb 1 (.k (.agg [.empty, .empty, .empty])), none, (some 6), true⟩, ⟨.tomb 1 (.k (.agg [.int .i64 0, .int .i64 0])), none, (some 3), true⟩, ⟨.upd 3 0 (.loc 5) (.loc 3), none, (some 6), true⟩, ⟨.upd 2 0 (.loc 6) (.loc 4), none, (some 3), true⟩])
 ((.seq (.ops [⟨.move (.var 1), none, none, true⟩, ⟨.callS nmergequeue_Outcome [(.k (.int .i64 2)), (.loc 0), (.k (.int .i64 6))], none, none, true⟩, ⟨.move (.loc 1), none, none, true⟩, ⟨.extract (.loc 2) 0, none, none, true⟩, ⟨.extract (.loc 2) 1, none, none, true⟩, ⟨.extract (.loc 2) 2, none, none, true⟩, ⟨.tomb 1 (.k (.agg [.int .i64 0, .int .i64 0])), none, (some 4), true⟩, ⟨.move (.loc 3), none, (some 7), true⟩, ⟨.move (.loc 4), none, (some 8), true⟩, ⟨.upd 2 0 (.loc 6) (.loc 5), none, (some 4), true⟩])
 ((.seq (.ops [⟨.field 0 none (.var 2), none, none, true⟩, ⟨.field 0 none (.var 2), none, none, true⟩, ⟨.bin .eql .no (.loc 1) (.k (.int .i64 0)), none, none, true⟩, ⟨.move (.loc 2), none, none, true⟩, ⟨.field 0 none (.var 3), none, none, true⟩, ⟨.field 0 none (.var 3), none, none, true⟩, ⟨.bin .eql .no (.loc 5) (.k (.int .i64 0)), none, none, true⟩, ⟨.pick (.loc 3) (.loc 6) (.k (.bool false)), none, none, true⟩, ⟨.move (.loc 7), none, none, true⟩, ⟨.field 0 none (.var 4), none, none, true⟩, ⟨.field 0 none (.var 4), none, none, true⟩, ⟨.bin .eql .no (.loc 10) (.k (.int .i64 0)), none, none, true⟩, ⟨.pick (.loc 8) (.loc 11) (.k (.bool false)), none, none, true⟩, ⟨.move (.loc 12), none, none, true⟩, ⟨.field 0 none (.var 5), none, none, true⟩, ⟨.field 1 none (.var 5), none, none, true⟩, ⟨.len (.loc 15), none, none, true⟩, ⟨.bin .eql .no (.loc 16) (.k (.int .i64 0)), none, none, true⟩, ⟨.pick (.loc 13) (.loc 17) (.k (.bool false)), none, none, true⟩, ⟨.move (.loc 18), none, none, true⟩, ⟨.field 0 none (.var 5), none, none, true⟩, ⟨.field 0 none (.var 5), none, none, true⟩, ⟨.len (.loc 21), none, none, true⟩, ⟨.bin .eql .no (.loc 22) (.k (.int .i64 2)), none, none, true⟩, ⟨.pick (.loc 19) (.loc 23) (.k (.bool false)), none, none, true⟩, ⟨.move (.loc 24), none, none, true⟩, ⟨.field 0 none (.var 6), none, none, true⟩, ⟨.field 1 none (.var 6), none, none, true⟩, ⟨.buildSlice 1 [.int .i64 0] [(0, 1, (.k (.int .i64 5))), (1, 1, (.k (.int .i64 6)))] 2, (some (25, true)), none, true⟩, ⟨.callS nFEqualInts [(.loc 27), (.loc 28)], (some (25, true)), none, true⟩, ⟨.pick (.loc 25) (.loc 29) (.k (.bool false)), none, none, true⟩, ⟨.move (.loc 30), none, none, true⟩, ⟨.move (.var 7), none, none, true⟩, ⟨.bin .eql .no (.loc 32) (.k (.int .i64 1)), none, none, true⟩, ⟨.pick (.loc 31) (.loc 33) (.k (.bool false)), none, none, true⟩, ⟨.move (.loc 34), none, none, true⟩, ⟨.move (.var 8), none, none, true⟩, ⟨.bin .eql .no (.loc 36) (.k (.int .i64 1)), none, none, true⟩, ⟨.pick (.loc 35) (.loc 37) (.k (.bool false)), none, none, true⟩, ⟨.move (.loc 38), none, (some 0), true⟩])
 (.ret))))))))))))), none⟩
theorem v_LqueueExample {F : Nat → Option RFunc} {me nmergequeue_Run nmergequeue_Outcome nFEqualInts : Nat} (hF : F me = some (rf_LqueueExample nmergequeue_Run nmergequeue_Outcome nFEqualInts)) {fl : Nat} {H : Heap} {Q : AV → Heap → Prop} 
  (h : ∀ (b0 : Nat) (H1 : Heap), NewB H 3 [(.int .i64 1), (.int .i64 5), (.int .i64 0), (.int .i64 1), (.int .i64 6), (.int .i64 0), (.int .i64 3), (.int .i64 6), (.int .i64 0), (.int .i64 3), (.int .i64 5), (.int .i64 0)] b0 H1 → ∃ s2 : AV, rslice H1 3 (.slice b0 0 4 (some 4)) none (some (.int .i64 3)) none = some s2 ∧ Ret F fl nmergequeue_Run [(.int .i64 2), s2] H1 (fun v9 H8 => ∃ (r3 : AV) (r4 : AV) (r5 : AV) (r6 : Int) (r7 : Int), v9 = (.tuple [(.agg [r3, r4, r5]), (.agg [(.int .i64 r6), (.int .i64 r7)])]) ∧ ∀ (H10 : Heap), Dead1 H8 1 H10 → ∀ (H11 : Heap), Dead1 H10 1 H11 → Scal r3 ∧ Scal r4 ∧ Scal r5 ∧ Ret F fl nmergequeue_Run [(.int .i64 2), (.slice b0 0 4 (some 4))] H11 (fun v21 H20 => ∃ (r15 : AV) (r16 : AV) (r17 : AV) (r18 : Int) (r19 : Int), v21 = (.tuple [(.agg [r15, r16, r17]), (.agg [(.int .i64 r18), (.int .i64 r19)])]) ∧ ∀ (H22 : Heap), Dead1 H20 1 H22 → ∀ (H23 : Heap), Dead1 H22 1 H23 → Scal r15 ∧ Scal r16 ∧ Scal r17 ∧ Ret F fl nmergequeue_Outcome [(.int .i64 2), (.slice b0 0 4 (some 4)), (.int .i64 6)] H23 (fun v32 H31 => ∃ (r27 : Int) (r28 : Int) (r29 : Int) (r30 : Int), v32 = (.tuple [(.int .i64 r27), (.int .i64 r28), (.agg [(.int .i64 r29), (.int .i64 r30)])]) ∧ ∀ (H33 : Heap), Dead1 H31 1 H33 → ∃ len34 : Nat, lenA r4 = some len34 ∧ ∃ len35 : Nat, lenA r3 = some len35 ∧ ((((((((((r6 = 0) ∧ (r18 = 0))) ∧ (r29 = 0))) ∧ ((len34 : Int) = 0))) ∧ ((len35 : Int) = 2))) → ∀ (b36 : Nat) (H37 : Heap), NewB H33 1 [(.int .i64 5), (.int .i64 6)] b36 H37 → Ret F fl nFEqualInts [r16, (.slice b36 0 2 (some 2))] H37 (fun v40 H39 => ∃ (r38 : Bool), v40 = (.bool r38) ∧ Q (.bool ((r38 && ((r27) == 1)) && ((r28) == 1))) H39)) ∧ (¬(((((((((r6 = 0) ∧ (r18 = 0))) ∧ (r29 = 0))) ∧ ((len34 : Int) = 0))) ∧ ((len35 : Int) = 2))) → Q (.bool false) H33))))) : Ret F fl me [] H Q := by
  refine ret_intro hF rfl ?_
  refine w_seq ?_
  refine w_run [0] ?_
  refine t_done [(.bool false), .undef, .undef, .undef, .undef, .undef, .undef, .undef, .undef] H (by kernel_rfl) ?_
  refine then_norm ?_
  refine w_seq ?_
  refine w_run [1, 1, 1, 1, 1, 0] ?_
  refine t_build true [(.int .i64 0), (.int .i64 0), (.int .i64 0)] [(0, 1, .loc 0), (1, 1, .loc 1)] [(.int .i64 1), (.int .i64 5)] [(.int .i64 1), (.int .i64 5), (.int .i64 0)] H (by kernel_rfl) (fill_c (vs := [(.int .i64 1)]) (size := 1) rfl (by kernel_rfl) (by kernel_rfl) (fill_c (vs := [(.int .i64 5)]) (size := 1) rfl (by kernel_rfl) (by kernel_rfl) (by kernel_rfl))) ?_
  refine t_build true [(.int .i64 0), (.int .i64 0), (.int .i64 0)] [(0, 1, .loc 0), (1, 1, .loc 1)] [(.int .i64 1), (.int .i64 6)] [(.int .i64 1), (.int .i64 6), (.int .i64 0)] H (by kernel_rfl) (fill_c (vs := [(.int .i64 1)]) (size := 1) rfl (by kernel_rfl) (by kernel_rfl) (fill_c (vs := [(.int .i64 6)]) (size := 1) rfl (by kernel_rfl) (by kernel_rfl) (by kernel_rfl))) ?_
  refine t_build true [(.int .i64 0), (.int .i64 0), (.int .i64 0)] [(0, 1, .loc 0), (1, 1, .loc 1)] [(.int .i64 3), (.int .i64 6)] [(.int .i64 3), (.int .i64 6), (.int .i64 0)] H (by kernel_rfl) (fill_c (vs := [(.int .i64 3)]) (size := 1) rfl (by kernel_rfl) (by kernel_rfl) (fill_c (vs := [(.int .i64 6)]) (size := 1) rfl (by kernel_rfl) (by kernel_rfl) (by kernel_rfl))) ?_
  refine t_build true [(.int .i64 0), (.int .i64 0), (.int .i64 0)] [(0, 1, .loc 0), (1, 1, .loc 1)] [(.int .i64 3), (.int .i64 5)] [(.int .i64 3), (.int .i64 5), (.int .i64 0)] H (by kernel_rfl) (fill_c (vs := [(.int .i64 3)]) (size := 1) rfl (by kernel_rfl) (by kernel_rfl) (fill_c (vs := [(.int .i64 5)]) (size := 1) rfl (by kernel_rfl) (by kernel_rfl) (by kernel_rfl))) ?_
  obtain ⟨b0, H1, hb⟩ : ∃ b H', NewB H 3 [(.int .i64 1), (.int .i64 5), (.int .i64 0), (.int .i64 1), (.int .i64 6), (.int .i64 0), (.int .i64 3), (.int .i64 6), (.int .i64 0), (.int .i64 3), (.int .i64 5), (.int .i64 0)] b H' := ⟨_, _, rfl, rfl⟩
  replace h := h b0 H1 hb
  refine t_bs true 3 [(.int .i64 0), (.int .i64 0), (.int .i64 0)] [(0, 3, .loc 0), (3, 3, .loc 1), (6, 3, .loc 2), (9, 3, .loc 3)] 4 [(.agg [(.int .i64 1), (.int .i64 5), (.int .i64 0)]), (.agg [(.int .i64 1), (.int .i64 6), (.int .i64 0)]), (.agg [(.int .i64 3), (.int .i64 6), (.int .i64 0)]), (.agg [(.int .i64 3), (.int .i64 5), (.int .i64 0)])] [(.int .i64 1), (.int .i64 5), (.int .i64 0), (.int .i64 1), (.int .i64 6), (.int .i64 0), (.int .i64 3), (.int .i64 6), (.int .i64 0), (.int .i64 3), (.int .i64 5), (.int .i64 0)] b0 H1 H (by kernel_rfl) (fill_c (vs := [(.int .i64 1), (.int .i64 5), (.int .i64 0)]) (size := 3) rfl (by kernel_rfl) (by kernel_rfl) (fill_c (vs := [(.int .i64 1), (.int .i64 6), (.int .i64 0)]) (size := 3) rfl (by kernel_rfl) (by kernel_rfl) (fill_c (vs := [(.int .i64 3), (.int .i64 6), (.int .i64 0)]) (size := 3) rfl (by kernel_rfl) (by kernel_rfl) (fill_c (vs := [(.int .i64 3), (.int .i64 5), (.int .i64 0)]) (size := 3) rfl (by kernel_rfl) (by kernel_rfl) (by kernel_rfl))))) hb ?_
  refine t_done [(.bool false), (.slice b0 0 4 (some 4)), .undef, .undef, .undef, .undef, .undef, .undef, .undef] H1 (by kernel_rfl) ?_
  refine then_norm ?_
  refine w_seq ?_
  refine w_run [0, 1, 1, 0, 0, 0, 1, 1, 1, 1] ?_
  obtain ⟨s2, hs, h⟩ := h
  refine t_slcH true 3 (.slice b0 0 4 (some 4)) (.int .i64 3) s2 H1 (by kernel_rfl) hs ?_
  refine t_call true nmergequeue_Run [(.int .i64 2), s2] H1 (by kernel_rfl) h ?_
  clear h
  rintro _ H8 ⟨r3, r4, r5, r6, r7, rfl, h⟩
  obtain ⟨H10, hb⟩ : ∃ H', Dead1 H8 1 H' := ⟨_, ⟨rfl⟩⟩
  replace h := h H10 hb
  refine t_tomb true 1 (.agg [.empty, .empty, .empty]) [.empty, .empty, .empty] H10 H8 (by kernel_rfl) rfl hb ?_
  obtain ⟨H11, hb⟩ : ∃ H', Dead1 H10 1 H' := ⟨_, ⟨rfl⟩⟩
  replace h := h H11 hb
  refine t_tomb true 1 (.agg [(.int .i64 0), (.int .i64 0)]) [(.int .i64 0), (.int .i64 0)] H11 H10 (by kernel_rfl) rfl hb ?_
  obtain ⟨hs12, h⟩ := h
  obtain ⟨hs13, h⟩ := h
  obtain ⟨hs14, h⟩ := h
  refine t_upd true 3 0 [.empty, .empty, .empty] (.agg [r3, r4, r5]) [r3, r4, r5] [r3, r4, r5] H11 (by kernel_rfl) rfl (all_c hs12.2 (all_c hs13.2 (all_c hs14.2 all_n))) ⟨rfl, Nat.le_of_ble_eq_true (by kernel_rfl), rfl⟩ ?_
  refine t_upd true 2 0 [(.int .i64 0), (.int .i64 0)] (.agg [(.int .i64 r6), (.int .i64 r7)]) [(.int .i64 r6), (.int .i64 r7)] [(.int .i64 r6), (.int .i64 r7)] H11 (by kernel_rfl) rfl (all_c rfl (all_c rfl all_n)) ⟨rfl, Nat.le_of_ble_eq_true (by kernel_rfl), rfl⟩ ?_
  refine t_done [(.bool false), (.slice b0 0 4 (some 4)), (.agg [(.int .i64 r6), (.int .i64 r7)]), .undef, .undef, (.agg [r3, r4, r5]), .undef, .undef, .undef] H11 (by kernel_rfl) ?_
  refine then_norm ?_
  refine w_seq ?_
  refine w_run [0, 1, 0, 0, 0, 1, 1, 1, 1] ?_
  refine t_call true nmergequeue_Run [(.int .i64 2), (.slice b0 0 4 (some 4))] H11 (by kernel_rfl) h ?_
  clear h
  rintro _ H20 ⟨r15, r16, r17, r18, r19, rfl, h⟩
  obtain ⟨H22, hb⟩ : ∃ H', Dead1 H20 1 H' := ⟨_, ⟨rfl⟩⟩
  replace h := h H22 hb
  refine t_tomb true 1 (.agg [.empty, .empty, .empty]) [.empty, .empty, .empty] H22 H20 (by kernel_rfl) rfl hb ?_
  obtain ⟨H23, hb⟩ : ∃ H', Dead1 H22 1 H' := ⟨_, ⟨rfl⟩⟩
  replace h := h H23 hb
  refine t_tomb true 1 (.agg [(.int .i64 0), (.int .i64 0)]) [(.int .i64 0), (.int .i64 0)] H23 H22 (by kernel_rfl) rfl hb ?_
  obtain ⟨hs24, h⟩ := h
  obtain ⟨hs25, h⟩ := h
  obtain ⟨hs26, h⟩ := h
  refine t_upd true 3 0 [.empty, .empty, .empty] (.agg [r15, r16, r17]) [r15, r16, r17] [r15, r16, r17] H23 (by kernel_rfl) rfl (all_c hs24.2 (all_c hs25.2 (all_c hs26.2 all_n))) ⟨rfl, Nat.le_of_ble_eq_true (by kernel_rfl), rfl⟩ ?_
  refine t_upd true 2 0 [(.int .i64 0), (.int .i64 0)] (.agg [(.int .i64 r18), (.int .i64 r19)]) [(.int .i64 r18), (.int .i64 r19)] [(.int .i64 r18), (.int .i64 r19)] H23 (by kernel_rfl) rfl (all_c rfl (all_c rfl all_n)) ⟨rfl, Nat.le_of_ble_eq_true (by kernel_rfl), rfl⟩ ?_
  refine t_done [(.bool false), (.slice b0 0 4 (some 4)), (.agg [(.int .i64 r6), (.int .i64 r7)]), (.agg [(.int .i64 r18), (.int .i64 r19)]), .undef, (.agg [r3, r4, r5]), (.agg [r15, r16, r17]), .undef, .undef] H23 (by kernel_rfl) ?_
  refine then_norm ?_
  refine w_seq ?_
  refine w_run [0, 1, 0, 0, 0, 0, 1, 0, 0, 1] ?_
  refine t_call true nmergequeue_Outcome [(.int .i64 2), (.slice b0 0 4 (some 4)), (.int .i64 6)] H23 (by kernel_rfl) h ?_
  clear h
  rintro _ H31 ⟨r27, r28, r29, r30, rfl, h⟩
  obtain ⟨H33, hb⟩ : ∃ H', Dead1 H31 1 H' := ⟨_, ⟨rfl⟩⟩
  replace h := h H33 hb
  refine t_tomb true 1 (.agg [(.int .i64 0), (.int .i64 0)]) [(.int .i64 0), (.int .i64 0)] H33 H31 (by kernel_rfl) rfl hb ?_
  refine t_upd true 2 0 [(.int .i64 0), (.int .i64 0)] (.agg [(.int .i64 r29), (.int .i64 r30)]) [(.int .i64 r29), (.int .i64 r30)] [(.int .i64 r29), (.int .i64 r30)] H33 (by kernel_rfl) rfl (all_c rfl (all_c rfl all_n)) ⟨rfl, Nat.le_of_ble_eq_true (by kernel_rfl), rfl⟩ ?_
  refine t_done [(.bool false), (.slice b0 0 4 (some 4)), (.agg [(.int .i64 r6), (.int .i64 r7)]), (.agg [(.int .i64 r18), (.int .i64 r19)]), (.agg [(.int .i64 r29), (.int .i64 r30)]), (.agg [r3, r4, r5]), (.agg [r15, r16, r17]), (.int .i64 r27), (.int .i64 r28)] H33 (by kernel_rfl) ?_
  refine then_norm ?_
  refine w_seq ?_
  refine w_run [0, 0, 0, 0, 0, 0, 0, 0, 0, 0, 0, 0, 0, 0, 0, 0, 1, 0, 0, 0, 0, 0, 1, 0, 0, 0, 0, 0, 3, 3, 0, 0, 0, 0, 0, 0, 0, 0, 0, 0] ?_
  obtain ⟨len34, hl, h⟩ := h
  refine t_len true r4 len34 H33 (by kernel_rfl) hl ?_
  obtain ⟨len35, hl, h⟩ := h
  refine t_len true r3 len35 H33 (by kernel_rfl) hl ?_
  refine t_gd ((((((r6) == 0) && ((r18) == 0)) && ((r29) == 0)) && (((len34 : Int)) == 0)) && (((len35 : Int)) == 2)) true (by kernel_rfl) (fun hc => ?_) (fun hc => ?_)
  · replace h := h.1 ((is_and (is_and (is_and (is_and is_eq is_eq) is_eq) is_eq) is_eq).t hc)
    obtain ⟨b36, H37, hb⟩ : ∃ b H', NewB H33 1 [(.int .i64 5), (.int .i64 6)] b H' := ⟨_, _, rfl, rfl⟩
    replace h := h b36 H37 hb
    refine t_bs true 1 [(.int .i64 0)] [(0, 1, .loc 0), (1, 1, .loc 1)] 2 [(.int .i64 5), (.int .i64 6)] [(.int .i64 5), (.int .i64 6)] b36 H37 H33 (by kernel_rfl) (fill_c (vs := [(.int .i64 5)]) (size := 1) rfl (by kernel_rfl) (by kernel_rfl) (fill_c (vs := [(.int .i64 6)]) (size := 1) rfl (by kernel_rfl) (by kernel_rfl) (by kernel_rfl))) hb ?_
    refine t_gd true true (by kernel_rfl) (fun _ => ?_) (fun hn => by cases hn)
    refine t_call true nFEqualInts [r16, (.slice b36 0 2 (some 2))] H37 (by kernel_rfl) h ?_
    clear h
    rintro _ H39 ⟨r38, rfl, h⟩
    refine t_done [(.bool ((r38 && ((r27) == 1)) && ((r28) == 1))), (.slice b0 0 4 (some 4)), (.agg [(.int .i64 r6), (.int .i64 r7)]), (.agg [(.int .i64 r18), (.int .i64 r19)]), (.agg [(.int .i64 r29), (.int .i64 r30)]), (.agg [r3, r4, r5]), (.agg [r15, r16, r17]), (.int .i64 r27), (.int .i64 r28)] H39 (by kernel_rfl) ?_
    refine then_norm ?_
    refine w_ret ?_
    exact body_ret (vs := [(.bool ((r38 && ((r27) == 1)) && ((r28) == 1)))]) _ (by kernel_rfl) rfl h
  · replace h := h.2 ((is_and (is_and (is_and (is_and is_eq is_eq) is_eq) is_eq) is_eq).f hc)
    refine t_gd false true (by kernel_rfl) (fun hn => by cases hn) (fun _ => ?_)
    refine t_done [(.bool false), (.slice b0 0 4 (some 4)), (.agg [(.int .i64 r6), (.int .i64 r7)]), (.agg [(.int .i64 r18), (.int .i64 r19)]), (.agg [(.int .i64 r29), (.int .i64 r30)]), (.agg [r3, r4, r5]), (.agg [r15, r16, r17]), (.int .i64 r27), (.int .i64 r28)] H33 (by kernel_rfl) ?_
    refine then_norm ?_
    refine w_ret ?_
    exact body_ret (vs := [(.bool false)]) _ (by kernel_rfl) rfl h

def rf_LMergequeueNothingIsLost (nmergequeue_Run nLqueueExample nFHas : Nat) : RFunc := ⟨2, 22, [.var 2],
 ((.seq (.ops [⟨.move (.k (.bool false)), none, (some 2), true⟩])
 ((.seq (.ops [⟨.move (.var 0), none, none, true⟩, ⟨.move (.var 1), none, none, true⟩, ⟨.callS nmergequeue_Run [(.loc 0), (.loc 1)], none, none, true⟩, ⟨.move (.loc 2), none, none, true⟩, ⟨.extract (.loc 3) 0, none, none, true⟩, ⟨.extract (.loc 3) 1, none, none, true⟩, ⟨.tomb 1 (.k (.agg [.empty, .empty, .empty])), none, (some 6), true⟩, ⟨.tomb 1 (.k (.agg [.int .i64 0, .int .i64 0])), none, (some 4), true⟩, ⟨.upd 3 0 (.loc 6) (.loc 4), none, (some 6), true⟩, ⟨.upd 2 0 (.loc 7) (.loc 5), none, (some 4), true⟩])
 ((.seq ((.seq (.ops [⟨.callS nLqueueExample [], none, none, true⟩, ⟨.un .not (.loc 0), none, (some 3), true⟩])
 (.cond (.var 3) ((.seq (.ops [⟨.move (.k (.bool false)), none, (some 2), true⟩])
 (.ret))) (.skip))))
 ((.seq ((.seq (.ops [⟨.field 0 none (.var 4), none, none, true⟩, ⟨.field 0 none (.var 4), none, none, true⟩, ⟨.bin .neq .no (.loc 1) (.k (.int .i64 0)), none, (some 5), true⟩])
 (.cond (.var 5) ((.seq (.ops [⟨.move (.k (.bool true)), none, (some 2), true⟩])
 (.ret))) (.skip))))
 ((.seq (.ops [⟨.field 0 none (.var 6), none, none, false⟩, ⟨.field 1 none (.var 6), none, none, false⟩, ⟨.append 1 8 (.k (.empty)) (.loc 1), none, none, false⟩, ⟨.field 0 none (.var 6), none, none, false⟩, ⟨.field 2 none (.var 6), none, none, false⟩, ⟨.append 1 8 (.loc 2) (.loc 4), none, none, true⟩, ⟨.move (.loc 5), none, (some 9), true⟩])
 ((.seq ((.seq (.ops [⟨.move (.k (.int .i64 0)), none, (some 7), true⟩])
 (.block 0 (.loop ((.seq ((.seq (.ops [⟨.move (.var 7), none, none, true⟩, ⟨.field 0 none (.var 6), none, none, true⟩, ⟨.field 0 none (.var 6), none, none, true⟩, ⟨.len (.loc 2), none, none, true⟩, ⟨.bin .lss .no (.loc 0) (.loc 3), none, (some 8), true⟩])
 (.cond (.var 8) (.skip) (.exit 0))))
 ((.seq (.block 1 (.ops [⟨.move (.var 9), none, none, true⟩, ⟨.field 0 none (.var 6), none, none, true⟩, ⟨.field 0 none (.var 6), none, none, true⟩, ⟨.move (.var 7), none, none, true⟩, ⟨.indexAddr 6 (.loc 2) (.loc 3), none, none, true⟩, ⟨.fieldAddr 0 (.loc 4), none, none, true⟩, ⟨.load none (.loc 5), none, none, true⟩, ⟨.buildSlice 1 [.int .i64 0] [(0, 1, (.loc 6))] 1, none, none, true⟩, ⟨.append 1 8 (.loc 0) (.loc 7), none, none, true⟩, ⟨.move (.loc 8), none, (some 9), true⟩]))
 (.ops [⟨.move (.var 7), none, none, true⟩, ⟨.bin .add .no (.loc 0) (.k (.int .i64 1)), none, none, true⟩, ⟨.move (.loc 1), none, (some 7), true⟩])))))))))
 ((.seq ((.seq (.ops [⟨.move (.k (.int .i64 0)), none, (some 10), true⟩])
 (.block 2 (.loop ((.seq ((.seq (.ops [⟨.move (.var 10), none, none, true⟩, ⟨.move (.var 9), none, none, true⟩, ⟨.len (.loc 1), none, none, true⟩, ⟨.bin .lss .no (.loc 0) (.loc 2), none, (some 11), true⟩])
 (.cond (.var 11) (.skip) (.exit 2))))
 ((.seq (.block 3 ((.seq (.ops [⟨.move (.var 9), none, none, false⟩, ⟨.move (.var 10), none, none, false⟩, ⟨.slice 1 (.loc 0) none (some (.loc 1)) none, none, none, false⟩, ⟨.move (.var 9), none, none, true⟩, ⟨.move (.var 10), none, none, true⟩, ⟨.indexAddr 1 (.loc 3) (.loc 4), none, none, true⟩, ⟨.load none (.loc 5), none, none, true⟩, ⟨.callS nFHas [(.loc 2), (.loc 6)], none, (some 12), true⟩])
 (.cond (.var 12) ((.seq (.ops [⟨.move (.k (.bool false)), none, (some 2), true⟩])
 (.ret))) (.skip)))))
 (.ops [⟨.move (.var 10), none, none, true⟩, ⟨.bin .add .no (.loc 0) (.k (.int .i64 1)), none, none, true⟩, ⟨.move (.loc 1), none, (some 10), true⟩])))))))))
 ((.seq (.ops [⟨.move (.var 9), none, none, true⟩, ⟨.len (.loc 0), none, none, true⟩, ⟨.move (.loc 1), none, (some 16), true⟩])
 ((.seq ((.seq (.ops [⟨.move (.k (.int .i64 0)), none, (some 13), true⟩])
 (.block 4 (.loop ((.seq ((.seq (.ops [⟨.move (.var 13), none, none, true⟩, ⟨.move (.var 1), none, none, true⟩, ⟨.len (.loc 1), none, none, true⟩, ⟨.bin .lss .no (.loc 0) (.loc 2), none, (some 14), true⟩])
 (.cond (.var 14) (.skip) (.exit 4))))
 ((.seq (.block 5 ((.seq ((.seq (.ops [⟨.move (.var 1), none, none, true⟩, ⟨.move (.var 13), none, none, true⟩, ⟨.indexAddr 3 (.loc 0) (.loc 1), none, none, true⟩, ⟨.fieldAddr 0 (.loc 2), none, none, true⟩, ⟨.load none (.loc 3), none, none, true⟩, ⟨.bin .eql .no (.loc 4) (.k (.int .i64 2)), none, (some 15), true⟩])
 (.cond (.var 15) (.ops [⟨.move (.var 16), none, none, true⟩, ⟨.bin .add .no (.loc 0) (.k (.int .i64 1)), none, none, true⟩, ⟨.move (.loc 1), none, (some 16), true⟩]) (.skip))))
 ((.seq (.ops [⟨.move (.var 1), none, none, true⟩, ⟨.move (.var 13), none, none, true⟩, ⟨.indexAddr 3 (.loc 0) (.loc 1), none, none, true⟩, ⟨.fieldAddr 0 (.loc 2), none, none, true⟩, ⟨.load none (.loc 3), none, none, true⟩, ⟨.bin .eql .no (.loc 4) (.k (.int .i64 1)), none, (some 17), true⟩])
 (.cond (.var 17) ((.seq (.ops [⟨.move (.var 16), none, none, true⟩, ⟨.bin .sub .no (.loc 0) (.k (.int .i64 1)), none, none, true⟩, ⟨.move (.loc 1), none, (some 16), true⟩])
 ((.seq (.ops [⟨.move (.k (.bool false)), none, (some 20), true⟩])
 ((.seq ((.seq (.ops [⟨.move (.var 13), none, none, true⟩, ⟨.move (.loc 0), none, (some 18), true⟩])
 (.block 6 (.loop ((.seq ((.seq (.ops [⟨.move (.var 18), none, none, true⟩, ⟨.move (.var 1), none, none, true⟩, ⟨.len (.loc 1), none, none, true⟩, ⟨.bin .lss .no (.loc 0) (.loc 2), none, (some 19), true⟩])
 (.cond (.var 19) (.skip) (.exit 6))))
 ((.seq (.block 7 (.ops [⟨.move (.var 20), none, none, true⟩, ⟨.move (.loc 0), none, none, true⟩, ⟨.move (.var 1), none, none, true⟩, ⟨.move (.var 18), none, none, true⟩, ⟨.indexAddr 3 (.loc 2) (.loc 3), (some (1, false)), none, true⟩, ⟨.fieldAddr 0 (.loc 4), (some (1, false)), none, true⟩, ⟨.load none (.loc 5), (some (1, false)), none, true⟩, ⟨.bin .eql .no (.loc 6) (.k (.int .i64 2)), (some (1, false)), none, true⟩, ⟨.move (.loc 7), (some (1, false)), none, true⟩, ⟨.move (.var 1), none, none, false⟩, ⟨.move (.var 18), none, none, false⟩, ⟨.indexAddr 3 (.loc 9) (.loc 10), (some (8, true)), none, false⟩, ⟨.fieldAddr 1 (.loc 11), (some (8, true)), none, false⟩, ⟨.load none (.loc 12), (some (8, true)), none, false⟩, ⟨.move (.var 1), none, none, false⟩, ⟨.move (.var 13), none, none, false⟩, ⟨.indexAddr 3 (.loc 14) (.loc 15), (some (8, true)), none, false⟩, ⟨.fieldAddr 1 (.loc 16), (some (8, true)), none, false⟩, ⟨.load none (.loc 17), (some (8, true)), none, false⟩, ⟨.bin .eql .no (.loc 13) (.loc 18), (some (8, true)), none, true⟩, ⟨.pick (.loc 8) (.loc 19) (.k (.bool false)), (some (1, false)), none, true⟩, ⟨.pick (.loc 1) (.k (.bool true)) (.loc 20), none, none, true⟩, ⟨.move (.loc 21), none, (some 20), true⟩]))
 (.ops [⟨.move (.var 18), none, none, true⟩, ⟨.bin .add .no (.loc 0) (.k (.int .i64 1)), none, none, true⟩, ⟨.move (.loc 1), none, (some 18), true⟩])))))))))
 ((.seq (.ops [⟨.move (.var 20), none, none, true⟩, ⟨.un .not (.loc 0), none, none, true⟩, ⟨.move (.loc 1), none, none, true⟩, ⟨.move (.var 9), none, none, true⟩, ⟨.move (.var 1), none, none, true⟩, ⟨.move (.var 13), none, none, true⟩, ⟨.indexAddr 3 (.loc 4) (.loc 5), (some (2, true)), none, true⟩, ⟨.fieldAddr 1 (.loc 6), (some (2, true)), none, true⟩, ⟨.load none (.loc 7), (some (2, true)), none, true⟩, ⟨.callS nFHas [(.loc 3), (.loc 8)], (some (2, true)), none, true⟩, ⟨.un .not (.loc 9), (some (2, true)), none, true⟩, ⟨.pick (.loc 2) (.loc 10) (.k (.bool false)), none, (some 21), true⟩])
 (.cond (.var 21) ((.seq (.ops [⟨.move (.k (.bool false)), none, (some 2), true⟩])
 (.ret))) (.skip)))))))))) (.skip)))))))
 (.ops [⟨.move (.var 13), none, none, true⟩, ⟨.bin .add .no (.loc 0) (.k (.int .i64 1)), none, none, true⟩, ⟨.move (.loc 1), none, (some 13), true⟩])))))))))
 ((.seq (.ops [⟨.move (.var 16), none, none, true⟩, ⟨.bin .eql .no (.loc 0) (.k (.int .i64 0)), none, none, true⟩, ⟨.move (.loc 1), none, (some 2), true⟩])
 (.ret))))))))))))))))))))), none⟩
theorem v_LMergequeueNothingIsLost {F : Nat → Option RFunc} {me nmergequeue_Run nLqueueExample nFHas : Nat} (hF : F me = some (rf_LMergequeueNothingIsLost nmergequeue_Run nLqueueExample nFHas)) {fl : Nat} {H : Heap} {Q : AV → Heap → Prop} (window0 : Int) (events1 : AV)
  (h : Ret F fl nmergequeue_Run [(.int .i64 window0), events1] H (fun v8 H7 => ∃ (r2 : AV) (r3 : AV) (r4 : AV) (r5 : Int) (r6 : Int), v8 = (.tuple [(.agg [r2, r3, r4]), (.agg [(.int .i64 r5), (.int .i64 r6)])]) ∧ ∀ (H9 : Heap), Dead1 H7 1 H9 → ∀ (H10 : Heap), Dead1 H9 1 H10 → Scal r2 ∧ Scal r3 ∧ Scal r4 ∧ Ret F fl nLqueueExample [] H10 (fun v16 H15 => ∃ (r14 : Bool), v16 = (.bool r14) ∧ ((¬(r14 = true)) → Q (.bool false) H15) ∧ (¬(¬(r14 = true)) → ((r5 ≠ 0) → Q (.bool true) H15) ∧ (¬(r5 ≠ 0) → ∃ (a17 : AV) (H18 : Heap), appA fl false 1 8 H15 .empty r3 = some (a17, H18) ∧ ∃ (a19 : AV) (H20 : Heap), appA fl true 1 8 H18 a17 r4 = some (a19, H20) ∧ ∃ (J21 : Nat → Int → AV → Heap → Prop) (k22 : Nat), J21 k22 0 a19 H20 ∧ (∀ (m23 : Nat) (i24 : Int) (all26 : AV) (H27 : Heap), J21 m23 i24 all26 H27 → ∃ len28 : Nat, lenA r2 = some len28 ∧ ((i24 < (len28 : Int)) → ∃ (e29 : Int), getA H27 6 none r2 i24 0 = some (.int .i64 e29) ∧ ∀ (b31 : Nat) (H32 : Heap), NewB H27 1 [(.int .i64 e29)] b31 H32 → ∃ (a33 : AV) (H34 : Heap), appA fl true 1 8 H32 all26 (.slice b31 0 1 (some 1)) = some (a33, H34) ∧ ∃ m35 : Nat, m35 < m23 ∧ J21 m35 (IntKind.wrap .i64 (i24 + 1)) a33 H34) ∧ (¬(i24 < (len28 : Int)) → ∃ (J36 : Nat → Int → Heap → Prop) (k37 : Nat), J36 k37 0 H27 ∧ (∀ (m38 : Nat) (i40 : Int) (H43 : Heap), J36 m38 i40 H43 → ∃ len44 : Nat, lenA all26 = some len44 ∧ ((i40 < (len44 : Int)) → ∃ s45 : AV, rslice H43 1 all26 none (some (.int .i64 i40)) none = some s45 ∧ ∃ (e46 : Int), getA H43 1 none all26 i40 0 = some (.int .i64 e46) ∧ Ret F fl nFHas [s45, (.int .i64 e46)] H43 (fun v50 H49 => ∃ (r48 : Bool), v50 = (.bool r48) ∧ ((r48 = true) → Q (.bool false) H49) ∧ (¬(r48 = true) → ∃ m51 : Nat, m51 < m38 ∧ J36 m51 (IntKind.wrap .i64 (i40 + 1)) H49))) ∧ (¬(i40 < (len44 : Int)) → ∃ len52 : Nat, lenA all26 = some len52 ∧ ∃ (J53 : Nat → Int → Int → Heap → Prop) (k54 : Nat), J53 k54 0 (len52 : Int) H43 ∧ (∀ (m55 : Nat) (i57 : Int) (balance60 : Int) (H66 : Heap), J53 m55 i57 balance60 H66 → ∃ len67 : Nat, lenA events1 = some len67 ∧ ((i57 < (len67 : Int)) → ∃ (R68 : Int → Prop), (∃ (e71 : Int), getA H66 3 none events1 i57 0 = some (.int .i64 e71) ∧ ((e71 = 2) → R68 (IntKind.wrap .i64 (balance60 + 1))) ∧ (¬(e71 = 2) → R68 balance60)) ∧ (∀ (balance70 : Int), R68 balance70 → ∃ (e73 : Int), getA H66 3 none events1 i57 0 = some (.int .i64 e73) ∧ ((e73 = 1) → ∃ (J75 : Nat → Int → Bool → Prop) (k76 : Nat), J75 k76 i57 false ∧ (∀ (m77 : Nat) (k78 : Int) (removed80 : Bool), J75 m77 k78 removed80 → ∃ len81 : Nat, lenA events1 = some len81 ∧ ((k78 < (len81 : Int)) → ((removed80 = true) → ∃ m90 : Nat, m90 < m77 ∧ J75 m90 (IntKind.wrap .i64 (k78 + 1)) true) ∧ (¬(removed80 = true) → ∃ (e82 : Int), getA H66 3 none events1 k78 0 = some (.int .i64 e82) ∧ ((e82 = 2) → ∃ (e84 : Int), getA H66 3 none events1 k78 1 = some (.int .i64 e84) ∧ ∃ (e86 : Int), getA H66 3 none events1 i57 1 = some (.int .i64 e86) ∧ ∃ m88 : Nat, m88 < m77 ∧ J75 m88 (IntKind.wrap .i64 (k78 + 1)) ((e84) == e86)) ∧ (¬(e82 = 2) → ∃ m89 : Nat, m89 < m77 ∧ J75 m89 (IntKind.wrap .i64 (k78 + 1)) false))) ∧ (¬(k78 < (len81 : Int)) → ((¬(removed80 = true)) → ∃ (e91 : Int), getA H66 3 none events1 i57 1 = some (.int .i64 e91) ∧ Ret F fl nFHas [all26, (.int .i64 e91)] H66 (fun v95 H94 => ∃ (r93 : Bool), v95 = (.bool r93) ∧ ((¬(r93 = true)) → Q (.bool false) H94) ∧ (¬(¬(r93 = true)) → ∃ m96 : Nat, m96 < m55 ∧ J53 m96 (IntKind.wrap .i64 (i57 + 1)) (IntKind.wrap .i64 (balance70 - 1)) H94))) ∧ (¬(¬(removed80 = true)) → ∃ m97 : Nat, m97 < m55 ∧ J53 m97 (IntKind.wrap .i64 (i57 + 1)) (IntKind.wrap .i64 (balance70 - 1)) H66)))) ∧ (¬(e73 = 1) → ∃ m98 : Nat, m98 < m55 ∧ J53 m98 (IntKind.wrap .i64 (i57 + 1)) balance70 H66))) ∧ (¬(i57 < (len67 : Int)) → Q (.bool ((balance60) == 0)) H66))))))))))) : Ret F fl me [(.int .i64 window0), events1] H Q := by
  refine ret_intro hF rfl ?_
  refine w_seq ?_
  refine w_run [0] ?_
  refine t_done [(.int .i64 window0), events1, (.bool false), .undef, .undef, .undef, .undef, .undef, .undef, .undef, .undef, .undef, .undef, .undef, .undef, .undef, .undef, .undef, .undef, .undef, .undef, .undef] H (by kernel_rfl) ?_
  refine then_norm ?_
  refine w_seq ?_
  refine w_run [0, 0, 1, 0, 0, 0, 1, 1, 1, 1] ?_
  refine t_call true nmergequeue_Run [(.int .i64 window0), events1] H (by kernel_rfl) h ?_
  clear h
  rintro _ H7 ⟨r2, r3, r4, r5, r6, rfl, h⟩
  obtain ⟨H9, hb⟩ : ∃ H', Dead1 H7 1 H' := ⟨_, ⟨rfl⟩⟩
  replace h := h H9 hb
  refine t_tomb true 1 (.agg [.empty, .empty, .empty]) [.empty, .empty, .empty] H9 H7 (by kernel_rfl) rfl hb ?_
  obtain ⟨H10, hb⟩ : ∃ H', Dead1 H9 1 H' := ⟨_, ⟨rfl⟩⟩
  replace h := h H10 hb
  refine t_tomb true 1 (.agg [(.int .i64 0), (.int .i64 0)]) [(.int .i64 0), (.int .i64 0)] H10 H9 (by kernel_rfl) rfl hb ?_
  obtain ⟨hs11, h⟩ := h
  obtain ⟨hs12, h⟩ := h
  obtain ⟨hs13, h⟩ := h
  refine t_upd true 3 0 [.empty, .empty, .empty] (.agg [r2, r3, r4]) [r2, r3, r4] [r2, r3, r4] H10 (by kernel_rfl) rfl (all_c hs11.2 (all_c hs12.2 (all_c hs13.2 all_n))) ⟨rfl, Nat.le_of_ble_eq_true (by kernel_rfl), rfl⟩ ?_
  refine t_upd true 2 0 [(.int .i64 0), (.int .i64 0)] (.agg [(.int .i64 r5), (.int .i64 r6)]) [(.int .i64 r5), (.int .i64 r6)] [(.int .i64 r5), (.int .i64 r6)] H10 (by kernel_rfl) rfl (all_c rfl (all_c rfl all_n)) ⟨rfl, Nat.le_of_ble_eq_true (by kernel_rfl), rfl⟩ ?_
  refine t_done [(.int .i64 window0), events1, (.bool false), .undef, (.agg [(.int .i64 r5), (.int .i64 r6)]), .undef, (.agg [r2, r3, r4]), .undef, .undef, .undef, .undef, .undef, .undef, .undef, .undef, .undef, .undef, .undef, .undef, .undef, .undef, .undef] H10 (by kernel_rfl) ?_
  refine then_norm ?_
  refine w_seq ?_
  refine w_seq ?_
  refine w_run [1, 0] ?_
  refine t_call true nLqueueExample [] H10 (by kernel_rfl) h ?_
  clear h
  rintro _ H15 ⟨r14, rfl, h⟩
  refine t_done [(.int .i64 window0), events1, (.bool false), (.bool (!r14)), (.agg [(.int .i64 r5), (.int .i64 r6)]), .undef, (.agg [r2, r3, r4]), .undef, .undef, .undef, .undef, .undef, .undef, .undef, .undef, .undef, .undef, .undef, .undef, .undef, .undef, .undef] H15 (by kernel_rfl) ?_
  refine then_norm ?_
  refine w_cond (t := (!r14)) rfl (fun hc => ?_) (fun hc => ?_)
  · replace h := h.1 ((is_not is_raw).t hc)
    refine w_seq ?_
    refine w_run [0] ?_
    refine t_done [(.int .i64 window0), events1, (.bool false), (.bool (!r14)), (.agg [(.int .i64 r5), (.int .i64 r6)]), .undef, (.agg [r2, r3, r4]), .undef, .undef, .undef, .undef, .undef, .undef, .undef, .undef, .undef, .undef, .undef, .undef, .undef, .undef, .undef] H15 (by kernel_rfl) ?_
    refine then_norm ?_
    refine w_ret ?_
    refine then_ret ?_
    exact body_ret (vs := [(.bool false)]) _ (by kernel_rfl) rfl h
  · replace h := h.2 ((is_not is_raw).f hc)
    refine w_skip ?_
    refine then_norm ?_
    refine w_seq ?_
    refine w_seq ?_
    refine w_run [0, 0, 0] ?_
    refine t_done [(.int .i64 window0), events1, (.bool false), (.bool (!r14)), (.agg [(.int .i64 r5), (.int .i64 r6)]), (.bool ((r5) != 0)), (.agg [r2, r3, r4]), .undef, .undef, .undef, .undef, .undef, .undef, .undef, .undef, .undef, .undef, .undef, .undef, .undef, .undef, .undef] H15 (by kernel_rfl) ?_
    refine then_norm ?_
    refine w_cond (t := ((r5) != 0)) rfl (fun hc => ?_) (fun hc => ?_)
    · replace h := h.1 (is_ne.t hc)
      refine w_seq ?_
      refine w_run [0] ?_
      refine t_done [(.int .i64 window0), events1, (.bool true), (.bool (!r14)), (.agg [(.int .i64 r5), (.int .i64 r6)]), (.bool ((r5) != 0)), (.agg [r2, r3, r4]), .undef, .undef, .undef, .undef, .undef, .undef, .undef, .undef, .undef, .undef, .undef, .undef, .undef, .undef, .undef] H15 (by kernel_rfl) ?_
      refine then_norm ?_
      refine w_ret ?_
      refine then_ret ?_
      exact body_ret (vs := [(.bool true)]) _ (by kernel_rfl) rfl h
    · replace h := h.2 (is_ne.f hc)
      refine w_skip ?_
      refine then_norm ?_
      refine w_seq ?_
      refine w_run [0, 0, 1, 0, 0, 1, 0] ?_
      obtain ⟨a17, H18, ha, h⟩ := h
      refine t_app false 1 8 .empty r3 a17 H18 H15 (by kernel_rfl) ha ?_
      obtain ⟨a19, H20, ha, h⟩ := h
      refine t_app true 1 8 a17 r4 a19 H20 H18 (by kernel_rfl) ha ?_
      refine t_done [(.int .i64 window0), events1, (.bool false), (.bool (!r14)), (.agg [(.int .i64 r5), (.int .i64 r6)]), (.bool ((r5) != 0)), (.agg [r2, r3, r4]), .undef, .undef, a19, .undef, .undef, .undef, .undef, .undef, .undef, .undef, .undef, .undef, .undef, .undef, .undef] H20 (by kernel_rfl) ?_
      refine then_norm ?_
      refine w_seq ?_
      refine w_seq ?_
      refine w_run [0] ?_
      refine t_done [(.int .i64 window0), events1, (.bool false), (.bool (!r14)), (.agg [(.int .i64 r5), (.int .i64 r6)]), (.bool ((r5) != 0)), (.agg [r2, r3, r4]), (.int .i64 0), .undef, a19, .undef, .undef, .undef, .undef, .undef, .undef, .undef, .undef, .undef, .undef, .undef, .undef] H20 (by kernel_rfl) ?_
      refine then_norm ?_
      refine w_block ?_
      obtain ⟨J21, k22, h0, h⟩ := h
      refine w_loop (I := fun mI EI HI => ∃ (i24 : Int) (d25 : AV) (all26 : AV), EI = [(.int .i64 window0), events1, (.bool false), (.bool (!r14)), (.agg [(.int .i64 r5), (.int .i64 r6)]), (.bool ((r5) != 0)), (.agg [r2, r3, r4]), (.int .i64 i24), d25, all26, .undef, .undef, .undef, .undef, .undef, .undef, .undef, .undef, .undef, .undef, .undef, .undef] ∧ J21 mI i24 all26 HI) ?_ k22 ⟨_, _, _, rfl, h0⟩
      clear h0
      rintro m23 EI H27 ⟨i24, d25, all26, rfl, hJ⟩
      replace h := h m23 i24 all26 H27 hJ
      clear hJ
      refine w_seq ?_
      refine w_seq ?_
      refine w_run [0, 0, 0, 1, 0] ?_
      obtain ⟨len28, hl, h⟩ := h
      refine t_len true r2 len28 H27 (by kernel_rfl) hl ?_
      refine t_done [(.int .i64 window0), events1, (.bool false), (.bool (!r14)), (.agg [(.int .i64 r5), (.int .i64 r6)]), (.bool ((r5) != 0)), (.agg [r2, r3, r4]), (.int .i64 i24), (.bool (decide (i24 < (len28 : Int)))), all26, .undef, .undef, .undef, .undef, .undef, .undef, .undef, .undef, .undef, .undef, .undef, .undef] H27 (by kernel_rfl) ?_
      refine then_norm ?_
      refine w_cond (t := (decide (i24 < (len28 : Int)))) rfl (fun hc => ?_) (fun hc => ?_)
      · replace h := h.1 (is_dec.t hc)
        refine w_skip ?_
        refine then_norm ?_
        refine w_seq ?_
        refine w_block ?_
        refine w_run [0, 0, 0, 0, 1, 1, 1, 1, 1, 0] ?_
        obtain ⟨e29, hg30, h⟩ := h
        refine t_idxG true 6 r2 .i64 i24 H27 (by kernel_rfl) hg30 ?_
        refine t_fldG true 0 6 r2 i24 0 H27 (by kernel_rfl) hg30 ?_
        refine t_loadG true none 6 r2 i24 0 (.int .i64 e29) H27 (by kernel_rfl) hg30 ?_
        obtain ⟨b31, H32, hb⟩ : ∃ b H', NewB H27 1 [(.int .i64 e29)] b H' := ⟨_, _, rfl, rfl⟩
        replace h := h b31 H32 hb
        refine t_bs true 1 [(.int .i64 0)] [(0, 1, .loc 0)] 1 [(.int .i64 e29)] [(.int .i64 e29)] b31 H32 H27 (by kernel_rfl) (fill_c (vs := [(.int .i64 e29)]) (size := 1) rfl (by kernel_rfl) (by kernel_rfl) (by kernel_rfl)) hb ?_
        obtain ⟨a33, H34, ha, h⟩ := h
        refine t_app true 1 8 all26 (.slice b31 0 1 (some 1)) a33 H34 H32 (by kernel_rfl) ha ?_
        refine t_done [(.int .i64 window0), events1, (.bool false), (.bool (!r14)), (.agg [(.int .i64 r5), (.int .i64 r6)]), (.bool ((r5) != 0)), (.agg [r2, r3, r4]), (.int .i64 i24), (.bool (decide (i24 < (len28 : Int)))), a33, .undef, .undef, .undef, .undef, .undef, .undef, .undef, .undef, .undef, .undef, .undef, .undef] H34 (by kernel_rfl) ?_
        refine block_norm ?_
        refine then_norm ?_
        refine w_run [0, 0, 0] ?_
        refine t_done [(.int .i64 window0), events1, (.bool false), (.bool (!r14)), (.agg [(.int .i64 r5), (.int .i64 r6)]), (.bool ((r5) != 0)), (.agg [r2, r3, r4]), (.int .i64 (IntKind.wrap .i64 (i24 + 1))), (.bool (decide (i24 < (len28 : Int)))), a33, .undef, .undef, .undef, .undef, .undef, .undef, .undef, .undef, .undef, .undef, .undef, .undef] H34 (by kernel_rfl) ?_
        obtain ⟨m', hm, h⟩ := h
        refine loop_norm ⟨m', hm, _, _, _, rfl, h⟩
      · replace h := h.2 (is_dec.f hc)
        refine w_exit ?_
        refine then_exit ?_
        refine loop_exit ?_
        refine block_exit ?_
        refine then_norm ?_
        refine w_seq ?_
        refine w_seq ?_
        refine w_run [0] ?_
        refine t_done [(.int .i64 window0), events1, (.bool false), (.bool (!r14)), (.agg [(.int .i64 r5), (.int .i64 r6)]), (.bool ((r5) != 0)), (.agg [r2, r3, r4]), (.int .i64 i24), (.bool (decide (i24 < (len28 : Int)))), all26, (.int .i64 0), .undef, .undef, .undef, .undef, .undef, .undef, .undef, .undef, .undef, .undef, .undef] H27 (by kernel_rfl) ?_
        refine then_norm ?_
        refine w_block ?_
        obtain ⟨J36, k37, h0, h⟩ := h
        refine w_loop (I := fun mI EI HI => ∃ (d39 : AV) (i40 : Int) (d41 : AV) (d42 : AV), EI = [(.int .i64 window0), events1, d39, (.bool (!r14)), (.agg [(.int .i64 r5), (.int .i64 r6)]), (.bool ((r5) != 0)), (.agg [r2, r3, r4]), (.int .i64 i24), (.bool (decide (i24 < (len28 : Int)))), all26, (.int .i64 i40), d41, d42, .undef, .undef, .undef, .undef, .undef, .undef, .undef, .undef, .undef] ∧ J36 mI i40 HI) ?_ k37 ⟨_, _, _, _, rfl, h0⟩
        clear h0
        rintro m38 EI H43 ⟨d39, i40, d41, d42, rfl, hJ⟩
        replace h := h m38 i40 H43 hJ
        clear hJ
        refine w_seq ?_
        refine w_seq ?_
        refine w_run [0, 0, 1, 0] ?_
        obtain ⟨len44, hl, h⟩ := h
        refine t_len true all26 len44 H43 (by kernel_rfl) hl ?_
        refine t_done [(.int .i64 window0), events1, d39, (.bool (!r14)), (.agg [(.int .i64 r5), (.int .i64 r6)]), (.bool ((r5) != 0)), (.agg [r2, r3, r4]), (.int .i64 i24), (.bool (decide (i24 < (len28 : Int)))), all26, (.int .i64 i40), (.bool (decide (i40 < (len44 : Int)))), d42, .undef, .undef, .undef, .undef, .undef, .undef, .undef, .undef, .undef] H43 (by kernel_rfl) ?_
        refine then_norm ?_
        refine w_cond (t := (decide (i40 < (len44 : Int)))) rfl (fun hc => ?_) (fun hc => ?_)
        · replace h := h.1 (is_dec.t hc)
          refine w_skip ?_
          refine then_norm ?_
          refine w_seq ?_
          refine w_block ?_
          refine w_seq ?_
          refine w_run [0, 0, 1, 0, 0, 1, 1, 1] ?_
          obtain ⟨s45, hs, h⟩ := h
          refine t_slcH false 1 all26 (.int .i64 i40) s45 H43 (by kernel_rfl) hs ?_
          obtain ⟨e46, hg47, h⟩ := h
          refine t_idxG true 1 all26 .i64 i40 H43 (by kernel_rfl) hg47 ?_
          refine t_loadG true none 1 all26 i40 0 (.int .i64 e46) H43 (by kernel_rfl) hg47 ?_
          refine t_call true nFHas [s45, (.int .i64 e46)] H43 (by kernel_rfl) h ?_
          clear h
          rintro _ H49 ⟨r48, rfl, h⟩
          refine t_done [(.int .i64 window0), events1, d39, (.bool (!r14)), (.agg [(.int .i64 r5), (.int .i64 r6)]), (.bool ((r5) != 0)), (.agg [r2, r3, r4]), (.int .i64 i24), (.bool (decide (i24 < (len28 : Int)))), all26, (.int .i64 i40), (.bool (decide (i40 < (len44 : Int)))), (.bool r48), .undef, .undef, .undef, .undef, .undef, .undef, .undef, .undef, .undef] H49 (by kernel_rfl) ?_
          refine then_norm ?_
          refine w_cond (t := r48) rfl (fun hc => ?_) (fun hc => ?_)
          · replace h := h.1 (is_raw.t hc)
            refine w_seq ?_
            refine w_run [0] ?_
            refine t_done [(.int .i64 window0), events1, (.bool false), (.bool (!r14)), (.agg [(.int .i64 r5), (.int .i64 r6)]), (.bool ((r5) != 0)), (.agg [r2, r3, r4]), (.int .i64 i24), (.bool (decide (i24 < (len28 : Int)))), all26, (.int .i64 i40), (.bool (decide (i40 < (len44 : Int)))), (.bool r48), .undef, .undef, .undef, .undef, .undef, .undef, .undef, .undef, .undef] H49 (by kernel_rfl) ?_
            refine then_norm ?_
            refine w_ret ?_
            refine block_ret ?_
            refine then_ret ?_
            refine loop_ret ?_
            refine block_ret ?_
            refine then_ret ?_
            exact body_ret (vs := [(.bool false)]) _ (by kernel_rfl) rfl h
          · replace h := h.2 (is_raw.f hc)
            refine w_skip ?_
            refine block_norm ?_
            refine then_norm ?_
            refine w_run [0, 0, 0] ?_
            refine t_done [(.int .i64 window0), events1, d39, (.bool (!r14)), (.agg [(.int .i64 r5), (.int .i64 r6)]), (.bool ((r5) != 0)), (.agg [r2, r3, r4]), (.int .i64 i24), (.bool (decide (i24 < (len28 : Int)))), all26, (.int .i64 (IntKind.wrap .i64 (i40 + 1))), (.bool (decide (i40 < (len44 : Int)))), (.bool r48), .undef, .undef, .undef, .undef, .undef, .undef, .undef, .undef, .undef] H49 (by kernel_rfl) ?_
            obtain ⟨m', hm, h⟩ := h
            refine loop_norm ⟨m', hm, _, _, _, _, rfl, h⟩
        · replace h := h.2 (is_dec.f hc)
          refine w_exit ?_
          refine then_exit ?_
          refine loop_exit ?_
          refine block_exit ?_
          refine then_norm ?_
          refine w_seq ?_
          refine w_run [0, 1, 0] ?_
          obtain ⟨len52, hl, h⟩ := h
          refine t_len true all26 len52 H43 (by kernel_rfl) hl ?_
          refine t_done [(.int .i64 window0), events1, d39, (.bool (!r14)), (.agg [(.int .i64 r5), (.int .i64 r6)]), (.bool ((r5) != 0)), (.agg [r2, r3, r4]), (.int .i64 i24), (.bool (decide (i24 < (len28 : Int)))), all26, (.int .i64 i40), (.bool (decide (i40 < (len44 : Int)))), d42, .undef, .undef, .undef, (.int .i64 (len52 : Int)), .undef, .undef, .undef, .undef, .undef] H43 (by kernel_rfl) ?_
          refine then_norm ?_
          refine w_seq ?_
          refine w_seq ?_
          refine w_run [0] ?_
          refine t_done [(.int .i64 window0), events1, d39, (.bool (!r14)), (.agg [(.int .i64 r5), (.int .i64 r6)]), (.bool ((r5) != 0)), (.agg [r2, r3, r4]), (.int .i64 i24), (.bool (decide (i24 < (len28 : Int)))), all26, (.int .i64 i40), (.bool (decide (i40 < (len44 : Int)))), d42, (.int .i64 0), .undef, .undef, (.int .i64 (len52 : Int)), .undef, .undef, .undef, .undef, .undef] H43 (by kernel_rfl) ?_
          refine then_norm ?_
          refine w_block ?_
          obtain ⟨J53, k54, h0, h⟩ := h
          refine w_loop (I := fun mI EI HI => ∃ (d56 : AV) (i57 : Int) (d58 : AV) (d59 : AV) (balance60 : Int) (d61 : AV) (d62 : AV) (d63 : AV) (d64 : AV) (d65 : AV), EI = [(.int .i64 window0), events1, d56, (.bool (!r14)), (.agg [(.int .i64 r5), (.int .i64 r6)]), (.bool ((r5) != 0)), (.agg [r2, r3, r4]), (.int .i64 i24), (.bool (decide (i24 < (len28 : Int)))), all26, (.int .i64 i40), (.bool (decide (i40 < (len44 : Int)))), d42, (.int .i64 i57), d58, d59, (.int .i64 balance60), d61, d62, d63, d64, d65] ∧ J53 mI i57 balance60 HI) ?_ k54 ⟨_, _, _, _, _, _, _, _, _, _, rfl, h0⟩
          clear h0
          rintro m55 EI H66 ⟨d56, i57, d58, d59, balance60, d61, d62, d63, d64, d65, rfl, hJ⟩
          replace h := h m55 i57 balance60 H66 hJ
          clear hJ
          refine w_seq ?_
          refine w_seq ?_
          refine w_run [0, 0, 1, 0] ?_
          obtain ⟨len67, hl, h⟩ := h
          refine t_len true events1 len67 H66 (by kernel_rfl) hl ?_
          refine t_done [(.int .i64 window0), events1, d56, (.bool (!r14)), (.agg [(.int .i64 r5), (.int .i64 r6)]), (.bool ((r5) != 0)), (.agg [r2, r3, r4]), (.int .i64 i24), (.bool (decide (i24 < (len28 : Int)))), all26, (.int .i64 i40), (.bool (decide (i40 < (len44 : Int)))), d42, (.int .i64 i57), (.bool (decide (i57 < (len67 : Int)))), d59, (.int .i64 balance60), d61, d62, d63, d64, d65] H66 (by kernel_rfl) ?_
          refine then_norm ?_
          refine w_cond (t := (decide (i57 < (len67 : Int)))) rfl (fun hc => ?_) (fun hc => ?_)
          · replace h := h.1 (is_dec.t hc)
            refine w_skip ?_
            refine then_norm ?_
            refine w_seq ?_
            refine w_block ?_
            refine w_seq ?_
            obtain ⟨R68, h, hK⟩ := h
            refine w_join (fun EI HI => ∃ (d69 : AV) (balance70 : Int), EI = [(.int .i64 window0), events1, d56, (.bool (!r14)), (.agg [(.int .i64 r5), (.int .i64 r6)]), (.bool ((r5) != 0)), (.agg [r2, r3, r4]), (.int .i64 i24), (.bool (decide (i24 < (len28 : Int)))), all26, (.int .i64 i40), (.bool (decide (i40 < (len44 : Int)))), d42, (.int .i64 i57), (.bool (decide (i57 < (len67 : Int)))), d69, (.int .i64 balance70), d61, d62, d63, d64, d65] ∧ H66 = HI ∧ R68 balance70) ?_ ?_
            · clear hK
              refine w_seq ?_
              refine w_run [0, 0, 1, 1, 1, 0] ?_
              obtain ⟨e71, hg72, h⟩ := h
              refine t_idxG true 3 events1 .i64 i57 H66 (by kernel_rfl) hg72 ?_
              refine t_fldG true 0 3 events1 i57 0 H66 (by kernel_rfl) hg72 ?_
              refine t_loadG true none 3 events1 i57 0 (.int .i64 e71) H66 (by kernel_rfl) hg72 ?_
              refine t_done [(.int .i64 window0), events1, d56, (.bool (!r14)), (.agg [(.int .i64 r5), (.int .i64 r6)]), (.bool ((r5) != 0)), (.agg [r2, r3, r4]), (.int .i64 i24), (.bool (decide (i24 < (len28 : Int)))), all26, (.int .i64 i40), (.bool (decide (i40 < (len44 : Int)))), d42, (.int .i64 i57), (.bool (decide (i57 < (len67 : Int)))), (.bool ((e71) == 2)), (.int .i64 balance60), d61, d62, d63, d64, d65] H66 (by kernel_rfl) ?_
              refine then_norm ?_
              refine w_cond (t := ((e71) == 2)) rfl (fun hc => ?_) (fun hc => ?_)
              · replace h := h.1 (is_eq.t hc)
                refine w_run [0, 0, 0] ?_
                refine t_done [(.int .i64 window0), events1, d56, (.bool (!r14)), (.agg [(.int .i64 r5), (.int .i64 r6)]), (.bool ((r5) != 0)), (.agg [r2, r3, r4]), (.int .i64 i24), (.bool (decide (i24 < (len28 : Int)))), all26, (.int .i64 i40), (.bool (decide (i40 < (len44 : Int)))), d42, (.int .i64 i57), (.bool (decide (i57 < (len67 : Int)))), (.bool ((e71) == 2)), (.int .i64 (IntKind.wrap .i64 (balance60 + 1))), d61, d62, d63, d64, d65] H66 (by kernel_rfl) ?_
                refine join_norm ⟨_, _, rfl, rfl, h⟩
              · replace h := h.2 (is_eq.f hc)
                refine w_skip ?_
                refine join_norm ⟨_, _, rfl, rfl, h⟩
            · clear h
              rintro EI HI ⟨d69, balance70, rfl, rfl, hJ⟩
              have h := hK balance70 hJ
              clear hJ hK
              refine then_norm ?_
              refine w_seq ?_
              refine w_run [0, 0, 1, 1, 1, 0] ?_
              obtain ⟨e73, hg74, h⟩ := h
              refine t_idxG true 3 events1 .i64 i57 H66 (by kernel_rfl) hg74 ?_
              refine t_fldG true 0 3 events1 i57 0 H66 (by kernel_rfl) hg74 ?_
              refine t_loadG true none 3 events1 i57 0 (.int .i64 e73) H66 (by kernel_rfl) hg74 ?_
              refine t_done [(.int .i64 window0), events1, d56, (.bool (!r14)), (.agg [(.int .i64 r5), (.int .i64 r6)]), (.bool ((r5) != 0)), (.agg [r2, r3, r4]), (.int .i64 i24), (.bool (decide (i24 < (len28 : Int)))), all26, (.int .i64 i40), (.bool (decide (i40 < (len44 : Int)))), d42, (.int .i64 i57), (.bool (decide (i57 < (len67 : Int)))), d69, (.int .i64 balance70), (.bool ((e73) == 1)), d62, d63, d64, d65] H66 (by kernel_rfl) ?_
              refine then_norm ?_
              refine w_cond (t := ((e73) == 1)) rfl (fun hc => ?_) (fun hc => ?_)
              · replace h := h.1 (is_eq.t hc)
                refine w_seq ?_
                refine w_run [0, 0, 0] ?_
                refine t_done [(.int .i64 window0), events1, d56, (.bool (!r14)), (.agg [(.int .i64 r5), (.int .i64 r6)]), (.bool ((r5) != 0)), (.agg [r2, r3, r4]), (.int .i64 i24), (.bool (decide (i24 < (len28 : Int)))), all26, (.int .i64 i40), (.bool (decide (i40 < (len44 : Int)))), d42, (.int .i64 i57), (.bool (decide (i57 < (len67 : Int)))), d69, (.int .i64 (IntKind.wrap .i64 (balance70 - 1))), (.bool ((e73) == 1)), d62, d63, d64, d65] H66 (by kernel_rfl) ?_
                refine then_norm ?_
                refine w_seq ?_
                refine w_run [0] ?_
                refine t_done [(.int .i64 window0), events1, d56, (.bool (!r14)), (.agg [(.int .i64 r5), (.int .i64 r6)]), (.bool ((r5) != 0)), (.agg [r2, r3, r4]), (.int .i64 i24), (.bool (decide (i24 < (len28 : Int)))), all26, (.int .i64 i40), (.bool (decide (i40 < (len44 : Int)))), d42, (.int .i64 i57), (.bool (decide (i57 < (len67 : Int)))), d69, (.int .i64 (IntKind.wrap .i64 (balance70 - 1))), (.bool ((e73) == 1)), d62, d63, (.bool false), d65] H66 (by kernel_rfl) ?_
                refine then_norm ?_
                refine w_seq ?_
                refine w_seq ?_
                refine w_run [0, 0] ?_
                refine t_done [(.int .i64 window0), events1, d56, (.bool (!r14)), (.agg [(.int .i64 r5), (.int .i64 r6)]), (.bool ((r5) != 0)), (.agg [r2, r3, r4]), (.int .i64 i24), (.bool (decide (i24 < (len28 : Int)))), all26, (.int .i64 i40), (.bool (decide (i40 < (len44 : Int)))), d42, (.int .i64 i57), (.bool (decide (i57 < (len67 : Int)))), d69, (.int .i64 (IntKind.wrap .i64 (balance70 - 1))), (.bool ((e73) == 1)), (.int .i64 i57), d63, (.bool false), d65] H66 (by kernel_rfl) ?_
                refine then_norm ?_
                refine w_block ?_
                obtain ⟨J75, k76, h0, h⟩ := h
                refine w_loop (I := fun mI EI HI => ∃ (k78 : Int) (d79 : AV) (removed80 : Bool), EI = [(.int .i64 window0), events1, d56, (.bool (!r14)), (.agg [(.int .i64 r5), (.int .i64 r6)]), (.bool ((r5) != 0)), (.agg [r2, r3, r4]), (.int .i64 i24), (.bool (decide (i24 < (len28 : Int)))), all26, (.int .i64 i40), (.bool (decide (i40 < (len44 : Int)))), d42, (.int .i64 i57), (.bool (decide (i57 < (len67 : Int)))), d69, (.int .i64 (IntKind.wrap .i64 (balance70 - 1))), (.bool ((e73) == 1)), (.int .i64 k78), d79, (.bool removed80), d65] ∧ H66 = HI ∧ J75 mI k78 removed80) ?_ k76 ⟨_, _, _, rfl, rfl, h0⟩
                clear h0
                rintro m77 EI HI ⟨k78, d79, removed80, rfl, rfl, hJ⟩
                replace h := h m77 k78 removed80  hJ
                clear hJ
                refine w_seq ?_
                refine w_seq ?_
                refine w_run [0, 0, 1, 0] ?_
                obtain ⟨len81, hl, h⟩ := h
                refine t_len true events1 len81 H66 (by kernel_rfl) hl ?_
                refine t_done [(.int .i64 window0), events1, d56, (.bool (!r14)), (.agg [(.int .i64 r5), (.int .i64 r6)]), (.bool ((r5) != 0)), (.agg [r2, r3, r4]), (.int .i64 i24), (.bool (decide (i24 < (len28 : Int)))), all26, (.int .i64 i40), (.bool (decide (i40 < (len44 : Int)))), d42, (.int .i64 i57), (.bool (decide (i57 < (len67 : Int)))), d69, (.int .i64 (IntKind.wrap .i64 (balance70 - 1))), (.bool ((e73) == 1)), (.int .i64 k78), (.bool (decide (k78 < (len81 : Int)))), (.bool removed80), d65] H66 (by kernel_rfl) ?_
                refine then_norm ?_
                refine w_cond (t := (decide (k78 < (len81 : Int)))) rfl (fun hc => ?_) (fun hc => ?_)
                · replace h := h.1 (is_dec.t hc)
                  refine w_skip ?_
                  refine then_norm ?_
                  refine w_seq ?_
                  refine w_block ?_
                  refine w_run [0, 0, 0, 0, 3, 3, 3, 2, 2, 0, 0, 3, 3, 3, 0, 0, 3, 3, 3, 2, 2, 0, 0] ?_
                  refine t_gd removed80 false (by kernel_rfl) (fun hc => ?_) (fun hc => ?_)
                  · replace h := h.2 (is_raw.f hc)
                    obtain ⟨e82, hg83, h⟩ := h
                    refine t_idxG true 3 events1 .i64 k78 H66 (by kernel_rfl) hg83 ?_
                    refine t_gd false false (by kernel_rfl) (fun _ => ?_) (fun hn => by cases hn)
                    refine t_fldG true 0 3 events1 k78 0 H66 (by kernel_rfl) hg83 ?_
                    refine t_gd false false (by kernel_rfl) (fun _ => ?_) (fun hn => by cases hn)
                    refine t_loadG true none 3 events1 k78 0 (.int .i64 e82) H66 (by kernel_rfl) hg83 ?_
                    refine t_gd false false (by kernel_rfl) (fun _ => ?_) (fun hn => by cases hn)
                    refine t_gd false false (by kernel_rfl) (fun _ => ?_) (fun hn => by cases hn)
                    refine t_gd ((e82) == 2) true (by kernel_rfl) (fun hc => ?_) (fun hc => ?_)
                    · replace h := h.1 (is_eq.t hc)
                      obtain ⟨e84, hg85, h⟩ := h
                      refine t_idxG false 3 events1 .i64 k78 H66 (by kernel_rfl) hg85 ?_
                      refine t_gd true true (by kernel_rfl) (fun _ => ?_) (fun hn => by cases hn)
                      refine t_fldG false 1 3 events1 k78 0 H66 (by kernel_rfl) hg85 ?_
                      refine t_gd true true (by kernel_rfl) (fun _ => ?_) (fun hn => by cases hn)
                      refine t_loadG false none 3 events1 k78 1 (.int .i64 e84) H66 (by kernel_rfl) hg85 ?_
                      refine t_gd true true (by kernel_rfl) (fun _ => ?_) (fun hn => by cases hn)
                      obtain ⟨e86, hg87, h⟩ := h
                      refine t_idxG false 3 events1 .i64 i57 H66 (by kernel_rfl) hg87 ?_
                      refine t_gd true true (by kernel_rfl) (fun _ => ?_) (fun hn => by cases hn)
                      refine t_fldG false 1 3 events1 i57 0 H66 (by kernel_rfl) hg87 ?_
                      refine t_gd true true (by kernel_rfl) (fun _ => ?_) (fun hn => by cases hn)
                      refine t_loadG false none 3 events1 i57 1 (.int .i64 e86) H66 (by kernel_rfl) hg87 ?_
                      refine t_gd true true (by kernel_rfl) (fun _ => ?_) (fun hn => by cases hn)
                      refine t_gd false false (by kernel_rfl) (fun _ => ?_) (fun hn => by cases hn)
                      refine t_done [(.int .i64 window0), events1, d56, (.bool (!r14)), (.agg [(.int .i64 r5), (.int .i64 r6)]), (.bool ((r5) != 0)), (.agg [r2, r3, r4]), (.int .i64 i24), (.bool (decide (i24 < (len28 : Int)))), all26, (.int .i64 i40), (.bool (decide (i40 < (len44 : Int)))), d42, (.int .i64 i57), (.bool (decide (i57 < (len67 : Int)))), d69, (.int .i64 (IntKind.wrap .i64 (balance70 - 1))), (.bool ((e73) == 1)), (.int .i64 k78), (.bool (decide (k78 < (len81 : Int)))), (.bool ((e84) == e86)), d65] H66 (by kernel_rfl) ?_
                      refine block_norm ?_
                      refine then_norm ?_
                      refine w_run [0, 0, 0] ?_
                      refine t_done [(.int .i64 window0), events1, d56, (.bool (!r14)), (.agg [(.int .i64 r5), (.int .i64 r6)]), (.bool ((r5) != 0)), (.agg [r2, r3, r4]), (.int .i64 i24), (.bool (decide (i24 < (len28 : Int)))), all26, (.int .i64 i40), (.bool (decide (i40 < (len44 : Int)))), d42, (.int .i64 i57), (.bool (decide (i57 < (len67 : Int)))), d69, (.int .i64 (IntKind.wrap .i64 (balance70 - 1))), (.bool ((e73) == 1)), (.int .i64 (IntKind.wrap .i64 (k78 + 1))), (.bool (decide (k78 < (len81 : Int)))), (.bool ((e84) == e86)), d65] H66 (by kernel_rfl) ?_
                      obtain ⟨m', hm, h⟩ := h
                      refine loop_norm ⟨m', hm, _, _, _, rfl, rfl, h⟩
                    · replace h := h.2 (is_eq.f hc)
                      refine t_gd false true (by kernel_rfl) (fun hn => by cases hn) (fun _ => ?_)
                      refine t_gd false true (by kernel_rfl) (fun hn => by cases hn) (fun _ => ?_)
                      refine t_gd false true (by kernel_rfl) (fun hn => by cases hn) (fun _ => ?_)
                      refine t_gd false true (by kernel_rfl) (fun hn => by cases hn) (fun _ => ?_)
                      refine t_gd false true (by kernel_rfl) (fun hn => by cases hn) (fun _ => ?_)
                      refine t_gd false true (by kernel_rfl) (fun hn => by cases hn) (fun _ => ?_)
                      refine t_gd false false (by kernel_rfl) (fun _ => ?_) (fun hn => by cases hn)
                      refine t_done [(.int .i64 window0), events1, d56, (.bool (!r14)), (.agg [(.int .i64 r5), (.int .i64 r6)]), (.bool ((r5) != 0)), (.agg [r2, r3, r4]), (.int .i64 i24), (.bool (decide (i24 < (len28 : Int)))), all26, (.int .i64 i40), (.bool (decide (i40 < (len44 : Int)))), d42, (.int .i64 i57), (.bool (decide (i57 < (len67 : Int)))), d69, (.int .i64 (IntKind.wrap .i64 (balance70 - 1))), (.bool ((e73) == 1)), (.int .i64 k78), (.bool (decide (k78 < (len81 : Int)))), (.bool false), d65] H66 (by kernel_rfl) ?_
                      refine block_norm ?_
                      refine then_norm ?_
                      refine w_run [0, 0, 0] ?_
                      refine t_done [(.int .i64 window0), events1, d56, (.bool (!r14)), (.agg [(.int .i64 r5), (.int .i64 r6)]), (.bool ((r5) != 0)), (.agg [r2, r3, r4]), (.int .i64 i24), (.bool (decide (i24 < (len28 : Int)))), all26, (.int .i64 i40), (.bool (decide (i40 < (len44 : Int)))), d42, (.int .i64 i57), (.bool (decide (i57 < (len67 : Int)))), d69, (.int .i64 (IntKind.wrap .i64 (balance70 - 1))), (.bool ((e73) == 1)), (.int .i64 (IntKind.wrap .i64 (k78 + 1))), (.bool (decide (k78 < (len81 : Int)))), (.bool false), d65] H66 (by kernel_rfl) ?_
                      obtain ⟨m', hm, h⟩ := h
                      refine loop_norm ⟨m', hm, _, _, _, rfl, rfl, h⟩
                  · replace h := h.1 (is_raw.t hc)
                    refine t_gd true false (by kernel_rfl) (fun hn => by cases hn) (fun _ => ?_)
                    refine t_gd true false (by kernel_rfl) (fun hn => by cases hn) (fun _ => ?_)
                    refine t_gd true false (by kernel_rfl) (fun hn => by cases hn) (fun _ => ?_)
                    refine t_gd true false (by kernel_rfl) (fun hn => by cases hn) (fun _ => ?_)
                    refine t_gdU true (by kernel_rfl) ?_
                    refine t_gdU true (by kernel_rfl) ?_
                    refine t_gdU true (by kernel_rfl) ?_
                    refine t_gdU true (by kernel_rfl) ?_
                    refine t_gdU true (by kernel_rfl) ?_
                    refine t_gdU true (by kernel_rfl) ?_
                    refine t_gdU true (by kernel_rfl) ?_
                    refine t_gd true false (by kernel_rfl) (fun hn => by cases hn) (fun _ => ?_)
                    refine t_done [(.int .i64 window0), events1, d56, (.bool (!r14)), (.agg [(.int .i64 r5), (.int .i64 r6)]), (.bool ((r5) != 0)), (.agg [r2, r3, r4]), (.int .i64 i24), (.bool (decide (i24 < (len28 : Int)))), all26, (.int .i64 i40), (.bool (decide (i40 < (len44 : Int)))), d42, (.int .i64 i57), (.bool (decide (i57 < (len67 : Int)))), d69, (.int .i64 (IntKind.wrap .i64 (balance70 - 1))), (.bool ((e73) == 1)), (.int .i64 k78), (.bool (decide (k78 < (len81 : Int)))), (.bool true), d65] H66 (by kernel_rfl) ?_
                    refine block_norm ?_
                    refine then_norm ?_
                    refine w_run [0, 0, 0] ?_
                    refine t_done [(.int .i64 window0), events1, d56, (.bool (!r14)), (.agg [(.int .i64 r5), (.int .i64 r6)]), (.bool ((r5) != 0)), (.agg [r2, r3, r4]), (.int .i64 i24), (.bool (decide (i24 < (len28 : Int)))), all26, (.int .i64 i40), (.bool (decide (i40 < (len44 : Int)))), d42, (.int .i64 i57), (.bool (decide (i57 < (len67 : Int)))), d69, (.int .i64 (IntKind.wrap .i64 (balance70 - 1))), (.bool ((e73) == 1)), (.int .i64 (IntKind.wrap .i64 (k78 + 1))), (.bool (decide (k78 < (len81 : Int)))), (.bool true), d65] H66 (by kernel_rfl) ?_
                    obtain ⟨m', hm, h⟩ := h
                    refine loop_norm ⟨m', hm, _, _, _, rfl, rfl, h⟩
                · replace h := h.2 (is_dec.f hc)
                  refine w_exit ?_
                  refine then_exit ?_
                  refine loop_exit ?_
                  refine block_exit ?_
                  refine then_norm ?_
                  refine w_seq ?_
                  refine w_run [0, 0, 0, 0, 0, 0, 3, 3, 3, 3, 2, 0] ?_
                  refine t_gd (!removed80) true (by kernel_rfl) (fun hc => ?_) (fun hc => ?_)
                  · replace h := h.1 ((is_not is_raw).t hc)
                    obtain ⟨e91, hg92, h⟩ := h
                    refine t_idxG true 3 events1 .i64 i57 H66 (by kernel_rfl) hg92 ?_
                    refine t_gd true true (by kernel_rfl) (fun _ => ?_) (fun hn => by cases hn)
                    refine t_fldG true 1 3 events1 i57 0 H66 (by kernel_rfl) hg92 ?_
                    refine t_gd true true (by kernel_rfl) (fun _ => ?_) (fun hn => by cases hn)
                    refine t_loadG true none 3 events1 i57 1 (.int .i64 e91) H66 (by kernel_rfl) hg92 ?_
                    refine t_gd true true (by kernel_rfl) (fun _ => ?_) (fun hn => by cases hn)
                    refine t_call true nFHas [all26, (.int .i64 e91)] H66 (by kernel_rfl) h ?_
                    clear h
                    rintro _ H94 ⟨r93, rfl, h⟩
                    refine t_gd true true (by kernel_rfl) (fun _ => ?_) (fun hn => by cases hn)
                    refine t_done [(.int .i64 window0), events1, d56, (.bool (!r14)), (.agg [(.int .i64 r5), (.int .i64 r6)]), (.bool ((r5) != 0)), (.agg [r2, r3, r4]), (.int .i64 i24), (.bool (decide (i24 < (len28 : Int)))), all26, (.int .i64 i40), (.bool (decide (i40 < (len44 : Int)))), d42, (.int .i64 i57), (.bool (decide (i57 < (len67 : Int)))), d69, (.int .i64 (IntKind.wrap .i64 (balance70 - 1))), (.bool ((e73) == 1)), (.int .i64 k78), (.bool (decide (k78 < (len81 : Int)))), (.bool removed80), (.bool (!r93))] H94 (by kernel_rfl) ?_
                    refine then_norm ?_
                    refine w_cond (t := (!r93)) rfl (fun hc => ?_) (fun hc => ?_)
                    · replace h := h.1 ((is_not is_raw).t hc)
                      refine w_seq ?_
                      refine w_run [0] ?_
                      refine t_done [(.int .i64 window0), events1, (.bool false), (.bool (!r14)), (.agg [(.int .i64 r5), (.int .i64 r6)]), (.bool ((r5) != 0)), (.agg [r2, r3, r4]), (.int .i64 i24), (.bool (decide (i24 < (len28 : Int)))), all26, (.int .i64 i40), (.bool (decide (i40 < (len44 : Int)))), d42, (.int .i64 i57), (.bool (decide (i57 < (len67 : Int)))), d69, (.int .i64 (IntKind.wrap .i64 (balance70 - 1))), (.bool ((e73) == 1)), (.int .i64 k78), (.bool (decide (k78 < (len81 : Int)))), (.bool removed80), (.bool (!r93))] H94 (by kernel_rfl) ?_
                      refine then_norm ?_
                      refine w_ret ?_
                      refine block_ret ?_
                      refine then_ret ?_
                      refine loop_ret ?_
                      refine block_ret ?_
                      refine then_ret ?_
                      exact body_ret (vs := [(.bool false)]) _ (by kernel_rfl) rfl h
                    · replace h := h.2 ((is_not is_raw).f hc)
                      refine w_skip ?_
                      refine block_norm ?_
                      refine then_norm ?_
                      refine w_run [0, 0, 0] ?_
                      refine t_done [(.int .i64 window0), events1, d56, (.bool (!r14)), (.agg [(.int .i64 r5), (.int .i64 r6)]), (.bool ((r5) != 0)), (.agg [r2, r3, r4]), (.int .i64 i24), (.bool (decide (i24 < (len28 : Int)))), all26, (.int .i64 i40), (.bool (decide (i40 < (len44 : Int)))), d42, (.int .i64 (IntKind.wrap .i64 (i57 + 1))), (.bool (decide (i57 < (len67 : Int)))), d69, (.int .i64 (IntKind.wrap .i64 (balance70 - 1))), (.bool ((e73) == 1)), (.int .i64 k78), (.bool (decide (k78 < (len81 : Int)))), (.bool removed80), (.bool (!r93))] H94 (by kernel_rfl) ?_
                      obtain ⟨m', hm, h⟩ := h
                      refine loop_norm ⟨m', hm, _, _, _, _, _, _, _, _, _, _, rfl, h⟩
                  · replace h := h.2 ((is_not is_raw).f hc)
                    refine t_gd false true (by kernel_rfl) (fun hn => by cases hn) (fun _ => ?_)
                    refine t_gd false true (by kernel_rfl) (fun hn => by cases hn) (fun _ => ?_)
                    refine t_gd false true (by kernel_rfl) (fun hn => by cases hn) (fun _ => ?_)
                    refine t_gd false true (by kernel_rfl) (fun hn => by cases hn) (fun _ => ?_)
                    refine t_done [(.int .i64 window0), events1, d56, (.bool (!r14)), (.agg [(.int .i64 r5), (.int .i64 r6)]), (.bool ((r5) != 0)), (.agg [r2, r3, r4]), (.int .i64 i24), (.bool (decide (i24 < (len28 : Int)))), all26, (.int .i64 i40), (.bool (decide (i40 < (len44 : Int)))), d42, (.int .i64 i57), (.bool (decide (i57 < (len67 : Int)))), d69, (.int .i64 (IntKind.wrap .i64 (balance70 - 1))), (.bool ((e73) == 1)), (.int .i64 k78), (.bool (decide (k78 < (len81 : Int)))), (.bool removed80), (.bool false)] H66 (by kernel_rfl) ?_
                    refine then_norm ?_
                    refine w_cond (t := false) rfl (fun hc => by cases hc) (fun _ => ?_)
                    refine w_skip ?_
                    refine block_norm ?_
                    refine then_norm ?_
                    refine w_run [0, 0, 0] ?_
                    refine t_done [(.int .i64 window0), events1, d56, (.bool (!r14)), (.agg [(.int .i64 r5), (.int .i64 r6)]), (.bool ((r5) != 0)), (.agg [r2, r3, r4]), (.int .i64 i24), (.bool (decide (i24 < (len28 : Int)))), all26, (.int .i64 i40), (.bool (decide (i40 < (len44 : Int)))), d42, (.int .i64 (IntKind.wrap .i64 (i57 + 1))), (.bool (decide (i57 < (len67 : Int)))), d69, (.int .i64 (IntKind.wrap .i64 (balance70 - 1))), (.bool ((e73) == 1)), (.int .i64 k78), (.bool (decide (k78 < (len81 : Int)))), (.bool removed80), (.bool false)] H66 (by kernel_rfl) ?_
                    obtain ⟨m', hm, h⟩ := h
                    refine loop_norm ⟨m', hm, _, _, _, _, _, _, _, _, _, _, rfl, h⟩
              · replace h := h.2 (is_eq.f hc)
                refine w_skip ?_
                refine block_norm ?_
                refine then_norm ?_
                refine w_run [0, 0, 0] ?_
                refine t_done [(.int .i64 window0), events1, d56, (.bool (!r14)), (.agg [(.int .i64 r5), (.int .i64 r6)]), (.bool ((r5) != 0)), (.agg [r2, r3, r4]), (.int .i64 i24), (.bool (decide (i24 < (len28 : Int)))), all26, (.int .i64 i40), (.bool (decide (i40 < (len44 : Int)))), d42, (.int .i64 (IntKind.wrap .i64 (i57 + 1))), (.bool (decide (i57 < (len67 : Int)))), d69, (.int .i64 balance70), (.bool ((e73) == 1)), d62, d63, d64, d65] H66 (by kernel_rfl) ?_
                obtain ⟨m', hm, h⟩ := h
                refine loop_norm ⟨m', hm, _, _, _, _, _, _, _, _, _, _, rfl, h⟩
          · replace h := h.2 (is_dec.f hc)
            refine w_exit ?_
            refine then_exit ?_
            refine loop_exit ?_
            refine block_exit ?_
            refine then_norm ?_
            refine w_seq ?_
            refine w_run [0, 0, 0] ?_
            refine t_done [(.int .i64 window0), events1, (.bool ((balance60) == 0)), (.bool (!r14)), (.agg [(.int .i64 r5), (.int .i64 r6)]), (.bool ((r5) != 0)), (.agg [r2, r3, r4]), (.int .i64 i24), (.bool (decide (i24 < (len28 : Int)))), all26, (.int .i64 i40), (.bool (decide (i40 < (len44 : Int)))), d42, (.int .i64 i57), (.bool (decide (i57 < (len67 : Int)))), d59, (.int .i64 balance60), d61, d62, d63, d64, d65] H66 (by kernel_rfl) ?_
            refine then_norm ?_
            refine w_ret ?_
            exact body_ret (vs := [(.bool ((balance60) == 0))]) _ (by kernel_rfl) rfl h

def rf_LMergequeueFunctionsMatchSpec (nmergequeue_Run nmergequeue_Outcome nLqueueExample nFRunQueue nFQueue_State nFEqualQueues nFFault : Nat) : RFunc := ⟨3, 20, [.var 3],
 ((.seq (.ops [⟨.move (.k (.bool false)), none, (some 3), true⟩])
 ((.seq (.ops [⟨.move (.var 0), none, none, true⟩, ⟨.move (.var 1), none, none, true⟩, ⟨.callS nmergequeue_Run [(.loc 0), (.loc 1)], none, none, true⟩, ⟨.move (.loc 2), none, none, true⟩, ⟨.extract (.loc 3) 0, none, none, true⟩, ⟨.extract (.loc 3) 1, none, none, true⟩, ⟨.tomb 1 (.k (.agg [.empty, .empty, .empty])), none, (some 7), true⟩, ⟨.tomb 1 (.k (.agg [.int .i64 0, .int .i64 0])), none, (some 5), true⟩, ⟨.upd 3 0 (.loc 6) (.loc 4), none, (some 7), true⟩, ⟨.upd 2 0 (.loc 7) (.loc 5), none, (some 5), true⟩])
 ((.seq (.ops [⟨.move (.var 0), none, none, true⟩, ⟨.move (.var 1), none, none, true⟩, ⟨.move (.var 2), none, none, true⟩, ⟨.callS nmergequeue_Outcome [(.loc 0), (.loc 1), (.loc 2)], none, none, true⟩, ⟨.move (.loc 3), none, none, true⟩, ⟨.extract (.loc 4) 0, none, none, true⟩, ⟨.extract (.loc 4) 1, none, none, true⟩, ⟨.extract (.loc 4) 2, none, none, true⟩, ⟨.tomb 1 (.k (.agg [.int .i64 0, .int .i64 0])), none, (some 11), true⟩, ⟨.move (.loc 5), none, (some 12), true⟩, ⟨.move (.loc 6), none, (some 13), true⟩, ⟨.upd 2 0 (.loc 8) (.loc 7), none, (some 11), true⟩])
 ((.seq ((.seq (.ops [⟨.callS nLqueueExample [], none, none, true⟩, ⟨.un .not (.loc 0), none, (some 4), true⟩])
 (.cond (.var 4) ((.seq (.ops [⟨.move (.k (.bool false)), none, (some 3), true⟩])
 (.ret))) (.skip))))
 ((.seq (.ops [⟨.move (.var 0), none, none, true⟩, ⟨.move (.var 1), none, none, true⟩, ⟨.callS nFRunQueue [(.loc 0), (.loc 1)], none, none, true⟩, ⟨.move (.loc 2), none, none, true⟩, ⟨.extract (.loc 3) 0, none, none, true⟩, ⟨.extract (.loc 3) 1, none, none, true⟩, ⟨.tomb 1 (.k (.agg [.empty, .empty, .empty, .empty, .empty])), none, (some 8), true⟩, ⟨.tomb 1 (.k (.agg [.int .i64 0, .int .i64 0])), none, (some 6), true⟩, ⟨.upd 5 0 (.loc 6) (.loc 4), none, (some 8), true⟩, ⟨.upd 2 0 (.loc 7) (.loc 5), none, (some 6), true⟩])
 ((.seq ((.seq (.ops [⟨.field 0 (some 2) (.var 5), none, none, false⟩, ⟨.field 0 (some 2) (.var 6), none, none, false⟩, ⟨.bin .neq (.agg [.int, .int]) (.loc 0) (.loc 1), none, none, true⟩, ⟨.move (.loc 2), none, none, true⟩, ⟨.field 0 (some 3) (.var 7), none, none, false⟩, ⟨.field 0 (some 5) (.var 8), none, none, false⟩, ⟨.callS nFQueue_State [(.loc 5)], (some (3, false)), none, false⟩, ⟨.callS nFEqualQueues [(.loc 4), (.loc 6)], (some (3, false)), none, true⟩, ⟨.un .not (.loc 7), (some (3, false)), none, true⟩, ⟨.pick (.loc 3) (.k (.bool true)) (.loc 8), none, (some 9), true⟩])
 (.cond (.var 9) ((.seq (.ops [⟨.move (.k (.bool false)), none, (some 3), true⟩])
 (.ret))) (.skip))))
 ((.seq ((.seq (.ops [⟨.field 0 none (.var 6), none, none, true⟩, ⟨.field 0 none (.var 6), none, none, true⟩, ⟨.bin .neq .no (.loc 1) (.k (.int .i64 0)), none, (some 10), true⟩])
 (.cond (.var 10) ((.seq (.ops [⟨.field 0 (some 2) (.var 11), none, none, true⟩, ⟨.field 0 (some 2) (.var 6), none, none, true⟩, ⟨.bin .eql (.agg [.int, .int]) (.loc 0) (.loc 1), none, none, true⟩, ⟨.move (.loc 2), none, none, true⟩, ⟨.move (.var 12), none, none, true⟩, ⟨.bin .eql .no (.loc 4) (.k (.int .i64 0)), none, none, true⟩, ⟨.pick (.loc 3) (.loc 5) (.k (.bool false)), none, none, true⟩, ⟨.move (.loc 6), none, none, true⟩, ⟨.move (.var 13), none, none, true⟩, ⟨.bin .eql .no (.loc 8) (.k (.int .i64 0)), none, none, true⟩, ⟨.pick (.loc 7) (.loc 9) (.k (.bool false)), none, none, true⟩, ⟨.move (.loc 10), none, (some 3), true⟩])
 (.ret))) (.skip))))
 ((.seq (.ops [⟨.field 0 none (.var 8), none, none, true⟩, ⟨.field 3 none (.var 8), none, none, true⟩, ⟨.field 0 none (.var 8), none, none, true⟩, ⟨.field 4 none (.var 8), none, none, true⟩, ⟨.field 0 none (.var 8), none, none, true⟩, ⟨.field 0 none (.var 8), none, none, true⟩, ⟨.buildSlice 1 [.empty] [(0, 1, (.k (.empty))), (1, 1, (.loc 1)), (2, 1, (.loc 3)), (3, 1, (.loc 5))] 4, none, none, true⟩, ⟨.move (.loc 6), none, (some 17), true⟩])
 ((.seq ((.seq (.ops [⟨.move (.k (.int .i64 1)), none, (some 14), true⟩])
 (.block 0 (.loop ((.seq ((.seq (.ops [⟨.move (.var 14), none, none, true⟩, ⟨.bin .lss .no (.loc 0) (.k (.int .i64 4)), none, (some 15), true⟩])
 (.cond (.var 15) (.skip) (.exit 0))))
 ((.seq (.block 1 ((.seq (.ops [⟨.move (.k (.int .i64 0)), none, (some 16), true⟩])
 (.block 2 (.loop ((.seq ((.seq (.ops [⟨.move (.var 16), none, none, true⟩, ⟨.move (.var 17), none, none, true⟩, ⟨.move (.var 14), none, none, true⟩, ⟨.indexAddr 1 (.loc 1) (.loc 2), none, none, true⟩, ⟨.load none (.loc 3), none, none, true⟩, ⟨.len (.loc 4), none, none, true⟩, ⟨.bin .lss .no (.loc 0) (.loc 5), none, (some 18), true⟩])
 (.cond (.var 18) (.skip) (.exit 2))))
 ((.seq (.block 3 ((.seq (.ops [⟨.move (.var 17), none, none, true⟩, ⟨.move (.var 14), none, none, true⟩, ⟨.indexAddr 1 (.loc 0) (.loc 1), none, none, true⟩, ⟨.load none (.loc 2), none, none, true⟩, ⟨.move (.var 16), none, none, true⟩, ⟨.indexAddr 1 (.loc 3) (.loc 4), none, none, true⟩, ⟨.load none (.loc 5), none, none, true⟩, ⟨.move (.var 2), none, none, true⟩, ⟨.bin .eql .no (.loc 6) (.loc 7), none, (some 19), true⟩])
 (.cond (.var 19) ((.seq (.ops [⟨.field 0 none (.var 11), none, none, true⟩, ⟨.field 0 none (.var 11), none, none, true⟩, ⟨.bin .eql .no (.loc 1) (.k (.int .i64 0)), none, none, true⟩, ⟨.move (.loc 2), none, none, true⟩, ⟨.move (.var 12), none, none, true⟩, ⟨.move (.var 14), none, none, true⟩, ⟨.bin .eql .no (.loc 4) (.loc 5), none, none, true⟩, ⟨.pick (.loc 3) (.loc 6) (.k (.bool false)), none, none, true⟩, ⟨.move (.loc 7), none, none, true⟩, ⟨.move (.var 13), none, none, true⟩, ⟨.move (.var 16), none, none, true⟩, ⟨.bin .eql .no (.loc 9) (.loc 10), none, none, true⟩, ⟨.pick (.loc 8) (.loc 11) (.k (.bool false)), none, none, true⟩, ⟨.move (.loc 12), none, (some 3), true⟩])
 (.ret))) (.skip)))))
 (.ops [⟨.move (.var 16), none, none, true⟩, ⟨.bin .add .no (.loc 0) (.k (.int .i64 1)), none, none, true⟩, ⟨.move (.loc 1), none, (some 16), true⟩]))))))))))
 (.ops [⟨.move (.var 14), none, none, true⟩, ⟨.bin .add .no (.loc 0) (.k (.int .i64 1)), none, none, true⟩, ⟨.move (.loc 1), none, (some 14), true⟩])))))))))
 ((.seq (.ops [⟨.field 0 (some 2) (.var 11), none, none, false⟩, ⟨.callS nFFault [(.k (.int .i64 6)), (.k (.int .i64 (-3)))], none, none, false⟩, ⟨.bin .eql (.agg [.int, .int]) (.loc 0) (.loc 1), none, none, true⟩, ⟨.move (.loc 2), none, none, true⟩, ⟨.move (.var 12), none, none, true⟩, ⟨.bin .eql .no (.loc 4) (.k (.int .i64 0)), none, none, true⟩, ⟨.pick (.loc 3) (.loc 5) (.k (.bool false)), none, none, true⟩, ⟨.move (.loc 6), none, none, true⟩, ⟨.move (.var 13), none, none, true⟩, ⟨.bin .eql .no (.loc 8) (.k (.int .i64 0)), none, none, true⟩, ⟨.pick (.loc 7) (.loc 9) (.k (.bool false)), none, none, true⟩, ⟨.move (.loc 10), none, (some 3), true⟩])
 (.ret))))))))))))))))))))), none⟩
end Go.RM

/-
  Functions of the program as the abstract machine runs them, and what must be shown of a run: printed by RmPrint.
-/
namespace Go.RM
set_option linter.unusedVariables false
set_option maxRecDepth 4000
end Go.RM

