import Derived.Test.YtlofiiepmehhbaaRmWp
/-
  Functions of the program as the abstract machine runs them, and what must be shown of a run: printed by RmPrint.
-/
namespace Go.RM
set_option linter.unusedVariables false
set_option maxRecDepth 4000
def rf_LqueueExample (nmergequeue_Run nmergequeue_Outcome nFEqualInts : Nat) : RFunc := ⟨0, 9, [.var 0],
 ((.seq (.ops [⟨.move (.k (.bool false)), none, (some 0), true⟩])
 ((.seq (.ops [⟨.build [.int .i64 0, .int .i64 0, .int .i64 0] [(0, 1, (.k (.int .i64 1))), (1, 1, (.k (.int .i64 5)))], none, none, true⟩, ⟨.build [.int .i64 0, .int .i64 0, .int .i64 0] [(0, 1, (.k (.int .i64 1))), (1, 1, (.k (.int .i64 6)))], none, none, true⟩, ⟨.build [.int .i64 0, .int .i64 0, .int .i64 0] [(0, 1, (.k (.int .i64 3))), (1, 1, (.k (.int .i64 6)))], none, none, true⟩, ⟨.build [.int .i64 0, .int .i64 0, .int .i64 0] [(0, 1, (.k (.int .i64 3))), (1, 1, (.k (.int .i64 5)))], none, none, true⟩, ⟨.buildSlice 3 [.int .i64 0, .int .i64 0, .int .i64 0] [(0, 3, (.loc 0)), (3, 3, (.loc 1)), (6, 3, (.loc 2)), (9, 3, (.loc 3))] 4, none, none, true⟩, ⟨.move (.loc 4), none, (some 1), true⟩])
 ((.seq (.ops [⟨.move (.var 1), none, none, true⟩, ⟨.slice 3 (.loc 0) none (some (.k (.int .i64 3))) none, none, none, true⟩, ⟨.callS nmergequeue_Run [(.k (.int .i64 2)), (.loc 1)], none, none, true⟩, ⟨.move (.loc 2), none, none, true⟩, ⟨.extract (.loc 3) 0, none, none, true⟩, ⟨.extract (.loc 3) 1, none, none, true⟩, ⟨.tomb 1 (.k (.agg [.empty, .empty, .empty])), none, (some 5), true⟩, ⟨.tomb 1 (.k (.agg [.int .i64 0, .int .i64 0])), none, (some 2), true⟩, ⟨.upd 3 0 (.loc 6) (.loc 4), none, (some 5), true⟩, ⟨.upd 2 0 (.loc 7) (.loc 5), none, (some 2), true⟩])
 ((.seq (.ops [⟨.move (.var 1), none, none, true⟩, ⟨.callS nmergequeue_Run [(.k (.int .i64 2)), (.loc 0)], none, none, true⟩, ⟨.move (.loc 1), none, none, true⟩, ⟨.extract (.loc 2) 0, none, none, true⟩, ⟨.extract (.loc 2) 1, none, none, true⟩, ⟨.tomb 1 (.k (.agg [.empty, .empty, .empty])), none, (some 6), true⟩, ⟨.tomb 1 (.k (.agg [.int .i64 0, .int .i64 0])), none, (some 3), true⟩, ⟨.upd 3 0 (.loc 5) (.loc 3), none, (some 6), true⟩, ⟨.upd 2 0 (.loc 6) (.loc 4), none, (some 3), true⟩])
 ((.seq (.ops [⟨.move (.var 1), none, none, true⟩, ⟨.callS nmergequeue_Outcome [(.k (.int .i64 2)), (.loc 0), (.k (.int .i64 6))], none, none, true⟩, ⟨.move (.loc 1), none, none, true⟩, ⟨.extract (.loc 2) 0, none, none, true⟩, ⟨.extract (.loc 2) 1, none, none, true⟩, ⟨.extract (.loc 2) 2, none, none, true⟩, ⟨.tomb 1 (.k (.agg [.int .i64 0, .int .i64 0])), none, (some 4), true⟩, ⟨.move (.loc 3), none, (some 7), true⟩, ⟨.move (.loc 4), none, (some 8), true⟩, ⟨.upd 2 0 (.loc 6) (.loc 5), none, (some 4), true⟩])
 ((.seq (.ops [⟨.field 0 none (.var 2), none, none, true⟩, ⟨.field 0 none (.var 2), none, none, true⟩, ⟨.bin .eql .no (.loc 1) (.k (.int .i64 0)), none, none, true⟩, ⟨.move (.loc 2), none, none, true⟩, ⟨.field 0 none (.var 3), none, none, true⟩, ⟨.field 0 none (.var 3), none, none, true⟩, ⟨.bin .eql .no (.loc 5) (.k (.int .i64 0)), none, none, true⟩, ⟨.pick (.loc 3) (.loc 6) (.k (.bool false)), none, none, true⟩, ⟨.move (.loc 7), none, none, true⟩, ⟨.field 0 none (.var 4), none, none, true⟩, ⟨.field 0 none (.var 4), none, none, true⟩, ⟨.bin .eql .no (.loc 10) (.k (.int .i64 0)), none, none, true⟩, ⟨.pick (.loc 8) (.loc 11) (.k (.bool false)), none, none, true⟩, ⟨.move (.loc 12), none, none, true⟩, ⟨.field 0 none (.var 5), none, none, true⟩, ⟨.field 1 none (.var 5), none, none, true⟩, ⟨.len (.loc 15), none, none, true⟩, ⟨.bin .eql .no (.loc 16) (.k (.int .i64 0)), none, none, true⟩, ⟨.pick (.loc 13) (.loc 17) (.k (.bool false)), none, none, true⟩, ⟨.move (.loc 18), none, none, true⟩, ⟨.field 0 none (.var 5), none, none, true⟩, ⟨.field 0 none (.var 5), none, none, true⟩, ⟨.len (.loc 21), none, none, true⟩, ⟨.bin .eql .no (.loc 22) (.k (.int .i64 2)), none, none, true⟩, ⟨.pick (.loc 19) (.loc 23) (.k (.bool false)), none, none, true⟩, ⟨.move (.loc 24), none, none, true⟩, ⟨.field 0 none (.var 6), none, none, true⟩, ⟨.field 1 none (.var 6), none, none, true⟩, ⟨.buildSlice 1 [.int .i64 0] [(0, 1, (.k (.int .i64 5))), (1, 1, (.k (.int .i64 6)))] 2, (some (25, true)), none, true⟩, ⟨.callS nFEqualInts [(.loc 27), (.loc 28)], (some (25, true)), none, true⟩, ⟨.pick (.loc 25) (.loc 29) (.k (.bool false)), none, none, true⟩, ⟨.move (.loc 30), none, none, true⟩, ⟨.move (.var 7), none, none, true⟩, ⟨.bin .eql .no (.loc 32) (.k (.int .i64 1)), none, none, true⟩, ⟨.pick (.loc 31) (.loc 33) (.k (.bool false)), none, none, true⟩, ⟨.move (.loc 34), none, none, true⟩, ⟨.move (.var 8), none, none, true⟩, ⟨.bin .eql .no (.loc 36) (.k (.int .i64 1)), none, none, true⟩, ⟨.pick (.loc 35) (.loc 37) (.k (.bool false)), none, none, true⟩, ⟨.move (.loc 38), none, (some 0), true⟩])
 (.ret))))))))))))), none⟩
theorem v_LqueueExample {F : Nat → Option RFunc} {me nmergequeue_Run nmergequeue_Outcome nFEqualInts : Nat} (hF : F me = some (rf_LqueueExample nmergequeue_Run nmergequeue_Outcome nFEqualInts)) {fl : Nat} {H : Heap} {Q : AV → Heap → Prop} 
  (h : ∀ (b0 : Nat) (H1 : Heap), NewB H 3 [(.int .i64 1), (.int .i64 5), (.int .i64 0), (.int .i64 1), (.int .i64 6), (.int .i64 0), (.int .i64 3), (.int .i64 6), (.int .i64 0), (.int .i64 3), (.int .i64 5), (.int .i64 0)] b0 H1 → ∃ s2 : AV, rslice H1 3 (.slice b0 0 4 (some 4)) none (some (.int .i64 3)) none = some s2 ∧ Ret F fl nmergequeue_Run [(.int .i64 2), s2] H1 (fun v9 H8 => ∃ (r3 : AV) (r4 : AV) (r5 : AV) (r6 : Int) (r7 : Int), v9 = (.tuple [(.agg [r3, r4, r5]), (.agg [(.int .i64 r6), (.int .i64 r7)])]) ∧ ∀ (H10 : Heap), Dead1 H8 1 H10 → ∀ (H11 : Heap), Dead1 H10 1 H11 → Scal r3 ∧ Scal r4 ∧ Scal r5 ∧ Ret F fl nmergequeue_Run [(.int .i64 2), (.slice b0 0 4 (some 4))] H11 (fun v21 H20 => ∃ (r15 : AV) (r16 : AV) (r17 : AV) (r18 : Int) (r19 : Int), v21 = (.tuple [(.agg [r15, r16, r17]), (.agg [(.int .i64 r18), (.int .i64 r19)])]) ∧ ∀ (H22 : Heap), Dead1 H20 1 H22 → ∀ (H23 : Heap), Dead1 H22 1 H23 → Scal r15 ∧ Scal r16 ∧ Scal r17 ∧ Ret F fl nmergequeue_Outcome [(.int .i64 2), (.slice b0 0 4 (some 4)), (.int .i64 6)] H23 (fun v32 H31 => ∃ (r27 : Int) (r28 : Int) (r29 : Int) (r30 : Int), v32 = (.tuple [(.int .i64 r27), (.int .i64 r28), (.agg [(.int .i64 r29), (.int .i64 r30)])]) ∧ ∀ (H33 : Heap), Dead1 H31 1 H33 → ∃ len34 : Nat, lenA r4 = some len34 ∧ ∃ len35 : Nat, lenA r3 = some len35 ∧ ((((((((((r6 = 0) ∧ (r18 = 0))) ∧ (r29 = 0))) ∧ ((len34 : Int) = 0))) ∧ ((len35 : Int) = 2))) → ∀ (b36 : Nat) (H37 : Heap), NewB H33 1 [(.int .i64 5), (.int .i64 6)] b36 H37 → Ret F fl nFEqualInts [r16, (.slice b36 0 2 (some 2))] H37 (fun v40 H39 => ∃ (r38 : Bool), v40 = (.bool r38) ∧ Q (.bool ((r38 && ((r27) == 1)) && ((r28) == 1))) H39)) ∧ (¬(((((((((r6 = 0) ∧ (r18 = 0))) ∧ (r29 = 0))) ∧ ((len34 : Int) = 0))) ∧ ((len35 : Int) = 2))) → Q (.bool false) H33))))) : Ret F fl me [] H Q := by
  refine ret_intro hF rfl ?_
  refine w_seq ?_
  refine w_run [0] ?_
  refine t_done [(.bool false), .undef, .undef, .undef, .undef, .undef, .undef, .undef, .undef] H (by kernel_rfl) ?_
  refine then_norm ?_
  refine w_seq ?_
  refine w_run [1, 1, 1, 1, 1, 0] ?_
  refine t_build true [(.int .i64 0), (.int .i64 0), (.int .i64 0)] [(0, 1, .loc 0), (1, 1, .loc 1)] [(.int .i64 1), (.int .i64 5)] [(.int .i64 1), (.int .i64 5), (.int .i64 0)] H (by kernel_rfl) (fill_c (vs := [(.int .i64 1)]) (size := 1) rfl (by kernel_rfl) (by kernel_rfl) (fill_c (vs := [(.int .i64 5)]) (size := 1) rfl (by kernel_rfl) (by kernel_rfl) (by kernel_rfl))) ?_
  refine t_build true [(.int .i64 0), (.int .i64 0), (.int .i64 0)] [(0, 1, .loc 0), (1, 1, .loc 1)] [(.int .i64 1), (.int .i64 6)] [(.int .i64 1), (.int .i64 6), (.int .i64 0)] H (by kernel_rfl) (fill_c (vs := [(.int .i64 1)]) (size := 1) rfl (by kernel_rfl) (by kernel_rfl) (fill_c (vs := [(.int .i64 6)]) (size := 1) rfl (by kernel_rfl) (by kernel_rfl) (by kernel_rfl))) ?_
  refine t_build true [(.int .i64 0), (.int .i64 0), (.int .i64 0)] [(0, 1, .loc 0), (1, 1, .loc 1)] [(.int .i64 3), (.int .i64 6)] [(.int .i64 3), (.int .i64 6), (.int .i64 0)] H (by kernel_rfl) (fill_c (vs := [(.int .i64 3)]) (size := 1) rfl (by kernel_rfl) (by kernel_rfl) (fill_c (vs := [(.int .i64 6)]) (size := 1) rfl (by kernel_rfl) (by kernel_rfl) (by kernel_rfl))) ?_
  refine t_build true [(.int .i64 0), (.int .i64 0), (.int .i64 0)] [(0, 1, .loc 0), (1, 1, .loc 1)] [(.int .i64 3), (.int .i64 5)] [(.int .i64 3), (.int .i64 5), (.int .i64 0)] H (by kernel_rfl) (fill_c (vs := [(.int .i64 3)]) (size := 1) rfl (by kernel_rfl) (by kernel_rfl) (fill_c (vs := [(.int .i64 5)]) (size := 1) rfl (by kernel_rfl) (by kernel_rfl) (by kernel_rfl))) ?_
  obtain ⟨b0, H1, hb⟩ : ∃ b H', NewB H 3 [(.int .i64 1), (.int .i64 5), (.int .i64 0), (.int .i64 1), (.int .i64 6), (.int .i64 0), (.int .i64 3), (.int .i64 6), (.int .i64 0), (.int .i64 3), (.int .i64 5), (.int .i64 0)] b H' := ⟨_, _, rfl, rfl⟩
  replace h := h b0 H1 hb
  refine t_bs true 3 [(.int .i64 0), (.int .i64 0), (.int .i64 0)] [(0, 3, .loc 0), (3, 3, .loc 1), (6, 3, .loc 2), (9, 3, .loc 3)] 4 [(.agg [(.int .i64 1), (.int .i64 5), (.int .i64 0)]), (.agg [(.int .i64 1), (.int .i64 6), (.int .i64 0)]), (.agg [(.int .i64 3), (.int .i64 6), (.int .i64 0)]), (.agg [(.int .i64 3), (.int .i64 5), (.int .i64 0)])] [(.int .i64 1), (.int .i64 5), (.int .i64 0), (.int .i64 1), (.int .i64 6), (.int .i64 0), (.int .i64 3), (.int .i64 6), (.int .i64 0), (.int .i64 3), (.int .i64 5), (.int .i64 0)] b0 H1 H (by kernel_rfl) (fill_c (vs := [(.int .i64 1), (.int .i64 5), (.int .i64 0)]) (size := 3) rfl (by kernel_rfl) (by kernel_rfl) (fill_c (vs := [(.int .i64 1), (.int .i64 6), (.int .i64 0)]) (size := 3) rfl (by kernel_rfl) (by kernel_rfl) (fill_c (vs := [(.int .i64 3), (.int .i64 6), (.int .i64 0)]) (size := 3) rfl (by kernel_rfl) (by kernel_rfl) (fill_c (vs := [(.int .i64 3), (.int .i64 5), (.int .i64 0)]) (size := 3) rfl (by kernel_rfl) (by kernel_rfl) (by kernel_rfl))))) hb ?_
  refine t_done [(.bool false), (.slice b0 0 4 (some 4)), .undef, .undef, .undef, .undef, .undef, .undef, .undef] H1 (by kernel_rfl) ?_
  refine then_norm ?_
  refine w_seq ?_
  refine w_run [0, 1, 1, 0, 0, 0, 1, 1, 1, 1] ?_
  obtain ⟨s2, hs, h⟩ := h
  refine t_slcH true 3 (.slice b0 0 4 (some 4)) (.int .i64 3) s2 H1 (by kernel_rfl) hs ?_
  refine t_call true nmergequeue_Run [(.int .i64 2), s2] H1 (by kernel_rfl) h ?_
  clear h
  rintro _ H8 ⟨r3, r4, r5, r6, r7, rfl, h⟩
  obtain ⟨H10, hb⟩ : ∃ H', Dead1 H8 1 H' := ⟨_, ⟨rfl⟩⟩
  replace h := h H10 hb
  refine t_tomb true 1 (.agg [.empty, .empty, .empty]) [.empty, .empty, .empty] H10 H8 (by kernel_rfl) rfl hb ?_
  obtain ⟨H11, hb⟩ : ∃ H', Dead1 H10 1 H' := ⟨_, ⟨rfl⟩⟩
  replace h := h H11 hb
  refine t_tomb true 1 (.agg [(.int .i64 0), (.int .i64 0)]) [(.int .i64 0), (.int .i64 0)] H11 H10 (by kernel_rfl) rfl hb ?_
  obtain ⟨hs12, h⟩ := h
  obtain ⟨hs13, h⟩ := h
  obtain ⟨hs14, h⟩ := h
  refine t_upd true 3 0 [.empty, .empty, .empty] (.agg [r3, r4, r5]) [r3, r4, r5] [r3, r4, r5] H11 (by kernel_rfl) rfl (all_c hs12.2 (all_c hs13.2 (all_c hs14.2 all_n))) ⟨rfl, Nat.le_of_ble_eq_true (by kernel_rfl), rfl⟩ ?_
  refine t_upd true 2 0 [(.int .i64 0), (.int .i64 0)] (.agg [(.int .i64 r6), (.int .i64 r7)]) [(.int .i64 r6), (.int .i64 r7)] [(.int .i64 r6), (.int .i64 r7)] H11 (by kernel_rfl) rfl (all_c rfl (all_c rfl all_n)) ⟨rfl, Nat.le_of_ble_eq_true (by kernel_rfl), rfl⟩ ?_
  refine t_done [(.bool false), (.slice b0 0 4 (some 4)), (.agg [(.int .i64 r6), (.int .i64 r7)]), .undef, .undef, (.agg [r3, r4, r5]), .undef, .undef, .undef] H11 (by kernel_rfl) ?_
  refine then_norm ?_
  refine w_seq ?_
  refine w_run [0, 1, 0, 0, 0, 1, 1, 1, 1] ?_
  refine t_call true nmergequeue_Run [(.int .i64 2), (.slice b0 0 4 (some 4))] H11 (by kernel_rfl) h ?_
  clear h
  rintro _ H20 ⟨r15, r16, r17, r18, r19, rfl, h⟩
  obtain ⟨H22, hb⟩ : ∃ H', Dead1 H20 1 H' := ⟨_, ⟨rfl⟩⟩
  replace h := h H22 hb
  refine t_tomb true 1 (.agg [.empty, .empty, .empty]) [.empty, .empty, .empty] H22 H20 (by kernel_rfl) rfl hb ?_
  obtain ⟨H23, hb⟩ : ∃ H', Dead1 H22 1 H' := ⟨_, ⟨rfl⟩⟩
  replace h := h H23 hb
  refine t_tomb true 1 (.agg [(.int .i64 0), (.int .i64 0)]) [(.int .i64 0), (.int .i64 0)] H23 H22 (by kernel_rfl) rfl hb ?_
  obtain ⟨hs24, h⟩ := h
  obtain ⟨hs25, h⟩ := h
  obtain ⟨hs26, h⟩ := h
  refine t_upd true 3 0 [.empty, .empty, .empty] (.agg [r15, r16, r17]) [r15, r16, r17] [r15, r16, r17] H23 (by kernel_rfl) rfl (all_c hs24.2 (all_c hs25.2 (all_c hs26.2 all_n))) ⟨rfl, Nat.le_of_ble_eq_true (by kernel_rfl), rfl⟩ ?_
  refine t_upd true 2 0 [(.int .i64 0), (.int .i64 0)] (.agg [(.int .i64 r18), (.int .i64 r19)]) [(.int .i64 r18), (.int .i64 r19)] [(.int .i64 r18), (.int .i64 r19)] H23 (by kernel_rfl) rfl (all_c rfl (all_c rfl all_n)) ⟨rfl, Nat.le_of_ble_eq_true (by kernel_rfl), rfl⟩ ?_
  refine t_done [(.bool false), (.slice b0 0 4 (some 4)), (.agg [(.int .i64 r6), (.int .i64 r7)]), (.agg [(.int .i64 r18), (.int .i64 r19)]), .undef, (.agg [r3, r4, r5]), (.agg [r15, r16, r17]), .undef, .undef] H23 (by kernel_rfl) ?_
  refine then_norm ?_
  refine w_seq ?_
  refine w_run [0, 1, 0, 0, 0, 0, 1, 0, 0, 1] ?_
  refine t_call true nmergequeue_Outcome [(.int .i64 2), (.slice b0 0 4 (some 4)), (.int .i64 6)] H23 (by kernel_rfl) h ?_
  clear h
  rintro _ H31 ⟨r27, r28, r29, r30, rfl, h⟩
  obtain ⟨H33, hb⟩ : ∃ H', Dead1 H31 1 H' := ⟨_, ⟨rfl⟩⟩
  replace h := h H33 hb
  refine t_tomb true 1 (.agg [(.int .i64 0), (.int .i64 0)]) [(.int .i64 0), (.int .i64 0)] H33 H31 (by kernel_rfl) rfl hb ?_
  refine t_upd true 2 0 [(.int .i64 0), (.int .i64 0)] (.agg [(.int .i64 r29), (.int .i64 r30)]) [(.int .i64 r29), (.int .i64 r30)] [(.int .i64 r29), (.int .i64 r30)] H33 (by kernel_rfl) rfl (all_c rfl (all_c rfl all_n)) ⟨rfl, Nat.le_of_ble_eq_true (by kernel_rfl), rfl⟩ ?_
  refine t_done [(.bool false), (.slice b0 0 4 (some 4)), (.agg [(.int .i64 r6), (.int .i64 r7)]), (.agg [(.int .i64 r18), (.int .i64 r19)]), (.agg [(.int .i64 r29), (.int .i64 r30)]), (.agg [r3, r4, r5]), (.agg [r15, r16, r17]), (.int .i64 r27), (.int .i64 r28)] H33 (by kernel_rfl) ?_
  refine then_norm ?_
  refine w_seq ?_
  refine w_run [0, 0, 0, 0, 0, 0, 0, 0, 0, 0, 0, 0, 0, 0, 0, 0, 1, 0, 0, 0, 0, 0, 1, 0, 0, 0, 0, 0, 3, 3, 0, 0, 0, 0, 0, 0, 0, 0, 0, 0] ?_
  obtain ⟨len34, hl, h⟩ := h
  refine t_len true r4 len34 H33 (by kernel_rfl) hl ?_
  obtain ⟨len35, hl, h⟩ := h
  refine t_len true r3 len35 H33 (by kernel_rfl) hl ?_
  refine t_gd ((((((r6) == 0) && ((r18) == 0)) && ((r29) == 0)) && (((len34 : Int)) == 0)) && (((len35 : Int)) == 2)) true (by kernel_rfl) (fun hc => ?_) (fun hc => ?_)
  · replace h := h.1 ((is_and (is_and (is_and (is_and is_eq is_eq) is_eq) is_eq) is_eq).t hc)
    obtain ⟨b36, H37, hb⟩ : ∃ b H', NewB H33 1 [(.int .i64 5), (.int .i64 6)] b H' := ⟨_, _, rfl, rfl⟩
    replace h := h b36 H37 hb
    refine t_bs true 1 [(.int .i64 0)] [(0, 1, .loc 0), (1, 1, .loc 1)] 2 [(.int .i64 5), (.int .i64 6)] [(.int .i64 5), (.int .i64 6)] b36 H37 H33 (by kernel_rfl) (fill_c (vs := [(.int .i64 5)]) (size := 1) rfl (by kernel_rfl) (by kernel_rfl) (fill_c (vs := [(.int .i64 6)]) (size := 1) rfl (by kernel_rfl) (by kernel_rfl) (by kernel_rfl))) hb ?_
    refine t_gd true true (by kernel_rfl) (fun _ => ?_) (fun hn => by cases hn)
    refine t_call true nFEqualInts [r16, (.slice b36 0 2 (some 2))] H37 (by kernel_rfl) h ?_
    clear h
    rintro _ H39 ⟨r38, rfl, h⟩
    refine t_done [(.bool ((r38 && ((r27) == 1)) && ((r28) == 1))), (.slice b0 0 4 (some 4)), (.agg [(.int .i64 r6), (.int .i64 r7)]), (.agg [(.int .i64 r18), (.int .i64 r19)]), (.agg [(.int .i64 r29), (.int .i64 r30)]), (.agg [r3, r4, r5]), (.agg [r15, r16, r17]), (.int .i64 r27), (.int .i64 r28)] H39 (by kernel_rfl) ?_
    refine then_norm ?_
    refine w_ret ?_
    exact body_ret (vs := [(.bool ((r38 && ((r27) == 1)) && ((r28) == 1)))]) _ (by kernel_rfl) rfl h
  · replace h := h.2 ((is_and (is_and (is_and (is_and is_eq is_eq) is_eq) is_eq) is_eq).f hc)
    refine t_gd false true (by kernel_rfl) (fun hn => by cases hn) (fun _ => ?_)
    refine t_done [(.bool false), (.slice b0 0 4 (some 4)), (.agg [(.int .i64 r6), (.int .i64 r7)]), (.agg [(.int .i64 r18), (.int .i64 r19)]), (.agg [(.int .i64 r29), (.int .i64 r30)]), (.agg [r3, r4, r5]), (.agg [r15, r16, r17]), (.int .i64 r27), (.int .i64 r28)] H33 (by kernel_rfl) ?_
    refine then_norm ?_
    refine w_ret ?_
    exact body_ret (vs := [(.bool false)]) _ (by kernel_rfl) rfl h

def rf_LMergequeueNothingIsLost (nmergequeue_Run nLqueueExample nFHas : Nat) : RFunc := ⟨2, 22, [.var 2],
 ((.seq (.ops [⟨.move (.k (.bool false)), none, (some 2), true⟩])
 ((.seq (.ops [⟨.move (.var 0), none, none, true⟩, ⟨.move (.var 1), none, none, true⟩, ⟨.callS nmergequeue_Run [(.loc 0), (.loc 1)], none, none, true⟩, ⟨.move (.loc 2), none, none, true⟩, ⟨.extract (.loc 3) 0, none, none, true⟩, ⟨.extract (.loc 3) 1, none, none, true⟩, ⟨.tomb 1 (.k (.agg [.empty, .empty, .empty])), none, (some 6), true⟩, ⟨.tomb 1 (.k (.agg [.int .i64 0, .int .i64 0])), none, (some 4), true⟩, ⟨.upd 3 0 (.loc 6) (.loc 4), none, (some 6), true⟩, ⟨.upd 2 0 (.loc 7) (.loc 5), none, (some 4), true⟩])
 ((.seq ((.seq (.ops [⟨.callS nLqueueExample [], none, none, true⟩, ⟨.un .not (.loc 0), none, (some 3), true⟩])
 (.cond (.var 3) ((.seq (.ops [⟨.move (.k (.bool false)), none, (some 2), true⟩])
 (.ret))) (.skip))))
 ((.seq ((.seq (.ops [⟨.field 0 none (.var 4), none, none, true⟩, ⟨.field 0 none (.var 4), none, none, true⟩, ⟨.bin .neq .no (.loc 1) (.k (.int .i64 0)), none, (some 5), true⟩])
 (.cond (.var 5) ((.seq (.ops [⟨.move (.k (.bool true)), none, (some 2), true⟩])
 (.ret))) (.skip))))
 ((.seq (.ops [⟨.field 0 none (.var 6), none, none, false⟩, ⟨.field 1 none (.var 6), none, none, false⟩, ⟨.append 1 8 (.k (.empty)) (.loc 1), none, none, false⟩, ⟨.field 0 none (.var 6), none, none, false⟩, ⟨.field 2 none (.var 6), none, none, false⟩, ⟨.append 1 8 (.loc 2) (.loc 4), none, none, true⟩, ⟨.move (.loc 5), none, (some 9), true⟩])
 ((.seq ((.seq (.ops [⟨.move (.k (.int .i64 0)), none, (some 7), true⟩])
 (.block 0 (.loop ((.seq ((.seq (.ops [⟨.move (.var 7), none, none, true⟩, ⟨.field 0 none (.var 6), none, none, true⟩, ⟨.field 0 none (.var 6), none, none, true⟩, ⟨.len (.loc 2), none, none, true⟩, ⟨.bin .lss .no (.loc 0) (.loc 3), none, (some 8), true⟩])
 (.cond (.var 8) (.skip) (.exit 0))))
 ((.seq (.block 1 (.ops [⟨.move (.var 9), none, none, true⟩, ⟨.field 0 none (.var 6), none, none, true⟩, ⟨.field 0 none (.var 6), none, none, true⟩, ⟨.move (.var 7), none, none, true⟩, ⟨.indexAddr 6 (.loc 2) (.loc 3), none, none, true⟩, ⟨.fieldAddr 0 (.loc 4), none, none, true⟩, ⟨.load none (.loc 5), none, none, true⟩, ⟨.buildSlice 1 [.int .i64 0] [(0, 1, (.loc 6))] 1, none, none, true⟩, ⟨.append 1 8 (.loc 0) (.loc 7), none, none, true⟩, ⟨.move (.loc 8), none, (some 9), true⟩]))
 (.ops [⟨.move (.var 7), none, none, true⟩, ⟨.bin .add .no (.loc 0) (.k (.int .i64 1)), none, none, true⟩, ⟨.move (.loc 1), none, (some 7), true⟩])))))))))
 ((.seq ((.seq (.ops [⟨.move (.k (.int .i64 0)), none, (some 10), true⟩])
 (.block 2 (.loop ((.seq ((.seq (.ops [⟨.move (.var 10), none, none, true⟩, ⟨.move (.var 9), none, none, true⟩, ⟨.len (.loc 1), none, none, true⟩, ⟨.bin .lss .no (.loc 0) (.loc 2), none, (some 11), true⟩])
 (.cond (.var 11) (.skip) (.exit 2))))
 ((.seq (.block 3 ((.seq (.ops [⟨.move (.var 9), none, none, false⟩, ⟨.move (.var 10), none, none, false⟩, ⟨.slice 1 (.loc 0) none (some (.loc 1)) none, none, none, false⟩, ⟨.move (.var 9), none, none, true⟩, ⟨.move (.var 10), none, none, true⟩, ⟨.indexAddr 1 (.loc 3) (.loc 4), none, none, true⟩, ⟨.load none (.loc 5), none, none, true⟩, ⟨.callS nFHas [(.loc 2), (.loc 6)], none, (some 12), true⟩])
 (.cond (.var 12) ((.seq (.ops [⟨.move (.k (.bool false)), none, (some 2), true⟩])
 (.ret))) (.skip)))))
 (.ops [⟨.move (.var 10), none, none, true⟩, ⟨.bin .add .no (.loc 0) (.k (.int .i64 1)), none, none, true⟩, ⟨.move (.loc 1), none, (some 10), true⟩])))))))))
 ((.seq (.ops [⟨.move (.var 9), none, none, true⟩, ⟨.len (.loc 0), none, none, true⟩, ⟨.move (.loc 1), none, (some 16), true⟩])
 ((.seq ((.seq (.ops [⟨.move (.k (.int .i64 0)), none, (some 13), true⟩])
 (.block 4 (.loop ((.seq ((.seq (.ops [⟨.move (.var 13), none, none, true⟩, ⟨.move (.var 1), none, none, true⟩, ⟨.len (.loc 1), none, none, true⟩, ⟨.bin .lss .no (.loc 0) (.loc 2), none, (some 14), true⟩])
 (.cond (.var 14) (.skip) (.exit 4))))
 ((.seq (.block 5 ((.seq ((.seq (.ops [⟨.move (.var 1), none, none, true⟩, ⟨.move (.var 13), none, none, true⟩, ⟨.indexAddr 3 (.loc 0) (.loc 1), none, none, true⟩, ⟨.fieldAddr 0 (.loc 2), none, none, true⟩, ⟨.load none (.loc 3), none, none, true⟩, ⟨.bin .eql .no (.loc 4) (.k (.int .i64 2)), none, (some 15), true⟩])
 (.cond (.var 15) (.ops [⟨.move (.var 16), none, none, true⟩, ⟨.bin .add .no (.loc 0) (.k (.int .i64 1)), none, none, true⟩, ⟨.move (.loc 1), none, (some 16), true⟩]) (.skip))))
 ((.seq (.ops [⟨.move (.var 1), none, none, true⟩, ⟨.move (.var 13), none, none, true⟩, ⟨.indexAddr 3 (.loc 0) (.loc 1), none, none, true⟩, ⟨.fieldAddr 0 (.loc 2), none, none, true⟩, ⟨.load none (.loc 3), none, none, true⟩, ⟨.bin .eql .no (.loc 4) (.k (.int .i64 1)), none, (some 17), true⟩])
 (.cond (.var 17) ((.seq (.ops [⟨.move (.var 16), none, none, true⟩, ⟨.bin .sub .no (.loc 0) (.k (.int .i64 1)), none, none, true⟩, ⟨.move (.loc 1), none, (some 16), true⟩])
 ((.seq (.ops [⟨.move (.k (.bool false)), none, (some 20), true⟩])
 ((.seq ((.seq (.ops [⟨.move (.var 13), none, none, true⟩, ⟨.move (.loc 0), none, (some 18), true⟩])
 (.block 6 (.loop ((.seq ((.seq (.ops [⟨.move (.var 18), none, none, true⟩, ⟨.move (.var 1), none, none, true⟩, ⟨.len (.loc 1), none, none, true⟩, ⟨.bin .lss .no (.loc 0) (.loc 2), none, (some 19), true⟩])
 (.cond (.var 19) (.skip) (.exit 6))))
 ((.seq (.block 7 (.ops [⟨.move (.var 20), none, none, true⟩, ⟨.move (.loc 0), none, none, true⟩, ⟨.move (.var 1), none, none, true⟩, ⟨.move (.var 18), none, none, true⟩, ⟨.indexAddr 3 (.loc 2) (.loc 3), (some (1, false)), none, true⟩, ⟨.fieldAddr 0 (.loc 4), (some (1, false)), none, true⟩, ⟨.load none (.loc 5), (some (1, false)), none, true⟩, ⟨.bin .eql .no (.loc 6) (.k (.int .i64 2)), (some (1, false)), none, true⟩, ⟨.move (.loc 7), (some (1, false)), none, true⟩, ⟨.move (.var 1), none, none, false⟩, ⟨.move (.var 18), none, none, false⟩, ⟨.indexAddr 3 (.loc 9) (.loc 10), (some (8, true)), none, false⟩, ⟨.fieldAddr 1 (.loc 11), (some (8, true)), none, false⟩, ⟨.load none (.loc 12), (some (8, true)), none, false⟩, ⟨.move (.var 1), none, none, false⟩, ⟨.move (.var 13), none, none, false⟩, ⟨.indexAddr 3 (.loc 14) (.loc 15), (some (8, true)), none, false⟩, ⟨.fieldAddr 1 (.loc 16), (some (8, true)), none, false⟩, ⟨.load none (.loc 17), (some (8, true)), none, false⟩, ⟨.bin .eql .no (.loc 13) (.loc 18), (some (8, true)), none, true⟩, ⟨.pick (.loc 8) (.loc 19) (.k (.bool false)), (some (1, false)), none, true⟩, ⟨.pick (.loc 1) (.k (.bool true)) (.loc 20), none, none, true⟩, ⟨.move (.loc 21), none, (some 20), true⟩]))
 (.ops [⟨.move (.var 18), none, none, true⟩, ⟨.bin .add .no (.loc 0) (.k (.int .i64 1)), none, none, true⟩, ⟨.move (.loc 1), none, (some 18), true⟩])))))))))
 ((.seq (.ops [⟨.move (.var 20), none, none, true⟩, ⟨.un .not (.loc 0), none, none, true⟩, ⟨.move (.loc 1), none, none, true⟩, ⟨.move (.var 9), none, none, true⟩, ⟨.move (.var 1), none, none, true⟩, ⟨.move (.var 13), none, none, true⟩, ⟨.indexAddr 3 (.loc 4) (.loc 5), (some (2, true)), none, true⟩, ⟨.fieldAddr 1 (.loc 6), (some (2, true)), none, true⟩, ⟨.load none (.loc 7), (some (2, true)), none, true⟩, ⟨.callS nFHas [(.loc 3), (.loc 8)], (some (2, true)), none, true⟩, ⟨.un .not (.loc 9), (some (2, true)), none, true⟩, ⟨.pick (.loc 2) (.loc 10) (.k (.bool false)), none, (some 21), true⟩])
 (.cond (.var 21) ((.seq (.ops [⟨.move (.k (.bool false)), none, (some 2), true⟩])
 (.ret))) (.skip)))))))))) (.skip)))))))
 (.ops [⟨.move (.var 13), none, none, true⟩, ⟨.bin .add .no (.loc 0) (.k (.int .i64 1)), none, none, true⟩, ⟨.move (.loc 1), none, (some 13), true⟩])))))))))
 ((.seq (.ops [⟨.move (.var 16), none, none, true⟩, ⟨.bin .eql .no (.loc 0) (.k (.int .i64 0)), none, none, true⟩, ⟨.move (.loc 1), none, (some 2), true⟩])
 (.ret))))))))))))))))))))), none⟩
def rf_LMergequeueTestsWhatLands (nmergequeue_Run nLqueueExample nFEqualInts : Nat) : RFunc := ⟨2, 17, [.var 2],
 ((.seq (.ops [⟨.move (.k (.bool false)), none, (some 2), true⟩])
 ((.seq (.ops [⟨.move (.var 0), none, none, true⟩, ⟨.move (.var 1), none, none, true⟩, ⟨.callS nmergequeue_Run [(.loc 0), (.loc 1)], none, none, true⟩, ⟨.move (.loc 2), none, none, true⟩, ⟨.extract (.loc 3) 0, none, none, true⟩, ⟨.extract (.loc 3) 1, none, none, true⟩, ⟨.tomb 1 (.k (.agg [.empty, .empty, .empty])), none, (some 6), true⟩, ⟨.tomb 1 (.k (.agg [.int .i64 0, .int .i64 0])), none, (some 4), true⟩, ⟨.upd 3 0 (.loc 6) (.loc 4), none, (some 6), true⟩, ⟨.upd 2 0 (.loc 7) (.loc 5), none, (some 4), true⟩])
 ((.seq ((.seq (.ops [⟨.callS nLqueueExample [], none, none, true⟩, ⟨.un .not (.loc 0), none, (some 3), true⟩])
 (.cond (.var 3) ((.seq (.ops [⟨.move (.k (.bool false)), none, (some 2), true⟩])
 (.ret))) (.skip))))
 ((.seq (.ops [⟨.move (.k (.empty)), none, (some 14), true⟩])
 ((.seq ((.seq (.ops [⟨.move (.k (.int .i64 0)), none, (some 5), true⟩])
 (.block 0 (.loop ((.seq ((.seq (.ops [⟨.field 0 none (.var 4), none, none, true⟩, ⟨.field 0 none (.var 4), none, none, true⟩, ⟨.bin .eql .no (.loc 1) (.k (.int .i64 0)), none, none, true⟩, ⟨.move (.loc 2), none, none, true⟩, ⟨.move (.var 5), none, none, true⟩, ⟨.field 0 none (.var 6), none, none, true⟩, ⟨.field 0 none (.var 6), none, none, true⟩, ⟨.len (.loc 6), none, none, true⟩, ⟨.bin .lss .no (.loc 4) (.loc 7), none, none, true⟩, ⟨.pick (.loc 3) (.loc 8) (.k (.bool false)), none, (some 7), true⟩])
 (.cond (.var 7) (.skip) (.exit 0))))
 ((.seq (.block 1 ((.seq (.ops [⟨.field 0 none (.var 6), none, none, true⟩, ⟨.field 0 none (.var 6), none, none, true⟩, ⟨.move (.var 5), none, none, true⟩, ⟨.indexAddr 6 (.loc 1) (.loc 2), none, none, true⟩, ⟨.load (some 6) (.loc 3), none, none, true⟩, ⟨.tomb 1 (.k (.agg [.int .i64 0, .int .i64 0, .bool false, .bool false, .bool false, .empty])), none, (some 8), true⟩, ⟨.upd 6 0 (.loc 5) (.loc 4), none, (some 8), true⟩])
 ((.seq (.ops [⟨.move (.k (.int .i64 0)), none, (some 10), true⟩])
 ((.seq ((.seq (.ops [⟨.field 0 none (.var 8), none, none, true⟩, ⟨.field 2 none (.var 8), none, (some 9), true⟩])
 (.cond (.var 9) (.ops [⟨.move (.var 10), none, none, true⟩, ⟨.bin .add .no (.loc 0) (.k (.int .i64 1)), none, none, true⟩, ⟨.move (.loc 1), none, (some 10), true⟩]) (.skip))))
 ((.seq ((.seq (.ops [⟨.field 0 none (.var 8), none, none, true⟩, ⟨.field 3 none (.var 8), none, (some 11), true⟩])
 (.cond (.var 11) (.ops [⟨.move (.var 10), none, none, true⟩, ⟨.bin .add .no (.loc 0) (.k (.int .i64 1)), none, none, true⟩, ⟨.move (.loc 1), none, (some 10), true⟩]) (.skip))))
 ((.seq ((.seq (.ops [⟨.field 0 none (.var 8), none, none, true⟩, ⟨.field 4 none (.var 8), none, (some 12), true⟩])
 (.cond (.var 12) (.ops [⟨.move (.var 10), none, none, true⟩, ⟨.bin .add .no (.loc 0) (.k (.int .i64 1)), none, none, true⟩, ⟨.move (.loc 1), none, (some 10), true⟩]) (.skip))))
 ((.seq ((.seq (.ops [⟨.move (.var 10), none, none, true⟩, ⟨.bin .gtr .no (.loc 0) (.k (.int .i64 1)), none, none, true⟩, ⟨.move (.loc 1), none, none, true⟩, ⟨.move (.var 5), none, none, true⟩, ⟨.move (.var 0), none, none, true⟩, ⟨.bin .lss .no (.loc 3) (.loc 4), none, none, true⟩, ⟨.move (.loc 5), none, none, true⟩, ⟨.move (.var 10), none, none, true⟩, ⟨.bin .eql .no (.loc 7) (.k (.int .i64 0)), none, none, true⟩, ⟨.pick (.loc 6) (.loc 8) (.k (.bool false)), none, none, true⟩, ⟨.pick (.loc 2) (.k (.bool true)) (.loc 9), none, none, true⟩, ⟨.move (.loc 10), none, none, true⟩, ⟨.move (.var 5), none, none, true⟩, ⟨.bin .eql .no (.loc 12) (.k (.int .i64 0)), none, none, true⟩, ⟨.move (.loc 13), none, none, true⟩, ⟨.field 0 none (.var 8), none, none, true⟩, ⟨.field 2 none (.var 8), none, none, true⟩, ⟨.un .not (.loc 16), none, none, true⟩, ⟨.pick (.loc 14) (.loc 17) (.k (.bool false)), none, none, true⟩, ⟨.pick (.loc 11) (.k (.bool true)) (.loc 18), none, (some 13), true⟩])
 (.cond (.var 13) ((.seq (.ops [⟨.move (.k (.bool false)), none, (some 2), true⟩])
 (.ret))) (.skip))))
 ((.seq ((.seq (.ops [⟨.move (.var 10), none, none, true⟩, ⟨.bin .eql .no (.loc 0) (.k (.int .i64 0)), none, none, true⟩, ⟨.move (.loc 1), none, none, true⟩, ⟨.field 0 none (.var 8), (some (2, true)), none, true⟩, ⟨.field 5 none (.var 8), (some (2, true)), none, true⟩, ⟨.len (.loc 4), (some (2, true)), none, true⟩, ⟨.bin .gtr .no (.loc 5) (.k (.int .i64 0)), (some (2, true)), none, true⟩, ⟨.pick (.loc 2) (.loc 6) (.k (.bool false)), none, none, true⟩, ⟨.move (.loc 7), none, none, true⟩, ⟨.move (.var 10), (some (8, false)), none, true⟩, ⟨.bin .eql .no (.loc 9) (.k (.int .i64 1)), (some (8, false)), none, true⟩, ⟨.move (.loc 10), (some (8, false)), none, true⟩, ⟨.field 0 none (.var 8), (some (11, true)), none, true⟩, ⟨.field 5 none (.var 8), (some (11, true)), none, true⟩, ⟨.move (.var 14), (some (11, true)), none, true⟩, ⟨.callS nFEqualInts [(.loc 13), (.loc 14)], (some (11, true)), none, true⟩, ⟨.un .not (.loc 15), (some (11, true)), none, true⟩, ⟨.pick (.loc 11) (.loc 16) (.k (.bool false)), (some (8, false)), none, true⟩, ⟨.pick (.loc 8) (.k (.bool true)) (.loc 17), none, (some 15), true⟩])
 (.cond (.var 15) ((.seq (.ops [⟨.move (.k (.bool false)), none, (some 2), true⟩])
 (.ret))) (.skip))))
 ((.seq ((.seq (.ops [⟨.move (.var 5), none, none, true⟩, ⟨.bin .gtr .no (.loc 0) (.k (.int .i64 0)), none, none, true⟩, ⟨.move (.loc 1), none, none, true⟩, ⟨.field 0 none (.var 6), none, none, false⟩, ⟨.field 0 none (.var 6), none, none, false⟩, ⟨.move (.var 5), none, none, false⟩, ⟨.bin .sub .no (.loc 5) (.k (.int .i64 1)), none, none, false⟩, ⟨.indexAddr 6 (.loc 4) (.loc 6), (some (2, true)), none, false⟩, ⟨.fieldAddr 1 (.loc 7), (some (2, true)), none, false⟩, ⟨.load none (.loc 8), (some (2, true)), none, false⟩, ⟨.field 0 none (.var 8), none, none, false⟩, ⟨.field 1 none (.var 8), none, none, false⟩, ⟨.bin .lss .no (.loc 9) (.loc 11), (some (2, true)), none, true⟩, ⟨.pick (.loc 2) (.loc 12) (.k (.bool false)), none, (some 16), true⟩])
 (.cond (.var 16) ((.seq (.ops [⟨.move (.k (.bool false)), none, (some 2), true⟩])
 (.ret))) (.skip))))
 (.ops [⟨.move (.var 14), none, none, true⟩, ⟨.field 0 none (.var 8), none, none, true⟩, ⟨.field 0 none (.var 8), none, none, true⟩, ⟨.buildSlice 1 [.int .i64 0] [(0, 1, (.loc 2))] 1, none, none, true⟩, ⟨.append 1 8 (.loc 0) (.loc 3), none, none, true⟩, ⟨.move (.loc 4), none, (some 14), true⟩]))))))))))))))))))
 (.ops [⟨.move (.var 5), none, none, true⟩, ⟨.bin .add .no (.loc 0) (.k (.int .i64 1)), none, none, true⟩, ⟨.move (.loc 1), none, (some 5), true⟩])))))))))
 ((.seq (.ops [⟨.move (.k (.bool true)), none, (some 2), true⟩])
 (.ret))))))))))))), none⟩
theorem v_LMergequeueTestsWhatLands {F : Nat → Option RFunc} {me nmergequeue_Run nLqueueExample nFEqualInts : Nat} (hF : F me = some (rf_LMergequeueTestsWhatLands nmergequeue_Run nLqueueExample nFEqualInts)) {fl : Nat} {H : Heap} {Q : AV → Heap → Prop} (window0 : Int) (events1 : AV)
  (h : Ret F fl nmergequeue_Run [(.int .i64 window0), events1] H (fun v8 H7 => ∃ (r2 : AV) (r3 : AV) (r4 : AV) (r5 : Int) (r6 : Int), v8 = (.tuple [(.agg [r2, r3, r4]), (.agg [(.int .i64 r5), (.int .i64 r6)])]) ∧ ∀ (H9 : Heap), Dead1 H7 1 H9 → ∀ (H10 : Heap), Dead1 H9 1 H10 → Scal r2 ∧ Scal r3 ∧ Scal r4 ∧ Ret F fl nLqueueExample [] H10 (fun v16 H15 => ∃ (r14 : Bool), v16 = (.bool r14) ∧ ((¬(r14 = true)) → Q (.bool false) H15) ∧ (¬(¬(r14 = true)) → ∃ (J17 : Nat → Int → AV → Heap → Prop) (k18 : Nat), J17 k18 0 .empty H15 ∧ (∀ (m19 : Nat) (i21 : Int) (before29 : AV) (H32 : Heap), J17 m19 i21 before29 H32 → ∃ len33 : Nat, lenA r2 = some len33 ∧ ((((r5 = 0) ∧ (i21 < (len33 : Int)))) → ∃ (e34 : Int) (e35 : Int) (e36 : Bool) (e37 : Bool) (e38 : Bool) (e39 : AV), getA H32 6 (some 6) r2 i21 0 = some (.agg [(.int .i64 e34), (.int .i64 e35), (.bool e36), (.bool e37), (.bool e38), e39]) ∧ ∀ (H41 : Heap), Dead1 H32 1 H41 → Scal e39 ∧ ∃ (R43 : Int → Prop), (((e36 = true) → R43 (IntKind.wrap .i64 (0 + 1))) ∧ (¬(e36 = true) → R43 0)) ∧ (∀ (state45 : Int), R43 state45 → ∃ (R46 : Int → Prop), (((e37 = true) → R46 (IntKind.wrap .i64 (state45 + 1))) ∧ (¬(e37 = true) → R46 state45)) ∧ (∀ (state47 : Int), R46 state47 → ∃ (R49 : Int → Prop), (((e38 = true) → R49 (IntKind.wrap .i64 (state47 + 1))) ∧ (¬(e38 = true) → R49 state47)) ∧ (∀ (state50 : Int), R49 state50 → ((((((state50 > 1) ∨ (((i21 < window0) ∧ (state50 = 0))))) ∨ (((i21 = 0) ∧ (¬(e36 = true)))))) → Q (.bool false) H41) ∧ (¬(((((state50 > 1) ∨ (((i21 < window0) ∧ (state50 = 0))))) ∨ (((i21 = 0) ∧ (¬(e36 = true)))))) → ((state50 = 0) → ∃ len52 : Nat, lenA e39 = some len52 ∧ (((len52 : Int) > 0) → Q (.bool false) H41) ∧ (¬((len52 : Int) > 0) → ((state50 = 1) → Ret F fl nFEqualInts [e39, before29] H41 (fun v55 H54 => ∃ (r53 : Bool), v55 = (.bool r53) ∧ ((¬(r53 = true)) → Q (.bool false) H54) ∧ (¬(¬(r53 = true)) → ((i21 > 0) → ∃ (e56 : Int), getA H54 6 none r2 (IntKind.wrap .i64 (i21 - 1)) 1 = some (.int .i64 e56) ∧ ((e56 < e35) → Q (.bool false) H54) ∧ (¬(e56 < e35) → ∀ (b58 : Nat) (H59 : Heap), NewB H54 1 [(.int .i64 e34)] b58 H59 → ∃ (a60 : AV) (H61 : Heap), appA fl true 1 8 H59 before29 (.slice b58 0 1 (some 1)) = some (a60, H61) ∧ ∃ m62 : Nat, m62 < m19 ∧ J17 m62 (IntKind.wrap .i64 (i21 + 1)) a60 H61)) ∧ (¬(i21 > 0) → ∀ (b63 : Nat) (H64 : Heap), NewB H54 1 [(.int .i64 e34)] b63 H64 → ∃ (a65 : AV) (H66 : Heap), appA fl true 1 8 H64 before29 (.slice b63 0 1 (some 1)) = some (a65, H66) ∧ ∃ m67 : Nat, m67 < m19 ∧ J17 m67 (IntKind.wrap .i64 (i21 + 1)) a65 H66)))) ∧ (¬(state50 = 1) → ((i21 > 0) → ∃ (e68 : Int), getA H41 6 none r2 (IntKind.wrap .i64 (i21 - 1)) 1 = some (.int .i64 e68) ∧ ((e68 < e35) → Q (.bool false) H41) ∧ (¬(e68 < e35) → ∀ (b70 : Nat) (H71 : Heap), NewB H41 1 [(.int .i64 e34)] b70 H71 → ∃ (a72 : AV) (H73 : Heap), appA fl true 1 8 H71 before29 (.slice b70 0 1 (some 1)) = some (a72, H73) ∧ ∃ m74 : Nat, m74 < m19 ∧ J17 m74 (IntKind.wrap .i64 (i21 + 1)) a72 H73)) ∧ (¬(i21 > 0) → ∀ (b75 : Nat) (H76 : Heap), NewB H41 1 [(.int .i64 e34)] b75 H76 → ∃ (a77 : AV) (H78 : Heap), appA fl true 1 8 H76 before29 (.slice b75 0 1 (some 1)) = some (a77, H78) ∧ ∃ m79 : Nat, m79 < m19 ∧ J17 m79 (IntKind.wrap .i64 (i21 + 1)) a77 H78)))) ∧ (¬(state50 = 0) → ((state50 = 1) → Ret F fl nFEqualInts [e39, before29] H41 (fun v82 H81 => ∃ (r80 : Bool), v82 = (.bool r80) ∧ ((¬(r80 = true)) → Q (.bool false) H81) ∧ (¬(¬(r80 = true)) → ((i21 > 0) → ∃ (e83 : Int), getA H81 6 none r2 (IntKind.wrap .i64 (i21 - 1)) 1 = some (.int .i64 e83) ∧ ((e83 < e35) → Q (.bool false) H81) ∧ (¬(e83 < e35) → ∀ (b85 : Nat) (H86 : Heap), NewB H81 1 [(.int .i64 e34)] b85 H86 → ∃ (a87 : AV) (H88 : Heap), appA fl true 1 8 H86 before29 (.slice b85 0 1 (some 1)) = some (a87, H88) ∧ ∃ m89 : Nat, m89 < m19 ∧ J17 m89 (IntKind.wrap .i64 (i21 + 1)) a87 H88)) ∧ (¬(i21 > 0) → ∀ (b90 : Nat) (H91 : Heap), NewB H81 1 [(.int .i64 e34)] b90 H91 → ∃ (a92 : AV) (H93 : Heap), appA fl true 1 8 H91 before29 (.slice b90 0 1 (some 1)) = some (a92, H93) ∧ ∃ m94 : Nat, m94 < m19 ∧ J17 m94 (IntKind.wrap .i64 (i21 + 1)) a92 H93)))) ∧ (¬(state50 = 1) → ((i21 > 0) → ∃ (e95 : Int), getA H41 6 none r2 (IntKind.wrap .i64 (i21 - 1)) 1 = some (.int .i64 e95) ∧ ((e95 < e35) → Q (.bool false) H41) ∧ (¬(e95 < e35) → ∀ (b97 : Nat) (H98 : Heap), NewB H41 1 [(.int .i64 e34)] b97 H98 → ∃ (a99 : AV) (H100 : Heap), appA fl true 1 8 H98 before29 (.slice b97 0 1 (some 1)) = some (a99, H100) ∧ ∃ m101 : Nat, m101 < m19 ∧ J17 m101 (IntKind.wrap .i64 (i21 + 1)) a99 H100)) ∧ (¬(i21 > 0) → ∀ (b102 : Nat) (H103 : Heap), NewB H41 1 [(.int .i64 e34)] b102 H103 → ∃ (a104 : AV) (H105 : Heap), appA fl true 1 8 H103 before29 (.slice b102 0 1 (some 1)) = some (a104, H105) ∧ ∃ m106 : Nat, m106 < m19 ∧ J17 m106 (IntKind.wrap .i64 (i21 + 1)) a104 H105)))))))) ∧ (¬(((r5 = 0) ∧ (i21 < (len33 : Int)))) → Q (.bool true) H32)))))) : Ret F fl me [(.int .i64 window0), events1] H Q := by
  refine ret_intro hF rfl ?_
  refine w_seq ?_
  refine w_run [0] ?_
  refine t_done [(.int .i64 window0), events1, (.bool false), .undef, .undef, .undef, .undef, .undef, .undef, .undef, .undef, .undef, .undef, .undef, .undef, .undef, .undef] H (by kernel_rfl) ?_
  refine then_norm ?_
  refine w_seq ?_
  refine w_run [0, 0, 1, 0, 0, 0, 1, 1, 1, 1] ?_
  refine t_call true nmergequeue_Run [(.int .i64 window0), events1] H (by kernel_rfl) h ?_
  clear h
  rintro _ H7 ⟨r2, r3, r4, r5, r6, rfl, h⟩
  obtain ⟨H9, hb⟩ : ∃ H', Dead1 H7 1 H' := ⟨_, ⟨rfl⟩⟩
  replace h := h H9 hb
  refine t_tomb true 1 (.agg [.empty, .empty, .empty]) [.empty, .empty, .empty] H9 H7 (by kernel_rfl) rfl hb ?_
  obtain ⟨H10, hb⟩ : ∃ H', Dead1 H9 1 H' := ⟨_, ⟨rfl⟩⟩
  replace h := h H10 hb
  refine t_tomb true 1 (.agg [(.int .i64 0), (.int .i64 0)]) [(.int .i64 0), (.int .i64 0)] H10 H9 (by kernel_rfl) rfl hb ?_
  obtain ⟨hs11, h⟩ := h
  obtain ⟨hs12, h⟩ := h
  obtain ⟨hs13, h⟩ := h
  refine t_upd true 3 0 [.empty, .empty, .empty] (.agg [r2, r3, r4]) [r2, r3, r4] [r2, r3, r4] H10 (by kernel_rfl) rfl (all_c hs11.2 (all_c hs12.2 (all_c hs13.2 all_n))) ⟨rfl, Nat.le_of_ble_eq_true (by kernel_rfl), rfl⟩ ?_
  refine t_upd true 2 0 [(.int .i64 0), (.int .i64 0)] (.agg [(.int .i64 r5), (.int .i64 r6)]) [(.int .i64 r5), (.int .i64 r6)] [(.int .i64 r5), (.int .i64 r6)] H10 (by kernel_rfl) rfl (all_c rfl (all_c rfl all_n)) ⟨rfl, Nat.le_of_ble_eq_true (by kernel_rfl), rfl⟩ ?_
  refine t_done [(.int .i64 window0), events1, (.bool false), .undef, (.agg [(.int .i64 r5), (.int .i64 r6)]), .undef, (.agg [r2, r3, r4]), .undef, .undef, .undef, .undef, .undef, .undef, .undef, .undef, .undef, .undef] H10 (by kernel_rfl) ?_
  refine then_norm ?_
  refine w_seq ?_
  refine w_seq ?_
  refine w_run [1, 0] ?_
  refine t_call true nLqueueExample [] H10 (by kernel_rfl) h ?_
  clear h
  rintro _ H15 ⟨r14, rfl, h⟩
  refine t_done [(.int .i64 window0), events1, (.bool false), (.bool (!r14)), (.agg [(.int .i64 r5), (.int .i64 r6)]), .undef, (.agg [r2, r3, r4]), .undef, .undef, .undef, .undef, .undef, .undef, .undef, .undef, .undef, .undef] H15 (by kernel_rfl) ?_
  refine then_norm ?_
  refine w_cond (t := (!r14)) rfl (fun hc => ?_) (fun hc => ?_)
  · replace h := h.1 ((is_not is_raw).t hc)
    refine w_seq ?_
    refine w_run [0] ?_
    refine t_done [(.int .i64 window0), events1, (.bool false), (.bool (!r14)), (.agg [(.int .i64 r5), (.int .i64 r6)]), .undef, (.agg [r2, r3, r4]), .undef, .undef, .undef, .undef, .undef, .undef, .undef, .undef, .undef, .undef] H15 (by kernel_rfl) ?_
    refine then_norm ?_
    refine w_ret ?_
    refine then_ret ?_
    exact body_ret (vs := [(.bool false)]) _ (by kernel_rfl) rfl h
  · replace h := h.2 ((is_not is_raw).f hc)
    refine w_skip ?_
    refine then_norm ?_
    refine w_seq ?_
    refine w_run [0] ?_
    refine t_done [(.int .i64 window0), events1, (.bool false), (.bool (!r14)), (.agg [(.int .i64 r5), (.int .i64 r6)]), .undef, (.agg [r2, r3, r4]), .undef, .undef, .undef, .undef, .undef, .undef, .undef, .empty, .undef, .undef] H15 (by kernel_rfl) ?_
    refine then_norm ?_
    refine w_seq ?_
    refine w_seq ?_
    refine w_run [0] ?_
    refine t_done [(.int .i64 window0), events1, (.bool false), (.bool (!r14)), (.agg [(.int .i64 r5), (.int .i64 r6)]), (.int .i64 0), (.agg [r2, r3, r4]), .undef, .undef, .undef, .undef, .undef, .undef, .undef, .empty, .undef, .undef] H15 (by kernel_rfl) ?_
    refine then_norm ?_
    refine w_block ?_
    obtain ⟨J17, k18, h0, h⟩ := h
    refine w_loop (I := fun mI EI HI => ∃ (d20 : AV) (i21 : Int) (d22 : AV) (d23 : AV) (d24 : AV) (d25 : AV) (d26 : AV) (d27 : AV) (d28 : AV) (before29 : AV) (d30 : AV) (d31 : AV), EI = [(.int .i64 window0), events1, d20, (.bool (!r14)), (.agg [(.int .i64 r5), (.int .i64 r6)]), (.int .i64 i21), (.agg [r2, r3, r4]), d22, d23, d24, d25, d26, d27, d28, before29, d30, d31] ∧ J17 mI i21 before29 HI) ?_ k18 ⟨_, _, _, _, _, _, _, _, _, _, _, _, rfl, h0⟩
    clear h0
    rintro m19 EI H32 ⟨d20, i21, d22, d23, d24, d25, d26, d27, d28, before29, d30, d31, rfl, hJ⟩
    replace h := h m19 i21 before29 H32 hJ
    clear hJ
    refine w_seq ?_
    refine w_seq ?_
    refine w_run [0, 0, 0, 0, 0, 0, 0, 1, 0, 0] ?_
    obtain ⟨len33, hl, h⟩ := h
    refine t_len true r2 len33 H32 (by kernel_rfl) hl ?_
    refine t_done [(.int .i64 window0), events1, d20, (.bool (!r14)), (.agg [(.int .i64 r5), (.int .i64 r6)]), (.int .i64 i21), (.agg [r2, r3, r4]), (.bool (((r5) == 0) && (decide (i21 < (len33 : Int))))), d23, d24, d25, d26, d27, d28, before29, d30, d31] H32 (by kernel_rfl) ?_
    refine then_norm ?_
    refine w_cond (t := (((r5) == 0) && (decide (i21 < (len33 : Int))))) rfl (fun hc => ?_) (fun hc => ?_)
    · replace h := h.1 ((is_and is_eq is_dec).t hc)
      refine w_skip ?_
      refine then_norm ?_
      refine w_seq ?_
      refine w_block ?_
      refine w_seq ?_
      refine w_run [0, 0, 0, 1, 1, 1, 1] ?_
      obtain ⟨e34, e35, e36, e37, e38, e39, hg40, h⟩ := h
      refine t_idxG true 6 r2 .i64 i21 H32 (by kernel_rfl) hg40 ?_
      refine t_loadG true (some 6) 6 r2 i21 0 (.agg [(.int .i64 e34), (.int .i64 e35), (.bool e36), (.bool e37), (.bool e38), e39]) H32 (by kernel_rfl) hg40 ?_
      obtain ⟨H41, hb⟩ : ∃ H', Dead1 H32 1 H' := ⟨_, ⟨rfl⟩⟩
      replace h := h H41 hb
      refine t_tomb true 1 (.agg [(.int .i64 0), (.int .i64 0), (.bool false), (.bool false), (.bool false), .empty]) [(.int .i64 0), (.int .i64 0), (.bool false), (.bool false), (.bool false), .empty] H41 H32 (by kernel_rfl) rfl hb ?_
      obtain ⟨hs42, h⟩ := h
      refine t_upd true 6 0 [(.int .i64 0), (.int .i64 0), (.bool false), (.bool false), (.bool false), .empty] (.agg [(.int .i64 e34), (.int .i64 e35), (.bool e36), (.bool e37), (.bool e38), e39]) [(.int .i64 e34), (.int .i64 e35), (.bool e36), (.bool e37), (.bool e38), e39] [(.int .i64 e34), (.int .i64 e35), (.bool e36), (.bool e37), (.bool e38), e39] H41 (by kernel_rfl) rfl (all_c rfl (all_c rfl (all_c rfl (all_c rfl (all_c rfl (all_c hs42.2 all_n)))))) ⟨rfl, Nat.le_of_ble_eq_true (by kernel_rfl), rfl⟩ ?_
      refine t_done [(.int .i64 window0), events1, d20, (.bool (!r14)), (.agg [(.int .i64 r5), (.int .i64 r6)]), (.int .i64 i21), (.agg [r2, r3, r4]), (.bool (((r5) == 0) && (decide (i21 < (len33 : Int))))), (.agg [(.int .i64 e34), (.int .i64 e35), (.bool e36), (.bool e37), (.bool e38), e39]), d24, d25, d26, d27, d28, before29, d30, d31] H41 (by kernel_rfl) ?_
      refine then_norm ?_
      refine w_seq ?_
      refine w_run [0] ?_
      refine t_done [(.int .i64 window0), events1, d20, (.bool (!r14)), (.agg [(.int .i64 r5), (.int .i64 r6)]), (.int .i64 i21), (.agg [r2, r3, r4]), (.bool (((r5) == 0) && (decide (i21 < (len33 : Int))))), (.agg [(.int .i64 e34), (.int .i64 e35), (.bool e36), (.bool e37), (.bool e38), e39]), d24, (.int .i64 0), d26, d27, d28, before29, d30, d31] H41 (by kernel_rfl) ?_
      refine then_norm ?_
      refine w_seq ?_
      obtain ⟨R43, h, hK⟩ := h
      refine w_join (fun EI HI => ∃ (d44 : AV) (state45 : Int), EI = [(.int .i64 window0), events1, d20, (.bool (!r14)), (.agg [(.int .i64 r5), (.int .i64 r6)]), (.int .i64 i21), (.agg [r2, r3, r4]), (.bool (((r5) == 0) && (decide (i21 < (len33 : Int))))), (.agg [(.int .i64 e34), (.int .i64 e35), (.bool e36), (.bool e37), (.bool e38), e39]), d44, (.int .i64 state45), d26, d27, d28, before29, d30, d31] ∧ H41 = HI ∧ R43 state45) ?_ ?_
      · clear hK
        refine w_seq ?_
        refine w_run [0, 0] ?_
        refine t_done [(.int .i64 window0), events1, d20, (.bool (!r14)), (.agg [(.int .i64 r5), (.int .i64 r6)]), (.int .i64 i21), (.agg [r2, r3, r4]), (.bool (((r5) == 0) && (decide (i21 < (len33 : Int))))), (.agg [(.int .i64 e34), (.int .i64 e35), (.bool e36), (.bool e37), (.bool e38), e39]), (.bool e36), (.int .i64 0), d26, d27, d28, before29, d30, d31] H41 (by kernel_rfl) ?_
        refine then_norm ?_
        refine w_cond (t := e36) rfl (fun hc => ?_) (fun hc => ?_)
        · replace h := h.1 (is_raw.t hc)
          refine w_run [0, 0, 0] ?_
          refine t_done [(.int .i64 window0), events1, d20, (.bool (!r14)), (.agg [(.int .i64 r5), (.int .i64 r6)]), (.int .i64 i21), (.agg [r2, r3, r4]), (.bool (((r5) == 0) && (decide (i21 < (len33 : Int))))), (.agg [(.int .i64 e34), (.int .i64 e35), (.bool e36), (.bool e37), (.bool e38), e39]), (.bool e36), (.int .i64 (IntKind.wrap .i64 (0 + 1))), d26, d27, d28, before29, d30, d31] H41 (by kernel_rfl) ?_
          refine join_norm ⟨_, _, rfl, rfl, h⟩
        · replace h := h.2 (is_raw.f hc)
          refine w_skip ?_
          refine join_norm ⟨_, _, rfl, rfl, h⟩
      · clear h
        rintro EI HI ⟨d44, state45, rfl, rfl, hJ⟩
        have h := hK state45 hJ
        clear hJ hK
        refine then_norm ?_
        refine w_seq ?_
        obtain ⟨R46, h, hK⟩ := h
        refine w_join (fun EI HI => ∃ (state47 : Int) (d48 : AV), EI = [(.int .i64 window0), events1, d20, (.bool (!r14)), (.agg [(.int .i64 r5), (.int .i64 r6)]), (.int .i64 i21), (.agg [r2, r3, r4]), (.bool (((r5) == 0) && (decide (i21 < (len33 : Int))))), (.agg [(.int .i64 e34), (.int .i64 e35), (.bool e36), (.bool e37), (.bool e38), e39]), d44, (.int .i64 state47), d48, d27, d28, before29, d30, d31] ∧ H41 = HI ∧ R46 state47) ?_ ?_
        · clear hK
          refine w_seq ?_
          refine w_run [0, 0] ?_
          refine t_done [(.int .i64 window0), events1, d20, (.bool (!r14)), (.agg [(.int .i64 r5), (.int .i64 r6)]), (.int .i64 i21), (.agg [r2, r3, r4]), (.bool (((r5) == 0) && (decide (i21 < (len33 : Int))))), (.agg [(.int .i64 e34), (.int .i64 e35), (.bool e36), (.bool e37), (.bool e38), e39]), d44, (.int .i64 state45), (.bool e37), d27, d28, before29, d30, d31] H41 (by kernel_rfl) ?_
          refine then_norm ?_
          refine w_cond (t := e37) rfl (fun hc => ?_) (fun hc => ?_)
          · replace h := h.1 (is_raw.t hc)
            refine w_run [0, 0, 0] ?_
            refine t_done [(.int .i64 window0), events1, d20, (.bool (!r14)), (.agg [(.int .i64 r5), (.int .i64 r6)]), (.int .i64 i21), (.agg [r2, r3, r4]), (.bool (((r5) == 0) && (decide (i21 < (len33 : Int))))), (.agg [(.int .i64 e34), (.int .i64 e35), (.bool e36), (.bool e37), (.bool e38), e39]), d44, (.int .i64 (IntKind.wrap .i64 (state45 + 1))), (.bool e37), d27, d28, before29, d30, d31] H41 (by kernel_rfl) ?_
            refine join_norm ⟨_, _, rfl, rfl, h⟩
          · replace h := h.2 (is_raw.f hc)
            refine w_skip ?_
            refine join_norm ⟨_, _, rfl, rfl, h⟩
        · clear h
          rintro EI HI ⟨state47, d48, rfl, rfl, hJ⟩
          have h := hK state47 hJ
          clear hJ hK
          refine then_norm ?_
          refine w_seq ?_
          obtain ⟨R49, h, hK⟩ := h
          refine w_join (fun EI HI => ∃ (state50 : Int) (d51 : AV), EI = [(.int .i64 window0), events1, d20, (.bool (!r14)), (.agg [(.int .i64 r5), (.int .i64 r6)]), (.int .i64 i21), (.agg [r2, r3, r4]), (.bool (((r5) == 0) && (decide (i21 < (len33 : Int))))), (.agg [(.int .i64 e34), (.int .i64 e35), (.bool e36), (.bool e37), (.bool e38), e39]), d44, (.int .i64 state50), d48, d51, d28, before29, d30, d31] ∧ H41 = HI ∧ R49 state50) ?_ ?_
          · clear hK
            refine w_seq ?_
            refine w_run [0, 0] ?_
            refine t_done [(.int .i64 window0), events1, d20, (.bool (!r14)), (.agg [(.int .i64 r5), (.int .i64 r6)]), (.int .i64 i21), (.agg [r2, r3, r4]), (.bool (((r5) == 0) && (decide (i21 < (len33 : Int))))), (.agg [(.int .i64 e34), (.int .i64 e35), (.bool e36), (.bool e37), (.bool e38), e39]), d44, (.int .i64 state47), d48, (.bool e38), d28, before29, d30, d31] H41 (by kernel_rfl) ?_
            refine then_norm ?_
            refine w_cond (t := e38) rfl (fun hc => ?_) (fun hc => ?_)
            · replace h := h.1 (is_raw.t hc)
              refine w_run [0, 0, 0] ?_
              refine t_done [(.int .i64 window0), events1, d20, (.bool (!r14)), (.agg [(.int .i64 r5), (.int .i64 r6)]), (.int .i64 i21), (.agg [r2, r3, r4]), (.bool (((r5) == 0) && (decide (i21 < (len33 : Int))))), (.agg [(.int .i64 e34), (.int .i64 e35), (.bool e36), (.bool e37), (.bool e38), e39]), d44, (.int .i64 (IntKind.wrap .i64 (state47 + 1))), d48, (.bool e38), d28, before29, d30, d31] H41 (by kernel_rfl) ?_
              refine join_norm ⟨_, _, rfl, rfl, h⟩
            · replace h := h.2 (is_raw.f hc)
              refine w_skip ?_
              refine join_norm ⟨_, _, rfl, rfl, h⟩
          · clear h
            rintro EI HI ⟨state50, d51, rfl, rfl, hJ⟩
            have h := hK state50 hJ
            clear hJ hK
            refine then_norm ?_
            refine w_seq ?_
            refine w_seq ?_
            refine w_run [0, 0, 0, 0, 0, 0, 0, 0, 0, 0, 0, 0, 0, 0, 0, 0, 0, 0, 0, 0] ?_
            refine t_done [(.int .i64 window0), events1, d20, (.bool (!r14)), (.agg [(.int .i64 r5), (.int .i64 r6)]), (.int .i64 i21), (.agg [r2, r3, r4]), (.bool (((r5) == 0) && (decide (i21 < (len33 : Int))))), (.agg [(.int .i64 e34), (.int .i64 e35), (.bool e36), (.bool e37), (.bool e38), e39]), d44, (.int .i64 state50), d48, d51, (.bool (((decide (state50 > 1)) || ((decide (i21 < window0)) && ((state50) == 0))) || (((i21) == 0) && (!e36)))), before29, d30, d31] H41 (by kernel_rfl) ?_
            refine then_norm ?_
            refine w_cond (t := (((decide (state50 > 1)) || ((decide (i21 < window0)) && ((state50) == 0))) || (((i21) == 0) && (!e36)))) rfl (fun hc => ?_) (fun hc => ?_)
            · replace h := h.1 ((is_or (is_or is_dec (is_and is_dec is_eq)) (is_and is_eq (is_not is_raw))).t hc)
              refine w_seq ?_
              refine w_run [0] ?_
              refine t_done [(.int .i64 window0), events1, (.bool false), (.bool (!r14)), (.agg [(.int .i64 r5), (.int .i64 r6)]), (.int .i64 i21), (.agg [r2, r3, r4]), (.bool (((r5) == 0) && (decide (i21 < (len33 : Int))))), (.agg [(.int .i64 e34), (.int .i64 e35), (.bool e36), (.bool e37), (.bool e38), e39]), d44, (.int .i64 state50), d48, d51, (.bool (((decide (state50 > 1)) || ((decide (i21 < window0)) && ((state50) == 0))) || (((i21) == 0) && (!e36)))), before29, d30, d31] H41 (by kernel_rfl) ?_
              refine then_norm ?_
              refine w_ret ?_
              refine then_ret ?_
              refine block_ret ?_
              refine then_ret ?_
              refine loop_ret ?_
              refine block_ret ?_
              refine then_ret ?_
              exact body_ret (vs := [(.bool false)]) _ (by kernel_rfl) rfl h
            · replace h := h.2 ((is_or (is_or is_dec (is_and is_dec is_eq)) (is_and is_eq (is_not is_raw))).f hc)
              refine w_skip ?_
              refine then_norm ?_
              refine w_seq ?_
              refine w_seq ?_
              refine w_run [0, 0, 0, 2, 2, 3, 2, 0, 0, 2, 2, 2, 2, 2, 2, 3, 2, 2, 0] ?_
              refine t_gd ((state50) == 0) true (by kernel_rfl) (fun hc => ?_) (fun hc => ?_)
              · replace h := h.1 (is_eq.t hc)
                refine t_gd true true (by kernel_rfl) (fun _ => ?_) (fun hn => by cases hn)
                refine t_gd true true (by kernel_rfl) (fun _ => ?_) (fun hn => by cases hn)
                obtain ⟨len52, hl, h⟩ := h
                refine t_len true e39 len52 H41 (by kernel_rfl) hl ?_
                refine t_gd true true (by kernel_rfl) (fun _ => ?_) (fun hn => by cases hn)
                refine t_gd (decide ((len52 : Int) > 0)) false (by kernel_rfl) (fun hc => ?_) (fun hc => ?_)
                · replace h := h.2 (is_dec.f hc)
                  refine t_gd false false (by kernel_rfl) (fun _ => ?_) (fun hn => by cases hn)
                  refine t_gd false false (by kernel_rfl) (fun _ => ?_) (fun hn => by cases hn)
                  refine t_gd ((state50) == 1) true (by kernel_rfl) (fun hc => ?_) (fun hc => ?_)
                  · replace h := h.1 (is_eq.t hc)
                    refine t_gd true true (by kernel_rfl) (fun _ => ?_) (fun hn => by cases hn)
                    refine t_gd true true (by kernel_rfl) (fun _ => ?_) (fun hn => by cases hn)
                    refine t_gd true true (by kernel_rfl) (fun _ => ?_) (fun hn => by cases hn)
                    refine t_call true nFEqualInts [e39, before29] H41 (by kernel_rfl) h ?_
                    clear h
                    rintro _ H54 ⟨r53, rfl, h⟩
                    refine t_gd true true (by kernel_rfl) (fun _ => ?_) (fun hn => by cases hn)
                    refine t_gd false false (by kernel_rfl) (fun _ => ?_) (fun hn => by cases hn)
                    refine t_done [(.int .i64 window0), events1, d20, (.bool (!r14)), (.agg [(.int .i64 r5), (.int .i64 r6)]), (.int .i64 i21), (.agg [r2, r3, r4]), (.bool (((r5) == 0) && (decide (i21 < (len33 : Int))))), (.agg [(.int .i64 e34), (.int .i64 e35), (.bool e36), (.bool e37), (.bool e38), e39]), d44, (.int .i64 state50), d48, d51, (.bool (((decide (state50 > 1)) || ((decide (i21 < window0)) && ((state50) == 0))) || (((i21) == 0) && (!e36)))), before29, (.bool (!r53)), d31] H54 (by kernel_rfl) ?_
                    refine then_norm ?_
                    refine w_cond (t := (!r53)) rfl (fun hc => ?_) (fun hc => ?_)
                    · replace h := h.1 ((is_not is_raw).t hc)
                      refine w_seq ?_
                      refine w_run [0] ?_
                      refine t_done [(.int .i64 window0), events1, (.bool false), (.bool (!r14)), (.agg [(.int .i64 r5), (.int .i64 r6)]), (.int .i64 i21), (.agg [r2, r3, r4]), (.bool (((r5) == 0) && (decide (i21 < (len33 : Int))))), (.agg [(.int .i64 e34), (.int .i64 e35), (.bool e36), (.bool e37), (.bool e38), e39]), d44, (.int .i64 state50), d48, d51, (.bool (((decide (state50 > 1)) || ((decide (i21 < window0)) && ((state50) == 0))) || (((i21) == 0) && (!e36)))), before29, (.bool (!r53)), d31] H54 (by kernel_rfl) ?_
                      refine then_norm ?_
                      refine w_ret ?_
                      refine then_ret ?_
                      refine block_ret ?_
                      refine then_ret ?_
                      refine loop_ret ?_
                      refine block_ret ?_
                      refine then_ret ?_
                      exact body_ret (vs := [(.bool false)]) _ (by kernel_rfl) rfl h
                    · replace h := h.2 ((is_not is_raw).f hc)
                      refine w_skip ?_
                      refine then_norm ?_
                      refine w_seq ?_
                      refine w_seq ?_
                      refine w_run [0, 0, 0, 0, 0, 0, 0, 3, 3, 3, 0, 0, 2, 0] ?_
                      refine t_gd (decide (i21 > 0)) true (by kernel_rfl) (fun hc => ?_) (fun hc => ?_)
                      · replace h := h.1 (is_dec.t hc)
                        obtain ⟨e56, hg57, h⟩ := h
                        refine t_idxG false 6 r2 .i64 (IntKind.wrap .i64 (i21 - 1)) H54 (by kernel_rfl) hg57 ?_
                        refine t_gd true true (by kernel_rfl) (fun _ => ?_) (fun hn => by cases hn)
                        refine t_fldG false 1 6 r2 (IntKind.wrap .i64 (i21 - 1)) 0 H54 (by kernel_rfl) hg57 ?_
                        refine t_gd true true (by kernel_rfl) (fun _ => ?_) (fun hn => by cases hn)
                        refine t_loadG false none 6 r2 (IntKind.wrap .i64 (i21 - 1)) 1 (.int .i64 e56) H54 (by kernel_rfl) hg57 ?_
                        refine t_gd true true (by kernel_rfl) (fun _ => ?_) (fun hn => by cases hn)
                        refine t_done [(.int .i64 window0), events1, d20, (.bool (!r14)), (.agg [(.int .i64 r5), (.int .i64 r6)]), (.int .i64 i21), (.agg [r2, r3, r4]), (.bool (((r5) == 0) && (decide (i21 < (len33 : Int))))), (.agg [(.int .i64 e34), (.int .i64 e35), (.bool e36), (.bool e37), (.bool e38), e39]), d44, (.int .i64 state50), d48, d51, (.bool (((decide (state50 > 1)) || ((decide (i21 < window0)) && ((state50) == 0))) || (((i21) == 0) && (!e36)))), before29, (.bool (!r53)), (.bool (decide (e56 < e35)))] H54 (by kernel_rfl) ?_
                        refine then_norm ?_
                        refine w_cond (t := (decide (e56 < e35))) rfl (fun hc => ?_) (fun hc => ?_)
                        · replace h := h.1 (is_dec.t hc)
                          refine w_seq ?_
                          refine w_run [0] ?_
                          refine t_done [(.int .i64 window0), events1, (.bool false), (.bool (!r14)), (.agg [(.int .i64 r5), (.int .i64 r6)]), (.int .i64 i21), (.agg [r2, r3, r4]), (.bool (((r5) == 0) && (decide (i21 < (len33 : Int))))), (.agg [(.int .i64 e34), (.int .i64 e35), (.bool e36), (.bool e37), (.bool e38), e39]), d44, (.int .i64 state50), d48, d51, (.bool (((decide (state50 > 1)) || ((decide (i21 < window0)) && ((state50) == 0))) || (((i21) == 0) && (!e36)))), before29, (.bool (!r53)), (.bool (decide (e56 < e35)))] H54 (by kernel_rfl) ?_
                          refine then_norm ?_
                          refine w_ret ?_
                          refine then_ret ?_
                          refine block_ret ?_
                          refine then_ret ?_
                          refine loop_ret ?_
                          refine block_ret ?_
                          refine then_ret ?_
                          exact body_ret (vs := [(.bool false)]) _ (by kernel_rfl) rfl h
                        · replace h := h.2 (is_dec.f hc)
                          refine w_skip ?_
                          refine then_norm ?_
                          refine w_run [0, 0, 0, 1, 1, 0] ?_
                          obtain ⟨b58, H59, hb⟩ : ∃ b H', NewB H54 1 [(.int .i64 e34)] b H' := ⟨_, _, rfl, rfl⟩
                          replace h := h b58 H59 hb
                          refine t_bs true 1 [(.int .i64 0)] [(0, 1, .loc 0)] 1 [(.int .i64 e34)] [(.int .i64 e34)] b58 H59 H54 (by kernel_rfl) (fill_c (vs := [(.int .i64 e34)]) (size := 1) rfl (by kernel_rfl) (by kernel_rfl) (by kernel_rfl)) hb ?_
                          obtain ⟨a60, H61, ha, h⟩ := h
                          refine t_app true 1 8 before29 (.slice b58 0 1 (some 1)) a60 H61 H59 (by kernel_rfl) ha ?_
                          refine t_done [(.int .i64 window0), events1, d20, (.bool (!r14)), (.agg [(.int .i64 r5), (.int .i64 r6)]), (.int .i64 i21), (.agg [r2, r3, r4]), (.bool (((r5) == 0) && (decide (i21 < (len33 : Int))))), (.agg [(.int .i64 e34), (.int .i64 e35), (.bool e36), (.bool e37), (.bool e38), e39]), d44, (.int .i64 state50), d48, d51, (.bool (((decide (state50 > 1)) || ((decide (i21 < window0)) && ((state50) == 0))) || (((i21) == 0) && (!e36)))), a60, (.bool (!r53)), (.bool (decide (e56 < e35)))] H61 (by kernel_rfl) ?_
                          refine block_norm ?_
                          refine then_norm ?_
                          refine w_run [0, 0, 0] ?_
                          refine t_done [(.int .i64 window0), events1, d20, (.bool (!r14)), (.agg [(.int .i64 r5), (.int .i64 r6)]), (.int .i64 (IntKind.wrap .i64 (i21 + 1))), (.agg [r2, r3, r4]), (.bool (((r5) == 0) && (decide (i21 < (len33 : Int))))), (.agg [(.int .i64 e34), (.int .i64 e35), (.bool e36), (.bool e37), (.bool e38), e39]), d44, (.int .i64 state50), d48, d51, (.bool (((decide (state50 > 1)) || ((decide (i21 < window0)) && ((state50) == 0))) || (((i21) == 0) && (!e36)))), a60, (.bool (!r53)), (.bool (decide (e56 < e35)))] H61 (by kernel_rfl) ?_
                          obtain ⟨m', hm, h⟩ := h
                          refine loop_norm ⟨m', hm, _, _, _, _, _, _, _, _, _, _, _, _, rfl, h⟩
                      · replace h := h.2 (is_dec.f hc)
                        refine t_gd false true (by kernel_rfl) (fun hn => by cases hn) (fun _ => ?_)
                        refine t_gd false true (by kernel_rfl) (fun hn => by cases hn) (fun _ => ?_)
                        refine t_gd false true (by kernel_rfl) (fun hn => by cases hn) (fun _ => ?_)
                        refine t_done [(.int .i64 window0), events1, d20, (.bool (!r14)), (.agg [(.int .i64 r5), (.int .i64 r6)]), (.int .i64 i21), (.agg [r2, r3, r4]), (.bool (((r5) == 0) && (decide (i21 < (len33 : Int))))), (.agg [(.int .i64 e34), (.int .i64 e35), (.bool e36), (.bool e37), (.bool e38), e39]), d44, (.int .i64 state50), d48, d51, (.bool (((decide (state50 > 1)) || ((decide (i21 < window0)) && ((state50) == 0))) || (((i21) == 0) && (!e36)))), before29, (.bool (!r53)), (.bool false)] H54 (by kernel_rfl) ?_
                        refine then_norm ?_
                        refine w_cond (t := false) rfl (fun hc => by cases hc) (fun _ => ?_)
                        refine w_skip ?_
                        refine then_norm ?_
                        refine w_run [0, 0, 0, 1, 1, 0] ?_
                        obtain ⟨b63, H64, hb⟩ : ∃ b H', NewB H54 1 [(.int .i64 e34)] b H' := ⟨_, _, rfl, rfl⟩
                        replace h := h b63 H64 hb
                        refine t_bs true 1 [(.int .i64 0)] [(0, 1, .loc 0)] 1 [(.int .i64 e34)] [(.int .i64 e34)] b63 H64 H54 (by kernel_rfl) (fill_c (vs := [(.int .i64 e34)]) (size := 1) rfl (by kernel_rfl) (by kernel_rfl) (by kernel_rfl)) hb ?_
                        obtain ⟨a65, H66, ha, h⟩ := h
                        refine t_app true 1 8 before29 (.slice b63 0 1 (some 1)) a65 H66 H64 (by kernel_rfl) ha ?_
                        refine t_done [(.int .i64 window0), events1, d20, (.bool (!r14)), (.agg [(.int .i64 r5), (.int .i64 r6)]), (.int .i64 i21), (.agg [r2, r3, r4]), (.bool (((r5) == 0) && (decide (i21 < (len33 : Int))))), (.agg [(.int .i64 e34), (.int .i64 e35), (.bool e36), (.bool e37), (.bool e38), e39]), d44, (.int .i64 state50), d48, d51, (.bool (((decide (state50 > 1)) || ((decide (i21 < window0)) && ((state50) == 0))) || (((i21) == 0) && (!e36)))), a65, (.bool (!r53)), (.bool false)] H66 (by kernel_rfl) ?_
                        refine block_norm ?_
                        refine then_norm ?_
                        refine w_run [0, 0, 0] ?_
                        refine t_done [(.int .i64 window0), events1, d20, (.bool (!r14)), (.agg [(.int .i64 r5), (.int .i64 r6)]), (.int .i64 (IntKind.wrap .i64 (i21 + 1))), (.agg [r2, r3, r4]), (.bool (((r5) == 0) && (decide (i21 < (len33 : Int))))), (.agg [(.int .i64 e34), (.int .i64 e35), (.bool e36), (.bool e37), (.bool e38), e39]), d44, (.int .i64 state50), d48, d51, (.bool (((decide (state50 > 1)) || ((decide (i21 < window0)) && ((state50) == 0))) || (((i21) == 0) && (!e36)))), a65, (.bool (!r53)), (.bool false)] H66 (by kernel_rfl) ?_
                        obtain ⟨m', hm, h⟩ := h
                        refine loop_norm ⟨m', hm, _, _, _, _, _, _, _, _, _, _, _, _, rfl, h⟩
                  · replace h := h.2 (is_eq.f hc)
                    refine t_gd false true (by kernel_rfl) (fun hn => by cases hn) (fun _ => ?_)
                    refine t_gd false true (by kernel_rfl) (fun hn => by cases hn) (fun _ => ?_)
                    refine t_gd false true (by kernel_rfl) (fun hn => by cases hn) (fun _ => ?_)
                    refine t_gd false true (by kernel_rfl) (fun hn => by cases hn) (fun _ => ?_)
                    refine t_gd false false (by kernel_rfl) (fun _ => ?_) (fun hn => by cases hn)
                    refine t_done [(.int .i64 window0), events1, d20, (.bool (!r14)), (.agg [(.int .i64 r5), (.int .i64 r6)]), (.int .i64 i21), (.agg [r2, r3, r4]), (.bool (((r5) == 0) && (decide (i21 < (len33 : Int))))), (.agg [(.int .i64 e34), (.int .i64 e35), (.bool e36), (.bool e37), (.bool e38), e39]), d44, (.int .i64 state50), d48, d51, (.bool (((decide (state50 > 1)) || ((decide (i21 < window0)) && ((state50) == 0))) || (((i21) == 0) && (!e36)))), before29, (.bool false), d31] H41 (by kernel_rfl) ?_
                    refine then_norm ?_
                    refine w_cond (t := false) rfl (fun hc => by cases hc) (fun _ => ?_)
                    refine w_skip ?_
                    refine then_norm ?_
                    refine w_seq ?_
                    refine w_seq ?_
                    refine w_run [0, 0, 0, 0, 0, 0, 0, 3, 3, 3, 0, 0, 2, 0] ?_
                    refine t_gd (decide (i21 > 0)) true (by kernel_rfl) (fun hc => ?_) (fun hc => ?_)
                    · replace h := h.1 (is_dec.t hc)
                      obtain ⟨e68, hg69, h⟩ := h
                      refine t_idxG false 6 r2 .i64 (IntKind.wrap .i64 (i21 - 1)) H41 (by kernel_rfl) hg69 ?_
                      refine t_gd true true (by kernel_rfl) (fun _ => ?_) (fun hn => by cases hn)
                      refine t_fldG false 1 6 r2 (IntKind.wrap .i64 (i21 - 1)) 0 H41 (by kernel_rfl) hg69 ?_
                      refine t_gd true true (by kernel_rfl) (fun _ => ?_) (fun hn => by cases hn)
                      refine t_loadG false none 6 r2 (IntKind.wrap .i64 (i21 - 1)) 1 (.int .i64 e68) H41 (by kernel_rfl) hg69 ?_
                      refine t_gd true true (by kernel_rfl) (fun _ => ?_) (fun hn => by cases hn)
                      refine t_done [(.int .i64 window0), events1, d20, (.bool (!r14)), (.agg [(.int .i64 r5), (.int .i64 r6)]), (.int .i64 i21), (.agg [r2, r3, r4]), (.bool (((r5) == 0) && (decide (i21 < (len33 : Int))))), (.agg [(.int .i64 e34), (.int .i64 e35), (.bool e36), (.bool e37), (.bool e38), e39]), d44, (.int .i64 state50), d48, d51, (.bool (((decide (state50 > 1)) || ((decide (i21 < window0)) && ((state50) == 0))) || (((i21) == 0) && (!e36)))), before29, (.bool false), (.bool (decide (e68 < e35)))] H41 (by kernel_rfl) ?_
                      refine then_norm ?_
                      refine w_cond (t := (decide (e68 < e35))) rfl (fun hc => ?_) (fun hc => ?_)
                      · replace h := h.1 (is_dec.t hc)
                        refine w_seq ?_
                        refine w_run [0] ?_
                        refine t_done [(.int .i64 window0), events1, (.bool false), (.bool (!r14)), (.agg [(.int .i64 r5), (.int .i64 r6)]), (.int .i64 i21), (.agg [r2, r3, r4]), (.bool (((r5) == 0) && (decide (i21 < (len33 : Int))))), (.agg [(.int .i64 e34), (.int .i64 e35), (.bool e36), (.bool e37), (.bool e38), e39]), d44, (.int .i64 state50), d48, d51, (.bool (((decide (state50 > 1)) || ((decide (i21 < window0)) && ((state50) == 0))) || (((i21) == 0) && (!e36)))), before29, (.bool false), (.bool (decide (e68 < e35)))] H41 (by kernel_rfl) ?_
                        refine then_norm ?_
                        refine w_ret ?_
                        refine then_ret ?_
                        refine block_ret ?_
                        refine then_ret ?_
                        refine loop_ret ?_
                        refine block_ret ?_
                        refine then_ret ?_
                        exact body_ret (vs := [(.bool false)]) _ (by kernel_rfl) rfl h
                      · replace h := h.2 (is_dec.f hc)
                        refine w_skip ?_
                        refine then_norm ?_
                        refine w_run [0, 0, 0, 1, 1, 0] ?_
                        obtain ⟨b70, H71, hb⟩ : ∃ b H', NewB H41 1 [(.int .i64 e34)] b H' := ⟨_, _, rfl, rfl⟩
                        replace h := h b70 H71 hb
                        refine t_bs true 1 [(.int .i64 0)] [(0, 1, .loc 0)] 1 [(.int .i64 e34)] [(.int .i64 e34)] b70 H71 H41 (by kernel_rfl) (fill_c (vs := [(.int .i64 e34)]) (size := 1) rfl (by kernel_rfl) (by kernel_rfl) (by kernel_rfl)) hb ?_
                        obtain ⟨a72, H73, ha, h⟩ := h
                        refine t_app true 1 8 before29 (.slice b70 0 1 (some 1)) a72 H73 H71 (by kernel_rfl) ha ?_
                        refine t_done [(.int .i64 window0), events1, d20, (.bool (!r14)), (.agg [(.int .i64 r5), (.int .i64 r6)]), (.int .i64 i21), (.agg [r2, r3, r4]), (.bool (((r5) == 0) && (decide (i21 < (len33 : Int))))), (.agg [(.int .i64 e34), (.int .i64 e35), (.bool e36), (.bool e37), (.bool e38), e39]), d44, (.int .i64 state50), d48, d51, (.bool (((decide (state50 > 1)) || ((decide (i21 < window0)) && ((state50) == 0))) || (((i21) == 0) && (!e36)))), a72, (.bool false), (.bool (decide (e68 < e35)))] H73 (by kernel_rfl) ?_
                        refine block_norm ?_
                        refine then_norm ?_
                        refine w_run [0, 0, 0] ?_
                        refine t_done [(.int .i64 window0), events1, d20, (.bool (!r14)), (.agg [(.int .i64 r5), (.int .i64 r6)]), (.int .i64 (IntKind.wrap .i64 (i21 + 1))), (.agg [r2, r3, r4]), (.bool (((r5) == 0) && (decide (i21 < (len33 : Int))))), (.agg [(.int .i64 e34), (.int .i64 e35), (.bool e36), (.bool e37), (.bool e38), e39]), d44, (.int .i64 state50), d48, d51, (.bool (((decide (state50 > 1)) || ((decide (i21 < window0)) && ((state50) == 0))) || (((i21) == 0) && (!e36)))), a72, (.bool false), (.bool (decide (e68 < e35)))] H73 (by kernel_rfl) ?_
                        obtain ⟨m', hm, h⟩ := h
                        refine loop_norm ⟨m', hm, _, _, _, _, _, _, _, _, _, _, _, _, rfl, h⟩
                    · replace h := h.2 (is_dec.f hc)
                      refine t_gd false true (by kernel_rfl) (fun hn => by cases hn) (fun _ => ?_)
                      refine t_gd false true (by kernel_rfl) (fun hn => by cases hn) (fun _ => ?_)
                      refine t_gd false true (by kernel_rfl) (fun hn => by cases hn) (fun _ => ?_)
                      refine t_done [(.int .i64 window0), events1, d20, (.bool (!r14)), (.agg [(.int .i64 r5), (.int .i64 r6)]), (.int .i64 i21), (.agg [r2, r3, r4]), (.bool (((r5) == 0) && (decide (i21 < (len33 : Int))))), (.agg [(.int .i64 e34), (.int .i64 e35), (.bool e36), (.bool e37), (.bool e38), e39]), d44, (.int .i64 state50), d48, d51, (.bool (((decide (state50 > 1)) || ((decide (i21 < window0)) && ((state50) == 0))) || (((i21) == 0) && (!e36)))), before29, (.bool false), (.bool false)] H41 (by kernel_rfl) ?_
                      refine then_norm ?_
                      refine w_cond (t := false) rfl (fun hc => by cases hc) (fun _ => ?_)
                      refine w_skip ?_
                      refine then_norm ?_
                      refine w_run [0, 0, 0, 1, 1, 0] ?_
                      obtain ⟨b75, H76, hb⟩ : ∃ b H', NewB H41 1 [(.int .i64 e34)] b H' := ⟨_, _, rfl, rfl⟩
                      replace h := h b75 H76 hb
                      refine t_bs true 1 [(.int .i64 0)] [(0, 1, .loc 0)] 1 [(.int .i64 e34)] [(.int .i64 e34)] b75 H76 H41 (by kernel_rfl) (fill_c (vs := [(.int .i64 e34)]) (size := 1) rfl (by kernel_rfl) (by kernel_rfl) (by kernel_rfl)) hb ?_
                      obtain ⟨a77, H78, ha, h⟩ := h
                      refine t_app true 1 8 before29 (.slice b75 0 1 (some 1)) a77 H78 H76 (by kernel_rfl) ha ?_
                      refine t_done [(.int .i64 window0), events1, d20, (.bool (!r14)), (.agg [(.int .i64 r5), (.int .i64 r6)]), (.int .i64 i21), (.agg [r2, r3, r4]), (.bool (((r5) == 0) && (decide (i21 < (len33 : Int))))), (.agg [(.int .i64 e34), (.int .i64 e35), (.bool e36), (.bool e37), (.bool e38), e39]), d44, (.int .i64 state50), d48, d51, (.bool (((decide (state50 > 1)) || ((decide (i21 < window0)) && ((state50) == 0))) || (((i21) == 0) && (!e36)))), a77, (.bool false), (.bool false)] H78 (by kernel_rfl) ?_
                      refine block_norm ?_
                      refine then_norm ?_
                      refine w_run [0, 0, 0] ?_
                      refine t_done [(.int .i64 window0), events1, d20, (.bool (!r14)), (.agg [(.int .i64 r5), (.int .i64 r6)]), (.int .i64 (IntKind.wrap .i64 (i21 + 1))), (.agg [r2, r3, r4]), (.bool (((r5) == 0) && (decide (i21 < (len33 : Int))))), (.agg [(.int .i64 e34), (.int .i64 e35), (.bool e36), (.bool e37), (.bool e38), e39]), d44, (.int .i64 state50), d48, d51, (.bool (((decide (state50 > 1)) || ((decide (i21 < window0)) && ((state50) == 0))) || (((i21) == 0) && (!e36)))), a77, (.bool false), (.bool false)] H78 (by kernel_rfl) ?_
                      obtain ⟨m', hm, h⟩ := h
                      refine loop_norm ⟨m', hm, _, _, _, _, _, _, _, _, _, _, _, _, rfl, h⟩
                · replace h := h.1 (is_dec.t hc)
                  refine t_gd true false (by kernel_rfl) (fun hn => by cases hn) (fun _ => ?_)
                  refine t_gd true false (by kernel_rfl) (fun hn => by cases hn) (fun _ => ?_)
                  refine t_gdU true (by kernel_rfl) ?_
                  refine t_gdU true (by kernel_rfl) ?_
                  refine t_gdU true (by kernel_rfl) ?_
                  refine t_gdU true (by kernel_rfl) ?_
                  refine t_gdU true (by kernel_rfl) ?_
                  refine t_gd true false (by kernel_rfl) (fun hn => by cases hn) (fun _ => ?_)
                  refine t_done [(.int .i64 window0), events1, d20, (.bool (!r14)), (.agg [(.int .i64 r5), (.int .i64 r6)]), (.int .i64 i21), (.agg [r2, r3, r4]), (.bool (((r5) == 0) && (decide (i21 < (len33 : Int))))), (.agg [(.int .i64 e34), (.int .i64 e35), (.bool e36), (.bool e37), (.bool e38), e39]), d44, (.int .i64 state50), d48, d51, (.bool (((decide (state50 > 1)) || ((decide (i21 < window0)) && ((state50) == 0))) || (((i21) == 0) && (!e36)))), before29, (.bool true), d31] H41 (by kernel_rfl) ?_
                  refine then_norm ?_
                  refine w_cond (t := true) rfl (fun _ => ?_) (fun hc => by cases hc)
                  refine w_seq ?_
                  refine w_run [0] ?_
                  refine t_done [(.int .i64 window0), events1, (.bool false), (.bool (!r14)), (.agg [(.int .i64 r5), (.int .i64 r6)]), (.int .i64 i21), (.agg [r2, r3, r4]), (.bool (((r5) == 0) && (decide (i21 < (len33 : Int))))), (.agg [(.int .i64 e34), (.int .i64 e35), (.bool e36), (.bool e37), (.bool e38), e39]), d44, (.int .i64 state50), d48, d51, (.bool (((decide (state50 > 1)) || ((decide (i21 < window0)) && ((state50) == 0))) || (((i21) == 0) && (!e36)))), before29, (.bool true), d31] H41 (by kernel_rfl) ?_
                  refine then_norm ?_
                  refine w_ret ?_
                  refine then_ret ?_
                  refine block_ret ?_
                  refine then_ret ?_
                  refine loop_ret ?_
                  refine block_ret ?_
                  refine then_ret ?_
                  exact body_ret (vs := [(.bool false)]) _ (by kernel_rfl) rfl h
              · replace h := h.2 (is_eq.f hc)
                refine t_gd false true (by kernel_rfl) (fun hn => by cases hn) (fun _ => ?_)
                refine t_gd false true (by kernel_rfl) (fun hn => by cases hn) (fun _ => ?_)
                refine t_gd false true (by kernel_rfl) (fun hn => by cases hn) (fun _ => ?_)
                refine t_gd false false (by kernel_rfl) (fun _ => ?_) (fun hn => by cases hn)
                refine t_gd false false (by kernel_rfl) (fun _ => ?_) (fun hn => by cases hn)
                refine t_gd false false (by kernel_rfl) (fun _ => ?_) (fun hn => by cases hn)
                refine t_gd ((state50) == 1) true (by kernel_rfl) (fun hc => ?_) (fun hc => ?_)
                · replace h := h.1 (is_eq.t hc)
                  refine t_gd true true (by kernel_rfl) (fun _ => ?_) (fun hn => by cases hn)
                  refine t_gd true true (by kernel_rfl) (fun _ => ?_) (fun hn => by cases hn)
                  refine t_gd true true (by kernel_rfl) (fun _ => ?_) (fun hn => by cases hn)
                  refine t_call true nFEqualInts [e39, before29] H41 (by kernel_rfl) h ?_
                  clear h
                  rintro _ H81 ⟨r80, rfl, h⟩
                  refine t_gd true true (by kernel_rfl) (fun _ => ?_) (fun hn => by cases hn)
                  refine t_gd false false (by kernel_rfl) (fun _ => ?_) (fun hn => by cases hn)
                  refine t_done [(.int .i64 window0), events1, d20, (.bool (!r14)), (.agg [(.int .i64 r5), (.int .i64 r6)]), (.int .i64 i21), (.agg [r2, r3, r4]), (.bool (((r5) == 0) && (decide (i21 < (len33 : Int))))), (.agg [(.int .i64 e34), (.int .i64 e35), (.bool e36), (.bool e37), (.bool e38), e39]), d44, (.int .i64 state50), d48, d51, (.bool (((decide (state50 > 1)) || ((decide (i21 < window0)) && ((state50) == 0))) || (((i21) == 0) && (!e36)))), before29, (.bool (!r80)), d31] H81 (by kernel_rfl) ?_
                  refine then_norm ?_
                  refine w_cond (t := (!r80)) rfl (fun hc => ?_) (fun hc => ?_)
                  · replace h := h.1 ((is_not is_raw).t hc)
                    refine w_seq ?_
                    refine w_run [0] ?_
                    refine t_done [(.int .i64 window0), events1, (.bool false), (.bool (!r14)), (.agg [(.int .i64 r5), (.int .i64 r6)]), (.int .i64 i21), (.agg [r2, r3, r4]), (.bool (((r5) == 0) && (decide (i21 < (len33 : Int))))), (.agg [(.int .i64 e34), (.int .i64 e35), (.bool e36), (.bool e37), (.bool e38), e39]), d44, (.int .i64 state50), d48, d51, (.bool (((decide (state50 > 1)) || ((decide (i21 < window0)) && ((state50) == 0))) || (((i21) == 0) && (!e36)))), before29, (.bool (!r80)), d31] H81 (by kernel_rfl) ?_
                    refine then_norm ?_
                    refine w_ret ?_
                    refine then_ret ?_
                    refine block_ret ?_
                    refine then_ret ?_
                    refine loop_ret ?_
                    refine block_ret ?_
                    refine then_ret ?_
                    exact body_ret (vs := [(.bool false)]) _ (by kernel_rfl) rfl h
                  · replace h := h.2 ((is_not is_raw).f hc)
                    refine w_skip ?_
                    refine then_norm ?_
                    refine w_seq ?_
                    refine w_seq ?_
                    refine w_run [0, 0, 0, 0, 0, 0, 0, 3, 3, 3, 0, 0, 2, 0] ?_
                    refine t_gd (decide (i21 > 0)) true (by kernel_rfl) (fun hc => ?_) (fun hc => ?_)
                    · replace h := h.1 (is_dec.t hc)
                      obtain ⟨e83, hg84, h⟩ := h
                      refine t_idxG false 6 r2 .i64 (IntKind.wrap .i64 (i21 - 1)) H81 (by kernel_rfl) hg84 ?_
                      refine t_gd true true (by kernel_rfl) (fun _ => ?_) (fun hn => by cases hn)
                      refine t_fldG false 1 6 r2 (IntKind.wrap .i64 (i21 - 1)) 0 H81 (by kernel_rfl) hg84 ?_
                      refine t_gd true true (by kernel_rfl) (fun _ => ?_) (fun hn => by cases hn)
                      refine t_loadG false none 6 r2 (IntKind.wrap .i64 (i21 - 1)) 1 (.int .i64 e83) H81 (by kernel_rfl) hg84 ?_
                      refine t_gd true true (by kernel_rfl) (fun _ => ?_) (fun hn => by cases hn)
                      refine t_done [(.int .i64 window0), events1, d20, (.bool (!r14)), (.agg [(.int .i64 r5), (.int .i64 r6)]), (.int .i64 i21), (.agg [r2, r3, r4]), (.bool (((r5) == 0) && (decide (i21 < (len33 : Int))))), (.agg [(.int .i64 e34), (.int .i64 e35), (.bool e36), (.bool e37), (.bool e38), e39]), d44, (.int .i64 state50), d48, d51, (.bool (((decide (state50 > 1)) || ((decide (i21 < window0)) && ((state50) == 0))) || (((i21) == 0) && (!e36)))), before29, (.bool (!r80)), (.bool (decide (e83 < e35)))] H81 (by kernel_rfl) ?_
                      refine then_norm ?_
                      refine w_cond (t := (decide (e83 < e35))) rfl (fun hc => ?_) (fun hc => ?_)
                      · replace h := h.1 (is_dec.t hc)
                        refine w_seq ?_
                        refine w_run [0] ?_
                        refine t_done [(.int .i64 window0), events1, (.bool false), (.bool (!r14)), (.agg [(.int .i64 r5), (.int .i64 r6)]), (.int .i64 i21), (.agg [r2, r3, r4]), (.bool (((r5) == 0) && (decide (i21 < (len33 : Int))))), (.agg [(.int .i64 e34), (.int .i64 e35), (.bool e36), (.bool e37), (.bool e38), e39]), d44, (.int .i64 state50), d48, d51, (.bool (((decide (state50 > 1)) || ((decide (i21 < window0)) && ((state50) == 0))) || (((i21) == 0) && (!e36)))), before29, (.bool (!r80)), (.bool (decide (e83 < e35)))] H81 (by kernel_rfl) ?_
                        refine then_norm ?_
                        refine w_ret ?_
                        refine then_ret ?_
                        refine block_ret ?_
                        refine then_ret ?_
                        refine loop_ret ?_
                        refine block_ret ?_
                        refine then_ret ?_
                        exact body_ret (vs := [(.bool false)]) _ (by kernel_rfl) rfl h
                      · replace h := h.2 (is_dec.f hc)
                        refine w_skip ?_
                        refine then_norm ?_
                        refine w_run [0, 0, 0, 1, 1, 0] ?_
                        obtain ⟨b85, H86, hb⟩ : ∃ b H', NewB H81 1 [(.int .i64 e34)] b H' := ⟨_, _, rfl, rfl⟩
                        replace h := h b85 H86 hb
                        refine t_bs true 1 [(.int .i64 0)] [(0, 1, .loc 0)] 1 [(.int .i64 e34)] [(.int .i64 e34)] b85 H86 H81 (by kernel_rfl) (fill_c (vs := [(.int .i64 e34)]) (size := 1) rfl (by kernel_rfl) (by kernel_rfl) (by kernel_rfl)) hb ?_
                        obtain ⟨a87, H88, ha, h⟩ := h
                        refine t_app true 1 8 before29 (.slice b85 0 1 (some 1)) a87 H88 H86 (by kernel_rfl) ha ?_
                        refine t_done [(.int .i64 window0), events1, d20, (.bool (!r14)), (.agg [(.int .i64 r5), (.int .i64 r6)]), (.int .i64 i21), (.agg [r2, r3, r4]), (.bool (((r5) == 0) && (decide (i21 < (len33 : Int))))), (.agg [(.int .i64 e34), (.int .i64 e35), (.bool e36), (.bool e37), (.bool e38), e39]), d44, (.int .i64 state50), d48, d51, (.bool (((decide (state50 > 1)) || ((decide (i21 < window0)) && ((state50) == 0))) || (((i21) == 0) && (!e36)))), a87, (.bool (!r80)), (.bool (decide (e83 < e35)))] H88 (by kernel_rfl) ?_
                        refine block_norm ?_
                        refine then_norm ?_
                        refine w_run [0, 0, 0] ?_
                        refine t_done [(.int .i64 window0), events1, d20, (.bool (!r14)), (.agg [(.int .i64 r5), (.int .i64 r6)]), (.int .i64 (IntKind.wrap .i64 (i21 + 1))), (.agg [r2, r3, r4]), (.bool (((r5) == 0) && (decide (i21 < (len33 : Int))))), (.agg [(.int .i64 e34), (.int .i64 e35), (.bool e36), (.bool e37), (.bool e38), e39]), d44, (.int .i64 state50), d48, d51, (.bool (((decide (state50 > 1)) || ((decide (i21 < window0)) && ((state50) == 0))) || (((i21) == 0) && (!e36)))), a87, (.bool (!r80)), (.bool (decide (e83 < e35)))] H88 (by kernel_rfl) ?_
                        obtain ⟨m', hm, h⟩ := h
                        refine loop_norm ⟨m', hm, _, _, _, _, _, _, _, _, _, _, _, _, rfl, h⟩
                    · replace h := h.2 (is_dec.f hc)
                      refine t_gd false true (by kernel_rfl) (fun hn => by cases hn) (fun _ => ?_)
                      refine t_gd false true (by kernel_rfl) (fun hn => by cases hn) (fun _ => ?_)
                      refine t_gd false true (by kernel_rfl) (fun hn => by cases hn) (fun _ => ?_)
                      refine t_done [(.int .i64 window0), events1, d20, (.bool (!r14)), (.agg [(.int .i64 r5), (.int .i64 r6)]), (.int .i64 i21), (.agg [r2, r3, r4]), (.bool (((r5) == 0) && (decide (i21 < (len33 : Int))))), (.agg [(.int .i64 e34), (.int .i64 e35), (.bool e36), (.bool e37), (.bool e38), e39]), d44, (.int .i64 state50), d48, d51, (.bool (((decide (state50 > 1)) || ((decide (i21 < window0)) && ((state50) == 0))) || (((i21) == 0) && (!e36)))), before29, (.bool (!r80)), (.bool false)] H81 (by kernel_rfl) ?_
                      refine then_norm ?_
                      refine w_cond (t := false) rfl (fun hc => by cases hc) (fun _ => ?_)
                      refine w_skip ?_
                      refine then_norm ?_
                      refine w_run [0, 0, 0, 1, 1, 0] ?_
                      obtain ⟨b90, H91, hb⟩ : ∃ b H', NewB H81 1 [(.int .i64 e34)] b H' := ⟨_, _, rfl, rfl⟩
                      replace h := h b90 H91 hb
                      refine t_bs true 1 [(.int .i64 0)] [(0, 1, .loc 0)] 1 [(.int .i64 e34)] [(.int .i64 e34)] b90 H91 H81 (by kernel_rfl) (fill_c (vs := [(.int .i64 e34)]) (size := 1) rfl (by kernel_rfl) (by kernel_rfl) (by kernel_rfl)) hb ?_
                      obtain ⟨a92, H93, ha, h⟩ := h
                      refine t_app true 1 8 before29 (.slice b90 0 1 (some 1)) a92 H93 H91 (by kernel_rfl) ha ?_
                      refine t_done [(.int .i64 window0), events1, d20, (.bool (!r14)), (.agg [(.int .i64 r5), (.int .i64 r6)]), (.int .i64 i21), (.agg [r2, r3, r4]), (.bool (((r5) == 0) && (decide (i21 < (len33 : Int))))), (.agg [(.int .i64 e34), (.int .i64 e35), (.bool e36), (.bool e37), (.bool e38), e39]), d44, (.int .i64 state50), d48, d51, (.bool (((decide (state50 > 1)) || ((decide (i21 < window0)) && ((state50) == 0))) || (((i21) == 0) && (!e36)))), a92, (.bool (!r80)), (.bool false)] H93 (by kernel_rfl) ?_
                      refine block_norm ?_
                      refine then_norm ?_
                      refine w_run [0, 0, 0] ?_
                      refine t_done [(.int .i64 window0), events1, d20, (.bool (!r14)), (.agg [(.int .i64 r5), (.int .i64 r6)]), (.int .i64 (IntKind.wrap .i64 (i21 + 1))), (.agg [r2, r3, r4]), (.bool (((r5) == 0) && (decide (i21 < (len33 : Int))))), (.agg [(.int .i64 e34), (.int .i64 e35), (.bool e36), (.bool e37), (.bool e38), e39]), d44, (.int .i64 state50), d48, d51, (.bool (((decide (state50 > 1)) || ((decide (i21 < window0)) && ((state50) == 0))) || (((i21) == 0) && (!e36)))), a92, (.bool (!r80)), (.bool false)] H93 (by kernel_rfl) ?_
                      obtain ⟨m', hm, h⟩ := h
                      refine loop_norm ⟨m', hm, _, _, _, _, _, _, _, _, _, _, _, _, rfl, h⟩
                · replace h := h.2 (is_eq.f hc)
                  refine t_gd false true (by kernel_rfl) (fun hn => by cases hn) (fun _ => ?_)
                  refine t_gd false true (by kernel_rfl) (fun hn => by cases hn) (fun _ => ?_)
                  refine t_gd false true (by kernel_rfl) (fun hn => by cases hn) (fun _ => ?_)
                  refine t_gd false true (by kernel_rfl) (fun hn => by cases hn) (fun _ => ?_)
                  refine t_gd false false (by kernel_rfl) (fun _ => ?_) (fun hn => by cases hn)
                  refine t_done [(.int .i64 window0), events1, d20, (.bool (!r14)), (.agg [(.int .i64 r5), (.int .i64 r6)]), (.int .i64 i21), (.agg [r2, r3, r4]), (.bool (((r5) == 0) && (decide (i21 < (len33 : Int))))), (.agg [(.int .i64 e34), (.int .i64 e35), (.bool e36), (.bool e37), (.bool e38), e39]), d44, (.int .i64 state50), d48, d51, (.bool (((decide (state50 > 1)) || ((decide (i21 < window0)) && ((state50) == 0))) || (((i21) == 0) && (!e36)))), before29, (.bool false), d31] H41 (by kernel_rfl) ?_
                  refine then_norm ?_
                  refine w_cond (t := false) rfl (fun hc => by cases hc) (fun _ => ?_)
                  refine w_skip ?_
                  refine then_norm ?_
                  refine w_seq ?_
                  refine w_seq ?_
                  refine w_run [0, 0, 0, 0, 0, 0, 0, 3, 3, 3, 0, 0, 2, 0] ?_
                  refine t_gd (decide (i21 > 0)) true (by kernel_rfl) (fun hc => ?_) (fun hc => ?_)
                  · replace h := h.1 (is_dec.t hc)
                    obtain ⟨e95, hg96, h⟩ := h
                    refine t_idxG false 6 r2 .i64 (IntKind.wrap .i64 (i21 - 1)) H41 (by kernel_rfl) hg96 ?_
                    refine t_gd true true (by kernel_rfl) (fun _ => ?_) (fun hn => by cases hn)
                    refine t_fldG false 1 6 r2 (IntKind.wrap .i64 (i21 - 1)) 0 H41 (by kernel_rfl) hg96 ?_
                    refine t_gd true true (by kernel_rfl) (fun _ => ?_) (fun hn => by cases hn)
                    refine t_loadG false none 6 r2 (IntKind.wrap .i64 (i21 - 1)) 1 (.int .i64 e95) H41 (by kernel_rfl) hg96 ?_
                    refine t_gd true true (by kernel_rfl) (fun _ => ?_) (fun hn => by cases hn)
                    refine t_done [(.int .i64 window0), events1, d20, (.bool (!r14)), (.agg [(.int .i64 r5), (.int .i64 r6)]), (.int .i64 i21), (.agg [r2, r3, r4]), (.bool (((r5) == 0) && (decide (i21 < (len33 : Int))))), (.agg [(.int .i64 e34), (.int .i64 e35), (.bool e36), (.bool e37), (.bool e38), e39]), d44, (.int .i64 state50), d48, d51, (.bool (((decide (state50 > 1)) || ((decide (i21 < window0)) && ((state50) == 0))) || (((i21) == 0) && (!e36)))), before29, (.bool false), (.bool (decide (e95 < e35)))] H41 (by kernel_rfl) ?_
                    refine then_norm ?_
                    refine w_cond (t := (decide (e95 < e35))) rfl (fun hc => ?_) (fun hc => ?_)
                    · replace h := h.1 (is_dec.t hc)
                      refine w_seq ?_
                      refine w_run [0] ?_
                      refine t_done [(.int .i64 window0), events1, (.bool false), (.bool (!r14)), (.agg [(.int .i64 r5), (.int .i64 r6)]), (.int .i64 i21), (.agg [r2, r3, r4]), (.bool (((r5) == 0) && (decide (i21 < (len33 : Int))))), (.agg [(.int .i64 e34), (.int .i64 e35), (.bool e36), (.bool e37), (.bool e38), e39]), d44, (.int .i64 state50), d48, d51, (.bool (((decide (state50 > 1)) || ((decide (i21 < window0)) && ((state50) == 0))) || (((i21) == 0) && (!e36)))), before29, (.bool false), (.bool (decide (e95 < e35)))] H41 (by kernel_rfl) ?_
                      refine then_norm ?_
                      refine w_ret ?_
                      refine then_ret ?_
                      refine block_ret ?_
                      refine then_ret ?_
                      refine loop_ret ?_
                      refine block_ret ?_
                      refine then_ret ?_
                      exact body_ret (vs := [(.bool false)]) _ (by kernel_rfl) rfl h
                    · replace h := h.2 (is_dec.f hc)
                      refine w_skip ?_
                      refine then_norm ?_
                      refine w_run [0, 0, 0, 1, 1, 0] ?_
                      obtain ⟨b97, H98, hb⟩ : ∃ b H', NewB H41 1 [(.int .i64 e34)] b H' := ⟨_, _, rfl, rfl⟩
                      replace h := h b97 H98 hb
                      refine t_bs true 1 [(.int .i64 0)] [(0, 1, .loc 0)] 1 [(.int .i64 e34)] [(.int .i64 e34)] b97 H98 H41 (by kernel_rfl) (fill_c (vs := [(.int .i64 e34)]) (size := 1) rfl (by kernel_rfl) (by kernel_rfl) (by kernel_rfl)) hb ?_
                      obtain ⟨a99, H100, ha, h⟩ := h
                      refine t_app true 1 8 before29 (.slice b97 0 1 (some 1)) a99 H100 H98 (by kernel_rfl) ha ?_
                      refine t_done [(.int .i64 window0), events1, d20, (.bool (!r14)), (.agg [(.int .i64 r5), (.int .i64 r6)]), (.int .i64 i21), (.agg [r2, r3, r4]), (.bool (((r5) == 0) && (decide (i21 < (len33 : Int))))), (.agg [(.int .i64 e34), (.int .i64 e35), (.bool e36), (.bool e37), (.bool e38), e39]), d44, (.int .i64 state50), d48, d51, (.bool (((decide (state50 > 1)) || ((decide (i21 < window0)) && ((state50) == 0))) || (((i21) == 0) && (!e36)))), a99, (.bool false), (.bool (decide (e95 < e35)))] H100 (by kernel_rfl) ?_
                      refine block_norm ?_
                      refine then_norm ?_
                      refine w_run [0, 0, 0] ?_
                      refine t_done [(.int .i64 window0), events1, d20, (.bool (!r14)), (.agg [(.int .i64 r5), (.int .i64 r6)]), (.int .i64 (IntKind.wrap .i64 (i21 + 1))), (.agg [r2, r3, r4]), (.bool (((r5) == 0) && (decide (i21 < (len33 : Int))))), (.agg [(.int .i64 e34), (.int .i64 e35), (.bool e36), (.bool e37), (.bool e38), e39]), d44, (.int .i64 state50), d48, d51, (.bool (((decide (state50 > 1)) || ((decide (i21 < window0)) && ((state50) == 0))) || (((i21) == 0) && (!e36)))), a99, (.bool false), (.bool (decide (e95 < e35)))] H100 (by kernel_rfl) ?_
                      obtain ⟨m', hm, h⟩ := h
                      refine loop_norm ⟨m', hm, _, _, _, _, _, _, _, _, _, _, _, _, rfl, h⟩
                  · replace h := h.2 (is_dec.f hc)
                    refine t_gd false true (by kernel_rfl) (fun hn => by cases hn) (fun _ => ?_)
                    refine t_gd false true (by kernel_rfl) (fun hn => by cases hn) (fun _ => ?_)
                    refine t_gd false true (by kernel_rfl) (fun hn => by cases hn) (fun _ => ?_)
                    refine t_done [(.int .i64 window0), events1, d20, (.bool (!r14)), (.agg [(.int .i64 r5), (.int .i64 r6)]), (.int .i64 i21), (.agg [r2, r3, r4]), (.bool (((r5) == 0) && (decide (i21 < (len33 : Int))))), (.agg [(.int .i64 e34), (.int .i64 e35), (.bool e36), (.bool e37), (.bool e38), e39]), d44, (.int .i64 state50), d48, d51, (.bool (((decide (state50 > 1)) || ((decide (i21 < window0)) && ((state50) == 0))) || (((i21) == 0) && (!e36)))), before29, (.bool false), (.bool false)] H41 (by kernel_rfl) ?_
                    refine then_norm ?_
                    refine w_cond (t := false) rfl (fun hc => by cases hc) (fun _ => ?_)
                    refine w_skip ?_
                    refine then_norm ?_
                    refine w_run [0, 0, 0, 1, 1, 0] ?_
                    obtain ⟨b102, H103, hb⟩ : ∃ b H', NewB H41 1 [(.int .i64 e34)] b H' := ⟨_, _, rfl, rfl⟩
                    replace h := h b102 H103 hb
                    refine t_bs true 1 [(.int .i64 0)] [(0, 1, .loc 0)] 1 [(.int .i64 e34)] [(.int .i64 e34)] b102 H103 H41 (by kernel_rfl) (fill_c (vs := [(.int .i64 e34)]) (size := 1) rfl (by kernel_rfl) (by kernel_rfl) (by kernel_rfl)) hb ?_
                    obtain ⟨a104, H105, ha, h⟩ := h
                    refine t_app true 1 8 before29 (.slice b102 0 1 (some 1)) a104 H105 H103 (by kernel_rfl) ha ?_
                    refine t_done [(.int .i64 window0), events1, d20, (.bool (!r14)), (.agg [(.int .i64 r5), (.int .i64 r6)]), (.int .i64 i21), (.agg [r2, r3, r4]), (.bool (((r5) == 0) && (decide (i21 < (len33 : Int))))), (.agg [(.int .i64 e34), (.int .i64 e35), (.bool e36), (.bool e37), (.bool e38), e39]), d44, (.int .i64 state50), d48, d51, (.bool (((decide (state50 > 1)) || ((decide (i21 < window0)) && ((state50) == 0))) || (((i21) == 0) && (!e36)))), a104, (.bool false), (.bool false)] H105 (by kernel_rfl) ?_
                    refine block_norm ?_
                    refine then_norm ?_
                    refine w_run [0, 0, 0] ?_
                    refine t_done [(.int .i64 window0), events1, d20, (.bool (!r14)), (.agg [(.int .i64 r5), (.int .i64 r6)]), (.int .i64 (IntKind.wrap .i64 (i21 + 1))), (.agg [r2, r3, r4]), (.bool (((r5) == 0) && (decide (i21 < (len33 : Int))))), (.agg [(.int .i64 e34), (.int .i64 e35), (.bool e36), (.bool e37), (.bool e38), e39]), d44, (.int .i64 state50), d48, d51, (.bool (((decide (state50 > 1)) || ((decide (i21 < window0)) && ((state50) == 0))) || (((i21) == 0) && (!e36)))), a104, (.bool false), (.bool false)] H105 (by kernel_rfl) ?_
                    obtain ⟨m', hm, h⟩ := h
                    refine loop_norm ⟨m', hm, _, _, _, _, _, _, _, _, _, _, _, _, rfl, h⟩
    · replace h := h.2 ((is_and is_eq is_dec).f hc)
      refine w_exit ?_
      refine then_exit ?_
      refine loop_exit ?_
      refine block_exit ?_
      refine then_norm ?_
      refine w_seq ?_
      refine w_run [0] ?_
      refine t_done [(.int .i64 window0), events1, (.bool true), (.bool (!r14)), (.agg [(.int .i64 r5), (.int .i64 r6)]), (.int .i64 i21), (.agg [r2, r3, r4]), (.bool (((r5) == 0) && (decide (i21 < (len33 : Int))))), d23, d24, d25, d26, d27, d28, before29, d30, d31] H32 (by kernel_rfl) ?_
      refine then_norm ?_
      refine w_ret ?_
      exact body_ret (vs := [(.bool true)]) _ (by kernel_rfl) rfl h

def rf_LMergequeueFunctionsMatchSpec (nmergequeue_Run nmergequeue_Outcome nLqueueExample nFRunQueue nFQueue_State nFEqualQueues nFFault : Nat) : RFunc := ⟨3, 20, [.var 3],
 ((.seq (.ops [⟨.move (.k (.bool false)), none, (some 3), true⟩])
 ((.seq (.ops [⟨.move (.var 0), none, none, true⟩, ⟨.move (.var 1), none, none, true⟩, ⟨.callS nmergequeue_Run [(.loc 0), (.loc 1)], none, none, true⟩, ⟨.move (.loc 2), none, none, true⟩, ⟨.extract (.loc 3) 0, none, none, true⟩, ⟨.extract (.loc 3) 1, none, none, true⟩, ⟨.tomb 1 (.k (.agg [.empty, .empty, .empty])), none, (some 7), true⟩, ⟨.tomb 1 (.k (.agg [.int .i64 0, .int .i64 0])), none, (some 5), true⟩, ⟨.upd 3 0 (.loc 6) (.loc 4), none, (some 7), true⟩, ⟨.upd 2 0 (.loc 7) (.loc 5), none, (some 5), true⟩])
 ((.seq (.ops [⟨.move (.var 0), none, none, true⟩, ⟨.move (.var 1), none, none, true⟩, ⟨.move (.var 2), none, none, true⟩, ⟨.callS nmergequeue_Outcome [(.loc 0), (.loc 1), (.loc 2)], none, none, true⟩, ⟨.move (.loc 3), none, none, true⟩, ⟨.extract (.loc 4) 0, none, none, true⟩, ⟨.extract (.loc 4) 1, none, none, true⟩, ⟨.extract (.loc 4) 2, none, none, true⟩, ⟨.tomb 1 (.k (.agg [.int .i64 0, .int .i64 0])), none, (some 11), true⟩, ⟨.move (.loc 5), none, (some 12), true⟩, ⟨.move (.loc 6), none, (some 13), true⟩, ⟨.upd 2 0 (.loc 8) (.loc 7), none, (some 11), true⟩])
 ((.seq ((.seq (.ops [⟨.callS nLqueueExample [], none, none, true⟩, ⟨.un .not (.loc 0), none, (some 4), true⟩])
 (.cond (.var 4) ((.seq (.ops [⟨.move (.k (.bool false)), none, (some 3), true⟩])
 (.ret))) (.skip))))
 ((.seq (.ops [⟨.move (.var 0), none, none, true⟩, ⟨.move (.var 1), none, none, true⟩, ⟨.callS nFRunQueue [(.loc 0), (.loc 1)], none, none, true⟩, ⟨.move (.loc 2), none, none, true⟩, ⟨.extract (.loc 3) 0, none, none, true⟩, ⟨.extract (.loc 3) 1, none, none, true⟩, ⟨.tomb 1 (.k (.agg [.empty, .empty, .empty, .empty, .empty])), none, (some 8), true⟩, ⟨.tomb 1 (.k (.agg [.int .i64 0, .int .i64 0])), none, (some 6), true⟩, ⟨.upd 5 0 (.loc 6) (.loc 4), none, (some 8), true⟩, ⟨.upd 2 0 (.loc 7) (.loc 5), none, (some 6), true⟩])
 ((.seq ((.seq (.ops [⟨.field 0 (some 2) (.var 5), none, none, false⟩, ⟨.field 0 (some 2) (.var 6), none, none, false⟩, ⟨.bin .neq (.agg [.int, .int]) (.loc 0) (.loc 1), none, none, true⟩, ⟨.move (.loc 2), none, none, true⟩, ⟨.field 0 (some 3) (.var 7), none, none, false⟩, ⟨.field 0 (some 5) (.var 8), none, none, false⟩, ⟨.callS nFQueue_State [(.loc 5)], (some (3, false)), none, false⟩, ⟨.callS nFEqualQueues [(.loc 4), (.loc 6)], (some (3, false)), none, true⟩, ⟨.un .not (.loc 7), (some (3, false)), none, true⟩, ⟨.pick (.loc 3) (.k (.bool true)) (.loc 8), none, (some 9), true⟩])
 (.cond (.var 9) ((.seq (.ops [⟨.move (.k (.bool false)), none, (some 3), true⟩])
 (.ret))) (.skip))))
 ((.seq ((.seq (.ops [⟨.field 0 none (.var 6), none, none, true⟩, ⟨.field 0 none (.var 6), none, none, true⟩, ⟨.bin .neq .no (.loc 1) (.k (.int .i64 0)), none, (some 10), true⟩])
 (.cond (.var 10) ((.seq (.ops [⟨.field 0 (some 2) (.var 11), none, none, true⟩, ⟨.field 0 (some 2) (.var 6), none, none, true⟩, ⟨.bin .eql (.agg [.int, .int]) (.loc 0) (.loc 1), none, none, true⟩, ⟨.move (.loc 2), none, none, true⟩, ⟨.move (.var 12), none, none, true⟩, ⟨.bin .eql .no (.loc 4) (.k (.int .i64 0)), none, none, true⟩, ⟨.pick (.loc 3) (.loc 5) (.k (.bool false)), none, none, true⟩, ⟨.move (.loc 6), none, none, true⟩, ⟨.move (.var 13), none, none, true⟩, ⟨.bin .eql .no (.loc 8) (.k (.int .i64 0)), none, none, true⟩, ⟨.pick (.loc 7) (.loc 9) (.k (.bool false)), none, none, true⟩, ⟨.move (.loc 10), none, (some 3), true⟩])
 (.ret))) (.skip))))
 ((.seq (.ops [⟨.field 0 none (.var 8), none, none, true⟩, ⟨.field 3 none (.var 8), none, none, true⟩, ⟨.field 0 none (.var 8), none, none, true⟩, ⟨.field 4 none (.var 8), none, none, true⟩, ⟨.field 0 none (.var 8), none, none, true⟩, ⟨.field 0 none (.var 8), none, none, true⟩, ⟨.buildSlice 1 [.empty] [(0, 1, (.k (.empty))), (1, 1, (.loc 1)), (2, 1, (.loc 3)), (3, 1, (.loc 5))] 4, none, none, true⟩, ⟨.move (.loc 6), none, (some 17), true⟩])
 ((.seq ((.seq (.ops [⟨.move (.k (.int .i64 1)), none, (some 14), true⟩])
 (.block 0 (.loop ((.seq ((.seq (.ops [⟨.move (.var 14), none, none, true⟩, ⟨.bin .lss .no (.loc 0) (.k (.int .i64 4)), none, (some 15), true⟩])
 (.cond (.var 15) (.skip) (.exit 0))))
 ((.seq (.block 1 ((.seq (.ops [⟨.move (.k (.int .i64 0)), none, (some 16), true⟩])
 (.block 2 (.loop ((.seq ((.seq (.ops [⟨.move (.var 16), none, none, true⟩, ⟨.move (.var 17), none, none, true⟩, ⟨.move (.var 14), none, none, true⟩, ⟨.indexAddr 1 (.loc 1) (.loc 2), none, none, true⟩, ⟨.load none (.loc 3), none, none, true⟩, ⟨.len (.loc 4), none, none, true⟩, ⟨.bin .lss .no (.loc 0) (.loc 5), none, (some 18), true⟩])
 (.cond (.var 18) (.skip) (.exit 2))))
 ((.seq (.block 3 ((.seq (.ops [⟨.move (.var 17), none, none, true⟩, ⟨.move (.var 14), none, none, true⟩, ⟨.indexAddr 1 (.loc 0) (.loc 1), none, none, true⟩, ⟨.load none (.loc 2), none, none, true⟩, ⟨.move (.var 16), none, none, true⟩, ⟨.indexAddr 1 (.loc 3) (.loc 4), none, none, true⟩, ⟨.load none (.loc 5), none, none, true⟩, ⟨.move (.var 2), none, none, true⟩, ⟨.bin .eql .no (.loc 6) (.loc 7), none, (some 19), true⟩])
 (.cond (.var 19) ((.seq (.ops [⟨.field 0 none (.var 11), none, none, true⟩, ⟨.field 0 none (.var 11), none, none, true⟩, ⟨.bin .eql .no (.loc 1) (.k (.int .i64 0)), none, none, true⟩, ⟨.move (.loc 2), none, none, true⟩, ⟨.move (.var 12), none, none, true⟩, ⟨.move (.var 14), none, none, true⟩, ⟨.bin .eql .no (.loc 4) (.loc 5), none, none, true⟩, ⟨.pick (.loc 3) (.loc 6) (.k (.bool false)), none, none, true⟩, ⟨.move (.loc 7), none, none, true⟩, ⟨.move (.var 13), none, none, true⟩, ⟨.move (.var 16), none, none, true⟩, ⟨.bin .eql .no (.loc 9) (.loc 10), none, none, true⟩, ⟨.pick (.loc 8) (.loc 11) (.k (.bool false)), none, none, true⟩, ⟨.move (.loc 12), none, (some 3), true⟩])
 (.ret))) (.skip)))))
 (.ops [⟨.move (.var 16), none, none, true⟩, ⟨.bin .add .no (.loc 0) (.k (.int .i64 1)), none, none, true⟩, ⟨.move (.loc 1), none, (some 16), true⟩]))))))))))
 (.ops [⟨.move (.var 14), none, none, true⟩, ⟨.bin .add .no (.loc 0) (.k (.int .i64 1)), none, none, true⟩, ⟨.move (.loc 1), none, (some 14), true⟩])))))))))
 ((.seq (.ops [⟨.field 0 (some 2) (.var 11), none, none, false⟩, ⟨.callS nFFault [(.k (.int .i64 6)), (.k (.int .i64 (-3)))], none, none, false⟩, ⟨.bin .eql (.agg [.int, .int]) (.loc 0) (.loc 1), none, none, true⟩, ⟨.move (.loc 2), none, none, true⟩, ⟨.move (.var 12), none, none, true⟩, ⟨.bin .eql .no (.loc 4) (.k (.int .i64 0)), none, none, true⟩, ⟨.pick (.loc 3) (.loc 5) (.k (.bool false)), none, none, true⟩, ⟨.move (.loc 6), none, none, true⟩, ⟨.move (.var 13), none, none, true⟩, ⟨.bin .eql .no (.loc 8) (.k (.int .i64 0)), none, none, true⟩, ⟨.pick (.loc 7) (.loc 9) (.k (.bool false)), none, none, true⟩, ⟨.move (.loc 10), none, (some 3), true⟩])
 (.ret))))))))))))))))))))), none⟩
end Go.RM

