import Derived.Test.YtlofiiepmehhbaaRmWp
/-
  Functions of the program as the abstract machine runs them, and what must be shown of a run: printed by RmPrint.
-/
namespace Go.RM
set_option linter.unusedVariables false
set_option maxRecDepth 4000
def rf_LqueueExample (nmergequeue_Run nmergequeue_Outcome nFEqualInts : Nat) : RFunc := ⟨0, 9, [.var 0],
 ((.seq (.ops [⟨.move (.k (.bool false)), none, (some 0), true⟩])
 ((.seq (.ops [o1 (.build [.int .i64 0, .int .i64 0, .int .i64 0] [(0, 1, (.k (.int .i64 1))), (1, 1, (.k (.int .i64 5)))]), o1 (.build [.int .i64 0, .int .i64 0, .int .i64 0] [(0, 1, (.k (.int .i64 1))), (1, 1, (.k (.int .i64 6)))]), o1 (.build [.int .i64 0, .int .i64 0, .int .i64 0] [(0, 1, (.k (.int .i64 3))), (1, 1, (.k (.int .i64 6)))]), o1 (.build [.int .i64 0, .int .i64 0, .int .i64 0] [(0, 1, (.k (.int .i64 3))), (1, 1, (.k (.int .i64 5)))]), o1 (.buildSlice 3 [.int .i64 0, .int .i64 0, .int .i64 0] [(0, 3, (.loc 0)), (3, 3, (.loc 1)), (6, 3, (.loc 2)), (9, 3, (.loc 3))] 4), ⟨.move (.loc 4), none, (some 1), true⟩])
 ((.seq (.ops [o1 (.move (.var 1)), o1 (.slice 3 (.loc 0) none (some (.k (.int .i64 3))) none), o1 (.callS nmergequeue_Run [(.k (.int .i64 2)), (.loc 1)]), o1 (.move (.loc 2)), o1 (.extract (.loc 3) 0), o1 (.extract (.loc 3) 1), ⟨.tomb 1 (.k (.agg [.empty, .empty, .empty])), none, (some 5), true⟩, ⟨.tomb 1 (.k (.agg [.int .i64 0, .int .i64 0])), none, (some 2), true⟩, ⟨.upd 3 0 (.loc 6) (.loc 4), none, (some 5), true⟩, ⟨.upd 2 0 (.loc 7) (.loc 5), none, (some 2), true⟩])
 ((.seq (.ops [o1 (.move (.var 1)), o1 (.callS nmergequeue_Run [(.k (.int .i64 2)), (.loc 0)]), o1 (.move (.loc 1)), o1 (.extract (.loc 2) 0), o1 (.extract (.loc 2) 1), ⟨.tomb 1 (.k (.agg [.empty, .empty, .empty])), none, (some 6), true⟩, ⟨.tomb 1 (.k (.agg [.int .i64 0, .int .i64 0])), none, (some 3), true⟩, ⟨.upd 3 0 (.loc 5) (.loc 3), none, (some 6), true⟩, ⟨.upd 2 0 (.loc 6) (.loc 4), none, (some 3), true⟩])
 ((.seq (.ops [o1 (.move (.var 1)), o1 (.callS nmergequeue_Outcome [(.k (.int .i64 2)), (.loc 0), (.k (.int .i64 6))]), o1 (.move (.loc 1)), o1 (.extract (.loc 2) 0), o1 (.extract (.loc 2) 1), o1 (.extract (.loc 2) 2), ⟨.tomb 1 (.k (.agg [.int .i64 0, .int .i64 0])), none, (some 4), true⟩, ⟨.move (.loc 3), none, (some 7), true⟩, ⟨.move (.loc 4), none, (some 8), true⟩, ⟨.upd 2 0 (.loc 6) (.loc 5), none, (some 4), true⟩])
 ((.seq (.ops [o1 (.field 0 none (.var 2)), o1 (.field 0 none (.var 2)), o1 (.bin .eql .no (.loc 1) (.k (.int .i64 0))), o1 (.move (.loc 2)), o1 (.field 0 none (.var 3)), o1 (.field 0 none (.var 3)), o1 (.bin .eql .no (.loc 5) (.k (.int .i64 0))), o1 (.pick (.loc 3) (.loc 6) (.k (.bool false))), o1 (.move (.loc 7)), o1 (.field 0 none (.var 4)), o1 (.field 0 none (.var 4)), o1 (.bin .eql .no (.loc 10) (.k (.int .i64 0))), o1 (.pick (.loc 8) (.loc 11) (.k (.bool false))), o1 (.move (.loc 12)), o1 (.field 0 none (.var 5)), o1 (.field 1 none (.var 5)), o1 (.len (.loc 15)), o1 (.bin .eql .no (.loc 16) (.k (.int .i64 0))), o1 (.pick (.loc 13) (.loc 17) (.k (.bool false))), o1 (.move (.loc 18)), o1 (.field 0 none (.var 5)), o1 (.field 0 none (.var 5)), o1 (.len (.loc 21)), o1 (.bin .eql .no (.loc 22) (.k (.int .i64 2))), o1 (.pick (.loc 19) (.loc 23) (.k (.bool false))), o1 (.move (.loc 24)), o1 (.field 0 none (.var 6)), o1 (.field 1 none (.var 6)), ⟨.buildSlice 1 [.int .i64 0] [(0, 1, (.k (.int .i64 5))), (1, 1, (.k (.int .i64 6)))] 2, (some (25, true)), none, true⟩, ⟨.callS nFEqualInts [(.loc 27), (.loc 28)], (some (25, true)), none, true⟩, o1 (.pick (.loc 25) (.loc 29) (.k (.bool false))), o1 (.move (.loc 30)), o1 (.move (.var 7)), o1 (.bin .eql .no (.loc 32) (.k (.int .i64 1))), o1 (.pick (.loc 31) (.loc 33) (.k (.bool false))), o1 (.move (.loc 34)), o1 (.move (.var 8)), o1 (.bin .eql .no (.loc 36) (.k (.int .i64 1))), o1 (.pick (.loc 35) (.loc 37) (.k (.bool false))), ⟨.move (.loc 38), none, (some 0), true⟩])
 (.ret))))))))))))), none⟩
theorem v_LqueueExample {F : Nat → Option RFunc} {me nmergequeue_Run nmergequeue_Outcome nFEqualInts : Nat} (hF : F me = some (rf_LqueueExample nmergequeue_Run nmergequeue_Outcome nFEqualInts)) {fl : Nat} {H : Heap} {Q : AV → Heap → Prop} 
  (h : ∀ (b0 : Nat) (H1 : Heap), NewB H 3 [(.int .i64 1), (.int .i64 5), (.int .i64 0), (.int .i64 1), (.int .i64 6), (.int .i64 0), (.int .i64 3), (.int .i64 6), (.int .i64 0), (.int .i64 3), (.int .i64 5), (.int .i64 0)] b0 H1 → ∃ s2 : AV, rslice H1 3 (.slice b0 0 4 (some 4)) none (some (.int .i64 3)) none = some s2 ∧ Ret F fl nmergequeue_Run [(.int .i64 2), s2] H1 (fun v9 H8 => ∃ (r3 : AV) (r4 : AV) (r5 : AV) (r6 : Int) (r7 : Int), v9 = (.tuple [(.agg [r3, r4, r5]), (.agg [(.int .i64 r6), (.int .i64 r7)])]) ∧ ∀ (H10 : Heap), Dead1 H8 1 H10 → ∀ (H11 : Heap), Dead1 H10 1 H11 → Scal r3 ∧ Scal r4 ∧ Scal r5 ∧ Ret F fl nmergequeue_Run [(.int .i64 2), (.slice b0 0 4 (some 4))] H11 (fun v21 H20 => ∃ (r15 : AV) (r16 : AV) (r17 : AV) (r18 : Int) (r19 : Int), v21 = (.tuple [(.agg [r15, r16, r17]), (.agg [(.int .i64 r18), (.int .i64 r19)])]) ∧ ∀ (H22 : Heap), Dead1 H20 1 H22 → ∀ (H23 : Heap), Dead1 H22 1 H23 → Scal r15 ∧ Scal r16 ∧ Scal r17 ∧ Ret F fl nmergequeue_Outcome [(.int .i64 2), (.slice b0 0 4 (some 4)), (.int .i64 6)] H23 (fun v32 H31 => ∃ (r27 : Int) (r28 : Int) (r29 : Int) (r30 : Int), v32 = (.tuple [(.int .i64 r27), (.int .i64 r28), (.agg [(.int .i64 r29), (.int .i64 r30)])]) ∧ ∀ (H33 : Heap), Dead1 H31 1 H33 → ∃ len34 : Nat, lenA r4 = some len34 ∧ ∃ len35 : Nat, lenA r3 = some len35 ∧ ((((((((((r6 = 0) ∧ (r18 = 0))) ∧ (r29 = 0))) ∧ ((len34 : Int) = 0))) ∧ ((len35 : Int) = 2))) → ∀ (b36 : Nat) (H37 : Heap), NewB H33 1 [(.int .i64 5), (.int .i64 6)] b36 H37 → Ret F fl nFEqualInts [r16, (.slice b36 0 2 (some 2))] H37 (fun v40 H39 => ∃ (r38 : Bool), v40 = (.bool r38) ∧ Q (.bool ((r38 && ((r27) == 1)) && ((r28) == 1))) H39)) ∧ (¬(((((((((r6 = 0) ∧ (r18 = 0))) ∧ (r29 = 0))) ∧ ((len34 : Int) = 0))) ∧ ((len35 : Int) = 2))) → Q (.bool false) H33))))) : Ret F fl me [] H Q := by
  refine ret_intro hF rfl ?_
  refine w_seq ?_
  refine w_run [0] ?_
  refine t_done [(.bool false), .undef, .undef, .undef, .undef, .undef, .undef, .undef, .undef] H (by kernel_rfl) ?_
  refine then_norm ?_
  refine w_seq ?_
  refine w_run [1, 1, 1, 1, 1, 0] ?_
  refine t_build true [(.int .i64 0), (.int .i64 0), (.int .i64 0)] [(0, 1, .loc 0), (1, 1, .loc 1)] [(.int .i64 1), (.int .i64 5)] [(.int .i64 1), (.int .i64 5), (.int .i64 0)] H (by kernel_rfl) (fill_c (vs := [(.int .i64 1)]) (size := 1) rfl (by kernel_rfl) (by kernel_rfl) (fill_c (vs := [(.int .i64 5)]) (size := 1) rfl (by kernel_rfl) (by kernel_rfl) (by kernel_rfl))) ?_
  refine t_build true [(.int .i64 0), (.int .i64 0), (.int .i64 0)] [(0, 1, .loc 0), (1, 1, .loc 1)] [(.int .i64 1), (.int .i64 6)] [(.int .i64 1), (.int .i64 6), (.int .i64 0)] H (by kernel_rfl) (fill_c (vs := [(.int .i64 1)]) (size := 1) rfl (by kernel_rfl) (by kernel_rfl) (fill_c (vs := [(.int .i64 6)]) (size := 1) rfl (by kernel_rfl) (by kernel_rfl) (by kernel_rfl))) ?_
  refine t_build true [(.int .i64 0), (.int .i64 0), (.int .i64 0)] [(0, 1, .loc 0), (1, 1, .loc 1)] [(.int .i64 3), (.int .i64 6)] [(.int .i64 3), (.int .i64 6), (.int .i64 0)] H (by kernel_rfl) (fill_c (vs := [(.int .i64 3)]) (size := 1) rfl (by kernel_rfl) (by kernel_rfl) (fill_c (vs := [(.int .i64 6)]) (size := 1) rfl (by kernel_rfl) (by kernel_rfl) (by kernel_rfl))) ?_
  refine t_build true [(.int .i64 0), (.int .i64 0), (.int .i64 0)] [(0, 1, .loc 0), (1, 1, .loc 1)] [(.int .i64 3), (.int .i64 5)] [(.int .i64 3), (.int .i64 5), (.int .i64 0)] H (by kernel_rfl) (fill_c (vs := [(.int .i64 3)]) (size := 1) rfl (by kernel_rfl) (by kernel_rfl) (fill_c (vs := [(.int .i64 5)]) (size := 1) rfl (by kernel_rfl) (by kernel_rfl) (by kernel_rfl))) ?_
  obtain ⟨b0, H1, hb⟩ : ∃ b H', NewB H 3 [(.int .i64 1), (.int .i64 5), (.int .i64 0), (.int .i64 1), (.int .i64 6), (.int .i64 0), (.int .i64 3), (.int .i64 6), (.int .i64 0), (.int .i64 3), (.int .i64 5), (.int .i64 0)] b H' := ⟨_, _, rfl, rfl⟩
  replace h := h b0 H1 hb
  refine t_bs true 3 [(.int .i64 0), (.int .i64 0), (.int .i64 0)] [(0, 3, .loc 0), (3, 3, .loc 1), (6, 3, .loc 2), (9, 3, .loc 3)] 4 [(.agg [(.int .i64 1), (.int .i64 5), (.int .i64 0)]), (.agg [(.int .i64 1), (.int .i64 6), (.int .i64 0)]), (.agg [(.int .i64 3), (.int .i64 6), (.int .i64 0)]), (.agg [(.int .i64 3), (.int .i64 5), (.int .i64 0)])] [(.int .i64 1), (.int .i64 5), (.int .i64 0), (.int .i64 1), (.int .i64 6), (.int .i64 0), (.int .i64 3), (.int .i64 6), (.int .i64 0), (.int .i64 3), (.int .i64 5), (.int .i64 0)] b0 H1 H (by kernel_rfl) (fill_c (vs := [(.int .i64 1), (.int .i64 5), (.int .i64 0)]) (size := 3) rfl (by kernel_rfl) (by kernel_rfl) (fill_c (vs := [(.int .i64 1), (.int .i64 6), (.int .i64 0)]) (size := 3) rfl (by kernel_rfl) (by kernel_rfl) (fill_c (vs := [(.int .i64 3), (.int .i64 6), (.int .i64 0)]) (size := 3) rfl (by kernel_rfl) (by kernel_rfl) (fill_c (vs := [(.int .i64 3), (.int .i64 5), (.int .i64 0)]) (size := 3) rfl (by kernel_rfl) (by kernel_rfl) (by kernel_rfl))))) hb ?_
  refine t_done [(.bool false), (.slice b0 0 4 (some 4)), .undef, .undef, .undef, .undef, .undef, .undef, .undef] H1 (by kernel_rfl) ?_
  refine then_norm ?_
  refine w_seq ?_
  refine w_run [0, 1, 1, 0, 0, 0, 1, 1, 1, 1] ?_
  obtain ⟨s2, hs, h⟩ := h
  refine t_slcH true 3 (.slice b0 0 4 (some 4)) (.int .i64 3) s2 H1 (by kernel_rfl) hs ?_
  refine t_call true nmergequeue_Run [(.int .i64 2), s2] H1 (by kernel_rfl) h ?_
  clear h
  rintro _ H8 ⟨r3, r4, r5, r6, r7, rfl, h⟩
  obtain ⟨H10, hb⟩ : ∃ H', Dead1 H8 1 H' := ⟨_, ⟨rfl⟩⟩
  replace h := h H10 hb
  refine t_tomb true 1 (.agg [.empty, .empty, .empty]) [.empty, .empty, .empty] H10 H8 (by kernel_rfl) rfl hb ?_
  obtain ⟨H11, hb⟩ : ∃ H', Dead1 H10 1 H' := ⟨_, ⟨rfl⟩⟩
  replace h := h H11 hb
  refine t_tomb true 1 (.agg [(.int .i64 0), (.int .i64 0)]) [(.int .i64 0), (.int .i64 0)] H11 H10 (by kernel_rfl) rfl hb ?_
  obtain ⟨hs12, h⟩ := h
  obtain ⟨hs13, h⟩ := h
  obtain ⟨hs14, h⟩ := h
  refine t_upd true 3 0 [.empty, .empty, .empty] (.agg [r3, r4, r5]) [r3, r4, r5] [r3, r4, r5] H11 (by kernel_rfl) rfl (all_c hs12.2 (all_c hs13.2 (all_c hs14.2 all_n))) ⟨rfl, Nat.le_of_ble_eq_true (by kernel_rfl), rfl⟩ ?_
  refine t_upd true 2 0 [(.int .i64 0), (.int .i64 0)] (.agg [(.int .i64 r6), (.int .i64 r7)]) [(.int .i64 r6), (.int .i64 r7)] [(.int .i64 r6), (.int .i64 r7)] H11 (by kernel_rfl) rfl (all_c rfl (all_c rfl all_n)) ⟨rfl, Nat.le_of_ble_eq_true (by kernel_rfl), rfl⟩ ?_
  refine t_done [(.bool false), (.slice b0 0 4 (some 4)), (.agg [(.int .i64 r6), (.int .i64 r7)]), .undef, .undef, (.agg [r3, r4, r5]), .undef, .undef, .undef] H11 (by kernel_rfl) ?_
  refine then_norm ?_
  refine w_seq ?_
  refine w_run [0, 1, 0, 0, 0, 1, 1, 1, 1] ?_
  refine t_call true nmergequeue_Run [(.int .i64 2), (.slice b0 0 4 (some 4))] H11 (by kernel_rfl) h ?_
  clear h
  rintro _ H20 ⟨r15, r16, r17, r18, r19, rfl, h⟩
  obtain ⟨H22, hb⟩ : ∃ H', Dead1 H20 1 H' := ⟨_, ⟨rfl⟩⟩
  replace h := h H22 hb
  refine t_tomb true 1 (.agg [.empty, .empty, .empty]) [.empty, .empty, .empty] H22 H20 (by kernel_rfl) rfl hb ?_
  obtain ⟨H23, hb⟩ : ∃ H', Dead1 H22 1 H' := ⟨_, ⟨rfl⟩⟩
  replace h := h H23 hb
  refine t_tomb true 1 (.agg [(.int .i64 0), (.int .i64 0)]) [(.int .i64 0), (.int .i64 0)] H23 H22 (by kernel_rfl) rfl hb ?_
  obtain ⟨hs24, h⟩ := h
  obtain ⟨hs25, h⟩ := h
  obtain ⟨hs26, h⟩ := h
  refine t_upd true 3 0 [.empty, .empty, .empty] (.agg [r15, r16, r17]) [r15, r16, r17] [r15, r16, r17] H23 (by kernel_rfl) rfl (all_c hs24.2 (all_c hs25.2 (all_c hs26.2 all_n))) ⟨rfl, Nat.le_of_ble_eq_true (by kernel_rfl), rfl⟩ ?_
  refine t_upd true 2 0 [(.int .i64 0), (.int .i64 0)] (.agg [(.int .i64 r18), (.int .i64 r19)]) [(.int .i64 r18), (.int .i64 r19)] [(.int .i64 r18), (.int .i64 r19)] H23 (by kernel_rfl) rfl (all_c rfl (all_c rfl all_n)) ⟨rfl, Nat.le_of_ble_eq_true (by kernel_rfl), rfl⟩ ?_
  refine t_done [(.bool false), (.slice b0 0 4 (some 4)), (.agg [(.int .i64 r6), (.int .i64 r7)]), (.agg [(.int .i64 r18), (.int .i64 r19)]), .undef, (.agg [r3, r4, r5]), (.agg [r15, r16, r17]), .undef, .undef] H23 (by kernel_rfl) ?_
  refine then_norm ?_
  refine w_seq ?_
  refine w_run [0, 1, 0, 0, 0, 0, 1, 0, 0, 1] ?_
  refine t_call true nmergequeue_Outcome [(.int .i64 2), (.slice b0 0 4 (some 4)), (.int .i64 6)] H23 (by kernel_rfl) h ?_
  clear h
  rintro _ H31 ⟨r27, r28, r29, r30, rfl, h⟩
  obtain ⟨H33, hb⟩ : ∃ H', Dead1 H31 1 H' := ⟨_, ⟨rfl⟩⟩
  replace h := h H33 hb
  refine t_tomb true 1 (.agg [(.int .i64 0), (.int .i64 0)]) [(.int .i64 0), (.int .i64 0)] H33 H31 (by kernel_rfl) rfl hb ?_
  refine t_upd true 2 0 [(.int .i64 0), (.int .i64 0)] (.agg [(.int .i64 r29), (.int .i64 r30)]) [(.int .i64 r29), (.int .i64 r30)] [(.int .i64 r29), (.int .i64 r30)] H33 (by kernel_rfl) rfl (all_c rfl (all_c rfl all_n)) ⟨rfl, Nat.le_of_ble_eq_true (by kernel_rfl), rfl⟩ ?_
  refine t_done [(.bool false), (.slice b0 0 4 (some 4)), (.agg [(.int .i64 r6), (.int .i64 r7)]), (.agg [(.int .i64 r18), (.int .i64 r19)]), (.agg [(.int .i64 r29), (.int .i64 r30)]), (.agg [r3, r4, r5]), (.agg [r15, r16, r17]), (.int .i64 r27), (.int .i64 r28)] H33 (by kernel_rfl) ?_
  refine then_norm ?_
  refine w_seq ?_
  refine w_run [0, 0, 0, 0, 0, 0, 0, 0, 0, 0, 0, 0, 0, 0, 0, 0, 1, 0, 0, 0, 0, 0, 1, 0, 0, 0, 0, 0, 3, 3, 0, 0, 0, 0, 0, 0, 0, 0, 0, 0] ?_
  obtain ⟨len34, hl, h⟩ := h
  refine t_len true r4 len34 H33 (by kernel_rfl) hl ?_
  obtain ⟨len35, hl, h⟩ := h
  refine t_len true r3 len35 H33 (by kernel_rfl) hl ?_
  refine t_gd ((((((r6) == 0) && ((r18) == 0)) && ((r29) == 0)) && (((len34 : Int)) == 0)) && (((len35 : Int)) == 2)) true (by kernel_rfl) (fun hc => ?_) (fun hc => ?_)
  · replace h := h.1 ((is_and (is_and (is_and (is_and is_eq is_eq) is_eq) is_eq) is_eq).t hc)
    obtain ⟨b36, H37, hb⟩ : ∃ b H', NewB H33 1 [(.int .i64 5), (.int .i64 6)] b H' := ⟨_, _, rfl, rfl⟩
    replace h := h b36 H37 hb
    refine t_bs true 1 [(.int .i64 0)] [(0, 1, .loc 0), (1, 1, .loc 1)] 2 [(.int .i64 5), (.int .i64 6)] [(.int .i64 5), (.int .i64 6)] b36 H37 H33 (by kernel_rfl) (fill_c (vs := [(.int .i64 5)]) (size := 1) rfl (by kernel_rfl) (by kernel_rfl) (fill_c (vs := [(.int .i64 6)]) (size := 1) rfl (by kernel_rfl) (by kernel_rfl) (by kernel_rfl))) hb ?_
    refine t_gd true true (by kernel_rfl) (fun _ => ?_) (fun hn => by cases hn)
    refine t_call true nFEqualInts [r16, (.slice b36 0 2 (some 2))] H37 (by kernel_rfl) h ?_
    clear h
    rintro _ H39 ⟨r38, rfl, h⟩
    refine t_done [(.bool ((r38 && ((r27) == 1)) && ((r28) == 1))), (.slice b0 0 4 (some 4)), (.agg [(.int .i64 r6), (.int .i64 r7)]), (.agg [(.int .i64 r18), (.int .i64 r19)]), (.agg [(.int .i64 r29), (.int .i64 r30)]), (.agg [r3, r4, r5]), (.agg [r15, r16, r17]), (.int .i64 r27), (.int .i64 r28)] H39 (by kernel_rfl) ?_
    refine then_norm ?_
    refine w_ret ?_
    exact body_ret (vs := [(.bool ((r38 && ((r27) == 1)) && ((r28) == 1)))]) _ (by kernel_rfl) rfl h
  · replace h := h.2 ((is_and (is_and (is_and (is_and is_eq is_eq) is_eq) is_eq) is_eq).f hc)
    refine t_gd false true (by kernel_rfl) (fun hn => by cases hn) (fun _ => ?_)
    refine t_done [(.bool false), (.slice b0 0 4 (some 4)), (.agg [(.int .i64 r6), (.int .i64 r7)]), (.agg [(.int .i64 r18), (.int .i64 r19)]), (.agg [(.int .i64 r29), (.int .i64 r30)]), (.agg [r3, r4, r5]), (.agg [r15, r16, r17]), (.int .i64 r27), (.int .i64 r28)] H33 (by kernel_rfl) ?_
    refine then_norm ?_
    refine w_ret ?_
    exact body_ret (vs := [(.bool false)]) _ (by kernel_rfl) rfl h

def rf_LMergequeueNothingIsLost (nmergequeue_Run nLqueueExample nFHas : Nat) : RFunc := ⟨2, 22, [.var 2],
 ((.seq (.ops [⟨.move (.k (.bool false)), none, (some 2), true⟩])
 ((.seq (.ops [o1 (.move (.var 0)), o1 (.move (.var 1)), o1 (.callS nmergequeue_Run [(.loc 0), (.loc 1)]), o1 (.move (.loc 2)), o1 (.extract (.loc 3) 0), o1 (.extract (.loc 3) 1), ⟨.tomb 1 (.k (.agg [.empty, .empty, .empty])), none, (some 6), true⟩, ⟨.tomb 1 (.k (.agg [.int .i64 0, .int .i64 0])), none, (some 4), true⟩, ⟨.upd 3 0 (.loc 6) (.loc 4), none, (some 6), true⟩, ⟨.upd 2 0 (.loc 7) (.loc 5), none, (some 4), true⟩])
 ((.seq ((.seq (.ops [o1 (.callS nLqueueExample []), ⟨.un .not (.loc 0), none, (some 3), true⟩])
 (.cond (.var 3) ((.seq (.ops [⟨.move (.k (.bool false)), none, (some 2), true⟩])
 (.ret))) (.skip))))
 ((.seq ((.seq (.ops [o1 (.field 0 none (.var 4)), o1 (.field 0 none (.var 4)), ⟨.bin .neq .no (.loc 1) (.k (.int .i64 0)), none, (some 5), true⟩])
 (.cond (.var 5) ((.seq (.ops [⟨.move (.k (.bool true)), none, (some 2), true⟩])
 (.ret))) (.skip))))
 ((.seq (.ops [⟨.field 0 none (.var 6), none, none, false⟩, ⟨.field 1 none (.var 6), none, none, false⟩, ⟨.append 1 8 (.k (.empty)) (.loc 1), none, none, false⟩, ⟨.field 0 none (.var 6), none, none, false⟩, ⟨.field 2 none (.var 6), none, none, false⟩, o1 (.append 1 8 (.loc 2) (.loc 4)), ⟨.move (.loc 5), none, (some 9), true⟩])
 ((.seq ((.seq (.ops [⟨.move (.k (.int .i64 0)), none, (some 7), true⟩])
 (.block 0 (.loop ((.seq ((.seq (.ops [o1 (.move (.var 7)), o1 (.field 0 none (.var 6)), o1 (.field 0 none (.var 6)), o1 (.len (.loc 2)), ⟨.bin .lss .no (.loc 0) (.loc 3), none, (some 8), true⟩])
 (.cond (.var 8) (.skip) (.exit 0))))
 ((.seq (.block 1 (.ops [o1 (.move (.var 9)), o1 (.field 0 none (.var 6)), o1 (.field 0 none (.var 6)), o1 (.move (.var 7)), o1 (.indexAddr 6 (.loc 2) (.loc 3)), o1 (.fieldAddr 0 (.loc 4)), o1 (.load none (.loc 5)), o1 (.buildSlice 1 [.int .i64 0] [(0, 1, (.loc 6))] 1), o1 (.append 1 8 (.loc 0) (.loc 7)), ⟨.move (.loc 8), none, (some 9), true⟩]))
 (.ops [o1 (.move (.var 7)), o1 (.bin .add .no (.loc 0) (.k (.int .i64 1))), ⟨.move (.loc 1), none, (some 7), true⟩])))))))))
 ((.seq ((.seq (.ops [⟨.move (.k (.int .i64 0)), none, (some 10), true⟩])
 (.block 2 (.loop ((.seq ((.seq (.ops [o1 (.move (.var 10)), o1 (.move (.var 9)), o1 (.len (.loc 1)), ⟨.bin .lss .no (.loc 0) (.loc 2), none, (some 11), true⟩])
 (.cond (.var 11) (.skip) (.exit 2))))
 ((.seq (.block 3 ((.seq (.ops [⟨.move (.var 9), none, none, false⟩, ⟨.move (.var 10), none, none, false⟩, ⟨.slice 1 (.loc 0) none (some (.loc 1)) none, none, none, false⟩, o1 (.move (.var 9)), o1 (.move (.var 10)), o1 (.indexAddr 1 (.loc 3) (.loc 4)), o1 (.load none (.loc 5)), ⟨.callS nFHas [(.loc 2), (.loc 6)], none, (some 12), true⟩])
 (.cond (.var 12) ((.seq (.ops [⟨.move (.k (.bool false)), none, (some 2), true⟩])
 (.ret))) (.skip)))))
 (.ops [o1 (.move (.var 10)), o1 (.bin .add .no (.loc 0) (.k (.int .i64 1))), ⟨.move (.loc 1), none, (some 10), true⟩])))))))))
 ((.seq (.ops [o1 (.move (.var 9)), o1 (.len (.loc 0)), ⟨.move (.loc 1), none, (some 16), true⟩])
 ((.seq ((.seq (.ops [⟨.move (.k (.int .i64 0)), none, (some 13), true⟩])
 (.block 4 (.loop ((.seq ((.seq (.ops [o1 (.move (.var 13)), o1 (.move (.var 1)), o1 (.len (.loc 1)), ⟨.bin .lss .no (.loc 0) (.loc 2), none, (some 14), true⟩])
 (.cond (.var 14) (.skip) (.exit 4))))
 ((.seq (.block 5 ((.seq ((.seq (.ops [o1 (.move (.var 1)), o1 (.move (.var 13)), o1 (.indexAddr 3 (.loc 0) (.loc 1)), o1 (.fieldAddr 0 (.loc 2)), o1 (.load none (.loc 3)), ⟨.bin .eql .no (.loc 4) (.k (.int .i64 2)), none, (some 15), true⟩])
 (.cond (.var 15) (.ops [o1 (.move (.var 16)), o1 (.bin .add .no (.loc 0) (.k (.int .i64 1))), ⟨.move (.loc 1), none, (some 16), true⟩]) (.skip))))
 ((.seq (.ops [o1 (.move (.var 1)), o1 (.move (.var 13)), o1 (.indexAddr 3 (.loc 0) (.loc 1)), o1 (.fieldAddr 0 (.loc 2)), o1 (.load none (.loc 3)), ⟨.bin .eql .no (.loc 4) (.k (.int .i64 1)), none, (some 17), true⟩])
 (.cond (.var 17) ((.seq (.ops [o1 (.move (.var 16)), o1 (.bin .sub .no (.loc 0) (.k (.int .i64 1))), ⟨.move (.loc 1), none, (some 16), true⟩])
 ((.seq (.ops [⟨.move (.k (.bool false)), none, (some 20), true⟩])
 ((.seq ((.seq (.ops [o1 (.move (.var 13)), ⟨.move (.loc 0), none, (some 18), true⟩])
 (.block 6 (.loop ((.seq ((.seq (.ops [o1 (.move (.var 18)), o1 (.move (.var 1)), o1 (.len (.loc 1)), ⟨.bin .lss .no (.loc 0) (.loc 2), none, (some 19), true⟩])
 (.cond (.var 19) (.skip) (.exit 6))))
 ((.seq (.block 7 (.ops [o1 (.move (.var 20)), o1 (.move (.loc 0)), o1 (.move (.var 1)), o1 (.move (.var 18)), ⟨.indexAddr 3 (.loc 2) (.loc 3), (some (1, false)), none, true⟩, ⟨.fieldAddr 0 (.loc 4), (some (1, false)), none, true⟩, ⟨.load none (.loc 5), (some (1, false)), none, true⟩, ⟨.bin .eql .no (.loc 6) (.k (.int .i64 2)), (some (1, false)), none, true⟩, ⟨.move (.loc 7), (some (1, false)), none, true⟩, ⟨.move (.var 1), none, none, false⟩, ⟨.move (.var 18), none, none, false⟩, ⟨.indexAddr 3 (.loc 9) (.loc 10), (some (8, true)), none, false⟩, ⟨.fieldAddr 1 (.loc 11), (some (8, true)), none, false⟩, ⟨.load none (.loc 12), (some (8, true)), none, false⟩, ⟨.move (.var 1), none, none, false⟩, ⟨.move (.var 13), none, none, false⟩, ⟨.indexAddr 3 (.loc 14) (.loc 15), (some (8, true)), none, false⟩, ⟨.fieldAddr 1 (.loc 16), (some (8, true)), none, false⟩, ⟨.load none (.loc 17), (some (8, true)), none, false⟩, ⟨.bin .eql .no (.loc 13) (.loc 18), (some (8, true)), none, true⟩, ⟨.pick (.loc 8) (.loc 19) (.k (.bool false)), (some (1, false)), none, true⟩, o1 (.pick (.loc 1) (.k (.bool true)) (.loc 20)), ⟨.move (.loc 21), none, (some 20), true⟩]))
 (.ops [o1 (.move (.var 18)), o1 (.bin .add .no (.loc 0) (.k (.int .i64 1))), ⟨.move (.loc 1), none, (some 18), true⟩])))))))))
 ((.seq (.ops [o1 (.move (.var 20)), o1 (.un .not (.loc 0)), o1 (.move (.loc 1)), o1 (.move (.var 9)), o1 (.move (.var 1)), o1 (.move (.var 13)), ⟨.indexAddr 3 (.loc 4) (.loc 5), (some (2, true)), none, true⟩, ⟨.fieldAddr 1 (.loc 6), (some (2, true)), none, true⟩, ⟨.load none (.loc 7), (some (2, true)), none, true⟩, ⟨.callS nFHas [(.loc 3), (.loc 8)], (some (2, true)), none, true⟩, ⟨.un .not (.loc 9), (some (2, true)), none, true⟩, ⟨.pick (.loc 2) (.loc 10) (.k (.bool false)), none, (some 21), true⟩])
 (.cond (.var 21) ((.seq (.ops [⟨.move (.k (.bool false)), none, (some 2), true⟩])
 (.ret))) (.skip)))))))))) (.skip)))))))
 (.ops [o1 (.move (.var 13)), o1 (.bin .add .no (.loc 0) (.k (.int .i64 1))), ⟨.move (.loc 1), none, (some 13), true⟩])))))))))
 ((.seq (.ops [o1 (.move (.var 16)), o1 (.bin .eql .no (.loc 0) (.k (.int .i64 0))), ⟨.move (.loc 1), none, (some 2), true⟩])
 (.ret))))))))))))))))))))), none⟩
def rf_LMergequeueFunctionsMatchSpec (nmergequeue_Run nmergequeue_Outcome nLqueueExample nFRunQueue nFQueue_State nFEqualQueues nFFault : Nat) : RFunc := ⟨3, 20, [.var 3],
 ((.seq (.ops [⟨.move (.k (.bool false)), none, (some 3), true⟩])
 ((.seq (.ops [o1 (.move (.var 0)), o1 (.move (.var 1)), o1 (.callS nmergequeue_Run [(.loc 0), (.loc 1)]), o1 (.move (.loc 2)), o1 (.extract (.loc 3) 0), o1 (.extract (.loc 3) 1), ⟨.tomb 1 (.k (.agg [.empty, .empty, .empty])), none, (some 7), true⟩, ⟨.tomb 1 (.k (.agg [.int .i64 0, .int .i64 0])), none, (some 5), true⟩, ⟨.upd 3 0 (.loc 6) (.loc 4), none, (some 7), true⟩, ⟨.upd 2 0 (.loc 7) (.loc 5), none, (some 5), true⟩])
 ((.seq (.ops [o1 (.move (.var 0)), o1 (.move (.var 1)), o1 (.move (.var 2)), o1 (.callS nmergequeue_Outcome [(.loc 0), (.loc 1), (.loc 2)]), o1 (.move (.loc 3)), o1 (.extract (.loc 4) 0), o1 (.extract (.loc 4) 1), o1 (.extract (.loc 4) 2), ⟨.tomb 1 (.k (.agg [.int .i64 0, .int .i64 0])), none, (some 11), true⟩, ⟨.move (.loc 5), none, (some 12), true⟩, ⟨.move (.loc 6), none, (some 13), true⟩, ⟨.upd 2 0 (.loc 8) (.loc 7), none, (some 11), true⟩])
 ((.seq ((.seq (.ops [o1 (.callS nLqueueExample []), ⟨.un .not (.loc 0), none, (some 4), true⟩])
 (.cond (.var 4) ((.seq (.ops [⟨.move (.k (.bool false)), none, (some 3), true⟩])
 (.ret))) (.skip))))
 ((.seq (.ops [o1 (.move (.var 0)), o1 (.move (.var 1)), o1 (.callS nFRunQueue [(.loc 0), (.loc 1)]), o1 (.move (.loc 2)), o1 (.extract (.loc 3) 0), o1 (.extract (.loc 3) 1), ⟨.tomb 1 (.k (.agg [.empty, .empty, .empty, .empty, .empty])), none, (some 8), true⟩, ⟨.tomb 1 (.k (.agg [.int .i64 0, .int .i64 0])), none, (some 6), true⟩, ⟨.upd 5 0 (.loc 6) (.loc 4), none, (some 8), true⟩, ⟨.upd 2 0 (.loc 7) (.loc 5), none, (some 6), true⟩])
 ((.seq ((.seq (.ops [⟨.field 0 (some 2) (.var 5), none, none, false⟩, ⟨.field 0 (some 2) (.var 6), none, none, false⟩, o1 (.bin .neq (.agg [.int, .int]) (.loc 0) (.loc 1)), o1 (.move (.loc 2)), ⟨.field 0 (some 3) (.var 7), none, none, false⟩, ⟨.field 0 (some 5) (.var 8), none, none, false⟩, ⟨.callS nFQueue_State [(.loc 5)], (some (3, false)), none, false⟩, ⟨.callS nFEqualQueues [(.loc 4), (.loc 6)], (some (3, false)), none, true⟩, ⟨.un .not (.loc 7), (some (3, false)), none, true⟩, ⟨.pick (.loc 3) (.k (.bool true)) (.loc 8), none, (some 9), true⟩])
 (.cond (.var 9) ((.seq (.ops [⟨.move (.k (.bool false)), none, (some 3), true⟩])
 (.ret))) (.skip))))
 ((.seq ((.seq (.ops [o1 (.field 0 none (.var 6)), o1 (.field 0 none (.var 6)), ⟨.bin .neq .no (.loc 1) (.k (.int .i64 0)), none, (some 10), true⟩])
 (.cond (.var 10) ((.seq (.ops [o1 (.field 0 (some 2) (.var 11)), o1 (.field 0 (some 2) (.var 6)), o1 (.bin .eql (.agg [.int, .int]) (.loc 0) (.loc 1)), o1 (.move (.loc 2)), o1 (.move (.var 12)), o1 (.bin .eql .no (.loc 4) (.k (.int .i64 0))), o1 (.pick (.loc 3) (.loc 5) (.k (.bool false))), o1 (.move (.loc 6)), o1 (.move (.var 13)), o1 (.bin .eql .no (.loc 8) (.k (.int .i64 0))), o1 (.pick (.loc 7) (.loc 9) (.k (.bool false))), ⟨.move (.loc 10), none, (some 3), true⟩])
 (.ret))) (.skip))))
 ((.seq (.ops [o1 (.field 0 none (.var 8)), o1 (.field 3 none (.var 8)), o1 (.field 0 none (.var 8)), o1 (.field 4 none (.var 8)), o1 (.field 0 none (.var 8)), o1 (.field 0 none (.var 8)), o1 (.buildSlice 1 [.empty] [(0, 1, (.k (.empty))), (1, 1, (.loc 1)), (2, 1, (.loc 3)), (3, 1, (.loc 5))] 4), ⟨.move (.loc 6), none, (some 17), true⟩])
 ((.seq ((.seq (.ops [⟨.move (.k (.int .i64 1)), none, (some 14), true⟩])
 (.block 0 (.loop ((.seq ((.seq (.ops [o1 (.move (.var 14)), ⟨.bin .lss .no (.loc 0) (.k (.int .i64 4)), none, (some 15), true⟩])
 (.cond (.var 15) (.skip) (.exit 0))))
 ((.seq (.block 1 ((.seq (.ops [⟨.move (.k (.int .i64 0)), none, (some 16), true⟩])
 (.block 2 (.loop ((.seq ((.seq (.ops [o1 (.move (.var 16)), o1 (.move (.var 17)), o1 (.move (.var 14)), o1 (.indexAddr 1 (.loc 1) (.loc 2)), o1 (.load none (.loc 3)), o1 (.len (.loc 4)), ⟨.bin .lss .no (.loc 0) (.loc 5), none, (some 18), true⟩])
 (.cond (.var 18) (.skip) (.exit 2))))
 ((.seq (.block 3 ((.seq (.ops [o1 (.move (.var 17)), o1 (.move (.var 14)), o1 (.indexAddr 1 (.loc 0) (.loc 1)), o1 (.load none (.loc 2)), o1 (.move (.var 16)), o1 (.indexAddr 1 (.loc 3) (.loc 4)), o1 (.load none (.loc 5)), o1 (.move (.var 2)), ⟨.bin .eql .no (.loc 6) (.loc 7), none, (some 19), true⟩])
 (.cond (.var 19) ((.seq (.ops [o1 (.field 0 none (.var 11)), o1 (.field 0 none (.var 11)), o1 (.bin .eql .no (.loc 1) (.k (.int .i64 0))), o1 (.move (.loc 2)), o1 (.move (.var 12)), o1 (.move (.var 14)), o1 (.bin .eql .no (.loc 4) (.loc 5)), o1 (.pick (.loc 3) (.loc 6) (.k (.bool false))), o1 (.move (.loc 7)), o1 (.move (.var 13)), o1 (.move (.var 16)), o1 (.bin .eql .no (.loc 9) (.loc 10)), o1 (.pick (.loc 8) (.loc 11) (.k (.bool false))), ⟨.move (.loc 12), none, (some 3), true⟩])
 (.ret))) (.skip)))))
 (.ops [o1 (.move (.var 16)), o1 (.bin .add .no (.loc 0) (.k (.int .i64 1))), ⟨.move (.loc 1), none, (some 16), true⟩]))))))))))
 (.ops [o1 (.move (.var 14)), o1 (.bin .add .no (.loc 0) (.k (.int .i64 1))), ⟨.move (.loc 1), none, (some 14), true⟩])))))))))
 ((.seq (.ops [⟨.field 0 (some 2) (.var 11), none, none, false⟩, ⟨.callS nFFault [(.k (.int .i64 6)), (.k (.int .i64 (-3)))], none, none, false⟩, o1 (.bin .eql (.agg [.int, .int]) (.loc 0) (.loc 1)), o1 (.move (.loc 2)), o1 (.move (.var 12)), o1 (.bin .eql .no (.loc 4) (.k (.int .i64 0))), o1 (.pick (.loc 3) (.loc 5) (.k (.bool false))), o1 (.move (.loc 6)), o1 (.move (.var 13)), o1 (.bin .eql .no (.loc 8) (.k (.int .i64 0))), o1 (.pick (.loc 7) (.loc 9) (.k (.bool false))), ⟨.move (.loc 10), none, (some 3), true⟩])
 (.ret))))))))))))))))))))), none⟩
theorem v_LMergequeueFunctionsMatchSpec {F : Nat → Option RFunc} {me nmergequeue_Run nmergequeue_Outcome nLqueueExample nFRunQueue nFQueue_State nFEqualQueues nFFault : Nat} (hF : F me = some (rf_LMergequeueFunctionsMatchSpec nmergequeue_Run nmergequeue_Outcome nLqueueExample nFRunQueue nFQueue_State nFEqualQueues nFFault)) {fl : Nat} {H : Heap} {Q : AV → Heap → Prop} (window0 : Int) (events1 : AV) (change2 : Int)
  (h : Ret F fl nmergequeue_Run [(.int .i64 window0), events1] H (fun v9 H8 => ∃ (r3 : AV) (r4 : AV) (r5 : AV) (r6 : Int) (r7 : Int), v9 = (.tuple [(.agg [r3, r4, r5]), (.agg [(.int .i64 r6), (.int .i64 r7)])]) ∧ ∀ (H10 : Heap), Dead1 H8 1 H10 → ∀ (H11 : Heap), Dead1 H10 1 H11 → Scal r3 ∧ Scal r4 ∧ Scal r5 ∧ Ret F fl nmergequeue_Outcome [(.int .i64 window0), events1, (.int .i64 change2)] H11 (fun v20 H19 => ∃ (r15 : Int) (r16 : Int) (r17 : Int) (r18 : Int), v20 = (.tuple [(.int .i64 r15), (.int .i64 r16), (.agg [(.int .i64 r17), (.int .i64 r18)])]) ∧ ∀ (H21 : Heap), Dead1 H19 1 H21 → Ret F fl nLqueueExample [] H21 (fun v24 H23 => ∃ (r22 : Bool), v24 = (.bool r22) ∧ ((¬(r22 = true)) → Q (.bool false) H23) ∧ (¬(¬(r22 = true)) → Ret F fl nFRunQueue [(.int .i64 window0), events1] H23 (fun v33 H32 => ∃ (r25 : AV) (r26 : AV) (r27 : AV) (r28 : AV) (r29 : AV) (r30 : Int) (r31 : Int), v33 = (.tuple [(.agg [r25, r26, r27, r28, r29]), (.agg [(.int .i64 r30), (.int .i64 r31)])]) ∧ ∀ (H34 : Heap), Dead1 H32 1 H34 → ∀ (H35 : Heap), Dead1 H34 1 H35 → Scal r25 ∧ Scal r26 ∧ Scal r27 ∧ Scal r28 ∧ Scal r29 ∧ ((¬(((r6 = r30) ∧ (((r7 = r31) ∧ (True)))))) → Q (.bool false) H35) ∧ (¬(¬(((r6 = r30) ∧ (((r7 = r31) ∧ (True)))))) → Ret F H35.length nFQueue_State [(.agg [r25, r26, r27, r28, r29])] H35 (fun v45 H44 => ∃ (r41 : AV) (r42 : AV) (r43 : AV), v45 = (.agg [r41, r42, r43]) ∧ Ret F fl nFEqualQueues [(.agg [r3, r4, r5]), (.agg [r41, r42, r43])] H44 (fun v48 H47 => ∃ (r46 : Bool), v48 = (.bool r46) ∧ ((¬(r46 = true)) → Q (.bool false) H47) ∧ (¬(¬(r46 = true)) → ((r30 ≠ 0) → Q (.bool (((((r17) == r30) && (((r18) == r31) && true)) && ((r15) == 0)) && ((r16) == 0))) H47) ∧ (¬(r30 ≠ 0) → ∀ (b49 : Nat) (H50 : Heap), NewB H47 1 [.empty, r28, r29, r25] b49 H50 → ∃ (J51 : Nat → Int → Prop) (k52 : Nat), J51 k52 1 ∧ (∀ (m53 : Nat) (k55 : Int), J51 m53 k55 → ((k55 < 4) → ∃ (J60 : Nat → Int → Prop) (k61 : Nat), J60 k61 0 ∧ (∀ (m62 : Nat) (i64 : Int), J60 m62 i64 → ∃ (e67 : AV), getA H50 1 none (.slice b49 0 4 (some 4)) k55 0 = some e67 ∧ ∃ len69 : Nat, lenA e67 = some len69 ∧ ((i64 < (len69 : Int)) → ∃ (e70 : AV), getA H50 1 none (.slice b49 0 4 (some 4)) k55 0 = some e70 ∧ ∃ (e72 : Int), getA H50 1 none e70 i64 0 = some (.int .i64 e72) ∧ ((e72 = change2) → Q (.bool ((((r17) == 0) && ((r15) == k55)) && ((r16) == i64))) H50) ∧ (¬(e72 = change2) → ∃ m74 : Nat, m74 < m62 ∧ J60 m74 (IntKind.wrap .i64 (i64 + 1)))) ∧ (¬(i64 < (len69 : Int)) → ∃ m75 : Nat, m75 < m53 ∧ J51 m75 (IntKind.wrap .i64 (k55 + 1))))) ∧ (¬(k55 < 4) → Ret F H50.length nFFault [(.int .i64 6), (.int .i64 (-3))] H50 (fun v79 H78 => ∃ (r76 : Int) (r77 : Int), v79 = (.agg [(.int .i64 r76), (.int .i64 r77)]) ∧ Q (.bool (((((r17) == r76) && (((r18) == r77) && true)) && ((r15) == 0)) && ((r16) == 0))) H78)))))))))))))) : Ret F fl me [(.int .i64 window0), events1, (.int .i64 change2)] H Q := by
  refine ret_intro hF rfl ?_
  refine w_seq ?_
  refine w_run [0] ?_
  refine t_done [(.int .i64 window0), events1, (.int .i64 change2), (.bool false), .undef, .undef, .undef, .undef, .undef, .undef, .undef, .undef, .undef, .undef, .undef, .undef, .undef, .undef, .undef, .undef] H (by kernel_rfl) ?_
  refine then_norm ?_
  refine w_seq ?_
  refine w_run [0, 0, 1, 0, 0, 0, 1, 1, 1, 1] ?_
  refine t_call true nmergequeue_Run [(.int .i64 window0), events1] H (by kernel_rfl) h ?_
  clear h
  rintro _ H8 ⟨r3, r4, r5, r6, r7, rfl, h⟩
  obtain ⟨H10, hb⟩ : ∃ H', Dead1 H8 1 H' := ⟨_, ⟨rfl⟩⟩
  replace h := h H10 hb
  refine t_tomb true 1 (.agg [.empty, .empty, .empty]) [.empty, .empty, .empty] H10 H8 (by kernel_rfl) rfl hb ?_
  obtain ⟨H11, hb⟩ : ∃ H', Dead1 H10 1 H' := ⟨_, ⟨rfl⟩⟩
  replace h := h H11 hb
  refine t_tomb true 1 (.agg [(.int .i64 0), (.int .i64 0)]) [(.int .i64 0), (.int .i64 0)] H11 H10 (by kernel_rfl) rfl hb ?_
  obtain ⟨hs12, h⟩ := h
  obtain ⟨hs13, h⟩ := h
  obtain ⟨hs14, h⟩ := h
  refine t_upd true 3 0 [.empty, .empty, .empty] (.agg [r3, r4, r5]) [r3, r4, r5] [r3, r4, r5] H11 (by kernel_rfl) rfl (all_c hs12.2 (all_c hs13.2 (all_c hs14.2 all_n))) ⟨rfl, Nat.le_of_ble_eq_true (by kernel_rfl), rfl⟩ ?_
  refine t_upd true 2 0 [(.int .i64 0), (.int .i64 0)] (.agg [(.int .i64 r6), (.int .i64 r7)]) [(.int .i64 r6), (.int .i64 r7)] [(.int .i64 r6), (.int .i64 r7)] H11 (by kernel_rfl) rfl (all_c rfl (all_c rfl all_n)) ⟨rfl, Nat.le_of_ble_eq_true (by kernel_rfl), rfl⟩ ?_
  refine t_done [(.int .i64 window0), events1, (.int .i64 change2), (.bool false), .undef, (.agg [(.int .i64 r6), (.int .i64 r7)]), .undef, (.agg [r3, r4, r5]), .undef, .undef, .undef, .undef, .undef, .undef, .undef, .undef, .undef, .undef, .undef, .undef] H11 (by kernel_rfl) ?_
  refine then_norm ?_
  refine w_seq ?_
  refine w_run [0, 0, 0, 1, 0, 0, 0, 0, 1, 0, 0, 1] ?_
  refine t_call true nmergequeue_Outcome [(.int .i64 window0), events1, (.int .i64 change2)] H11 (by kernel_rfl) h ?_
  clear h
  rintro _ H19 ⟨r15, r16, r17, r18, rfl, h⟩
  obtain ⟨H21, hb⟩ : ∃ H', Dead1 H19 1 H' := ⟨_, ⟨rfl⟩⟩
  replace h := h H21 hb
  refine t_tomb true 1 (.agg [(.int .i64 0), (.int .i64 0)]) [(.int .i64 0), (.int .i64 0)] H21 H19 (by kernel_rfl) rfl hb ?_
  refine t_upd true 2 0 [(.int .i64 0), (.int .i64 0)] (.agg [(.int .i64 r17), (.int .i64 r18)]) [(.int .i64 r17), (.int .i64 r18)] [(.int .i64 r17), (.int .i64 r18)] H21 (by kernel_rfl) rfl (all_c rfl (all_c rfl all_n)) ⟨rfl, Nat.le_of_ble_eq_true (by kernel_rfl), rfl⟩ ?_
  refine t_done [(.int .i64 window0), events1, (.int .i64 change2), (.bool false), .undef, (.agg [(.int .i64 r6), (.int .i64 r7)]), .undef, (.agg [r3, r4, r5]), .undef, .undef, .undef, (.agg [(.int .i64 r17), (.int .i64 r18)]), (.int .i64 r15), (.int .i64 r16), .undef, .undef, .undef, .undef, .undef, .undef] H21 (by kernel_rfl) ?_
  refine then_norm ?_
  refine w_seq ?_
  refine w_seq ?_
  refine w_run [1, 0] ?_
  refine t_call true nLqueueExample [] H21 (by kernel_rfl) h ?_
  clear h
  rintro _ H23 ⟨r22, rfl, h⟩
  refine t_done [(.int .i64 window0), events1, (.int .i64 change2), (.bool false), (.bool (!r22)), (.agg [(.int .i64 r6), (.int .i64 r7)]), .undef, (.agg [r3, r4, r5]), .undef, .undef, .undef, (.agg [(.int .i64 r17), (.int .i64 r18)]), (.int .i64 r15), (.int .i64 r16), .undef, .undef, .undef, .undef, .undef, .undef] H23 (by kernel_rfl) ?_
  refine then_norm ?_
  refine w_cond (t := (!r22)) rfl (fun hc => ?_) (fun hc => ?_)
  · replace h := h.1 ((is_not is_raw).t hc)
    refine w_seq ?_
    refine w_run [0] ?_
    refine t_done [(.int .i64 window0), events1, (.int .i64 change2), (.bool false), (.bool (!r22)), (.agg [(.int .i64 r6), (.int .i64 r7)]), .undef, (.agg [r3, r4, r5]), .undef, .undef, .undef, (.agg [(.int .i64 r17), (.int .i64 r18)]), (.int .i64 r15), (.int .i64 r16), .undef, .undef, .undef, .undef, .undef, .undef] H23 (by kernel_rfl) ?_
    refine then_norm ?_
    refine w_ret ?_
    refine then_ret ?_
    exact body_ret (vs := [(.bool false)]) _ (by kernel_rfl) rfl h
  · replace h := h.2 ((is_not is_raw).f hc)
    refine w_skip ?_
    refine then_norm ?_
    refine w_seq ?_
    refine w_run [0, 0, 1, 0, 0, 0, 1, 1, 1, 1] ?_
    refine t_call true nFRunQueue [(.int .i64 window0), events1] H23 (by kernel_rfl) h ?_
    clear h
    rintro _ H32 ⟨r25, r26, r27, r28, r29, r30, r31, rfl, h⟩
    obtain ⟨H34, hb⟩ : ∃ H', Dead1 H32 1 H' := ⟨_, ⟨rfl⟩⟩
    replace h := h H34 hb
    refine t_tomb true 1 (.agg [.empty, .empty, .empty, .empty, .empty]) [.empty, .empty, .empty, .empty, .empty] H34 H32 (by kernel_rfl) rfl hb ?_
    obtain ⟨H35, hb⟩ : ∃ H', Dead1 H34 1 H' := ⟨_, ⟨rfl⟩⟩
    replace h := h H35 hb
    refine t_tomb true 1 (.agg [(.int .i64 0), (.int .i64 0)]) [(.int .i64 0), (.int .i64 0)] H35 H34 (by kernel_rfl) rfl hb ?_
    obtain ⟨hs36, h⟩ := h
    obtain ⟨hs37, h⟩ := h
    obtain ⟨hs38, h⟩ := h
    obtain ⟨hs39, h⟩ := h
    obtain ⟨hs40, h⟩ := h
    refine t_upd true 5 0 [.empty, .empty, .empty, .empty, .empty] (.agg [r25, r26, r27, r28, r29]) [r25, r26, r27, r28, r29] [r25, r26, r27, r28, r29] H35 (by kernel_rfl) rfl (all_c hs36.2 (all_c hs37.2 (all_c hs38.2 (all_c hs39.2 (all_c hs40.2 all_n))))) ⟨rfl, Nat.le_of_ble_eq_true (by kernel_rfl), rfl⟩ ?_
    refine t_upd true 2 0 [(.int .i64 0), (.int .i64 0)] (.agg [(.int .i64 r30), (.int .i64 r31)]) [(.int .i64 r30), (.int .i64 r31)] [(.int .i64 r30), (.int .i64 r31)] H35 (by kernel_rfl) rfl (all_c rfl (all_c rfl all_n)) ⟨rfl, Nat.le_of_ble_eq_true (by kernel_rfl), rfl⟩ ?_
    refine t_done [(.int .i64 window0), events1, (.int .i64 change2), (.bool false), (.bool (!r22)), (.agg [(.int .i64 r6), (.int .i64 r7)]), (.agg [(.int .i64 r30), (.int .i64 r31)]), (.agg [r3, r4, r5]), (.agg [r25, r26, r27, r28, r29]), .undef, .undef, (.agg [(.int .i64 r17), (.int .i64 r18)]), (.int .i64 r15), (.int .i64 r16), .undef, .undef, .undef, .undef, .undef, .undef] H35 (by kernel_rfl) ?_
    refine then_norm ?_
    refine w_seq ?_
    refine w_seq ?_
    refine w_run [0, 0, 0, 0, 0, 0, 3, 3, 2, 0] ?_
    refine t_gd (!(((r6) == r30) && (((r7) == r31) && true))) false (by kernel_rfl) (fun hc => ?_) (fun hc => ?_)
    · replace h := h.2 ((is_not (is_and is_eq (is_and is_eq is_true))).f hc)
      refine t_call false nFQueue_State [(.agg [r25, r26, r27, r28, r29])] H35 (by kernel_rfl) h ?_
      clear h
      rintro _ H44 ⟨r41, r42, r43, rfl, h⟩
      refine t_gd false false (by kernel_rfl) (fun _ => ?_) (fun hn => by cases hn)
      refine t_call true nFEqualQueues [(.agg [r3, r4, r5]), (.agg [r41, r42, r43])] H44 (by kernel_rfl) h ?_
      clear h
      rintro _ H47 ⟨r46, rfl, h⟩
      refine t_gd false false (by kernel_rfl) (fun _ => ?_) (fun hn => by cases hn)
      refine t_done [(.int .i64 window0), events1, (.int .i64 change2), (.bool false), (.bool (!r22)), (.agg [(.int .i64 r6), (.int .i64 r7)]), (.agg [(.int .i64 r30), (.int .i64 r31)]), (.agg [r3, r4, r5]), (.agg [r25, r26, r27, r28, r29]), (.bool (!r46)), .undef, (.agg [(.int .i64 r17), (.int .i64 r18)]), (.int .i64 r15), (.int .i64 r16), .undef, .undef, .undef, .undef, .undef, .undef] H47 (by kernel_rfl) ?_
      refine then_norm ?_
      refine w_cond (t := (!r46)) rfl (fun hc => ?_) (fun hc => ?_)
      · replace h := h.1 ((is_not is_raw).t hc)
        refine w_seq ?_
        refine w_run [0] ?_
        refine t_done [(.int .i64 window0), events1, (.int .i64 change2), (.bool false), (.bool (!r22)), (.agg [(.int .i64 r6), (.int .i64 r7)]), (.agg [(.int .i64 r30), (.int .i64 r31)]), (.agg [r3, r4, r5]), (.agg [r25, r26, r27, r28, r29]), (.bool (!r46)), .undef, (.agg [(.int .i64 r17), (.int .i64 r18)]), (.int .i64 r15), (.int .i64 r16), .undef, .undef, .undef, .undef, .undef, .undef] H47 (by kernel_rfl) ?_
        refine then_norm ?_
        refine w_ret ?_
        refine then_ret ?_
        exact body_ret (vs := [(.bool false)]) _ (by kernel_rfl) rfl h
      · replace h := h.2 ((is_not is_raw).f hc)
        refine w_skip ?_
        refine then_norm ?_
        refine w_seq ?_
        refine w_seq ?_
        refine w_run [0, 0, 0] ?_
        refine t_done [(.int .i64 window0), events1, (.int .i64 change2), (.bool false), (.bool (!r22)), (.agg [(.int .i64 r6), (.int .i64 r7)]), (.agg [(.int .i64 r30), (.int .i64 r31)]), (.agg [r3, r4, r5]), (.agg [r25, r26, r27, r28, r29]), (.bool (!r46)), (.bool ((r30) != 0)), (.agg [(.int .i64 r17), (.int .i64 r18)]), (.int .i64 r15), (.int .i64 r16), .undef, .undef, .undef, .undef, .undef, .undef] H47 (by kernel_rfl) ?_
        refine then_norm ?_
        refine w_cond (t := ((r30) != 0)) rfl (fun hc => ?_) (fun hc => ?_)
        · replace h := h.1 (is_ne.t hc)
          refine w_seq ?_
          refine w_run [0, 0, 0, 0, 0, 0, 0, 0, 0, 0, 0, 0] ?_
          refine t_done [(.int .i64 window0), events1, (.int .i64 change2), (.bool (((((r17) == r30) && (((r18) == r31) && true)) && ((r15) == 0)) && ((r16) == 0))), (.bool (!r22)), (.agg [(.int .i64 r6), (.int .i64 r7)]), (.agg [(.int .i64 r30), (.int .i64 r31)]), (.agg [r3, r4, r5]), (.agg [r25, r26, r27, r28, r29]), (.bool (!r46)), (.bool ((r30) != 0)), (.agg [(.int .i64 r17), (.int .i64 r18)]), (.int .i64 r15), (.int .i64 r16), .undef, .undef, .undef, .undef, .undef, .undef] H47 (by kernel_rfl) ?_
          refine then_norm ?_
          refine w_ret ?_
          refine then_ret ?_
          exact body_ret (vs := [(.bool (((((r17) == r30) && (((r18) == r31) && true)) && ((r15) == 0)) && ((r16) == 0)))]) _ (by kernel_rfl) rfl h
        · replace h := h.2 (is_ne.f hc)
          refine w_skip ?_
          refine then_norm ?_
          refine w_seq ?_
          refine w_run [0, 0, 0, 0, 0, 0, 1, 0] ?_
          obtain ⟨b49, H50, hb⟩ : ∃ b H', NewB H47 1 [.empty, r28, r29, r25] b H' := ⟨_, _, rfl, rfl⟩
          replace h := h b49 H50 hb
          refine t_bs true 1 [.empty] [(0, 1, .loc 0), (1, 1, .loc 1), (2, 1, .loc 2), (3, 1, .loc 3)] 4 [.empty, r28, r29, r25] [.empty, r28, r29, r25] b49 H50 H47 (by kernel_rfl) (fill_c (vs := [.empty]) (size := 1) rfl (by kernel_rfl) (by kernel_rfl) (fill_c (vs := [r28]) (size := 1) hs39.1 (by kernel_rfl) (by kernel_rfl) (fill_c (vs := [r29]) (size := 1) hs40.1 (by kernel_rfl) (by kernel_rfl) (fill_c (vs := [r25]) (size := 1) hs36.1 (by kernel_rfl) (by kernel_rfl) (by kernel_rfl))))) hb ?_
          refine t_done [(.int .i64 window0), events1, (.int .i64 change2), (.bool false), (.bool (!r22)), (.agg [(.int .i64 r6), (.int .i64 r7)]), (.agg [(.int .i64 r30), (.int .i64 r31)]), (.agg [r3, r4, r5]), (.agg [r25, r26, r27, r28, r29]), (.bool (!r46)), (.bool ((r30) != 0)), (.agg [(.int .i64 r17), (.int .i64 r18)]), (.int .i64 r15), (.int .i64 r16), .undef, .undef, .undef, (.slice b49 0 4 (some 4)), .undef, .undef] H50 (by kernel_rfl) ?_
          refine then_norm ?_
          refine w_seq ?_
          refine w_seq ?_
          refine w_run [0] ?_
          refine t_done [(.int .i64 window0), events1, (.int .i64 change2), (.bool false), (.bool (!r22)), (.agg [(.int .i64 r6), (.int .i64 r7)]), (.agg [(.int .i64 r30), (.int .i64 r31)]), (.agg [r3, r4, r5]), (.agg [r25, r26, r27, r28, r29]), (.bool (!r46)), (.bool ((r30) != 0)), (.agg [(.int .i64 r17), (.int .i64 r18)]), (.int .i64 r15), (.int .i64 r16), (.int .i64 1), .undef, .undef, (.slice b49 0 4 (some 4)), .undef, .undef] H50 (by kernel_rfl) ?_
          refine then_norm ?_
          refine w_block ?_
          obtain ⟨J51, k52, h0, h⟩ := h
          refine w_loop (I := fun mI EI HI => ∃ (d54 : AV) (k55 : Int) (d56 : AV) (d57 : AV) (d58 : AV) (d59 : AV), EI = [(.int .i64 window0), events1, (.int .i64 change2), d54, (.bool (!r22)), (.agg [(.int .i64 r6), (.int .i64 r7)]), (.agg [(.int .i64 r30), (.int .i64 r31)]), (.agg [r3, r4, r5]), (.agg [r25, r26, r27, r28, r29]), (.bool (!r46)), (.bool ((r30) != 0)), (.agg [(.int .i64 r17), (.int .i64 r18)]), (.int .i64 r15), (.int .i64 r16), (.int .i64 k55), d56, d57, (.slice b49 0 4 (some 4)), d58, d59] ∧ H50 = HI ∧ J51 mI k55) ?_ k52 ⟨_, _, _, _, _, _, rfl, rfl, h0⟩
          clear h0
          rintro m53 EI HI ⟨d54, k55, d56, d57, d58, d59, rfl, rfl, hJ⟩
          replace h := h m53 k55  hJ
          clear hJ
          refine w_seq ?_
          refine w_seq ?_
          refine w_run [0, 0] ?_
          refine t_done [(.int .i64 window0), events1, (.int .i64 change2), d54, (.bool (!r22)), (.agg [(.int .i64 r6), (.int .i64 r7)]), (.agg [(.int .i64 r30), (.int .i64 r31)]), (.agg [r3, r4, r5]), (.agg [r25, r26, r27, r28, r29]), (.bool (!r46)), (.bool ((r30) != 0)), (.agg [(.int .i64 r17), (.int .i64 r18)]), (.int .i64 r15), (.int .i64 r16), (.int .i64 k55), (.bool (decide (k55 < 4))), d57, (.slice b49 0 4 (some 4)), d58, d59] H50 (by kernel_rfl) ?_
          refine then_norm ?_
          refine w_cond (t := (decide (k55 < 4))) rfl (fun hc => ?_) (fun hc => ?_)
          · replace h := h.1 (is_dec.t hc)
            refine w_skip ?_
            refine then_norm ?_
            refine w_seq ?_
            refine w_block ?_
            refine w_seq ?_
            refine w_run [0] ?_
            refine t_done [(.int .i64 window0), events1, (.int .i64 change2), d54, (.bool (!r22)), (.agg [(.int .i64 r6), (.int .i64 r7)]), (.agg [(.int .i64 r30), (.int .i64 r31)]), (.agg [r3, r4, r5]), (.agg [r25, r26, r27, r28, r29]), (.bool (!r46)), (.bool ((r30) != 0)), (.agg [(.int .i64 r17), (.int .i64 r18)]), (.int .i64 r15), (.int .i64 r16), (.int .i64 k55), (.bool (decide (k55 < 4))), (.int .i64 0), (.slice b49 0 4 (some 4)), d58, d59] H50 (by kernel_rfl) ?_
            refine then_norm ?_
            refine w_block ?_
            obtain ⟨J60, k61, h0, h⟩ := h
            refine w_loop (I := fun mI EI HI => ∃ (d63 : AV) (i64 : Int) (d65 : AV) (d66 : AV), EI = [(.int .i64 window0), events1, (.int .i64 change2), d63, (.bool (!r22)), (.agg [(.int .i64 r6), (.int .i64 r7)]), (.agg [(.int .i64 r30), (.int .i64 r31)]), (.agg [r3, r4, r5]), (.agg [r25, r26, r27, r28, r29]), (.bool (!r46)), (.bool ((r30) != 0)), (.agg [(.int .i64 r17), (.int .i64 r18)]), (.int .i64 r15), (.int .i64 r16), (.int .i64 k55), (.bool (decide (k55 < 4))), (.int .i64 i64), (.slice b49 0 4 (some 4)), d65, d66] ∧ H50 = HI ∧ J60 mI i64) ?_ k61 ⟨_, _, _, _, rfl, rfl, h0⟩
            clear h0
            rintro m62 EI HI ⟨d63, i64, d65, d66, rfl, rfl, hJ⟩
            replace h := h m62 i64  hJ
            clear hJ
            refine w_seq ?_
            refine w_seq ?_
            refine w_run [0, 0, 0, 1, 1, 1, 0] ?_
            obtain ⟨e67, hg68, h⟩ := h
            refine t_idxG true 1 (.slice b49 0 4 (some 4)) .i64 k55 H50 (by kernel_rfl) hg68 ?_
            refine t_loadG true none 1 (.slice b49 0 4 (some 4)) k55 0 e67 H50 (by kernel_rfl) hg68 ?_
            obtain ⟨len69, hl, h⟩ := h
            refine t_len true e67 len69 H50 (by kernel_rfl) hl ?_
            refine t_done [(.int .i64 window0), events1, (.int .i64 change2), d63, (.bool (!r22)), (.agg [(.int .i64 r6), (.int .i64 r7)]), (.agg [(.int .i64 r30), (.int .i64 r31)]), (.agg [r3, r4, r5]), (.agg [r25, r26, r27, r28, r29]), (.bool (!r46)), (.bool ((r30) != 0)), (.agg [(.int .i64 r17), (.int .i64 r18)]), (.int .i64 r15), (.int .i64 r16), (.int .i64 k55), (.bool (decide (k55 < 4))), (.int .i64 i64), (.slice b49 0 4 (some 4)), (.bool (decide (i64 < (len69 : Int)))), d66] H50 (by kernel_rfl) ?_
            refine then_norm ?_
            refine w_cond (t := (decide (i64 < (len69 : Int)))) rfl (fun hc => ?_) (fun hc => ?_)
            · replace h := h.1 (is_dec.t hc)
              refine w_skip ?_
              refine then_norm ?_
              refine w_seq ?_
              refine w_block ?_
              refine w_seq ?_
              refine w_run [0, 0, 1, 1, 0, 1, 1, 0, 0] ?_
              obtain ⟨e70, hg71, h⟩ := h
              refine t_idxG true 1 (.slice b49 0 4 (some 4)) .i64 k55 H50 (by kernel_rfl) hg71 ?_
              refine t_loadG true none 1 (.slice b49 0 4 (some 4)) k55 0 e70 H50 (by kernel_rfl) hg71 ?_
              obtain ⟨e72, hg73, h⟩ := h
              refine t_idxG true 1 e70 .i64 i64 H50 (by kernel_rfl) hg73 ?_
              refine t_loadG true none 1 e70 i64 0 (.int .i64 e72) H50 (by kernel_rfl) hg73 ?_
              refine t_done [(.int .i64 window0), events1, (.int .i64 change2), d63, (.bool (!r22)), (.agg [(.int .i64 r6), (.int .i64 r7)]), (.agg [(.int .i64 r30), (.int .i64 r31)]), (.agg [r3, r4, r5]), (.agg [r25, r26, r27, r28, r29]), (.bool (!r46)), (.bool ((r30) != 0)), (.agg [(.int .i64 r17), (.int .i64 r18)]), (.int .i64 r15), (.int .i64 r16), (.int .i64 k55), (.bool (decide (k55 < 4))), (.int .i64 i64), (.slice b49 0 4 (some 4)), (.bool (decide (i64 < (len69 : Int)))), (.bool ((e72) == change2))] H50 (by kernel_rfl) ?_
              refine then_norm ?_
              refine w_cond (t := ((e72) == change2)) rfl (fun hc => ?_) (fun hc => ?_)
              · replace h := h.1 (is_eq.t hc)
                refine w_seq ?_
                refine w_run [0, 0, 0, 0, 0, 0, 0, 0, 0, 0, 0, 0, 0, 0] ?_
                refine t_done [(.int .i64 window0), events1, (.int .i64 change2), (.bool ((((r17) == 0) && ((r15) == k55)) && ((r16) == i64))), (.bool (!r22)), (.agg [(.int .i64 r6), (.int .i64 r7)]), (.agg [(.int .i64 r30), (.int .i64 r31)]), (.agg [r3, r4, r5]), (.agg [r25, r26, r27, r28, r29]), (.bool (!r46)), (.bool ((r30) != 0)), (.agg [(.int .i64 r17), (.int .i64 r18)]), (.int .i64 r15), (.int .i64 r16), (.int .i64 k55), (.bool (decide (k55 < 4))), (.int .i64 i64), (.slice b49 0 4 (some 4)), (.bool (decide (i64 < (len69 : Int)))), (.bool ((e72) == change2))] H50 (by kernel_rfl) ?_
                refine then_norm ?_
                refine w_ret ?_
                refine block_ret ?_
                refine then_ret ?_
                refine loop_ret ?_
                refine block_ret ?_
                refine block_ret ?_
                refine then_ret ?_
                refine loop_ret ?_
                refine block_ret ?_
                refine then_ret ?_
                exact body_ret (vs := [(.bool ((((r17) == 0) && ((r15) == k55)) && ((r16) == i64)))]) _ (by kernel_rfl) rfl h
              · replace h := h.2 (is_eq.f hc)
                refine w_skip ?_
                refine block_norm ?_
                refine then_norm ?_
                refine w_run [0, 0, 0] ?_
                refine t_done [(.int .i64 window0), events1, (.int .i64 change2), d63, (.bool (!r22)), (.agg [(.int .i64 r6), (.int .i64 r7)]), (.agg [(.int .i64 r30), (.int .i64 r31)]), (.agg [r3, r4, r5]), (.agg [r25, r26, r27, r28, r29]), (.bool (!r46)), (.bool ((r30) != 0)), (.agg [(.int .i64 r17), (.int .i64 r18)]), (.int .i64 r15), (.int .i64 r16), (.int .i64 k55), (.bool (decide (k55 < 4))), (.int .i64 (IntKind.wrap .i64 (i64 + 1))), (.slice b49 0 4 (some 4)), (.bool (decide (i64 < (len69 : Int)))), (.bool ((e72) == change2))] H50 (by kernel_rfl) ?_
                obtain ⟨m', hm, h⟩ := h
                refine loop_norm ⟨m', hm, _, _, _, _, rfl, rfl, h⟩
            · replace h := h.2 (is_dec.f hc)
              refine w_exit ?_
              refine then_exit ?_
              refine loop_exit ?_
              refine block_exit ?_
              refine block_norm ?_
              refine then_norm ?_
              refine w_run [0, 0, 0] ?_
              refine t_done [(.int .i64 window0), events1, (.int .i64 change2), d63, (.bool (!r22)), (.agg [(.int .i64 r6), (.int .i64 r7)]), (.agg [(.int .i64 r30), (.int .i64 r31)]), (.agg [r3, r4, r5]), (.agg [r25, r26, r27, r28, r29]), (.bool (!r46)), (.bool ((r30) != 0)), (.agg [(.int .i64 r17), (.int .i64 r18)]), (.int .i64 r15), (.int .i64 r16), (.int .i64 (IntKind.wrap .i64 (k55 + 1))), (.bool (decide (k55 < 4))), (.int .i64 i64), (.slice b49 0 4 (some 4)), (.bool (decide (i64 < (len69 : Int)))), d66] H50 (by kernel_rfl) ?_
              obtain ⟨m', hm, h⟩ := h
              refine loop_norm ⟨m', hm, _, _, _, _, _, _, rfl, rfl, h⟩
          · replace h := h.2 (is_dec.f hc)
            refine w_exit ?_
            refine then_exit ?_
            refine loop_exit ?_
            refine block_exit ?_
            refine then_norm ?_
            refine w_seq ?_
            refine w_run [0, 1, 0, 0, 0, 0, 0, 0, 0, 0, 0, 0] ?_
            refine t_call false nFFault [(.int .i64 6), (.int .i64 (-3))] H50 (by kernel_rfl) h ?_
            clear h
            rintro _ H78 ⟨r76, r77, rfl, h⟩
            refine t_done [(.int .i64 window0), events1, (.int .i64 change2), (.bool (((((r17) == r76) && (((r18) == r77) && true)) && ((r15) == 0)) && ((r16) == 0))), (.bool (!r22)), (.agg [(.int .i64 r6), (.int .i64 r7)]), (.agg [(.int .i64 r30), (.int .i64 r31)]), (.agg [r3, r4, r5]), (.agg [r25, r26, r27, r28, r29]), (.bool (!r46)), (.bool ((r30) != 0)), (.agg [(.int .i64 r17), (.int .i64 r18)]), (.int .i64 r15), (.int .i64 r16), (.int .i64 k55), (.bool (decide (k55 < 4))), d57, (.slice b49 0 4 (some 4)), d58, d59] H78 (by kernel_rfl) ?_
            refine then_norm ?_
            refine w_ret ?_
            exact body_ret (vs := [(.bool (((((r17) == r76) && (((r18) == r77) && true)) && ((r15) == 0)) && ((r16) == 0)))]) _ (by kernel_rfl) rfl h
    · replace h := h.1 ((is_not (is_and is_eq (is_and is_eq is_true))).t hc)
      refine t_gd true false (by kernel_rfl) (fun hn => by cases hn) (fun _ => ?_)
      refine t_gd true false (by kernel_rfl) (fun hn => by cases hn) (fun _ => ?_)
      refine t_done [(.int .i64 window0), events1, (.int .i64 change2), (.bool false), (.bool (!r22)), (.agg [(.int .i64 r6), (.int .i64 r7)]), (.agg [(.int .i64 r30), (.int .i64 r31)]), (.agg [r3, r4, r5]), (.agg [r25, r26, r27, r28, r29]), (.bool true), .undef, (.agg [(.int .i64 r17), (.int .i64 r18)]), (.int .i64 r15), (.int .i64 r16), .undef, .undef, .undef, .undef, .undef, .undef] H35 (by kernel_rfl) ?_
      refine then_norm ?_
      refine w_cond (t := true) rfl (fun _ => ?_) (fun hc => by cases hc)
      refine w_seq ?_
      refine w_run [0] ?_
      refine t_done [(.int .i64 window0), events1, (.int .i64 change2), (.bool false), (.bool (!r22)), (.agg [(.int .i64 r6), (.int .i64 r7)]), (.agg [(.int .i64 r30), (.int .i64 r31)]), (.agg [r3, r4, r5]), (.agg [r25, r26, r27, r28, r29]), (.bool true), .undef, (.agg [(.int .i64 r17), (.int .i64 r18)]), (.int .i64 r15), (.int .i64 r16), .undef, .undef, .undef, .undef, .undef, .undef] H35 (by kernel_rfl) ?_
      refine then_norm ?_
      refine w_ret ?_
      refine then_ret ?_
      exact body_ret (vs := [(.bool false)]) _ (by kernel_rfl) rfl h

end Go.RM

