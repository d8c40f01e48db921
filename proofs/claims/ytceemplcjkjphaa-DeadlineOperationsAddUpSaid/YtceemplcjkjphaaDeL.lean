import Derived.Test.YtceemplcjkjphaaRmOpt3
import Derived.Test.YtceemplcjkjphaaDeF
/-
  Functions of the program as the abstract machine runs them, and what must be shown of a run: printed by RmPrint.
-/
namespace Go.RM
set_option linter.unusedVariables false
set_option maxRecDepth 4000
def rf_LdeadlineExample (ndeadline_Run ndeadline_Stuck nFEqualResults nFEqualInts : Nat) : RFunc := ⟨0, 7, [.var 0],
 ((.seq (.ops [⟨.move (.k (.bool false)), none, (some 0), true⟩])
 ((.seq (.ops [⟨.build [.int .i64 0, .int .i64 0, .int .i64 0, .int .i64 0, .empty] [(0, 1, (.k (.int .i64 1))), (2, 1, (.k (.int .i64 5)))], none, none, true⟩, ⟨.buildSlice 5 [.int .i64 0, .int .i64 0, .int .i64 0, .int .i64 0, .empty] [(0, 5, (.loc 0))] 1, none, none, true⟩, ⟨.build [.int .i64 0, .int .i64 0, .int .i64 0, .int .i64 0, .empty] [(0, 1, (.k (.int .i64 2)))], none, none, true⟩, ⟨.build [.int .i64 0, .int .i64 0, .int .i64 0, .int .i64 0, .empty] [(0, 1, (.k (.int .i64 2)))], none, none, true⟩, ⟨.buildSlice 5 [.int .i64 0, .int .i64 0, .int .i64 0, .int .i64 0, .empty] [(0, 5, (.loc 2)), (5, 5, (.loc 3))] 2, none, none, true⟩, ⟨.buildSlice 1 [.empty] [(0, 1, (.loc 1)), (1, 1, (.loc 4))] 2, none, none, true⟩, ⟨.move (.loc 5), none, (some 1), true⟩])
 ((.seq (.ops [⟨.buildSlice 1 [.int .i64 0] [(0, 1, (.k (.int .i64 1)))] 1, none, none, true⟩, ⟨.move (.var 1), none, none, true⟩, ⟨.callS ndeadline_Run [(.loc 0), (.loc 1), (.k (.int .i64 3))], none, none, true⟩, ⟨.move (.loc 2), none, none, true⟩, ⟨.extract (.loc 3) 0, none, none, true⟩, ⟨.extract (.loc 3) 1, none, none, true⟩, ⟨.extract (.loc 3) 2, none, none, true⟩, ⟨.tomb 1 (.k (.agg [.int .i64 0, .int .i64 0])), none, (some 2), true⟩, ⟨.move (.loc 4), none, (some 4), true⟩, ⟨.move (.loc 5), none, (some 5), true⟩, ⟨.upd 2 0 (.loc 7) (.loc 6), none, (some 2), true⟩])
 ((.seq (.ops [⟨.buildSlice 1 [.int .i64 0] [(0, 1, (.k (.int .i64 1)))] 1, none, none, true⟩, ⟨.move (.var 1), none, none, true⟩, ⟨.callS ndeadline_Stuck [(.loc 0), (.loc 1)], none, none, true⟩, ⟨.move (.loc 2), none, none, true⟩, ⟨.extract (.loc 3) 0, none, none, true⟩, ⟨.extract (.loc 3) 1, none, none, true⟩, ⟨.tomb 1 (.k (.agg [.int .i64 0, .int .i64 0])), none, (some 3), true⟩, ⟨.move (.loc 4), none, (some 6), true⟩, ⟨.upd 2 0 (.loc 6) (.loc 5), none, (some 3), true⟩])
 ((.seq (.ops [⟨.field 0 none (.var 2), none, none, true⟩, ⟨.field 0 none (.var 2), none, none, true⟩, ⟨.bin .eql .no (.loc 1) (.k (.int .i64 0)), none, none, true⟩, ⟨.move (.loc 2), none, none, true⟩, ⟨.field 0 none (.var 3), none, none, true⟩, ⟨.field 0 none (.var 3), none, none, true⟩, ⟨.bin .eql .no (.loc 5) (.k (.int .i64 0)), none, none, true⟩, ⟨.pick (.loc 3) (.loc 6) (.k (.bool false)), none, none, true⟩, ⟨.move (.loc 7), none, none, true⟩, ⟨.move (.var 4), none, none, true⟩, ⟨.build [.int .i64 0, .int .i64 0, .int .i64 0, .int .i64 0] [(1, 1, (.k (.int .i64 0))), (3, 1, (.k (.int .i64 5)))], none, none, true⟩, ⟨.build [.int .i64 0, .int .i64 0, .int .i64 0, .int .i64 0] [(1, 1, (.k (.int .i64 1))), (3, 1, (.k (.int .i64 5)))], none, none, true⟩, ⟨.buildSlice 4 [.int .i64 0, .int .i64 0, .int .i64 0, .int .i64 0] [(0, 4, (.loc 10)), (4, 4, (.loc 11))] 2, (some (8, true)), none, true⟩, ⟨.callS nFEqualResults [(.loc 9), (.loc 12)], (some (8, true)), none, true⟩, ⟨.pick (.loc 8) (.loc 13) (.k (.bool false)), none, none, true⟩, ⟨.move (.loc 14), none, none, true⟩, ⟨.move (.var 5), none, none, true⟩, ⟨.buildSlice 1 [.int .i64 0] [(0, 1, (.k (.int .i64 0))), (1, 1, (.k (.int .i64 1)))] 2, (some (15, true)), none, true⟩, ⟨.callS nFEqualInts [(.loc 16), (.loc 17)], (some (15, true)), none, true⟩, ⟨.pick (.loc 15) (.loc 18) (.k (.bool false)), none, none, true⟩, ⟨.move (.loc 19), none, none, true⟩, ⟨.move (.var 6), none, none, true⟩, ⟨.buildSlice 1 [.int .i64 0] [(0, 1, (.k (.int .i64 1)))] 1, (some (20, true)), none, true⟩, ⟨.callS nFEqualInts [(.loc 21), (.loc 22)], (some (20, true)), none, true⟩, ⟨.pick (.loc 20) (.loc 23) (.k (.bool false)), none, none, true⟩, ⟨.move (.loc 24), none, (some 0), true⟩])
 (.ret))))))))))), none⟩
theorem v_LdeadlineExample {F : Nat → Option RFunc} {me ndeadline_Run ndeadline_Stuck nFEqualResults nFEqualInts : Nat} (hF : F me = some (rf_LdeadlineExample ndeadline_Run ndeadline_Stuck nFEqualResults nFEqualInts)) {fl : Nat} {H : Heap} {Q : AV → Heap → Prop} 
  (h : ∀ (b0 : Nat) (H1 : Heap), NewB H 5 [(.int .i64 1), (.int .i64 0), (.int .i64 5), (.int .i64 0), .empty] b0 H1 → ∀ (b2 : Nat) (H3 : Heap), NewB H1 5 [(.int .i64 2), (.int .i64 0), (.int .i64 0), (.int .i64 0), .empty, (.int .i64 2), (.int .i64 0), (.int .i64 0), (.int .i64 0), .empty] b2 H3 → ∀ (b4 : Nat) (H5 : Heap), NewB H3 1 [(.slice b0 0 1 (some 1)), (.slice b2 0 2 (some 2))] b4 H5 → ∀ (b6 : Nat) (H7 : Heap), NewB H5 1 [(.int .i64 1)] b6 H7 → Ret F fl ndeadline_Run [(.slice b6 0 1 (some 1)), (.slice b4 0 2 (some 2)), (.int .i64 3)] H7 (fun v13 H12 => ∃ (r8 : AV) (r9 : AV) (r10 : Int) (r11 : Int), v13 = (.tuple [r8, r9, (.agg [(.int .i64 r10), (.int .i64 r11)])]) ∧ ∀ (H14 : Heap), Dead1 H12 1 H14 → ∀ (b15 : Nat) (H16 : Heap), NewB H14 1 [(.int .i64 1)] b15 H16 → Ret F fl ndeadline_Stuck [(.slice b15 0 1 (some 1)), (.slice b4 0 2 (some 2))] H16 (fun v21 H20 => ∃ (r17 : AV) (r18 : Int) (r19 : Int), v21 = (.tuple [r17, (.agg [(.int .i64 r18), (.int .i64 r19)])]) ∧ ∀ (H22 : Heap), Dead1 H20 1 H22 → ((((r10 = 0) ∧ (r18 = 0))) → ∀ (b23 : Nat) (H24 : Heap), NewB H22 4 [(.int .i64 0), (.int .i64 0), (.int .i64 0), (.int .i64 5), (.int .i64 0), (.int .i64 1), (.int .i64 0), (.int .i64 5)] b23 H24 → Ret F fl nFEqualResults [r8, (.slice b23 0 2 (some 2))] H24 (fun v27 H26 => ∃ (r25 : Bool), v27 = (.bool r25) ∧ ((r25 = true) → ∀ (b28 : Nat) (H29 : Heap), NewB H26 1 [(.int .i64 0), (.int .i64 1)] b28 H29 → Ret F fl nFEqualInts [r9, (.slice b28 0 2 (some 2))] H29 (fun v32 H31 => ∃ (r30 : Bool), v32 = (.bool r30) ∧ ((r30 = true) → ∀ (b33 : Nat) (H34 : Heap), NewB H31 1 [(.int .i64 1)] b33 H34 → Ret F fl nFEqualInts [r17, (.slice b33 0 1 (some 1))] H34 (fun v37 H36 => ∃ (r35 : Bool), v37 = (.bool r35) ∧ Q (.bool r35) H36)) ∧ (¬(r30 = true) → Q (.bool false) H31))) ∧ (¬(r25 = true) → Q (.bool false) H26))) ∧ (¬(((r10 = 0) ∧ (r18 = 0))) → Q (.bool false) H22)))) : Ret F fl me [] H Q := by
  refine ret_intro hF rfl ?_
  refine w_seq ?_
  refine w_run [0] ?_
  refine t_done [(.bool false), .undef, .undef, .undef, .undef, .undef, .undef] H (by kernel_rfl) ?_
  refine then_norm ?_
  refine w_seq ?_
  refine w_run [1, 1, 1, 1, 1, 1, 0] ?_
  refine t_build true [(.int .i64 0), (.int .i64 0), (.int .i64 0), (.int .i64 0), .empty] [(0, 1, .loc 0), (2, 1, .loc 1)] [(.int .i64 1), (.int .i64 5)] [(.int .i64 1), (.int .i64 0), (.int .i64 5), (.int .i64 0), .empty] H (by kernel_rfl) (fill_c (vs := [(.int .i64 1)]) (size := 1) rfl (by kernel_rfl) (by kernel_rfl) (fill_c (vs := [(.int .i64 5)]) (size := 1) rfl (by kernel_rfl) (by kernel_rfl) (by kernel_rfl))) ?_
  obtain ⟨b0, H1, hb⟩ : ∃ b H', NewB H 5 [(.int .i64 1), (.int .i64 0), (.int .i64 5), (.int .i64 0), .empty] b H' := ⟨_, _, rfl, rfl⟩
  replace h := h b0 H1 hb
  refine t_bs true 5 [(.int .i64 0), (.int .i64 0), (.int .i64 0), (.int .i64 0), .empty] [(0, 5, .loc 0)] 1 [(.agg [(.int .i64 1), (.int .i64 0), (.int .i64 5), (.int .i64 0), .empty])] [(.int .i64 1), (.int .i64 0), (.int .i64 5), (.int .i64 0), .empty] b0 H1 H (by kernel_rfl) (fill_c (vs := [(.int .i64 1), (.int .i64 0), (.int .i64 5), (.int .i64 0), .empty]) (size := 5) rfl (by kernel_rfl) (by kernel_rfl) (by kernel_rfl)) hb ?_
  refine t_build true [(.int .i64 0), (.int .i64 0), (.int .i64 0), (.int .i64 0), .empty] [(0, 1, .loc 0)] [(.int .i64 2)] [(.int .i64 2), (.int .i64 0), (.int .i64 0), (.int .i64 0), .empty] H1 (by kernel_rfl) (fill_c (vs := [(.int .i64 2)]) (size := 1) rfl (by kernel_rfl) (by kernel_rfl) (by kernel_rfl)) ?_
  refine t_build true [(.int .i64 0), (.int .i64 0), (.int .i64 0), (.int .i64 0), .empty] [(0, 1, .loc 0)] [(.int .i64 2)] [(.int .i64 2), (.int .i64 0), (.int .i64 0), (.int .i64 0), .empty] H1 (by kernel_rfl) (fill_c (vs := [(.int .i64 2)]) (size := 1) rfl (by kernel_rfl) (by kernel_rfl) (by kernel_rfl)) ?_
  obtain ⟨b2, H3, hb⟩ : ∃ b H', NewB H1 5 [(.int .i64 2), (.int .i64 0), (.int .i64 0), (.int .i64 0), .empty, (.int .i64 2), (.int .i64 0), (.int .i64 0), (.int .i64 0), .empty] b H' := ⟨_, _, rfl, rfl⟩
  replace h := h b2 H3 hb
  refine t_bs true 5 [(.int .i64 0), (.int .i64 0), (.int .i64 0), (.int .i64 0), .empty] [(0, 5, .loc 0), (5, 5, .loc 1)] 2 [(.agg [(.int .i64 2), (.int .i64 0), (.int .i64 0), (.int .i64 0), .empty]), (.agg [(.int .i64 2), (.int .i64 0), (.int .i64 0), (.int .i64 0), .empty])] [(.int .i64 2), (.int .i64 0), (.int .i64 0), (.int .i64 0), .empty, (.int .i64 2), (.int .i64 0), (.int .i64 0), (.int .i64 0), .empty] b2 H3 H1 (by kernel_rfl) (fill_c (vs := [(.int .i64 2), (.int .i64 0), (.int .i64 0), (.int .i64 0), .empty]) (size := 5) rfl (by kernel_rfl) (by kernel_rfl) (fill_c (vs := [(.int .i64 2), (.int .i64 0), (.int .i64 0), (.int .i64 0), .empty]) (size := 5) rfl (by kernel_rfl) (by kernel_rfl) (by kernel_rfl))) hb ?_
  obtain ⟨b4, H5, hb⟩ : ∃ b H', NewB H3 1 [(.slice b0 0 1 (some 1)), (.slice b2 0 2 (some 2))] b H' := ⟨_, _, rfl, rfl⟩
  replace h := h b4 H5 hb
  refine t_bs true 1 [.empty] [(0, 1, .loc 0), (1, 1, .loc 1)] 2 [(.slice b0 0 1 (some 1)), (.slice b2 0 2 (some 2))] [(.slice b0 0 1 (some 1)), (.slice b2 0 2 (some 2))] b4 H5 H3 (by kernel_rfl) (fill_c (vs := [(.slice b0 0 1 (some 1))]) (size := 1) rfl (by kernel_rfl) (by kernel_rfl) (fill_c (vs := [(.slice b2 0 2 (some 2))]) (size := 1) rfl (by kernel_rfl) (by kernel_rfl) (by kernel_rfl))) hb ?_
  refine t_done [(.bool false), (.slice b4 0 2 (some 2)), .undef, .undef, .undef, .undef, .undef] H5 (by kernel_rfl) ?_
  refine then_norm ?_
  refine w_seq ?_
  refine w_run [1, 0, 1, 0, 0, 0, 0, 1, 0, 0, 1] ?_
  obtain ⟨b6, H7, hb⟩ : ∃ b H', NewB H5 1 [(.int .i64 1)] b H' := ⟨_, _, rfl, rfl⟩
  replace h := h b6 H7 hb
  refine t_bs true 1 [(.int .i64 0)] [(0, 1, .loc 0)] 1 [(.int .i64 1)] [(.int .i64 1)] b6 H7 H5 (by kernel_rfl) (fill_c (vs := [(.int .i64 1)]) (size := 1) rfl (by kernel_rfl) (by kernel_rfl) (by kernel_rfl)) hb ?_
  refine t_call true ndeadline_Run [(.slice b6 0 1 (some 1)), (.slice b4 0 2 (some 2)), (.int .i64 3)] H7 (by kernel_rfl) h ?_
  clear h
  rintro _ H12 ⟨r8, r9, r10, r11, rfl, h⟩
  obtain ⟨H14, hb⟩ : ∃ H', Dead1 H12 1 H' := ⟨_, ⟨rfl⟩⟩
  replace h := h H14 hb
  refine t_tomb true 1 (.agg [(.int .i64 0), (.int .i64 0)]) [(.int .i64 0), (.int .i64 0)] H14 H12 (by kernel_rfl) rfl hb ?_
  refine t_upd true 2 0 [(.int .i64 0), (.int .i64 0)] (.agg [(.int .i64 r10), (.int .i64 r11)]) [(.int .i64 r10), (.int .i64 r11)] [(.int .i64 r10), (.int .i64 r11)] H14 (by kernel_rfl) rfl (all_c rfl (all_c rfl all_n)) ⟨rfl, Nat.le_of_ble_eq_true (by kernel_rfl), rfl⟩ ?_
  refine t_done [(.bool false), (.slice b4 0 2 (some 2)), (.agg [(.int .i64 r10), (.int .i64 r11)]), .undef, r8, r9, .undef] H14 (by kernel_rfl) ?_
  refine then_norm ?_
  refine w_seq ?_
  refine w_run [1, 0, 1, 0, 0, 0, 1, 0, 1] ?_
  obtain ⟨b15, H16, hb⟩ : ∃ b H', NewB H14 1 [(.int .i64 1)] b H' := ⟨_, _, rfl, rfl⟩
  replace h := h b15 H16 hb
  refine t_bs true 1 [(.int .i64 0)] [(0, 1, .loc 0)] 1 [(.int .i64 1)] [(.int .i64 1)] b15 H16 H14 (by kernel_rfl) (fill_c (vs := [(.int .i64 1)]) (size := 1) rfl (by kernel_rfl) (by kernel_rfl) (by kernel_rfl)) hb ?_
  refine t_call true ndeadline_Stuck [(.slice b15 0 1 (some 1)), (.slice b4 0 2 (some 2))] H16 (by kernel_rfl) h ?_
  clear h
  rintro _ H20 ⟨r17, r18, r19, rfl, h⟩
  obtain ⟨H22, hb⟩ : ∃ H', Dead1 H20 1 H' := ⟨_, ⟨rfl⟩⟩
  replace h := h H22 hb
  refine t_tomb true 1 (.agg [(.int .i64 0), (.int .i64 0)]) [(.int .i64 0), (.int .i64 0)] H22 H20 (by kernel_rfl) rfl hb ?_
  refine t_upd true 2 0 [(.int .i64 0), (.int .i64 0)] (.agg [(.int .i64 r18), (.int .i64 r19)]) [(.int .i64 r18), (.int .i64 r19)] [(.int .i64 r18), (.int .i64 r19)] H22 (by kernel_rfl) rfl (all_c rfl (all_c rfl all_n)) ⟨rfl, Nat.le_of_ble_eq_true (by kernel_rfl), rfl⟩ ?_
  refine t_done [(.bool false), (.slice b4 0 2 (some 2)), (.agg [(.int .i64 r10), (.int .i64 r11)]), (.agg [(.int .i64 r18), (.int .i64 r19)]), r8, r9, r17] H22 (by kernel_rfl) ?_
  refine then_norm ?_
  refine w_seq ?_
  refine w_run [0, 0, 0, 0, 0, 0, 0, 0, 0, 0, 1, 1, 3, 3, 0, 0, 0, 3, 3, 0, 0, 0, 3, 3, 0, 0] ?_
  refine t_build true [(.int .i64 0), (.int .i64 0), (.int .i64 0), (.int .i64 0)] [(1, 1, .loc 0), (3, 1, .loc 1)] [(.int .i64 0), (.int .i64 5)] [(.int .i64 0), (.int .i64 0), (.int .i64 0), (.int .i64 5)] H22 (by kernel_rfl) (fill_c (vs := [(.int .i64 0)]) (size := 1) rfl (by kernel_rfl) (by kernel_rfl) (fill_c (vs := [(.int .i64 5)]) (size := 1) rfl (by kernel_rfl) (by kernel_rfl) (by kernel_rfl))) ?_
  refine t_build true [(.int .i64 0), (.int .i64 0), (.int .i64 0), (.int .i64 0)] [(1, 1, .loc 0), (3, 1, .loc 1)] [(.int .i64 1), (.int .i64 5)] [(.int .i64 0), (.int .i64 1), (.int .i64 0), (.int .i64 5)] H22 (by kernel_rfl) (fill_c (vs := [(.int .i64 1)]) (size := 1) rfl (by kernel_rfl) (by kernel_rfl) (fill_c (vs := [(.int .i64 5)]) (size := 1) rfl (by kernel_rfl) (by kernel_rfl) (by kernel_rfl))) ?_
  refine t_gd (((r10) == 0) && ((r18) == 0)) true (by kernel_rfl) (fun hc => ?_) (fun hc => ?_)
  · replace h := h.1 ((is_and is_eq is_eq).t hc)
    obtain ⟨b23, H24, hb⟩ : ∃ b H', NewB H22 4 [(.int .i64 0), (.int .i64 0), (.int .i64 0), (.int .i64 5), (.int .i64 0), (.int .i64 1), (.int .i64 0), (.int .i64 5)] b H' := ⟨_, _, rfl, rfl⟩
    replace h := h b23 H24 hb
    refine t_bs true 4 [(.int .i64 0), (.int .i64 0), (.int .i64 0), (.int .i64 0)] [(0, 4, .loc 0), (4, 4, .loc 1)] 2 [(.agg [(.int .i64 0), (.int .i64 0), (.int .i64 0), (.int .i64 5)]), (.agg [(.int .i64 0), (.int .i64 1), (.int .i64 0), (.int .i64 5)])] [(.int .i64 0), (.int .i64 0), (.int .i64 0), (.int .i64 5), (.int .i64 0), (.int .i64 1), (.int .i64 0), (.int .i64 5)] b23 H24 H22 (by kernel_rfl) (fill_c (vs := [(.int .i64 0), (.int .i64 0), (.int .i64 0), (.int .i64 5)]) (size := 4) rfl (by kernel_rfl) (by kernel_rfl) (fill_c (vs := [(.int .i64 0), (.int .i64 1), (.int .i64 0), (.int .i64 5)]) (size := 4) rfl (by kernel_rfl) (by kernel_rfl) (by kernel_rfl))) hb ?_
    refine t_gd true true (by kernel_rfl) (fun _ => ?_) (fun hn => by cases hn)
    refine t_call true nFEqualResults [r8, (.slice b23 0 2 (some 2))] H24 (by kernel_rfl) h ?_
    clear h
    rintro _ H26 ⟨r25, rfl, h⟩
    refine t_gd r25 true (by kernel_rfl) (fun hc => ?_) (fun hc => ?_)
    · replace h := h.1 (is_raw.t hc)
      obtain ⟨b28, H29, hb⟩ : ∃ b H', NewB H26 1 [(.int .i64 0), (.int .i64 1)] b H' := ⟨_, _, rfl, rfl⟩
      replace h := h b28 H29 hb
      refine t_bs true 1 [(.int .i64 0)] [(0, 1, .loc 0), (1, 1, .loc 1)] 2 [(.int .i64 0), (.int .i64 1)] [(.int .i64 0), (.int .i64 1)] b28 H29 H26 (by kernel_rfl) (fill_c (vs := [(.int .i64 0)]) (size := 1) rfl (by kernel_rfl) (by kernel_rfl) (fill_c (vs := [(.int .i64 1)]) (size := 1) rfl (by kernel_rfl) (by kernel_rfl) (by kernel_rfl))) hb ?_
      refine t_gd true true (by kernel_rfl) (fun _ => ?_) (fun hn => by cases hn)
      refine t_call true nFEqualInts [r9, (.slice b28 0 2 (some 2))] H29 (by kernel_rfl) h ?_
      clear h
      rintro _ H31 ⟨r30, rfl, h⟩
      refine t_gd r30 true (by kernel_rfl) (fun hc => ?_) (fun hc => ?_)
      · replace h := h.1 (is_raw.t hc)
        obtain ⟨b33, H34, hb⟩ : ∃ b H', NewB H31 1 [(.int .i64 1)] b H' := ⟨_, _, rfl, rfl⟩
        replace h := h b33 H34 hb
        refine t_bs true 1 [(.int .i64 0)] [(0, 1, .loc 0)] 1 [(.int .i64 1)] [(.int .i64 1)] b33 H34 H31 (by kernel_rfl) (fill_c (vs := [(.int .i64 1)]) (size := 1) rfl (by kernel_rfl) (by kernel_rfl) (by kernel_rfl)) hb ?_
        refine t_gd true true (by kernel_rfl) (fun _ => ?_) (fun hn => by cases hn)
        refine t_call true nFEqualInts [r17, (.slice b33 0 1 (some 1))] H34 (by kernel_rfl) h ?_
        clear h
        rintro _ H36 ⟨r35, rfl, h⟩
        refine t_done [(.bool r35), (.slice b4 0 2 (some 2)), (.agg [(.int .i64 r10), (.int .i64 r11)]), (.agg [(.int .i64 r18), (.int .i64 r19)]), r8, r9, r17] H36 (by kernel_rfl) ?_
        refine then_norm ?_
        refine w_ret ?_
        exact body_ret (vs := [(.bool r35)]) _ (by kernel_rfl) rfl h
      · replace h := h.2 (is_raw.f hc)
        refine t_gd false true (by kernel_rfl) (fun hn => by cases hn) (fun _ => ?_)
        refine t_done [(.bool false), (.slice b4 0 2 (some 2)), (.agg [(.int .i64 r10), (.int .i64 r11)]), (.agg [(.int .i64 r18), (.int .i64 r19)]), r8, r9, r17] H31 (by kernel_rfl) ?_
        refine then_norm ?_
        refine w_ret ?_
        exact body_ret (vs := [(.bool false)]) _ (by kernel_rfl) rfl h
    · replace h := h.2 (is_raw.f hc)
      refine t_gd false true (by kernel_rfl) (fun hn => by cases hn) (fun _ => ?_)
      refine t_gd false true (by kernel_rfl) (fun hn => by cases hn) (fun _ => ?_)
      refine t_gd false true (by kernel_rfl) (fun hn => by cases hn) (fun _ => ?_)
      refine t_done [(.bool false), (.slice b4 0 2 (some 2)), (.agg [(.int .i64 r10), (.int .i64 r11)]), (.agg [(.int .i64 r18), (.int .i64 r19)]), r8, r9, r17] H26 (by kernel_rfl) ?_
      refine then_norm ?_
      refine w_ret ?_
      exact body_ret (vs := [(.bool false)]) _ (by kernel_rfl) rfl h
  · replace h := h.2 ((is_and is_eq is_eq).f hc)
    refine t_gd false true (by kernel_rfl) (fun hn => by cases hn) (fun _ => ?_)
    refine t_gd false true (by kernel_rfl) (fun hn => by cases hn) (fun _ => ?_)
    refine t_gd false true (by kernel_rfl) (fun hn => by cases hn) (fun _ => ?_)
    refine t_gd false true (by kernel_rfl) (fun hn => by cases hn) (fun _ => ?_)
    refine t_gd false true (by kernel_rfl) (fun hn => by cases hn) (fun _ => ?_)
    refine t_done [(.bool false), (.slice b4 0 2 (some 2)), (.agg [(.int .i64 r10), (.int .i64 r11)]), (.agg [(.int .i64 r18), (.int .i64 r19)]), r8, r9, r17] H22 (by kernel_rfl) ?_
    refine then_norm ?_
    refine w_ret ?_
    exact body_ret (vs := [(.bool false)]) _ (by kernel_rfl) rfl h

def rf_LDeadlineFunctionsMatchSpec (nFProcessesFault ndeadline_Run ndeadline_Stuck nLdeadlineExample ndeadline_Validate nFSimulate nFWorld_Left nFEqualInts nFFault nFEqualResults : Nat) : RFunc := ⟨3, 20, [.var 3],
 ((.seq (.ops [⟨.move (.k (.bool false)), none, (some 3), true⟩])
 ((.seq (.ops [⟨.move (.var 0), none, none, true⟩, ⟨.move (.var 1), none, none, true⟩, ⟨.callS nFProcessesFault [(.loc 0), (.loc 1)], none, none, true⟩, ⟨.tomb 1 (.k (.agg [.int .i64 0, .int .i64 0])), none, (some 4), true⟩, ⟨.upd 2 0 (.loc 3) (.loc 2), none, (some 4), true⟩])
 ((.seq (.ops [⟨.move (.var 0), none, none, true⟩, ⟨.move (.var 1), none, none, true⟩, ⟨.move (.var 2), none, none, true⟩, ⟨.callS ndeadline_Run [(.loc 0), (.loc 1), (.loc 2)], none, none, true⟩, ⟨.move (.loc 3), none, none, true⟩, ⟨.extract (.loc 4) 0, none, none, true⟩, ⟨.extract (.loc 4) 1, none, none, true⟩, ⟨.extract (.loc 4) 2, none, none, true⟩, ⟨.tomb 1 (.k (.agg [.int .i64 0, .int .i64 0])), none, (some 7), true⟩, ⟨.move (.loc 5), none, (some 9), true⟩, ⟨.move (.loc 6), none, (some 10), true⟩, ⟨.upd 2 0 (.loc 8) (.loc 7), none, (some 7), true⟩])
 ((.seq (.ops [⟨.move (.var 0), none, none, true⟩, ⟨.move (.var 1), none, none, true⟩, ⟨.callS ndeadline_Stuck [(.loc 0), (.loc 1)], none, none, true⟩, ⟨.move (.loc 2), none, none, true⟩, ⟨.extract (.loc 3) 0, none, none, true⟩, ⟨.extract (.loc 3) 1, none, none, true⟩, ⟨.tomb 1 (.k (.agg [.int .i64 0, .int .i64 0])), none, (some 8), true⟩, ⟨.move (.loc 4), none, (some 11), true⟩, ⟨.upd 2 0 (.loc 6) (.loc 5), none, (some 8), true⟩])
 ((.seq ((.seq (.ops [⟨.callS nLdeadlineExample [], none, none, true⟩, ⟨.un .not (.loc 0), none, none, true⟩, ⟨.move (.loc 1), none, none, true⟩, ⟨.move (.var 0), none, none, false⟩, ⟨.move (.var 1), none, none, false⟩, ⟨.callS ndeadline_Validate [(.loc 3), (.loc 4)], (some (2, false)), none, false⟩, ⟨.field 0 (some 2) (.var 4), none, none, false⟩, ⟨.bin .neq (.agg [.int, .int]) (.loc 5) (.loc 6), (some (2, false)), none, true⟩, ⟨.pick (.loc 2) (.k (.bool true)) (.loc 7), none, (some 5), true⟩])
 (.cond (.var 5) ((.seq (.ops [⟨.move (.k (.bool false)), none, (some 3), true⟩])
 (.ret))) (.skip))))
 ((.seq ((.seq (.ops [⟨.field 0 none (.var 4), none, none, true⟩, ⟨.field 0 none (.var 4), none, none, true⟩, ⟨.bin .neq .no (.loc 1) (.k (.int .i64 0)), none, (some 6), true⟩])
 (.cond (.var 6) ((.seq (.ops [⟨.field 0 (some 2) (.var 7), none, none, true⟩, ⟨.field 0 (some 2) (.var 4), none, none, true⟩, ⟨.bin .eql (.agg [.int, .int]) (.loc 0) (.loc 1), none, none, true⟩, ⟨.move (.loc 2), none, none, true⟩, ⟨.field 0 (some 2) (.var 8), none, none, true⟩, ⟨.field 0 (some 2) (.var 4), none, none, true⟩, ⟨.bin .eql (.agg [.int, .int]) (.loc 4) (.loc 5), none, none, true⟩, ⟨.pick (.loc 3) (.loc 6) (.k (.bool false)), none, none, true⟩, ⟨.move (.loc 7), none, none, true⟩, ⟨.move (.var 9), none, none, true⟩, ⟨.len (.loc 9), none, none, true⟩, ⟨.bin .eql .no (.loc 10) (.k (.int .i64 0)), none, none, true⟩, ⟨.pick (.loc 8) (.loc 11) (.k (.bool false)), none, none, true⟩, ⟨.move (.loc 12), none, none, true⟩, ⟨.move (.var 10), none, none, true⟩, ⟨.len (.loc 14), none, none, true⟩, ⟨.bin .eql .no (.loc 15) (.k (.int .i64 0)), none, none, true⟩, ⟨.pick (.loc 13) (.loc 16) (.k (.bool false)), none, none, true⟩, ⟨.move (.loc 17), none, none, true⟩, ⟨.move (.var 11), none, none, true⟩, ⟨.len (.loc 19), none, none, true⟩, ⟨.bin .eql .no (.loc 20) (.k (.int .i64 0)), none, none, true⟩, ⟨.pick (.loc 18) (.loc 21) (.k (.bool false)), none, none, true⟩, ⟨.move (.loc 22), none, (some 3), true⟩])
 (.ret))) (.skip))))
 ((.seq (.ops [⟨.move (.k (.empty)), none, (some 16), true⟩])
 ((.seq (.ops [⟨.move (.var 0), none, none, true⟩, ⟨.move (.var 1), none, none, true⟩, ⟨.callS nFSimulate [(.loc 0), (.loc 1), (.k (.int .i64 2600))], none, none, true⟩, ⟨.callS nFWorld_Left [(.loc 2)], none, none, true⟩, ⟨.move (.loc 3), none, (some 13), true⟩])
 ((.seq ((.seq (.ops [⟨.move (.k (.int .i64 0)), none, (some 12), true⟩])
 (.block 0 (.loop ((.seq ((.seq (.ops [⟨.move (.var 12), none, none, true⟩, ⟨.move (.var 13), none, none, true⟩, ⟨.len (.loc 1), none, none, true⟩, ⟨.bin .lss .no (.loc 0) (.loc 2), none, (some 14), true⟩])
 (.cond (.var 14) (.skip) (.exit 0))))
 ((.seq (.block 1 ((.seq (.ops [⟨.move (.var 13), none, none, true⟩, ⟨.move (.var 12), none, none, true⟩, ⟨.indexAddr 1 (.loc 0) (.loc 1), none, none, true⟩, ⟨.load none (.loc 2), none, none, true⟩, ⟨.bin .gtr .no (.loc 3) (.k (.int .i64 0)), none, (some 15), true⟩])
 (.cond (.var 15) (.ops [⟨.move (.var 16), none, none, true⟩, ⟨.move (.var 12), none, none, true⟩, ⟨.buildSlice 1 [.int .i64 0] [(0, 1, (.loc 1))] 1, none, none, true⟩, ⟨.append 1 8 (.loc 0) (.loc 2), none, none, true⟩, ⟨.move (.loc 3), none, (some 16), true⟩]) (.skip)))))
 (.ops [⟨.move (.var 12), none, none, true⟩, ⟨.bin .add .no (.loc 0) (.k (.int .i64 1)), none, none, true⟩, ⟨.move (.loc 1), none, (some 12), true⟩])))))))))
 ((.seq ((.seq (.ops [⟨.field 0 none (.var 8), none, none, true⟩, ⟨.field 0 none (.var 8), none, none, true⟩, ⟨.bin .neq .no (.loc 1) (.k (.int .i64 0)), none, none, true⟩, ⟨.move (.loc 2), none, none, true⟩, ⟨.move (.var 11), none, none, true⟩, ⟨.move (.var 16), none, none, true⟩, ⟨.callS nFEqualInts [(.loc 4), (.loc 5)], (some (3, false)), none, true⟩, ⟨.un .not (.loc 6), (some (3, false)), none, true⟩, ⟨.pick (.loc 3) (.k (.bool true)) (.loc 7), none, (some 17), true⟩])
 (.cond (.var 17) ((.seq (.ops [⟨.move (.k (.bool false)), none, (some 3), true⟩])
 (.ret))) (.skip))))
 ((.seq ((.seq (.ops [⟨.move (.var 2), none, none, true⟩, ⟨.bin .lss .no (.loc 0) (.k (.int .i64 0)), none, none, true⟩, ⟨.move (.loc 1), none, none, true⟩, ⟨.move (.var 2), none, none, true⟩, ⟨.bin .gtr .no (.loc 3) (.k (.int .i64 60)), none, none, true⟩, ⟨.pick (.loc 2) (.k (.bool true)) (.loc 4), none, (some 18), true⟩])
 (.cond (.var 18) ((.seq (.ops [⟨.field 0 (some 2) (.var 7), none, none, false⟩, ⟨.callS nFFault [(.k (.int .i64 3)), (.k (.int .i64 (-20)))], none, none, false⟩, ⟨.bin .eql (.agg [.int, .int]) (.loc 0) (.loc 1), none, none, true⟩, ⟨.move (.loc 2), none, none, true⟩, ⟨.move (.var 9), none, none, true⟩, ⟨.len (.loc 4), none, none, true⟩, ⟨.bin .eql .no (.loc 5) (.k (.int .i64 0)), none, none, true⟩, ⟨.pick (.loc 3) (.loc 6) (.k (.bool false)), none, none, true⟩, ⟨.move (.loc 7), none, none, true⟩, ⟨.move (.var 10), none, none, true⟩, ⟨.len (.loc 9), none, none, true⟩, ⟨.bin .eql .no (.loc 10) (.k (.int .i64 0)), none, none, true⟩, ⟨.pick (.loc 8) (.loc 11) (.k (.bool false)), none, none, true⟩, ⟨.move (.loc 12), none, (some 3), true⟩])
 (.ret))) (.skip))))
 ((.seq (.ops [⟨.move (.var 0), none, none, true⟩, ⟨.move (.var 1), none, none, true⟩, ⟨.move (.var 2), none, none, true⟩, ⟨.callS nFSimulate [(.loc 0), (.loc 1), (.loc 2)], none, none, true⟩, ⟨.move (.loc 3), none, (some 19), true⟩])
 ((.seq (.ops [⟨.field 0 none (.var 7), none, none, true⟩, ⟨.field 0 none (.var 7), none, none, true⟩, ⟨.bin .eql .no (.loc 1) (.k (.int .i64 0)), none, none, true⟩, ⟨.move (.loc 2), none, none, true⟩, ⟨.move (.var 9), none, none, true⟩, ⟨.move (.var 19), none, none, true⟩, ⟨.nilCheck (.loc 5), (some (3, true)), none, true⟩, ⟨.fieldAddr 26 (.loc 6), (some (3, true)), none, true⟩, ⟨.load none (.loc 7), (some (3, true)), none, true⟩, ⟨.callS nFEqualResults [(.loc 4), (.loc 8)], (some (3, true)), none, true⟩, ⟨.pick (.loc 3) (.loc 9) (.k (.bool false)), none, none, true⟩, ⟨.move (.loc 10), none, none, true⟩, ⟨.move (.var 10), none, none, true⟩, ⟨.move (.var 19), none, none, true⟩, ⟨.callS nFWorld_Left [(.loc 13)], (some (11, true)), none, true⟩, ⟨.callS nFEqualInts [(.loc 12), (.loc 14)], (some (11, true)), none, true⟩, ⟨.pick (.loc 11) (.loc 15) (.k (.bool false)), none, none, true⟩, ⟨.move (.loc 16), none, (some 3), true⟩])
 (.ret))))))))))))))))))))))))))), none⟩
def rf_LDeadlineChannelsAreQueues (ndeadline_Run nLdeadlineExample nLsender : Nat) : RFunc := ⟨3, 16, [.var 3],
 ((.seq (.ops [⟨.move (.k (.bool false)), none, (some 3), true⟩])
 ((.seq (.ops [⟨.move (.var 0), none, none, true⟩, ⟨.move (.var 1), none, none, true⟩, ⟨.move (.var 2), none, none, true⟩, ⟨.callS ndeadline_Run [(.loc 0), (.loc 1), (.loc 2)], none, none, true⟩, ⟨.move (.loc 3), none, none, true⟩, ⟨.extract (.loc 4) 0, none, none, true⟩, ⟨.extract (.loc 4) 1, none, none, true⟩, ⟨.extract (.loc 4) 2, none, none, true⟩, ⟨.tomb 1 (.k (.agg [.int .i64 0, .int .i64 0])), none, (some 5), true⟩, ⟨.move (.loc 5), none, (some 9), true⟩, ⟨.move (.loc 6), none, none, true⟩, ⟨.upd 2 0 (.loc 8) (.loc 7), none, (some 5), true⟩])
 ((.seq ((.seq (.ops [⟨.callS nLdeadlineExample [], none, none, true⟩, ⟨.un .not (.loc 0), none, (some 4), true⟩])
 (.cond (.var 4) ((.seq (.ops [⟨.move (.k (.bool false)), none, (some 3), true⟩])
 (.ret))) (.skip))))
 ((.seq ((.seq (.ops [⟨.move (.k (.int .i64 0)), none, (some 6), true⟩])
 (.block 0 (.loop ((.seq ((.seq (.ops [⟨.field 0 none (.var 5), none, none, true⟩, ⟨.field 0 none (.var 5), none, none, true⟩, ⟨.bin .eql .no (.loc 1) (.k (.int .i64 0)), none, none, true⟩, ⟨.move (.loc 2), none, none, true⟩, ⟨.move (.var 6), none, none, true⟩, ⟨.move (.var 0), none, none, true⟩, ⟨.len (.loc 5), none, none, true⟩, ⟨.bin .lss .no (.loc 4) (.loc 6), none, none, true⟩, ⟨.pick (.loc 3) (.loc 7) (.k (.bool false)), none, (some 7), true⟩])
 (.cond (.var 7) (.skip) (.exit 0))))
 ((.seq (.block 1 ((.seq (.ops [⟨.move (.k (.empty)), none, (some 13), true⟩])
 ((.seq (.ops [⟨.move (.k (.int .i64 0)), none, (some 8), true⟩])
 (.block 2 (.loop ((.seq ((.seq (.ops [⟨.move (.var 8), none, none, true⟩, ⟨.move (.var 9), none, none, true⟩, ⟨.len (.loc 1), none, none, true⟩, ⟨.bin .lss .no (.loc 0) (.loc 2), none, (some 10), true⟩])
 (.cond (.var 10) (.skip) (.exit 2))))
 ((.seq (.block 3 ((.seq ((.seq (.ops [⟨.move (.var 9), none, none, true⟩, ⟨.move (.var 8), none, none, true⟩, ⟨.indexAddr 4 (.loc 0) (.loc 1), none, none, true⟩, ⟨.fieldAddr 2 (.loc 2), none, none, true⟩, ⟨.load none (.loc 3), none, none, true⟩, ⟨.move (.var 6), none, none, true⟩, ⟨.bin .neq .no (.loc 4) (.loc 5), none, (some 11), true⟩])
 (.cond (.var 11) (.exit 3) (.skip))))
 ((.seq ((.seq (.ops [⟨.move (.var 1), none, none, true⟩, ⟨.move (.var 9), none, none, true⟩, ⟨.move (.var 8), none, none, true⟩, ⟨.callS nLsender [(.loc 0), (.loc 1), (.loc 2)], none, (some 12), true⟩])
 (.cond (.var 12) ((.seq (.ops [⟨.move (.var 13), none, none, true⟩, ⟨.move (.var 9), none, none, true⟩, ⟨.move (.var 8), none, none, true⟩, ⟨.indexAddr 4 (.loc 1) (.loc 2), none, none, true⟩, ⟨.fieldAddr 3 (.loc 3), none, none, true⟩, ⟨.load none (.loc 4), none, none, true⟩, ⟨.buildSlice 1 [.int .i64 0] [(0, 1, (.loc 5))] 1, none, none, true⟩, ⟨.append 1 8 (.loc 0) (.loc 6), none, none, true⟩, ⟨.move (.loc 7), none, (some 13), true⟩])
 ((.seq ((.seq (.ops [⟨.move (.var 13), none, none, true⟩, ⟨.len (.loc 0), none, none, true⟩, ⟨.move (.var 0), none, none, true⟩, ⟨.move (.var 6), none, none, true⟩, ⟨.indexAddr 1 (.loc 2) (.loc 3), none, none, true⟩, ⟨.load none (.loc 4), none, none, true⟩, ⟨.bin .gtr .no (.loc 1) (.loc 5), none, (some 14), true⟩])
 (.cond (.var 14) ((.seq (.ops [⟨.move (.k (.bool false)), none, (some 3), true⟩])
 (.ret))) (.skip))))
 (.exit 3))))) (.skip))))
 ((.seq ((.seq (.ops [⟨.move (.var 13), none, none, true⟩, ⟨.len (.loc 0), none, none, true⟩, ⟨.bin .eql .no (.loc 1) (.k (.int .i64 0)), none, none, true⟩, ⟨.move (.loc 2), none, none, true⟩, ⟨.move (.var 13), none, none, false⟩, ⟨.indexAddr 1 (.loc 4) (.k (.int .i64 0)), (some (3, false)), none, false⟩, ⟨.load none (.loc 5), (some (3, false)), none, false⟩, ⟨.move (.var 9), none, none, false⟩, ⟨.move (.var 8), none, none, false⟩, ⟨.indexAddr 4 (.loc 7) (.loc 8), (some (3, false)), none, false⟩, ⟨.fieldAddr 3 (.loc 9), (some (3, false)), none, false⟩, ⟨.load none (.loc 10), (some (3, false)), none, false⟩, ⟨.bin .neq .no (.loc 6) (.loc 11), (some (3, false)), none, true⟩, ⟨.pick (.loc 3) (.k (.bool true)) (.loc 12), none, (some 15), true⟩])
 (.cond (.var 15) ((.seq (.ops [⟨.move (.k (.bool false)), none, (some 3), true⟩])
 (.ret))) (.skip))))
 (.ops [⟨.move (.var 13), none, none, true⟩, ⟨.slice 1 (.loc 0) (some (.k (.int .i64 1))) none none, none, none, true⟩, ⟨.move (.loc 1), none, (some 13), true⟩]))))))))
 (.ops [⟨.move (.var 8), none, none, true⟩, ⟨.bin .add .no (.loc 0) (.k (.int .i64 1)), none, none, true⟩, ⟨.move (.loc 1), none, (some 8), true⟩]))))))))))))
 (.ops [⟨.move (.var 6), none, none, true⟩, ⟨.bin .add .no (.loc 0) (.k (.int .i64 1)), none, none, true⟩, ⟨.move (.loc 1), none, (some 6), true⟩])))))))))
 ((.seq (.ops [⟨.move (.k (.bool true)), none, (some 3), true⟩])
 (.ret))))))))))), none⟩
def rf_LDeadlineOperationsAddUp (ndeadline_Run ndeadline_Stuck nLdeadlineExample nFHas : Nat) : RFunc := ⟨3, 19, [.var 3],
 ((.seq (.ops [⟨.move (.k (.bool false)), none, (some 3), true⟩])
 ((.seq (.ops [⟨.move (.var 0), none, none, true⟩, ⟨.move (.var 1), none, none, true⟩, ⟨.move (.var 2), none, none, true⟩, ⟨.callS ndeadline_Run [(.loc 0), (.loc 1), (.loc 2)], none, none, true⟩, ⟨.move (.loc 3), none, none, true⟩, ⟨.extract (.loc 4) 0, none, none, true⟩, ⟨.extract (.loc 4) 1, none, none, true⟩, ⟨.extract (.loc 4) 2, none, none, true⟩, ⟨.tomb 1 (.k (.agg [.int .i64 0, .int .i64 0])), none, (some 5), true⟩, ⟨.move (.loc 5), none, (some 13), true⟩, ⟨.move (.loc 6), none, (some 8), true⟩, ⟨.upd 2 0 (.loc 8) (.loc 7), none, (some 5), true⟩])
 ((.seq (.ops [⟨.move (.var 0), none, none, true⟩, ⟨.move (.var 1), none, none, true⟩, ⟨.callS ndeadline_Stuck [(.loc 0), (.loc 1)], none, none, true⟩, ⟨.move (.loc 2), none, none, true⟩, ⟨.extract (.loc 3) 0, none, none, true⟩, ⟨.extract (.loc 3) 1, none, none, true⟩, ⟨.tomb 1 (.k (.agg [.int .i64 0, .int .i64 0])), none, (some 7), true⟩, ⟨.move (.loc 4), none, (some 17), true⟩, ⟨.upd 2 0 (.loc 6) (.loc 5), none, (some 7), true⟩])
 ((.seq ((.seq (.ops [⟨.callS nLdeadlineExample [], none, none, true⟩, ⟨.un .not (.loc 0), none, (some 4), true⟩])
 (.cond (.var 4) ((.seq (.ops [⟨.move (.k (.bool false)), none, (some 3), true⟩])
 (.ret))) (.skip))))
 ((.seq ((.seq (.ops [⟨.field 0 none (.var 5), none, none, true⟩, ⟨.field 0 none (.var 5), none, none, true⟩, ⟨.bin .neq .no (.loc 1) (.k (.int .i64 0)), none, (some 6), true⟩])
 (.cond (.var 6) ((.seq (.ops [⟨.move (.k (.bool true)), none, (some 3), true⟩])
 (.ret))) (.skip))))
 ((.seq ((.seq (.ops [⟨.field 0 none (.var 7), none, none, true⟩, ⟨.field 0 none (.var 7), none, none, true⟩, ⟨.bin .neq .no (.loc 1) (.k (.int .i64 0)), none, none, true⟩, ⟨.move (.loc 2), none, none, true⟩, ⟨.move (.var 8), none, none, true⟩, ⟨.len (.loc 4), none, none, true⟩, ⟨.move (.var 1), none, none, true⟩, ⟨.len (.loc 6), none, none, true⟩, ⟨.bin .neq .no (.loc 5) (.loc 7), none, none, true⟩, ⟨.pick (.loc 3) (.k (.bool true)) (.loc 8), none, (some 9), true⟩])
 (.cond (.var 9) ((.seq (.ops [⟨.move (.k (.bool false)), none, (some 3), true⟩])
 (.ret))) (.skip))))
 ((.seq ((.seq (.ops [⟨.move (.k (.int .i64 0)), none, (some 10), true⟩])
 (.block 0 (.loop ((.seq ((.seq (.ops [⟨.move (.var 10), none, none, true⟩, ⟨.move (.var 1), none, none, true⟩, ⟨.len (.loc 1), none, none, true⟩, ⟨.bin .lss .no (.loc 0) (.loc 2), none, (some 11), true⟩])
 (.cond (.var 11) (.skip) (.exit 0))))
 ((.seq (.block 1 ((.seq (.ops [⟨.move (.var 8), none, none, true⟩, ⟨.move (.var 10), none, none, true⟩, ⟨.indexAddr 1 (.loc 0) (.loc 1), none, none, true⟩, ⟨.load none (.loc 2), none, none, true⟩, ⟨.move (.loc 3), none, (some 16), true⟩])
 ((.seq ((.seq (.ops [⟨.move (.k (.int .i64 0)), none, (some 12), true⟩])
 (.block 2 (.loop ((.seq ((.seq (.ops [⟨.move (.var 12), none, none, true⟩, ⟨.move (.var 13), none, none, true⟩, ⟨.len (.loc 1), none, none, true⟩, ⟨.bin .lss .no (.loc 0) (.loc 2), none, (some 14), true⟩])
 (.cond (.var 14) (.skip) (.exit 2))))
 ((.seq (.block 3 ((.seq (.ops [⟨.move (.var 13), none, none, true⟩, ⟨.move (.var 12), none, none, true⟩, ⟨.indexAddr 4 (.loc 0) (.loc 1), none, none, true⟩, ⟨.fieldAddr 1 (.loc 2), none, none, true⟩, ⟨.load none (.loc 3), none, none, true⟩, ⟨.move (.var 10), none, none, true⟩, ⟨.bin .eql .no (.loc 4) (.loc 5), none, (some 15), true⟩])
 (.cond (.var 15) (.ops [⟨.move (.var 16), none, none, true⟩, ⟨.bin .add .no (.loc 0) (.k (.int .i64 1)), none, none, true⟩, ⟨.move (.loc 1), none, (some 16), true⟩]) (.skip)))))
 (.ops [⟨.move (.var 12), none, none, true⟩, ⟨.bin .add .no (.loc 0) (.k (.int .i64 1)), none, none, true⟩, ⟨.move (.loc 1), none, (some 12), true⟩])))))))))
 ((.seq (.ops [⟨.move (.var 16), none, none, true⟩, ⟨.move (.var 1), none, none, true⟩, ⟨.move (.var 10), none, none, true⟩, ⟨.indexAddr 1 (.loc 1) (.loc 2), none, none, true⟩, ⟨.load none (.loc 3), none, none, true⟩, ⟨.len (.loc 4), none, none, true⟩, ⟨.bin .neq .no (.loc 0) (.loc 5), none, none, true⟩, ⟨.move (.loc 6), none, none, true⟩, ⟨.move (.var 8), none, none, true⟩, ⟨.move (.var 10), none, none, true⟩, ⟨.indexAddr 1 (.loc 8) (.loc 9), (some (7, false)), none, true⟩, ⟨.load none (.loc 10), (some (7, false)), none, true⟩, ⟨.bin .lss .no (.loc 11) (.k (.int .i64 0)), (some (7, false)), none, true⟩, ⟨.pick (.loc 7) (.k (.bool true)) (.loc 12), none, none, true⟩, ⟨.move (.loc 13), none, none, true⟩, ⟨.move (.var 8), none, none, true⟩, ⟨.move (.var 10), none, none, true⟩, ⟨.indexAddr 1 (.loc 15) (.loc 16), (some (14, false)), none, true⟩, ⟨.load none (.loc 17), (some (14, false)), none, true⟩, ⟨.bin .eql .no (.loc 18) (.k (.int .i64 0)), (some (14, false)), none, true⟩, ⟨.move (.loc 19), (some (14, false)), none, true⟩, ⟨.move (.var 17), none, none, true⟩, ⟨.move (.var 10), none, none, true⟩, ⟨.callS nFHas [(.loc 21), (.loc 22)], (some (20, true)), none, true⟩, ⟨.pick (.loc 20) (.loc 23) (.k (.bool false)), (some (14, false)), none, true⟩, ⟨.pick (.loc 14) (.k (.bool true)) (.loc 24), none, (some 18), true⟩])
 (.cond (.var 18) ((.seq (.ops [⟨.move (.k (.bool false)), none, (some 3), true⟩])
 (.ret))) (.skip)))))))))
 (.ops [⟨.move (.var 10), none, none, true⟩, ⟨.bin .add .no (.loc 0) (.k (.int .i64 1)), none, none, true⟩, ⟨.move (.loc 1), none, (some 10), true⟩])))))))))
 ((.seq (.ops [⟨.move (.k (.bool true)), none, (some 3), true⟩])
 (.ret))))))))))))))))), none⟩
theorem v_LDeadlineOperationsAddUp {F : Nat → Option RFunc} {me ndeadline_Run ndeadline_Stuck nLdeadlineExample nFHas : Nat} (hF : F me = some (rf_LDeadlineOperationsAddUp ndeadline_Run ndeadline_Stuck nLdeadlineExample nFHas)) {fl : Nat} {H : Heap} {Q : AV → Heap → Prop} (capacities0 : AV) (scripts1 : AV) (ticks2 : Int)
  (h : Ret F fl ndeadline_Run [capacities0, scripts1, (.int .i64 ticks2)] H (fun v8 H7 => ∃ (r3 : AV) (r4 : AV) (r5 : Int) (r6 : Int), v8 = (.tuple [r3, r4, (.agg [(.int .i64 r5), (.int .i64 r6)])]) ∧ ∀ (H9 : Heap), Dead1 H7 1 H9 → Ret F fl ndeadline_Stuck [capacities0, scripts1] H9 (fun v14 H13 => ∃ (r10 : AV) (r11 : Int) (r12 : Int), v14 = (.tuple [r10, (.agg [(.int .i64 r11), (.int .i64 r12)])]) ∧ ∀ (H15 : Heap), Dead1 H13 1 H15 → Ret F fl nLdeadlineExample [] H15 (fun v18 H17 => ∃ (r16 : Bool), v18 = (.bool r16) ∧ ((¬(r16 = true)) → Q (.bool false) H17) ∧ (¬(¬(r16 = true)) → ((r5 ≠ 0) → Q (.bool true) H17) ∧ (¬(r5 ≠ 0) → ∃ len19 : Nat, lenA r4 = some len19 ∧ ∃ len20 : Nat, lenA scripts1 = some len20 ∧ ((((r11 ≠ 0) ∨ ((len19 : Int) ≠ (len20 : Int)))) → Q (.bool false) H17) ∧ (¬(((r11 ≠ 0) ∨ ((len19 : Int) ≠ (len20 : Int)))) → ∃ (J21 : Nat → Int → Heap → Prop) (k22 : Nat), J21 k22 0 H17 ∧ (∀ (m23 : Nat) (p25 : Int) (H32 : Heap), J21 m23 p25 H32 → ∃ len33 : Nat, lenA scripts1 = some len33 ∧ ((p25 < (len33 : Int)) → ∃ (e34 : Int), getA H32 1 none r4 p25 0 = some (.int .i64 e34) ∧ ∃ (J36 : Nat → Int → Int → Prop) (k37 : Nat), J36 k37 0 e34 ∧ (∀ (m38 : Nat) (i39 : Int) (n42 : Int), J36 m38 i39 n42 → ∃ len43 : Nat, lenA r3 = some len43 ∧ ((i39 < (len43 : Int)) → ∃ (e44 : Int), getA H32 4 none r3 i39 1 = some (.int .i64 e44) ∧ ((e44 = p25) → ∃ m46 : Nat, m46 < m38 ∧ J36 m46 (IntKind.wrap .i64 (i39 + 1)) (IntKind.wrap .i64 (n42 + 1))) ∧ (¬(e44 = p25) → ∃ m47 : Nat, m47 < m38 ∧ J36 m47 (IntKind.wrap .i64 (i39 + 1)) n42)) ∧ (¬(i39 < (len43 : Int)) → ∃ (e48 : AV), getA H32 1 none scripts1 p25 0 = some e48 ∧ ∃ len50 : Nat, lenA e48 = some len50 ∧ ((n42 ≠ (len50 : Int)) → Q (.bool false) H32) ∧ (¬(n42 ≠ (len50 : Int)) → ∃ (e51 : Int), getA H32 1 none r4 p25 0 = some (.int .i64 e51) ∧ ((e51 < 0) → Q (.bool false) H32) ∧ (¬(e51 < 0) → ∃ (e53 : Int), getA H32 1 none r4 p25 0 = some (.int .i64 e53) ∧ ((e53 = 0) → Ret F fl nFHas [r10, (.int .i64 p25)] H32 (fun v57 H56 => ∃ (r55 : Bool), v57 = (.bool r55) ∧ ((r55 = true) → Q (.bool false) H56) ∧ (¬(r55 = true) → ∃ m58 : Nat, m58 < m23 ∧ J21 m58 (IntKind.wrap .i64 (p25 + 1)) H56))) ∧ (¬(e53 = 0) → ∃ m59 : Nat, m59 < m23 ∧ J21 m59 (IntKind.wrap .i64 (p25 + 1)) H32)))))) ∧ (¬(p25 < (len33 : Int)) → Q (.bool true) H32))))))))) : Ret F fl me [capacities0, scripts1, (.int .i64 ticks2)] H Q := by
  refine ret_intro hF rfl ?_
  refine w_seq ?_
  refine w_run [0] ?_
  refine t_done [capacities0, scripts1, (.int .i64 ticks2), (.bool false), .undef, .undef, .undef, .undef, .undef, .undef, .undef, .undef, .undef, .undef, .undef, .undef, .undef, .undef, .undef] H (by kernel_rfl) ?_
  refine then_norm ?_
  refine w_seq ?_
  refine w_run [0, 0, 0, 1, 0, 0, 0, 0, 1, 0, 0, 1] ?_
  refine t_call true ndeadline_Run [capacities0, scripts1, (.int .i64 ticks2)] H (by kernel_rfl) h ?_
  clear h
  rintro _ H7 ⟨r3, r4, r5, r6, rfl, h⟩
  obtain ⟨H9, hb⟩ : ∃ H', Dead1 H7 1 H' := ⟨_, ⟨rfl⟩⟩
  replace h := h H9 hb
  refine t_tomb true 1 (.agg [(.int .i64 0), (.int .i64 0)]) [(.int .i64 0), (.int .i64 0)] H9 H7 (by kernel_rfl) rfl hb ?_
  refine t_upd true 2 0 [(.int .i64 0), (.int .i64 0)] (.agg [(.int .i64 r5), (.int .i64 r6)]) [(.int .i64 r5), (.int .i64 r6)] [(.int .i64 r5), (.int .i64 r6)] H9 (by kernel_rfl) rfl (all_c rfl (all_c rfl all_n)) ⟨rfl, Nat.le_of_ble_eq_true (by kernel_rfl), rfl⟩ ?_
  refine t_done [capacities0, scripts1, (.int .i64 ticks2), (.bool false), .undef, (.agg [(.int .i64 r5), (.int .i64 r6)]), .undef, .undef, r4, .undef, .undef, .undef, .undef, r3, .undef, .undef, .undef, .undef, .undef] H9 (by kernel_rfl) ?_
  refine then_norm ?_
  refine w_seq ?_
  refine w_run [0, 0, 1, 0, 0, 0, 1, 0, 1] ?_
  refine t_call true ndeadline_Stuck [capacities0, scripts1] H9 (by kernel_rfl) h ?_
  clear h
  rintro _ H13 ⟨r10, r11, r12, rfl, h⟩
  obtain ⟨H15, hb⟩ : ∃ H', Dead1 H13 1 H' := ⟨_, ⟨rfl⟩⟩
  replace h := h H15 hb
  refine t_tomb true 1 (.agg [(.int .i64 0), (.int .i64 0)]) [(.int .i64 0), (.int .i64 0)] H15 H13 (by kernel_rfl) rfl hb ?_
  refine t_upd true 2 0 [(.int .i64 0), (.int .i64 0)] (.agg [(.int .i64 r11), (.int .i64 r12)]) [(.int .i64 r11), (.int .i64 r12)] [(.int .i64 r11), (.int .i64 r12)] H15 (by kernel_rfl) rfl (all_c rfl (all_c rfl all_n)) ⟨rfl, Nat.le_of_ble_eq_true (by kernel_rfl), rfl⟩ ?_
  refine t_done [capacities0, scripts1, (.int .i64 ticks2), (.bool false), .undef, (.agg [(.int .i64 r5), (.int .i64 r6)]), .undef, (.agg [(.int .i64 r11), (.int .i64 r12)]), r4, .undef, .undef, .undef, .undef, r3, .undef, .undef, .undef, r10, .undef] H15 (by kernel_rfl) ?_
  refine then_norm ?_
  refine w_seq ?_
  refine w_seq ?_
  refine w_run [1, 0] ?_
  refine t_call true nLdeadlineExample [] H15 (by kernel_rfl) h ?_
  clear h
  rintro _ H17 ⟨r16, rfl, h⟩
  refine t_done [capacities0, scripts1, (.int .i64 ticks2), (.bool false), (.bool (!r16)), (.agg [(.int .i64 r5), (.int .i64 r6)]), .undef, (.agg [(.int .i64 r11), (.int .i64 r12)]), r4, .undef, .undef, .undef, .undef, r3, .undef, .undef, .undef, r10, .undef] H17 (by kernel_rfl) ?_
  refine then_norm ?_
  refine w_cond (t := (!r16)) rfl (fun hc => ?_) (fun hc => ?_)
  · replace h := h.1 ((is_not is_raw).t hc)
    refine w_seq ?_
    refine w_run [0] ?_
    refine t_done [capacities0, scripts1, (.int .i64 ticks2), (.bool false), (.bool (!r16)), (.agg [(.int .i64 r5), (.int .i64 r6)]), .undef, (.agg [(.int .i64 r11), (.int .i64 r12)]), r4, .undef, .undef, .undef, .undef, r3, .undef, .undef, .undef, r10, .undef] H17 (by kernel_rfl) ?_
    refine then_norm ?_
    refine w_ret ?_
    refine then_ret ?_
    exact body_ret (vs := [(.bool false)]) _ (by kernel_rfl) rfl h
  · replace h := h.2 ((is_not is_raw).f hc)
    refine w_skip ?_
    refine then_norm ?_
    refine w_seq ?_
    refine w_seq ?_
    refine w_run [0, 0, 0] ?_
    refine t_done [capacities0, scripts1, (.int .i64 ticks2), (.bool false), (.bool (!r16)), (.agg [(.int .i64 r5), (.int .i64 r6)]), (.bool ((r5) != 0)), (.agg [(.int .i64 r11), (.int .i64 r12)]), r4, .undef, .undef, .undef, .undef, r3, .undef, .undef, .undef, r10, .undef] H17 (by kernel_rfl) ?_
    refine then_norm ?_
    refine w_cond (t := ((r5) != 0)) rfl (fun hc => ?_) (fun hc => ?_)
    · replace h := h.1 (is_ne.t hc)
      refine w_seq ?_
      refine w_run [0] ?_
      refine t_done [capacities0, scripts1, (.int .i64 ticks2), (.bool true), (.bool (!r16)), (.agg [(.int .i64 r5), (.int .i64 r6)]), (.bool ((r5) != 0)), (.agg [(.int .i64 r11), (.int .i64 r12)]), r4, .undef, .undef, .undef, .undef, r3, .undef, .undef, .undef, r10, .undef] H17 (by kernel_rfl) ?_
      refine then_norm ?_
      refine w_ret ?_
      refine then_ret ?_
      exact body_ret (vs := [(.bool true)]) _ (by kernel_rfl) rfl h
    · replace h := h.2 (is_ne.f hc)
      refine w_skip ?_
      refine then_norm ?_
      refine w_seq ?_
      refine w_seq ?_
      refine w_run [0, 0, 0, 0, 0, 1, 0, 1, 0, 0] ?_
      obtain ⟨len19, hl, h⟩ := h
      refine t_len true r4 len19 H17 (by kernel_rfl) hl ?_
      obtain ⟨len20, hl, h⟩ := h
      refine t_len true scripts1 len20 H17 (by kernel_rfl) hl ?_
      refine t_done [capacities0, scripts1, (.int .i64 ticks2), (.bool false), (.bool (!r16)), (.agg [(.int .i64 r5), (.int .i64 r6)]), (.bool ((r5) != 0)), (.agg [(.int .i64 r11), (.int .i64 r12)]), r4, (.bool (((r11) != 0) || (((len19 : Int)) != (len20 : Int)))), .undef, .undef, .undef, r3, .undef, .undef, .undef, r10, .undef] H17 (by kernel_rfl) ?_
      refine then_norm ?_
      refine w_cond (t := (((r11) != 0) || (((len19 : Int)) != (len20 : Int)))) rfl (fun hc => ?_) (fun hc => ?_)
      · replace h := h.1 ((is_or is_ne is_ne).t hc)
        refine w_seq ?_
        refine w_run [0] ?_
        refine t_done [capacities0, scripts1, (.int .i64 ticks2), (.bool false), (.bool (!r16)), (.agg [(.int .i64 r5), (.int .i64 r6)]), (.bool ((r5) != 0)), (.agg [(.int .i64 r11), (.int .i64 r12)]), r4, (.bool (((r11) != 0) || (((len19 : Int)) != (len20 : Int)))), .undef, .undef, .undef, r3, .undef, .undef, .undef, r10, .undef] H17 (by kernel_rfl) ?_
        refine then_norm ?_
        refine w_ret ?_
        refine then_ret ?_
        exact body_ret (vs := [(.bool false)]) _ (by kernel_rfl) rfl h
      · replace h := h.2 ((is_or is_ne is_ne).f hc)
        refine w_skip ?_
        refine then_norm ?_
        refine w_seq ?_
        refine w_seq ?_
        refine w_run [0] ?_
        refine t_done [capacities0, scripts1, (.int .i64 ticks2), (.bool false), (.bool (!r16)), (.agg [(.int .i64 r5), (.int .i64 r6)]), (.bool ((r5) != 0)), (.agg [(.int .i64 r11), (.int .i64 r12)]), r4, (.bool (((r11) != 0) || (((len19 : Int)) != (len20 : Int)))), (.int .i64 0), .undef, .undef, r3, .undef, .undef, .undef, r10, .undef] H17 (by kernel_rfl) ?_
        refine then_norm ?_
        refine w_block ?_
        obtain ⟨J21, k22, h0, h⟩ := h
        refine w_loop (I := fun mI EI HI => ∃ (d24 : AV) (p25 : Int) (d26 : AV) (d27 : AV) (d28 : AV) (d29 : AV) (d30 : AV) (d31 : AV), EI = [capacities0, scripts1, (.int .i64 ticks2), d24, (.bool (!r16)), (.agg [(.int .i64 r5), (.int .i64 r6)]), (.bool ((r5) != 0)), (.agg [(.int .i64 r11), (.int .i64 r12)]), r4, (.bool (((r11) != 0) || (((len19 : Int)) != (len20 : Int)))), (.int .i64 p25), d26, d27, r3, d28, d29, d30, r10, d31] ∧ J21 mI p25 HI) ?_ k22 ⟨_, _, _, _, _, _, _, _, rfl, h0⟩
        clear h0
        rintro m23 EI H32 ⟨d24, p25, d26, d27, d28, d29, d30, d31, rfl, hJ⟩
        replace h := h m23 p25 H32 hJ
        clear hJ
        refine w_seq ?_
        refine w_seq ?_
        refine w_run [0, 0, 1, 0] ?_
        obtain ⟨len33, hl, h⟩ := h
        refine t_len true scripts1 len33 H32 (by kernel_rfl) hl ?_
        refine t_done [capacities0, scripts1, (.int .i64 ticks2), d24, (.bool (!r16)), (.agg [(.int .i64 r5), (.int .i64 r6)]), (.bool ((r5) != 0)), (.agg [(.int .i64 r11), (.int .i64 r12)]), r4, (.bool (((r11) != 0) || (((len19 : Int)) != (len20 : Int)))), (.int .i64 p25), (.bool (decide (p25 < (len33 : Int)))), d27, r3, d28, d29, d30, r10, d31] H32 (by kernel_rfl) ?_
        refine then_norm ?_
        refine w_cond (t := (decide (p25 < (len33 : Int)))) rfl (fun hc => ?_) (fun hc => ?_)
        · replace h := h.1 (is_dec.t hc)
          refine w_skip ?_
          refine then_norm ?_
          refine w_seq ?_
          refine w_block ?_
          refine w_seq ?_
          refine w_run [0, 0, 1, 1, 0] ?_
          obtain ⟨e34, hg35, h⟩ := h
          refine t_idxG true 1 r4 .i64 p25 H32 (by kernel_rfl) hg35 ?_
          refine t_loadG true none 1 r4 p25 0 (.int .i64 e34) H32 (by kernel_rfl) hg35 ?_
          refine t_done [capacities0, scripts1, (.int .i64 ticks2), d24, (.bool (!r16)), (.agg [(.int .i64 r5), (.int .i64 r6)]), (.bool ((r5) != 0)), (.agg [(.int .i64 r11), (.int .i64 r12)]), r4, (.bool (((r11) != 0) || (((len19 : Int)) != (len20 : Int)))), (.int .i64 p25), (.bool (decide (p25 < (len33 : Int)))), d27, r3, d28, d29, (.int .i64 e34), r10, d31] H32 (by kernel_rfl) ?_
          refine then_norm ?_
          refine w_seq ?_
          refine w_seq ?_
          refine w_run [0] ?_
          refine t_done [capacities0, scripts1, (.int .i64 ticks2), d24, (.bool (!r16)), (.agg [(.int .i64 r5), (.int .i64 r6)]), (.bool ((r5) != 0)), (.agg [(.int .i64 r11), (.int .i64 r12)]), r4, (.bool (((r11) != 0) || (((len19 : Int)) != (len20 : Int)))), (.int .i64 p25), (.bool (decide (p25 < (len33 : Int)))), (.int .i64 0), r3, d28, d29, (.int .i64 e34), r10, d31] H32 (by kernel_rfl) ?_
          refine then_norm ?_
          refine w_block ?_
          obtain ⟨J36, k37, h0, h⟩ := h
          refine w_loop (I := fun mI EI HI => ∃ (i39 : Int) (d40 : AV) (d41 : AV) (n42 : Int), EI = [capacities0, scripts1, (.int .i64 ticks2), d24, (.bool (!r16)), (.agg [(.int .i64 r5), (.int .i64 r6)]), (.bool ((r5) != 0)), (.agg [(.int .i64 r11), (.int .i64 r12)]), r4, (.bool (((r11) != 0) || (((len19 : Int)) != (len20 : Int)))), (.int .i64 p25), (.bool (decide (p25 < (len33 : Int)))), (.int .i64 i39), r3, d40, d41, (.int .i64 n42), r10, d31] ∧ H32 = HI ∧ J36 mI i39 n42) ?_ k37 ⟨_, _, _, _, rfl, rfl, h0⟩
          clear h0
          rintro m38 EI HI ⟨i39, d40, d41, n42, rfl, rfl, hJ⟩
          replace h := h m38 i39 n42  hJ
          clear hJ
          refine w_seq ?_
          refine w_seq ?_
          refine w_run [0, 0, 1, 0] ?_
          obtain ⟨len43, hl, h⟩ := h
          refine t_len true r3 len43 H32 (by kernel_rfl) hl ?_
          refine t_done [capacities0, scripts1, (.int .i64 ticks2), d24, (.bool (!r16)), (.agg [(.int .i64 r5), (.int .i64 r6)]), (.bool ((r5) != 0)), (.agg [(.int .i64 r11), (.int .i64 r12)]), r4, (.bool (((r11) != 0) || (((len19 : Int)) != (len20 : Int)))), (.int .i64 p25), (.bool (decide (p25 < (len33 : Int)))), (.int .i64 i39), r3, (.bool (decide (i39 < (len43 : Int)))), d41, (.int .i64 n42), r10, d31] H32 (by kernel_rfl) ?_
          refine then_norm ?_
          refine w_cond (t := (decide (i39 < (len43 : Int)))) rfl (fun hc => ?_) (fun hc => ?_)
          · replace h := h.1 (is_dec.t hc)
            refine w_skip ?_
            refine then_norm ?_
            refine w_seq ?_
            refine w_block ?_
            refine w_seq ?_
            refine w_run [0, 0, 1, 1, 1, 0, 0] ?_
            obtain ⟨e44, hg45, h⟩ := h
            refine t_idxG true 4 r3 .i64 i39 H32 (by kernel_rfl) hg45 ?_
            refine t_fldG true 1 4 r3 i39 0 H32 (by kernel_rfl) hg45 ?_
            refine t_loadG true none 4 r3 i39 1 (.int .i64 e44) H32 (by kernel_rfl) hg45 ?_
            refine t_done [capacities0, scripts1, (.int .i64 ticks2), d24, (.bool (!r16)), (.agg [(.int .i64 r5), (.int .i64 r6)]), (.bool ((r5) != 0)), (.agg [(.int .i64 r11), (.int .i64 r12)]), r4, (.bool (((r11) != 0) || (((len19 : Int)) != (len20 : Int)))), (.int .i64 p25), (.bool (decide (p25 < (len33 : Int)))), (.int .i64 i39), r3, (.bool (decide (i39 < (len43 : Int)))), (.bool ((e44) == p25)), (.int .i64 n42), r10, d31] H32 (by kernel_rfl) ?_
            refine then_norm ?_
            refine w_cond (t := ((e44) == p25)) rfl (fun hc => ?_) (fun hc => ?_)
            · replace h := h.1 (is_eq.t hc)
              refine w_run [0, 0, 0] ?_
              refine t_done [capacities0, scripts1, (.int .i64 ticks2), d24, (.bool (!r16)), (.agg [(.int .i64 r5), (.int .i64 r6)]), (.bool ((r5) != 0)), (.agg [(.int .i64 r11), (.int .i64 r12)]), r4, (.bool (((r11) != 0) || (((len19 : Int)) != (len20 : Int)))), (.int .i64 p25), (.bool (decide (p25 < (len33 : Int)))), (.int .i64 i39), r3, (.bool (decide (i39 < (len43 : Int)))), (.bool ((e44) == p25)), (.int .i64 (IntKind.wrap .i64 (n42 + 1))), r10, d31] H32 (by kernel_rfl) ?_
              refine block_norm ?_
              refine then_norm ?_
              refine w_run [0, 0, 0] ?_
              refine t_done [capacities0, scripts1, (.int .i64 ticks2), d24, (.bool (!r16)), (.agg [(.int .i64 r5), (.int .i64 r6)]), (.bool ((r5) != 0)), (.agg [(.int .i64 r11), (.int .i64 r12)]), r4, (.bool (((r11) != 0) || (((len19 : Int)) != (len20 : Int)))), (.int .i64 p25), (.bool (decide (p25 < (len33 : Int)))), (.int .i64 (IntKind.wrap .i64 (i39 + 1))), r3, (.bool (decide (i39 < (len43 : Int)))), (.bool ((e44) == p25)), (.int .i64 (IntKind.wrap .i64 (n42 + 1))), r10, d31] H32 (by kernel_rfl) ?_
              obtain ⟨m', hm, h⟩ := h
              refine loop_norm ⟨m', hm, _, _, _, _, rfl, rfl, h⟩
            · replace h := h.2 (is_eq.f hc)
              refine w_skip ?_
              refine block_norm ?_
              refine then_norm ?_
              refine w_run [0, 0, 0] ?_
              refine t_done [capacities0, scripts1, (.int .i64 ticks2), d24, (.bool (!r16)), (.agg [(.int .i64 r5), (.int .i64 r6)]), (.bool ((r5) != 0)), (.agg [(.int .i64 r11), (.int .i64 r12)]), r4, (.bool (((r11) != 0) || (((len19 : Int)) != (len20 : Int)))), (.int .i64 p25), (.bool (decide (p25 < (len33 : Int)))), (.int .i64 (IntKind.wrap .i64 (i39 + 1))), r3, (.bool (decide (i39 < (len43 : Int)))), (.bool ((e44) == p25)), (.int .i64 n42), r10, d31] H32 (by kernel_rfl) ?_
              obtain ⟨m', hm, h⟩ := h
              refine loop_norm ⟨m', hm, _, _, _, _, rfl, rfl, h⟩
          · replace h := h.2 (is_dec.f hc)
            refine w_exit ?_
            refine then_exit ?_
            refine loop_exit ?_
            refine block_exit ?_
            refine then_norm ?_
            refine w_seq ?_
            refine w_run [0, 0, 0, 1, 1, 1, 0, 0, 0, 0, 3, 3, 2, 0, 0, 0, 0, 3, 3, 2, 2, 0, 0, 3, 2, 0] ?_
            obtain ⟨e48, hg49, h⟩ := h
            refine t_idxG true 1 scripts1 .i64 p25 H32 (by kernel_rfl) hg49 ?_
            refine t_loadG true none 1 scripts1 p25 0 e48 H32 (by kernel_rfl) hg49 ?_
            obtain ⟨len50, hl, h⟩ := h
            refine t_len true e48 len50 H32 (by kernel_rfl) hl ?_
            refine t_gd ((n42) != (len50 : Int)) false (by kernel_rfl) (fun hc => ?_) (fun hc => ?_)
            · replace h := h.2 (is_ne.f hc)
              obtain ⟨e51, hg52, h⟩ := h
              refine t_idxG true 1 r4 .i64 p25 H32 (by kernel_rfl) hg52 ?_
              refine t_gd false false (by kernel_rfl) (fun _ => ?_) (fun hn => by cases hn)
              refine t_loadG true none 1 r4 p25 0 (.int .i64 e51) H32 (by kernel_rfl) hg52 ?_
              refine t_gd false false (by kernel_rfl) (fun _ => ?_) (fun hn => by cases hn)
              refine t_gd (decide (e51 < 0)) false (by kernel_rfl) (fun hc => ?_) (fun hc => ?_)
              · replace h := h.2 (is_dec.f hc)
                obtain ⟨e53, hg54, h⟩ := h
                refine t_idxG true 1 r4 .i64 p25 H32 (by kernel_rfl) hg54 ?_
                refine t_gd false false (by kernel_rfl) (fun _ => ?_) (fun hn => by cases hn)
                refine t_loadG true none 1 r4 p25 0 (.int .i64 e53) H32 (by kernel_rfl) hg54 ?_
                refine t_gd false false (by kernel_rfl) (fun _ => ?_) (fun hn => by cases hn)
                refine t_gd false false (by kernel_rfl) (fun _ => ?_) (fun hn => by cases hn)
                refine t_gd ((e53) == 0) true (by kernel_rfl) (fun hc => ?_) (fun hc => ?_)
                · replace h := h.1 (is_eq.t hc)
                  refine t_call true nFHas [r10, (.int .i64 p25)] H32 (by kernel_rfl) h ?_
                  clear h
                  rintro _ H56 ⟨r55, rfl, h⟩
                  refine t_gd false false (by kernel_rfl) (fun _ => ?_) (fun hn => by cases hn)
                  refine t_done [capacities0, scripts1, (.int .i64 ticks2), d24, (.bool (!r16)), (.agg [(.int .i64 r5), (.int .i64 r6)]), (.bool ((r5) != 0)), (.agg [(.int .i64 r11), (.int .i64 r12)]), r4, (.bool (((r11) != 0) || (((len19 : Int)) != (len20 : Int)))), (.int .i64 p25), (.bool (decide (p25 < (len33 : Int)))), (.int .i64 i39), r3, (.bool (decide (i39 < (len43 : Int)))), d41, (.int .i64 n42), r10, (.bool r55)] H56 (by kernel_rfl) ?_
                  refine then_norm ?_
                  refine w_cond (t := r55) rfl (fun hc => ?_) (fun hc => ?_)
                  · replace h := h.1 (is_raw.t hc)
                    refine w_seq ?_
                    refine w_run [0] ?_
                    refine t_done [capacities0, scripts1, (.int .i64 ticks2), (.bool false), (.bool (!r16)), (.agg [(.int .i64 r5), (.int .i64 r6)]), (.bool ((r5) != 0)), (.agg [(.int .i64 r11), (.int .i64 r12)]), r4, (.bool (((r11) != 0) || (((len19 : Int)) != (len20 : Int)))), (.int .i64 p25), (.bool (decide (p25 < (len33 : Int)))), (.int .i64 i39), r3, (.bool (decide (i39 < (len43 : Int)))), d41, (.int .i64 n42), r10, (.bool r55)] H56 (by kernel_rfl) ?_
                    refine then_norm ?_
                    refine w_ret ?_
                    refine block_ret ?_
                    refine then_ret ?_
                    refine loop_ret ?_
                    refine block_ret ?_
                    refine then_ret ?_
                    exact body_ret (vs := [(.bool false)]) _ (by kernel_rfl) rfl h
                  · replace h := h.2 (is_raw.f hc)
                    refine w_skip ?_
                    refine block_norm ?_
                    refine then_norm ?_
                    refine w_run [0, 0, 0] ?_
                    refine t_done [capacities0, scripts1, (.int .i64 ticks2), d24, (.bool (!r16)), (.agg [(.int .i64 r5), (.int .i64 r6)]), (.bool ((r5) != 0)), (.agg [(.int .i64 r11), (.int .i64 r12)]), r4, (.bool (((r11) != 0) || (((len19 : Int)) != (len20 : Int)))), (.int .i64 (IntKind.wrap .i64 (p25 + 1))), (.bool (decide (p25 < (len33 : Int)))), (.int .i64 i39), r3, (.bool (decide (i39 < (len43 : Int)))), d41, (.int .i64 n42), r10, (.bool r55)] H56 (by kernel_rfl) ?_
                    obtain ⟨m', hm, h⟩ := h
                    refine loop_norm ⟨m', hm, _, _, _, _, _, _, _, _, rfl, h⟩
                · replace h := h.2 (is_eq.f hc)
                  refine t_gd false false (by kernel_rfl) (fun _ => ?_) (fun hn => by cases hn)
                  refine t_done [capacities0, scripts1, (.int .i64 ticks2), d24, (.bool (!r16)), (.agg [(.int .i64 r5), (.int .i64 r6)]), (.bool ((r5) != 0)), (.agg [(.int .i64 r11), (.int .i64 r12)]), r4, (.bool (((r11) != 0) || (((len19 : Int)) != (len20 : Int)))), (.int .i64 p25), (.bool (decide (p25 < (len33 : Int)))), (.int .i64 i39), r3, (.bool (decide (i39 < (len43 : Int)))), d41, (.int .i64 n42), r10, (.bool false)] H32 (by kernel_rfl) ?_
                  refine then_norm ?_
                  refine w_cond (t := false) rfl (fun hc => by cases hc) (fun _ => ?_)
                  refine w_skip ?_
                  refine block_norm ?_
                  refine then_norm ?_
                  refine w_run [0, 0, 0] ?_
                  refine t_done [capacities0, scripts1, (.int .i64 ticks2), d24, (.bool (!r16)), (.agg [(.int .i64 r5), (.int .i64 r6)]), (.bool ((r5) != 0)), (.agg [(.int .i64 r11), (.int .i64 r12)]), r4, (.bool (((r11) != 0) || (((len19 : Int)) != (len20 : Int)))), (.int .i64 (IntKind.wrap .i64 (p25 + 1))), (.bool (decide (p25 < (len33 : Int)))), (.int .i64 i39), r3, (.bool (decide (i39 < (len43 : Int)))), d41, (.int .i64 n42), r10, (.bool false)] H32 (by kernel_rfl) ?_
                  obtain ⟨m', hm, h⟩ := h
                  refine loop_norm ⟨m', hm, _, _, _, _, _, _, _, _, rfl, h⟩
              · replace h := h.1 (is_dec.t hc)
                refine t_gd true false (by kernel_rfl) (fun hn => by cases hn) (fun _ => ?_)
                refine t_gd true false (by kernel_rfl) (fun hn => by cases hn) (fun _ => ?_)
                refine t_gd true false (by kernel_rfl) (fun hn => by cases hn) (fun _ => ?_)
                refine t_gdU true (by kernel_rfl) ?_
                refine t_gd true false (by kernel_rfl) (fun hn => by cases hn) (fun _ => ?_)
                refine t_done [capacities0, scripts1, (.int .i64 ticks2), d24, (.bool (!r16)), (.agg [(.int .i64 r5), (.int .i64 r6)]), (.bool ((r5) != 0)), (.agg [(.int .i64 r11), (.int .i64 r12)]), r4, (.bool (((r11) != 0) || (((len19 : Int)) != (len20 : Int)))), (.int .i64 p25), (.bool (decide (p25 < (len33 : Int)))), (.int .i64 i39), r3, (.bool (decide (i39 < (len43 : Int)))), d41, (.int .i64 n42), r10, (.bool true)] H32 (by kernel_rfl) ?_
                refine then_norm ?_
                refine w_cond (t := true) rfl (fun _ => ?_) (fun hc => by cases hc)
                refine w_seq ?_
                refine w_run [0] ?_
                refine t_done [capacities0, scripts1, (.int .i64 ticks2), (.bool false), (.bool (!r16)), (.agg [(.int .i64 r5), (.int .i64 r6)]), (.bool ((r5) != 0)), (.agg [(.int .i64 r11), (.int .i64 r12)]), r4, (.bool (((r11) != 0) || (((len19 : Int)) != (len20 : Int)))), (.int .i64 p25), (.bool (decide (p25 < (len33 : Int)))), (.int .i64 i39), r3, (.bool (decide (i39 < (len43 : Int)))), d41, (.int .i64 n42), r10, (.bool true)] H32 (by kernel_rfl) ?_
                refine then_norm ?_
                refine w_ret ?_
                refine block_ret ?_
                refine then_ret ?_
                refine loop_ret ?_
                refine block_ret ?_
                refine then_ret ?_
                exact body_ret (vs := [(.bool false)]) _ (by kernel_rfl) rfl h
            · replace h := h.1 (is_ne.t hc)
              refine t_gd true false (by kernel_rfl) (fun hn => by cases hn) (fun _ => ?_)
              refine t_gd true false (by kernel_rfl) (fun hn => by cases hn) (fun _ => ?_)
              refine t_gd true false (by kernel_rfl) (fun hn => by cases hn) (fun _ => ?_)
              refine t_gd true false (by kernel_rfl) (fun hn => by cases hn) (fun _ => ?_)
              refine t_gd true false (by kernel_rfl) (fun hn => by cases hn) (fun _ => ?_)
              refine t_gd true false (by kernel_rfl) (fun hn => by cases hn) (fun _ => ?_)
              refine t_gdU true (by kernel_rfl) ?_
              refine t_gd true false (by kernel_rfl) (fun hn => by cases hn) (fun _ => ?_)
              refine t_done [capacities0, scripts1, (.int .i64 ticks2), d24, (.bool (!r16)), (.agg [(.int .i64 r5), (.int .i64 r6)]), (.bool ((r5) != 0)), (.agg [(.int .i64 r11), (.int .i64 r12)]), r4, (.bool (((r11) != 0) || (((len19 : Int)) != (len20 : Int)))), (.int .i64 p25), (.bool (decide (p25 < (len33 : Int)))), (.int .i64 i39), r3, (.bool (decide (i39 < (len43 : Int)))), d41, (.int .i64 n42), r10, (.bool true)] H32 (by kernel_rfl) ?_
              refine then_norm ?_
              refine w_cond (t := true) rfl (fun _ => ?_) (fun hc => by cases hc)
              refine w_seq ?_
              refine w_run [0] ?_
              refine t_done [capacities0, scripts1, (.int .i64 ticks2), (.bool false), (.bool (!r16)), (.agg [(.int .i64 r5), (.int .i64 r6)]), (.bool ((r5) != 0)), (.agg [(.int .i64 r11), (.int .i64 r12)]), r4, (.bool (((r11) != 0) || (((len19 : Int)) != (len20 : Int)))), (.int .i64 p25), (.bool (decide (p25 < (len33 : Int)))), (.int .i64 i39), r3, (.bool (decide (i39 < (len43 : Int)))), d41, (.int .i64 n42), r10, (.bool true)] H32 (by kernel_rfl) ?_
              refine then_norm ?_
              refine w_ret ?_
              refine block_ret ?_
              refine then_ret ?_
              refine loop_ret ?_
              refine block_ret ?_
              refine then_ret ?_
              exact body_ret (vs := [(.bool false)]) _ (by kernel_rfl) rfl h
        · replace h := h.2 (is_dec.f hc)
          refine w_exit ?_
          refine then_exit ?_
          refine loop_exit ?_
          refine block_exit ?_
          refine then_norm ?_
          refine w_seq ?_
          refine w_run [0] ?_
          refine t_done [capacities0, scripts1, (.int .i64 ticks2), (.bool true), (.bool (!r16)), (.agg [(.int .i64 r5), (.int .i64 r6)]), (.bool ((r5) != 0)), (.agg [(.int .i64 r11), (.int .i64 r12)]), r4, (.bool (((r11) != 0) || (((len19 : Int)) != (len20 : Int)))), (.int .i64 p25), (.bool (decide (p25 < (len33 : Int)))), d27, r3, d28, d29, d30, r10, d31] H32 (by kernel_rfl) ?_
          refine then_norm ?_
          refine w_ret ?_
          exact body_ret (vs := [(.bool true)]) _ (by kernel_rfl) rfl h

end Go.RM

/-
  The document's run and what is left; results compared; Run and Stuck in one form; the law's example; whose result is a sent value.
-/
namespace Go.RM
set_option linter.unusedSimpArgs false
set_option linter.unusedVariables false
namespace De
variable {F : Nat → Option RFunc}

end De
end Go.RM

/-
  deadline's laws: results compared, Run and Stuck in one form, the example, and whose result is a sent value.
-/
namespace Go.RM
set_option linter.unusedSimpArgs false
set_option linter.unusedVariables false
namespace De
variable {F : Nat → Option RFunc}

theorem res_get {H : Heap} {v : AV} {l : List Res} (h : Arr tRes H v l) {i : Nat} (hi : i < l.length) : getA H 4 (some 4) v (i : Int) 0 = some (.agg (resC l[i])) := Arr.enc (enc := resC) (pos := by decide) (len := fun _ => rfl) (scal := fun _ => rfl) h hi
theorem res_cell {H : Heap} {v : AV} {l : List Res} (h : Arr tRes H v l) {i : Nat} (hi : i < l.length) (o : Nat) {x : AV} (hx : (resC l[i])[o]? = some x) : getA H 4 none v (i : Int) o = some x := Arr.cell (enc := resC) (pos := by decide) (len := fun _ => rfl) (scal := fun _ => rfl) h hi o hx

abbrev EqResC (F : Nat → Option RFunc) (f : Nat) : Prop := ∀ {fl H Q a b} {l m : List Res}, Arr tRes H a l → Arr tRes H b m → Q (.bool (decide (l = m))) H → Ret F fl f [a, b] H Q
theorem eqRes_c {f : Nat} (hF : F f = some rf_FEqualResults) : EqResC F f := fun {fl H Q a b l m} ha hb hq => by
  refine v_FEqualResults hF _ _ ?_
  have hs := ha.small
  refine ⟨_, ha.len, _, hb.len, fun hne => ?_, fun he => ?_⟩
  · rw [decide_eq_false (fun h => hne (by rw [h]))] at hq; exact hq
  · have he : l.length = m.length := by omega
    refine ⟨fun k v => ∃ i : Nat, v = i ∧ i + k = l.length ∧ (l.take i = m.take i), l.length, ⟨0, rfl, by omega, by simp⟩, ?_⟩
    rintro k _ ⟨i, rfl, hk, hi⟩
    refine ⟨_, ha.len, fun hlt => ?_, fun hge => ?_⟩
    · have hil : i < l.length := by omega
      refine ⟨_, _, _, _, res_get ha hil, _, _, _, _, res_get hb (show i < m.length by omega), fun hne => ?_, fun heq => ?_⟩
      · rw [decide_eq_false (fun h => hne (by subst h; exact ⟨rfl, rfl, rfl, rfl, trivial⟩))] at hq; exact hq
      · refine ⟨k - 1, by omega, i + 1, wsucc hil hs, by omega, ?_⟩
        obtain ⟨a1, a2, a3, a4, _⟩ := Classical.not_not.1 heq
        have heq : l[i] = m[i]'(by omega) := by
          cases h1 : l[i]; cases h2 : m[i]'(by omega)
          rw [h1, h2] at a1 a2 a3 a4
          simp only at a1 a2 a3 a4
          rw [a1, a2, a3, a4]
        rw [List.take_succ_eq_append_getElem hil, List.take_succ_eq_append_getElem (by omega), hi, heq]
    · rw [List.take_of_length_le (by omega), List.take_of_length_le (by omega)] at hi
      rw [decide_eq_true hi] at hq; exact hq

def runRes (caps : List Int) (scr : List (List Op)) (n : Int) : List Res := if runE caps scr n = (0, 0) then (runP caps n.toNat (startP caps scr)).res else []
def runLeft (caps : List Int) (scr : List (List Op)) (n : Int) : List Int := if runE caps scr n = (0, 0) then (runP caps n.toNat (startP caps scr)).ops.map fun l => (l.length : Int) else []
def stuckRes (caps : List Int) (scr : List (List Op)) : List Int := if valE caps scr = (0, 0) then stuckL 0 (runP caps 2600 (startP caps scr)).ops else []

abbrev RunU (F : Nat → Option RFunc) (f : Nat) : Prop := ∀ {fl H Q cv sv} {caps : List Int} {scr : List (List Op)} {n : Int}, Ints H cv caps → Arr (tArr tOp) H sv scr → fl ≤ H.length →
  (∀ rv lv H', Keep H.length H H' → Arr tRes H' rv (runRes caps scr n) → Ints H' lv (runLeft caps scr n) → Q (.tuple [rv, lv, flt (runE caps scr n).1 (runE caps scr n).2]) H') → Ret F fl f [cv, sv, i64 n] H Q
theorem run_u {f : Nat} (h : RunC F f) : RunU F f := fun {fl H Q cv sv caps scr n} hc hs hfl hq => by
  unfold runRes runLeft at hq
  refine h hc hs hfl (fun he H' k => ?_) (fun he rv lv H' k h1 h2 => ?_)
  · rw [if_neg he, if_neg he] at hq
    exact hq _ _ H' k Arr.nil Arr.nil
  · rw [if_pos he, if_pos he, he] at hq
    exact hq _ _ H' k h1 h2
abbrev StuckU (F : Nat → Option RFunc) (f : Nat) : Prop := ∀ {fl H Q cv sv} {caps : List Int} {scr : List (List Op)}, Ints H cv caps → Arr (tArr tOp) H sv scr → fl ≤ H.length →
  (∀ w H', Keep H.length H H' → Ints H' w (stuckRes caps scr) → Q (.tuple [w, flt (valE caps scr).1 (valE caps scr).2]) H') → Ret F fl f [cv, sv] H Q
theorem stuck_u {f : Nat} (h : StuckC F f) : StuckU F f := fun {fl H Q cv sv caps scr} hc hs hfl hq => by
  unfold stuckRes at hq
  refine h hc hs hfl (fun he H' k => ?_) (fun he w H' k h1 => ?_)
  · rw [if_neg he] at hq
    exact hq _ H' k Arr.nil
  · rw [if_pos he, he] at hq
    exact hq _ H' k h1

/-- The example's scripts. -/
def exS : List (List Op) := [[⟨1, 0, 5, 0, []⟩], [⟨2, 0, 0, 0, []⟩, ⟨2, 0, 0, 0, []⟩]]
theorem ex_run : runE [1] exS 3 = (0, 0) ∧ runRes [1] exS 3 = [⟨0, 0, 0, 5⟩, ⟨0, 1, 0, 5⟩] ∧ runLeft [1] exS 3 = [0, 1] := by decide
theorem ex_val : valE [1] exS = (0, 0) := by decide
theorem ex_quiet : (stepP [1] (runP [1] 2 (startP [1] exS))).2 = false ∧ stuckL 0 (runP [1] 2 (startP [1] exS)).ops = [1] := by decide
theorem ex_stuck : stuckRes [1] exS = [1] := by
  unfold stuckRes
  rw [if_pos ex_val]
  have ok := run_ok 2 (start_ok ex_val).1
  have h := run_quiet ok ex_quiet.1 2598 (runP [1] 2 (startP [1] exS)).tick
  rw [show (2600 : Nat) = 2 + 2598 from rfl, run_add]
  have e : (runP [1] 2598 (runP [1] 2 (startP [1] exS))).ops = (runP [1] 2 (startP [1] exS)).ops := by
    have : ({ runP [1] 2 (startP [1] exS) with tick := (runP [1] 2 (startP [1] exS)).tick } : Sys) = runP [1] 2 (startP [1] exS) := rfl
    rw [this] at h
    rw [h]
  rw [e]
  exact ex_quiet.2

abbrev ExC (F : Nat → Option RFunc) (f : Nat) : Prop := ∀ {fl H Q}, fl ≤ H.length → (∀ H', Keep H.length H H' → Q (.bool true) H') → Ret F fl f [] H Q
theorem ex_c {f n1 n2 n3 n4 : Nat} (hF : F f = some (rf_LdeadlineExample n1 n2 n3 n4)) (h1 : RunU F n1) (h2 : StuckU F n2) (h3 : EqResC F n3) (h4 : FEqualIntsC F n4) : ExC F f := fun {fl H Q} hfl hq => by
  refine v_LdeadlineExample hF ?_
  intro b0 H1 m1 b2 H3 m3 b4 H5 m5 b6 H7 m7
  have k1 := m1.keep
  have k3 := k1.call m3.keep
  have k5 := k3.call m5.keep
  have k7 := k5.call m7.keep
  have a0 : Arr tOp H1 (.slice b0 0 1 (some 1)) [⟨1, 0, 5, 0, []⟩] := NewB.arr (T := tOp) m1 [opC .empty ⟨1, 0, 5, 0, []⟩] rfl ⟨⟨_, rfl, Arr.nil⟩, trivial⟩ rfl
  have a2 : Arr tOp H3 (.slice b2 0 2 (some 2)) [⟨2, 0, 0, 0, []⟩, ⟨2, 0, 0, 0, []⟩] := NewB.arr (T := tOp) m3 [opC .empty ⟨2, 0, 0, 0, []⟩, opC .empty ⟨2, 0, 0, 0, []⟩] rfl ⟨⟨_, rfl, Arr.nil⟩, ⟨_, rfl, Arr.nil⟩, trivial⟩ rfl
  have a4 : Arr (tArr tOp) H5 (.slice b4 0 2 (some 2)) exS := m5.lists ⟨a0.keep m3.keep, a2, trivial⟩ rfl
  have c7 : Ints H7 (.slice b6 0 1 (some 1)) [1] := m7.ints [1] rfl rfl
  obtain ⟨x1, x2, x3⟩ := ex_run
  refine h1 (n := 3) c7 (a4.keep m7.keep) (k7.fl hfl) fun rv lv H12 k12' r1 r2 => ⟨_, _, _, _, rfl, ?_⟩
  have k12 := k7.call k12'
  intro H14 d14 b15 H16 m16
  have k14 := k12.call d14.keep
  have k16 := k14.call m16.keep
  have c16 : Ints H16 (.slice b15 0 1 (some 1)) [1] := m16.ints [1] rfl rfl
  have a16 := (((a4.keep m7.keep).keep k12').keep d14.keep).keep m16.keep
  refine h2 c16 a16 (k16.fl hfl) fun w H20 k20' r3 => ⟨_, _, _, rfl, ?_⟩
  have k20 := k16.call k20'
  intro H22 d22
  have k22 := k20.call d22.keep
  rw [x1, ex_val]
  rw [x2] at r1
  rw [x3] at r2
  rw [ex_stuck] at r3
  have kk : Keep H12.length H12 H22 := ((d14.keep.call m16.keep).call k20').call d22.keep
  have q1 := r1.keep kk
  have q2 := r2.keep kk
  have q3 := r3.keep d22.keep
  refine ⟨fun _ => ?_, fun hn => absurd ⟨rfl, rfl⟩ hn⟩
  intro b23 H24 m24
  have k24 := k22.call m24.keep
  have e24 : Arr tRes H24 (.slice b23 0 2 (some 2)) [⟨0, 0, 0, 5⟩, ⟨0, 1, 0, 5⟩] := NewB.arr (T := tRes) m24 [resC ⟨0, 0, 0, 5⟩, resC ⟨0, 1, 0, 5⟩] rfl (all2_res [⟨0, 0, 0, 5⟩, ⟨0, 1, 0, 5⟩]) rfl
  refine h3 (q1.keep m24.keep) e24 ⟨_, rfl, fun _ => ?_, fun hn => absurd (decide_eq_true rfl) hn⟩
  intro b28 H29 m29
  have k29 := k24.call m29.keep
  refine h4 ((q2.keep m24.keep).keep m29.keep) (m29.ints [0, 1] rfl rfl) ⟨_, rfl, fun _ => ?_, fun hn => absurd (decide_eq_true rfl) hn⟩
  intro b33 H34 m34
  refine h4 (((q3.keep m24.keep).keep m29.keep).keep m34.keep) (m34.ints [1] rfl rfl) ⟨_, rfl, ?_⟩
  rw [decide_eq_true rfl]
  exact hq H34 (k29.call m34.keep)

/-- The n-th operation of a process, if it has one. -/
def opAt (scr : List (List Op)) (p : Int) (n : Nat) : Option Op := if 0 ≤ p ∧ p < scr.length then (scr.getD p.toNat [])[n]? else none
end De
end Go.RM

/-
  What holds of every run's results: in plain terms.
-/
namespace Go.RM
set_option linter.unusedSimpArgs false
set_option linter.unusedVariables false
namespace De

def cntP (l : List Res) (p : Int) : Nat := (l.filter fun x => x.p == p).length
def sinceP (l : List Res) (p : Int) : Int := l.foldl (fun a x => if x.p = p then x.t + 1 else a) 0
/-- The values that wait in a channel; the results are given from the last one on. -/
def queueR (scr : List (List Op)) (c : Int) : List Res → List Int
  | [] => []
  | x :: l => if x.c = c then (match opAt scr x.p (cntP l x.p) with
      | some o => if o.k = 1 then queueR scr c l ++ [x.v] else (queueR scr c l).tail
      | none => (queueR scr c l).tail) else queueR scr c l
def queueP (scr : List (List Op)) (c : Int) (l : List Res) : List Int := queueR scr c l.reverse

theorem cntP_snoc {l : List Res} {x : Res} {p : Int} : cntP (l ++ [x]) p = cntP l p + if x.p = p then 1 else 0 := by
  unfold cntP
  rw [List.filter_append, List.length_append]
  congr 1
  rw [List.filter_cons]
  by_cases e : x.p = p
  · rw [if_pos (by simpa using e), if_pos e]; rfl
  · rw [if_neg (by simpa using e), if_neg e]; rfl
theorem sinceP_snoc {l : List Res} {x : Res} {p : Int} : sinceP (l ++ [x]) p = if x.p = p then x.t + 1 else sinceP l p := by
  unfold sinceP
  rw [List.foldl_append]; rfl
theorem cntP_rev {l : List Res} {p : Int} : cntP l.reverse p = cntP l p := by
  unfold cntP
  rw [List.filter_reverse, List.length_reverse]
theorem queueP_snoc {scr : List (List Op)} {c : Int} {l : List Res} {x : Res} : queueP scr c (l ++ [x]) = if x.c = c then (match opAt scr x.p (cntP l x.p) with
      | some o => if o.k = 1 then queueP scr c l ++ [x.v] else (queueP scr c l).tail
      | none => (queueP scr c l).tail) else queueP scr c l := by
  unfold queueP
  rw [List.reverse_append]
  show queueR scr c (x :: l.reverse) = _
  rw [queueR, cntP_rev]

/-- What holds of a result that comes after others. -/
structure Good (caps : List Int) (scr : List (List Op)) (l : List Res) (x : Res) : Prop where
  time : 0 ≤ x.t ∧ (∀ y ∈ l, y.t ≤ x.t) ∧ ∀ y ∈ l, y.p = x.p → y.t < x.t
  op : ∃ o, opAt scr x.p (cntP l x.p) = some o ∧ (x.c = -1 → 3 ≤ o.k ∧ x.v = 0 ∧ x.t - sinceP l x.p = o.w) ∧
    ∀ c : Nat, c < caps.length → x.c = c → if o.k = 1 then ((queueP scr c l).length : Int) < caps.getD c 0 else ∃ r, queueP scr c l = x.v :: r

def AllP (P : List Res → Res → Prop) (l : List Res) : Prop := ∀ (i : Nat) (h : i < l.length), P (l.take i) l[i]
theorem allP_snoc {P : List Res → Res → Prop} {l : List Res} {x : Res} (h : AllP P l) (hx : P l x) : AllP P (l ++ [x]) := by
  intro i hi
  rcases Nat.lt_or_ge i l.length with h' | h'
  · rw [List.take_append_of_le_length (by omega), List.getElem_append_left h']
    exact h i h'
  · have : i = l.length := by simp only [List.length_append, List.length_cons, List.length_nil] at hi; omega
    subst this
    rw [List.take_left, List.getElem_concat_length rfl]
    exact hx

/-- A run, while a tick's turns are taken: those of todo are still to come. -/
structure Inv (caps : List Int) (scr : List (List Op)) (s : Sys) (todo : Nat → Prop) : Prop where
  good : AllP (Good caps scr) s.res
  olen : s.ops.length = scr.length
  ops : ∀ p : Nat, p < scr.length → s.ops.getD p [] = (scr.getD p []).drop (cntP s.res p) ∧ cntP s.res p ≤ (scr.getD p []).length
  since : ∀ p : Nat, p < scr.length → s.since.getD p 0 = sinceP s.res p
  buf : ∀ c : Nat, c < caps.length → s.buf.getD c [] = queueP scr c s.res
  tick : ∀ y ∈ s.res, 0 ≤ y.t ∧ y.t ≤ s.tick
  yet : ∀ p : Nat, todo p → ∀ y ∈ s.res, y.p = p → y.t < s.tick
  wait : ∀ (p : Nat) o r, s.ops.getD p [] = o :: r → liveP o false = true → s.tick - s.since.getD p 0 ≤ o.w ∧ (¬ todo p → s.tick + 1 - s.since.getD p 0 ≤ o.w)

theorem start_inv {caps : List Int} {scr : List (List Op)} (h : Ok caps (startP caps scr)) : Inv caps scr (startP caps scr) (fun _ => True) := by
  refine ⟨fun i hi => by simp [startP] at hi, rfl, fun p hp => ⟨by simp [startP, cntP], by simp [startP, cntP]⟩, fun p hp => ?_, fun c hc => ?_, fun y hy => by simp [startP] at hy, fun p _ y hy => by simp [startP] at hy, fun p o r ho hl => ⟨?_, fun hn => absurd trivial hn⟩⟩
  · simp only [startP, List.getD_eq_getElem?_getD, List.getElem?_map, sinceP]
    cases scr[p]? <;> rfl
  · simp only [startP, List.getD_eq_getElem?_getD, List.getElem?_map]
    cases caps[c]? <;> rfl
  · have hop := getD_some ho
    obtain ⟨⟨k1, k2⟩, _, h3, h4⟩ := code_ok (h.ops _ (List.mem_of_getElem? hop) o (by simp))
    have hs : (startP caps scr).since.getD p 0 = 0 := by
      simp only [startP, List.getD_eq_getElem?_getD, List.getElem?_map]
      cases scr[p]? <;> rfl
    rw [hs]
    show (0 : Int) - 0 ≤ o.w
    unfold liveP at hl
    simp only [Bool.false_or, Bool.or_eq_true, Bool.and_eq_true, beq_iff_eq, decide_eq_true_eq] at hl
    rcases hl with e | e
    · have := h4 e; omega
    · omega

theorem turn_inv {caps : List Int} {scr : List (List Op)} {s : Sys} {todo todo' : Nat → Prop} {p : Nat} (hok : Ok caps s) (h : Inv caps scr s todo) (hp : p < scr.length) (htp : todo p) (ht' : ∀ q, todo' q ↔ todo q ∧ q ≠ p) : Inv caps scr (turnP caps s p).1 todo' := by
  rcases turn_cases (caps := caps) s p with ⟨e, c1, c2⟩ | ⟨o, r, ho, hd, c, e⟩
  · rw [e]
    refine { h with yet := fun q hq => h.yet q ((ht' q).1 hq).1, wait := fun q o r ho hl => ⟨(h.wait q o r ho hl).1, fun hn => ?_⟩ }
    by_cases eq : q = p
    · subst eq
      cases hb : (turnP caps s q).2 with
      | true =>
        obtain ⟨o', r', ho', _, hnd⟩ := c1 hb
        rw [ho] at ho'; cases ho'
        have := (live_wait hl hnd).1
        omega
      | false =>
        have := (c2 hb o r ho).1
        rw [hl] at this; cases this
    · exact (h.wait q o r ho hl).2 fun hq => hn ((ht' q).2 ⟨hq, eq⟩)
  · obtain ⟨o1, o2⟩ := h.ops p hp
    rw [ho] at o1
    obtain ⟨hn, oe, re⟩ := drop_cons o1.symm
    have code := hok.ops _ (List.mem_of_getElem? (getD_some ho)) o (by simp)
    obtain ⟨⟨k1, k2⟩, _, c23, c24⟩ := code_ok code
    have hsi := h.since p hp
    have hop : opAt scr p (cntP s.res p) = some o := by
      unfold opAt
      rw [if_pos ⟨by omega, by omega⟩, Int.toNat_natCast, List.getElem?_eq_getElem hn, oe]
    have tk := hok.tick
    have pops : p < s.ops.length := by rw [h.olen]; exact hp
    have psin : p < s.since.length := by rw [hok.slen]; exact pops
    have hb := h.buf
    -- the new result
    have key : ∀ (x : Res) (buf' : List (List Int)), x.t = s.tick → x.p = p →
        (x.c = -1 → 3 ≤ o.k ∧ x.v = 0 ∧ x.t - sinceP s.res p = o.w) →
        (∀ c : Nat, c < caps.length → x.c = c → if o.k = 1 then ((queueP scr c s.res).length : Int) < caps.getD c 0 else ∃ r, queueP scr c s.res = x.v :: r) →
        (∀ c : Nat, c < caps.length → buf'.getD c [] = if x.c = c then (if o.k = 1 then queueP scr c s.res ++ [x.v] else (queueP scr c s.res).tail) else queueP scr c s.res) →
        Inv caps scr { buf := buf', ops := s.ops.set p r, since := s.since.set p (s.tick + 1), tick := s.tick, res := s.res ++ [x] } todo' := by
      intro x buf' hxt hxp hx1 hx2 hx3
      refine ⟨allP_snoc h.good ⟨⟨by omega, fun y hy => by rw [hxt]; exact (h.tick y hy).2, fun y hy hyp => by rw [hxt]; exact h.yet p htp y hy (hyp.trans hxp)⟩, o, by rw [hxp]; exact hop, by rw [hxp]; exact hx1, hx2⟩, by simpa using h.olen, fun q hq => ?_, fun q hq => ?_, fun c hc => ?_, fun y hy => ?_, fun q hq y hy hyq => ?_, fun q o' r' ho' hl' => ?_⟩
      · simp only
        rw [getD_set pops, cntP_snoc, hxp]
        by_cases e : q = p
        · subst e
          rw [if_pos rfl, if_pos rfl]
          exact ⟨re, hn⟩
        · rw [if_neg e, if_neg (by omega), Nat.add_zero]; exact h.ops q hq
      · simp only
        rw [getD_set psin, sinceP_snoc, hxp, hxt]
        by_cases e : q = p
        · rw [if_pos e, if_pos (by omega)]
        · rw [if_neg e, if_neg (by omega)]; exact h.since q hq
      · simp only
        rw [hx3 c hc, queueP_snoc, hxp, hop]
      · simp only at hy ⊢
        rcases List.mem_append.1 hy with hy | hy
        · exact h.tick y hy
        · rw [List.mem_singleton.1 hy, hxt]; omega
      · simp only at hy ⊢
        obtain ⟨q1, q2⟩ := (ht' q).1 hq
        rcases List.mem_append.1 hy with hy | hy
        · exact h.yet q q1 y hy hyq
        · rw [List.mem_singleton.1 hy, hxp] at hyq; omega
      · simp only at ho' ⊢
        rw [getD_set psin]
        rw [getD_set pops] at ho'
        by_cases e : q = p
        · subst e
          rw [if_pos rfl]
          rw [if_pos rfl] at ho'
          -- a time that is waited for is not negative
          have hmem : o' ∈ o :: r := by rw [ho']; simp
          have code' := hok.ops _ (List.mem_of_getElem? (getD_some ho)) o' hmem
          obtain ⟨_, _, _, d4⟩ := code_ok code'
          unfold liveP at hl'
          simp only [Bool.false_or, Bool.or_eq_true, Bool.and_eq_true, beq_iff_eq, decide_eq_true_eq] at hl'
          rcases hl' with e | e
          · have := d4 e; omega
          · omega
        · rw [if_neg e] at ho' ⊢
          obtain ⟨w1, w2⟩ := h.wait q o' r' ho' hl'
          exact ⟨w1, fun hnt => w2 fun hq => hnt ((ht' q).2 ⟨hq, e⟩)⟩
    rw [e]
    rcases done_cases code hd with ⟨e1, c, hcl, hoc, ht⟩ | ⟨e1, c, hcl, v, b, hrv, ht⟩ | ⟨e1, e3, hv, hx, ht⟩
    · rw [ht]
      have hcb : c < s.buf.length := by rw [hok.blen]; exact hcl
      have hcap : ((s.buf.getD c []).length : Int) < caps.getD c 0 := by
        have h1 := hok.buf c _ (List.getElem?_eq_getElem hcb)
        have h2 : ¬ (((s.buf.getD o.c.toNat []).length : Nat) : Int) = caps.getD o.c.toNat 0 := fun heq => by
          unfold tryP at hd
          rw [if_pos e1, if_pos heq] at hd
          cases hd
        rw [hoc, Int.toNat_natCast] at h2
        rw [getD_get hcb] at h2 ⊢
        omega
      refine key _ _ rfl rfl (fun hc => by simp only at hc; omega) (fun c' hc' he => ?_) fun c' hc' => ?_
      · have : c' = c := by simp only at he; omega
        subst this
        rw [if_pos e1, ← hb c' hcl]; exact hcap
      · rw [getD_set hcb, if_pos e1, ← hb c' hc']
        by_cases ec : c' = c
        · subst ec; rw [if_pos rfl, if_pos rfl]
        · rw [if_neg ec, if_neg fun he => ec (by simp only at he; omega)]
    · rw [ht]
      have hcb : c < s.buf.length := by rw [hok.blen]; exact hcl
      obtain ⟨l, hl, rfl⟩ := recv_shape hrv
      rw [Int.toNat_natCast] at hl ⊢
      have hq : queueP scr c s.res = v :: l := by rw [← hb c hcl, List.getD_eq_getElem?_getD, hl]; rfl
      refine key _ _ rfl rfl (fun hc => by simp only at hc; omega) (fun c' hc' he => ?_) fun c' hc' => ?_
      · have : c' = c := by simp only at he; omega
        subst this
        rw [if_neg e1]; exact ⟨l, hq⟩
      · rw [getD_set hcb, if_neg e1]
        by_cases ec : c' = c
        · subst ec; rw [if_pos rfl, if_pos rfl, hq]; rfl
        · rw [if_neg ec, if_neg fun he => ec (by simp only at he; omega)]; exact hb c' hc'
    · rw [ht]
      refine key _ _ rfl rfl (fun _ => ⟨e3, rfl, ?_⟩) (fun c' hc' he => by simp only at he; omega) fun c' hc' => ?_
      · -- it waited exactly as long as it must
        have hlive : liveP o false = true := by
          unfold liveP
          by_cases e4 : o.k = 4
          · simp [e4]
          · have e3' : o.k = 3 := by omega
            have hw : o.w ≥ 0 := by
              unfold tryP at hd
              rw [if_neg e1, if_neg (by omega), if_pos e3'] at hd
              unfold tryP at ht
              rw [if_neg e1, if_neg (by omega), if_pos e3'] at ht
              split at hd
              · rename_i c v b hf
                rw [hf] at ht
                simp only [Prod.mk.injEq] at ht
                obtain ⟨f1, _⟩ := first_shape hf
                have := (c23 e3').1 c f1
                omega
              · simp only [Bool.and_eq_true, decide_eq_true_eq] at hd; exact hd.1
            simp [e3', hw]
        have := (h.wait p o r ho hlive).1
        simp only
        rw [← hsi]; omega
      · rw [if_neg fun he => by simp only at he; omega]; exact hb c' hc'

theorem turns_inv {caps : List Int} {scr : List (List Op)} : ∀ {l : List Nat} {s : Sys} {b : Bool}, Ok caps s → l.Nodup → (∀ p ∈ l, p < scr.length) → Inv caps scr s (fun p => p ∈ l) → Inv caps scr (turnsP caps l s b).1 (fun _ => False)
  | [], s, b, _, _, _, h => by
    rw [turnsP]
    exact { h with yet := fun q hq => hq.elim, wait := fun q o r ho hl => ⟨(h.wait q o r ho hl).1, fun _ => (h.wait q o r ho hl).2 (by simp)⟩ }
  | p :: l, s, b, hok, hn, hl, h => by
    obtain ⟨n1, n2⟩ := List.nodup_cons.1 hn
    rw [turnsP]
    refine turns_inv (turn_ok hok p) n2 (fun q hq => hl q (by simp [hq])) (turn_inv hok h (hl p (by simp)) (by simp) fun q => ?_)
    simp only [List.mem_cons]
    refine ⟨fun hq => ⟨.inr hq, fun e => n1 (e ▸ hq)⟩, fun ⟨a, b⟩ => a.resolve_left b⟩

theorem step_inv {caps : List Int} {scr : List (List Op)} {s : Sys} (hok : Ok caps s) (h : Inv caps scr s (fun _ => True)) : Inv caps scr (stepP caps s).1 (fun _ => True) := by
  have hlex := sort_lex (key := fun p => s.since.getD p 0) s.ops.length
  have hnd : (sortP (fun p => s.since.getD p 0) (List.range s.ops.length)).Nodup := hlex.imp Lex.ne
  have h0 : Inv caps scr s (fun p => p ∈ sortP (fun p => s.since.getD p 0) (List.range s.ops.length)) :=
    { h with yet := fun q _ => h.yet q trivial, wait := fun q o r ho hl => ⟨(h.wait q o r ho hl).1, fun hn => by
        have hq : q < s.ops.length := (List.getElem?_eq_some_iff.1 (getD_some ho)).1
        exact absurd (sort_mem.2 hq) hn⟩ }
  have h1 := turns_inv (b := false) hok hnd (fun p hp => by rw [← h.olen]; exact sort_mem.1 hp) h0
  unfold stepP
  exact ⟨h1.good, h1.olen, h1.ops, h1.since, h1.buf, fun y hy => by have := h1.tick y hy; simp only; omega, fun p _ y hy _ => by have := h1.tick y hy; simp only; omega, fun q o r ho hl => ⟨by have := (h1.wait q o r ho hl).2 (by simp); simp only; omega, fun hn => absurd trivial hn⟩⟩

theorem run_inv {caps : List Int} {scr : List (List Op)} : ∀ (n : Nat) {s : Sys}, Ok caps s → Inv caps scr s (fun _ => True) → Inv caps scr (runP caps n s) (fun _ => True)
  | 0, _, _, h => h
  | n + 1, _, hok, h => run_inv n (step_ok hok) (step_inv hok h)

end De
end Go.RM

