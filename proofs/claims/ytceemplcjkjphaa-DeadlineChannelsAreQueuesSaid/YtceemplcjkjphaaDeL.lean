import Derived.Test.YtceemplcjkjphaaRmOpt3
import Derived.Test.YtceemplcjkjphaaDeF2
/-
  Functions of the program as the abstract machine runs them, and what must be shown of a run: printed by RmPrint.
-/
namespace Go.RM
set_option linter.unusedVariables false
set_option maxRecDepth 4000
def rf_LdeadlineExample (ndeadline_Run ndeadline_Stuck nFEqualResults nFEqualInts : Nat) : RFunc := ⟨0, 7, [.var 0],
 ((.seq (.ops [⟨.move (.k (.bool false)), none, (some 0), true⟩])
 ((.seq (.ops [⟨.build [.int .i64 0, .int .i64 0, .int .i64 0, .int .i64 0, .empty] [(0, 1, (.k (.int .i64 1))), (2, 1, (.k (.int .i64 5)))], none, none, true⟩, ⟨.buildSlice 5 [.int .i64 0, .int .i64 0, .int .i64 0, .int .i64 0, .empty] [(0, 5, (.loc 0))] 1, none, none, true⟩, ⟨.build [.int .i64 0, .int .i64 0, .int .i64 0, .int .i64 0, .empty] [(0, 1, (.k (.int .i64 2)))], none, none, true⟩, ⟨.build [.int .i64 0, .int .i64 0, .int .i64 0, .int .i64 0, .empty] [(0, 1, (.k (.int .i64 2)))], none, none, true⟩, ⟨.buildSlice 5 [.int .i64 0, .int .i64 0, .int .i64 0, .int .i64 0, .empty] [(0, 5, (.loc 2)), (5, 5, (.loc 3))] 2, none, none, true⟩, ⟨.buildSlice 1 [.empty] [(0, 1, (.loc 1)), (1, 1, (.loc 4))] 2, none, none, true⟩, ⟨.move (.loc 5), none, (some 1), true⟩])
 ((.seq (.ops [⟨.buildSlice 1 [.int .i64 0] [(0, 1, (.k (.int .i64 1)))] 1, none, none, true⟩, ⟨.move (.var 1), none, none, true⟩, ⟨.callS ndeadline_Run [(.loc 0), (.loc 1), (.k (.int .i64 3))], none, none, true⟩, ⟨.move (.loc 2), none, none, true⟩, ⟨.extract (.loc 3) 0, none, none, true⟩, ⟨.extract (.loc 3) 1, none, none, true⟩, ⟨.extract (.loc 3) 2, none, none, true⟩, ⟨.tomb 1 (.k (.agg [.int .i64 0, .int .i64 0])), none, (some 2), true⟩, ⟨.move (.loc 4), none, (some 4), true⟩, ⟨.move (.loc 5), none, (some 5), true⟩, ⟨.upd 2 0 (.loc 7) (.loc 6), none, (some 2), true⟩])
 ((.seq (.ops [⟨.buildSlice 1 [.int .i64 0] [(0, 1, (.k (.int .i64 1)))] 1, none, none, true⟩, ⟨.move (.var 1), none, none, true⟩, ⟨.callS ndeadline_Stuck [(.loc 0), (.loc 1)], none, none, true⟩, ⟨.move (.loc 2), none, none, true⟩, ⟨.extract (.loc 3) 0, none, none, true⟩, ⟨.extract (.loc 3) 1, none, none, true⟩, ⟨.tomb 1 (.k (.agg [.int .i64 0, .int .i64 0])), none, (some 3), true⟩, ⟨.move (.loc 4), none, (some 6), true⟩, ⟨.upd 2 0 (.loc 6) (.loc 5), none, (some 3), true⟩])
 ((.seq (.ops [⟨.field 0 none (.var 2), none, none, true⟩, ⟨.field 0 none (.var 2), none, none, true⟩, ⟨.bin .eql .no (.loc 1) (.k (.int .i64 0)), none, none, true⟩, ⟨.move (.loc 2), none, none, true⟩, ⟨.field 0 none (.var 3), none, none, true⟩, ⟨.field 0 none (.var 3), none, none, true⟩, ⟨.bin .eql .no (.loc 5) (.k (.int .i64 0)), none, none, true⟩, ⟨.pick (.loc 3) (.loc 6) (.k (.bool false)), none, none, true⟩, ⟨.move (.loc 7), none, none, true⟩, ⟨.move (.var 4), none, none, true⟩, ⟨.build [.int .i64 0, .int .i64 0, .int .i64 0, .int .i64 0] [(1, 1, (.k (.int .i64 0))), (3, 1, (.k (.int .i64 5)))], none, none, true⟩, ⟨.build [.int .i64 0, .int .i64 0, .int .i64 0, .int .i64 0] [(1, 1, (.k (.int .i64 1))), (3, 1, (.k (.int .i64 5)))], none, none, true⟩, ⟨.buildSlice 4 [.int .i64 0, .int .i64 0, .int .i64 0, .int .i64 0] [(0, 4, (.loc 10)), (4, 4, (.loc 11))] 2, (some (8, true)), none, true⟩, ⟨.callS nFEqualResults [(.loc 9), (.loc 12)], (some (8, true)), none, true⟩, ⟨.pick (.loc 8) (.loc 13) (.k (.bool false)), none, none, true⟩, ⟨.move (.loc 14), none, none, true⟩, ⟨.move (.var 5), none, none, true⟩, ⟨.buildSlice 1 [.int .i64 0] [(0, 1, (.k (.int .i64 0))), (1, 1, (.k (.int .i64 1)))] 2, (some (15, true)), none, true⟩, ⟨.callS nFEqualInts [(.loc 16), (.loc 17)], (some (15, true)), none, true⟩, ⟨.pick (.loc 15) (.loc 18) (.k (.bool false)), none, none, true⟩, ⟨.move (.loc 19), none, none, true⟩, ⟨.move (.var 6), none, none, true⟩, ⟨.buildSlice 1 [.int .i64 0] [(0, 1, (.k (.int .i64 1)))] 1, (some (20, true)), none, true⟩, ⟨.callS nFEqualInts [(.loc 21), (.loc 22)], (some (20, true)), none, true⟩, ⟨.pick (.loc 20) (.loc 23) (.k (.bool false)), none, none, true⟩, ⟨.move (.loc 24), none, (some 0), true⟩])
 (.ret))))))))))), none⟩
theorem v_LdeadlineExample {F : Nat → Option RFunc} {me ndeadline_Run ndeadline_Stuck nFEqualResults nFEqualInts : Nat} (hF : F me = some (rf_LdeadlineExample ndeadline_Run ndeadline_Stuck nFEqualResults nFEqualInts)) {fl : Nat} {H : Heap} {Q : AV → Heap → Prop} 
  (h : ∀ (b0 : Nat) (H1 : Heap), NewB H 5 [(.int .i64 1), (.int .i64 0), (.int .i64 5), (.int .i64 0), .empty] b0 H1 → ∀ (b2 : Nat) (H3 : Heap), NewB H1 5 [(.int .i64 2), (.int .i64 0), (.int .i64 0), (.int .i64 0), .empty, (.int .i64 2), (.int .i64 0), (.int .i64 0), (.int .i64 0), .empty] b2 H3 → ∀ (b4 : Nat) (H5 : Heap), NewB H3 1 [(.slice b0 0 1 (some 1)), (.slice b2 0 2 (some 2))] b4 H5 → ∀ (b6 : Nat) (H7 : Heap), NewB H5 1 [(.int .i64 1)] b6 H7 → Ret F fl ndeadline_Run [(.slice b6 0 1 (some 1)), (.slice b4 0 2 (some 2)), (.int .i64 3)] H7 (fun v13 H12 => ∃ (r8 : AV) (r9 : AV) (r10 : Int) (r11 : Int), v13 = (.tuple [r8, r9, (.agg [(.int .i64 r10), (.int .i64 r11)])]) ∧ ∀ (H14 : Heap), Dead1 H12 1 H14 → ∀ (b15 : Nat) (H16 : Heap), NewB H14 1 [(.int .i64 1)] b15 H16 → Ret F fl ndeadline_Stuck [(.slice b15 0 1 (some 1)), (.slice b4 0 2 (some 2))] H16 (fun v21 H20 => ∃ (r17 : AV) (r18 : Int) (r19 : Int), v21 = (.tuple [r17, (.agg [(.int .i64 r18), (.int .i64 r19)])]) ∧ ∀ (H22 : Heap), Dead1 H20 1 H22 → ((((r10 = 0) ∧ (r18 = 0))) → ∀ (b23 : Nat) (H24 : Heap), NewB H22 4 [(.int .i64 0), (.int .i64 0), (.int .i64 0), (.int .i64 5), (.int .i64 0), (.int .i64 1), (.int .i64 0), (.int .i64 5)] b23 H24 → Ret F fl nFEqualResults [r8, (.slice b23 0 2 (some 2))] H24 (fun v27 H26 => ∃ (r25 : Bool), v27 = (.bool r25) ∧ ((r25 = true) → ∀ (b28 : Nat) (H29 : Heap), NewB H26 1 [(.int .i64 0), (.int .i64 1)] b28 H29 → Ret F fl nFEqualInts [r9, (.slice b28 0 2 (some 2))] H29 (fun v32 H31 => ∃ (r30 : Bool), v32 = (.bool r30) ∧ ((r30 = true) → ∀ (b33 : Nat) (H34 : Heap), NewB H31 1 [(.int .i64 1)] b33 H34 → Ret F fl nFEqualInts [r17, (.slice b33 0 1 (some 1))] H34 (fun v37 H36 => ∃ (r35 : Bool), v37 = (.bool r35) ∧ Q (.bool r35) H36)) ∧ (¬(r30 = true) → Q (.bool false) H31))) ∧ (¬(r25 = true) → Q (.bool false) H26))) ∧ (¬(((r10 = 0) ∧ (r18 = 0))) → Q (.bool false) H22)))) : Ret F fl me [] H Q := by
  refine ret_intro hF rfl ?_
  refine w_seq ?_
  refine w_run [0] ?_
  refine t_done [(.bool false), .undef, .undef, .undef, .undef, .undef, .undef] H (by kernel_rfl) ?_
  refine then_norm ?_
  refine w_seq ?_
  refine w_run [1, 1, 1, 1, 1, 1, 0] ?_
  refine t_build true [(.int .i64 0), (.int .i64 0), (.int .i64 0), (.int .i64 0), .empty] [(0, 1, .loc 0), (2, 1, .loc 1)] [(.int .i64 1), (.int .i64 5)] [(.int .i64 1), (.int .i64 0), (.int .i64 5), (.int .i64 0), .empty] H (by kernel_rfl) (fill_c (vs := [(.int .i64 1)]) (size := 1) rfl (by kernel_rfl) (by kernel_rfl) (fill_c (vs := [(.int .i64 5)]) (size := 1) rfl (by kernel_rfl) (by kernel_rfl) (by kernel_rfl))) ?_
  obtain ⟨b0, H1, hb⟩ : ∃ b H', NewB H 5 [(.int .i64 1), (.int .i64 0), (.int .i64 5), (.int .i64 0), .empty] b H' := ⟨_, _, rfl, rfl⟩
  replace h := h b0 H1 hb
  refine t_bs true 5 [(.int .i64 0), (.int .i64 0), (.int .i64 0), (.int .i64 0), .empty] [(0, 5, .loc 0)] 1 [(.agg [(.int .i64 1), (.int .i64 0), (.int .i64 5), (.int .i64 0), .empty])] [(.int .i64 1), (.int .i64 0), (.int .i64 5), (.int .i64 0), .empty] b0 H1 H (by kernel_rfl) (fill_c (vs := [(.int .i64 1), (.int .i64 0), (.int .i64 5), (.int .i64 0), .empty]) (size := 5) rfl (by kernel_rfl) (by kernel_rfl) (by kernel_rfl)) hb ?_
  refine t_build true [(.int .i64 0), (.int .i64 0), (.int .i64 0), (.int .i64 0), .empty] [(0, 1, .loc 0)] [(.int .i64 2)] [(.int .i64 2), (.int .i64 0), (.int .i64 0), (.int .i64 0), .empty] H1 (by kernel_rfl) (fill_c (vs := [(.int .i64 2)]) (size := 1) rfl (by kernel_rfl) (by kernel_rfl) (by kernel_rfl)) ?_
  refine t_build true [(.int .i64 0), (.int .i64 0), (.int .i64 0), (.int .i64 0), .empty] [(0, 1, .loc 0)] [(.int .i64 2)] [(.int .i64 2), (.int .i64 0), (.int .i64 0), (.int .i64 0), .empty] H1 (by kernel_rfl) (fill_c (vs := [(.int .i64 2)]) (size := 1) rfl (by kernel_rfl) (by kernel_rfl) (by kernel_rfl)) ?_
  obtain ⟨b2, H3, hb⟩ : ∃ b H', NewB H1 5 [(.int .i64 2), (.int .i64 0), (.int .i64 0), (.int .i64 0), .empty, (.int .i64 2), (.int .i64 0), (.int .i64 0), (.int .i64 0), .empty] b H' := ⟨_, _, rfl, rfl⟩
  replace h := h b2 H3 hb
  refine t_bs true 5 [(.int .i64 0), (.int .i64 0), (.int .i64 0), (.int .i64 0), .empty] [(0, 5, .loc 0), (5, 5, .loc 1)] 2 [(.agg [(.int .i64 2), (.int .i64 0), (.int .i64 0), (.int .i64 0), .empty]), (.agg [(.int .i64 2), (.int .i64 0), (.int .i64 0), (.int .i64 0), .empty])] [(.int .i64 2), (.int .i64 0), (.int .i64 0), (.int .i64 0), .empty, (.int .i64 2), (.int .i64 0), (.int .i64 0), (.int .i64 0), .empty] b2 H3 H1 (by kernel_rfl) (fill_c (vs := [(.int .i64 2), (.int .i64 0), (.int .i64 0), (.int .i64 0), .empty]) (size := 5) rfl (by kernel_rfl) (by kernel_rfl) (fill_c (vs := [(.int .i64 2), (.int .i64 0), (.int .i64 0), (.int .i64 0), .empty]) (size := 5) rfl (by kernel_rfl) (by kernel_rfl) (by kernel_rfl))) hb ?_
  obtain ⟨b4, H5, hb⟩ : ∃ b H', NewB H3 1 [(.slice b0 0 1 (some 1)), (.slice b2 0 2 (some 2))] b H' := ⟨_, _, rfl, rfl⟩
  replace h := h b4 H5 hb
  refine t_bs true 1 [.empty] [(0, 1, .loc 0), (1, 1, .loc 1)] 2 [(.slice b0 0 1 (some 1)), (.slice b2 0 2 (some 2))] [(.slice b0 0 1 (some 1)), (.slice b2 0 2 (some 2))] b4 H5 H3 (by kernel_rfl) (fill_c (vs := [(.slice b0 0 1 (some 1))]) (size := 1) rfl (by kernel_rfl) (by kernel_rfl) (fill_c (vs := [(.slice b2 0 2 (some 2))]) (size := 1) rfl (by kernel_rfl) (by kernel_rfl) (by kernel_rfl))) hb ?_
  refine t_done [(.bool false), (.slice b4 0 2 (some 2)), .undef, .undef, .undef, .undef, .undef] H5 (by kernel_rfl) ?_
  refine then_norm ?_
  refine w_seq ?_
  refine w_run [1, 0, 1, 0, 0, 0, 0, 1, 0, 0, 1] ?_
  obtain ⟨b6, H7, hb⟩ : ∃ b H', NewB H5 1 [(.int .i64 1)] b H' := ⟨_, _, rfl, rfl⟩
  replace h := h b6 H7 hb
  refine t_bs true 1 [(.int .i64 0)] [(0, 1, .loc 0)] 1 [(.int .i64 1)] [(.int .i64 1)] b6 H7 H5 (by kernel_rfl) (fill_c (vs := [(.int .i64 1)]) (size := 1) rfl (by kernel_rfl) (by kernel_rfl) (by kernel_rfl)) hb ?_
  refine t_call true ndeadline_Run [(.slice b6 0 1 (some 1)), (.slice b4 0 2 (some 2)), (.int .i64 3)] H7 (by kernel_rfl) h ?_
  clear h
  rintro _ H12 ⟨r8, r9, r10, r11, rfl, h⟩
  obtain ⟨H14, hb⟩ : ∃ H', Dead1 H12 1 H' := ⟨_, ⟨rfl⟩⟩
  replace h := h H14 hb
  refine t_tomb true 1 (.agg [(.int .i64 0), (.int .i64 0)]) [(.int .i64 0), (.int .i64 0)] H14 H12 (by kernel_rfl) rfl hb ?_
  refine t_upd true 2 0 [(.int .i64 0), (.int .i64 0)] (.agg [(.int .i64 r10), (.int .i64 r11)]) [(.int .i64 r10), (.int .i64 r11)] [(.int .i64 r10), (.int .i64 r11)] H14 (by kernel_rfl) rfl (all_c rfl (all_c rfl all_n)) ⟨rfl, Nat.le_of_ble_eq_true (by kernel_rfl), rfl⟩ ?_
  refine t_done [(.bool false), (.slice b4 0 2 (some 2)), (.agg [(.int .i64 r10), (.int .i64 r11)]), .undef, r8, r9, .undef] H14 (by kernel_rfl) ?_
  refine then_norm ?_
  refine w_seq ?_
  refine w_run [1, 0, 1, 0, 0, 0, 1, 0, 1] ?_
  obtain ⟨b15, H16, hb⟩ : ∃ b H', NewB H14 1 [(.int .i64 1)] b H' := ⟨_, _, rfl, rfl⟩
  replace h := h b15 H16 hb
  refine t_bs true 1 [(.int .i64 0)] [(0, 1, .loc 0)] 1 [(.int .i64 1)] [(.int .i64 1)] b15 H16 H14 (by kernel_rfl) (fill_c (vs := [(.int .i64 1)]) (size := 1) rfl (by kernel_rfl) (by kernel_rfl) (by kernel_rfl)) hb ?_
  refine t_call true ndeadline_Stuck [(.slice b15 0 1 (some 1)), (.slice b4 0 2 (some 2))] H16 (by kernel_rfl) h ?_
  clear h
  rintro _ H20 ⟨r17, r18, r19, rfl, h⟩
  obtain ⟨H22, hb⟩ : ∃ H', Dead1 H20 1 H' := ⟨_, ⟨rfl⟩⟩
  replace h := h H22 hb
  refine t_tomb true 1 (.agg [(.int .i64 0), (.int .i64 0)]) [(.int .i64 0), (.int .i64 0)] H22 H20 (by kernel_rfl) rfl hb ?_
  refine t_upd true 2 0 [(.int .i64 0), (.int .i64 0)] (.agg [(.int .i64 r18), (.int .i64 r19)]) [(.int .i64 r18), (.int .i64 r19)] [(.int .i64 r18), (.int .i64 r19)] H22 (by kernel_rfl) rfl (all_c rfl (all_c rfl all_n)) ⟨rfl, Nat.le_of_ble_eq_true (by kernel_rfl), rfl⟩ ?_
  refine t_done [(.bool false), (.slice b4 0 2 (some 2)), (.agg [(.int .i64 r10), (.int .i64 r11)]), (.agg [(.int .i64 r18), (.int .i64 r19)]), r8, r9, r17] H22 (by kernel_rfl) ?_
  refine then_norm ?_
  refine w_seq ?_
  refine w_run [0, 0, 0, 0, 0, 0, 0, 0, 0, 0, 1, 1, 3, 3, 0, 0, 0, 3, 3, 0, 0, 0, 3, 3, 0, 0] ?_
  refine t_build true [(.int .i64 0), (.int .i64 0), (.int .i64 0), (.int .i64 0)] [(1, 1, .loc 0), (3, 1, .loc 1)] [(.int .i64 0), (.int .i64 5)] [(.int .i64 0), (.int .i64 0), (.int .i64 0), (.int .i64 5)] H22 (by kernel_rfl) (fill_c (vs := [(.int .i64 0)]) (size := 1) rfl (by kernel_rfl) (by kernel_rfl) (fill_c (vs := [(.int .i64 5)]) (size := 1) rfl (by kernel_rfl) (by kernel_rfl) (by kernel_rfl))) ?_
  refine t_build true [(.int .i64 0), (.int .i64 0), (.int .i64 0), (.int .i64 0)] [(1, 1, .loc 0), (3, 1, .loc 1)] [(.int .i64 1), (.int .i64 5)] [(.int .i64 0), (.int .i64 1), (.int .i64 0), (.int .i64 5)] H22 (by kernel_rfl) (fill_c (vs := [(.int .i64 1)]) (size := 1) rfl (by kernel_rfl) (by kernel_rfl) (fill_c (vs := [(.int .i64 5)]) (size := 1) rfl (by kernel_rfl) (by kernel_rfl) (by kernel_rfl))) ?_
  refine t_gd (((r10) == 0) && ((r18) == 0)) true (by kernel_rfl) (fun hc => ?_) (fun hc => ?_)
  · replace h := h.1 ((is_and is_eq is_eq).t hc)
    obtain ⟨b23, H24, hb⟩ : ∃ b H', NewB H22 4 [(.int .i64 0), (.int .i64 0), (.int .i64 0), (.int .i64 5), (.int .i64 0), (.int .i64 1), (.int .i64 0), (.int .i64 5)] b H' := ⟨_, _, rfl, rfl⟩
    replace h := h b23 H24 hb
    refine t_bs true 4 [(.int .i64 0), (.int .i64 0), (.int .i64 0), (.int .i64 0)] [(0, 4, .loc 0), (4, 4, .loc 1)] 2 [(.agg [(.int .i64 0), (.int .i64 0), (.int .i64 0), (.int .i64 5)]), (.agg [(.int .i64 0), (.int .i64 1), (.int .i64 0), (.int .i64 5)])] [(.int .i64 0), (.int .i64 0), (.int .i64 0), (.int .i64 5), (.int .i64 0), (.int .i64 1), (.int .i64 0), (.int .i64 5)] b23 H24 H22 (by kernel_rfl) (fill_c (vs := [(.int .i64 0), (.int .i64 0), (.int .i64 0), (.int .i64 5)]) (size := 4) rfl (by kernel_rfl) (by kernel_rfl) (fill_c (vs := [(.int .i64 0), (.int .i64 1), (.int .i64 0), (.int .i64 5)]) (size := 4) rfl (by kernel_rfl) (by kernel_rfl) (by kernel_rfl))) hb ?_
    refine t_gd true true (by kernel_rfl) (fun _ => ?_) (fun hn => by cases hn)
    refine t_call true nFEqualResults [r8, (.slice b23 0 2 (some 2))] H24 (by kernel_rfl) h ?_
    clear h
    rintro _ H26 ⟨r25, rfl, h⟩
    refine t_gd r25 true (by kernel_rfl) (fun hc => ?_) (fun hc => ?_)
    · replace h := h.1 (is_raw.t hc)
      obtain ⟨b28, H29, hb⟩ : ∃ b H', NewB H26 1 [(.int .i64 0), (.int .i64 1)] b H' := ⟨_, _, rfl, rfl⟩
      replace h := h b28 H29 hb
      refine t_bs true 1 [(.int .i64 0)] [(0, 1, .loc 0), (1, 1, .loc 1)] 2 [(.int .i64 0), (.int .i64 1)] [(.int .i64 0), (.int .i64 1)] b28 H29 H26 (by kernel_rfl) (fill_c (vs := [(.int .i64 0)]) (size := 1) rfl (by kernel_rfl) (by kernel_rfl) (fill_c (vs := [(.int .i64 1)]) (size := 1) rfl (by kernel_rfl) (by kernel_rfl) (by kernel_rfl))) hb ?_
      refine t_gd true true (by kernel_rfl) (fun _ => ?_) (fun hn => by cases hn)
      refine t_call true nFEqualInts [r9, (.slice b28 0 2 (some 2))] H29 (by kernel_rfl) h ?_
      clear h
      rintro _ H31 ⟨r30, rfl, h⟩
      refine t_gd r30 true (by kernel_rfl) (fun hc => ?_) (fun hc => ?_)
      · replace h := h.1 (is_raw.t hc)
        obtain ⟨b33, H34, hb⟩ : ∃ b H', NewB H31 1 [(.int .i64 1)] b H' := ⟨_, _, rfl, rfl⟩
        replace h := h b33 H34 hb
        refine t_bs true 1 [(.int .i64 0)] [(0, 1, .loc 0)] 1 [(.int .i64 1)] [(.int .i64 1)] b33 H34 H31 (by kernel_rfl) (fill_c (vs := [(.int .i64 1)]) (size := 1) rfl (by kernel_rfl) (by kernel_rfl) (by kernel_rfl)) hb ?_
        refine t_gd true true (by kernel_rfl) (fun _ => ?_) (fun hn => by cases hn)
        refine t_call true nFEqualInts [r17, (.slice b33 0 1 (some 1))] H34 (by kernel_rfl) h ?_
        clear h
        rintro _ H36 ⟨r35, rfl, h⟩
        refine t_done [(.bool r35), (.slice b4 0 2 (some 2)), (.agg [(.int .i64 r10), (.int .i64 r11)]), (.agg [(.int .i64 r18), (.int .i64 r19)]), r8, r9, r17] H36 (by kernel_rfl) ?_
        refine then_norm ?_
        refine w_ret ?_
        exact body_ret (vs := [(.bool r35)]) _ (by kernel_rfl) rfl h
      · replace h := h.2 (is_raw.f hc)
        refine t_gd false true (by kernel_rfl) (fun hn => by cases hn) (fun _ => ?_)
        refine t_done [(.bool false), (.slice b4 0 2 (some 2)), (.agg [(.int .i64 r10), (.int .i64 r11)]), (.agg [(.int .i64 r18), (.int .i64 r19)]), r8, r9, r17] H31 (by kernel_rfl) ?_
        refine then_norm ?_
        refine w_ret ?_
        exact body_ret (vs := [(.bool false)]) _ (by kernel_rfl) rfl h
    · replace h := h.2 (is_raw.f hc)
      refine t_gd false true (by kernel_rfl) (fun hn => by cases hn) (fun _ => ?_)
      refine t_gd false true (by kernel_rfl) (fun hn => by cases hn) (fun _ => ?_)
      refine t_gd false true (by kernel_rfl) (fun hn => by cases hn) (fun _ => ?_)
      refine t_done [(.bool false), (.slice b4 0 2 (some 2)), (.agg [(.int .i64 r10), (.int .i64 r11)]), (.agg [(.int .i64 r18), (.int .i64 r19)]), r8, r9, r17] H26 (by kernel_rfl) ?_
      refine then_norm ?_
      refine w_ret ?_
      exact body_ret (vs := [(.bool false)]) _ (by kernel_rfl) rfl h
  · replace h := h.2 ((is_and is_eq is_eq).f hc)
    refine t_gd false true (by kernel_rfl) (fun hn => by cases hn) (fun _ => ?_)
    refine t_gd false true (by kernel_rfl) (fun hn => by cases hn) (fun _ => ?_)
    refine t_gd false true (by kernel_rfl) (fun hn => by cases hn) (fun _ => ?_)
    refine t_gd false true (by kernel_rfl) (fun hn => by cases hn) (fun _ => ?_)
    refine t_gd false true (by kernel_rfl) (fun hn => by cases hn) (fun _ => ?_)
    refine t_done [(.bool false), (.slice b4 0 2 (some 2)), (.agg [(.int .i64 r10), (.int .i64 r11)]), (.agg [(.int .i64 r18), (.int .i64 r19)]), r8, r9, r17] H22 (by kernel_rfl) ?_
    refine then_norm ?_
    refine w_ret ?_
    exact body_ret (vs := [(.bool false)]) _ (by kernel_rfl) rfl h

def rf_Lsender : RFunc := ⟨3, 9, [.var 3],
 ((.seq (.ops [⟨.move (.k (.bool false)), none, (some 3), true⟩])
 ((.seq (.ops [⟨.move (.k (.int .i64 0)), none, (some 7), true⟩])
 ((.seq ((.seq (.ops [⟨.move (.k (.int .i64 0)), none, (some 4), true⟩])
 (.block 0 (.loop ((.seq ((.seq (.ops [⟨.move (.var 4), none, none, true⟩, ⟨.move (.var 2), none, none, true⟩, ⟨.bin .lss .no (.loc 0) (.loc 1), none, (some 5), true⟩])
 (.cond (.var 5) (.skip) (.exit 0))))
 ((.seq (.block 1 ((.seq (.ops [⟨.move (.var 1), none, none, false⟩, ⟨.move (.var 4), none, none, false⟩, ⟨.indexAddr 4 (.loc 0) (.loc 1), none, none, false⟩, ⟨.fieldAddr 1 (.loc 2), none, none, false⟩, ⟨.load none (.loc 3), none, none, false⟩, ⟨.move (.var 1), none, none, false⟩, ⟨.move (.var 2), none, none, false⟩, ⟨.indexAddr 4 (.loc 5) (.loc 6), none, none, false⟩, ⟨.fieldAddr 1 (.loc 7), none, none, false⟩, ⟨.load none (.loc 8), none, none, false⟩, ⟨.bin .eql .no (.loc 4) (.loc 9), none, (some 6), true⟩])
 (.cond (.var 6) (.ops [⟨.move (.var 7), none, none, true⟩, ⟨.bin .add .no (.loc 0) (.k (.int .i64 1)), none, none, true⟩, ⟨.move (.loc 1), none, (some 7), true⟩]) (.skip)))))
 (.ops [⟨.move (.var 4), none, none, true⟩, ⟨.bin .add .no (.loc 0) (.k (.int .i64 1)), none, none, true⟩, ⟨.move (.loc 1), none, (some 4), true⟩])))))))))
 ((.seq (.ops [⟨.move (.var 1), none, none, true⟩, ⟨.move (.var 2), none, none, true⟩, ⟨.indexAddr 4 (.loc 0) (.loc 1), none, none, true⟩, ⟨.fieldAddr 1 (.loc 2), none, none, true⟩, ⟨.load none (.loc 3), none, none, true⟩, ⟨.move (.loc 4), none, (some 8), true⟩])
 ((.seq (.ops [⟨.move (.var 8), none, none, true⟩, ⟨.bin .geq .no (.loc 0) (.k (.int .i64 0)), none, none, true⟩, ⟨.move (.loc 1), none, none, true⟩, ⟨.move (.var 8), none, none, true⟩, ⟨.move (.var 0), none, none, true⟩, ⟨.len (.loc 4), none, none, true⟩, ⟨.bin .lss .no (.loc 3) (.loc 5), none, none, true⟩, ⟨.pick (.loc 2) (.loc 6) (.k (.bool false)), none, none, true⟩, ⟨.move (.loc 7), none, none, true⟩, ⟨.move (.var 7), none, none, true⟩, ⟨.move (.var 0), none, none, true⟩, ⟨.move (.var 8), none, none, true⟩, ⟨.indexAddr 1 (.loc 10) (.loc 11), (some (8, true)), none, true⟩, ⟨.load none (.loc 12), (some (8, true)), none, true⟩, ⟨.len (.loc 13), (some (8, true)), none, true⟩, ⟨.bin .lss .no (.loc 9) (.loc 14), (some (8, true)), none, true⟩, ⟨.pick (.loc 8) (.loc 15) (.k (.bool false)), none, none, true⟩, ⟨.move (.loc 16), none, none, true⟩, ⟨.move (.var 0), none, none, true⟩, ⟨.move (.var 8), none, none, true⟩, ⟨.indexAddr 1 (.loc 18) (.loc 19), (some (17, true)), none, true⟩, ⟨.load none (.loc 20), (some (17, true)), none, true⟩, ⟨.move (.var 7), none, none, true⟩, ⟨.indexAddr 5 (.loc 21) (.loc 22), (some (17, true)), none, true⟩, ⟨.fieldAddr 0 (.loc 23), (some (17, true)), none, true⟩, ⟨.load none (.loc 24), (some (17, true)), none, true⟩, ⟨.bin .eql .no (.loc 25) (.k (.int .i64 1)), (some (17, true)), none, true⟩, ⟨.pick (.loc 17) (.loc 26) (.k (.bool false)), none, none, true⟩, ⟨.move (.loc 27), none, (some 3), true⟩])
 (.ret))))))))))), none⟩
theorem v_Lsender {F : Nat → Option RFunc} {me : Nat} (hF : F me = some (rf_Lsender )) {fl : Nat} {H : Heap} {Q : AV → Heap → Prop} (scripts0 : AV) (l1 : AV) (i2 : Int)
  (h : ∃ (J3 : Nat → Int → Int → Prop) (k4 : Nat), J3 k4 0 0 ∧ (∀ (m5 : Nat) (k6 : Int) (n9 : Int), J3 m5 k6 n9 → ((k6 < i2) → ∃ (e10 : Int), getA H 4 none l1 k6 1 = some (.int .i64 e10) ∧ ∃ (e12 : Int), getA H 4 none l1 i2 1 = some (.int .i64 e12) ∧ ((e10 = e12) → ∃ m14 : Nat, m14 < m5 ∧ J3 m14 (IntKind.wrap .i64 (k6 + 1)) (IntKind.wrap .i64 (n9 + 1))) ∧ (¬(e10 = e12) → ∃ m15 : Nat, m15 < m5 ∧ J3 m15 (IntKind.wrap .i64 (k6 + 1)) n9)) ∧ (¬(k6 < i2) → ∃ (e16 : Int), getA H 4 none l1 i2 1 = some (.int .i64 e16) ∧ ∃ len18 : Nat, lenA scripts0 = some len18 ∧ ((((e16 ≥ 0) ∧ (e16 < (len18 : Int)))) → ∃ (e19 : AV), getA H 1 none scripts0 e16 0 = some e19 ∧ ∃ len21 : Nat, lenA e19 = some len21 ∧ ((n9 < (len21 : Int)) → ∃ (e22 : AV), getA H 1 none scripts0 e16 0 = some e22 ∧ ∃ (e24 : Int), getA H 5 none e22 n9 0 = some (.int .i64 e24) ∧ Q (.bool ((e24) == 1)) H) ∧ (¬(n9 < (len21 : Int)) → Q (.bool false) H)) ∧ (¬(((e16 ≥ 0) ∧ (e16 < (len18 : Int)))) → Q (.bool false) H)))) : Ret F fl me [scripts0, l1, (.int .i64 i2)] H Q := by
  refine ret_intro hF rfl ?_
  refine w_seq ?_
  refine w_run [0] ?_
  refine t_done [scripts0, l1, (.int .i64 i2), (.bool false), .undef, .undef, .undef, .undef, .undef] H (by kernel_rfl) ?_
  refine then_norm ?_
  refine w_seq ?_
  refine w_run [0] ?_
  refine t_done [scripts0, l1, (.int .i64 i2), (.bool false), .undef, .undef, .undef, (.int .i64 0), .undef] H (by kernel_rfl) ?_
  refine then_norm ?_
  refine w_seq ?_
  refine w_seq ?_
  refine w_run [0] ?_
  refine t_done [scripts0, l1, (.int .i64 i2), (.bool false), (.int .i64 0), .undef, .undef, (.int .i64 0), .undef] H (by kernel_rfl) ?_
  refine then_norm ?_
  refine w_block ?_
  obtain ⟨J3, k4, h0, h⟩ := h
  refine w_loop (I := fun mI EI HI => ∃ (k6 : Int) (d7 : AV) (d8 : AV) (n9 : Int), EI = [scripts0, l1, (.int .i64 i2), (.bool false), (.int .i64 k6), d7, d8, (.int .i64 n9), .undef] ∧ H = HI ∧ J3 mI k6 n9) ?_ k4 ⟨_, _, _, _, rfl, rfl, h0⟩
  clear h0
  rintro m5 EI HI ⟨k6, d7, d8, n9, rfl, rfl, hJ⟩
  replace h := h m5 k6 n9  hJ
  clear hJ
  refine w_seq ?_
  refine w_seq ?_
  refine w_run [0, 0, 0] ?_
  refine t_done [scripts0, l1, (.int .i64 i2), (.bool false), (.int .i64 k6), (.bool (decide (k6 < i2))), d8, (.int .i64 n9), .undef] H (by kernel_rfl) ?_
  refine then_norm ?_
  refine w_cond (t := (decide (k6 < i2))) rfl (fun hc => ?_) (fun hc => ?_)
  · replace h := h.1 (is_dec.t hc)
    refine w_skip ?_
    refine then_norm ?_
    refine w_seq ?_
    refine w_block ?_
    refine w_seq ?_
    refine w_run [0, 0, 1, 1, 1, 0, 0, 1, 1, 1, 0] ?_
    obtain ⟨e10, hg11, h⟩ := h
    refine t_idxG false 4 l1 .i64 k6 H (by kernel_rfl) hg11 ?_
    refine t_fldG false 1 4 l1 k6 0 H (by kernel_rfl) hg11 ?_
    refine t_loadG false none 4 l1 k6 1 (.int .i64 e10) H (by kernel_rfl) hg11 ?_
    obtain ⟨e12, hg13, h⟩ := h
    refine t_idxG false 4 l1 .i64 i2 H (by kernel_rfl) hg13 ?_
    refine t_fldG false 1 4 l1 i2 0 H (by kernel_rfl) hg13 ?_
    refine t_loadG false none 4 l1 i2 1 (.int .i64 e12) H (by kernel_rfl) hg13 ?_
    refine t_done [scripts0, l1, (.int .i64 i2), (.bool false), (.int .i64 k6), (.bool (decide (k6 < i2))), (.bool ((e10) == e12)), (.int .i64 n9), .undef] H (by kernel_rfl) ?_
    refine then_norm ?_
    refine w_cond (t := ((e10) == e12)) rfl (fun hc => ?_) (fun hc => ?_)
    · replace h := h.1 (is_eq.t hc)
      refine w_run [0, 0, 0] ?_
      refine t_done [scripts0, l1, (.int .i64 i2), (.bool false), (.int .i64 k6), (.bool (decide (k6 < i2))), (.bool ((e10) == e12)), (.int .i64 (IntKind.wrap .i64 (n9 + 1))), .undef] H (by kernel_rfl) ?_
      refine block_norm ?_
      refine then_norm ?_
      refine w_run [0, 0, 0] ?_
      refine t_done [scripts0, l1, (.int .i64 i2), (.bool false), (.int .i64 (IntKind.wrap .i64 (k6 + 1))), (.bool (decide (k6 < i2))), (.bool ((e10) == e12)), (.int .i64 (IntKind.wrap .i64 (n9 + 1))), .undef] H (by kernel_rfl) ?_
      obtain ⟨m', hm, h⟩ := h
      refine loop_norm ⟨m', hm, _, _, _, _, rfl, rfl, h⟩
    · replace h := h.2 (is_eq.f hc)
      refine w_skip ?_
      refine block_norm ?_
      refine then_norm ?_
      refine w_run [0, 0, 0] ?_
      refine t_done [scripts0, l1, (.int .i64 i2), (.bool false), (.int .i64 (IntKind.wrap .i64 (k6 + 1))), (.bool (decide (k6 < i2))), (.bool ((e10) == e12)), (.int .i64 n9), .undef] H (by kernel_rfl) ?_
      obtain ⟨m', hm, h⟩ := h
      refine loop_norm ⟨m', hm, _, _, _, _, rfl, rfl, h⟩
  · replace h := h.2 (is_dec.f hc)
    refine w_exit ?_
    refine then_exit ?_
    refine loop_exit ?_
    refine block_exit ?_
    refine then_norm ?_
    refine w_seq ?_
    refine w_run [0, 0, 1, 1, 1, 0] ?_
    obtain ⟨e16, hg17, h⟩ := h
    refine t_idxG true 4 l1 .i64 i2 H (by kernel_rfl) hg17 ?_
    refine t_fldG true 1 4 l1 i2 0 H (by kernel_rfl) hg17 ?_
    refine t_loadG true none 4 l1 i2 1 (.int .i64 e16) H (by kernel_rfl) hg17 ?_
    refine t_done [scripts0, l1, (.int .i64 i2), (.bool false), (.int .i64 k6), (.bool (decide (k6 < i2))), d8, (.int .i64 n9), (.int .i64 e16)] H (by kernel_rfl) ?_
    refine then_norm ?_
    refine w_seq ?_
    refine w_run [0, 0, 0, 0, 0, 1, 0, 0, 0, 0, 0, 0, 3, 3, 3, 2, 0, 0, 0, 0, 3, 3, 0, 3, 3, 3, 2, 0, 0] ?_
    obtain ⟨len18, hl, h⟩ := h
    refine t_len true scripts0 len18 H (by kernel_rfl) hl ?_
    refine t_gd ((decide (e16 ≥ 0)) && (decide (e16 < (len18 : Int)))) true (by kernel_rfl) (fun hc => ?_) (fun hc => ?_)
    · replace h := h.1 ((is_and is_dec is_dec).t hc)
      obtain ⟨e19, hg20, h⟩ := h
      refine t_idxG true 1 scripts0 .i64 e16 H (by kernel_rfl) hg20 ?_
      refine t_gd true true (by kernel_rfl) (fun _ => ?_) (fun hn => by cases hn)
      refine t_loadG true none 1 scripts0 e16 0 e19 H (by kernel_rfl) hg20 ?_
      refine t_gd true true (by kernel_rfl) (fun _ => ?_) (fun hn => by cases hn)
      obtain ⟨len21, hl, h⟩ := h
      refine t_len true e19 len21 H (by kernel_rfl) hl ?_
      refine t_gd true true (by kernel_rfl) (fun _ => ?_) (fun hn => by cases hn)
      refine t_gd (decide (n9 < (len21 : Int))) true (by kernel_rfl) (fun hc => ?_) (fun hc => ?_)
      · replace h := h.1 (is_dec.t hc)
        obtain ⟨e22, hg23, h⟩ := h
        refine t_idxG true 1 scripts0 .i64 e16 H (by kernel_rfl) hg23 ?_
        refine t_gd true true (by kernel_rfl) (fun _ => ?_) (fun hn => by cases hn)
        refine t_loadG true none 1 scripts0 e16 0 e22 H (by kernel_rfl) hg23 ?_
        refine t_gd true true (by kernel_rfl) (fun _ => ?_) (fun hn => by cases hn)
        obtain ⟨e24, hg25, h⟩ := h
        refine t_idxG true 5 e22 .i64 n9 H (by kernel_rfl) hg25 ?_
        refine t_gd true true (by kernel_rfl) (fun _ => ?_) (fun hn => by cases hn)
        refine t_fldG true 0 5 e22 n9 0 H (by kernel_rfl) hg25 ?_
        refine t_gd true true (by kernel_rfl) (fun _ => ?_) (fun hn => by cases hn)
        refine t_loadG true none 5 e22 n9 0 (.int .i64 e24) H (by kernel_rfl) hg25 ?_
        refine t_gd true true (by kernel_rfl) (fun _ => ?_) (fun hn => by cases hn)
        refine t_done [scripts0, l1, (.int .i64 i2), (.bool ((e24) == 1)), (.int .i64 k6), (.bool (decide (k6 < i2))), d8, (.int .i64 n9), (.int .i64 e16)] H (by kernel_rfl) ?_
        refine then_norm ?_
        refine w_ret ?_
        exact body_ret (vs := [(.bool ((e24) == 1))]) _ (by kernel_rfl) rfl h
      · replace h := h.2 (is_dec.f hc)
        refine t_gd false true (by kernel_rfl) (fun hn => by cases hn) (fun _ => ?_)
        refine t_gd false true (by kernel_rfl) (fun hn => by cases hn) (fun _ => ?_)
        refine t_gd false true (by kernel_rfl) (fun hn => by cases hn) (fun _ => ?_)
        refine t_gd false true (by kernel_rfl) (fun hn => by cases hn) (fun _ => ?_)
        refine t_gd false true (by kernel_rfl) (fun hn => by cases hn) (fun _ => ?_)
        refine t_done [scripts0, l1, (.int .i64 i2), (.bool false), (.int .i64 k6), (.bool (decide (k6 < i2))), d8, (.int .i64 n9), (.int .i64 e16)] H (by kernel_rfl) ?_
        refine then_norm ?_
        refine w_ret ?_
        exact body_ret (vs := [(.bool false)]) _ (by kernel_rfl) rfl h
    · replace h := h.2 ((is_and is_dec is_dec).f hc)
      refine t_gd false true (by kernel_rfl) (fun hn => by cases hn) (fun _ => ?_)
      refine t_gd false true (by kernel_rfl) (fun hn => by cases hn) (fun _ => ?_)
      refine t_gd false true (by kernel_rfl) (fun hn => by cases hn) (fun _ => ?_)
      refine t_gd false true (by kernel_rfl) (fun hn => by cases hn) (fun _ => ?_)
      refine t_gd false true (by kernel_rfl) (fun hn => by cases hn) (fun _ => ?_)
      refine t_gd false true (by kernel_rfl) (fun hn => by cases hn) (fun _ => ?_)
      refine t_gd false true (by kernel_rfl) (fun hn => by cases hn) (fun _ => ?_)
      refine t_gd false true (by kernel_rfl) (fun hn => by cases hn) (fun _ => ?_)
      refine t_gd false true (by kernel_rfl) (fun hn => by cases hn) (fun _ => ?_)
      refine t_done [scripts0, l1, (.int .i64 i2), (.bool false), (.int .i64 k6), (.bool (decide (k6 < i2))), d8, (.int .i64 n9), (.int .i64 e16)] H (by kernel_rfl) ?_
      refine then_norm ?_
      refine w_ret ?_
      exact body_ret (vs := [(.bool false)]) _ (by kernel_rfl) rfl h

def rf_LDeadlineFunctionsMatchSpec (nFProcessesFault ndeadline_Run ndeadline_Stuck nLdeadlineExample ndeadline_Validate nFSimulate nFWorld_Left nFEqualInts nFFault nFEqualResults : Nat) : RFunc := ⟨3, 20, [.var 3],
 ((.seq (.ops [⟨.move (.k (.bool false)), none, (some 3), true⟩])
 ((.seq (.ops [⟨.move (.var 0), none, none, true⟩, ⟨.move (.var 1), none, none, true⟩, ⟨.callS nFProcessesFault [(.loc 0), (.loc 1)], none, none, true⟩, ⟨.tomb 1 (.k (.agg [.int .i64 0, .int .i64 0])), none, (some 4), true⟩, ⟨.upd 2 0 (.loc 3) (.loc 2), none, (some 4), true⟩])
 ((.seq (.ops [⟨.move (.var 0), none, none, true⟩, ⟨.move (.var 1), none, none, true⟩, ⟨.move (.var 2), none, none, true⟩, ⟨.callS ndeadline_Run [(.loc 0), (.loc 1), (.loc 2)], none, none, true⟩, ⟨.move (.loc 3), none, none, true⟩, ⟨.extract (.loc 4) 0, none, none, true⟩, ⟨.extract (.loc 4) 1, none, none, true⟩, ⟨.extract (.loc 4) 2, none, none, true⟩, ⟨.tomb 1 (.k (.agg [.int .i64 0, .int .i64 0])), none, (some 7), true⟩, ⟨.move (.loc 5), none, (some 9), true⟩, ⟨.move (.loc 6), none, (some 10), true⟩, ⟨.upd 2 0 (.loc 8) (.loc 7), none, (some 7), true⟩])
 ((.seq (.ops [⟨.move (.var 0), none, none, true⟩, ⟨.move (.var 1), none, none, true⟩, ⟨.callS ndeadline_Stuck [(.loc 0), (.loc 1)], none, none, true⟩, ⟨.move (.loc 2), none, none, true⟩, ⟨.extract (.loc 3) 0, none, none, true⟩, ⟨.extract (.loc 3) 1, none, none, true⟩, ⟨.tomb 1 (.k (.agg [.int .i64 0, .int .i64 0])), none, (some 8), true⟩, ⟨.move (.loc 4), none, (some 11), true⟩, ⟨.upd 2 0 (.loc 6) (.loc 5), none, (some 8), true⟩])
 ((.seq ((.seq (.ops [⟨.callS nLdeadlineExample [], none, none, true⟩, ⟨.un .not (.loc 0), none, none, true⟩, ⟨.move (.loc 1), none, none, true⟩, ⟨.move (.var 0), none, none, false⟩, ⟨.move (.var 1), none, none, false⟩, ⟨.callS ndeadline_Validate [(.loc 3), (.loc 4)], (some (2, false)), none, false⟩, ⟨.field 0 (some 2) (.var 4), none, none, false⟩, ⟨.bin .neq (.agg [.int, .int]) (.loc 5) (.loc 6), (some (2, false)), none, true⟩, ⟨.pick (.loc 2) (.k (.bool true)) (.loc 7), none, (some 5), true⟩])
 (.cond (.var 5) ((.seq (.ops [⟨.move (.k (.bool false)), none, (some 3), true⟩])
 (.ret))) (.skip))))
 ((.seq ((.seq (.ops [⟨.field 0 none (.var 4), none, none, true⟩, ⟨.field 0 none (.var 4), none, none, true⟩, ⟨.bin .neq .no (.loc 1) (.k (.int .i64 0)), none, (some 6), true⟩])
 (.cond (.var 6) ((.seq (.ops [⟨.field 0 (some 2) (.var 7), none, none, true⟩, ⟨.field 0 (some 2) (.var 4), none, none, true⟩, ⟨.bin .eql (.agg [.int, .int]) (.loc 0) (.loc 1), none, none, true⟩, ⟨.move (.loc 2), none, none, true⟩, ⟨.field 0 (some 2) (.var 8), none, none, true⟩, ⟨.field 0 (some 2) (.var 4), none, none, true⟩, ⟨.bin .eql (.agg [.int, .int]) (.loc 4) (.loc 5), none, none, true⟩, ⟨.pick (.loc 3) (.loc 6) (.k (.bool false)), none, none, true⟩, ⟨.move (.loc 7), none, none, true⟩, ⟨.move (.var 9), none, none, true⟩, ⟨.len (.loc 9), none, none, true⟩, ⟨.bin .eql .no (.loc 10) (.k (.int .i64 0)), none, none, true⟩, ⟨.pick (.loc 8) (.loc 11) (.k (.bool false)), none, none, true⟩, ⟨.move (.loc 12), none, none, true⟩, ⟨.move (.var 10), none, none, true⟩, ⟨.len (.loc 14), none, none, true⟩, ⟨.bin .eql .no (.loc 15) (.k (.int .i64 0)), none, none, true⟩, ⟨.pick (.loc 13) (.loc 16) (.k (.bool false)), none, none, true⟩, ⟨.move (.loc 17), none, none, true⟩, ⟨.move (.var 11), none, none, true⟩, ⟨.len (.loc 19), none, none, true⟩, ⟨.bin .eql .no (.loc 20) (.k (.int .i64 0)), none, none, true⟩, ⟨.pick (.loc 18) (.loc 21) (.k (.bool false)), none, none, true⟩, ⟨.move (.loc 22), none, (some 3), true⟩])
 (.ret))) (.skip))))
 ((.seq (.ops [⟨.move (.k (.empty)), none, (some 16), true⟩])
 ((.seq (.ops [⟨.move (.var 0), none, none, true⟩, ⟨.move (.var 1), none, none, true⟩, ⟨.callS nFSimulate [(.loc 0), (.loc 1), (.k (.int .i64 2600))], none, none, true⟩, ⟨.callS nFWorld_Left [(.loc 2)], none, none, true⟩, ⟨.move (.loc 3), none, (some 13), true⟩])
 ((.seq ((.seq (.ops [⟨.move (.k (.int .i64 0)), none, (some 12), true⟩])
 (.block 0 (.loop ((.seq ((.seq (.ops [⟨.move (.var 12), none, none, true⟩, ⟨.move (.var 13), none, none, true⟩, ⟨.len (.loc 1), none, none, true⟩, ⟨.bin .lss .no (.loc 0) (.loc 2), none, (some 14), true⟩])
 (.cond (.var 14) (.skip) (.exit 0))))
 ((.seq (.block 1 ((.seq (.ops [⟨.move (.var 13), none, none, true⟩, ⟨.move (.var 12), none, none, true⟩, ⟨.indexAddr 1 (.loc 0) (.loc 1), none, none, true⟩, ⟨.load none (.loc 2), none, none, true⟩, ⟨.bin .gtr .no (.loc 3) (.k (.int .i64 0)), none, (some 15), true⟩])
 (.cond (.var 15) (.ops [⟨.move (.var 16), none, none, true⟩, ⟨.move (.var 12), none, none, true⟩, ⟨.buildSlice 1 [.int .i64 0] [(0, 1, (.loc 1))] 1, none, none, true⟩, ⟨.append 1 8 (.loc 0) (.loc 2), none, none, true⟩, ⟨.move (.loc 3), none, (some 16), true⟩]) (.skip)))))
 (.ops [⟨.move (.var 12), none, none, true⟩, ⟨.bin .add .no (.loc 0) (.k (.int .i64 1)), none, none, true⟩, ⟨.move (.loc 1), none, (some 12), true⟩])))))))))
 ((.seq ((.seq (.ops [⟨.field 0 none (.var 8), none, none, true⟩, ⟨.field 0 none (.var 8), none, none, true⟩, ⟨.bin .neq .no (.loc 1) (.k (.int .i64 0)), none, none, true⟩, ⟨.move (.loc 2), none, none, true⟩, ⟨.move (.var 11), none, none, true⟩, ⟨.move (.var 16), none, none, true⟩, ⟨.callS nFEqualInts [(.loc 4), (.loc 5)], (some (3, false)), none, true⟩, ⟨.un .not (.loc 6), (some (3, false)), none, true⟩, ⟨.pick (.loc 3) (.k (.bool true)) (.loc 7), none, (some 17), true⟩])
 (.cond (.var 17) ((.seq (.ops [⟨.move (.k (.bool false)), none, (some 3), true⟩])
 (.ret))) (.skip))))
 ((.seq ((.seq (.ops [⟨.move (.var 2), none, none, true⟩, ⟨.bin .lss .no (.loc 0) (.k (.int .i64 0)), none, none, true⟩, ⟨.move (.loc 1), none, none, true⟩, ⟨.move (.var 2), none, none, true⟩, ⟨.bin .gtr .no (.loc 3) (.k (.int .i64 60)), none, none, true⟩, ⟨.pick (.loc 2) (.k (.bool true)) (.loc 4), none, (some 18), true⟩])
 (.cond (.var 18) ((.seq (.ops [⟨.field 0 (some 2) (.var 7), none, none, false⟩, ⟨.callS nFFault [(.k (.int .i64 3)), (.k (.int .i64 (-20)))], none, none, false⟩, ⟨.bin .eql (.agg [.int, .int]) (.loc 0) (.loc 1), none, none, true⟩, ⟨.move (.loc 2), none, none, true⟩, ⟨.move (.var 9), none, none, true⟩, ⟨.len (.loc 4), none, none, true⟩, ⟨.bin .eql .no (.loc 5) (.k (.int .i64 0)), none, none, true⟩, ⟨.pick (.loc 3) (.loc 6) (.k (.bool false)), none, none, true⟩, ⟨.move (.loc 7), none, none, true⟩, ⟨.move (.var 10), none, none, true⟩, ⟨.len (.loc 9), none, none, true⟩, ⟨.bin .eql .no (.loc 10) (.k (.int .i64 0)), none, none, true⟩, ⟨.pick (.loc 8) (.loc 11) (.k (.bool false)), none, none, true⟩, ⟨.move (.loc 12), none, (some 3), true⟩])
 (.ret))) (.skip))))
 ((.seq (.ops [⟨.move (.var 0), none, none, true⟩, ⟨.move (.var 1), none, none, true⟩, ⟨.move (.var 2), none, none, true⟩, ⟨.callS nFSimulate [(.loc 0), (.loc 1), (.loc 2)], none, none, true⟩, ⟨.move (.loc 3), none, (some 19), true⟩])
 ((.seq (.ops [⟨.field 0 none (.var 7), none, none, true⟩, ⟨.field 0 none (.var 7), none, none, true⟩, ⟨.bin .eql .no (.loc 1) (.k (.int .i64 0)), none, none, true⟩, ⟨.move (.loc 2), none, none, true⟩, ⟨.move (.var 9), none, none, true⟩, ⟨.move (.var 19), none, none, true⟩, ⟨.nilCheck (.loc 5), (some (3, true)), none, true⟩, ⟨.fieldAddr 26 (.loc 6), (some (3, true)), none, true⟩, ⟨.load none (.loc 7), (some (3, true)), none, true⟩, ⟨.callS nFEqualResults [(.loc 4), (.loc 8)], (some (3, true)), none, true⟩, ⟨.pick (.loc 3) (.loc 9) (.k (.bool false)), none, none, true⟩, ⟨.move (.loc 10), none, none, true⟩, ⟨.move (.var 10), none, none, true⟩, ⟨.move (.var 19), none, none, true⟩, ⟨.callS nFWorld_Left [(.loc 13)], (some (11, true)), none, true⟩, ⟨.callS nFEqualInts [(.loc 12), (.loc 14)], (some (11, true)), none, true⟩, ⟨.pick (.loc 11) (.loc 15) (.k (.bool false)), none, none, true⟩, ⟨.move (.loc 16), none, (some 3), true⟩])
 (.ret))))))))))))))))))))))))))), none⟩
def rf_LDeadlineChannelsAreQueues (ndeadline_Run nLdeadlineExample nLsender : Nat) : RFunc := ⟨3, 16, [.var 3],
 ((.seq (.ops [⟨.move (.k (.bool false)), none, (some 3), true⟩])
 ((.seq (.ops [⟨.move (.var 0), none, none, true⟩, ⟨.move (.var 1), none, none, true⟩, ⟨.move (.var 2), none, none, true⟩, ⟨.callS ndeadline_Run [(.loc 0), (.loc 1), (.loc 2)], none, none, true⟩, ⟨.move (.loc 3), none, none, true⟩, ⟨.extract (.loc 4) 0, none, none, true⟩, ⟨.extract (.loc 4) 1, none, none, true⟩, ⟨.extract (.loc 4) 2, none, none, true⟩, ⟨.tomb 1 (.k (.agg [.int .i64 0, .int .i64 0])), none, (some 5), true⟩, ⟨.move (.loc 5), none, (some 9), true⟩, ⟨.move (.loc 6), none, none, true⟩, ⟨.upd 2 0 (.loc 8) (.loc 7), none, (some 5), true⟩])
 ((.seq ((.seq (.ops [⟨.callS nLdeadlineExample [], none, none, true⟩, ⟨.un .not (.loc 0), none, (some 4), true⟩])
 (.cond (.var 4) ((.seq (.ops [⟨.move (.k (.bool false)), none, (some 3), true⟩])
 (.ret))) (.skip))))
 ((.seq ((.seq (.ops [⟨.move (.k (.int .i64 0)), none, (some 6), true⟩])
 (.block 0 (.loop ((.seq ((.seq (.ops [⟨.field 0 none (.var 5), none, none, true⟩, ⟨.field 0 none (.var 5), none, none, true⟩, ⟨.bin .eql .no (.loc 1) (.k (.int .i64 0)), none, none, true⟩, ⟨.move (.loc 2), none, none, true⟩, ⟨.move (.var 6), none, none, true⟩, ⟨.move (.var 0), none, none, true⟩, ⟨.len (.loc 5), none, none, true⟩, ⟨.bin .lss .no (.loc 4) (.loc 6), none, none, true⟩, ⟨.pick (.loc 3) (.loc 7) (.k (.bool false)), none, (some 7), true⟩])
 (.cond (.var 7) (.skip) (.exit 0))))
 ((.seq (.block 1 ((.seq (.ops [⟨.move (.k (.empty)), none, (some 13), true⟩])
 ((.seq (.ops [⟨.move (.k (.int .i64 0)), none, (some 8), true⟩])
 (.block 2 (.loop ((.seq ((.seq (.ops [⟨.move (.var 8), none, none, true⟩, ⟨.move (.var 9), none, none, true⟩, ⟨.len (.loc 1), none, none, true⟩, ⟨.bin .lss .no (.loc 0) (.loc 2), none, (some 10), true⟩])
 (.cond (.var 10) (.skip) (.exit 2))))
 ((.seq (.block 3 ((.seq ((.seq (.ops [⟨.move (.var 9), none, none, true⟩, ⟨.move (.var 8), none, none, true⟩, ⟨.indexAddr 4 (.loc 0) (.loc 1), none, none, true⟩, ⟨.fieldAddr 2 (.loc 2), none, none, true⟩, ⟨.load none (.loc 3), none, none, true⟩, ⟨.move (.var 6), none, none, true⟩, ⟨.bin .neq .no (.loc 4) (.loc 5), none, (some 11), true⟩])
 (.cond (.var 11) (.exit 3) (.skip))))
 ((.seq ((.seq (.ops [⟨.move (.var 1), none, none, true⟩, ⟨.move (.var 9), none, none, true⟩, ⟨.move (.var 8), none, none, true⟩, ⟨.callS nLsender [(.loc 0), (.loc 1), (.loc 2)], none, (some 12), true⟩])
 (.cond (.var 12) ((.seq (.ops [⟨.move (.var 13), none, none, true⟩, ⟨.move (.var 9), none, none, true⟩, ⟨.move (.var 8), none, none, true⟩, ⟨.indexAddr 4 (.loc 1) (.loc 2), none, none, true⟩, ⟨.fieldAddr 3 (.loc 3), none, none, true⟩, ⟨.load none (.loc 4), none, none, true⟩, ⟨.buildSlice 1 [.int .i64 0] [(0, 1, (.loc 5))] 1, none, none, true⟩, ⟨.append 1 8 (.loc 0) (.loc 6), none, none, true⟩, ⟨.move (.loc 7), none, (some 13), true⟩])
 ((.seq ((.seq (.ops [⟨.move (.var 13), none, none, true⟩, ⟨.len (.loc 0), none, none, true⟩, ⟨.move (.var 0), none, none, true⟩, ⟨.move (.var 6), none, none, true⟩, ⟨.indexAddr 1 (.loc 2) (.loc 3), none, none, true⟩, ⟨.load none (.loc 4), none, none, true⟩, ⟨.bin .gtr .no (.loc 1) (.loc 5), none, (some 14), true⟩])
 (.cond (.var 14) ((.seq (.ops [⟨.move (.k (.bool false)), none, (some 3), true⟩])
 (.ret))) (.skip))))
 (.exit 3))))) (.skip))))
 ((.seq ((.seq (.ops [⟨.move (.var 13), none, none, true⟩, ⟨.len (.loc 0), none, none, true⟩, ⟨.bin .eql .no (.loc 1) (.k (.int .i64 0)), none, none, true⟩, ⟨.move (.loc 2), none, none, true⟩, ⟨.move (.var 13), none, none, false⟩, ⟨.indexAddr 1 (.loc 4) (.k (.int .i64 0)), (some (3, false)), none, false⟩, ⟨.load none (.loc 5), (some (3, false)), none, false⟩, ⟨.move (.var 9), none, none, false⟩, ⟨.move (.var 8), none, none, false⟩, ⟨.indexAddr 4 (.loc 7) (.loc 8), (some (3, false)), none, false⟩, ⟨.fieldAddr 3 (.loc 9), (some (3, false)), none, false⟩, ⟨.load none (.loc 10), (some (3, false)), none, false⟩, ⟨.bin .neq .no (.loc 6) (.loc 11), (some (3, false)), none, true⟩, ⟨.pick (.loc 3) (.k (.bool true)) (.loc 12), none, (some 15), true⟩])
 (.cond (.var 15) ((.seq (.ops [⟨.move (.k (.bool false)), none, (some 3), true⟩])
 (.ret))) (.skip))))
 (.ops [⟨.move (.var 13), none, none, true⟩, ⟨.slice 1 (.loc 0) (some (.k (.int .i64 1))) none none, none, none, true⟩, ⟨.move (.loc 1), none, (some 13), true⟩]))))))))
 (.ops [⟨.move (.var 8), none, none, true⟩, ⟨.bin .add .no (.loc 0) (.k (.int .i64 1)), none, none, true⟩, ⟨.move (.loc 1), none, (some 8), true⟩]))))))))))))
 (.ops [⟨.move (.var 6), none, none, true⟩, ⟨.bin .add .no (.loc 0) (.k (.int .i64 1)), none, none, true⟩, ⟨.move (.loc 1), none, (some 6), true⟩])))))))))
 ((.seq (.ops [⟨.move (.k (.bool true)), none, (some 3), true⟩])
 (.ret))))))))))), none⟩
theorem v_LDeadlineChannelsAreQueues {F : Nat → Option RFunc} {me ndeadline_Run nLdeadlineExample nLsender : Nat} (hF : F me = some (rf_LDeadlineChannelsAreQueues ndeadline_Run nLdeadlineExample nLsender)) {fl : Nat} {H : Heap} {Q : AV → Heap → Prop} (capacities0 : AV) (scripts1 : AV) (ticks2 : Int)
  (h : Ret F fl ndeadline_Run [capacities0, scripts1, (.int .i64 ticks2)] H (fun v8 H7 => ∃ (r3 : AV) (r4 : AV) (r5 : Int) (r6 : Int), v8 = (.tuple [r3, r4, (.agg [(.int .i64 r5), (.int .i64 r6)])]) ∧ ∀ (H9 : Heap), Dead1 H7 1 H9 → Ret F fl nLdeadlineExample [] H9 (fun v12 H11 => ∃ (r10 : Bool), v12 = (.bool r10) ∧ ((¬(r10 = true)) → Q (.bool false) H11) ∧ (¬(¬(r10 = true)) → ∃ (J13 : Nat → Int → Heap → Prop) (k14 : Nat), J13 k14 0 H11 ∧ (∀ (m15 : Nat) (c17 : Int) (H26 : Heap), J13 m15 c17 H26 → ∃ len27 : Nat, lenA capacities0 = some len27 ∧ ((((r5 = 0) ∧ (c17 < (len27 : Int)))) → ∃ (J28 : Nat → Int → AV → Heap → Prop) (k29 : Nat), J28 k29 0 .empty H26 ∧ (∀ (m30 : Nat) (i32 : Int) (waiting36 : AV) (H39 : Heap), J28 m30 i32 waiting36 H39 → ∃ len40 : Nat, lenA r3 = some len40 ∧ ((i32 < (len40 : Int)) → ∃ (e41 : Int), getA H39 4 none r3 i32 2 = some (.int .i64 e41) ∧ ((e41 ≠ c17) → ∃ m43 : Nat, m43 < m30 ∧ J28 m43 (IntKind.wrap .i64 (i32 + 1)) waiting36 H39) ∧ (¬(e41 ≠ c17) → Ret F fl nLsender [scripts1, r3, (.int .i64 i32)] H39 (fun v46 H45 => ∃ (r44 : Bool), v46 = (.bool r44) ∧ ((r44 = true) → ∃ (e47 : Int), getA H45 4 none r3 i32 3 = some (.int .i64 e47) ∧ ∀ (b49 : Nat) (H50 : Heap), NewB H45 1 [(.int .i64 e47)] b49 H50 → ∃ (a51 : AV) (H52 : Heap), appA fl true 1 8 H50 waiting36 (.slice b49 0 1 (some 1)) = some (a51, H52) ∧ ∃ len53 : Nat, lenA a51 = some len53 ∧ ∃ (e54 : Int), getA H52 1 none capacities0 c17 0 = some (.int .i64 e54) ∧ (((len53 : Int) > e54) → Q (.bool false) H52) ∧ (¬((len53 : Int) > e54) → ∃ m56 : Nat, m56 < m30 ∧ J28 m56 (IntKind.wrap .i64 (i32 + 1)) a51 H52)) ∧ (¬(r44 = true) → ∃ len57 : Nat, lenA waiting36 = some len57 ∧ (((len57 : Int) = 0) → Q (.bool false) H45) ∧ (¬((len57 : Int) = 0) → ∃ (e58 : Int), getA H45 1 none waiting36 0 0 = some (.int .i64 e58) ∧ ∃ (e60 : Int), getA H45 4 none r3 i32 3 = some (.int .i64 e60) ∧ ((e58 ≠ e60) → Q (.bool false) H45) ∧ (¬(e58 ≠ e60) → ∃ s62 : AV, rslice H45 1 waiting36 (some (.int .i64 1)) none none = some s62 ∧ ∃ m63 : Nat, m63 < m30 ∧ J28 m63 (IntKind.wrap .i64 (i32 + 1)) s62 H45)))))) ∧ (¬(i32 < (len40 : Int)) → ∃ m64 : Nat, m64 < m15 ∧ J13 m64 (IntKind.wrap .i64 (c17 + 1)) H39))) ∧ (¬(((r5 = 0) ∧ (c17 < (len27 : Int)))) → Q (.bool true) H26)))))) : Ret F fl me [capacities0, scripts1, (.int .i64 ticks2)] H Q := by
  refine ret_intro hF rfl ?_
  refine w_seq ?_
  refine w_run [0] ?_
  refine t_done [capacities0, scripts1, (.int .i64 ticks2), (.bool false), .undef, .undef, .undef, .undef, .undef, .undef, .undef, .undef, .undef, .undef, .undef, .undef] H (by kernel_rfl) ?_
  refine then_norm ?_
  refine w_seq ?_
  refine w_run [0, 0, 0, 1, 0, 0, 0, 0, 1, 0, 0, 1] ?_
  refine t_call true ndeadline_Run [capacities0, scripts1, (.int .i64 ticks2)] H (by kernel_rfl) h ?_
  clear h
  rintro _ H7 ⟨r3, r4, r5, r6, rfl, h⟩
  obtain ⟨H9, hb⟩ : ∃ H', Dead1 H7 1 H' := ⟨_, ⟨rfl⟩⟩
  replace h := h H9 hb
  refine t_tomb true 1 (.agg [(.int .i64 0), (.int .i64 0)]) [(.int .i64 0), (.int .i64 0)] H9 H7 (by kernel_rfl) rfl hb ?_
  refine t_upd true 2 0 [(.int .i64 0), (.int .i64 0)] (.agg [(.int .i64 r5), (.int .i64 r6)]) [(.int .i64 r5), (.int .i64 r6)] [(.int .i64 r5), (.int .i64 r6)] H9 (by kernel_rfl) rfl (all_c rfl (all_c rfl all_n)) ⟨rfl, Nat.le_of_ble_eq_true (by kernel_rfl), rfl⟩ ?_
  refine t_done [capacities0, scripts1, (.int .i64 ticks2), (.bool false), .undef, (.agg [(.int .i64 r5), (.int .i64 r6)]), .undef, .undef, .undef, r3, .undef, .undef, .undef, .undef, .undef, .undef] H9 (by kernel_rfl) ?_
  refine then_norm ?_
  refine w_seq ?_
  refine w_seq ?_
  refine w_run [1, 0] ?_
  refine t_call true nLdeadlineExample [] H9 (by kernel_rfl) h ?_
  clear h
  rintro _ H11 ⟨r10, rfl, h⟩
  refine t_done [capacities0, scripts1, (.int .i64 ticks2), (.bool false), (.bool (!r10)), (.agg [(.int .i64 r5), (.int .i64 r6)]), .undef, .undef, .undef, r3, .undef, .undef, .undef, .undef, .undef, .undef] H11 (by kernel_rfl) ?_
  refine then_norm ?_
  refine w_cond (t := (!r10)) rfl (fun hc => ?_) (fun hc => ?_)
  · replace h := h.1 ((is_not is_raw).t hc)
    refine w_seq ?_
    refine w_run [0] ?_
    refine t_done [capacities0, scripts1, (.int .i64 ticks2), (.bool false), (.bool (!r10)), (.agg [(.int .i64 r5), (.int .i64 r6)]), .undef, .undef, .undef, r3, .undef, .undef, .undef, .undef, .undef, .undef] H11 (by kernel_rfl) ?_
    refine then_norm ?_
    refine w_ret ?_
    refine then_ret ?_
    exact body_ret (vs := [(.bool false)]) _ (by kernel_rfl) rfl h
  · replace h := h.2 ((is_not is_raw).f hc)
    refine w_skip ?_
    refine then_norm ?_
    refine w_seq ?_
    refine w_seq ?_
    refine w_run [0] ?_
    refine t_done [capacities0, scripts1, (.int .i64 ticks2), (.bool false), (.bool (!r10)), (.agg [(.int .i64 r5), (.int .i64 r6)]), (.int .i64 0), .undef, .undef, r3, .undef, .undef, .undef, .undef, .undef, .undef] H11 (by kernel_rfl) ?_
    refine then_norm ?_
    refine w_block ?_
    obtain ⟨J13, k14, h0, h⟩ := h
    refine w_loop (I := fun mI EI HI => ∃ (d16 : AV) (c17 : Int) (d18 : AV) (d19 : AV) (d20 : AV) (d21 : AV) (d22 : AV) (d23 : AV) (d24 : AV) (d25 : AV), EI = [capacities0, scripts1, (.int .i64 ticks2), d16, (.bool (!r10)), (.agg [(.int .i64 r5), (.int .i64 r6)]), (.int .i64 c17), d18, d19, r3, d20, d21, d22, d23, d24, d25] ∧ J13 mI c17 HI) ?_ k14 ⟨_, _, _, _, _, _, _, _, _, _, rfl, h0⟩
    clear h0
    rintro m15 EI H26 ⟨d16, c17, d18, d19, d20, d21, d22, d23, d24, d25, rfl, hJ⟩
    replace h := h m15 c17 H26 hJ
    clear hJ
    refine w_seq ?_
    refine w_seq ?_
    refine w_run [0, 0, 0, 0, 0, 0, 1, 0, 0] ?_
    obtain ⟨len27, hl, h⟩ := h
    refine t_len true capacities0 len27 H26 (by kernel_rfl) hl ?_
    refine t_done [capacities0, scripts1, (.int .i64 ticks2), d16, (.bool (!r10)), (.agg [(.int .i64 r5), (.int .i64 r6)]), (.int .i64 c17), (.bool (((r5) == 0) && (decide (c17 < (len27 : Int))))), d19, r3, d20, d21, d22, d23, d24, d25] H26 (by kernel_rfl) ?_
    refine then_norm ?_
    refine w_cond (t := (((r5) == 0) && (decide (c17 < (len27 : Int))))) rfl (fun hc => ?_) (fun hc => ?_)
    · replace h := h.1 ((is_and is_eq is_dec).t hc)
      refine w_skip ?_
      refine then_norm ?_
      refine w_seq ?_
      refine w_block ?_
      refine w_seq ?_
      refine w_run [0] ?_
      refine t_done [capacities0, scripts1, (.int .i64 ticks2), d16, (.bool (!r10)), (.agg [(.int .i64 r5), (.int .i64 r6)]), (.int .i64 c17), (.bool (((r5) == 0) && (decide (c17 < (len27 : Int))))), d19, r3, d20, d21, d22, .empty, d24, d25] H26 (by kernel_rfl) ?_
      refine then_norm ?_
      refine w_seq ?_
      refine w_run [0] ?_
      refine t_done [capacities0, scripts1, (.int .i64 ticks2), d16, (.bool (!r10)), (.agg [(.int .i64 r5), (.int .i64 r6)]), (.int .i64 c17), (.bool (((r5) == 0) && (decide (c17 < (len27 : Int))))), (.int .i64 0), r3, d20, d21, d22, .empty, d24, d25] H26 (by kernel_rfl) ?_
      refine then_norm ?_
      refine w_block ?_
      obtain ⟨J28, k29, h0, h⟩ := h
      refine w_loop (I := fun mI EI HI => ∃ (d31 : AV) (i32 : Int) (d33 : AV) (d34 : AV) (d35 : AV) (waiting36 : AV) (d37 : AV) (d38 : AV), EI = [capacities0, scripts1, (.int .i64 ticks2), d31, (.bool (!r10)), (.agg [(.int .i64 r5), (.int .i64 r6)]), (.int .i64 c17), (.bool (((r5) == 0) && (decide (c17 < (len27 : Int))))), (.int .i64 i32), r3, d33, d34, d35, waiting36, d37, d38] ∧ J28 mI i32 waiting36 HI) ?_ k29 ⟨_, _, _, _, _, _, _, _, rfl, h0⟩
      clear h0
      rintro m30 EI H39 ⟨d31, i32, d33, d34, d35, waiting36, d37, d38, rfl, hJ⟩
      replace h := h m30 i32 waiting36 H39 hJ
      clear hJ
      refine w_seq ?_
      refine w_seq ?_
      refine w_run [0, 0, 1, 0] ?_
      obtain ⟨len40, hl, h⟩ := h
      refine t_len true r3 len40 H39 (by kernel_rfl) hl ?_
      refine t_done [capacities0, scripts1, (.int .i64 ticks2), d31, (.bool (!r10)), (.agg [(.int .i64 r5), (.int .i64 r6)]), (.int .i64 c17), (.bool (((r5) == 0) && (decide (c17 < (len27 : Int))))), (.int .i64 i32), r3, (.bool (decide (i32 < (len40 : Int)))), d34, d35, waiting36, d37, d38] H39 (by kernel_rfl) ?_
      refine then_norm ?_
      refine w_cond (t := (decide (i32 < (len40 : Int)))) rfl (fun hc => ?_) (fun hc => ?_)
      · replace h := h.1 (is_dec.t hc)
        refine w_skip ?_
        refine then_norm ?_
        refine w_seq ?_
        refine w_block ?_
        refine w_seq ?_
        refine w_seq ?_
        refine w_run [0, 0, 1, 1, 1, 0, 0] ?_
        obtain ⟨e41, hg42, h⟩ := h
        refine t_idxG true 4 r3 .i64 i32 H39 (by kernel_rfl) hg42 ?_
        refine t_fldG true 2 4 r3 i32 0 H39 (by kernel_rfl) hg42 ?_
        refine t_loadG true none 4 r3 i32 2 (.int .i64 e41) H39 (by kernel_rfl) hg42 ?_
        refine t_done [capacities0, scripts1, (.int .i64 ticks2), d31, (.bool (!r10)), (.agg [(.int .i64 r5), (.int .i64 r6)]), (.int .i64 c17), (.bool (((r5) == 0) && (decide (c17 < (len27 : Int))))), (.int .i64 i32), r3, (.bool (decide (i32 < (len40 : Int)))), (.bool ((e41) != c17)), d35, waiting36, d37, d38] H39 (by kernel_rfl) ?_
        refine then_norm ?_
        refine w_cond (t := ((e41) != c17)) rfl (fun hc => ?_) (fun hc => ?_)
        · replace h := h.1 (is_ne.t hc)
          refine w_exit ?_
          refine then_exit ?_
          refine block_exit ?_
          refine then_norm ?_
          refine w_run [0, 0, 0] ?_
          refine t_done [capacities0, scripts1, (.int .i64 ticks2), d31, (.bool (!r10)), (.agg [(.int .i64 r5), (.int .i64 r6)]), (.int .i64 c17), (.bool (((r5) == 0) && (decide (c17 < (len27 : Int))))), (.int .i64 (IntKind.wrap .i64 (i32 + 1))), r3, (.bool (decide (i32 < (len40 : Int)))), (.bool ((e41) != c17)), d35, waiting36, d37, d38] H39 (by kernel_rfl) ?_
          obtain ⟨m', hm, h⟩ := h
          refine loop_norm ⟨m', hm, _, _, _, _, _, _, _, _, rfl, h⟩
        · replace h := h.2 (is_ne.f hc)
          refine w_skip ?_
          refine then_norm ?_
          refine w_seq ?_
          refine w_seq ?_
          refine w_run [0, 0, 0, 1] ?_
          refine t_call true nLsender [scripts1, r3, (.int .i64 i32)] H39 (by kernel_rfl) h ?_
          clear h
          rintro _ H45 ⟨r44, rfl, h⟩
          refine t_done [capacities0, scripts1, (.int .i64 ticks2), d31, (.bool (!r10)), (.agg [(.int .i64 r5), (.int .i64 r6)]), (.int .i64 c17), (.bool (((r5) == 0) && (decide (c17 < (len27 : Int))))), (.int .i64 i32), r3, (.bool (decide (i32 < (len40 : Int)))), (.bool ((e41) != c17)), (.bool r44), waiting36, d37, d38] H45 (by kernel_rfl) ?_
          refine then_norm ?_
          refine w_cond (t := r44) rfl (fun hc => ?_) (fun hc => ?_)
          · replace h := h.1 (is_raw.t hc)
            refine w_seq ?_
            refine w_run [0, 0, 0, 1, 1, 1, 1, 1, 0] ?_
            obtain ⟨e47, hg48, h⟩ := h
            refine t_idxG true 4 r3 .i64 i32 H45 (by kernel_rfl) hg48 ?_
            refine t_fldG true 3 4 r3 i32 0 H45 (by kernel_rfl) hg48 ?_
            refine t_loadG true none 4 r3 i32 3 (.int .i64 e47) H45 (by kernel_rfl) hg48 ?_
            obtain ⟨b49, H50, hb⟩ : ∃ b H', NewB H45 1 [(.int .i64 e47)] b H' := ⟨_, _, rfl, rfl⟩
            replace h := h b49 H50 hb
            refine t_bs true 1 [(.int .i64 0)] [(0, 1, .loc 0)] 1 [(.int .i64 e47)] [(.int .i64 e47)] b49 H50 H45 (by kernel_rfl) (fill_c (vs := [(.int .i64 e47)]) (size := 1) rfl (by kernel_rfl) (by kernel_rfl) (by kernel_rfl)) hb ?_
            obtain ⟨a51, H52, ha, h⟩ := h
            refine t_app true 1 8 waiting36 (.slice b49 0 1 (some 1)) a51 H52 H50 (by kernel_rfl) ha ?_
            refine t_done [capacities0, scripts1, (.int .i64 ticks2), d31, (.bool (!r10)), (.agg [(.int .i64 r5), (.int .i64 r6)]), (.int .i64 c17), (.bool (((r5) == 0) && (decide (c17 < (len27 : Int))))), (.int .i64 i32), r3, (.bool (decide (i32 < (len40 : Int)))), (.bool ((e41) != c17)), (.bool r44), a51, d37, d38] H52 (by kernel_rfl) ?_
            refine then_norm ?_
            refine w_seq ?_
            refine w_seq ?_
            refine w_run [0, 1, 0, 0, 1, 1, 0] ?_
            obtain ⟨len53, hl, h⟩ := h
            refine t_len true a51 len53 H52 (by kernel_rfl) hl ?_
            obtain ⟨e54, hg55, h⟩ := h
            refine t_idxG true 1 capacities0 .i64 c17 H52 (by kernel_rfl) hg55 ?_
            refine t_loadG true none 1 capacities0 c17 0 (.int .i64 e54) H52 (by kernel_rfl) hg55 ?_
            refine t_done [capacities0, scripts1, (.int .i64 ticks2), d31, (.bool (!r10)), (.agg [(.int .i64 r5), (.int .i64 r6)]), (.int .i64 c17), (.bool (((r5) == 0) && (decide (c17 < (len27 : Int))))), (.int .i64 i32), r3, (.bool (decide (i32 < (len40 : Int)))), (.bool ((e41) != c17)), (.bool r44), a51, (.bool (decide ((len53 : Int) > e54))), d38] H52 (by kernel_rfl) ?_
            refine then_norm ?_
            refine w_cond (t := (decide ((len53 : Int) > e54))) rfl (fun hc => ?_) (fun hc => ?_)
            · replace h := h.1 (is_dec.t hc)
              refine w_seq ?_
              refine w_run [0] ?_
              refine t_done [capacities0, scripts1, (.int .i64 ticks2), (.bool false), (.bool (!r10)), (.agg [(.int .i64 r5), (.int .i64 r6)]), (.int .i64 c17), (.bool (((r5) == 0) && (decide (c17 < (len27 : Int))))), (.int .i64 i32), r3, (.bool (decide (i32 < (len40 : Int)))), (.bool ((e41) != c17)), (.bool r44), a51, (.bool (decide ((len53 : Int) > e54))), d38] H52 (by kernel_rfl) ?_
              refine then_norm ?_
              refine w_ret ?_
              refine then_ret ?_
              refine then_ret ?_
              refine block_ret ?_
              refine then_ret ?_
              refine loop_ret ?_
              refine block_ret ?_
              refine block_ret ?_
              refine then_ret ?_
              refine loop_ret ?_
              refine block_ret ?_
              refine then_ret ?_
              exact body_ret (vs := [(.bool false)]) _ (by kernel_rfl) rfl h
            · replace h := h.2 (is_dec.f hc)
              refine w_skip ?_
              refine then_norm ?_
              refine w_exit ?_
              refine then_exit ?_
              refine block_exit ?_
              refine then_norm ?_
              refine w_run [0, 0, 0] ?_
              refine t_done [capacities0, scripts1, (.int .i64 ticks2), d31, (.bool (!r10)), (.agg [(.int .i64 r5), (.int .i64 r6)]), (.int .i64 c17), (.bool (((r5) == 0) && (decide (c17 < (len27 : Int))))), (.int .i64 (IntKind.wrap .i64 (i32 + 1))), r3, (.bool (decide (i32 < (len40 : Int)))), (.bool ((e41) != c17)), (.bool r44), a51, (.bool (decide ((len53 : Int) > e54))), d38] H52 (by kernel_rfl) ?_
              obtain ⟨m', hm, h⟩ := h
              refine loop_norm ⟨m', hm, _, _, _, _, _, _, _, _, rfl, h⟩
          · replace h := h.2 (is_raw.f hc)
            refine w_skip ?_
            refine then_norm ?_
            refine w_seq ?_
            refine w_seq ?_
            refine w_run [0, 1, 0, 0, 0, 3, 3, 0, 0, 3, 3, 3, 2, 0] ?_
            obtain ⟨len57, hl, h⟩ := h
            refine t_len true waiting36 len57 H45 (by kernel_rfl) hl ?_
            refine t_gd (((len57 : Int)) == 0) false (by kernel_rfl) (fun hc => ?_) (fun hc => ?_)
            · replace h := h.2 (is_eq.f hc)
              obtain ⟨e58, hg59, h⟩ := h
              refine t_idxG false 1 waiting36 .i64 0 H45 (by kernel_rfl) hg59 ?_
              refine t_gd false false (by kernel_rfl) (fun _ => ?_) (fun hn => by cases hn)
              refine t_loadG false none 1 waiting36 0 0 (.int .i64 e58) H45 (by kernel_rfl) hg59 ?_
              refine t_gd false false (by kernel_rfl) (fun _ => ?_) (fun hn => by cases hn)
              obtain ⟨e60, hg61, h⟩ := h
              refine t_idxG false 4 r3 .i64 i32 H45 (by kernel_rfl) hg61 ?_
              refine t_gd false false (by kernel_rfl) (fun _ => ?_) (fun hn => by cases hn)
              refine t_fldG false 3 4 r3 i32 0 H45 (by kernel_rfl) hg61 ?_
              refine t_gd false false (by kernel_rfl) (fun _ => ?_) (fun hn => by cases hn)
              refine t_loadG false none 4 r3 i32 3 (.int .i64 e60) H45 (by kernel_rfl) hg61 ?_
              refine t_gd false false (by kernel_rfl) (fun _ => ?_) (fun hn => by cases hn)
              refine t_done [capacities0, scripts1, (.int .i64 ticks2), d31, (.bool (!r10)), (.agg [(.int .i64 r5), (.int .i64 r6)]), (.int .i64 c17), (.bool (((r5) == 0) && (decide (c17 < (len27 : Int))))), (.int .i64 i32), r3, (.bool (decide (i32 < (len40 : Int)))), (.bool ((e41) != c17)), (.bool r44), waiting36, d37, (.bool ((e58) != e60))] H45 (by kernel_rfl) ?_
              refine then_norm ?_
              refine w_cond (t := ((e58) != e60)) rfl (fun hc => ?_) (fun hc => ?_)
              · replace h := h.1 (is_ne.t hc)
                refine w_seq ?_
                refine w_run [0] ?_
                refine t_done [capacities0, scripts1, (.int .i64 ticks2), (.bool false), (.bool (!r10)), (.agg [(.int .i64 r5), (.int .i64 r6)]), (.int .i64 c17), (.bool (((r5) == 0) && (decide (c17 < (len27 : Int))))), (.int .i64 i32), r3, (.bool (decide (i32 < (len40 : Int)))), (.bool ((e41) != c17)), (.bool r44), waiting36, d37, (.bool ((e58) != e60))] H45 (by kernel_rfl) ?_
                refine then_norm ?_
                refine w_ret ?_
                refine then_ret ?_
                refine block_ret ?_
                refine then_ret ?_
                refine loop_ret ?_
                refine block_ret ?_
                refine block_ret ?_
                refine then_ret ?_
                refine loop_ret ?_
                refine block_ret ?_
                refine then_ret ?_
                exact body_ret (vs := [(.bool false)]) _ (by kernel_rfl) rfl h
              · replace h := h.2 (is_ne.f hc)
                refine w_skip ?_
                refine then_norm ?_
                refine w_run [0, 1, 0] ?_
                obtain ⟨s62, hs, h⟩ := h
                refine t_slcL true 1 waiting36 (.int .i64 1) s62 H45 (by kernel_rfl) hs ?_
                refine t_done [capacities0, scripts1, (.int .i64 ticks2), d31, (.bool (!r10)), (.agg [(.int .i64 r5), (.int .i64 r6)]), (.int .i64 c17), (.bool (((r5) == 0) && (decide (c17 < (len27 : Int))))), (.int .i64 i32), r3, (.bool (decide (i32 < (len40 : Int)))), (.bool ((e41) != c17)), (.bool r44), s62, d37, (.bool ((e58) != e60))] H45 (by kernel_rfl) ?_
                refine block_norm ?_
                refine then_norm ?_
                refine w_run [0, 0, 0] ?_
                refine t_done [capacities0, scripts1, (.int .i64 ticks2), d31, (.bool (!r10)), (.agg [(.int .i64 r5), (.int .i64 r6)]), (.int .i64 c17), (.bool (((r5) == 0) && (decide (c17 < (len27 : Int))))), (.int .i64 (IntKind.wrap .i64 (i32 + 1))), r3, (.bool (decide (i32 < (len40 : Int)))), (.bool ((e41) != c17)), (.bool r44), s62, d37, (.bool ((e58) != e60))] H45 (by kernel_rfl) ?_
                obtain ⟨m', hm, h⟩ := h
                refine loop_norm ⟨m', hm, _, _, _, _, _, _, _, _, rfl, h⟩
            · replace h := h.1 (is_eq.t hc)
              refine t_gd true false (by kernel_rfl) (fun hn => by cases hn) (fun _ => ?_)
              refine t_gd true false (by kernel_rfl) (fun hn => by cases hn) (fun _ => ?_)
              refine t_gd true false (by kernel_rfl) (fun hn => by cases hn) (fun _ => ?_)
              refine t_gd true false (by kernel_rfl) (fun hn => by cases hn) (fun _ => ?_)
              refine t_gd true false (by kernel_rfl) (fun hn => by cases hn) (fun _ => ?_)
              refine t_done [capacities0, scripts1, (.int .i64 ticks2), d31, (.bool (!r10)), (.agg [(.int .i64 r5), (.int .i64 r6)]), (.int .i64 c17), (.bool (((r5) == 0) && (decide (c17 < (len27 : Int))))), (.int .i64 i32), r3, (.bool (decide (i32 < (len40 : Int)))), (.bool ((e41) != c17)), (.bool r44), waiting36, d37, (.bool true)] H45 (by kernel_rfl) ?_
              refine then_norm ?_
              refine w_cond (t := true) rfl (fun _ => ?_) (fun hc => by cases hc)
              refine w_seq ?_
              refine w_run [0] ?_
              refine t_done [capacities0, scripts1, (.int .i64 ticks2), (.bool false), (.bool (!r10)), (.agg [(.int .i64 r5), (.int .i64 r6)]), (.int .i64 c17), (.bool (((r5) == 0) && (decide (c17 < (len27 : Int))))), (.int .i64 i32), r3, (.bool (decide (i32 < (len40 : Int)))), (.bool ((e41) != c17)), (.bool r44), waiting36, d37, (.bool true)] H45 (by kernel_rfl) ?_
              refine then_norm ?_
              refine w_ret ?_
              refine then_ret ?_
              refine block_ret ?_
              refine then_ret ?_
              refine loop_ret ?_
              refine block_ret ?_
              refine block_ret ?_
              refine then_ret ?_
              refine loop_ret ?_
              refine block_ret ?_
              refine then_ret ?_
              exact body_ret (vs := [(.bool false)]) _ (by kernel_rfl) rfl h
      · replace h := h.2 (is_dec.f hc)
        refine w_exit ?_
        refine then_exit ?_
        refine loop_exit ?_
        refine block_exit ?_
        refine block_norm ?_
        refine then_norm ?_
        refine w_run [0, 0, 0] ?_
        refine t_done [capacities0, scripts1, (.int .i64 ticks2), d31, (.bool (!r10)), (.agg [(.int .i64 r5), (.int .i64 r6)]), (.int .i64 (IntKind.wrap .i64 (c17 + 1))), (.bool (((r5) == 0) && (decide (c17 < (len27 : Int))))), (.int .i64 i32), r3, (.bool (decide (i32 < (len40 : Int)))), d34, d35, waiting36, d37, d38] H39 (by kernel_rfl) ?_
        obtain ⟨m', hm, h⟩ := h
        refine loop_norm ⟨m', hm, _, _, _, _, _, _, _, _, _, _, rfl, h⟩
    · replace h := h.2 ((is_and is_eq is_dec).f hc)
      refine w_exit ?_
      refine then_exit ?_
      refine loop_exit ?_
      refine block_exit ?_
      refine then_norm ?_
      refine w_seq ?_
      refine w_run [0] ?_
      refine t_done [capacities0, scripts1, (.int .i64 ticks2), (.bool true), (.bool (!r10)), (.agg [(.int .i64 r5), (.int .i64 r6)]), (.int .i64 c17), (.bool (((r5) == 0) && (decide (c17 < (len27 : Int))))), d19, r3, d20, d21, d22, d23, d24, d25] H26 (by kernel_rfl) ?_
      refine then_norm ?_
      refine w_ret ?_
      exact body_ret (vs := [(.bool true)]) _ (by kernel_rfl) rfl h

end Go.RM

/-
  The document's run and what is left; results compared; Run and Stuck in one form; the law's example; whose result is a sent value.
-/
namespace Go.RM
set_option linter.unusedSimpArgs false
set_option linter.unusedVariables false
namespace De
variable {F : Nat → Option RFunc}

end De
end Go.RM

/-
  deadline's laws: results compared, Run and Stuck in one form, the example, and whose result is a sent value.
-/
namespace Go.RM
set_option linter.unusedSimpArgs false
set_option linter.unusedVariables false
namespace De
variable {F : Nat → Option RFunc}

theorem res_get {H : Heap} {v : AV} {l : List Res} (h : Arr tRes H v l) {i : Nat} (hi : i < l.length) : getA H 4 (some 4) v (i : Int) 0 = some (.agg (resC l[i])) := Arr.enc (enc := resC) (pos := by decide) (len := fun _ => rfl) (scal := fun _ => rfl) h hi
theorem res_cell {H : Heap} {v : AV} {l : List Res} (h : Arr tRes H v l) {i : Nat} (hi : i < l.length) (o : Nat) {x : AV} (hx : (resC l[i])[o]? = some x) : getA H 4 none v (i : Int) o = some x := Arr.cell (enc := resC) (pos := by decide) (len := fun _ => rfl) (scal := fun _ => rfl) h hi o hx

abbrev EqResC (F : Nat → Option RFunc) (f : Nat) : Prop := ∀ {fl H Q a b} {l m : List Res}, Arr tRes H a l → Arr tRes H b m → Q (.bool (decide (l = m))) H → Ret F fl f [a, b] H Q
theorem eqRes_c {f : Nat} (hF : F f = some rf_FEqualResults) : EqResC F f := fun {fl H Q a b l m} ha hb hq => by
  refine v_FEqualResults hF _ _ ?_
  have hs := ha.small
  refine ⟨_, ha.len, _, hb.len, fun hne => ?_, fun he => ?_⟩
  · rw [decide_eq_false (fun h => hne (by rw [h]))] at hq; exact hq
  · have he : l.length = m.length := by omega
    refine ⟨fun k v => ∃ i : Nat, v = i ∧ i + k = l.length ∧ (l.take i = m.take i), l.length, ⟨0, rfl, by omega, by simp⟩, ?_⟩
    rintro k _ ⟨i, rfl, hk, hi⟩
    refine ⟨_, ha.len, fun hlt => ?_, fun hge => ?_⟩
    · have hil : i < l.length := by omega
      refine ⟨_, _, _, _, res_get ha hil, _, _, _, _, res_get hb (show i < m.length by omega), fun hne => ?_, fun heq => ?_⟩
      · rw [decide_eq_false (fun h => hne (by subst h; exact ⟨rfl, rfl, rfl, rfl, trivial⟩))] at hq; exact hq
      · refine ⟨k - 1, by omega, i + 1, wsucc hil hs, by omega, ?_⟩
        obtain ⟨a1, a2, a3, a4, _⟩ := Classical.not_not.1 heq
        have heq : l[i] = m[i]'(by omega) := by
          cases h1 : l[i]; cases h2 : m[i]'(by omega)
          rw [h1, h2] at a1 a2 a3 a4
          simp only at a1 a2 a3 a4
          rw [a1, a2, a3, a4]
        rw [List.take_succ_eq_append_getElem hil, List.take_succ_eq_append_getElem (by omega), hi, heq]
    · rw [List.take_of_length_le (by omega), List.take_of_length_le (by omega)] at hi
      rw [decide_eq_true hi] at hq; exact hq

def runRes (caps : List Int) (scr : List (List Op)) (n : Int) : List Res := if runE caps scr n = (0, 0) then (runP caps n.toNat (startP caps scr)).res else []
def runLeft (caps : List Int) (scr : List (List Op)) (n : Int) : List Int := if runE caps scr n = (0, 0) then (runP caps n.toNat (startP caps scr)).ops.map fun l => (l.length : Int) else []
def stuckRes (caps : List Int) (scr : List (List Op)) : List Int := if valE caps scr = (0, 0) then stuckL 0 (runP caps 2600 (startP caps scr)).ops else []

abbrev RunU (F : Nat → Option RFunc) (f : Nat) : Prop := ∀ {fl H Q cv sv} {caps : List Int} {scr : List (List Op)} {n : Int}, Ints H cv caps → Arr (tArr tOp) H sv scr → fl ≤ H.length →
  (∀ rv lv H', Keep H.length H H' → Arr tRes H' rv (runRes caps scr n) → Ints H' lv (runLeft caps scr n) → Q (.tuple [rv, lv, flt (runE caps scr n).1 (runE caps scr n).2]) H') → Ret F fl f [cv, sv, i64 n] H Q
theorem run_u {f : Nat} (h : RunC F f) : RunU F f := fun {fl H Q cv sv caps scr n} hc hs hfl hq => by
  unfold runRes runLeft at hq
  refine h hc hs hfl (fun he H' k => ?_) (fun he rv lv H' k h1 h2 => ?_)
  · rw [if_neg he, if_neg he] at hq
    exact hq _ _ H' k Arr.nil Arr.nil
  · rw [if_pos he, if_pos he, he] at hq
    exact hq _ _ H' k h1 h2
abbrev StuckU (F : Nat → Option RFunc) (f : Nat) : Prop := ∀ {fl H Q cv sv} {caps : List Int} {scr : List (List Op)}, Ints H cv caps → Arr (tArr tOp) H sv scr → fl ≤ H.length →
  (∀ w H', Keep H.length H H' → Ints H' w (stuckRes caps scr) → Q (.tuple [w, flt (valE caps scr).1 (valE caps scr).2]) H') → Ret F fl f [cv, sv] H Q
theorem stuck_u {f : Nat} (h : StuckC F f) : StuckU F f := fun {fl H Q cv sv caps scr} hc hs hfl hq => by
  unfold stuckRes at hq
  refine h hc hs hfl (fun he H' k => ?_) (fun he w H' k h1 => ?_)
  · rw [if_neg he] at hq
    exact hq _ H' k Arr.nil
  · rw [if_pos he, he] at hq
    exact hq _ H' k h1

/-- The example's scripts. -/
def exS : List (List Op) := [[⟨1, 0, 5, 0, []⟩], [⟨2, 0, 0, 0, []⟩, ⟨2, 0, 0, 0, []⟩]]
theorem ex_run : runE [1] exS 3 = (0, 0) ∧ runRes [1] exS 3 = [⟨0, 0, 0, 5⟩, ⟨0, 1, 0, 5⟩] ∧ runLeft [1] exS 3 = [0, 1] := by decide
theorem ex_val : valE [1] exS = (0, 0) := by decide
theorem ex_quiet : (stepP [1] (runP [1] 2 (startP [1] exS))).2 = false ∧ stuckL 0 (runP [1] 2 (startP [1] exS)).ops = [1] := by decide
theorem ex_stuck : stuckRes [1] exS = [1] := by
  unfold stuckRes
  rw [if_pos ex_val]
  have ok := run_ok 2 (start_ok ex_val).1
  have h := run_quiet ok ex_quiet.1 2598 (runP [1] 2 (startP [1] exS)).tick
  rw [show (2600 : Nat) = 2 + 2598 from rfl, run_add]
  have e : (runP [1] 2598 (runP [1] 2 (startP [1] exS))).ops = (runP [1] 2 (startP [1] exS)).ops := by
    have : ({ runP [1] 2 (startP [1] exS) with tick := (runP [1] 2 (startP [1] exS)).tick } : Sys) = runP [1] 2 (startP [1] exS) := rfl
    rw [this] at h
    rw [h]
  rw [e]
  exact ex_quiet.2

abbrev ExC (F : Nat → Option RFunc) (f : Nat) : Prop := ∀ {fl H Q}, fl ≤ H.length → (∀ H', Keep H.length H H' → Q (.bool true) H') → Ret F fl f [] H Q
theorem ex_c {f n1 n2 n3 n4 : Nat} (hF : F f = some (rf_LdeadlineExample n1 n2 n3 n4)) (h1 : RunU F n1) (h2 : StuckU F n2) (h3 : EqResC F n3) (h4 : FEqualIntsC F n4) : ExC F f := fun {fl H Q} hfl hq => by
  refine v_LdeadlineExample hF ?_
  intro b0 H1 m1 b2 H3 m3 b4 H5 m5 b6 H7 m7
  have k1 := m1.keep
  have k3 := k1.call m3.keep
  have k5 := k3.call m5.keep
  have k7 := k5.call m7.keep
  have a0 : Arr tOp H1 (.slice b0 0 1 (some 1)) [⟨1, 0, 5, 0, []⟩] := NewB.arr (T := tOp) m1 [opC .empty ⟨1, 0, 5, 0, []⟩] rfl ⟨⟨_, rfl, Arr.nil⟩, trivial⟩ rfl
  have a2 : Arr tOp H3 (.slice b2 0 2 (some 2)) [⟨2, 0, 0, 0, []⟩, ⟨2, 0, 0, 0, []⟩] := NewB.arr (T := tOp) m3 [opC .empty ⟨2, 0, 0, 0, []⟩, opC .empty ⟨2, 0, 0, 0, []⟩] rfl ⟨⟨_, rfl, Arr.nil⟩, ⟨_, rfl, Arr.nil⟩, trivial⟩ rfl
  have a4 : Arr (tArr tOp) H5 (.slice b4 0 2 (some 2)) exS := m5.lists ⟨a0.keep m3.keep, a2, trivial⟩ rfl
  have c7 : Ints H7 (.slice b6 0 1 (some 1)) [1] := m7.ints [1] rfl rfl
  obtain ⟨x1, x2, x3⟩ := ex_run
  refine h1 (n := 3) c7 (a4.keep m7.keep) (k7.fl hfl) fun rv lv H12 k12' r1 r2 => ⟨_, _, _, _, rfl, ?_⟩
  have k12 := k7.call k12'
  intro H14 d14 b15 H16 m16
  have k14 := k12.call d14.keep
  have k16 := k14.call m16.keep
  have c16 : Ints H16 (.slice b15 0 1 (some 1)) [1] := m16.ints [1] rfl rfl
  have a16 := (((a4.keep m7.keep).keep k12').keep d14.keep).keep m16.keep
  refine h2 c16 a16 (k16.fl hfl) fun w H20 k20' r3 => ⟨_, _, _, rfl, ?_⟩
  have k20 := k16.call k20'
  intro H22 d22
  have k22 := k20.call d22.keep
  rw [x1, ex_val]
  rw [x2] at r1
  rw [x3] at r2
  rw [ex_stuck] at r3
  have kk : Keep H12.length H12 H22 := ((d14.keep.call m16.keep).call k20').call d22.keep
  have q1 := r1.keep kk
  have q2 := r2.keep kk
  have q3 := r3.keep d22.keep
  refine ⟨fun _ => ?_, fun hn => absurd ⟨rfl, rfl⟩ hn⟩
  intro b23 H24 m24
  have k24 := k22.call m24.keep
  have e24 : Arr tRes H24 (.slice b23 0 2 (some 2)) [⟨0, 0, 0, 5⟩, ⟨0, 1, 0, 5⟩] := NewB.arr (T := tRes) m24 [resC ⟨0, 0, 0, 5⟩, resC ⟨0, 1, 0, 5⟩] rfl (all2_res [⟨0, 0, 0, 5⟩, ⟨0, 1, 0, 5⟩]) rfl
  refine h3 (q1.keep m24.keep) e24 ⟨_, rfl, fun _ => ?_, fun hn => absurd (decide_eq_true rfl) hn⟩
  intro b28 H29 m29
  have k29 := k24.call m29.keep
  refine h4 ((q2.keep m24.keep).keep m29.keep) (m29.ints [0, 1] rfl rfl) ⟨_, rfl, fun _ => ?_, fun hn => absurd (decide_eq_true rfl) hn⟩
  intro b33 H34 m34
  refine h4 (((q3.keep m24.keep).keep m29.keep).keep m34.keep) (m34.ints [1] rfl rfl) ⟨_, rfl, ?_⟩
  rw [decide_eq_true rfl]
  exact hq H34 (k29.call m34.keep)

/-- The results before the i-th that are of process p. -/
def cntB (l : List Res) (i : Nat) (p : Int) : Nat := ((l.take i).filter fun x => x.p == p).length
theorem cntB_le {l : List Res} {i : Nat} {p : Int} : cntB l i p ≤ i := Nat.le_trans (List.length_filter_le _ _) (by rw [List.length_take]; omega)
theorem cntB_succ {l : List Res} {i : Nat} {p : Int} (h : i < l.length) : cntB l (i + 1) p = cntB l i p + if l[i].p = p then 1 else 0 := by
  unfold cntB
  rw [List.take_succ_eq_append_getElem h, List.filter_append, List.length_append]
  congr 1
  rw [List.filter_cons]
  by_cases e : l[i].p = p
  · rw [if_pos (by simpa using e), if_pos e]; rfl
  · rw [if_neg (by simpa using e), if_neg e]; rfl

/-- The n-th operation of a process, if it has one. -/
def opAt (scr : List (List Op)) (p : Int) (n : Nat) : Option Op := if 0 ≤ p ∧ p < scr.length then (scr.getD p.toNat [])[n]? else none
def sendE (scr : List (List Op)) (l : List Res) (i : Nat) : Bool := match opAt scr (l.getD i default).p (cntB l i (l.getD i default).p) with
  | some o => o.k == 1
  | none => false

theorem op_fld {H : Heap} {v : AV} {l : List Op} (h : Arr tOp H v l) {i : Nat} (hi : i < l.length) : getA H 5 none v (i : Int) 0 = some (i64 l[i].k) ∧ getA H 5 none v (i : Int) 3 = some (i64 l[i].w) := by
  obtain ⟨c, ⟨w, rfl, h1⟩, _, h3⟩ := h.get hi
  exact ⟨h3 0 _ rfl, h3 3 _ rfl⟩

abbrev SenderC (F : Nat → Option RFunc) (f : Nat) : Prop := ∀ {fl H Q sv rv} {scr : List (List Op)} {l : List Res} {i : Nat}, Arr (tArr tOp) H sv scr → Arr tRes H rv l → i < l.length → Q (.bool (sendE scr l i)) H → Ret F fl f [sv, rv, i64 i] H Q
theorem sender_c {f : Nat} (hF : F f = some rf_Lsender) : SenderC F f := fun {fl H Q sv rv scr l i} hs hl hi hq => by
  refine v_Lsender hF _ _ _ ?_
  have hsm := hl.small
  have gi : l.getD i default = l[i] := getD_get hi
  unfold sendE at hq
  rw [gi] at hq
  refine ⟨fun m k n => ∃ j : Nat, k = j ∧ j + m = i ∧ n = (cntB l j l[i].p : Nat), i, ⟨0, rfl, by omega, by simp [cntB]⟩, ?_⟩
  rintro m _ _ ⟨j, rfl, hm, rfl⟩
  have hcl := cntB_le (l := l) (i := j) (p := l[i].p)
  refine ⟨fun hlt => ?_, fun hge => ?_⟩
  · have hj : j < l.length := by omega
    have hsu := cntB_succ (p := l[i].p) hj
    refine ⟨_, res_cell hl hj 1 rfl, _, res_cell hl hi 1 rfl, fun he => ⟨m - 1, by omega, j + 1, wsucc hj (by omega), by omega, ?_⟩, fun hne => ⟨m - 1, by omega, j + 1, wsucc hj (by omega), by omega, ?_⟩⟩
    · rw [hsu, if_pos he, wrap64 (by omega) (by omega)]; rfl
    · rw [hsu, if_neg hne]; rfl
  · have : j = i := by omega
    subst this
    refine ⟨_, res_cell hl hi 1 rfl, _, hs.len, fun ⟨p1, p2⟩ => ?_, fun hn => ?_⟩
    · obtain ⟨p, hp⟩ := Int.eq_ofNat_of_zero_le p1
      have hpl : p < scr.length := by omega
      unfold opAt at hq
      rw [if_pos ⟨by omega, p2⟩] at hq
      rw [hp] at hq ⊢
      rw [Int.toNat_natCast, getD_get hpl] at hq
      obtain ⟨w, g1, g2⟩ := hs.arr hpl
      refine ⟨w, g1, _, g2.len, fun hl' => ?_, fun hl' => ?_⟩
      · have hcl' : cntB l j (p : Int) < scr[p].length := by omega
        rw [List.getElem?_eq_getElem hcl'] at hq
        have hf := (op_fld g2 hcl').1
        exact ⟨w, g1, _, hf, hq⟩
      · rw [List.getElem?_eq_none (by omega)] at hq
        exact hq
    · unfold opAt at hq
      rw [if_neg fun h => hn ⟨h.1, h.2⟩] at hq
      exact hq

end De
end Go.RM

