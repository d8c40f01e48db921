import Derived.Test.YtceemplcjkjphaaRmOpt3
import Derived.Test.YtceemplcjkjphaaDeF2
/-
  Functions of the program as the abstract machine runs them, and what must be shown of a run: printed by RmPrint.
-/
namespace Go.RM
set_option linter.unusedVariables false
set_option maxRecDepth 4000
def rf_LdeadlineExample (ndeadline_Run ndeadline_Stuck nFEqualResults nFEqualInts : Nat) : RFunc := ⟨0, 7, [.var 0],
 ((.seq (.ops [⟨.move (.k (.bool false)), none, (some 0), true⟩])
 ((.seq (.ops [⟨.build [.int .i64 0, .int .i64 0, .int .i64 0, .int .i64 0, .empty] [(0, 1, (.k (.int .i64 1))), (2, 1, (.k (.int .i64 5)))], none, none, true⟩, ⟨.buildSlice 5 [.int .i64 0, .int .i64 0, .int .i64 0, .int .i64 0, .empty] [(0, 5, (.loc 0))] 1, none, none, true⟩, ⟨.build [.int .i64 0, .int .i64 0, .int .i64 0, .int .i64 0, .empty] [(0, 1, (.k (.int .i64 2)))], none, none, true⟩, ⟨.build [.int .i64 0, .int .i64 0, .int .i64 0, .int .i64 0, .empty] [(0, 1, (.k (.int .i64 2)))], none, none, true⟩, ⟨.buildSlice 5 [.int .i64 0, .int .i64 0, .int .i64 0, .int .i64 0, .empty] [(0, 5, (.loc 2)), (5, 5, (.loc 3))] 2, none, none, true⟩, ⟨.buildSlice 1 [.empty] [(0, 1, (.loc 1)), (1, 1, (.loc 4))] 2, none, none, true⟩, ⟨.move (.loc 5), none, (some 1), true⟩])
 ((.seq (.ops [⟨.buildSlice 1 [.int .i64 0] [(0, 1, (.k (.int .i64 1)))] 1, none, none, true⟩, ⟨.move (.var 1), none, none, true⟩, ⟨.callS ndeadline_Run [(.loc 0), (.loc 1), (.k (.int .i64 3))], none, none, true⟩, ⟨.move (.loc 2), none, none, true⟩, ⟨.extract (.loc 3) 0, none, none, true⟩, ⟨.extract (.loc 3) 1, none, none, true⟩, ⟨.extract (.loc 3) 2, none, none, true⟩, ⟨.tomb 1 (.k (.agg [.int .i64 0, .int .i64 0])), none, (some 2), true⟩, ⟨.move (.loc 4), none, (some 4), true⟩, ⟨.move (.loc 5), none, (some 5), true⟩, ⟨.upd 2 0 (.loc 7) (.loc 6), none, (some 2), true⟩])
 ((.seq (.ops [⟨.buildSlice 1 [.int .i64 0] [(0, 1, (.k (.int .i64 1)))] 1, none, none, true⟩, ⟨.move (.var 1), none, none, true⟩, ⟨.callS ndeadline_Stuck [(.loc 0), (.loc 1)], none, none, true⟩, ⟨.move (.loc 2), none, none, true⟩, ⟨.extract (.loc 3) 0, none, none, true⟩, ⟨.extract (.loc 3) 1, none, none, true⟩, ⟨.tomb 1 (.k (.agg [.int .i64 0, .int .i64 0])), none, (some 3), true⟩, ⟨.move (.loc 4), none, (some 6), true⟩, ⟨.upd 2 0 (.loc 6) (.loc 5), none, (some 3), true⟩])
 ((.seq (.ops [⟨.field 0 none (.var 2), none, none, true⟩, ⟨.field 0 none (.var 2), none, none, true⟩, ⟨.bin .eql .no (.loc 1) (.k (.int .i64 0)), none, none, true⟩, ⟨.move (.loc 2), none, none, true⟩, ⟨.field 0 none (.var 3), none, none, true⟩, ⟨.field 0 none (.var 3), none, none, true⟩, ⟨.bin .eql .no (.loc 5) (.k (.int .i64 0)), none, none, true⟩, ⟨.pick (.loc 3) (.loc 6) (.k (.bool false)), none, none, true⟩, ⟨.move (.loc 7), none, none, true⟩, ⟨.move (.var 4), none, none, true⟩, ⟨.build [.int .i64 0, .int .i64 0, .int .i64 0, .int .i64 0] [(1, 1, (.k (.int .i64 0))), (3, 1, (.k (.int .i64 5)))], none, none, true⟩, ⟨.build [.int .i64 0, .int .i64 0, .int .i64 0, .int .i64 0] [(1, 1, (.k (.int .i64 1))), (3, 1, (.k (.int .i64 5)))], none, none, true⟩, ⟨.buildSlice 4 [.int .i64 0, .int .i64 0, .int .i64 0, .int .i64 0] [(0, 4, (.loc 10)), (4, 4, (.loc 11))] 2, (some (8, true)), none, true⟩, ⟨.callS nFEqualResults [(.loc 9), (.loc 12)], (some (8, true)), none, true⟩, ⟨.pick (.loc 8) (.loc 13) (.k (.bool false)), none, none, true⟩, ⟨.move (.loc 14), none, none, true⟩, ⟨.move (.var 5), none, none, true⟩, ⟨.buildSlice 1 [.int .i64 0] [(0, 1, (.k (.int .i64 0))), (1, 1, (.k (.int .i64 1)))] 2, (some (15, true)), none, true⟩, ⟨.callS nFEqualInts [(.loc 16), (.loc 17)], (some (15, true)), none, true⟩, ⟨.pick (.loc 15) (.loc 18) (.k (.bool false)), none, none, true⟩, ⟨.move (.loc 19), none, none, true⟩, ⟨.move (.var 6), none, none, true⟩, ⟨.buildSlice 1 [.int .i64 0] [(0, 1, (.k (.int .i64 1)))] 1, (some (20, true)), none, true⟩, ⟨.callS nFEqualInts [(.loc 21), (.loc 22)], (some (20, true)), none, true⟩, ⟨.pick (.loc 20) (.loc 23) (.k (.bool false)), none, none, true⟩, ⟨.move (.loc 24), none, (some 0), true⟩])
 (.ret))))))))))), none⟩
theorem v_LdeadlineExample {F : Nat → Option RFunc} {me ndeadline_Run ndeadline_Stuck nFEqualResults nFEqualInts : Nat} (hF : F me = some (rf_LdeadlineExample ndeadline_Run ndeadline_Stuck nFEqualResults nFEqualInts)) {fl : Nat} {H : Heap} {Q : AV → Heap → Prop} 
  (h : ∀ (b0 : Nat) (H1 : Heap), NewB H 5 [(.int .i64 1), (.int .i64 0), (.int .i64 5), (.int .i64 0), .empty] b0 H1 → ∀ (b2 : Nat) (H3 : Heap), NewB H1 5 [(.int .i64 2), (.int .i64 0), (.int .i64 0), (.int .i64 0), .empty, (.int .i64 2), (.int .i64 0), (.int .i64 0), (.int .i64 0), .empty] b2 H3 → ∀ (b4 : Nat) (H5 : Heap), NewB H3 1 [(.slice b0 0 1 (some 1)), (.slice b2 0 2 (some 2))] b4 H5 → ∀ (b6 : Nat) (H7 : Heap), NewB H5 1 [(.int .i64 1)] b6 H7 → Ret F fl ndeadline_Run [(.slice b6 0 1 (some 1)), (.slice b4 0 2 (some 2)), (.int .i64 3)] H7 (fun v13 H12 => ∃ (r8 : AV) (r9 : AV) (r10 : Int) (r11 : Int), v13 = (.tuple [r8, r9, (.agg [(.int .i64 r10), (.int .i64 r11)])]) ∧ ∀ (H14 : Heap), Dead1 H12 1 H14 → ∀ (b15 : Nat) (H16 : Heap), NewB H14 1 [(.int .i64 1)] b15 H16 → Ret F fl ndeadline_Stuck [(.slice b15 0 1 (some 1)), (.slice b4 0 2 (some 2))] H16 (fun v21 H20 => ∃ (r17 : AV) (r18 : Int) (r19 : Int), v21 = (.tuple [r17, (.agg [(.int .i64 r18), (.int .i64 r19)])]) ∧ ∀ (H22 : Heap), Dead1 H20 1 H22 → ((((r10 = 0) ∧ (r18 = 0))) → ∀ (b23 : Nat) (H24 : Heap), NewB H22 4 [(.int .i64 0), (.int .i64 0), (.int .i64 0), (.int .i64 5), (.int .i64 0), (.int .i64 1), (.int .i64 0), (.int .i64 5)] b23 H24 → Ret F fl nFEqualResults [r8, (.slice b23 0 2 (some 2))] H24 (fun v27 H26 => ∃ (r25 : Bool), v27 = (.bool r25) ∧ ((r25 = true) → ∀ (b28 : Nat) (H29 : Heap), NewB H26 1 [(.int .i64 0), (.int .i64 1)] b28 H29 → Ret F fl nFEqualInts [r9, (.slice b28 0 2 (some 2))] H29 (fun v32 H31 => ∃ (r30 : Bool), v32 = (.bool r30) ∧ ((r30 = true) → ∀ (b33 : Nat) (H34 : Heap), NewB H31 1 [(.int .i64 1)] b33 H34 → Ret F fl nFEqualInts [r17, (.slice b33 0 1 (some 1))] H34 (fun v37 H36 => ∃ (r35 : Bool), v37 = (.bool r35) ∧ Q (.bool r35) H36)) ∧ (¬(r30 = true) → Q (.bool false) H31))) ∧ (¬(r25 = true) → Q (.bool false) H26))) ∧ (¬(((r10 = 0) ∧ (r18 = 0))) → Q (.bool false) H22)))) : Ret F fl me [] H Q := by
  refine ret_intro hF rfl ?_
  refine w_seq ?_
  refine w_run [0] ?_
  refine t_done [(.bool false), .undef, .undef, .undef, .undef, .undef, .undef] H (by kernel_rfl) ?_
  refine then_norm ?_
  refine w_seq ?_
  refine w_run [1, 1, 1, 1, 1, 1, 0] ?_
  refine t_build true [(.int .i64 0), (.int .i64 0), (.int .i64 0), (.int .i64 0), .empty] [(0, 1, .loc 0), (2, 1, .loc 1)] [(.int .i64 1), (.int .i64 5)] [(.int .i64 1), (.int .i64 0), (.int .i64 5), (.int .i64 0), .empty] H (by kernel_rfl) (fill_c (vs := [(.int .i64 1)]) (size := 1) rfl (by kernel_rfl) (by kernel_rfl) (fill_c (vs := [(.int .i64 5)]) (size := 1) rfl (by kernel_rfl) (by kernel_rfl) (by kernel_rfl))) ?_
  obtain ⟨b0, H1, hb⟩ : ∃ b H', NewB H 5 [(.int .i64 1), (.int .i64 0), (.int .i64 5), (.int .i64 0), .empty] b H' := ⟨_, _, rfl, rfl⟩
  replace h := h b0 H1 hb
  refine t_bs true 5 [(.int .i64 0), (.int .i64 0), (.int .i64 0), (.int .i64 0), .empty] [(0, 5, .loc 0)] 1 [(.agg [(.int .i64 1), (.int .i64 0), (.int .i64 5), (.int .i64 0), .empty])] [(.int .i64 1), (.int .i64 0), (.int .i64 5), (.int .i64 0), .empty] b0 H1 H (by kernel_rfl) (fill_c (vs := [(.int .i64 1), (.int .i64 0), (.int .i64 5), (.int .i64 0), .empty]) (size := 5) rfl (by kernel_rfl) (by kernel_rfl) (by kernel_rfl)) hb ?_
  refine t_build true [(.int .i64 0), (.int .i64 0), (.int .i64 0), (.int .i64 0), .empty] [(0, 1, .loc 0)] [(.int .i64 2)] [(.int .i64 2), (.int .i64 0), (.int .i64 0), (.int .i64 0), .empty] H1 (by kernel_rfl) (fill_c (vs := [(.int .i64 2)]) (size := 1) rfl (by kernel_rfl) (by kernel_rfl) (by kernel_rfl)) ?_
  refine t_build true [(.int .i64 0), (.int .i64 0), (.int .i64 0), (.int .i64 0), .empty] [(0, 1, .loc 0)] [(.int .i64 2)] [(.int .i64 2), (.int .i64 0), (.int .i64 0), (.int .i64 0), .empty] H1 (by kernel_rfl) (fill_c (vs := [(.int .i64 2)]) (size := 1) rfl (by kernel_rfl) (by kernel_rfl) (by kernel_rfl)) ?_
  obtain ⟨b2, H3, hb⟩ : ∃ b H', NewB H1 5 [(.int .i64 2), (.int .i64 0), (.int .i64 0), (.int .i64 0), .empty, (.int .i64 2), (.int .i64 0), (.int .i64 0), (.int .i64 0), .empty] b H' := ⟨_, _, rfl, rfl⟩
  replace h := h b2 H3 hb
  refine t_bs true 5 [(.int .i64 0), (.int .i64 0), (.int .i64 0), (.int .i64 0), .empty] [(0, 5, .loc 0), (5, 5, .loc 1)] 2 [(.agg [(.int .i64 2), (.int .i64 0), (.int .i64 0), (.int .i64 0), .empty]), (.agg [(.int .i64 2), (.int .i64 0), (.int .i64 0), (.int .i64 0), .empty])] [(.int .i64 2), (.int .i64 0), (.int .i64 0), (.int .i64 0), .empty, (.int .i64 2), (.int .i64 0), (.int .i64 0), (.int .i64 0), .empty] b2 H3 H1 (by kernel_rfl) (fill_c (vs := [(.int .i64 2), (.int .i64 0), (.int .i64 0), (.int .i64 0), .empty]) (size := 5) rfl (by kernel_rfl) (by kernel_rfl) (fill_c (vs := [(.int .i64 2), (.int .i64 0), (.int .i64 0), (.int .i64 0), .empty]) (size := 5) rfl (by kernel_rfl) (by kernel_rfl) (by kernel_rfl))) hb ?_
  obtain ⟨b4, H5, hb⟩ : ∃ b H', NewB H3 1 [(.slice b0 0 1 (some 1)), (.slice b2 0 2 (some 2))] b H' := ⟨_, _, rfl, rfl⟩
  replace h := h b4 H5 hb
  refine t_bs true 1 [.empty] [(0, 1, .loc 0), (1, 1, .loc 1)] 2 [(.slice b0 0 1 (some 1)), (.slice b2 0 2 (some 2))] [(.slice b0 0 1 (some 1)), (.slice b2 0 2 (some 2))] b4 H5 H3 (by kernel_rfl) (fill_c (vs := [(.slice b0 0 1 (some 1))]) (size := 1) rfl (by kernel_rfl) (by kernel_rfl) (fill_c (vs := [(.slice b2 0 2 (some 2))]) (size := 1) rfl (by kernel_rfl) (by kernel_rfl) (by kernel_rfl))) hb ?_
  refine t_done [(.bool false), (.slice b4 0 2 (some 2)), .undef, .undef, .undef, .undef, .undef] H5 (by kernel_rfl) ?_
  refine then_norm ?_
  refine w_seq ?_
  refine w_run [1, 0, 1, 0, 0, 0, 0, 1, 0, 0, 1] ?_
  obtain ⟨b6, H7, hb⟩ : ∃ b H', NewB H5 1 [(.int .i64 1)] b H' := ⟨_, _, rfl, rfl⟩
  replace h := h b6 H7 hb
  refine t_bs true 1 [(.int .i64 0)] [(0, 1, .loc 0)] 1 [(.int .i64 1)] [(.int .i64 1)] b6 H7 H5 (by kernel_rfl) (fill_c (vs := [(.int .i64 1)]) (size := 1) rfl (by kernel_rfl) (by kernel_rfl) (by kernel_rfl)) hb ?_
  refine t_call true ndeadline_Run [(.slice b6 0 1 (some 1)), (.slice b4 0 2 (some 2)), (.int .i64 3)] H7 (by kernel_rfl) h ?_
  clear h
  rintro _ H12 ⟨r8, r9, r10, r11, rfl, h⟩
  obtain ⟨H14, hb⟩ : ∃ H', Dead1 H12 1 H' := ⟨_, ⟨rfl⟩⟩
  replace h := h H14 hb
  refine t_tomb true 1 (.agg [(.int .i64 0), (.int .i64 0)]) [(.int .i64 0), (.int .i64 0)] H14 H12 (by kernel_rfl) rfl hb ?_
  refine t_upd true 2 0 [(.int .i64 0), (.int .i64 0)] (.agg [(.int .i64 r10), (.int .i64 r11)]) [(.int .i64 r10), (.int .i64 r11)] [(.int .i64 r10), (.int .i64 r11)] H14 (by kernel_rfl) rfl (all_c rfl (all_c rfl all_n)) ⟨rfl, Nat.le_of_ble_eq_true (by kernel_rfl), rfl⟩ ?_
  refine t_done [(.bool false), (.slice b4 0 2 (some 2)), (.agg [(.int .i64 r10), (.int .i64 r11)]), .undef, r8, r9, .undef] H14 (by kernel_rfl) ?_
  refine then_norm ?_
  refine w_seq ?_
  refine w_run [1, 0, 1, 0, 0, 0, 1, 0, 1] ?_
  obtain ⟨b15, H16, hb⟩ : ∃ b H', NewB H14 1 [(.int .i64 1)] b H' := ⟨_, _, rfl, rfl⟩
  replace h := h b15 H16 hb
  refine t_bs true 1 [(.int .i64 0)] [(0, 1, .loc 0)] 1 [(.int .i64 1)] [(.int .i64 1)] b15 H16 H14 (by kernel_rfl) (fill_c (vs := [(.int .i64 1)]) (size := 1) rfl (by kernel_rfl) (by kernel_rfl) (by kernel_rfl)) hb ?_
  refine t_call true ndeadline_Stuck [(.slice b15 0 1 (some 1)), (.slice b4 0 2 (some 2))] H16 (by kernel_rfl) h ?_
  clear h
  rintro _ H20 ⟨r17, r18, r19, rfl, h⟩
  obtain ⟨H22, hb⟩ : ∃ H', Dead1 H20 1 H' := ⟨_, ⟨rfl⟩⟩
  replace h := h H22 hb
  refine t_tomb true 1 (.agg [(.int .i64 0), (.int .i64 0)]) [(.int .i64 0), (.int .i64 0)] H22 H20 (by kernel_rfl) rfl hb ?_
  refine t_upd true 2 0 [(.int .i64 0), (.int .i64 0)] (.agg [(.int .i64 r18), (.int .i64 r19)]) [(.int .i64 r18), (.int .i64 r19)] [(.int .i64 r18), (.int .i64 r19)] H22 (by kernel_rfl) rfl (all_c rfl (all_c rfl all_n)) ⟨rfl, Nat.le_of_ble_eq_true (by kernel_rfl), rfl⟩ ?_
  refine t_done [(.bool false), (.slice b4 0 2 (some 2)), (.agg [(.int .i64 r10), (.int .i64 r11)]), (.agg [(.int .i64 r18), (.int .i64 r19)]), r8, r9, r17] H22 (by kernel_rfl) ?_
  refine then_norm ?_
  refine w_seq ?_
  refine w_run [0, 0, 0, 0, 0, 0, 0, 0, 0, 0, 1, 1, 3, 3, 0, 0, 0, 3, 3, 0, 0, 0, 3, 3, 0, 0] ?_
  refine t_build true [(.int .i64 0), (.int .i64 0), (.int .i64 0), (.int .i64 0)] [(1, 1, .loc 0), (3, 1, .loc 1)] [(.int .i64 0), (.int .i64 5)] [(.int .i64 0), (.int .i64 0), (.int .i64 0), (.int .i64 5)] H22 (by kernel_rfl) (fill_c (vs := [(.int .i64 0)]) (size := 1) rfl (by kernel_rfl) (by kernel_rfl) (fill_c (vs := [(.int .i64 5)]) (size := 1) rfl (by kernel_rfl) (by kernel_rfl) (by kernel_rfl))) ?_
  refine t_build true [(.int .i64 0), (.int .i64 0), (.int .i64 0), (.int .i64 0)] [(1, 1, .loc 0), (3, 1, .loc 1)] [(.int .i64 1), (.int .i64 5)] [(.int .i64 0), (.int .i64 1), (.int .i64 0), (.int .i64 5)] H22 (by kernel_rfl) (fill_c (vs := [(.int .i64 1)]) (size := 1) rfl (by kernel_rfl) (by kernel_rfl) (fill_c (vs := [(.int .i64 5)]) (size := 1) rfl (by kernel_rfl) (by kernel_rfl) (by kernel_rfl))) ?_
  refine t_gd (((r10) == 0) && ((r18) == 0)) true (by kernel_rfl) (fun hc => ?_) (fun hc => ?_)
  · replace h := h.1 ((is_and is_eq is_eq).t hc)
    obtain ⟨b23, H24, hb⟩ : ∃ b H', NewB H22 4 [(.int .i64 0), (.int .i64 0), (.int .i64 0), (.int .i64 5), (.int .i64 0), (.int .i64 1), (.int .i64 0), (.int .i64 5)] b H' := ⟨_, _, rfl, rfl⟩
    replace h := h b23 H24 hb
    refine t_bs true 4 [(.int .i64 0), (.int .i64 0), (.int .i64 0), (.int .i64 0)] [(0, 4, .loc 0), (4, 4, .loc 1)] 2 [(.agg [(.int .i64 0), (.int .i64 0), (.int .i64 0), (.int .i64 5)]), (.agg [(.int .i64 0), (.int .i64 1), (.int .i64 0), (.int .i64 5)])] [(.int .i64 0), (.int .i64 0), (.int .i64 0), (.int .i64 5), (.int .i64 0), (.int .i64 1), (.int .i64 0), (.int .i64 5)] b23 H24 H22 (by kernel_rfl) (fill_c (vs := [(.int .i64 0), (.int .i64 0), (.int .i64 0), (.int .i64 5)]) (size := 4) rfl (by kernel_rfl) (by kernel_rfl) (fill_c (vs := [(.int .i64 0), (.int .i64 1), (.int .i64 0), (.int .i64 5)]) (size := 4) rfl (by kernel_rfl) (by kernel_rfl) (by kernel_rfl))) hb ?_
    refine t_gd true true (by kernel_rfl) (fun _ => ?_) (fun hn => by cases hn)
    refine t_call true nFEqualResults [r8, (.slice b23 0 2 (some 2))] H24 (by kernel_rfl) h ?_
    clear h
    rintro _ H26 ⟨r25, rfl, h⟩
    refine t_gd r25 true (by kernel_rfl) (fun hc => ?_) (fun hc => ?_)
    · replace h := h.1 (is_raw.t hc)
      obtain ⟨b28, H29, hb⟩ : ∃ b H', NewB H26 1 [(.int .i64 0), (.int .i64 1)] b H' := ⟨_, _, rfl, rfl⟩
      replace h := h b28 H29 hb
      refine t_bs true 1 [(.int .i64 0)] [(0, 1, .loc 0), (1, 1, .loc 1)] 2 [(.int .i64 0), (.int .i64 1)] [(.int .i64 0), (.int .i64 1)] b28 H29 H26 (by kernel_rfl) (fill_c (vs := [(.int .i64 0)]) (size := 1) rfl (by kernel_rfl) (by kernel_rfl) (fill_c (vs := [(.int .i64 1)]) (size := 1) rfl (by kernel_rfl) (by kernel_rfl) (by kernel_rfl))) hb ?_
      refine t_gd true true (by kernel_rfl) (fun _ => ?_) (fun hn => by cases hn)
      refine t_call true nFEqualInts [r9, (.slice b28 0 2 (some 2))] H29 (by kernel_rfl) h ?_
      clear h
      rintro _ H31 ⟨r30, rfl, h⟩
      refine t_gd r30 true (by kernel_rfl) (fun hc => ?_) (fun hc => ?_)
      · replace h := h.1 (is_raw.t hc)
        obtain ⟨b33, H34, hb⟩ : ∃ b H', NewB H31 1 [(.int .i64 1)] b H' := ⟨_, _, rfl, rfl⟩
        replace h := h b33 H34 hb
        refine t_bs true 1 [(.int .i64 0)] [(0, 1, .loc 0)] 1 [(.int .i64 1)] [(.int .i64 1)] b33 H34 H31 (by kernel_rfl) (fill_c (vs := [(.int .i64 1)]) (size := 1) rfl (by kernel_rfl) (by kernel_rfl) (by kernel_rfl)) hb ?_
        refine t_gd true true (by kernel_rfl) (fun _ => ?_) (fun hn => by cases hn)
        refine t_call true nFEqualInts [r17, (.slice b33 0 1 (some 1))] H34 (by kernel_rfl) h ?_
        clear h
        rintro _ H36 ⟨r35, rfl, h⟩
        refine t_done [(.bool r35), (.slice b4 0 2 (some 2)), (.agg [(.int .i64 r10), (.int .i64 r11)]), (.agg [(.int .i64 r18), (.int .i64 r19)]), r8, r9, r17] H36 (by kernel_rfl) ?_
        refine then_norm ?_
        refine w_ret ?_
        exact body_ret (vs := [(.bool r35)]) _ (by kernel_rfl) rfl h
      · replace h := h.2 (is_raw.f hc)
        refine t_gd false true (by kernel_rfl) (fun hn => by cases hn) (fun _ => ?_)
        refine t_done [(.bool false), (.slice b4 0 2 (some 2)), (.agg [(.int .i64 r10), (.int .i64 r11)]), (.agg [(.int .i64 r18), (.int .i64 r19)]), r8, r9, r17] H31 (by kernel_rfl) ?_
        refine then_norm ?_
        refine w_ret ?_
        exact body_ret (vs := [(.bool false)]) _ (by kernel_rfl) rfl h
    · replace h := h.2 (is_raw.f hc)
      refine t_gd false true (by kernel_rfl) (fun hn => by cases hn) (fun _ => ?_)
      refine t_gd false true (by kernel_rfl) (fun hn => by cases hn) (fun _ => ?_)
      refine t_gd false true (by kernel_rfl) (fun hn => by cases hn) (fun _ => ?_)
      refine t_done [(.bool false), (.slice b4 0 2 (some 2)), (.agg [(.int .i64 r10), (.int .i64 r11)]), (.agg [(.int .i64 r18), (.int .i64 r19)]), r8, r9, r17] H26 (by kernel_rfl) ?_
      refine then_norm ?_
      refine w_ret ?_
      exact body_ret (vs := [(.bool false)]) _ (by kernel_rfl) rfl h
  · replace h := h.2 ((is_and is_eq is_eq).f hc)
    refine t_gd false true (by kernel_rfl) (fun hn => by cases hn) (fun _ => ?_)
    refine t_gd false true (by kernel_rfl) (fun hn => by cases hn) (fun _ => ?_)
    refine t_gd false true (by kernel_rfl) (fun hn => by cases hn) (fun _ => ?_)
    refine t_gd false true (by kernel_rfl) (fun hn => by cases hn) (fun _ => ?_)
    refine t_gd false true (by kernel_rfl) (fun hn => by cases hn) (fun _ => ?_)
    refine t_done [(.bool false), (.slice b4 0 2 (some 2)), (.agg [(.int .i64 r10), (.int .i64 r11)]), (.agg [(.int .i64 r18), (.int .i64 r19)]), r8, r9, r17] H22 (by kernel_rfl) ?_
    refine then_norm ?_
    refine w_ret ?_
    exact body_ret (vs := [(.bool false)]) _ (by kernel_rfl) rfl h

def rf_LDeadlineFunctionsMatchSpec (nFProcessesFault ndeadline_Run ndeadline_Stuck nLdeadlineExample ndeadline_Validate nFSimulate nFWorld_Left nFEqualInts nFFault nFEqualResults : Nat) : RFunc := ⟨3, 20, [.var 3],
 ((.seq (.ops [⟨.move (.k (.bool false)), none, (some 3), true⟩])
 ((.seq (.ops [⟨.move (.var 0), none, none, true⟩, ⟨.move (.var 1), none, none, true⟩, ⟨.callS nFProcessesFault [(.loc 0), (.loc 1)], none, none, true⟩, ⟨.tomb 1 (.k (.agg [.int .i64 0, .int .i64 0])), none, (some 4), true⟩, ⟨.upd 2 0 (.loc 3) (.loc 2), none, (some 4), true⟩])
 ((.seq (.ops [⟨.move (.var 0), none, none, true⟩, ⟨.move (.var 1), none, none, true⟩, ⟨.move (.var 2), none, none, true⟩, ⟨.callS ndeadline_Run [(.loc 0), (.loc 1), (.loc 2)], none, none, true⟩, ⟨.move (.loc 3), none, none, true⟩, ⟨.extract (.loc 4) 0, none, none, true⟩, ⟨.extract (.loc 4) 1, none, none, true⟩, ⟨.extract (.loc 4) 2, none, none, true⟩, ⟨.tomb 1 (.k (.agg [.int .i64 0, .int .i64 0])), none, (some 7), true⟩, ⟨.move (.loc 5), none, (some 9), true⟩, ⟨.move (.loc 6), none, (some 10), true⟩, ⟨.upd 2 0 (.loc 8) (.loc 7), none, (some 7), true⟩])
 ((.seq (.ops [⟨.move (.var 0), none, none, true⟩, ⟨.move (.var 1), none, none, true⟩, ⟨.callS ndeadline_Stuck [(.loc 0), (.loc 1)], none, none, true⟩, ⟨.move (.loc 2), none, none, true⟩, ⟨.extract (.loc 3) 0, none, none, true⟩, ⟨.extract (.loc 3) 1, none, none, true⟩, ⟨.tomb 1 (.k (.agg [.int .i64 0, .int .i64 0])), none, (some 8), true⟩, ⟨.move (.loc 4), none, (some 11), true⟩, ⟨.upd 2 0 (.loc 6) (.loc 5), none, (some 8), true⟩])
 ((.seq ((.seq (.ops [⟨.callS nLdeadlineExample [], none, none, true⟩, ⟨.un .not (.loc 0), none, none, true⟩, ⟨.move (.loc 1), none, none, true⟩, ⟨.move (.var 0), none, none, false⟩, ⟨.move (.var 1), none, none, false⟩, ⟨.callS ndeadline_Validate [(.loc 3), (.loc 4)], (some (2, false)), none, false⟩, ⟨.field 0 (some 2) (.var 4), none, none, false⟩, ⟨.bin .neq (.agg [.int, .int]) (.loc 5) (.loc 6), (some (2, false)), none, true⟩, ⟨.pick (.loc 2) (.k (.bool true)) (.loc 7), none, (some 5), true⟩])
 (.cond (.var 5) ((.seq (.ops [⟨.move (.k (.bool false)), none, (some 3), true⟩])
 (.ret))) (.skip))))
 ((.seq ((.seq (.ops [⟨.field 0 none (.var 4), none, none, true⟩, ⟨.field 0 none (.var 4), none, none, true⟩, ⟨.bin .neq .no (.loc 1) (.k (.int .i64 0)), none, (some 6), true⟩])
 (.cond (.var 6) ((.seq (.ops [⟨.field 0 (some 2) (.var 7), none, none, true⟩, ⟨.field 0 (some 2) (.var 4), none, none, true⟩, ⟨.bin .eql (.agg [.int, .int]) (.loc 0) (.loc 1), none, none, true⟩, ⟨.move (.loc 2), none, none, true⟩, ⟨.field 0 (some 2) (.var 8), none, none, true⟩, ⟨.field 0 (some 2) (.var 4), none, none, true⟩, ⟨.bin .eql (.agg [.int, .int]) (.loc 4) (.loc 5), none, none, true⟩, ⟨.pick (.loc 3) (.loc 6) (.k (.bool false)), none, none, true⟩, ⟨.move (.loc 7), none, none, true⟩, ⟨.move (.var 9), none, none, true⟩, ⟨.len (.loc 9), none, none, true⟩, ⟨.bin .eql .no (.loc 10) (.k (.int .i64 0)), none, none, true⟩, ⟨.pick (.loc 8) (.loc 11) (.k (.bool false)), none, none, true⟩, ⟨.move (.loc 12), none, none, true⟩, ⟨.move (.var 10), none, none, true⟩, ⟨.len (.loc 14), none, none, true⟩, ⟨.bin .eql .no (.loc 15) (.k (.int .i64 0)), none, none, true⟩, ⟨.pick (.loc 13) (.loc 16) (.k (.bool false)), none, none, true⟩, ⟨.move (.loc 17), none, none, true⟩, ⟨.move (.var 11), none, none, true⟩, ⟨.len (.loc 19), none, none, true⟩, ⟨.bin .eql .no (.loc 20) (.k (.int .i64 0)), none, none, true⟩, ⟨.pick (.loc 18) (.loc 21) (.k (.bool false)), none, none, true⟩, ⟨.move (.loc 22), none, (some 3), true⟩])
 (.ret))) (.skip))))
 ((.seq (.ops [⟨.move (.k (.empty)), none, (some 16), true⟩])
 ((.seq (.ops [⟨.move (.var 0), none, none, true⟩, ⟨.move (.var 1), none, none, true⟩, ⟨.callS nFSimulate [(.loc 0), (.loc 1), (.k (.int .i64 2600))], none, none, true⟩, ⟨.callS nFWorld_Left [(.loc 2)], none, none, true⟩, ⟨.move (.loc 3), none, (some 13), true⟩])
 ((.seq ((.seq (.ops [⟨.move (.k (.int .i64 0)), none, (some 12), true⟩])
 (.block 0 (.loop ((.seq ((.seq (.ops [⟨.move (.var 12), none, none, true⟩, ⟨.move (.var 13), none, none, true⟩, ⟨.len (.loc 1), none, none, true⟩, ⟨.bin .lss .no (.loc 0) (.loc 2), none, (some 14), true⟩])
 (.cond (.var 14) (.skip) (.exit 0))))
 ((.seq (.block 1 ((.seq (.ops [⟨.move (.var 13), none, none, true⟩, ⟨.move (.var 12), none, none, true⟩, ⟨.indexAddr 1 (.loc 0) (.loc 1), none, none, true⟩, ⟨.load none (.loc 2), none, none, true⟩, ⟨.bin .gtr .no (.loc 3) (.k (.int .i64 0)), none, (some 15), true⟩])
 (.cond (.var 15) (.ops [⟨.move (.var 16), none, none, true⟩, ⟨.move (.var 12), none, none, true⟩, ⟨.buildSlice 1 [.int .i64 0] [(0, 1, (.loc 1))] 1, none, none, true⟩, ⟨.append 1 8 (.loc 0) (.loc 2), none, none, true⟩, ⟨.move (.loc 3), none, (some 16), true⟩]) (.skip)))))
 (.ops [⟨.move (.var 12), none, none, true⟩, ⟨.bin .add .no (.loc 0) (.k (.int .i64 1)), none, none, true⟩, ⟨.move (.loc 1), none, (some 12), true⟩])))))))))
 ((.seq ((.seq (.ops [⟨.field 0 none (.var 8), none, none, true⟩, ⟨.field 0 none (.var 8), none, none, true⟩, ⟨.bin .neq .no (.loc 1) (.k (.int .i64 0)), none, none, true⟩, ⟨.move (.loc 2), none, none, true⟩, ⟨.move (.var 11), none, none, true⟩, ⟨.move (.var 16), none, none, true⟩, ⟨.callS nFEqualInts [(.loc 4), (.loc 5)], (some (3, false)), none, true⟩, ⟨.un .not (.loc 6), (some (3, false)), none, true⟩, ⟨.pick (.loc 3) (.k (.bool true)) (.loc 7), none, (some 17), true⟩])
 (.cond (.var 17) ((.seq (.ops [⟨.move (.k (.bool false)), none, (some 3), true⟩])
 (.ret))) (.skip))))
 ((.seq ((.seq (.ops [⟨.move (.var 2), none, none, true⟩, ⟨.bin .lss .no (.loc 0) (.k (.int .i64 0)), none, none, true⟩, ⟨.move (.loc 1), none, none, true⟩, ⟨.move (.var 2), none, none, true⟩, ⟨.bin .gtr .no (.loc 3) (.k (.int .i64 60)), none, none, true⟩, ⟨.pick (.loc 2) (.k (.bool true)) (.loc 4), none, (some 18), true⟩])
 (.cond (.var 18) ((.seq (.ops [⟨.field 0 (some 2) (.var 7), none, none, false⟩, ⟨.callS nFFault [(.k (.int .i64 3)), (.k (.int .i64 (-20)))], none, none, false⟩, ⟨.bin .eql (.agg [.int, .int]) (.loc 0) (.loc 1), none, none, true⟩, ⟨.move (.loc 2), none, none, true⟩, ⟨.move (.var 9), none, none, true⟩, ⟨.len (.loc 4), none, none, true⟩, ⟨.bin .eql .no (.loc 5) (.k (.int .i64 0)), none, none, true⟩, ⟨.pick (.loc 3) (.loc 6) (.k (.bool false)), none, none, true⟩, ⟨.move (.loc 7), none, none, true⟩, ⟨.move (.var 10), none, none, true⟩, ⟨.len (.loc 9), none, none, true⟩, ⟨.bin .eql .no (.loc 10) (.k (.int .i64 0)), none, none, true⟩, ⟨.pick (.loc 8) (.loc 11) (.k (.bool false)), none, none, true⟩, ⟨.move (.loc 12), none, (some 3), true⟩])
 (.ret))) (.skip))))
 ((.seq (.ops [⟨.move (.var 0), none, none, true⟩, ⟨.move (.var 1), none, none, true⟩, ⟨.move (.var 2), none, none, true⟩, ⟨.callS nFSimulate [(.loc 0), (.loc 1), (.loc 2)], none, none, true⟩, ⟨.move (.loc 3), none, (some 19), true⟩])
 ((.seq (.ops [⟨.field 0 none (.var 7), none, none, true⟩, ⟨.field 0 none (.var 7), none, none, true⟩, ⟨.bin .eql .no (.loc 1) (.k (.int .i64 0)), none, none, true⟩, ⟨.move (.loc 2), none, none, true⟩, ⟨.move (.var 9), none, none, true⟩, ⟨.move (.var 19), none, none, true⟩, ⟨.nilCheck (.loc 5), (some (3, true)), none, true⟩, ⟨.fieldAddr 26 (.loc 6), (some (3, true)), none, true⟩, ⟨.load none (.loc 7), (some (3, true)), none, true⟩, ⟨.callS nFEqualResults [(.loc 4), (.loc 8)], (some (3, true)), none, true⟩, ⟨.pick (.loc 3) (.loc 9) (.k (.bool false)), none, none, true⟩, ⟨.move (.loc 10), none, none, true⟩, ⟨.move (.var 10), none, none, true⟩, ⟨.move (.var 19), none, none, true⟩, ⟨.callS nFWorld_Left [(.loc 13)], (some (11, true)), none, true⟩, ⟨.callS nFEqualInts [(.loc 12), (.loc 14)], (some (11, true)), none, true⟩, ⟨.pick (.loc 11) (.loc 15) (.k (.bool false)), none, none, true⟩, ⟨.move (.loc 16), none, (some 3), true⟩])
 (.ret))))))))))))))))))))))))))), none⟩
theorem v_LDeadlineFunctionsMatchSpec {F : Nat → Option RFunc} {me nFProcessesFault ndeadline_Run ndeadline_Stuck nLdeadlineExample ndeadline_Validate nFSimulate nFWorld_Left nFEqualInts nFFault nFEqualResults : Nat} (hF : F me = some (rf_LDeadlineFunctionsMatchSpec nFProcessesFault ndeadline_Run ndeadline_Stuck nLdeadlineExample ndeadline_Validate nFSimulate nFWorld_Left nFEqualInts nFFault nFEqualResults)) {fl : Nat} {H : Heap} {Q : AV → Heap → Prop} (capacities0 : AV) (scripts1 : AV) (ticks2 : Int)
  (h : Ret F fl nFProcessesFault [capacities0, scripts1] H (fun v6 H5 => ∃ (r3 : Int) (r4 : Int), v6 = (.agg [(.int .i64 r3), (.int .i64 r4)]) ∧ ∀ (H7 : Heap), Dead1 H5 1 H7 → Ret F fl ndeadline_Run [capacities0, scripts1, (.int .i64 ticks2)] H7 (fun v13 H12 => ∃ (r8 : AV) (r9 : AV) (r10 : Int) (r11 : Int), v13 = (.tuple [r8, r9, (.agg [(.int .i64 r10), (.int .i64 r11)])]) ∧ ∀ (H14 : Heap), Dead1 H12 1 H14 → Ret F fl ndeadline_Stuck [capacities0, scripts1] H14 (fun v19 H18 => ∃ (r15 : AV) (r16 : Int) (r17 : Int), v19 = (.tuple [r15, (.agg [(.int .i64 r16), (.int .i64 r17)])]) ∧ ∀ (H20 : Heap), Dead1 H18 1 H20 → Ret F fl nLdeadlineExample [] H20 (fun v23 H22 => ∃ (r21 : Bool), v23 = (.bool r21) ∧ ((¬(r21 = true)) → Q (.bool false) H22) ∧ (¬(¬(r21 = true)) → Ret F H22.length ndeadline_Validate [capacities0, scripts1] H22 (fun v27 H26 => ∃ (r24 : Int) (r25 : Int), v27 = (.agg [(.int .i64 r24), (.int .i64 r25)]) ∧ ((¬(((r24 = r3) ∧ (((r25 = r4) ∧ (True)))))) → Q (.bool false) H26) ∧ (¬(¬(((r24 = r3) ∧ (((r25 = r4) ∧ (True)))))) → ((r3 ≠ 0) → ∃ len28 : Nat, lenA r8 = some len28 ∧ ∃ len29 : Nat, lenA r9 = some len29 ∧ ∃ len30 : Nat, lenA r15 = some len30 ∧ Q (.bool (((((((r10) == r3) && (((r11) == r4) && true)) && (((r16) == r3) && (((r17) == r4) && true))) && (((len28 : Int)) == 0)) && (((len29 : Int)) == 0)) && (((len30 : Int)) == 0))) H26) ∧ (¬(r3 ≠ 0) → Ret F fl nFSimulate [capacities0, scripts1, (.int .i64 2600)] H26 (fun r31 H32 => Ret F fl nFWorld_Left [r31] H32 (fun r34 H35 => ∃ (J37 : Nat → Int → AV → Heap → Prop) (k38 : Nat), J37 k38 0 .empty H35 ∧ (∀ (m39 : Nat) (i40 : Int) (stuck43 : AV) (H44 : Heap), J37 m39 i40 stuck43 H44 → ∃ len45 : Nat, lenA r34 = some len45 ∧ ((i40 < (len45 : Int)) → ∃ (e46 : Int), getA H44 1 none r34 i40 0 = some (.int .i64 e46) ∧ ((e46 > 0) → ∀ (b48 : Nat) (H49 : Heap), NewB H44 1 [(.int .i64 i40)] b48 H49 → ∃ (a50 : AV) (H51 : Heap), appA fl true 1 8 H49 stuck43 (.slice b48 0 1 (some 1)) = some (a50, H51) ∧ ∃ m52 : Nat, m52 < m39 ∧ J37 m52 (IntKind.wrap .i64 (i40 + 1)) a50 H51) ∧ (¬(e46 > 0) → ∃ m53 : Nat, m53 < m39 ∧ J37 m53 (IntKind.wrap .i64 (i40 + 1)) stuck43 H44)) ∧ (¬(i40 < (len45 : Int)) → ((r16 ≠ 0) → Q (.bool false) H44) ∧ (¬(r16 ≠ 0) → Ret F fl nFEqualInts [r15, stuck43] H44 (fun v56 H55 => ∃ (r54 : Bool), v56 = (.bool r54) ∧ ((¬(r54 = true)) → Q (.bool false) H55) ∧ (¬(¬(r54 = true)) → ((((ticks2 < 0) ∨ (ticks2 > 60))) → Ret F H55.length nFFault [(.int .i64 3), (.int .i64 (-20))] H55 (fun v60 H59 => ∃ (r57 : Int) (r58 : Int), v60 = (.agg [(.int .i64 r57), (.int .i64 r58)]) ∧ ∃ len61 : Nat, lenA r8 = some len61 ∧ ∃ len62 : Nat, lenA r9 = some len62 ∧ Q (.bool (((((r10) == r57) && (((r11) == r58) && true)) && (((len61 : Int)) == 0)) && (((len62 : Int)) == 0))) H59)) ∧ (¬(((ticks2 < 0) ∨ (ticks2 > 60))) → Ret F fl nFSimulate [capacities0, scripts1, (.int .i64 ticks2)] H55 (fun r63 H64 => ((r10 = 0) → ∃ b66 o67 : Nat, r63 = .ptr b66 o67 ∧ ∃ (e68 : AV), rload H64 none b66 (o67 + 26) = some e68 ∧ Ret F fl nFEqualResults [r8, e68] H64 (fun v71 H70 => ∃ (r69 : Bool), v71 = (.bool r69) ∧ ((r69 = true) → Ret F fl nFWorld_Left [(.ptr b66 o67)] H70 (fun r72 H73 => Ret F fl nFEqualInts [r9, r72] H73 (fun v77 H76 => ∃ (r75 : Bool), v77 = (.bool r75) ∧ Q (.bool r75) H76))) ∧ (¬(r69 = true) → Q (.bool false) H70))) ∧ (¬(r10 = 0) → Q (.bool false) H64))))))))))))))))))) : Ret F fl me [capacities0, scripts1, (.int .i64 ticks2)] H Q := by
  refine ret_intro hF rfl ?_
  refine w_seq ?_
  refine w_run [0] ?_
  refine t_done [capacities0, scripts1, (.int .i64 ticks2), (.bool false), .undef, .undef, .undef, .undef, .undef, .undef, .undef, .undef, .undef, .undef, .undef, .undef, .undef, .undef, .undef, .undef] H (by kernel_rfl) ?_
  refine then_norm ?_
  refine w_seq ?_
  refine w_run [0, 0, 1, 1, 1] ?_
  refine t_call true nFProcessesFault [capacities0, scripts1] H (by kernel_rfl) h ?_
  clear h
  rintro _ H5 ⟨r3, r4, rfl, h⟩
  obtain ⟨H7, hb⟩ : ∃ H', Dead1 H5 1 H' := ⟨_, ⟨rfl⟩⟩
  replace h := h H7 hb
  refine t_tomb true 1 (.agg [(.int .i64 0), (.int .i64 0)]) [(.int .i64 0), (.int .i64 0)] H7 H5 (by kernel_rfl) rfl hb ?_
  refine t_upd true 2 0 [(.int .i64 0), (.int .i64 0)] (.agg [(.int .i64 r3), (.int .i64 r4)]) [(.int .i64 r3), (.int .i64 r4)] [(.int .i64 r3), (.int .i64 r4)] H7 (by kernel_rfl) rfl (all_c rfl (all_c rfl all_n)) ⟨rfl, Nat.le_of_ble_eq_true (by kernel_rfl), rfl⟩ ?_
  refine t_done [capacities0, scripts1, (.int .i64 ticks2), (.bool false), (.agg [(.int .i64 r3), (.int .i64 r4)]), .undef, .undef, .undef, .undef, .undef, .undef, .undef, .undef, .undef, .undef, .undef, .undef, .undef, .undef, .undef] H7 (by kernel_rfl) ?_
  refine then_norm ?_
  refine w_seq ?_
  refine w_run [0, 0, 0, 1, 0, 0, 0, 0, 1, 0, 0, 1] ?_
  refine t_call true ndeadline_Run [capacities0, scripts1, (.int .i64 ticks2)] H7 (by kernel_rfl) h ?_
  clear h
  rintro _ H12 ⟨r8, r9, r10, r11, rfl, h⟩
  obtain ⟨H14, hb⟩ : ∃ H', Dead1 H12 1 H' := ⟨_, ⟨rfl⟩⟩
  replace h := h H14 hb
  refine t_tomb true 1 (.agg [(.int .i64 0), (.int .i64 0)]) [(.int .i64 0), (.int .i64 0)] H14 H12 (by kernel_rfl) rfl hb ?_
  refine t_upd true 2 0 [(.int .i64 0), (.int .i64 0)] (.agg [(.int .i64 r10), (.int .i64 r11)]) [(.int .i64 r10), (.int .i64 r11)] [(.int .i64 r10), (.int .i64 r11)] H14 (by kernel_rfl) rfl (all_c rfl (all_c rfl all_n)) ⟨rfl, Nat.le_of_ble_eq_true (by kernel_rfl), rfl⟩ ?_
  refine t_done [capacities0, scripts1, (.int .i64 ticks2), (.bool false), (.agg [(.int .i64 r3), (.int .i64 r4)]), .undef, .undef, (.agg [(.int .i64 r10), (.int .i64 r11)]), .undef, r8, r9, .undef, .undef, .undef, .undef, .undef, .undef, .undef, .undef, .undef] H14 (by kernel_rfl) ?_
  refine then_norm ?_
  refine w_seq ?_
  refine w_run [0, 0, 1, 0, 0, 0, 1, 0, 1] ?_
  refine t_call true ndeadline_Stuck [capacities0, scripts1] H14 (by kernel_rfl) h ?_
  clear h
  rintro _ H18 ⟨r15, r16, r17, rfl, h⟩
  obtain ⟨H20, hb⟩ : ∃ H', Dead1 H18 1 H' := ⟨_, ⟨rfl⟩⟩
  replace h := h H20 hb
  refine t_tomb true 1 (.agg [(.int .i64 0), (.int .i64 0)]) [(.int .i64 0), (.int .i64 0)] H20 H18 (by kernel_rfl) rfl hb ?_
  refine t_upd true 2 0 [(.int .i64 0), (.int .i64 0)] (.agg [(.int .i64 r16), (.int .i64 r17)]) [(.int .i64 r16), (.int .i64 r17)] [(.int .i64 r16), (.int .i64 r17)] H20 (by kernel_rfl) rfl (all_c rfl (all_c rfl all_n)) ⟨rfl, Nat.le_of_ble_eq_true (by kernel_rfl), rfl⟩ ?_
  refine t_done [capacities0, scripts1, (.int .i64 ticks2), (.bool false), (.agg [(.int .i64 r3), (.int .i64 r4)]), .undef, .undef, (.agg [(.int .i64 r10), (.int .i64 r11)]), (.agg [(.int .i64 r16), (.int .i64 r17)]), r8, r9, r15, .undef, .undef, .undef, .undef, .undef, .undef, .undef, .undef] H20 (by kernel_rfl) ?_
  refine then_norm ?_
  refine w_seq ?_
  refine w_seq ?_
  refine w_run [1, 0, 0, 0, 0, 3, 0, 2, 0] ?_
  refine t_call true nLdeadlineExample [] H20 (by kernel_rfl) h ?_
  clear h
  rintro _ H22 ⟨r21, rfl, h⟩
  refine t_gd (!r21) false (by kernel_rfl) (fun hc => ?_) (fun hc => ?_)
  · replace h := h.2 ((is_not is_raw).f hc)
    refine t_call false ndeadline_Validate [capacities0, scripts1] H22 (by kernel_rfl) h ?_
    clear h
    rintro _ H26 ⟨r24, r25, rfl, h⟩
    refine t_gd false false (by kernel_rfl) (fun _ => ?_) (fun hn => by cases hn)
    refine t_done [capacities0, scripts1, (.int .i64 ticks2), (.bool false), (.agg [(.int .i64 r3), (.int .i64 r4)]), (.bool (!(((r24) == r3) && (((r25) == r4) && true)))), .undef, (.agg [(.int .i64 r10), (.int .i64 r11)]), (.agg [(.int .i64 r16), (.int .i64 r17)]), r8, r9, r15, .undef, .undef, .undef, .undef, .undef, .undef, .undef, .undef] H26 (by kernel_rfl) ?_
    refine then_norm ?_
    refine w_cond (t := (!(((r24) == r3) && (((r25) == r4) && true)))) rfl (fun hc => ?_) (fun hc => ?_)
    · replace h := h.1 ((is_not (is_and is_eq (is_and is_eq is_true))).t hc)
      refine w_seq ?_
      refine w_run [0] ?_
      refine t_done [capacities0, scripts1, (.int .i64 ticks2), (.bool false), (.agg [(.int .i64 r3), (.int .i64 r4)]), (.bool (!(((r24) == r3) && (((r25) == r4) && true)))), .undef, (.agg [(.int .i64 r10), (.int .i64 r11)]), (.agg [(.int .i64 r16), (.int .i64 r17)]), r8, r9, r15, .undef, .undef, .undef, .undef, .undef, .undef, .undef, .undef] H26 (by kernel_rfl) ?_
      refine then_norm ?_
      refine w_ret ?_
      refine then_ret ?_
      exact body_ret (vs := [(.bool false)]) _ (by kernel_rfl) rfl h
    · replace h := h.2 ((is_not (is_and is_eq (is_and is_eq is_true))).f hc)
      refine w_skip ?_
      refine then_norm ?_
      refine w_seq ?_
      refine w_seq ?_
      refine w_run [0, 0, 0] ?_
      refine t_done [capacities0, scripts1, (.int .i64 ticks2), (.bool false), (.agg [(.int .i64 r3), (.int .i64 r4)]), (.bool (!(((r24) == r3) && (((r25) == r4) && true)))), (.bool ((r3) != 0)), (.agg [(.int .i64 r10), (.int .i64 r11)]), (.agg [(.int .i64 r16), (.int .i64 r17)]), r8, r9, r15, .undef, .undef, .undef, .undef, .undef, .undef, .undef, .undef] H26 (by kernel_rfl) ?_
      refine then_norm ?_
      refine w_cond (t := ((r3) != 0)) rfl (fun hc => ?_) (fun hc => ?_)
      · replace h := h.1 (is_ne.t hc)
        refine w_seq ?_
        refine w_run [0, 0, 0, 0, 0, 0, 0, 0, 0, 0, 1, 0, 0, 0, 0, 1, 0, 0, 0, 0, 1, 0, 0, 0] ?_
        obtain ⟨len28, hl, h⟩ := h
        refine t_len true r8 len28 H26 (by kernel_rfl) hl ?_
        obtain ⟨len29, hl, h⟩ := h
        refine t_len true r9 len29 H26 (by kernel_rfl) hl ?_
        obtain ⟨len30, hl, h⟩ := h
        refine t_len true r15 len30 H26 (by kernel_rfl) hl ?_
        refine t_done [capacities0, scripts1, (.int .i64 ticks2), (.bool (((((((r10) == r3) && (((r11) == r4) && true)) && (((r16) == r3) && (((r17) == r4) && true))) && (((len28 : Int)) == 0)) && (((len29 : Int)) == 0)) && (((len30 : Int)) == 0))), (.agg [(.int .i64 r3), (.int .i64 r4)]), (.bool (!(((r24) == r3) && (((r25) == r4) && true)))), (.bool ((r3) != 0)), (.agg [(.int .i64 r10), (.int .i64 r11)]), (.agg [(.int .i64 r16), (.int .i64 r17)]), r8, r9, r15, .undef, .undef, .undef, .undef, .undef, .undef, .undef, .undef] H26 (by kernel_rfl) ?_
        refine then_norm ?_
        refine w_ret ?_
        refine then_ret ?_
        exact body_ret (vs := [(.bool (((((((r10) == r3) && (((r11) == r4) && true)) && (((r16) == r3) && (((r17) == r4) && true))) && (((len28 : Int)) == 0)) && (((len29 : Int)) == 0)) && (((len30 : Int)) == 0)))]) _ (by kernel_rfl) rfl h
      · replace h := h.2 (is_ne.f hc)
        refine w_skip ?_
        refine then_norm ?_
        refine w_seq ?_
        refine w_run [0] ?_
        refine t_done [capacities0, scripts1, (.int .i64 ticks2), (.bool false), (.agg [(.int .i64 r3), (.int .i64 r4)]), (.bool (!(((r24) == r3) && (((r25) == r4) && true)))), (.bool ((r3) != 0)), (.agg [(.int .i64 r10), (.int .i64 r11)]), (.agg [(.int .i64 r16), (.int .i64 r17)]), r8, r9, r15, .undef, .undef, .undef, .undef, .empty, .undef, .undef, .undef] H26 (by kernel_rfl) ?_
        refine then_norm ?_
        refine w_seq ?_
        refine w_run [0, 0, 1, 1, 0] ?_
        refine t_call true nFSimulate [capacities0, scripts1, (.int .i64 2600)] H26 (by kernel_rfl) h ?_
        clear h
        rintro r31 H32 h
        refine t_call true nFWorld_Left [r31] H32 (by kernel_rfl) h ?_
        clear h
        rintro r34 H35 h
        refine t_done [capacities0, scripts1, (.int .i64 ticks2), (.bool false), (.agg [(.int .i64 r3), (.int .i64 r4)]), (.bool (!(((r24) == r3) && (((r25) == r4) && true)))), (.bool ((r3) != 0)), (.agg [(.int .i64 r10), (.int .i64 r11)]), (.agg [(.int .i64 r16), (.int .i64 r17)]), r8, r9, r15, .undef, r34, .undef, .undef, .empty, .undef, .undef, .undef] H35 (by kernel_rfl) ?_
        refine then_norm ?_
        refine w_seq ?_
        refine w_seq ?_
        refine w_run [0] ?_
        refine t_done [capacities0, scripts1, (.int .i64 ticks2), (.bool false), (.agg [(.int .i64 r3), (.int .i64 r4)]), (.bool (!(((r24) == r3) && (((r25) == r4) && true)))), (.bool ((r3) != 0)), (.agg [(.int .i64 r10), (.int .i64 r11)]), (.agg [(.int .i64 r16), (.int .i64 r17)]), r8, r9, r15, (.int .i64 0), r34, .undef, .undef, .empty, .undef, .undef, .undef] H35 (by kernel_rfl) ?_
        refine then_norm ?_
        refine w_block ?_
        obtain ⟨J37, k38, h0, h⟩ := h
        refine w_loop (I := fun mI EI HI => ∃ (i40 : Int) (d41 : AV) (d42 : AV) (stuck43 : AV), EI = [capacities0, scripts1, (.int .i64 ticks2), (.bool false), (.agg [(.int .i64 r3), (.int .i64 r4)]), (.bool (!(((r24) == r3) && (((r25) == r4) && true)))), (.bool ((r3) != 0)), (.agg [(.int .i64 r10), (.int .i64 r11)]), (.agg [(.int .i64 r16), (.int .i64 r17)]), r8, r9, r15, (.int .i64 i40), r34, d41, d42, stuck43, .undef, .undef, .undef] ∧ J37 mI i40 stuck43 HI) ?_ k38 ⟨_, _, _, _, rfl, h0⟩
        clear h0
        rintro m39 EI H44 ⟨i40, d41, d42, stuck43, rfl, hJ⟩
        replace h := h m39 i40 stuck43 H44 hJ
        clear hJ
        refine w_seq ?_
        refine w_seq ?_
        refine w_run [0, 0, 1, 0] ?_
        obtain ⟨len45, hl, h⟩ := h
        refine t_len true r34 len45 H44 (by kernel_rfl) hl ?_
        refine t_done [capacities0, scripts1, (.int .i64 ticks2), (.bool false), (.agg [(.int .i64 r3), (.int .i64 r4)]), (.bool (!(((r24) == r3) && (((r25) == r4) && true)))), (.bool ((r3) != 0)), (.agg [(.int .i64 r10), (.int .i64 r11)]), (.agg [(.int .i64 r16), (.int .i64 r17)]), r8, r9, r15, (.int .i64 i40), r34, (.bool (decide (i40 < (len45 : Int)))), d42, stuck43, .undef, .undef, .undef] H44 (by kernel_rfl) ?_
        refine then_norm ?_
        refine w_cond (t := (decide (i40 < (len45 : Int)))) rfl (fun hc => ?_) (fun hc => ?_)
        · replace h := h.1 (is_dec.t hc)
          refine w_skip ?_
          refine then_norm ?_
          refine w_seq ?_
          refine w_block ?_
          refine w_seq ?_
          refine w_run [0, 0, 1, 1, 0] ?_
          obtain ⟨e46, hg47, h⟩ := h
          refine t_idxG true 1 r34 .i64 i40 H44 (by kernel_rfl) hg47 ?_
          refine t_loadG true none 1 r34 i40 0 (.int .i64 e46) H44 (by kernel_rfl) hg47 ?_
          refine t_done [capacities0, scripts1, (.int .i64 ticks2), (.bool false), (.agg [(.int .i64 r3), (.int .i64 r4)]), (.bool (!(((r24) == r3) && (((r25) == r4) && true)))), (.bool ((r3) != 0)), (.agg [(.int .i64 r10), (.int .i64 r11)]), (.agg [(.int .i64 r16), (.int .i64 r17)]), r8, r9, r15, (.int .i64 i40), r34, (.bool (decide (i40 < (len45 : Int)))), (.bool (decide (e46 > 0))), stuck43, .undef, .undef, .undef] H44 (by kernel_rfl) ?_
          refine then_norm ?_
          refine w_cond (t := (decide (e46 > 0))) rfl (fun hc => ?_) (fun hc => ?_)
          · replace h := h.1 (is_dec.t hc)
            refine w_run [0, 0, 1, 1, 0] ?_
            obtain ⟨b48, H49, hb⟩ : ∃ b H', NewB H44 1 [(.int .i64 i40)] b H' := ⟨_, _, rfl, rfl⟩
            replace h := h b48 H49 hb
            refine t_bs true 1 [(.int .i64 0)] [(0, 1, .loc 0)] 1 [(.int .i64 i40)] [(.int .i64 i40)] b48 H49 H44 (by kernel_rfl) (fill_c (vs := [(.int .i64 i40)]) (size := 1) rfl (by kernel_rfl) (by kernel_rfl) (by kernel_rfl)) hb ?_
            obtain ⟨a50, H51, ha, h⟩ := h
            refine t_app true 1 8 stuck43 (.slice b48 0 1 (some 1)) a50 H51 H49 (by kernel_rfl) ha ?_
            refine t_done [capacities0, scripts1, (.int .i64 ticks2), (.bool false), (.agg [(.int .i64 r3), (.int .i64 r4)]), (.bool (!(((r24) == r3) && (((r25) == r4) && true)))), (.bool ((r3) != 0)), (.agg [(.int .i64 r10), (.int .i64 r11)]), (.agg [(.int .i64 r16), (.int .i64 r17)]), r8, r9, r15, (.int .i64 i40), r34, (.bool (decide (i40 < (len45 : Int)))), (.bool (decide (e46 > 0))), a50, .undef, .undef, .undef] H51 (by kernel_rfl) ?_
            refine block_norm ?_
            refine then_norm ?_
            refine w_run [0, 0, 0] ?_
            refine t_done [capacities0, scripts1, (.int .i64 ticks2), (.bool false), (.agg [(.int .i64 r3), (.int .i64 r4)]), (.bool (!(((r24) == r3) && (((r25) == r4) && true)))), (.bool ((r3) != 0)), (.agg [(.int .i64 r10), (.int .i64 r11)]), (.agg [(.int .i64 r16), (.int .i64 r17)]), r8, r9, r15, (.int .i64 (IntKind.wrap .i64 (i40 + 1))), r34, (.bool (decide (i40 < (len45 : Int)))), (.bool (decide (e46 > 0))), a50, .undef, .undef, .undef] H51 (by kernel_rfl) ?_
            obtain ⟨m', hm, h⟩ := h
            refine loop_norm ⟨m', hm, _, _, _, _, rfl, h⟩
          · replace h := h.2 (is_dec.f hc)
            refine w_skip ?_
            refine block_norm ?_
            refine then_norm ?_
            refine w_run [0, 0, 0] ?_
            refine t_done [capacities0, scripts1, (.int .i64 ticks2), (.bool false), (.agg [(.int .i64 r3), (.int .i64 r4)]), (.bool (!(((r24) == r3) && (((r25) == r4) && true)))), (.bool ((r3) != 0)), (.agg [(.int .i64 r10), (.int .i64 r11)]), (.agg [(.int .i64 r16), (.int .i64 r17)]), r8, r9, r15, (.int .i64 (IntKind.wrap .i64 (i40 + 1))), r34, (.bool (decide (i40 < (len45 : Int)))), (.bool (decide (e46 > 0))), stuck43, .undef, .undef, .undef] H44 (by kernel_rfl) ?_
            obtain ⟨m', hm, h⟩ := h
            refine loop_norm ⟨m', hm, _, _, _, _, rfl, h⟩
        · replace h := h.2 (is_dec.f hc)
          refine w_exit ?_
          refine then_exit ?_
          refine loop_exit ?_
          refine block_exit ?_
          refine then_norm ?_
          refine w_seq ?_
          refine w_seq ?_
          refine w_run [0, 0, 0, 0, 0, 0, 3, 2, 0] ?_
          refine t_gd ((r16) != 0) false (by kernel_rfl) (fun hc => ?_) (fun hc => ?_)
          · replace h := h.2 (is_ne.f hc)
            refine t_call true nFEqualInts [r15, stuck43] H44 (by kernel_rfl) h ?_
            clear h
            rintro _ H55 ⟨r54, rfl, h⟩
            refine t_gd false false (by kernel_rfl) (fun _ => ?_) (fun hn => by cases hn)
            refine t_done [capacities0, scripts1, (.int .i64 ticks2), (.bool false), (.agg [(.int .i64 r3), (.int .i64 r4)]), (.bool (!(((r24) == r3) && (((r25) == r4) && true)))), (.bool ((r3) != 0)), (.agg [(.int .i64 r10), (.int .i64 r11)]), (.agg [(.int .i64 r16), (.int .i64 r17)]), r8, r9, r15, (.int .i64 i40), r34, (.bool (decide (i40 < (len45 : Int)))), d42, stuck43, (.bool (!r54)), .undef, .undef] H55 (by kernel_rfl) ?_
            refine then_norm ?_
            refine w_cond (t := (!r54)) rfl (fun hc => ?_) (fun hc => ?_)
            · replace h := h.1 ((is_not is_raw).t hc)
              refine w_seq ?_
              refine w_run [0] ?_
              refine t_done [capacities0, scripts1, (.int .i64 ticks2), (.bool false), (.agg [(.int .i64 r3), (.int .i64 r4)]), (.bool (!(((r24) == r3) && (((r25) == r4) && true)))), (.bool ((r3) != 0)), (.agg [(.int .i64 r10), (.int .i64 r11)]), (.agg [(.int .i64 r16), (.int .i64 r17)]), r8, r9, r15, (.int .i64 i40), r34, (.bool (decide (i40 < (len45 : Int)))), d42, stuck43, (.bool (!r54)), .undef, .undef] H55 (by kernel_rfl) ?_
              refine then_norm ?_
              refine w_ret ?_
              refine then_ret ?_
              exact body_ret (vs := [(.bool false)]) _ (by kernel_rfl) rfl h
            · replace h := h.2 ((is_not is_raw).f hc)
              refine w_skip ?_
              refine then_norm ?_
              refine w_seq ?_
              refine w_seq ?_
              refine w_run [0, 0, 0, 0, 0, 0] ?_
              refine t_done [capacities0, scripts1, (.int .i64 ticks2), (.bool false), (.agg [(.int .i64 r3), (.int .i64 r4)]), (.bool (!(((r24) == r3) && (((r25) == r4) && true)))), (.bool ((r3) != 0)), (.agg [(.int .i64 r10), (.int .i64 r11)]), (.agg [(.int .i64 r16), (.int .i64 r17)]), r8, r9, r15, (.int .i64 i40), r34, (.bool (decide (i40 < (len45 : Int)))), d42, stuck43, (.bool (!r54)), (.bool ((decide (ticks2 < 0)) || (decide (ticks2 > 60)))), .undef] H55 (by kernel_rfl) ?_
              refine then_norm ?_
              refine w_cond (t := ((decide (ticks2 < 0)) || (decide (ticks2 > 60)))) rfl (fun hc => ?_) (fun hc => ?_)
              · replace h := h.1 ((is_or is_dec is_dec).t hc)
                refine w_seq ?_
                refine w_run [0, 1, 0, 0, 0, 1, 0, 0, 0, 0, 1, 0, 0, 0] ?_
                refine t_call false nFFault [(.int .i64 3), (.int .i64 (-20))] H55 (by kernel_rfl) h ?_
                clear h
                rintro _ H59 ⟨r57, r58, rfl, h⟩
                obtain ⟨len61, hl, h⟩ := h
                refine t_len true r8 len61 H59 (by kernel_rfl) hl ?_
                obtain ⟨len62, hl, h⟩ := h
                refine t_len true r9 len62 H59 (by kernel_rfl) hl ?_
                refine t_done [capacities0, scripts1, (.int .i64 ticks2), (.bool (((((r10) == r57) && (((r11) == r58) && true)) && (((len61 : Int)) == 0)) && (((len62 : Int)) == 0))), (.agg [(.int .i64 r3), (.int .i64 r4)]), (.bool (!(((r24) == r3) && (((r25) == r4) && true)))), (.bool ((r3) != 0)), (.agg [(.int .i64 r10), (.int .i64 r11)]), (.agg [(.int .i64 r16), (.int .i64 r17)]), r8, r9, r15, (.int .i64 i40), r34, (.bool (decide (i40 < (len45 : Int)))), d42, stuck43, (.bool (!r54)), (.bool ((decide (ticks2 < 0)) || (decide (ticks2 > 60)))), .undef] H59 (by kernel_rfl) ?_
                refine then_norm ?_
                refine w_ret ?_
                refine then_ret ?_
                exact body_ret (vs := [(.bool (((((r10) == r57) && (((r11) == r58) && true)) && (((len61 : Int)) == 0)) && (((len62 : Int)) == 0)))]) _ (by kernel_rfl) rfl h
              · replace h := h.2 ((is_or is_dec is_dec).f hc)
                refine w_skip ?_
                refine then_norm ?_
                refine w_seq ?_
                refine w_run [0, 0, 0, 1, 0] ?_
                refine t_call true nFSimulate [capacities0, scripts1, (.int .i64 ticks2)] H55 (by kernel_rfl) h ?_
                clear h
                rintro r63 H64 h
                refine t_done [capacities0, scripts1, (.int .i64 ticks2), (.bool false), (.agg [(.int .i64 r3), (.int .i64 r4)]), (.bool (!(((r24) == r3) && (((r25) == r4) && true)))), (.bool ((r3) != 0)), (.agg [(.int .i64 r10), (.int .i64 r11)]), (.agg [(.int .i64 r16), (.int .i64 r17)]), r8, r9, r15, (.int .i64 i40), r34, (.bool (decide (i40 < (len45 : Int)))), d42, stuck43, (.bool (!r54)), (.bool ((decide (ticks2 < 0)) || (decide (ticks2 > 60)))), r63] H64 (by kernel_rfl) ?_
                refine then_norm ?_
                refine w_seq ?_
                refine w_run [0, 0, 0, 0, 0, 0, 3, 3, 3, 3, 0, 0, 0, 0, 3, 3, 0, 0] ?_
                refine t_gd ((r10) == 0) true (by kernel_rfl) (fun hc => ?_) (fun hc => ?_)
                · replace h := h.1 (is_eq.t hc)
                  obtain ⟨b66, o67, rfl, h⟩ := h
                  refine t_ptr true b66 o67 H64 (by kernel_rfl) ?_
                  refine t_gd true true (by kernel_rfl) (fun _ => ?_) (fun hn => by cases hn)
                  refine t_op true (.fieldAddr 26 (.loc 0)) [.ptr b66 o67] H64 (.ptr b66 (o67 + 26)) H64 (by kernel_rfl) rfl ?_
                  refine t_gd true true (by kernel_rfl) (fun _ => ?_) (fun hn => by cases hn)
                  obtain ⟨e68, hl, h⟩ := h
                  refine t_load true none b66 (o67 + 26) e68 H64 (by kernel_rfl) hl ?_
                  refine t_gd true true (by kernel_rfl) (fun _ => ?_) (fun hn => by cases hn)
                  refine t_call true nFEqualResults [r8, e68] H64 (by kernel_rfl) h ?_
                  clear h
                  rintro _ H70 ⟨r69, rfl, h⟩
                  refine t_gd r69 true (by kernel_rfl) (fun hc => ?_) (fun hc => ?_)
                  · replace h := h.1 (is_raw.t hc)
                    refine t_call true nFWorld_Left [(.ptr b66 o67)] H70 (by kernel_rfl) h ?_
                    clear h
                    rintro r72 H73 h
                    refine t_gd true true (by kernel_rfl) (fun _ => ?_) (fun hn => by cases hn)
                    refine t_call true nFEqualInts [r9, r72] H73 (by kernel_rfl) h ?_
                    clear h
                    rintro _ H76 ⟨r75, rfl, h⟩
                    refine t_done [capacities0, scripts1, (.int .i64 ticks2), (.bool r75), (.agg [(.int .i64 r3), (.int .i64 r4)]), (.bool (!(((r24) == r3) && (((r25) == r4) && true)))), (.bool ((r3) != 0)), (.agg [(.int .i64 r10), (.int .i64 r11)]), (.agg [(.int .i64 r16), (.int .i64 r17)]), r8, r9, r15, (.int .i64 i40), r34, (.bool (decide (i40 < (len45 : Int)))), d42, stuck43, (.bool (!r54)), (.bool ((decide (ticks2 < 0)) || (decide (ticks2 > 60)))), (.ptr b66 o67)] H76 (by kernel_rfl) ?_
                    refine then_norm ?_
                    refine w_ret ?_
                    exact body_ret (vs := [(.bool r75)]) _ (by kernel_rfl) rfl h
                  · replace h := h.2 (is_raw.f hc)
                    refine t_gd false true (by kernel_rfl) (fun hn => by cases hn) (fun _ => ?_)
                    refine t_done [capacities0, scripts1, (.int .i64 ticks2), (.bool false), (.agg [(.int .i64 r3), (.int .i64 r4)]), (.bool (!(((r24) == r3) && (((r25) == r4) && true)))), (.bool ((r3) != 0)), (.agg [(.int .i64 r10), (.int .i64 r11)]), (.agg [(.int .i64 r16), (.int .i64 r17)]), r8, r9, r15, (.int .i64 i40), r34, (.bool (decide (i40 < (len45 : Int)))), d42, stuck43, (.bool (!r54)), (.bool ((decide (ticks2 < 0)) || (decide (ticks2 > 60)))), (.ptr b66 o67)] H70 (by kernel_rfl) ?_
                    refine then_norm ?_
                    refine w_ret ?_
                    exact body_ret (vs := [(.bool false)]) _ (by kernel_rfl) rfl h
                · replace h := h.2 (is_eq.f hc)
                  refine t_gd false true (by kernel_rfl) (fun hn => by cases hn) (fun _ => ?_)
                  refine t_gd false true (by kernel_rfl) (fun hn => by cases hn) (fun _ => ?_)
                  refine t_gd false true (by kernel_rfl) (fun hn => by cases hn) (fun _ => ?_)
                  refine t_gd false true (by kernel_rfl) (fun hn => by cases hn) (fun _ => ?_)
                  refine t_gd false true (by kernel_rfl) (fun hn => by cases hn) (fun _ => ?_)
                  refine t_done [capacities0, scripts1, (.int .i64 ticks2), (.bool false), (.agg [(.int .i64 r3), (.int .i64 r4)]), (.bool (!(((r24) == r3) && (((r25) == r4) && true)))), (.bool ((r3) != 0)), (.agg [(.int .i64 r10), (.int .i64 r11)]), (.agg [(.int .i64 r16), (.int .i64 r17)]), r8, r9, r15, (.int .i64 i40), r34, (.bool (decide (i40 < (len45 : Int)))), d42, stuck43, (.bool (!r54)), (.bool ((decide (ticks2 < 0)) || (decide (ticks2 > 60)))), r63] H64 (by kernel_rfl) ?_
                  refine then_norm ?_
                  refine w_ret ?_
                  exact body_ret (vs := [(.bool false)]) _ (by kernel_rfl) rfl h
          · replace h := h.1 (is_ne.t hc)
            refine t_gd true false (by kernel_rfl) (fun hn => by cases hn) (fun _ => ?_)
            refine t_done [capacities0, scripts1, (.int .i64 ticks2), (.bool false), (.agg [(.int .i64 r3), (.int .i64 r4)]), (.bool (!(((r24) == r3) && (((r25) == r4) && true)))), (.bool ((r3) != 0)), (.agg [(.int .i64 r10), (.int .i64 r11)]), (.agg [(.int .i64 r16), (.int .i64 r17)]), r8, r9, r15, (.int .i64 i40), r34, (.bool (decide (i40 < (len45 : Int)))), d42, stuck43, (.bool true), .undef, .undef] H44 (by kernel_rfl) ?_
            refine then_norm ?_
            refine w_cond (t := true) rfl (fun _ => ?_) (fun hc => by cases hc)
            refine w_seq ?_
            refine w_run [0] ?_
            refine t_done [capacities0, scripts1, (.int .i64 ticks2), (.bool false), (.agg [(.int .i64 r3), (.int .i64 r4)]), (.bool (!(((r24) == r3) && (((r25) == r4) && true)))), (.bool ((r3) != 0)), (.agg [(.int .i64 r10), (.int .i64 r11)]), (.agg [(.int .i64 r16), (.int .i64 r17)]), r8, r9, r15, (.int .i64 i40), r34, (.bool (decide (i40 < (len45 : Int)))), d42, stuck43, (.bool true), .undef, .undef] H44 (by kernel_rfl) ?_
            refine then_norm ?_
            refine w_ret ?_
            refine then_ret ?_
            exact body_ret (vs := [(.bool false)]) _ (by kernel_rfl) rfl h
  · replace h := h.1 ((is_not is_raw).t hc)
    refine t_gd true false (by kernel_rfl) (fun hn => by cases hn) (fun _ => ?_)
    refine t_done [capacities0, scripts1, (.int .i64 ticks2), (.bool false), (.agg [(.int .i64 r3), (.int .i64 r4)]), (.bool true), .undef, (.agg [(.int .i64 r10), (.int .i64 r11)]), (.agg [(.int .i64 r16), (.int .i64 r17)]), r8, r9, r15, .undef, .undef, .undef, .undef, .undef, .undef, .undef, .undef] H22 (by kernel_rfl) ?_
    refine then_norm ?_
    refine w_cond (t := true) rfl (fun _ => ?_) (fun hc => by cases hc)
    refine w_seq ?_
    refine w_run [0] ?_
    refine t_done [capacities0, scripts1, (.int .i64 ticks2), (.bool false), (.agg [(.int .i64 r3), (.int .i64 r4)]), (.bool true), .undef, (.agg [(.int .i64 r10), (.int .i64 r11)]), (.agg [(.int .i64 r16), (.int .i64 r17)]), r8, r9, r15, .undef, .undef, .undef, .undef, .undef, .undef, .undef, .undef] H22 (by kernel_rfl) ?_
    refine then_norm ?_
    refine w_ret ?_
    refine then_ret ?_
    exact body_ret (vs := [(.bool false)]) _ (by kernel_rfl) rfl h

def rf_LDeadlineChannelsAreQueues (ndeadline_Run nLdeadlineExample nLsender : Nat) : RFunc := ⟨3, 16, [.var 3],
 ((.seq (.ops [⟨.move (.k (.bool false)), none, (some 3), true⟩])
 ((.seq (.ops [⟨.move (.var 0), none, none, true⟩, ⟨.move (.var 1), none, none, true⟩, ⟨.move (.var 2), none, none, true⟩, ⟨.callS ndeadline_Run [(.loc 0), (.loc 1), (.loc 2)], none, none, true⟩, ⟨.move (.loc 3), none, none, true⟩, ⟨.extract (.loc 4) 0, none, none, true⟩, ⟨.extract (.loc 4) 1, none, none, true⟩, ⟨.extract (.loc 4) 2, none, none, true⟩, ⟨.tomb 1 (.k (.agg [.int .i64 0, .int .i64 0])), none, (some 5), true⟩, ⟨.move (.loc 5), none, (some 9), true⟩, ⟨.move (.loc 6), none, none, true⟩, ⟨.upd 2 0 (.loc 8) (.loc 7), none, (some 5), true⟩])
 ((.seq ((.seq (.ops [⟨.callS nLdeadlineExample [], none, none, true⟩, ⟨.un .not (.loc 0), none, (some 4), true⟩])
 (.cond (.var 4) ((.seq (.ops [⟨.move (.k (.bool false)), none, (some 3), true⟩])
 (.ret))) (.skip))))
 ((.seq ((.seq (.ops [⟨.move (.k (.int .i64 0)), none, (some 6), true⟩])
 (.block 0 (.loop ((.seq ((.seq (.ops [⟨.field 0 none (.var 5), none, none, true⟩, ⟨.field 0 none (.var 5), none, none, true⟩, ⟨.bin .eql .no (.loc 1) (.k (.int .i64 0)), none, none, true⟩, ⟨.move (.loc 2), none, none, true⟩, ⟨.move (.var 6), none, none, true⟩, ⟨.move (.var 0), none, none, true⟩, ⟨.len (.loc 5), none, none, true⟩, ⟨.bin .lss .no (.loc 4) (.loc 6), none, none, true⟩, ⟨.pick (.loc 3) (.loc 7) (.k (.bool false)), none, (some 7), true⟩])
 (.cond (.var 7) (.skip) (.exit 0))))
 ((.seq (.block 1 ((.seq (.ops [⟨.move (.k (.empty)), none, (some 13), true⟩])
 ((.seq (.ops [⟨.move (.k (.int .i64 0)), none, (some 8), true⟩])
 (.block 2 (.loop ((.seq ((.seq (.ops [⟨.move (.var 8), none, none, true⟩, ⟨.move (.var 9), none, none, true⟩, ⟨.len (.loc 1), none, none, true⟩, ⟨.bin .lss .no (.loc 0) (.loc 2), none, (some 10), true⟩])
 (.cond (.var 10) (.skip) (.exit 2))))
 ((.seq (.block 3 ((.seq ((.seq (.ops [⟨.move (.var 9), none, none, true⟩, ⟨.move (.var 8), none, none, true⟩, ⟨.indexAddr 4 (.loc 0) (.loc 1), none, none, true⟩, ⟨.fieldAddr 2 (.loc 2), none, none, true⟩, ⟨.load none (.loc 3), none, none, true⟩, ⟨.move (.var 6), none, none, true⟩, ⟨.bin .neq .no (.loc 4) (.loc 5), none, (some 11), true⟩])
 (.cond (.var 11) (.exit 3) (.skip))))
 ((.seq ((.seq (.ops [⟨.move (.var 1), none, none, true⟩, ⟨.move (.var 9), none, none, true⟩, ⟨.move (.var 8), none, none, true⟩, ⟨.callS nLsender [(.loc 0), (.loc 1), (.loc 2)], none, (some 12), true⟩])
 (.cond (.var 12) ((.seq (.ops [⟨.move (.var 13), none, none, true⟩, ⟨.move (.var 9), none, none, true⟩, ⟨.move (.var 8), none, none, true⟩, ⟨.indexAddr 4 (.loc 1) (.loc 2), none, none, true⟩, ⟨.fieldAddr 3 (.loc 3), none, none, true⟩, ⟨.load none (.loc 4), none, none, true⟩, ⟨.buildSlice 1 [.int .i64 0] [(0, 1, (.loc 5))] 1, none, none, true⟩, ⟨.append 1 8 (.loc 0) (.loc 6), none, none, true⟩, ⟨.move (.loc 7), none, (some 13), true⟩])
 ((.seq ((.seq (.ops [⟨.move (.var 13), none, none, true⟩, ⟨.len (.loc 0), none, none, true⟩, ⟨.move (.var 0), none, none, true⟩, ⟨.move (.var 6), none, none, true⟩, ⟨.indexAddr 1 (.loc 2) (.loc 3), none, none, true⟩, ⟨.load none (.loc 4), none, none, true⟩, ⟨.bin .gtr .no (.loc 1) (.loc 5), none, (some 14), true⟩])
 (.cond (.var 14) ((.seq (.ops [⟨.move (.k (.bool false)), none, (some 3), true⟩])
 (.ret))) (.skip))))
 (.exit 3))))) (.skip))))
 ((.seq ((.seq (.ops [⟨.move (.var 13), none, none, true⟩, ⟨.len (.loc 0), none, none, true⟩, ⟨.bin .eql .no (.loc 1) (.k (.int .i64 0)), none, none, true⟩, ⟨.move (.loc 2), none, none, true⟩, ⟨.move (.var 13), none, none, false⟩, ⟨.indexAddr 1 (.loc 4) (.k (.int .i64 0)), (some (3, false)), none, false⟩, ⟨.load none (.loc 5), (some (3, false)), none, false⟩, ⟨.move (.var 9), none, none, false⟩, ⟨.move (.var 8), none, none, false⟩, ⟨.indexAddr 4 (.loc 7) (.loc 8), (some (3, false)), none, false⟩, ⟨.fieldAddr 3 (.loc 9), (some (3, false)), none, false⟩, ⟨.load none (.loc 10), (some (3, false)), none, false⟩, ⟨.bin .neq .no (.loc 6) (.loc 11), (some (3, false)), none, true⟩, ⟨.pick (.loc 3) (.k (.bool true)) (.loc 12), none, (some 15), true⟩])
 (.cond (.var 15) ((.seq (.ops [⟨.move (.k (.bool false)), none, (some 3), true⟩])
 (.ret))) (.skip))))
 (.ops [⟨.move (.var 13), none, none, true⟩, ⟨.slice 1 (.loc 0) (some (.k (.int .i64 1))) none none, none, none, true⟩, ⟨.move (.loc 1), none, (some 13), true⟩]))))))))
 (.ops [⟨.move (.var 8), none, none, true⟩, ⟨.bin .add .no (.loc 0) (.k (.int .i64 1)), none, none, true⟩, ⟨.move (.loc 1), none, (some 8), true⟩]))))))))))))
 (.ops [⟨.move (.var 6), none, none, true⟩, ⟨.bin .add .no (.loc 0) (.k (.int .i64 1)), none, none, true⟩, ⟨.move (.loc 1), none, (some 6), true⟩])))))))))
 ((.seq (.ops [⟨.move (.k (.bool true)), none, (some 3), true⟩])
 (.ret))))))))))), none⟩
end Go.RM

/-
  The document's run and what is left; results compared; Run and Stuck in one form; the law's example; whose result is a sent value.
-/
namespace Go.RM
set_option linter.unusedSimpArgs false
set_option linter.unusedVariables false
namespace De
variable {F : Nat → Option RFunc}

abbrev SimC (F : Nat → Option RFunc) (f : Nat) : Prop := ∀ {fl H Q cv sv} {caps : List Int} {scr : List (List Op)} {n : Int}, Ints H cv caps → Arr (tArr tOp) H sv scr → valE caps scr = (0, 0) → n ≤ 100000 → fl ≤ H.length →
  (∀ own wb svs rv d H', Wst H caps scr own H' wb cv sv svs rv d → Rel caps scr d (runP caps n.toNat (startP caps scr)) → Q (.ptr wb 0) H') → Ret F fl f [cv, sv, i64 n] H Q
theorem simulate_c {f n1 : Nat} (hF : F f = some (rf_FSimulate n1)) (h1 : PassC F n1) : SimC F f := fun {fl H Q cv sv caps scr n} hc hs hv hn hfl hq => by
  refine v_FSimulate hF _ _ _ ?_
  obtain ⟨ok0, c4, s5⟩ := start_ok hv
  refine ⟨hc.scal, hs.scal, ?_⟩
  intro b5 H6 n6
  have e5 := n6.b_eq
  have w0 : Wst H caps scr (fun x => if x = b5 then some .w else none) H6 b5 cv sv [.empty, .empty, .empty, .empty] .empty ⟨[[], [], [], []], [0, 0, 0, 0], [0, 0, 0, 0, 0], [0, 0, 0, 0, 0], [false, false, false, false, false], 0, []⟩ := by
    refine ⟨n6.keep, n6.box, hc, hs, ⟨rfl, rfl, rfl, rfl, rfl⟩, rfl, fun i v l h1 h2 => ?_, Own.nil, ⟨if_pos rfl, by omega⟩, fun i v b h1 h2 => ?_, fun b hb => absurd hb at_empty⟩
    · match i with
      | 0 | 1 | 2 | 3 => cases h1; cases h2; exact Gr.nil
      | n + 4 => simp at h1
    · match i with
      | 0 | 1 | 2 | 3 => cases h1; exact absurd h2 at_empty
      | n + 4 => simp at h1
  have r0 : Rel caps scr ⟨[[], [], [], []], [0, 0, 0, 0], [0, 0, 0, 0, 0], [0, 0, 0, 0, 0], [false, false, false, false, false], 0, []⟩ (startP caps scr) := by
    have g1 : ∀ c, ([[], [], [], []] : List (List Int)).getD c [] = [] := fun c => match c with
      | 0 | 1 | 2 | 3 => rfl
      | n + 4 => rfl
    have g2 : ∀ c, ([0, 0, 0, 0] : List Nat).getD c 0 = 0 := fun c => match c with
      | 0 | 1 | 2 | 3 => rfl
      | n + 4 => rfl
    have g3 : ∀ c, ([0, 0, 0, 0, 0] : List Nat).getD c 0 = 0 := fun c => match c with
      | 0 | 1 | 2 | 3 | 4 => rfl
      | n + 5 => rfl
    have g4 : ∀ c, ([0, 0, 0, 0, 0] : List Int).getD c 0 = 0 := fun c => match c with
      | 0 | 1 | 2 | 3 | 4 => rfl
      | n + 5 => rfl
    refine ⟨rfl, rfl, by simp [startP], by simp [startP], by simp [startP], fun c hc => ?_, fun p hp => ?_, fun p hp => ?_, fun c => ?_, fun p hp => by simp only; rw [g3]; exact Nat.zero_le _⟩
    · simp only
      rw [g1, g2]
      refine ⟨Nat.le_refl _, ?_⟩
      simp only [startP, List.getD_eq_getElem?_getD, List.getElem?_map]
      cases caps[c]? <;> rfl
    · simp only
      rw [g3]; rfl
    · simp only
      rw [g4]
      simp only [startP, List.getD_eq_getElem?_getD, List.getElem?_map]
      cases scr[p]? <;> rfl
    · simp only
      rw [g1]; exact Nat.zero_le _
  refine ⟨fun m v H' => ∃ (j : Nat) (own : Nat → Option Wh) (svs : List AV) (rv : AV) (d : Wd), v = j ∧ j + m = n.toNat ∧ Wst H caps scr own H' b5 cv sv svs rv d ∧ Rel caps scr d (runP caps j (startP caps scr)), n.toNat, ⟨0, _, _, _, _, rfl, by omega, w0, r0⟩, ?_⟩
  rintro m _ H12 ⟨j, own, svs, rv, d, rfl, hm, w, r⟩
  refine ⟨fun hlt => ?_, fun hge => ?_⟩
  · have htj := run_tick (caps := caps) j (s := startP caps scr)
    refine h1 w r (run_ok j ok0) c4 s5 (by rw [htj]; simp only [startP]; omega) hfl fun own' H' svs' rv' d' w' r' => ⟨rfl, m - 1, by omega, j + 1, own', svs', rv', d', wsucc (n := n.toNat) (by omega) (by omega), by omega, w', ?_⟩
    rw [run_succ]; exact r'
  · have : j = n.toNat := by omega
    subst this
    exact hq _ _ _ _ _ _ w r

abbrev LeftC (F : Nat → Option RFunc) (f : Nat) : Prop := ∀ {fl H0 caps scr own H wb cv sv svs rv d s Q}, Wst H0 caps scr own H wb cv sv svs rv d → Rel caps scr d s → scr.length ≤ 5 → fl ≤ H0.length →
  (∀ w H', Keep H.length H H' → Ints H' w (s.ops.map fun l => (l.length : Int)) → Q w H') → Ret F fl f [.ptr wb 0] H Q
theorem left_c {f : Nat} (hF : F f = some rf_FWorld_Left) : LeftC F f := fun {fl H0 caps scr own H wb cv sv svs rv d s Q} w r h5 hfl hq => by
  refine v_FWorld_Left hF _ _ ?_
  have hol := r.olen
  refine ⟨fun m v o H' => ∃ j : Nat, v = j ∧ j + m = scr.length ∧ Keep H.length H H' ∧ Acc H tInt H' o ((s.ops.map fun l => (l.length : Int)).take j), scr.length, ⟨0, rfl, by omega, Keep.refl _, Acc.nil⟩, ?_⟩
  rintro m _ o H8 ⟨j, rfl, hm, hk, ho⟩
  have w8 := w.keep hk
  refine ⟨_, w8.ldS, _, (w.scr.keep w8.k).len, fun hlt => ?_, fun hge => ?_⟩
  · have hj : j < scr.length := by omega
    obtain ⟨e12, g1, g2⟩ := arr_getK w8.scr w8.k hj
    refine ⟨_, w8.ldS, _, g1, _, (g2.keep w8.k).len, ⟨by omega, by omega⟩, _, w8.ldNext (by omega), ?_⟩
    have hops := r.ops j hj
    rw [getD_get hj, getD_get (by omega)] at hops
    intro b16 H17 n16
    have hsm := g2.small
    by_cases hnx : d.next.getD j 0 ≤ scr[j].length
    · rw [wrap64 (by omega) (by omega)] at n16
      have hl : ((s.ops[j]'(by omega)).length : Int) = (scr[j].length : Int) - ((d.next.getD j 0 : Nat) : Int) := by rw [hops, List.length_drop]; omega
      obtain ⟨w', H19, q1, q2, q3, _⟩ := ho.push (fl := fl) (free := true) (bytes := 8) (a := (scr[j].length : Int) - ((d.next.getD j 0 : Nat) : Int)) rfl n16 hk (Nat.le_trans hfl (Nat.le_trans w.k.low w.k.len)) (by rw [List.length_take, List.length_map]; omega) (by omega)
      refine ⟨w', H19, q1, m - 1, by omega, j + 1, wsucc hj (by omega), by omega, q3, ?_⟩
      rw [List.take_succ_eq_append_getElem (by rw [List.length_map]; omega), List.getElem_map, hl]
      exact q2
    · exact absurd (by have := r.nx j hj; rw [getD_get hj] at this; exact this) hnx
  · rw [List.take_of_length_le (by rw [List.length_map]; omega)] at ho
    exact hq o H8 hk (ho.arr hk)

end De
end Go.RM

/-
  deadline's laws: results compared, Run and Stuck in one form, the example, and whose result is a sent value.
-/
namespace Go.RM
set_option linter.unusedSimpArgs false
set_option linter.unusedVariables false
namespace De
variable {F : Nat → Option RFunc}

theorem res_get {H : Heap} {v : AV} {l : List Res} (h : Arr tRes H v l) {i : Nat} (hi : i < l.length) : getA H 4 (some 4) v (i : Int) 0 = some (.agg (resC l[i])) := Arr.enc (enc := resC) (pos := by decide) (len := fun _ => rfl) (scal := fun _ => rfl) h hi
abbrev EqResC (F : Nat → Option RFunc) (f : Nat) : Prop := ∀ {fl H Q a b} {l m : List Res}, Arr tRes H a l → Arr tRes H b m → Q (.bool (decide (l = m))) H → Ret F fl f [a, b] H Q
theorem eqRes_c {f : Nat} (hF : F f = some rf_FEqualResults) : EqResC F f := fun {fl H Q a b l m} ha hb hq => by
  refine v_FEqualResults hF _ _ ?_
  have hs := ha.small
  refine ⟨_, ha.len, _, hb.len, fun hne => ?_, fun he => ?_⟩
  · rw [decide_eq_false (fun h => hne (by rw [h]))] at hq; exact hq
  · have he : l.length = m.length := by omega
    refine ⟨fun k v => ∃ i : Nat, v = i ∧ i + k = l.length ∧ (l.take i = m.take i), l.length, ⟨0, rfl, by omega, by simp⟩, ?_⟩
    rintro k _ ⟨i, rfl, hk, hi⟩
    refine ⟨_, ha.len, fun hlt => ?_, fun hge => ?_⟩
    · have hil : i < l.length := by omega
      refine ⟨_, _, _, _, res_get ha hil, _, _, _, _, res_get hb (show i < m.length by omega), fun hne => ?_, fun heq => ?_⟩
      · rw [decide_eq_false (fun h => hne (by subst h; exact ⟨rfl, rfl, rfl, rfl, trivial⟩))] at hq; exact hq
      · refine ⟨k - 1, by omega, i + 1, wsucc hil hs, by omega, ?_⟩
        obtain ⟨a1, a2, a3, a4, _⟩ := Classical.not_not.1 heq
        have heq : l[i] = m[i]'(by omega) := by
          cases h1 : l[i]; cases h2 : m[i]'(by omega)
          rw [h1, h2] at a1 a2 a3 a4
          simp only at a1 a2 a3 a4
          rw [a1, a2, a3, a4]
        rw [List.take_succ_eq_append_getElem hil, List.take_succ_eq_append_getElem (by omega), hi, heq]
    · rw [List.take_of_length_le (by omega), List.take_of_length_le (by omega)] at hi
      rw [decide_eq_true hi] at hq; exact hq

def runRes (caps : List Int) (scr : List (List Op)) (n : Int) : List Res := if runE caps scr n = (0, 0) then (runP caps n.toNat (startP caps scr)).res else []
def runLeft (caps : List Int) (scr : List (List Op)) (n : Int) : List Int := if runE caps scr n = (0, 0) then (runP caps n.toNat (startP caps scr)).ops.map fun l => (l.length : Int) else []
def stuckRes (caps : List Int) (scr : List (List Op)) : List Int := if valE caps scr = (0, 0) then stuckL 0 (runP caps 2600 (startP caps scr)).ops else []

abbrev RunU (F : Nat → Option RFunc) (f : Nat) : Prop := ∀ {fl H Q cv sv} {caps : List Int} {scr : List (List Op)} {n : Int}, Ints H cv caps → Arr (tArr tOp) H sv scr → fl ≤ H.length →
  (∀ rv lv H', Keep H.length H H' → Arr tRes H' rv (runRes caps scr n) → Ints H' lv (runLeft caps scr n) → Q (.tuple [rv, lv, flt (runE caps scr n).1 (runE caps scr n).2]) H') → Ret F fl f [cv, sv, i64 n] H Q
theorem run_u {f : Nat} (h : RunC F f) : RunU F f := fun {fl H Q cv sv caps scr n} hc hs hfl hq => by
  unfold runRes runLeft at hq
  refine h hc hs hfl (fun he H' k => ?_) (fun he rv lv H' k h1 h2 => ?_)
  · rw [if_neg he, if_neg he] at hq
    exact hq _ _ H' k Arr.nil Arr.nil
  · rw [if_pos he, if_pos he, he] at hq
    exact hq _ _ H' k h1 h2
abbrev StuckU (F : Nat → Option RFunc) (f : Nat) : Prop := ∀ {fl H Q cv sv} {caps : List Int} {scr : List (List Op)}, Ints H cv caps → Arr (tArr tOp) H sv scr → fl ≤ H.length →
  (∀ w H', Keep H.length H H' → Ints H' w (stuckRes caps scr) → Q (.tuple [w, flt (valE caps scr).1 (valE caps scr).2]) H') → Ret F fl f [cv, sv] H Q
theorem stuck_u {f : Nat} (h : StuckC F f) : StuckU F f := fun {fl H Q cv sv caps scr} hc hs hfl hq => by
  unfold stuckRes at hq
  refine h hc hs hfl (fun he H' k => ?_) (fun he w H' k h1 => ?_)
  · rw [if_neg he] at hq
    exact hq _ H' k Arr.nil
  · rw [if_pos he, he] at hq
    exact hq _ H' k h1

/-- The example's scripts. -/
def exS : List (List Op) := [[⟨1, 0, 5, 0, []⟩], [⟨2, 0, 0, 0, []⟩, ⟨2, 0, 0, 0, []⟩]]
theorem ex_run : runE [1] exS 3 = (0, 0) ∧ runRes [1] exS 3 = [⟨0, 0, 0, 5⟩, ⟨0, 1, 0, 5⟩] ∧ runLeft [1] exS 3 = [0, 1] := by decide
theorem ex_val : valE [1] exS = (0, 0) := by decide
theorem ex_quiet : (stepP [1] (runP [1] 2 (startP [1] exS))).2 = false ∧ stuckL 0 (runP [1] 2 (startP [1] exS)).ops = [1] := by decide
theorem ex_stuck : stuckRes [1] exS = [1] := by
  unfold stuckRes
  rw [if_pos ex_val]
  have ok := run_ok 2 (start_ok ex_val).1
  have h := run_quiet ok ex_quiet.1 2598 (runP [1] 2 (startP [1] exS)).tick
  rw [show (2600 : Nat) = 2 + 2598 from rfl, run_add]
  have e : (runP [1] 2598 (runP [1] 2 (startP [1] exS))).ops = (runP [1] 2 (startP [1] exS)).ops := by
    have : ({ runP [1] 2 (startP [1] exS) with tick := (runP [1] 2 (startP [1] exS)).tick } : Sys) = runP [1] 2 (startP [1] exS) := rfl
    rw [this] at h
    rw [h]
  rw [e]
  exact ex_quiet.2

abbrev ExC (F : Nat → Option RFunc) (f : Nat) : Prop := ∀ {fl H Q}, fl ≤ H.length → (∀ H', Keep H.length H H' → Q (.bool true) H') → Ret F fl f [] H Q
theorem ex_c {f n1 n2 n3 n4 : Nat} (hF : F f = some (rf_LdeadlineExample n1 n2 n3 n4)) (h1 : RunU F n1) (h2 : StuckU F n2) (h3 : EqResC F n3) (h4 : FEqualIntsC F n4) : ExC F f := fun {fl H Q} hfl hq => by
  refine v_LdeadlineExample hF ?_
  intro b0 H1 m1 b2 H3 m3 b4 H5 m5 b6 H7 m7
  have k1 := m1.keep
  have k3 := k1.call m3.keep
  have k5 := k3.call m5.keep
  have k7 := k5.call m7.keep
  have a0 : Arr tOp H1 (.slice b0 0 1 (some 1)) [⟨1, 0, 5, 0, []⟩] := NewB.arr (T := tOp) m1 [opC .empty ⟨1, 0, 5, 0, []⟩] rfl ⟨⟨_, rfl, Arr.nil⟩, trivial⟩ rfl
  have a2 : Arr tOp H3 (.slice b2 0 2 (some 2)) [⟨2, 0, 0, 0, []⟩, ⟨2, 0, 0, 0, []⟩] := NewB.arr (T := tOp) m3 [opC .empty ⟨2, 0, 0, 0, []⟩, opC .empty ⟨2, 0, 0, 0, []⟩] rfl ⟨⟨_, rfl, Arr.nil⟩, ⟨_, rfl, Arr.nil⟩, trivial⟩ rfl
  have a4 : Arr (tArr tOp) H5 (.slice b4 0 2 (some 2)) exS := m5.lists ⟨a0.keep m3.keep, a2, trivial⟩ rfl
  have c7 : Ints H7 (.slice b6 0 1 (some 1)) [1] := m7.ints [1] rfl rfl
  obtain ⟨x1, x2, x3⟩ := ex_run
  refine h1 (n := 3) c7 (a4.keep m7.keep) (k7.fl hfl) fun rv lv H12 k12' r1 r2 => ⟨_, _, _, _, rfl, ?_⟩
  have k12 := k7.call k12'
  intro H14 d14 b15 H16 m16
  have k14 := k12.call d14.keep
  have k16 := k14.call m16.keep
  have c16 : Ints H16 (.slice b15 0 1 (some 1)) [1] := m16.ints [1] rfl rfl
  have a16 := (((a4.keep m7.keep).keep k12').keep d14.keep).keep m16.keep
  refine h2 c16 a16 (k16.fl hfl) fun w H20 k20' r3 => ⟨_, _, _, rfl, ?_⟩
  have k20 := k16.call k20'
  intro H22 d22
  have k22 := k20.call d22.keep
  rw [x1, ex_val]
  rw [x2] at r1
  rw [x3] at r2
  rw [ex_stuck] at r3
  have kk : Keep H12.length H12 H22 := ((d14.keep.call m16.keep).call k20').call d22.keep
  have q1 := r1.keep kk
  have q2 := r2.keep kk
  have q3 := r3.keep d22.keep
  refine ⟨fun _ => ?_, fun hn => absurd ⟨rfl, rfl⟩ hn⟩
  intro b23 H24 m24
  have k24 := k22.call m24.keep
  have e24 : Arr tRes H24 (.slice b23 0 2 (some 2)) [⟨0, 0, 0, 5⟩, ⟨0, 1, 0, 5⟩] := NewB.arr (T := tRes) m24 [resC ⟨0, 0, 0, 5⟩, resC ⟨0, 1, 0, 5⟩] rfl (all2_res [⟨0, 0, 0, 5⟩, ⟨0, 1, 0, 5⟩]) rfl
  refine h3 (q1.keep m24.keep) e24 ⟨_, rfl, fun _ => ?_, fun hn => absurd (decide_eq_true rfl) hn⟩
  intro b28 H29 m29
  have k29 := k24.call m29.keep
  refine h4 ((q2.keep m24.keep).keep m29.keep) (m29.ints [0, 1] rfl rfl) ⟨_, rfl, fun _ => ?_, fun hn => absurd (decide_eq_true rfl) hn⟩
  intro b33 H34 m34
  refine h4 (((q3.keep m24.keep).keep m29.keep).keep m34.keep) (m34.ints [1] rfl rfl) ⟨_, rfl, ?_⟩
  rw [decide_eq_true rfl]
  exact hq H34 (k29.call m34.keep)

/-- The n-th operation of a process, if it has one. -/
def opAt (scr : List (List Op)) (p : Int) (n : Nat) : Option Op := if 0 ≤ p ∧ p < scr.length then (scr.getD p.toNat [])[n]? else none
end De
end Go.RM

/-
  What holds of every run's results: in plain terms.
-/
namespace Go.RM
set_option linter.unusedSimpArgs false
set_option linter.unusedVariables false
namespace De

def cntP (l : List Res) (p : Int) : Nat := (l.filter fun x => x.p == p).length
def sinceP (l : List Res) (p : Int) : Int := l.foldl (fun a x => if x.p = p then x.t + 1 else a) 0
/-- The values that wait in a channel; the results are given from the last one on. -/
def queueR (scr : List (List Op)) (c : Int) : List Res → List Int
  | [] => []
  | x :: l => if x.c = c then (match opAt scr x.p (cntP l x.p) with
      | some o => if o.k = 1 then queueR scr c l ++ [x.v] else (queueR scr c l).tail
      | none => (queueR scr c l).tail) else queueR scr c l
def queueP (scr : List (List Op)) (c : Int) (l : List Res) : List Int := queueR scr c l.reverse

/-- What holds of a result that comes after others. -/
structure Good (caps : List Int) (scr : List (List Op)) (l : List Res) (x : Res) : Prop where
  time : 0 ≤ x.t ∧ (∀ y ∈ l, y.t ≤ x.t) ∧ ∀ y ∈ l, y.p = x.p → y.t < x.t
  op : ∃ o, opAt scr x.p (cntP l x.p) = some o ∧ (x.c = -1 → 3 ≤ o.k ∧ x.v = 0 ∧ x.t - sinceP l x.p = o.w) ∧
    ∀ c : Nat, c < caps.length → x.c = c → if o.k = 1 then ((queueP scr c l).length : Int) < caps.getD c 0 else ∃ r, queueP scr c l = x.v :: r

def AllP (P : List Res → Res → Prop) (l : List Res) : Prop := ∀ (i : Nat) (h : i < l.length), P (l.take i) l[i]
/-- A run, while a tick's turns are taken: those of todo are still to come. -/
structure Inv (caps : List Int) (scr : List (List Op)) (s : Sys) (todo : Nat → Prop) : Prop where
  good : AllP (Good caps scr) s.res
  olen : s.ops.length = scr.length
  ops : ∀ p : Nat, p < scr.length → s.ops.getD p [] = (scr.getD p []).drop (cntP s.res p) ∧ cntP s.res p ≤ (scr.getD p []).length
  since : ∀ p : Nat, p < scr.length → s.since.getD p 0 = sinceP s.res p
  buf : ∀ c : Nat, c < caps.length → s.buf.getD c [] = queueP scr c s.res
  tick : ∀ y ∈ s.res, 0 ≤ y.t ∧ y.t ≤ s.tick
  yet : ∀ p : Nat, todo p → ∀ y ∈ s.res, y.p = p → y.t < s.tick
  wait : ∀ (p : Nat) o r, s.ops.getD p [] = o :: r → liveP o false = true → s.tick - s.since.getD p 0 ≤ o.w ∧ (¬ todo p → s.tick + 1 - s.since.getD p 0 ≤ o.w)

end De
end Go.RM

