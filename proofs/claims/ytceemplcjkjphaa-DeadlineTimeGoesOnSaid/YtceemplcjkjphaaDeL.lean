import Derived.Test.YtceemplcjkjphaaRmOpt3
import Derived.Test.YtceemplcjkjphaaDeF2
/-
  Functions of the program as the abstract machine runs them, and what must be shown of a run: printed by RmPrint.
-/
namespace Go.RM
set_option linter.unusedVariables false
set_option maxRecDepth 4000
def rf_LdeadlineExample (ndeadline_Run ndeadline_Stuck nFEqualResults nFEqualInts : Nat) : RFunc := ⟨0, 7, [.var 0],
 ((.seq (.ops [⟨.move (.k (.bool false)), none, (some 0), true⟩])
 ((.seq (.ops [⟨.build [.int .i64 0, .int .i64 0, .int .i64 0, .int .i64 0, .empty] [(0, 1, (.k (.int .i64 1))), (2, 1, (.k (.int .i64 5)))], none, none, true⟩, ⟨.buildSlice 5 [.int .i64 0, .int .i64 0, .int .i64 0, .int .i64 0, .empty] [(0, 5, (.loc 0))] 1, none, none, true⟩, ⟨.build [.int .i64 0, .int .i64 0, .int .i64 0, .int .i64 0, .empty] [(0, 1, (.k (.int .i64 2)))], none, none, true⟩, ⟨.build [.int .i64 0, .int .i64 0, .int .i64 0, .int .i64 0, .empty] [(0, 1, (.k (.int .i64 2)))], none, none, true⟩, ⟨.buildSlice 5 [.int .i64 0, .int .i64 0, .int .i64 0, .int .i64 0, .empty] [(0, 5, (.loc 2)), (5, 5, (.loc 3))] 2, none, none, true⟩, ⟨.buildSlice 1 [.empty] [(0, 1, (.loc 1)), (1, 1, (.loc 4))] 2, none, none, true⟩, ⟨.move (.loc 5), none, (some 1), true⟩])
 ((.seq (.ops [⟨.buildSlice 1 [.int .i64 0] [(0, 1, (.k (.int .i64 1)))] 1, none, none, true⟩, ⟨.move (.var 1), none, none, true⟩, ⟨.callS ndeadline_Run [(.loc 0), (.loc 1), (.k (.int .i64 3))], none, none, true⟩, ⟨.move (.loc 2), none, none, true⟩, ⟨.extract (.loc 3) 0, none, none, true⟩, ⟨.extract (.loc 3) 1, none, none, true⟩, ⟨.extract (.loc 3) 2, none, none, true⟩, ⟨.tomb 1 (.k (.agg [.int .i64 0, .int .i64 0])), none, (some 2), true⟩, ⟨.move (.loc 4), none, (some 4), true⟩, ⟨.move (.loc 5), none, (some 5), true⟩, ⟨.upd 2 0 (.loc 7) (.loc 6), none, (some 2), true⟩])
 ((.seq (.ops [⟨.buildSlice 1 [.int .i64 0] [(0, 1, (.k (.int .i64 1)))] 1, none, none, true⟩, ⟨.move (.var 1), none, none, true⟩, ⟨.callS ndeadline_Stuck [(.loc 0), (.loc 1)], none, none, true⟩, ⟨.move (.loc 2), none, none, true⟩, ⟨.extract (.loc 3) 0, none, none, true⟩, ⟨.extract (.loc 3) 1, none, none, true⟩, ⟨.tomb 1 (.k (.agg [.int .i64 0, .int .i64 0])), none, (some 3), true⟩, ⟨.move (.loc 4), none, (some 6), true⟩, ⟨.upd 2 0 (.loc 6) (.loc 5), none, (some 3), true⟩])
 ((.seq (.ops [⟨.field 0 none (.var 2), none, none, true⟩, ⟨.field 0 none (.var 2), none, none, true⟩, ⟨.bin .eql .no (.loc 1) (.k (.int .i64 0)), none, none, true⟩, ⟨.move (.loc 2), none, none, true⟩, ⟨.field 0 none (.var 3), none, none, true⟩, ⟨.field 0 none (.var 3), none, none, true⟩, ⟨.bin .eql .no (.loc 5) (.k (.int .i64 0)), none, none, true⟩, ⟨.pick (.loc 3) (.loc 6) (.k (.bool false)), none, none, true⟩, ⟨.move (.loc 7), none, none, true⟩, ⟨.move (.var 4), none, none, true⟩, ⟨.build [.int .i64 0, .int .i64 0, .int .i64 0, .int .i64 0] [(1, 1, (.k (.int .i64 0))), (3, 1, (.k (.int .i64 5)))], none, none, true⟩, ⟨.build [.int .i64 0, .int .i64 0, .int .i64 0, .int .i64 0] [(1, 1, (.k (.int .i64 1))), (3, 1, (.k (.int .i64 5)))], none, none, true⟩, ⟨.buildSlice 4 [.int .i64 0, .int .i64 0, .int .i64 0, .int .i64 0] [(0, 4, (.loc 10)), (4, 4, (.loc 11))] 2, (some (8, true)), none, true⟩, ⟨.callS nFEqualResults [(.loc 9), (.loc 12)], (some (8, true)), none, true⟩, ⟨.pick (.loc 8) (.loc 13) (.k (.bool false)), none, none, true⟩, ⟨.move (.loc 14), none, none, true⟩, ⟨.move (.var 5), none, none, true⟩, ⟨.buildSlice 1 [.int .i64 0] [(0, 1, (.k (.int .i64 0))), (1, 1, (.k (.int .i64 1)))] 2, (some (15, true)), none, true⟩, ⟨.callS nFEqualInts [(.loc 16), (.loc 17)], (some (15, true)), none, true⟩, ⟨.pick (.loc 15) (.loc 18) (.k (.bool false)), none, none, true⟩, ⟨.move (.loc 19), none, none, true⟩, ⟨.move (.var 6), none, none, true⟩, ⟨.buildSlice 1 [.int .i64 0] [(0, 1, (.k (.int .i64 1)))] 1, (some (20, true)), none, true⟩, ⟨.callS nFEqualInts [(.loc 21), (.loc 22)], (some (20, true)), none, true⟩, ⟨.pick (.loc 20) (.loc 23) (.k (.bool false)), none, none, true⟩, ⟨.move (.loc 24), none, (some 0), true⟩])
 (.ret))))))))))), none⟩
theorem v_LdeadlineExample {F : Nat → Option RFunc} {me ndeadline_Run ndeadline_Stuck nFEqualResults nFEqualInts : Nat} (hF : F me = some (rf_LdeadlineExample ndeadline_Run ndeadline_Stuck nFEqualResults nFEqualInts)) {fl : Nat} {H : Heap} {Q : AV → Heap → Prop} 
  (h : ∀ (b0 : Nat) (H1 : Heap), NewB H 5 [(.int .i64 1), (.int .i64 0), (.int .i64 5), (.int .i64 0), .empty] b0 H1 → ∀ (b2 : Nat) (H3 : Heap), NewB H1 5 [(.int .i64 2), (.int .i64 0), (.int .i64 0), (.int .i64 0), .empty, (.int .i64 2), (.int .i64 0), (.int .i64 0), (.int .i64 0), .empty] b2 H3 → ∀ (b4 : Nat) (H5 : Heap), NewB H3 1 [(.slice b0 0 1 (some 1)), (.slice b2 0 2 (some 2))] b4 H5 → ∀ (b6 : Nat) (H7 : Heap), NewB H5 1 [(.int .i64 1)] b6 H7 → Ret F fl ndeadline_Run [(.slice b6 0 1 (some 1)), (.slice b4 0 2 (some 2)), (.int .i64 3)] H7 (fun v13 H12 => ∃ (r8 : AV) (r9 : AV) (r10 : Int) (r11 : Int), v13 = (.tuple [r8, r9, (.agg [(.int .i64 r10), (.int .i64 r11)])]) ∧ ∀ (H14 : Heap), Dead1 H12 1 H14 → ∀ (b15 : Nat) (H16 : Heap), NewB H14 1 [(.int .i64 1)] b15 H16 → Ret F fl ndeadline_Stuck [(.slice b15 0 1 (some 1)), (.slice b4 0 2 (some 2))] H16 (fun v21 H20 => ∃ (r17 : AV) (r18 : Int) (r19 : Int), v21 = (.tuple [r17, (.agg [(.int .i64 r18), (.int .i64 r19)])]) ∧ ∀ (H22 : Heap), Dead1 H20 1 H22 → ((((r10 = 0) ∧ (r18 = 0))) → ∀ (b23 : Nat) (H24 : Heap), NewB H22 4 [(.int .i64 0), (.int .i64 0), (.int .i64 0), (.int .i64 5), (.int .i64 0), (.int .i64 1), (.int .i64 0), (.int .i64 5)] b23 H24 → Ret F fl nFEqualResults [r8, (.slice b23 0 2 (some 2))] H24 (fun v27 H26 => ∃ (r25 : Bool), v27 = (.bool r25) ∧ ((r25 = true) → ∀ (b28 : Nat) (H29 : Heap), NewB H26 1 [(.int .i64 0), (.int .i64 1)] b28 H29 → Ret F fl nFEqualInts [r9, (.slice b28 0 2 (some 2))] H29 (fun v32 H31 => ∃ (r30 : Bool), v32 = (.bool r30) ∧ ((r30 = true) → ∀ (b33 : Nat) (H34 : Heap), NewB H31 1 [(.int .i64 1)] b33 H34 → Ret F fl nFEqualInts [r17, (.slice b33 0 1 (some 1))] H34 (fun v37 H36 => ∃ (r35 : Bool), v37 = (.bool r35) ∧ Q (.bool r35) H36)) ∧ (¬(r30 = true) → Q (.bool false) H31))) ∧ (¬(r25 = true) → Q (.bool false) H26))) ∧ (¬(((r10 = 0) ∧ (r18 = 0))) → Q (.bool false) H22)))) : Ret F fl me [] H Q := by
  refine ret_intro hF rfl ?_
  refine w_seq ?_
  refine w_run [0] ?_
  refine t_done [(.bool false), .undef, .undef, .undef, .undef, .undef, .undef] H (by kernel_rfl) ?_
  refine then_norm ?_
  refine w_seq ?_
  refine w_run [1, 1, 1, 1, 1, 1, 0] ?_
  refine t_build true [(.int .i64 0), (.int .i64 0), (.int .i64 0), (.int .i64 0), .empty] [(0, 1, .loc 0), (2, 1, .loc 1)] [(.int .i64 1), (.int .i64 5)] [(.int .i64 1), (.int .i64 0), (.int .i64 5), (.int .i64 0), .empty] H (by kernel_rfl) (fill_c (vs := [(.int .i64 1)]) (size := 1) rfl (by kernel_rfl) (by kernel_rfl) (fill_c (vs := [(.int .i64 5)]) (size := 1) rfl (by kernel_rfl) (by kernel_rfl) (by kernel_rfl))) ?_
  obtain ⟨b0, H1, hb⟩ : ∃ b H', NewB H 5 [(.int .i64 1), (.int .i64 0), (.int .i64 5), (.int .i64 0), .empty] b H' := ⟨_, _, rfl, rfl⟩
  replace h := h b0 H1 hb
  refine t_bs true 5 [(.int .i64 0), (.int .i64 0), (.int .i64 0), (.int .i64 0), .empty] [(0, 5, .loc 0)] 1 [(.agg [(.int .i64 1), (.int .i64 0), (.int .i64 5), (.int .i64 0), .empty])] [(.int .i64 1), (.int .i64 0), (.int .i64 5), (.int .i64 0), .empty] b0 H1 H (by kernel_rfl) (fill_c (vs := [(.int .i64 1), (.int .i64 0), (.int .i64 5), (.int .i64 0), .empty]) (size := 5) rfl (by kernel_rfl) (by kernel_rfl) (by kernel_rfl)) hb ?_
  refine t_build true [(.int .i64 0), (.int .i64 0), (.int .i64 0), (.int .i64 0), .empty] [(0, 1, .loc 0)] [(.int .i64 2)] [(.int .i64 2), (.int .i64 0), (.int .i64 0), (.int .i64 0), .empty] H1 (by kernel_rfl) (fill_c (vs := [(.int .i64 2)]) (size := 1) rfl (by kernel_rfl) (by kernel_rfl) (by kernel_rfl)) ?_
  refine t_build true [(.int .i64 0), (.int .i64 0), (.int .i64 0), (.int .i64 0), .empty] [(0, 1, .loc 0)] [(.int .i64 2)] [(.int .i64 2), (.int .i64 0), (.int .i64 0), (.int .i64 0), .empty] H1 (by kernel_rfl) (fill_c (vs := [(.int .i64 2)]) (size := 1) rfl (by kernel_rfl) (by kernel_rfl) (by kernel_rfl)) ?_
  obtain ⟨b2, H3, hb⟩ : ∃ b H', NewB H1 5 [(.int .i64 2), (.int .i64 0), (.int .i64 0), (.int .i64 0), .empty, (.int .i64 2), (.int .i64 0), (.int .i64 0), (.int .i64 0), .empty] b H' := ⟨_, _, rfl, rfl⟩
  replace h := h b2 H3 hb
  refine t_bs true 5 [(.int .i64 0), (.int .i64 0), (.int .i64 0), (.int .i64 0), .empty] [(0, 5, .loc 0), (5, 5, .loc 1)] 2 [(.agg [(.int .i64 2), (.int .i64 0), (.int .i64 0), (.int .i64 0), .empty]), (.agg [(.int .i64 2), (.int .i64 0), (.int .i64 0), (.int .i64 0), .empty])] [(.int .i64 2), (.int .i64 0), (.int .i64 0), (.int .i64 0), .empty, (.int .i64 2), (.int .i64 0), (.int .i64 0), (.int .i64 0), .empty] b2 H3 H1 (by kernel_rfl) (fill_c (vs := [(.int .i64 2), (.int .i64 0), (.int .i64 0), (.int .i64 0), .empty]) (size := 5) rfl (by kernel_rfl) (by kernel_rfl) (fill_c (vs := [(.int .i64 2), (.int .i64 0), (.int .i64 0), (.int .i64 0), .empty]) (size := 5) rfl (by kernel_rfl) (by kernel_rfl) (by kernel_rfl))) hb ?_
  obtain ⟨b4, H5, hb⟩ : ∃ b H', NewB H3 1 [(.slice b0 0 1 (some 1)), (.slice b2 0 2 (some 2))] b H' := ⟨_, _, rfl, rfl⟩
  replace h := h b4 H5 hb
  refine t_bs true 1 [.empty] [(0, 1, .loc 0), (1, 1, .loc 1)] 2 [(.slice b0 0 1 (some 1)), (.slice b2 0 2 (some 2))] [(.slice b0 0 1 (some 1)), (.slice b2 0 2 (some 2))] b4 H5 H3 (by kernel_rfl) (fill_c (vs := [(.slice b0 0 1 (some 1))]) (size := 1) rfl (by kernel_rfl) (by kernel_rfl) (fill_c (vs := [(.slice b2 0 2 (some 2))]) (size := 1) rfl (by kernel_rfl) (by kernel_rfl) (by kernel_rfl))) hb ?_
  refine t_done [(.bool false), (.slice b4 0 2 (some 2)), .undef, .undef, .undef, .undef, .undef] H5 (by kernel_rfl) ?_
  refine then_norm ?_
  refine w_seq ?_
  refine w_run [1, 0, 1, 0, 0, 0, 0, 1, 0, 0, 1] ?_
  obtain ⟨b6, H7, hb⟩ : ∃ b H', NewB H5 1 [(.int .i64 1)] b H' := ⟨_, _, rfl, rfl⟩
  replace h := h b6 H7 hb
  refine t_bs true 1 [(.int .i64 0)] [(0, 1, .loc 0)] 1 [(.int .i64 1)] [(.int .i64 1)] b6 H7 H5 (by kernel_rfl) (fill_c (vs := [(.int .i64 1)]) (size := 1) rfl (by kernel_rfl) (by kernel_rfl) (by kernel_rfl)) hb ?_
  refine t_call true ndeadline_Run [(.slice b6 0 1 (some 1)), (.slice b4 0 2 (some 2)), (.int .i64 3)] H7 (by kernel_rfl) h ?_
  clear h
  rintro _ H12 ⟨r8, r9, r10, r11, rfl, h⟩
  obtain ⟨H14, hb⟩ : ∃ H', Dead1 H12 1 H' := ⟨_, ⟨rfl⟩⟩
  replace h := h H14 hb
  refine t_tomb true 1 (.agg [(.int .i64 0), (.int .i64 0)]) [(.int .i64 0), (.int .i64 0)] H14 H12 (by kernel_rfl) rfl hb ?_
  refine t_upd true 2 0 [(.int .i64 0), (.int .i64 0)] (.agg [(.int .i64 r10), (.int .i64 r11)]) [(.int .i64 r10), (.int .i64 r11)] [(.int .i64 r10), (.int .i64 r11)] H14 (by kernel_rfl) rfl (all_c rfl (all_c rfl all_n)) ⟨rfl, Nat.le_of_ble_eq_true (by kernel_rfl), rfl⟩ ?_
  refine t_done [(.bool false), (.slice b4 0 2 (some 2)), (.agg [(.int .i64 r10), (.int .i64 r11)]), .undef, r8, r9, .undef] H14 (by kernel_rfl) ?_
  refine then_norm ?_
  refine w_seq ?_
  refine w_run [1, 0, 1, 0, 0, 0, 1, 0, 1] ?_
  obtain ⟨b15, H16, hb⟩ : ∃ b H', NewB H14 1 [(.int .i64 1)] b H' := ⟨_, _, rfl, rfl⟩
  replace h := h b15 H16 hb
  refine t_bs true 1 [(.int .i64 0)] [(0, 1, .loc 0)] 1 [(.int .i64 1)] [(.int .i64 1)] b15 H16 H14 (by kernel_rfl) (fill_c (vs := [(.int .i64 1)]) (size := 1) rfl (by kernel_rfl) (by kernel_rfl) (by kernel_rfl)) hb ?_
  refine t_call true ndeadline_Stuck [(.slice b15 0 1 (some 1)), (.slice b4 0 2 (some 2))] H16 (by kernel_rfl) h ?_
  clear h
  rintro _ H20 ⟨r17, r18, r19, rfl, h⟩
  obtain ⟨H22, hb⟩ : ∃ H', Dead1 H20 1 H' := ⟨_, ⟨rfl⟩⟩
  replace h := h H22 hb
  refine t_tomb true 1 (.agg [(.int .i64 0), (.int .i64 0)]) [(.int .i64 0), (.int .i64 0)] H22 H20 (by kernel_rfl) rfl hb ?_
  refine t_upd true 2 0 [(.int .i64 0), (.int .i64 0)] (.agg [(.int .i64 r18), (.int .i64 r19)]) [(.int .i64 r18), (.int .i64 r19)] [(.int .i64 r18), (.int .i64 r19)] H22 (by kernel_rfl) rfl (all_c rfl (all_c rfl all_n)) ⟨rfl, Nat.le_of_ble_eq_true (by kernel_rfl), rfl⟩ ?_
  refine t_done [(.bool false), (.slice b4 0 2 (some 2)), (.agg [(.int .i64 r10), (.int .i64 r11)]), (.agg [(.int .i64 r18), (.int .i64 r19)]), r8, r9, r17] H22 (by kernel_rfl) ?_
  refine then_norm ?_
  refine w_seq ?_
  refine w_run [0, 0, 0, 0, 0, 0, 0, 0, 0, 0, 1, 1, 3, 3, 0, 0, 0, 3, 3, 0, 0, 0, 3, 3, 0, 0] ?_
  refine t_build true [(.int .i64 0), (.int .i64 0), (.int .i64 0), (.int .i64 0)] [(1, 1, .loc 0), (3, 1, .loc 1)] [(.int .i64 0), (.int .i64 5)] [(.int .i64 0), (.int .i64 0), (.int .i64 0), (.int .i64 5)] H22 (by kernel_rfl) (fill_c (vs := [(.int .i64 0)]) (size := 1) rfl (by kernel_rfl) (by kernel_rfl) (fill_c (vs := [(.int .i64 5)]) (size := 1) rfl (by kernel_rfl) (by kernel_rfl) (by kernel_rfl))) ?_
  refine t_build true [(.int .i64 0), (.int .i64 0), (.int .i64 0), (.int .i64 0)] [(1, 1, .loc 0), (3, 1, .loc 1)] [(.int .i64 1), (.int .i64 5)] [(.int .i64 0), (.int .i64 1), (.int .i64 0), (.int .i64 5)] H22 (by kernel_rfl) (fill_c (vs := [(.int .i64 1)]) (size := 1) rfl (by kernel_rfl) (by kernel_rfl) (fill_c (vs := [(.int .i64 5)]) (size := 1) rfl (by kernel_rfl) (by kernel_rfl) (by kernel_rfl))) ?_
  refine t_gd (((r10) == 0) && ((r18) == 0)) true (by kernel_rfl) (fun hc => ?_) (fun hc => ?_)
  · replace h := h.1 ((is_and is_eq is_eq).t hc)
    obtain ⟨b23, H24, hb⟩ : ∃ b H', NewB H22 4 [(.int .i64 0), (.int .i64 0), (.int .i64 0), (.int .i64 5), (.int .i64 0), (.int .i64 1), (.int .i64 0), (.int .i64 5)] b H' := ⟨_, _, rfl, rfl⟩
    replace h := h b23 H24 hb
    refine t_bs true 4 [(.int .i64 0), (.int .i64 0), (.int .i64 0), (.int .i64 0)] [(0, 4, .loc 0), (4, 4, .loc 1)] 2 [(.agg [(.int .i64 0), (.int .i64 0), (.int .i64 0), (.int .i64 5)]), (.agg [(.int .i64 0), (.int .i64 1), (.int .i64 0), (.int .i64 5)])] [(.int .i64 0), (.int .i64 0), (.int .i64 0), (.int .i64 5), (.int .i64 0), (.int .i64 1), (.int .i64 0), (.int .i64 5)] b23 H24 H22 (by kernel_rfl) (fill_c (vs := [(.int .i64 0), (.int .i64 0), (.int .i64 0), (.int .i64 5)]) (size := 4) rfl (by kernel_rfl) (by kernel_rfl) (fill_c (vs := [(.int .i64 0), (.int .i64 1), (.int .i64 0), (.int .i64 5)]) (size := 4) rfl (by kernel_rfl) (by kernel_rfl) (by kernel_rfl))) hb ?_
    refine t_gd true true (by kernel_rfl) (fun _ => ?_) (fun hn => by cases hn)
    refine t_call true nFEqualResults [r8, (.slice b23 0 2 (some 2))] H24 (by kernel_rfl) h ?_
    clear h
    rintro _ H26 ⟨r25, rfl, h⟩
    refine t_gd r25 true (by kernel_rfl) (fun hc => ?_) (fun hc => ?_)
    · replace h := h.1 (is_raw.t hc)
      obtain ⟨b28, H29, hb⟩ : ∃ b H', NewB H26 1 [(.int .i64 0), (.int .i64 1)] b H' := ⟨_, _, rfl, rfl⟩
      replace h := h b28 H29 hb
      refine t_bs true 1 [(.int .i64 0)] [(0, 1, .loc 0), (1, 1, .loc 1)] 2 [(.int .i64 0), (.int .i64 1)] [(.int .i64 0), (.int .i64 1)] b28 H29 H26 (by kernel_rfl) (fill_c (vs := [(.int .i64 0)]) (size := 1) rfl (by kernel_rfl) (by kernel_rfl) (fill_c (vs := [(.int .i64 1)]) (size := 1) rfl (by kernel_rfl) (by kernel_rfl) (by kernel_rfl))) hb ?_
      refine t_gd true true (by kernel_rfl) (fun _ => ?_) (fun hn => by cases hn)
      refine t_call true nFEqualInts [r9, (.slice b28 0 2 (some 2))] H29 (by kernel_rfl) h ?_
      clear h
      rintro _ H31 ⟨r30, rfl, h⟩
      refine t_gd r30 true (by kernel_rfl) (fun hc => ?_) (fun hc => ?_)
      · replace h := h.1 (is_raw.t hc)
        obtain ⟨b33, H34, hb⟩ : ∃ b H', NewB H31 1 [(.int .i64 1)] b H' := ⟨_, _, rfl, rfl⟩
        replace h := h b33 H34 hb
        refine t_bs true 1 [(.int .i64 0)] [(0, 1, .loc 0)] 1 [(.int .i64 1)] [(.int .i64 1)] b33 H34 H31 (by kernel_rfl) (fill_c (vs := [(.int .i64 1)]) (size := 1) rfl (by kernel_rfl) (by kernel_rfl) (by kernel_rfl)) hb ?_
        refine t_gd true true (by kernel_rfl) (fun _ => ?_) (fun hn => by cases hn)
        refine t_call true nFEqualInts [r17, (.slice b33 0 1 (some 1))] H34 (by kernel_rfl) h ?_
        clear h
        rintro _ H36 ⟨r35, rfl, h⟩
        refine t_done [(.bool r35), (.slice b4 0 2 (some 2)), (.agg [(.int .i64 r10), (.int .i64 r11)]), (.agg [(.int .i64 r18), (.int .i64 r19)]), r8, r9, r17] H36 (by kernel_rfl) ?_
        refine then_norm ?_
        refine w_ret ?_
        exact body_ret (vs := [(.bool r35)]) _ (by kernel_rfl) rfl h
      · replace h := h.2 (is_raw.f hc)
        refine t_gd false true (by kernel_rfl) (fun hn => by cases hn) (fun _ => ?_)
        refine t_done [(.bool false), (.slice b4 0 2 (some 2)), (.agg [(.int .i64 r10), (.int .i64 r11)]), (.agg [(.int .i64 r18), (.int .i64 r19)]), r8, r9, r17] H31 (by kernel_rfl) ?_
        refine then_norm ?_
        refine w_ret ?_
        exact body_ret (vs := [(.bool false)]) _ (by kernel_rfl) rfl h
    · replace h := h.2 (is_raw.f hc)
      refine t_gd false true (by kernel_rfl) (fun hn => by cases hn) (fun _ => ?_)
      refine t_gd false true (by kernel_rfl) (fun hn => by cases hn) (fun _ => ?_)
      refine t_gd false true (by kernel_rfl) (fun hn => by cases hn) (fun _ => ?_)
      refine t_done [(.bool false), (.slice b4 0 2 (some 2)), (.agg [(.int .i64 r10), (.int .i64 r11)]), (.agg [(.int .i64 r18), (.int .i64 r19)]), r8, r9, r17] H26 (by kernel_rfl) ?_
      refine then_norm ?_
      refine w_ret ?_
      exact body_ret (vs := [(.bool false)]) _ (by kernel_rfl) rfl h
  · replace h := h.2 ((is_and is_eq is_eq).f hc)
    refine t_gd false true (by kernel_rfl) (fun hn => by cases hn) (fun _ => ?_)
    refine t_gd false true (by kernel_rfl) (fun hn => by cases hn) (fun _ => ?_)
    refine t_gd false true (by kernel_rfl) (fun hn => by cases hn) (fun _ => ?_)
    refine t_gd false true (by kernel_rfl) (fun hn => by cases hn) (fun _ => ?_)
    refine t_gd false true (by kernel_rfl) (fun hn => by cases hn) (fun _ => ?_)
    refine t_done [(.bool false), (.slice b4 0 2 (some 2)), (.agg [(.int .i64 r10), (.int .i64 r11)]), (.agg [(.int .i64 r18), (.int .i64 r19)]), r8, r9, r17] H22 (by kernel_rfl) ?_
    refine then_norm ?_
    refine w_ret ?_
    exact body_ret (vs := [(.bool false)]) _ (by kernel_rfl) rfl h

def rf_LDeadlineFunctionsMatchSpec (nFProcessesFault ndeadline_Run ndeadline_Stuck nLdeadlineExample ndeadline_Validate nFSimulate nFWorld_Left nFEqualInts nFFault nFEqualResults : Nat) : RFunc := ⟨3, 20, [.var 3],
 ((.seq (.ops [⟨.move (.k (.bool false)), none, (some 3), true⟩])
 ((.seq (.ops [⟨.move (.var 0), none, none, true⟩, ⟨.move (.var 1), none, none, true⟩, ⟨.callS nFProcessesFault [(.loc 0), (.loc 1)], none, none, true⟩, ⟨.tomb 1 (.k (.agg [.int .i64 0, .int .i64 0])), none, (some 4), true⟩, ⟨.upd 2 0 (.loc 3) (.loc 2), none, (some 4), true⟩])
 ((.seq (.ops [⟨.move (.var 0), none, none, true⟩, ⟨.move (.var 1), none, none, true⟩, ⟨.move (.var 2), none, none, true⟩, ⟨.callS ndeadline_Run [(.loc 0), (.loc 1), (.loc 2)], none, none, true⟩, ⟨.move (.loc 3), none, none, true⟩, ⟨.extract (.loc 4) 0, none, none, true⟩, ⟨.extract (.loc 4) 1, none, none, true⟩, ⟨.extract (.loc 4) 2, none, none, true⟩, ⟨.tomb 1 (.k (.agg [.int .i64 0, .int .i64 0])), none, (some 7), true⟩, ⟨.move (.loc 5), none, (some 9), true⟩, ⟨.move (.loc 6), none, (some 10), true⟩, ⟨.upd 2 0 (.loc 8) (.loc 7), none, (some 7), true⟩])
 ((.seq (.ops [⟨.move (.var 0), none, none, true⟩, ⟨.move (.var 1), none, none, true⟩, ⟨.callS ndeadline_Stuck [(.loc 0), (.loc 1)], none, none, true⟩, ⟨.move (.loc 2), none, none, true⟩, ⟨.extract (.loc 3) 0, none, none, true⟩, ⟨.extract (.loc 3) 1, none, none, true⟩, ⟨.tomb 1 (.k (.agg [.int .i64 0, .int .i64 0])), none, (some 8), true⟩, ⟨.move (.loc 4), none, (some 11), true⟩, ⟨.upd 2 0 (.loc 6) (.loc 5), none, (some 8), true⟩])
 ((.seq ((.seq (.ops [⟨.callS nLdeadlineExample [], none, none, true⟩, ⟨.un .not (.loc 0), none, none, true⟩, ⟨.move (.loc 1), none, none, true⟩, ⟨.move (.var 0), none, none, false⟩, ⟨.move (.var 1), none, none, false⟩, ⟨.callS ndeadline_Validate [(.loc 3), (.loc 4)], (some (2, false)), none, false⟩, ⟨.field 0 (some 2) (.var 4), none, none, false⟩, ⟨.bin .neq (.agg [.int, .int]) (.loc 5) (.loc 6), (some (2, false)), none, true⟩, ⟨.pick (.loc 2) (.k (.bool true)) (.loc 7), none, (some 5), true⟩])
 (.cond (.var 5) ((.seq (.ops [⟨.move (.k (.bool false)), none, (some 3), true⟩])
 (.ret))) (.skip))))
 ((.seq ((.seq (.ops [⟨.field 0 none (.var 4), none, none, true⟩, ⟨.field 0 none (.var 4), none, none, true⟩, ⟨.bin .neq .no (.loc 1) (.k (.int .i64 0)), none, (some 6), true⟩])
 (.cond (.var 6) ((.seq (.ops [⟨.field 0 (some 2) (.var 7), none, none, true⟩, ⟨.field 0 (some 2) (.var 4), none, none, true⟩, ⟨.bin .eql (.agg [.int, .int]) (.loc 0) (.loc 1), none, none, true⟩, ⟨.move (.loc 2), none, none, true⟩, ⟨.field 0 (some 2) (.var 8), none, none, true⟩, ⟨.field 0 (some 2) (.var 4), none, none, true⟩, ⟨.bin .eql (.agg [.int, .int]) (.loc 4) (.loc 5), none, none, true⟩, ⟨.pick (.loc 3) (.loc 6) (.k (.bool false)), none, none, true⟩, ⟨.move (.loc 7), none, none, true⟩, ⟨.move (.var 9), none, none, true⟩, ⟨.len (.loc 9), none, none, true⟩, ⟨.bin .eql .no (.loc 10) (.k (.int .i64 0)), none, none, true⟩, ⟨.pick (.loc 8) (.loc 11) (.k (.bool false)), none, none, true⟩, ⟨.move (.loc 12), none, none, true⟩, ⟨.move (.var 10), none, none, true⟩, ⟨.len (.loc 14), none, none, true⟩, ⟨.bin .eql .no (.loc 15) (.k (.int .i64 0)), none, none, true⟩, ⟨.pick (.loc 13) (.loc 16) (.k (.bool false)), none, none, true⟩, ⟨.move (.loc 17), none, none, true⟩, ⟨.move (.var 11), none, none, true⟩, ⟨.len (.loc 19), none, none, true⟩, ⟨.bin .eql .no (.loc 20) (.k (.int .i64 0)), none, none, true⟩, ⟨.pick (.loc 18) (.loc 21) (.k (.bool false)), none, none, true⟩, ⟨.move (.loc 22), none, (some 3), true⟩])
 (.ret))) (.skip))))
 ((.seq (.ops [⟨.move (.k (.empty)), none, (some 16), true⟩])
 ((.seq (.ops [⟨.move (.var 0), none, none, true⟩, ⟨.move (.var 1), none, none, true⟩, ⟨.callS nFSimulate [(.loc 0), (.loc 1), (.k (.int .i64 2600))], none, none, true⟩, ⟨.callS nFWorld_Left [(.loc 2)], none, none, true⟩, ⟨.move (.loc 3), none, (some 13), true⟩])
 ((.seq ((.seq (.ops [⟨.move (.k (.int .i64 0)), none, (some 12), true⟩])
 (.block 0 (.loop ((.seq ((.seq (.ops [⟨.move (.var 12), none, none, true⟩, ⟨.move (.var 13), none, none, true⟩, ⟨.len (.loc 1), none, none, true⟩, ⟨.bin .lss .no (.loc 0) (.loc 2), none, (some 14), true⟩])
 (.cond (.var 14) (.skip) (.exit 0))))
 ((.seq (.block 1 ((.seq (.ops [⟨.move (.var 13), none, none, true⟩, ⟨.move (.var 12), none, none, true⟩, ⟨.indexAddr 1 (.loc 0) (.loc 1), none, none, true⟩, ⟨.load none (.loc 2), none, none, true⟩, ⟨.bin .gtr .no (.loc 3) (.k (.int .i64 0)), none, (some 15), true⟩])
 (.cond (.var 15) (.ops [⟨.move (.var 16), none, none, true⟩, ⟨.move (.var 12), none, none, true⟩, ⟨.buildSlice 1 [.int .i64 0] [(0, 1, (.loc 1))] 1, none, none, true⟩, ⟨.append 1 8 (.loc 0) (.loc 2), none, none, true⟩, ⟨.move (.loc 3), none, (some 16), true⟩]) (.skip)))))
 (.ops [⟨.move (.var 12), none, none, true⟩, ⟨.bin .add .no (.loc 0) (.k (.int .i64 1)), none, none, true⟩, ⟨.move (.loc 1), none, (some 12), true⟩])))))))))
 ((.seq ((.seq (.ops [⟨.field 0 none (.var 8), none, none, true⟩, ⟨.field 0 none (.var 8), none, none, true⟩, ⟨.bin .neq .no (.loc 1) (.k (.int .i64 0)), none, none, true⟩, ⟨.move (.loc 2), none, none, true⟩, ⟨.move (.var 11), none, none, true⟩, ⟨.move (.var 16), none, none, true⟩, ⟨.callS nFEqualInts [(.loc 4), (.loc 5)], (some (3, false)), none, true⟩, ⟨.un .not (.loc 6), (some (3, false)), none, true⟩, ⟨.pick (.loc 3) (.k (.bool true)) (.loc 7), none, (some 17), true⟩])
 (.cond (.var 17) ((.seq (.ops [⟨.move (.k (.bool false)), none, (some 3), true⟩])
 (.ret))) (.skip))))
 ((.seq ((.seq (.ops [⟨.move (.var 2), none, none, true⟩, ⟨.bin .lss .no (.loc 0) (.k (.int .i64 0)), none, none, true⟩, ⟨.move (.loc 1), none, none, true⟩, ⟨.move (.var 2), none, none, true⟩, ⟨.bin .gtr .no (.loc 3) (.k (.int .i64 60)), none, none, true⟩, ⟨.pick (.loc 2) (.k (.bool true)) (.loc 4), none, (some 18), true⟩])
 (.cond (.var 18) ((.seq (.ops [⟨.field 0 (some 2) (.var 7), none, none, false⟩, ⟨.callS nFFault [(.k (.int .i64 3)), (.k (.int .i64 (-20)))], none, none, false⟩, ⟨.bin .eql (.agg [.int, .int]) (.loc 0) (.loc 1), none, none, true⟩, ⟨.move (.loc 2), none, none, true⟩, ⟨.move (.var 9), none, none, true⟩, ⟨.len (.loc 4), none, none, true⟩, ⟨.bin .eql .no (.loc 5) (.k (.int .i64 0)), none, none, true⟩, ⟨.pick (.loc 3) (.loc 6) (.k (.bool false)), none, none, true⟩, ⟨.move (.loc 7), none, none, true⟩, ⟨.move (.var 10), none, none, true⟩, ⟨.len (.loc 9), none, none, true⟩, ⟨.bin .eql .no (.loc 10) (.k (.int .i64 0)), none, none, true⟩, ⟨.pick (.loc 8) (.loc 11) (.k (.bool false)), none, none, true⟩, ⟨.move (.loc 12), none, (some 3), true⟩])
 (.ret))) (.skip))))
 ((.seq (.ops [⟨.move (.var 0), none, none, true⟩, ⟨.move (.var 1), none, none, true⟩, ⟨.move (.var 2), none, none, true⟩, ⟨.callS nFSimulate [(.loc 0), (.loc 1), (.loc 2)], none, none, true⟩, ⟨.move (.loc 3), none, (some 19), true⟩])
 ((.seq (.ops [⟨.field 0 none (.var 7), none, none, true⟩, ⟨.field 0 none (.var 7), none, none, true⟩, ⟨.bin .eql .no (.loc 1) (.k (.int .i64 0)), none, none, true⟩, ⟨.move (.loc 2), none, none, true⟩, ⟨.move (.var 9), none, none, true⟩, ⟨.move (.var 19), none, none, true⟩, ⟨.nilCheck (.loc 5), (some (3, true)), none, true⟩, ⟨.fieldAddr 26 (.loc 6), (some (3, true)), none, true⟩, ⟨.load none (.loc 7), (some (3, true)), none, true⟩, ⟨.callS nFEqualResults [(.loc 4), (.loc 8)], (some (3, true)), none, true⟩, ⟨.pick (.loc 3) (.loc 9) (.k (.bool false)), none, none, true⟩, ⟨.move (.loc 10), none, none, true⟩, ⟨.move (.var 10), none, none, true⟩, ⟨.move (.var 19), none, none, true⟩, ⟨.callS nFWorld_Left [(.loc 13)], (some (11, true)), none, true⟩, ⟨.callS nFEqualInts [(.loc 12), (.loc 14)], (some (11, true)), none, true⟩, ⟨.pick (.loc 11) (.loc 15) (.k (.bool false)), none, none, true⟩, ⟨.move (.loc 16), none, (some 3), true⟩])
 (.ret))))))))))))))))))))))))))), none⟩
def rf_LDeadlineChannelsAreQueues (ndeadline_Run nLdeadlineExample nLsender : Nat) : RFunc := ⟨3, 16, [.var 3],
 ((.seq (.ops [⟨.move (.k (.bool false)), none, (some 3), true⟩])
 ((.seq (.ops [⟨.move (.var 0), none, none, true⟩, ⟨.move (.var 1), none, none, true⟩, ⟨.move (.var 2), none, none, true⟩, ⟨.callS ndeadline_Run [(.loc 0), (.loc 1), (.loc 2)], none, none, true⟩, ⟨.move (.loc 3), none, none, true⟩, ⟨.extract (.loc 4) 0, none, none, true⟩, ⟨.extract (.loc 4) 1, none, none, true⟩, ⟨.extract (.loc 4) 2, none, none, true⟩, ⟨.tomb 1 (.k (.agg [.int .i64 0, .int .i64 0])), none, (some 5), true⟩, ⟨.move (.loc 5), none, (some 9), true⟩, ⟨.move (.loc 6), none, none, true⟩, ⟨.upd 2 0 (.loc 8) (.loc 7), none, (some 5), true⟩])
 ((.seq ((.seq (.ops [⟨.callS nLdeadlineExample [], none, none, true⟩, ⟨.un .not (.loc 0), none, (some 4), true⟩])
 (.cond (.var 4) ((.seq (.ops [⟨.move (.k (.bool false)), none, (some 3), true⟩])
 (.ret))) (.skip))))
 ((.seq ((.seq (.ops [⟨.move (.k (.int .i64 0)), none, (some 6), true⟩])
 (.block 0 (.loop ((.seq ((.seq (.ops [⟨.field 0 none (.var 5), none, none, true⟩, ⟨.field 0 none (.var 5), none, none, true⟩, ⟨.bin .eql .no (.loc 1) (.k (.int .i64 0)), none, none, true⟩, ⟨.move (.loc 2), none, none, true⟩, ⟨.move (.var 6), none, none, true⟩, ⟨.move (.var 0), none, none, true⟩, ⟨.len (.loc 5), none, none, true⟩, ⟨.bin .lss .no (.loc 4) (.loc 6), none, none, true⟩, ⟨.pick (.loc 3) (.loc 7) (.k (.bool false)), none, (some 7), true⟩])
 (.cond (.var 7) (.skip) (.exit 0))))
 ((.seq (.block 1 ((.seq (.ops [⟨.move (.k (.empty)), none, (some 13), true⟩])
 ((.seq (.ops [⟨.move (.k (.int .i64 0)), none, (some 8), true⟩])
 (.block 2 (.loop ((.seq ((.seq (.ops [⟨.move (.var 8), none, none, true⟩, ⟨.move (.var 9), none, none, true⟩, ⟨.len (.loc 1), none, none, true⟩, ⟨.bin .lss .no (.loc 0) (.loc 2), none, (some 10), true⟩])
 (.cond (.var 10) (.skip) (.exit 2))))
 ((.seq (.block 3 ((.seq ((.seq (.ops [⟨.move (.var 9), none, none, true⟩, ⟨.move (.var 8), none, none, true⟩, ⟨.indexAddr 4 (.loc 0) (.loc 1), none, none, true⟩, ⟨.fieldAddr 2 (.loc 2), none, none, true⟩, ⟨.load none (.loc 3), none, none, true⟩, ⟨.move (.var 6), none, none, true⟩, ⟨.bin .neq .no (.loc 4) (.loc 5), none, (some 11), true⟩])
 (.cond (.var 11) (.exit 3) (.skip))))
 ((.seq ((.seq (.ops [⟨.move (.var 1), none, none, true⟩, ⟨.move (.var 9), none, none, true⟩, ⟨.move (.var 8), none, none, true⟩, ⟨.callS nLsender [(.loc 0), (.loc 1), (.loc 2)], none, (some 12), true⟩])
 (.cond (.var 12) ((.seq (.ops [⟨.move (.var 13), none, none, true⟩, ⟨.move (.var 9), none, none, true⟩, ⟨.move (.var 8), none, none, true⟩, ⟨.indexAddr 4 (.loc 1) (.loc 2), none, none, true⟩, ⟨.fieldAddr 3 (.loc 3), none, none, true⟩, ⟨.load none (.loc 4), none, none, true⟩, ⟨.buildSlice 1 [.int .i64 0] [(0, 1, (.loc 5))] 1, none, none, true⟩, ⟨.append 1 8 (.loc 0) (.loc 6), none, none, true⟩, ⟨.move (.loc 7), none, (some 13), true⟩])
 ((.seq ((.seq (.ops [⟨.move (.var 13), none, none, true⟩, ⟨.len (.loc 0), none, none, true⟩, ⟨.move (.var 0), none, none, true⟩, ⟨.move (.var 6), none, none, true⟩, ⟨.indexAddr 1 (.loc 2) (.loc 3), none, none, true⟩, ⟨.load none (.loc 4), none, none, true⟩, ⟨.bin .gtr .no (.loc 1) (.loc 5), none, (some 14), true⟩])
 (.cond (.var 14) ((.seq (.ops [⟨.move (.k (.bool false)), none, (some 3), true⟩])
 (.ret))) (.skip))))
 (.exit 3))))) (.skip))))
 ((.seq ((.seq (.ops [⟨.move (.var 13), none, none, true⟩, ⟨.len (.loc 0), none, none, true⟩, ⟨.bin .eql .no (.loc 1) (.k (.int .i64 0)), none, none, true⟩, ⟨.move (.loc 2), none, none, true⟩, ⟨.move (.var 13), none, none, false⟩, ⟨.indexAddr 1 (.loc 4) (.k (.int .i64 0)), (some (3, false)), none, false⟩, ⟨.load none (.loc 5), (some (3, false)), none, false⟩, ⟨.move (.var 9), none, none, false⟩, ⟨.move (.var 8), none, none, false⟩, ⟨.indexAddr 4 (.loc 7) (.loc 8), (some (3, false)), none, false⟩, ⟨.fieldAddr 3 (.loc 9), (some (3, false)), none, false⟩, ⟨.load none (.loc 10), (some (3, false)), none, false⟩, ⟨.bin .neq .no (.loc 6) (.loc 11), (some (3, false)), none, true⟩, ⟨.pick (.loc 3) (.k (.bool true)) (.loc 12), none, (some 15), true⟩])
 (.cond (.var 15) ((.seq (.ops [⟨.move (.k (.bool false)), none, (some 3), true⟩])
 (.ret))) (.skip))))
 (.ops [⟨.move (.var 13), none, none, true⟩, ⟨.slice 1 (.loc 0) (some (.k (.int .i64 1))) none none, none, none, true⟩, ⟨.move (.loc 1), none, (some 13), true⟩]))))))))
 (.ops [⟨.move (.var 8), none, none, true⟩, ⟨.bin .add .no (.loc 0) (.k (.int .i64 1)), none, none, true⟩, ⟨.move (.loc 1), none, (some 8), true⟩]))))))))))))
 (.ops [⟨.move (.var 6), none, none, true⟩, ⟨.bin .add .no (.loc 0) (.k (.int .i64 1)), none, none, true⟩, ⟨.move (.loc 1), none, (some 6), true⟩])))))))))
 ((.seq (.ops [⟨.move (.k (.bool true)), none, (some 3), true⟩])
 (.ret))))))))))), none⟩
def rf_LDeadlineTimeGoesOn (ndeadline_Run nLdeadlineExample nFEqualResults : Nat) : RFunc := ⟨4, 18, [.var 4],
 ((.seq (.ops [⟨.move (.k (.bool false)), none, (some 4), true⟩])
 ((.seq (.ops [⟨.move (.var 0), none, none, true⟩, ⟨.move (.var 1), none, none, true⟩, ⟨.move (.var 2), none, none, true⟩, ⟨.callS ndeadline_Run [(.loc 0), (.loc 1), (.loc 2)], none, none, true⟩, ⟨.move (.loc 3), none, none, true⟩, ⟨.extract (.loc 4) 0, none, none, true⟩, ⟨.extract (.loc 4) 1, none, none, true⟩, ⟨.extract (.loc 4) 2, none, none, true⟩, ⟨.tomb 1 (.k (.agg [.int .i64 0, .int .i64 0])), none, (some 6), true⟩, ⟨.move (.loc 5), none, (some 9), true⟩, ⟨.move (.loc 6), none, none, true⟩, ⟨.upd 2 0 (.loc 8) (.loc 7), none, (some 6), true⟩])
 ((.seq (.ops [⟨.move (.var 0), none, none, true⟩, ⟨.move (.var 1), none, none, true⟩, ⟨.move (.var 3), none, none, true⟩, ⟨.callS ndeadline_Run [(.loc 0), (.loc 1), (.loc 2)], none, none, true⟩, ⟨.move (.loc 3), none, none, true⟩, ⟨.extract (.loc 4) 0, none, none, true⟩, ⟨.extract (.loc 4) 1, none, none, true⟩, ⟨.extract (.loc 4) 2, none, none, true⟩, ⟨.tomb 1 (.k (.agg [.int .i64 0, .int .i64 0])), none, (some 7), true⟩, ⟨.move (.loc 5), none, (some 10), true⟩, ⟨.move (.loc 6), none, none, true⟩, ⟨.upd 2 0 (.loc 8) (.loc 7), none, (some 7), true⟩])
 ((.seq ((.seq (.ops [⟨.callS nLdeadlineExample [], none, none, true⟩, ⟨.un .not (.loc 0), none, (some 5), true⟩])
 (.cond (.var 5) ((.seq (.ops [⟨.move (.k (.bool false)), none, (some 4), true⟩])
 (.ret))) (.skip))))
 ((.seq ((.seq (.ops [⟨.field 0 none (.var 6), none, none, true⟩, ⟨.field 0 none (.var 6), none, none, true⟩, ⟨.bin .neq .no (.loc 1) (.k (.int .i64 0)), none, none, true⟩, ⟨.move (.loc 2), none, none, true⟩, ⟨.field 0 none (.var 7), none, none, true⟩, ⟨.field 0 none (.var 7), none, none, true⟩, ⟨.bin .neq .no (.loc 5) (.k (.int .i64 0)), none, none, true⟩, ⟨.pick (.loc 3) (.k (.bool true)) (.loc 6), none, none, true⟩, ⟨.move (.loc 7), none, none, true⟩, ⟨.move (.var 2), none, none, true⟩, ⟨.move (.var 3), none, none, true⟩, ⟨.bin .gtr .no (.loc 9) (.loc 10), none, none, true⟩, ⟨.pick (.loc 8) (.k (.bool true)) (.loc 11), none, (some 8), true⟩])
 (.cond (.var 8) ((.seq (.ops [⟨.move (.k (.bool true)), none, (some 4), true⟩])
 (.ret))) (.skip))))
 ((.seq ((.seq (.ops [⟨.move (.var 9), none, none, true⟩, ⟨.len (.loc 0), none, none, true⟩, ⟨.move (.var 10), none, none, true⟩, ⟨.len (.loc 2), none, none, true⟩, ⟨.bin .gtr .no (.loc 1) (.loc 3), none, none, true⟩, ⟨.move (.loc 4), none, none, true⟩, ⟨.move (.var 9), none, none, true⟩, ⟨.move (.var 10), none, none, true⟩, ⟨.move (.var 9), none, none, true⟩, ⟨.len (.loc 8), none, none, true⟩, ⟨.slice 4 (.loc 7) none (some (.loc 9)) none, (some (5, false)), none, true⟩, ⟨.callS nFEqualResults [(.loc 6), (.loc 10)], (some (5, false)), none, true⟩, ⟨.un .not (.loc 11), (some (5, false)), none, true⟩, ⟨.pick (.loc 5) (.k (.bool true)) (.loc 12), none, (some 11), true⟩])
 (.cond (.var 11) ((.seq (.ops [⟨.move (.k (.bool false)), none, (some 4), true⟩])
 (.ret))) (.skip))))
 ((.seq ((.seq (.ops [⟨.move (.k (.int .i64 0)), none, (some 12), true⟩])
 (.block 0 (.loop ((.seq ((.seq (.ops [⟨.move (.var 12), none, none, true⟩, ⟨.move (.var 10), none, none, true⟩, ⟨.len (.loc 1), none, none, true⟩, ⟨.bin .lss .no (.loc 0) (.loc 2), none, (some 13), true⟩])
 (.cond (.var 13) (.skip) (.exit 0))))
 ((.seq (.block 1 ((.seq ((.seq (.ops [⟨.move (.var 10), none, none, true⟩, ⟨.move (.var 12), none, none, true⟩, ⟨.indexAddr 4 (.loc 0) (.loc 1), none, none, true⟩, ⟨.fieldAddr 0 (.loc 2), none, none, true⟩, ⟨.load none (.loc 3), none, none, true⟩, ⟨.bin .lss .no (.loc 4) (.k (.int .i64 0)), none, none, true⟩, ⟨.move (.loc 5), none, none, true⟩, ⟨.move (.var 10), (some (6, false)), none, true⟩, ⟨.move (.var 12), (some (6, false)), none, true⟩, ⟨.indexAddr 4 (.loc 7) (.loc 8), (some (6, false)), none, true⟩, ⟨.fieldAddr 0 (.loc 9), (some (6, false)), none, true⟩, ⟨.load none (.loc 10), (some (6, false)), none, true⟩, ⟨.move (.var 3), (some (6, false)), none, false⟩, ⟨.bin .geq .no (.loc 11) (.loc 12), (some (6, false)), none, true⟩, ⟨.pick (.loc 6) (.k (.bool true)) (.loc 13), none, none, true⟩, ⟨.move (.loc 14), none, none, true⟩, ⟨.move (.var 12), (some (15, false)), none, true⟩, ⟨.bin .gtr .no (.loc 16) (.k (.int .i64 0)), (some (15, false)), none, true⟩, ⟨.move (.loc 17), (some (15, false)), none, true⟩, ⟨.move (.var 10), (some (18, true)), none, false⟩, ⟨.move (.var 12), (some (18, true)), none, false⟩, ⟨.indexAddr 4 (.loc 19) (.loc 20), (some (18, true)), none, false⟩, ⟨.fieldAddr 0 (.loc 21), (some (18, true)), none, false⟩, ⟨.load none (.loc 22), (some (18, true)), none, false⟩, ⟨.move (.var 10), (some (18, true)), none, false⟩, ⟨.move (.var 12), (some (18, true)), none, false⟩, ⟨.bin .sub .no (.loc 25) (.k (.int .i64 1)), (some (18, true)), none, false⟩, ⟨.indexAddr 4 (.loc 24) (.loc 26), (some (18, true)), none, false⟩, ⟨.fieldAddr 0 (.loc 27), (some (18, true)), none, false⟩, ⟨.load none (.loc 28), (some (18, true)), none, false⟩, ⟨.bin .lss .no (.loc 23) (.loc 29), (some (18, true)), none, true⟩, ⟨.pick (.loc 18) (.loc 30) (.k (.bool false)), (some (15, false)), none, true⟩, ⟨.pick (.loc 15) (.k (.bool true)) (.loc 31), none, none, true⟩, ⟨.move (.loc 32), none, none, true⟩, ⟨.move (.var 12), (some (33, false)), none, false⟩, ⟨.move (.var 9), (some (33, false)), none, false⟩, ⟨.len (.loc 35), (some (33, false)), none, false⟩, ⟨.bin .lss .no (.loc 34) (.loc 36), (some (33, false)), none, false⟩, ⟨.move (.var 10), (some (33, false)), none, true⟩, ⟨.move (.var 12), (some (33, false)), none, true⟩, ⟨.indexAddr 4 (.loc 38) (.loc 39), (some (33, false)), none, true⟩, ⟨.fieldAddr 0 (.loc 40), (some (33, false)), none, true⟩, ⟨.load none (.loc 41), (some (33, false)), none, true⟩, ⟨.move (.var 2), (some (33, false)), none, false⟩, ⟨.bin .lss .no (.loc 42) (.loc 43), (some (33, false)), none, true⟩, ⟨.bin .neq .bool (.loc 37) (.loc 44), (some (33, false)), none, true⟩, ⟨.pick (.loc 33) (.k (.bool true)) (.loc 45), none, (some 14), true⟩])
 (.cond (.var 14) ((.seq (.ops [⟨.move (.k (.bool false)), none, (some 4), true⟩])
 (.ret))) (.skip))))
 ((.seq (.ops [⟨.move (.k (.int .i64 0)), none, (some 15), true⟩])
 (.block 2 (.loop ((.seq ((.seq (.ops [⟨.move (.var 15), none, none, true⟩, ⟨.move (.var 12), none, none, true⟩, ⟨.bin .lss .no (.loc 0) (.loc 1), none, (some 16), true⟩])
 (.cond (.var 16) (.skip) (.exit 2))))
 ((.seq (.block 3 ((.seq (.ops [⟨.move (.var 10), none, none, false⟩, ⟨.move (.var 15), none, none, false⟩, ⟨.indexAddr 4 (.loc 0) (.loc 1), none, none, false⟩, ⟨.fieldAddr 1 (.loc 2), none, none, false⟩, ⟨.load none (.loc 3), none, none, false⟩, ⟨.move (.var 10), none, none, false⟩, ⟨.move (.var 12), none, none, false⟩, ⟨.indexAddr 4 (.loc 5) (.loc 6), none, none, false⟩, ⟨.fieldAddr 1 (.loc 7), none, none, false⟩, ⟨.load none (.loc 8), none, none, false⟩, ⟨.bin .eql .no (.loc 4) (.loc 9), none, none, true⟩, ⟨.move (.loc 10), none, none, true⟩, ⟨.move (.var 10), none, none, false⟩, ⟨.move (.var 15), none, none, false⟩, ⟨.indexAddr 4 (.loc 12) (.loc 13), (some (11, true)), none, false⟩, ⟨.fieldAddr 0 (.loc 14), (some (11, true)), none, false⟩, ⟨.load none (.loc 15), (some (11, true)), none, false⟩, ⟨.move (.var 10), none, none, false⟩, ⟨.move (.var 12), none, none, false⟩, ⟨.indexAddr 4 (.loc 17) (.loc 18), (some (11, true)), none, false⟩, ⟨.fieldAddr 0 (.loc 19), (some (11, true)), none, false⟩, ⟨.load none (.loc 20), (some (11, true)), none, false⟩, ⟨.bin .eql .no (.loc 16) (.loc 21), (some (11, true)), none, true⟩, ⟨.pick (.loc 11) (.loc 22) (.k (.bool false)), none, (some 17), true⟩])
 (.cond (.var 17) ((.seq (.ops [⟨.move (.k (.bool false)), none, (some 4), true⟩])
 (.ret))) (.skip)))))
 (.ops [⟨.move (.var 15), none, none, true⟩, ⟨.bin .add .no (.loc 0) (.k (.int .i64 1)), none, none, true⟩, ⟨.move (.loc 1), none, (some 15), true⟩]))))))))))))
 (.ops [⟨.move (.var 12), none, none, true⟩, ⟨.bin .add .no (.loc 0) (.k (.int .i64 1)), none, none, true⟩, ⟨.move (.loc 1), none, (some 12), true⟩])))))))))
 ((.seq (.ops [⟨.move (.k (.bool true)), none, (some 4), true⟩])
 (.ret))))))))))))))))), none⟩
theorem v_LDeadlineTimeGoesOn {F : Nat → Option RFunc} {me ndeadline_Run nLdeadlineExample nFEqualResults : Nat} (hF : F me = some (rf_LDeadlineTimeGoesOn ndeadline_Run nLdeadlineExample nFEqualResults)) {fl : Nat} {H : Heap} {Q : AV → Heap → Prop} (capacities0 : AV) (scripts1 : AV) (ticks2 : Int) (more3 : Int)
  (h : Ret F fl ndeadline_Run [capacities0, scripts1, (.int .i64 ticks2)] H (fun v9 H8 => ∃ (r4 : AV) (r5 : AV) (r6 : Int) (r7 : Int), v9 = (.tuple [r4, r5, (.agg [(.int .i64 r6), (.int .i64 r7)])]) ∧ ∀ (H10 : Heap), Dead1 H8 1 H10 → Ret F fl ndeadline_Run [capacities0, scripts1, (.int .i64 more3)] H10 (fun v16 H15 => ∃ (r11 : AV) (r12 : AV) (r13 : Int) (r14 : Int), v16 = (.tuple [r11, r12, (.agg [(.int .i64 r13), (.int .i64 r14)])]) ∧ ∀ (H17 : Heap), Dead1 H15 1 H17 → Ret F fl nLdeadlineExample [] H17 (fun v20 H19 => ∃ (r18 : Bool), v20 = (.bool r18) ∧ ((¬(r18 = true)) → Q (.bool false) H19) ∧ (¬(¬(r18 = true)) → ((((((r6 ≠ 0) ∨ (r13 ≠ 0))) ∨ (ticks2 > more3))) → Q (.bool true) H19) ∧ (¬(((((r6 ≠ 0) ∨ (r13 ≠ 0))) ∨ (ticks2 > more3))) → ∃ len21 : Nat, lenA r4 = some len21 ∧ ∃ len22 : Nat, lenA r11 = some len22 ∧ ∃ len23 : Nat, lenA r4 = some len23 ∧ (((len21 : Int) > (len22 : Int)) → Q (.bool false) H19) ∧ (¬((len21 : Int) > (len22 : Int)) → ∃ s24 : AV, rslice H19 4 r11 none (some (.int .i64 (len23 : Int))) none = some s24 ∧ Ret F fl nFEqualResults [r4, s24] H19 (fun v27 H26 => ∃ (r25 : Bool), v27 = (.bool r25) ∧ ((¬(r25 = true)) → Q (.bool false) H26) ∧ (¬(¬(r25 = true)) → ∃ (J28 : Nat → Int → Prop) (k29 : Nat), J28 k29 0 ∧ (∀ (m30 : Nat) (i32 : Int), J28 m30 i32 → ∃ len38 : Nat, lenA r11 = some len38 ∧ ((i32 < (len38 : Int)) → ∃ (R39 : Prop), (∃ (e42 : Int), getA H26 4 none r11 i32 0 = some (.int .i64 e42) ∧ ((e42 < 0) → Q (.bool false) H26) ∧ (¬(e42 < 0) → ∃ (e44 : Int), getA H26 4 none r11 i32 0 = some (.int .i64 e44) ∧ ((e44 ≥ more3) → Q (.bool false) H26) ∧ (¬(e44 ≥ more3) → ((i32 > 0) → ∃ (e46 : Int), getA H26 4 none r11 i32 0 = some (.int .i64 e46) ∧ ∃ (e48 : Int), getA H26 4 none r11 (IntKind.wrap .i64 (i32 - 1)) 0 = some (.int .i64 e48) ∧ ((e46 < e48) → Q (.bool false) H26) ∧ (¬(e46 < e48) → ∃ len50 : Nat, lenA r4 = some len50 ∧ ∃ (e51 : Int), getA H26 4 none r11 i32 0 = some (.int .i64 e51) ∧ ((¬((decide (i32 < (len50 : Int))) = (decide (e51 < ticks2)))) → Q (.bool false) H26) ∧ (¬(¬((decide (i32 < (len50 : Int))) = (decide (e51 < ticks2)))) → R39 ))) ∧ (¬(i32 > 0) → ∃ len53 : Nat, lenA r4 = some len53 ∧ ∃ (e54 : Int), getA H26 4 none r11 i32 0 = some (.int .i64 e54) ∧ ((¬((decide (i32 < (len53 : Int))) = (decide (e54 < ticks2)))) → Q (.bool false) H26) ∧ (¬(¬((decide (i32 < (len53 : Int))) = (decide (e54 < ticks2)))) → R39 ))))) ∧ (R39  → ∃ (J56 : Nat → Int → Prop) (k57 : Nat), J56 k57 0 ∧ (∀ (m58 : Nat) (k60 : Int), J56 m58 k60 → ((k60 < i32) → ∃ (e63 : Int), getA H26 4 none r11 k60 1 = some (.int .i64 e63) ∧ ∃ (e65 : Int), getA H26 4 none r11 i32 1 = some (.int .i64 e65) ∧ ((e63 = e65) → ∃ (e67 : Int), getA H26 4 none r11 k60 0 = some (.int .i64 e67) ∧ ∃ (e69 : Int), getA H26 4 none r11 i32 0 = some (.int .i64 e69) ∧ ((e67 = e69) → Q (.bool false) H26) ∧ (¬(e67 = e69) → ∃ m71 : Nat, m71 < m58 ∧ J56 m71 (IntKind.wrap .i64 (k60 + 1)))) ∧ (¬(e63 = e65) → ∃ m72 : Nat, m72 < m58 ∧ J56 m72 (IntKind.wrap .i64 (k60 + 1)))) ∧ (¬(k60 < i32) → ∃ m73 : Nat, m73 < m30 ∧ J28 m73 (IntKind.wrap .i64 (i32 + 1)))))) ∧ (¬(i32 < (len38 : Int)) → Q (.bool true) H26))))))))))) : Ret F fl me [capacities0, scripts1, (.int .i64 ticks2), (.int .i64 more3)] H Q := by
  refine ret_intro hF rfl ?_
  refine w_seq ?_
  refine w_run [0] ?_
  refine t_done [capacities0, scripts1, (.int .i64 ticks2), (.int .i64 more3), (.bool false), .undef, .undef, .undef, .undef, .undef, .undef, .undef, .undef, .undef, .undef, .undef, .undef, .undef] H (by kernel_rfl) ?_
  refine then_norm ?_
  refine w_seq ?_
  refine w_run [0, 0, 0, 1, 0, 0, 0, 0, 1, 0, 0, 1] ?_
  refine t_call true ndeadline_Run [capacities0, scripts1, (.int .i64 ticks2)] H (by kernel_rfl) h ?_
  clear h
  rintro _ H8 ⟨r4, r5, r6, r7, rfl, h⟩
  obtain ⟨H10, hb⟩ : ∃ H', Dead1 H8 1 H' := ⟨_, ⟨rfl⟩⟩
  replace h := h H10 hb
  refine t_tomb true 1 (.agg [(.int .i64 0), (.int .i64 0)]) [(.int .i64 0), (.int .i64 0)] H10 H8 (by kernel_rfl) rfl hb ?_
  refine t_upd true 2 0 [(.int .i64 0), (.int .i64 0)] (.agg [(.int .i64 r6), (.int .i64 r7)]) [(.int .i64 r6), (.int .i64 r7)] [(.int .i64 r6), (.int .i64 r7)] H10 (by kernel_rfl) rfl (all_c rfl (all_c rfl all_n)) ⟨rfl, Nat.le_of_ble_eq_true (by kernel_rfl), rfl⟩ ?_
  refine t_done [capacities0, scripts1, (.int .i64 ticks2), (.int .i64 more3), (.bool false), .undef, (.agg [(.int .i64 r6), (.int .i64 r7)]), .undef, .undef, r4, .undef, .undef, .undef, .undef, .undef, .undef, .undef, .undef] H10 (by kernel_rfl) ?_
  refine then_norm ?_
  refine w_seq ?_
  refine w_run [0, 0, 0, 1, 0, 0, 0, 0, 1, 0, 0, 1] ?_
  refine t_call true ndeadline_Run [capacities0, scripts1, (.int .i64 more3)] H10 (by kernel_rfl) h ?_
  clear h
  rintro _ H15 ⟨r11, r12, r13, r14, rfl, h⟩
  obtain ⟨H17, hb⟩ : ∃ H', Dead1 H15 1 H' := ⟨_, ⟨rfl⟩⟩
  replace h := h H17 hb
  refine t_tomb true 1 (.agg [(.int .i64 0), (.int .i64 0)]) [(.int .i64 0), (.int .i64 0)] H17 H15 (by kernel_rfl) rfl hb ?_
  refine t_upd true 2 0 [(.int .i64 0), (.int .i64 0)] (.agg [(.int .i64 r13), (.int .i64 r14)]) [(.int .i64 r13), (.int .i64 r14)] [(.int .i64 r13), (.int .i64 r14)] H17 (by kernel_rfl) rfl (all_c rfl (all_c rfl all_n)) ⟨rfl, Nat.le_of_ble_eq_true (by kernel_rfl), rfl⟩ ?_
  refine t_done [capacities0, scripts1, (.int .i64 ticks2), (.int .i64 more3), (.bool false), .undef, (.agg [(.int .i64 r6), (.int .i64 r7)]), (.agg [(.int .i64 r13), (.int .i64 r14)]), .undef, r4, r11, .undef, .undef, .undef, .undef, .undef, .undef, .undef] H17 (by kernel_rfl) ?_
  refine then_norm ?_
  refine w_seq ?_
  refine w_seq ?_
  refine w_run [1, 0] ?_
  refine t_call true nLdeadlineExample [] H17 (by kernel_rfl) h ?_
  clear h
  rintro _ H19 ⟨r18, rfl, h⟩
  refine t_done [capacities0, scripts1, (.int .i64 ticks2), (.int .i64 more3), (.bool false), (.bool (!r18)), (.agg [(.int .i64 r6), (.int .i64 r7)]), (.agg [(.int .i64 r13), (.int .i64 r14)]), .undef, r4, r11, .undef, .undef, .undef, .undef, .undef, .undef, .undef] H19 (by kernel_rfl) ?_
  refine then_norm ?_
  refine w_cond (t := (!r18)) rfl (fun hc => ?_) (fun hc => ?_)
  · replace h := h.1 ((is_not is_raw).t hc)
    refine w_seq ?_
    refine w_run [0] ?_
    refine t_done [capacities0, scripts1, (.int .i64 ticks2), (.int .i64 more3), (.bool false), (.bool (!r18)), (.agg [(.int .i64 r6), (.int .i64 r7)]), (.agg [(.int .i64 r13), (.int .i64 r14)]), .undef, r4, r11, .undef, .undef, .undef, .undef, .undef, .undef, .undef] H19 (by kernel_rfl) ?_
    refine then_norm ?_
    refine w_ret ?_
    refine then_ret ?_
    exact body_ret (vs := [(.bool false)]) _ (by kernel_rfl) rfl h
  · replace h := h.2 ((is_not is_raw).f hc)
    refine w_skip ?_
    refine then_norm ?_
    refine w_seq ?_
    refine w_seq ?_
    refine w_run [0, 0, 0, 0, 0, 0, 0, 0, 0, 0, 0, 0, 0] ?_
    refine t_done [capacities0, scripts1, (.int .i64 ticks2), (.int .i64 more3), (.bool false), (.bool (!r18)), (.agg [(.int .i64 r6), (.int .i64 r7)]), (.agg [(.int .i64 r13), (.int .i64 r14)]), (.bool ((((r6) != 0) || ((r13) != 0)) || (decide (ticks2 > more3)))), r4, r11, .undef, .undef, .undef, .undef, .undef, .undef, .undef] H19 (by kernel_rfl) ?_
    refine then_norm ?_
    refine w_cond (t := ((((r6) != 0) || ((r13) != 0)) || (decide (ticks2 > more3)))) rfl (fun hc => ?_) (fun hc => ?_)
    · replace h := h.1 ((is_or (is_or is_ne is_ne) is_dec).t hc)
      refine w_seq ?_
      refine w_run [0] ?_
      refine t_done [capacities0, scripts1, (.int .i64 ticks2), (.int .i64 more3), (.bool true), (.bool (!r18)), (.agg [(.int .i64 r6), (.int .i64 r7)]), (.agg [(.int .i64 r13), (.int .i64 r14)]), (.bool ((((r6) != 0) || ((r13) != 0)) || (decide (ticks2 > more3)))), r4, r11, .undef, .undef, .undef, .undef, .undef, .undef, .undef] H19 (by kernel_rfl) ?_
      refine then_norm ?_
      refine w_ret ?_
      refine then_ret ?_
      exact body_ret (vs := [(.bool true)]) _ (by kernel_rfl) rfl h
    · replace h := h.2 ((is_or (is_or is_ne is_ne) is_dec).f hc)
      refine w_skip ?_
      refine then_norm ?_
      refine w_seq ?_
      refine w_seq ?_
      refine w_run [0, 1, 0, 1, 0, 0, 0, 0, 0, 1, 3, 3, 2, 0] ?_
      obtain ⟨len21, hl, h⟩ := h
      refine t_len true r4 len21 H19 (by kernel_rfl) hl ?_
      obtain ⟨len22, hl, h⟩ := h
      refine t_len true r11 len22 H19 (by kernel_rfl) hl ?_
      obtain ⟨len23, hl, h⟩ := h
      refine t_len true r4 len23 H19 (by kernel_rfl) hl ?_
      refine t_gd (decide ((len21 : Int) > (len22 : Int))) false (by kernel_rfl) (fun hc => ?_) (fun hc => ?_)
      · replace h := h.2 (is_dec.f hc)
        obtain ⟨s24, hs, h⟩ := h
        refine t_slcH true 4 r11 (.int .i64 (len23 : Int)) s24 H19 (by kernel_rfl) hs ?_
        refine t_gd false false (by kernel_rfl) (fun _ => ?_) (fun hn => by cases hn)
        refine t_call true nFEqualResults [r4, s24] H19 (by kernel_rfl) h ?_
        clear h
        rintro _ H26 ⟨r25, rfl, h⟩
        refine t_gd false false (by kernel_rfl) (fun _ => ?_) (fun hn => by cases hn)
        refine t_done [capacities0, scripts1, (.int .i64 ticks2), (.int .i64 more3), (.bool false), (.bool (!r18)), (.agg [(.int .i64 r6), (.int .i64 r7)]), (.agg [(.int .i64 r13), (.int .i64 r14)]), (.bool ((((r6) != 0) || ((r13) != 0)) || (decide (ticks2 > more3)))), r4, r11, (.bool (!r25)), .undef, .undef, .undef, .undef, .undef, .undef] H26 (by kernel_rfl) ?_
        refine then_norm ?_
        refine w_cond (t := (!r25)) rfl (fun hc => ?_) (fun hc => ?_)
        · replace h := h.1 ((is_not is_raw).t hc)
          refine w_seq ?_
          refine w_run [0] ?_
          refine t_done [capacities0, scripts1, (.int .i64 ticks2), (.int .i64 more3), (.bool false), (.bool (!r18)), (.agg [(.int .i64 r6), (.int .i64 r7)]), (.agg [(.int .i64 r13), (.int .i64 r14)]), (.bool ((((r6) != 0) || ((r13) != 0)) || (decide (ticks2 > more3)))), r4, r11, (.bool (!r25)), .undef, .undef, .undef, .undef, .undef, .undef] H26 (by kernel_rfl) ?_
          refine then_norm ?_
          refine w_ret ?_
          refine then_ret ?_
          exact body_ret (vs := [(.bool false)]) _ (by kernel_rfl) rfl h
        · replace h := h.2 ((is_not is_raw).f hc)
          refine w_skip ?_
          refine then_norm ?_
          refine w_seq ?_
          refine w_seq ?_
          refine w_run [0] ?_
          refine t_done [capacities0, scripts1, (.int .i64 ticks2), (.int .i64 more3), (.bool false), (.bool (!r18)), (.agg [(.int .i64 r6), (.int .i64 r7)]), (.agg [(.int .i64 r13), (.int .i64 r14)]), (.bool ((((r6) != 0) || ((r13) != 0)) || (decide (ticks2 > more3)))), r4, r11, (.bool (!r25)), (.int .i64 0), .undef, .undef, .undef, .undef, .undef] H26 (by kernel_rfl) ?_
          refine then_norm ?_
          refine w_block ?_
          obtain ⟨J28, k29, h0, h⟩ := h
          refine w_loop (I := fun mI EI HI => ∃ (d31 : AV) (i32 : Int) (d33 : AV) (d34 : AV) (d35 : AV) (d36 : AV) (d37 : AV), EI = [capacities0, scripts1, (.int .i64 ticks2), (.int .i64 more3), d31, (.bool (!r18)), (.agg [(.int .i64 r6), (.int .i64 r7)]), (.agg [(.int .i64 r13), (.int .i64 r14)]), (.bool ((((r6) != 0) || ((r13) != 0)) || (decide (ticks2 > more3)))), r4, r11, (.bool (!r25)), (.int .i64 i32), d33, d34, d35, d36, d37] ∧ H26 = HI ∧ J28 mI i32) ?_ k29 ⟨_, _, _, _, _, _, _, rfl, rfl, h0⟩
          clear h0
          rintro m30 EI HI ⟨d31, i32, d33, d34, d35, d36, d37, rfl, rfl, hJ⟩
          replace h := h m30 i32  hJ
          clear hJ
          refine w_seq ?_
          refine w_seq ?_
          refine w_run [0, 0, 1, 0] ?_
          obtain ⟨len38, hl, h⟩ := h
          refine t_len true r11 len38 H26 (by kernel_rfl) hl ?_
          refine t_done [capacities0, scripts1, (.int .i64 ticks2), (.int .i64 more3), d31, (.bool (!r18)), (.agg [(.int .i64 r6), (.int .i64 r7)]), (.agg [(.int .i64 r13), (.int .i64 r14)]), (.bool ((((r6) != 0) || ((r13) != 0)) || (decide (ticks2 > more3)))), r4, r11, (.bool (!r25)), (.int .i64 i32), (.bool (decide (i32 < (len38 : Int)))), d34, d35, d36, d37] H26 (by kernel_rfl) ?_
          refine then_norm ?_
          refine w_cond (t := (decide (i32 < (len38 : Int)))) rfl (fun hc => ?_) (fun hc => ?_)
          · replace h := h.1 (is_dec.t hc)
            refine w_skip ?_
            refine then_norm ?_
            refine w_seq ?_
            refine w_block ?_
            refine w_seq ?_
            obtain ⟨R39, h, hK⟩ := h
            refine w_join (fun EI HI => ∃ (d40 : AV) (d41 : AV), EI = [capacities0, scripts1, (.int .i64 ticks2), (.int .i64 more3), d40, (.bool (!r18)), (.agg [(.int .i64 r6), (.int .i64 r7)]), (.agg [(.int .i64 r13), (.int .i64 r14)]), (.bool ((((r6) != 0) || ((r13) != 0)) || (decide (ticks2 > more3)))), r4, r11, (.bool (!r25)), (.int .i64 i32), (.bool (decide (i32 < (len38 : Int)))), d41, d35, d36, d37] ∧ H26 = HI ∧ R39 ) ?_ ?_
            · clear hK
              refine w_seq ?_
              refine w_run [0, 0, 1, 1, 1, 0, 0, 2, 2, 3, 3, 3, 2, 2, 0, 0, 2, 2, 2, 2, 2, 3, 3, 3, 2, 2, 2, 3, 3, 3, 2, 2, 0, 0, 2, 2, 3, 2, 2, 2, 3, 3, 3, 2, 2, 2, 0] ?_
              obtain ⟨e42, hg43, h⟩ := h
              refine t_idxG true 4 r11 .i64 i32 H26 (by kernel_rfl) hg43 ?_
              refine t_fldG true 0 4 r11 i32 0 H26 (by kernel_rfl) hg43 ?_
              refine t_loadG true none 4 r11 i32 0 (.int .i64 e42) H26 (by kernel_rfl) hg43 ?_
              refine t_gd (decide (e42 < 0)) false (by kernel_rfl) (fun hc => ?_) (fun hc => ?_)
              · replace h := h.2 (is_dec.f hc)
                refine t_gd false false (by kernel_rfl) (fun _ => ?_) (fun hn => by cases hn)
                refine t_gd false false (by kernel_rfl) (fun _ => ?_) (fun hn => by cases hn)
                obtain ⟨e44, hg45, h⟩ := h
                refine t_idxG true 4 r11 .i64 i32 H26 (by kernel_rfl) hg45 ?_
                refine t_gd false false (by kernel_rfl) (fun _ => ?_) (fun hn => by cases hn)
                refine t_fldG true 0 4 r11 i32 0 H26 (by kernel_rfl) hg45 ?_
                refine t_gd false false (by kernel_rfl) (fun _ => ?_) (fun hn => by cases hn)
                refine t_loadG true none 4 r11 i32 0 (.int .i64 e44) H26 (by kernel_rfl) hg45 ?_
                refine t_gd false false (by kernel_rfl) (fun _ => ?_) (fun hn => by cases hn)
                refine t_gd false false (by kernel_rfl) (fun _ => ?_) (fun hn => by cases hn)
                refine t_gd (decide (e44 ≥ more3)) false (by kernel_rfl) (fun hc => ?_) (fun hc => ?_)
                · replace h := h.2 (is_dec.f hc)
                  refine t_gd false false (by kernel_rfl) (fun _ => ?_) (fun hn => by cases hn)
                  refine t_gd false false (by kernel_rfl) (fun _ => ?_) (fun hn => by cases hn)
                  refine t_gd (decide (i32 > 0)) true (by kernel_rfl) (fun hc => ?_) (fun hc => ?_)
                  · replace h := h.1 (is_dec.t hc)
                    refine t_gd true true (by kernel_rfl) (fun _ => ?_) (fun hn => by cases hn)
                    refine t_gd true true (by kernel_rfl) (fun _ => ?_) (fun hn => by cases hn)
                    obtain ⟨e46, hg47, h⟩ := h
                    refine t_idxG false 4 r11 .i64 i32 H26 (by kernel_rfl) hg47 ?_
                    refine t_gd true true (by kernel_rfl) (fun _ => ?_) (fun hn => by cases hn)
                    refine t_fldG false 0 4 r11 i32 0 H26 (by kernel_rfl) hg47 ?_
                    refine t_gd true true (by kernel_rfl) (fun _ => ?_) (fun hn => by cases hn)
                    refine t_loadG false none 4 r11 i32 0 (.int .i64 e46) H26 (by kernel_rfl) hg47 ?_
                    refine t_gd true true (by kernel_rfl) (fun _ => ?_) (fun hn => by cases hn)
                    refine t_gd true true (by kernel_rfl) (fun _ => ?_) (fun hn => by cases hn)
                    refine t_gd true true (by kernel_rfl) (fun _ => ?_) (fun hn => by cases hn)
                    refine t_gd true true (by kernel_rfl) (fun _ => ?_) (fun hn => by cases hn)
                    obtain ⟨e48, hg49, h⟩ := h
                    refine t_idxG false 4 r11 .i64 (IntKind.wrap .i64 (i32 - 1)) H26 (by kernel_rfl) hg49 ?_
                    refine t_gd true true (by kernel_rfl) (fun _ => ?_) (fun hn => by cases hn)
                    refine t_fldG false 0 4 r11 (IntKind.wrap .i64 (i32 - 1)) 0 H26 (by kernel_rfl) hg49 ?_
                    refine t_gd true true (by kernel_rfl) (fun _ => ?_) (fun hn => by cases hn)
                    refine t_loadG false none 4 r11 (IntKind.wrap .i64 (i32 - 1)) 0 (.int .i64 e48) H26 (by kernel_rfl) hg49 ?_
                    refine t_gd true true (by kernel_rfl) (fun _ => ?_) (fun hn => by cases hn)
                    refine t_gd false false (by kernel_rfl) (fun _ => ?_) (fun hn => by cases hn)
                    refine t_gd (decide (e46 < e48)) false (by kernel_rfl) (fun hc => ?_) (fun hc => ?_)
                    · replace h := h.2 (is_dec.f hc)
                      refine t_gd false false (by kernel_rfl) (fun _ => ?_) (fun hn => by cases hn)
                      refine t_gd false false (by kernel_rfl) (fun _ => ?_) (fun hn => by cases hn)
                      obtain ⟨len50, hl, h⟩ := h
                      refine t_len false r4 len50 H26 (by kernel_rfl) hl ?_
                      refine t_gd false false (by kernel_rfl) (fun _ => ?_) (fun hn => by cases hn)
                      refine t_gd false false (by kernel_rfl) (fun _ => ?_) (fun hn => by cases hn)
                      refine t_gd false false (by kernel_rfl) (fun _ => ?_) (fun hn => by cases hn)
                      refine t_gd false false (by kernel_rfl) (fun _ => ?_) (fun hn => by cases hn)
                      obtain ⟨e51, hg52, h⟩ := h
                      refine t_idxG true 4 r11 .i64 i32 H26 (by kernel_rfl) hg52 ?_
                      refine t_gd false false (by kernel_rfl) (fun _ => ?_) (fun hn => by cases hn)
                      refine t_fldG true 0 4 r11 i32 0 H26 (by kernel_rfl) hg52 ?_
                      refine t_gd false false (by kernel_rfl) (fun _ => ?_) (fun hn => by cases hn)
                      refine t_loadG true none 4 r11 i32 0 (.int .i64 e51) H26 (by kernel_rfl) hg52 ?_
                      refine t_gd false false (by kernel_rfl) (fun _ => ?_) (fun hn => by cases hn)
                      refine t_gd false false (by kernel_rfl) (fun _ => ?_) (fun hn => by cases hn)
                      refine t_gd false false (by kernel_rfl) (fun _ => ?_) (fun hn => by cases hn)
                      refine t_done [capacities0, scripts1, (.int .i64 ticks2), (.int .i64 more3), d31, (.bool (!r18)), (.agg [(.int .i64 r6), (.int .i64 r7)]), (.agg [(.int .i64 r13), (.int .i64 r14)]), (.bool ((((r6) != 0) || ((r13) != 0)) || (decide (ticks2 > more3)))), r4, r11, (.bool (!r25)), (.int .i64 i32), (.bool (decide (i32 < (len38 : Int)))), (.bool (!((decide (i32 < (len50 : Int))) == (decide (e51 < ticks2))))), d35, d36, d37] H26 (by kernel_rfl) ?_
                      refine then_norm ?_
                      refine w_cond (t := (!((decide (i32 < (len50 : Int))) == (decide (e51 < ticks2))))) rfl (fun hc => ?_) (fun hc => ?_)
                      · replace h := h.1 ((is_not is_beq).t hc)
                        refine w_seq ?_
                        refine w_run [0] ?_
                        refine t_done [capacities0, scripts1, (.int .i64 ticks2), (.int .i64 more3), (.bool false), (.bool (!r18)), (.agg [(.int .i64 r6), (.int .i64 r7)]), (.agg [(.int .i64 r13), (.int .i64 r14)]), (.bool ((((r6) != 0) || ((r13) != 0)) || (decide (ticks2 > more3)))), r4, r11, (.bool (!r25)), (.int .i64 i32), (.bool (decide (i32 < (len38 : Int)))), (.bool (!((decide (i32 < (len50 : Int))) == (decide (e51 < ticks2))))), d35, d36, d37] H26 (by kernel_rfl) ?_
                        refine then_norm ?_
                        refine w_ret ?_
                        refine join_ret ?_
                        refine then_ret ?_
                        refine block_ret ?_
                        refine then_ret ?_
                        refine loop_ret ?_
                        refine block_ret ?_
                        refine then_ret ?_
                        exact body_ret (vs := [(.bool false)]) _ (by kernel_rfl) rfl h
                      · replace h := h.2 ((is_not is_beq).f hc)
                        refine w_skip ?_
                        refine join_norm ⟨_, _, rfl, rfl, h⟩
                    · replace h := h.1 (is_dec.t hc)
                      refine t_gd true false (by kernel_rfl) (fun hn => by cases hn) (fun _ => ?_)
                      refine t_gd true false (by kernel_rfl) (fun hn => by cases hn) (fun _ => ?_)
                      refine t_gd true false (by kernel_rfl) (fun hn => by cases hn) (fun _ => ?_)
                      refine t_gd true false (by kernel_rfl) (fun hn => by cases hn) (fun _ => ?_)
                      refine t_gd true false (by kernel_rfl) (fun hn => by cases hn) (fun _ => ?_)
                      refine t_gd true false (by kernel_rfl) (fun hn => by cases hn) (fun _ => ?_)
                      refine t_gd true false (by kernel_rfl) (fun hn => by cases hn) (fun _ => ?_)
                      refine t_gd true false (by kernel_rfl) (fun hn => by cases hn) (fun _ => ?_)
                      refine t_gd true false (by kernel_rfl) (fun hn => by cases hn) (fun _ => ?_)
                      refine t_gd true false (by kernel_rfl) (fun hn => by cases hn) (fun _ => ?_)
                      refine t_gd true false (by kernel_rfl) (fun hn => by cases hn) (fun _ => ?_)
                      refine t_done [capacities0, scripts1, (.int .i64 ticks2), (.int .i64 more3), d31, (.bool (!r18)), (.agg [(.int .i64 r6), (.int .i64 r7)]), (.agg [(.int .i64 r13), (.int .i64 r14)]), (.bool ((((r6) != 0) || ((r13) != 0)) || (decide (ticks2 > more3)))), r4, r11, (.bool (!r25)), (.int .i64 i32), (.bool (decide (i32 < (len38 : Int)))), (.bool true), d35, d36, d37] H26 (by kernel_rfl) ?_
                      refine then_norm ?_
                      refine w_cond (t := true) rfl (fun _ => ?_) (fun hc => by cases hc)
                      refine w_seq ?_
                      refine w_run [0] ?_
                      refine t_done [capacities0, scripts1, (.int .i64 ticks2), (.int .i64 more3), (.bool false), (.bool (!r18)), (.agg [(.int .i64 r6), (.int .i64 r7)]), (.agg [(.int .i64 r13), (.int .i64 r14)]), (.bool ((((r6) != 0) || ((r13) != 0)) || (decide (ticks2 > more3)))), r4, r11, (.bool (!r25)), (.int .i64 i32), (.bool (decide (i32 < (len38 : Int)))), (.bool true), d35, d36, d37] H26 (by kernel_rfl) ?_
                      refine then_norm ?_
                      refine w_ret ?_
                      refine join_ret ?_
                      refine then_ret ?_
                      refine block_ret ?_
                      refine then_ret ?_
                      refine loop_ret ?_
                      refine block_ret ?_
                      refine then_ret ?_
                      exact body_ret (vs := [(.bool false)]) _ (by kernel_rfl) rfl h
                  · replace h := h.2 (is_dec.f hc)
                    refine t_gd false true (by kernel_rfl) (fun hn => by cases hn) (fun _ => ?_)
                    refine t_gd false true (by kernel_rfl) (fun hn => by cases hn) (fun _ => ?_)
                    refine t_gd false true (by kernel_rfl) (fun hn => by cases hn) (fun _ => ?_)
                    refine t_gd false true (by kernel_rfl) (fun hn => by cases hn) (fun _ => ?_)
                    refine t_gd false true (by kernel_rfl) (fun hn => by cases hn) (fun _ => ?_)
                    refine t_gd false true (by kernel_rfl) (fun hn => by cases hn) (fun _ => ?_)
                    refine t_gd false true (by kernel_rfl) (fun hn => by cases hn) (fun _ => ?_)
                    refine t_gd false true (by kernel_rfl) (fun hn => by cases hn) (fun _ => ?_)
                    refine t_gd false true (by kernel_rfl) (fun hn => by cases hn) (fun _ => ?_)
                    refine t_gd false true (by kernel_rfl) (fun hn => by cases hn) (fun _ => ?_)
                    refine t_gd false true (by kernel_rfl) (fun hn => by cases hn) (fun _ => ?_)
                    refine t_gd false false (by kernel_rfl) (fun _ => ?_) (fun hn => by cases hn)
                    refine t_gd false false (by kernel_rfl) (fun _ => ?_) (fun hn => by cases hn)
                    refine t_gd false false (by kernel_rfl) (fun _ => ?_) (fun hn => by cases hn)
                    refine t_gd false false (by kernel_rfl) (fun _ => ?_) (fun hn => by cases hn)
                    obtain ⟨len53, hl, h⟩ := h
                    refine t_len false r4 len53 H26 (by kernel_rfl) hl ?_
                    refine t_gd false false (by kernel_rfl) (fun _ => ?_) (fun hn => by cases hn)
                    refine t_gd false false (by kernel_rfl) (fun _ => ?_) (fun hn => by cases hn)
                    refine t_gd false false (by kernel_rfl) (fun _ => ?_) (fun hn => by cases hn)
                    refine t_gd false false (by kernel_rfl) (fun _ => ?_) (fun hn => by cases hn)
                    obtain ⟨e54, hg55, h⟩ := h
                    refine t_idxG true 4 r11 .i64 i32 H26 (by kernel_rfl) hg55 ?_
                    refine t_gd false false (by kernel_rfl) (fun _ => ?_) (fun hn => by cases hn)
                    refine t_fldG true 0 4 r11 i32 0 H26 (by kernel_rfl) hg55 ?_
                    refine t_gd false false (by kernel_rfl) (fun _ => ?_) (fun hn => by cases hn)
                    refine t_loadG true none 4 r11 i32 0 (.int .i64 e54) H26 (by kernel_rfl) hg55 ?_
                    refine t_gd false false (by kernel_rfl) (fun _ => ?_) (fun hn => by cases hn)
                    refine t_gd false false (by kernel_rfl) (fun _ => ?_) (fun hn => by cases hn)
                    refine t_gd false false (by kernel_rfl) (fun _ => ?_) (fun hn => by cases hn)
                    refine t_done [capacities0, scripts1, (.int .i64 ticks2), (.int .i64 more3), d31, (.bool (!r18)), (.agg [(.int .i64 r6), (.int .i64 r7)]), (.agg [(.int .i64 r13), (.int .i64 r14)]), (.bool ((((r6) != 0) || ((r13) != 0)) || (decide (ticks2 > more3)))), r4, r11, (.bool (!r25)), (.int .i64 i32), (.bool (decide (i32 < (len38 : Int)))), (.bool (!((decide (i32 < (len53 : Int))) == (decide (e54 < ticks2))))), d35, d36, d37] H26 (by kernel_rfl) ?_
                    refine then_norm ?_
                    refine w_cond (t := (!((decide (i32 < (len53 : Int))) == (decide (e54 < ticks2))))) rfl (fun hc => ?_) (fun hc => ?_)
                    · replace h := h.1 ((is_not is_beq).t hc)
                      refine w_seq ?_
                      refine w_run [0] ?_
                      refine t_done [capacities0, scripts1, (.int .i64 ticks2), (.int .i64 more3), (.bool false), (.bool (!r18)), (.agg [(.int .i64 r6), (.int .i64 r7)]), (.agg [(.int .i64 r13), (.int .i64 r14)]), (.bool ((((r6) != 0) || ((r13) != 0)) || (decide (ticks2 > more3)))), r4, r11, (.bool (!r25)), (.int .i64 i32), (.bool (decide (i32 < (len38 : Int)))), (.bool (!((decide (i32 < (len53 : Int))) == (decide (e54 < ticks2))))), d35, d36, d37] H26 (by kernel_rfl) ?_
                      refine then_norm ?_
                      refine w_ret ?_
                      refine join_ret ?_
                      refine then_ret ?_
                      refine block_ret ?_
                      refine then_ret ?_
                      refine loop_ret ?_
                      refine block_ret ?_
                      refine then_ret ?_
                      exact body_ret (vs := [(.bool false)]) _ (by kernel_rfl) rfl h
                    · replace h := h.2 ((is_not is_beq).f hc)
                      refine w_skip ?_
                      refine join_norm ⟨_, _, rfl, rfl, h⟩
                · replace h := h.1 (is_dec.t hc)
                  refine t_gd true false (by kernel_rfl) (fun hn => by cases hn) (fun _ => ?_)
                  refine t_gd true false (by kernel_rfl) (fun hn => by cases hn) (fun _ => ?_)
                  refine t_gdU true (by kernel_rfl) ?_
                  refine t_gdU true (by kernel_rfl) ?_
                  refine t_gdU true (by kernel_rfl) ?_
                  refine t_gdU true (by kernel_rfl) ?_
                  refine t_gdU true (by kernel_rfl) ?_
                  refine t_gdU true (by kernel_rfl) ?_
                  refine t_gdU true (by kernel_rfl) ?_
                  refine t_gdU true (by kernel_rfl) ?_
                  refine t_gdU true (by kernel_rfl) ?_
                  refine t_gdU true (by kernel_rfl) ?_
                  refine t_gdU true (by kernel_rfl) ?_
                  refine t_gdU true (by kernel_rfl) ?_
                  refine t_gd true false (by kernel_rfl) (fun hn => by cases hn) (fun _ => ?_)
                  refine t_gd true false (by kernel_rfl) (fun hn => by cases hn) (fun _ => ?_)
                  refine t_gd true false (by kernel_rfl) (fun hn => by cases hn) (fun _ => ?_)
                  refine t_gd true false (by kernel_rfl) (fun hn => by cases hn) (fun _ => ?_)
                  refine t_gd true false (by kernel_rfl) (fun hn => by cases hn) (fun _ => ?_)
                  refine t_gd true false (by kernel_rfl) (fun hn => by cases hn) (fun _ => ?_)
                  refine t_gd true false (by kernel_rfl) (fun hn => by cases hn) (fun _ => ?_)
                  refine t_gd true false (by kernel_rfl) (fun hn => by cases hn) (fun _ => ?_)
                  refine t_gd true false (by kernel_rfl) (fun hn => by cases hn) (fun _ => ?_)
                  refine t_gd true false (by kernel_rfl) (fun hn => by cases hn) (fun _ => ?_)
                  refine t_gd true false (by kernel_rfl) (fun hn => by cases hn) (fun _ => ?_)
                  refine t_gd true false (by kernel_rfl) (fun hn => by cases hn) (fun _ => ?_)
                  refine t_gd true false (by kernel_rfl) (fun hn => by cases hn) (fun _ => ?_)
                  refine t_done [capacities0, scripts1, (.int .i64 ticks2), (.int .i64 more3), d31, (.bool (!r18)), (.agg [(.int .i64 r6), (.int .i64 r7)]), (.agg [(.int .i64 r13), (.int .i64 r14)]), (.bool ((((r6) != 0) || ((r13) != 0)) || (decide (ticks2 > more3)))), r4, r11, (.bool (!r25)), (.int .i64 i32), (.bool (decide (i32 < (len38 : Int)))), (.bool true), d35, d36, d37] H26 (by kernel_rfl) ?_
                  refine then_norm ?_
                  refine w_cond (t := true) rfl (fun _ => ?_) (fun hc => by cases hc)
                  refine w_seq ?_
                  refine w_run [0] ?_
                  refine t_done [capacities0, scripts1, (.int .i64 ticks2), (.int .i64 more3), (.bool false), (.bool (!r18)), (.agg [(.int .i64 r6), (.int .i64 r7)]), (.agg [(.int .i64 r13), (.int .i64 r14)]), (.bool ((((r6) != 0) || ((r13) != 0)) || (decide (ticks2 > more3)))), r4, r11, (.bool (!r25)), (.int .i64 i32), (.bool (decide (i32 < (len38 : Int)))), (.bool true), d35, d36, d37] H26 (by kernel_rfl) ?_
                  refine then_norm ?_
                  refine w_ret ?_
                  refine join_ret ?_
                  refine then_ret ?_
                  refine block_ret ?_
                  refine then_ret ?_
                  refine loop_ret ?_
                  refine block_ret ?_
                  refine then_ret ?_
                  exact body_ret (vs := [(.bool false)]) _ (by kernel_rfl) rfl h
              · replace h := h.1 (is_dec.t hc)
                refine t_gd true false (by kernel_rfl) (fun hn => by cases hn) (fun _ => ?_)
                refine t_gd true false (by kernel_rfl) (fun hn => by cases hn) (fun _ => ?_)
                refine t_gd true false (by kernel_rfl) (fun hn => by cases hn) (fun _ => ?_)
                refine t_gd true false (by kernel_rfl) (fun hn => by cases hn) (fun _ => ?_)
                refine t_gd true false (by kernel_rfl) (fun hn => by cases hn) (fun _ => ?_)
                refine t_gd true false (by kernel_rfl) (fun hn => by cases hn) (fun _ => ?_)
                refine t_gd true false (by kernel_rfl) (fun hn => by cases hn) (fun _ => ?_)
                refine t_gd true false (by kernel_rfl) (fun hn => by cases hn) (fun _ => ?_)
                refine t_gd true false (by kernel_rfl) (fun hn => by cases hn) (fun _ => ?_)
                refine t_gdU true (by kernel_rfl) ?_
                refine t_gdU true (by kernel_rfl) ?_
                refine t_gdU true (by kernel_rfl) ?_
                refine t_gdU true (by kernel_rfl) ?_
                refine t_gdU true (by kernel_rfl) ?_
                refine t_gdU true (by kernel_rfl) ?_
                refine t_gdU true (by kernel_rfl) ?_
                refine t_gdU true (by kernel_rfl) ?_
                refine t_gdU true (by kernel_rfl) ?_
                refine t_gdU true (by kernel_rfl) ?_
                refine t_gdU true (by kernel_rfl) ?_
                refine t_gdU true (by kernel_rfl) ?_
                refine t_gd true false (by kernel_rfl) (fun hn => by cases hn) (fun _ => ?_)
                refine t_gd true false (by kernel_rfl) (fun hn => by cases hn) (fun _ => ?_)
                refine t_gd true false (by kernel_rfl) (fun hn => by cases hn) (fun _ => ?_)
                refine t_gd true false (by kernel_rfl) (fun hn => by cases hn) (fun _ => ?_)
                refine t_gd true false (by kernel_rfl) (fun hn => by cases hn) (fun _ => ?_)
                refine t_gd true false (by kernel_rfl) (fun hn => by cases hn) (fun _ => ?_)
                refine t_gd true false (by kernel_rfl) (fun hn => by cases hn) (fun _ => ?_)
                refine t_gd true false (by kernel_rfl) (fun hn => by cases hn) (fun _ => ?_)
                refine t_gd true false (by kernel_rfl) (fun hn => by cases hn) (fun _ => ?_)
                refine t_gd true false (by kernel_rfl) (fun hn => by cases hn) (fun _ => ?_)
                refine t_gd true false (by kernel_rfl) (fun hn => by cases hn) (fun _ => ?_)
                refine t_gd true false (by kernel_rfl) (fun hn => by cases hn) (fun _ => ?_)
                refine t_gd true false (by kernel_rfl) (fun hn => by cases hn) (fun _ => ?_)
                refine t_done [capacities0, scripts1, (.int .i64 ticks2), (.int .i64 more3), d31, (.bool (!r18)), (.agg [(.int .i64 r6), (.int .i64 r7)]), (.agg [(.int .i64 r13), (.int .i64 r14)]), (.bool ((((r6) != 0) || ((r13) != 0)) || (decide (ticks2 > more3)))), r4, r11, (.bool (!r25)), (.int .i64 i32), (.bool (decide (i32 < (len38 : Int)))), (.bool true), d35, d36, d37] H26 (by kernel_rfl) ?_
                refine then_norm ?_
                refine w_cond (t := true) rfl (fun _ => ?_) (fun hc => by cases hc)
                refine w_seq ?_
                refine w_run [0] ?_
                refine t_done [capacities0, scripts1, (.int .i64 ticks2), (.int .i64 more3), (.bool false), (.bool (!r18)), (.agg [(.int .i64 r6), (.int .i64 r7)]), (.agg [(.int .i64 r13), (.int .i64 r14)]), (.bool ((((r6) != 0) || ((r13) != 0)) || (decide (ticks2 > more3)))), r4, r11, (.bool (!r25)), (.int .i64 i32), (.bool (decide (i32 < (len38 : Int)))), (.bool true), d35, d36, d37] H26 (by kernel_rfl) ?_
                refine then_norm ?_
                refine w_ret ?_
                refine join_ret ?_
                refine then_ret ?_
                refine block_ret ?_
                refine then_ret ?_
                refine loop_ret ?_
                refine block_ret ?_
                refine then_ret ?_
                exact body_ret (vs := [(.bool false)]) _ (by kernel_rfl) rfl h
            · clear h
              rintro EI HI ⟨d40, d41, rfl, rfl, hJ⟩
              have h := hK  hJ
              clear hJ hK
              refine then_norm ?_
              refine w_seq ?_
              refine w_run [0] ?_
              refine t_done [capacities0, scripts1, (.int .i64 ticks2), (.int .i64 more3), d40, (.bool (!r18)), (.agg [(.int .i64 r6), (.int .i64 r7)]), (.agg [(.int .i64 r13), (.int .i64 r14)]), (.bool ((((r6) != 0) || ((r13) != 0)) || (decide (ticks2 > more3)))), r4, r11, (.bool (!r25)), (.int .i64 i32), (.bool (decide (i32 < (len38 : Int)))), d41, (.int .i64 0), d36, d37] H26 (by kernel_rfl) ?_
              refine then_norm ?_
              refine w_block ?_
              obtain ⟨J56, k57, h0, h⟩ := h
              refine w_loop (I := fun mI EI HI => ∃ (d59 : AV) (k60 : Int) (d61 : AV) (d62 : AV), EI = [capacities0, scripts1, (.int .i64 ticks2), (.int .i64 more3), d59, (.bool (!r18)), (.agg [(.int .i64 r6), (.int .i64 r7)]), (.agg [(.int .i64 r13), (.int .i64 r14)]), (.bool ((((r6) != 0) || ((r13) != 0)) || (decide (ticks2 > more3)))), r4, r11, (.bool (!r25)), (.int .i64 i32), (.bool (decide (i32 < (len38 : Int)))), d41, (.int .i64 k60), d61, d62] ∧ H26 = HI ∧ J56 mI k60) ?_ k57 ⟨_, _, _, _, rfl, rfl, h0⟩
              clear h0
              rintro m58 EI HI ⟨d59, k60, d61, d62, rfl, rfl, hJ⟩
              replace h := h m58 k60  hJ
              clear hJ
              refine w_seq ?_
              refine w_seq ?_
              refine w_run [0, 0, 0] ?_
              refine t_done [capacities0, scripts1, (.int .i64 ticks2), (.int .i64 more3), d59, (.bool (!r18)), (.agg [(.int .i64 r6), (.int .i64 r7)]), (.agg [(.int .i64 r13), (.int .i64 r14)]), (.bool ((((r6) != 0) || ((r13) != 0)) || (decide (ticks2 > more3)))), r4, r11, (.bool (!r25)), (.int .i64 i32), (.bool (decide (i32 < (len38 : Int)))), d41, (.int .i64 k60), (.bool (decide (k60 < i32))), d62] H26 (by kernel_rfl) ?_
              refine then_norm ?_
              refine w_cond (t := (decide (k60 < i32))) rfl (fun hc => ?_) (fun hc => ?_)
              · replace h := h.1 (is_dec.t hc)
                refine w_skip ?_
                refine then_norm ?_
                refine w_seq ?_
                refine w_block ?_
                refine w_seq ?_
                refine w_run [0, 0, 1, 1, 1, 0, 0, 1, 1, 1, 0, 0, 0, 0, 3, 3, 3, 0, 0, 3, 3, 3, 2, 0] ?_
                obtain ⟨e63, hg64, h⟩ := h
                refine t_idxG false 4 r11 .i64 k60 H26 (by kernel_rfl) hg64 ?_
                refine t_fldG false 1 4 r11 k60 0 H26 (by kernel_rfl) hg64 ?_
                refine t_loadG false none 4 r11 k60 1 (.int .i64 e63) H26 (by kernel_rfl) hg64 ?_
                obtain ⟨e65, hg66, h⟩ := h
                refine t_idxG false 4 r11 .i64 i32 H26 (by kernel_rfl) hg66 ?_
                refine t_fldG false 1 4 r11 i32 0 H26 (by kernel_rfl) hg66 ?_
                refine t_loadG false none 4 r11 i32 1 (.int .i64 e65) H26 (by kernel_rfl) hg66 ?_
                refine t_gd ((e63) == e65) true (by kernel_rfl) (fun hc => ?_) (fun hc => ?_)
                · replace h := h.1 (is_eq.t hc)
                  obtain ⟨e67, hg68, h⟩ := h
                  refine t_idxG false 4 r11 .i64 k60 H26 (by kernel_rfl) hg68 ?_
                  refine t_gd true true (by kernel_rfl) (fun _ => ?_) (fun hn => by cases hn)
                  refine t_fldG false 0 4 r11 k60 0 H26 (by kernel_rfl) hg68 ?_
                  refine t_gd true true (by kernel_rfl) (fun _ => ?_) (fun hn => by cases hn)
                  refine t_loadG false none 4 r11 k60 0 (.int .i64 e67) H26 (by kernel_rfl) hg68 ?_
                  refine t_gd true true (by kernel_rfl) (fun _ => ?_) (fun hn => by cases hn)
                  obtain ⟨e69, hg70, h⟩ := h
                  refine t_idxG false 4 r11 .i64 i32 H26 (by kernel_rfl) hg70 ?_
                  refine t_gd true true (by kernel_rfl) (fun _ => ?_) (fun hn => by cases hn)
                  refine t_fldG false 0 4 r11 i32 0 H26 (by kernel_rfl) hg70 ?_
                  refine t_gd true true (by kernel_rfl) (fun _ => ?_) (fun hn => by cases hn)
                  refine t_loadG false none 4 r11 i32 0 (.int .i64 e69) H26 (by kernel_rfl) hg70 ?_
                  refine t_gd true true (by kernel_rfl) (fun _ => ?_) (fun hn => by cases hn)
                  refine t_done [capacities0, scripts1, (.int .i64 ticks2), (.int .i64 more3), d59, (.bool (!r18)), (.agg [(.int .i64 r6), (.int .i64 r7)]), (.agg [(.int .i64 r13), (.int .i64 r14)]), (.bool ((((r6) != 0) || ((r13) != 0)) || (decide (ticks2 > more3)))), r4, r11, (.bool (!r25)), (.int .i64 i32), (.bool (decide (i32 < (len38 : Int)))), d41, (.int .i64 k60), (.bool (decide (k60 < i32))), (.bool ((e67) == e69))] H26 (by kernel_rfl) ?_
                  refine then_norm ?_
                  refine w_cond (t := ((e67) == e69)) rfl (fun hc => ?_) (fun hc => ?_)
                  · replace h := h.1 (is_eq.t hc)
                    refine w_seq ?_
                    refine w_run [0] ?_
                    refine t_done [capacities0, scripts1, (.int .i64 ticks2), (.int .i64 more3), (.bool false), (.bool (!r18)), (.agg [(.int .i64 r6), (.int .i64 r7)]), (.agg [(.int .i64 r13), (.int .i64 r14)]), (.bool ((((r6) != 0) || ((r13) != 0)) || (decide (ticks2 > more3)))), r4, r11, (.bool (!r25)), (.int .i64 i32), (.bool (decide (i32 < (len38 : Int)))), d41, (.int .i64 k60), (.bool (decide (k60 < i32))), (.bool ((e67) == e69))] H26 (by kernel_rfl) ?_
                    refine then_norm ?_
                    refine w_ret ?_
                    refine block_ret ?_
                    refine then_ret ?_
                    refine loop_ret ?_
                    refine block_ret ?_
                    refine block_ret ?_
                    refine then_ret ?_
                    refine loop_ret ?_
                    refine block_ret ?_
                    refine then_ret ?_
                    exact body_ret (vs := [(.bool false)]) _ (by kernel_rfl) rfl h
                  · replace h := h.2 (is_eq.f hc)
                    refine w_skip ?_
                    refine block_norm ?_
                    refine then_norm ?_
                    refine w_run [0, 0, 0] ?_
                    refine t_done [capacities0, scripts1, (.int .i64 ticks2), (.int .i64 more3), d59, (.bool (!r18)), (.agg [(.int .i64 r6), (.int .i64 r7)]), (.agg [(.int .i64 r13), (.int .i64 r14)]), (.bool ((((r6) != 0) || ((r13) != 0)) || (decide (ticks2 > more3)))), r4, r11, (.bool (!r25)), (.int .i64 i32), (.bool (decide (i32 < (len38 : Int)))), d41, (.int .i64 (IntKind.wrap .i64 (k60 + 1))), (.bool (decide (k60 < i32))), (.bool ((e67) == e69))] H26 (by kernel_rfl) ?_
                    obtain ⟨m', hm, h⟩ := h
                    refine loop_norm ⟨m', hm, _, _, _, _, rfl, rfl, h⟩
                · replace h := h.2 (is_eq.f hc)
                  refine t_gd false true (by kernel_rfl) (fun hn => by cases hn) (fun _ => ?_)
                  refine t_gd false true (by kernel_rfl) (fun hn => by cases hn) (fun _ => ?_)
                  refine t_gd false true (by kernel_rfl) (fun hn => by cases hn) (fun _ => ?_)
                  refine t_gd false true (by kernel_rfl) (fun hn => by cases hn) (fun _ => ?_)
                  refine t_gd false true (by kernel_rfl) (fun hn => by cases hn) (fun _ => ?_)
                  refine t_gd false true (by kernel_rfl) (fun hn => by cases hn) (fun _ => ?_)
                  refine t_done [capacities0, scripts1, (.int .i64 ticks2), (.int .i64 more3), d59, (.bool (!r18)), (.agg [(.int .i64 r6), (.int .i64 r7)]), (.agg [(.int .i64 r13), (.int .i64 r14)]), (.bool ((((r6) != 0) || ((r13) != 0)) || (decide (ticks2 > more3)))), r4, r11, (.bool (!r25)), (.int .i64 i32), (.bool (decide (i32 < (len38 : Int)))), d41, (.int .i64 k60), (.bool (decide (k60 < i32))), (.bool false)] H26 (by kernel_rfl) ?_
                  refine then_norm ?_
                  refine w_cond (t := false) rfl (fun hc => by cases hc) (fun _ => ?_)
                  refine w_skip ?_
                  refine block_norm ?_
                  refine then_norm ?_
                  refine w_run [0, 0, 0] ?_
                  refine t_done [capacities0, scripts1, (.int .i64 ticks2), (.int .i64 more3), d59, (.bool (!r18)), (.agg [(.int .i64 r6), (.int .i64 r7)]), (.agg [(.int .i64 r13), (.int .i64 r14)]), (.bool ((((r6) != 0) || ((r13) != 0)) || (decide (ticks2 > more3)))), r4, r11, (.bool (!r25)), (.int .i64 i32), (.bool (decide (i32 < (len38 : Int)))), d41, (.int .i64 (IntKind.wrap .i64 (k60 + 1))), (.bool (decide (k60 < i32))), (.bool false)] H26 (by kernel_rfl) ?_
                  obtain ⟨m', hm, h⟩ := h
                  refine loop_norm ⟨m', hm, _, _, _, _, rfl, rfl, h⟩
              · replace h := h.2 (is_dec.f hc)
                refine w_exit ?_
                refine then_exit ?_
                refine loop_exit ?_
                refine block_exit ?_
                refine block_norm ?_
                refine then_norm ?_
                refine w_run [0, 0, 0] ?_
                refine t_done [capacities0, scripts1, (.int .i64 ticks2), (.int .i64 more3), d59, (.bool (!r18)), (.agg [(.int .i64 r6), (.int .i64 r7)]), (.agg [(.int .i64 r13), (.int .i64 r14)]), (.bool ((((r6) != 0) || ((r13) != 0)) || (decide (ticks2 > more3)))), r4, r11, (.bool (!r25)), (.int .i64 (IntKind.wrap .i64 (i32 + 1))), (.bool (decide (i32 < (len38 : Int)))), d41, (.int .i64 k60), (.bool (decide (k60 < i32))), d62] H26 (by kernel_rfl) ?_
                obtain ⟨m', hm, h⟩ := h
                refine loop_norm ⟨m', hm, _, _, _, _, _, _, _, rfl, rfl, h⟩
          · replace h := h.2 (is_dec.f hc)
            refine w_exit ?_
            refine then_exit ?_
            refine loop_exit ?_
            refine block_exit ?_
            refine then_norm ?_
            refine w_seq ?_
            refine w_run [0] ?_
            refine t_done [capacities0, scripts1, (.int .i64 ticks2), (.int .i64 more3), (.bool true), (.bool (!r18)), (.agg [(.int .i64 r6), (.int .i64 r7)]), (.agg [(.int .i64 r13), (.int .i64 r14)]), (.bool ((((r6) != 0) || ((r13) != 0)) || (decide (ticks2 > more3)))), r4, r11, (.bool (!r25)), (.int .i64 i32), (.bool (decide (i32 < (len38 : Int)))), d34, d35, d36, d37] H26 (by kernel_rfl) ?_
            refine then_norm ?_
            refine w_ret ?_
            exact body_ret (vs := [(.bool true)]) _ (by kernel_rfl) rfl h
      · replace h := h.1 (is_dec.t hc)
        refine t_gd true false (by kernel_rfl) (fun hn => by cases hn) (fun _ => ?_)
        refine t_gd true false (by kernel_rfl) (fun hn => by cases hn) (fun _ => ?_)
        refine t_done [capacities0, scripts1, (.int .i64 ticks2), (.int .i64 more3), (.bool false), (.bool (!r18)), (.agg [(.int .i64 r6), (.int .i64 r7)]), (.agg [(.int .i64 r13), (.int .i64 r14)]), (.bool ((((r6) != 0) || ((r13) != 0)) || (decide (ticks2 > more3)))), r4, r11, (.bool true), .undef, .undef, .undef, .undef, .undef, .undef] H19 (by kernel_rfl) ?_
        refine then_norm ?_
        refine w_cond (t := true) rfl (fun _ => ?_) (fun hc => by cases hc)
        refine w_seq ?_
        refine w_run [0] ?_
        refine t_done [capacities0, scripts1, (.int .i64 ticks2), (.int .i64 more3), (.bool false), (.bool (!r18)), (.agg [(.int .i64 r6), (.int .i64 r7)]), (.agg [(.int .i64 r13), (.int .i64 r14)]), (.bool ((((r6) != 0) || ((r13) != 0)) || (decide (ticks2 > more3)))), r4, r11, (.bool true), .undef, .undef, .undef, .undef, .undef, .undef] H19 (by kernel_rfl) ?_
        refine then_norm ?_
        refine w_ret ?_
        refine then_ret ?_
        exact body_ret (vs := [(.bool false)]) _ (by kernel_rfl) rfl h

end Go.RM

/-
  The document's run and what is left; results compared; Run and Stuck in one form; the law's example; whose result is a sent value.
-/
namespace Go.RM
set_option linter.unusedSimpArgs false
set_option linter.unusedVariables false
namespace De
variable {F : Nat → Option RFunc}

end De
end Go.RM

