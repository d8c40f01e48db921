import Derived.Test.YtceemplcjkjphaaRmOpt3
import Derived.Test.YtceemplcjkjphaaDeF2
/-
  Functions of the program as the abstract machine runs them, and what must be shown of a run: printed by RmPrint.
-/
namespace Go.RM
set_option linter.unusedVariables false
set_option maxRecDepth 4000
def rf_LdeadlineExample (ndeadline_Run ndeadline_Stuck nFEqualResults nFEqualInts : Nat) : RFunc := ⟨0, 7, [.var 0],
 ((.seq (.ops [⟨.move (.k (.bool false)), none, (some 0), true⟩])
 ((.seq (.ops [⟨.build [.int .i64 0, .int .i64 0, .int .i64 0, .int .i64 0, .empty] [(0, 1, (.k (.int .i64 1))), (2, 1, (.k (.int .i64 5)))], none, none, true⟩, ⟨.buildSlice 5 [.int .i64 0, .int .i64 0, .int .i64 0, .int .i64 0, .empty] [(0, 5, (.loc 0))] 1, none, none, true⟩, ⟨.build [.int .i64 0, .int .i64 0, .int .i64 0, .int .i64 0, .empty] [(0, 1, (.k (.int .i64 2)))], none, none, true⟩, ⟨.build [.int .i64 0, .int .i64 0, .int .i64 0, .int .i64 0, .empty] [(0, 1, (.k (.int .i64 2)))], none, none, true⟩, ⟨.buildSlice 5 [.int .i64 0, .int .i64 0, .int .i64 0, .int .i64 0, .empty] [(0, 5, (.loc 2)), (5, 5, (.loc 3))] 2, none, none, true⟩, ⟨.buildSlice 1 [.empty] [(0, 1, (.loc 1)), (1, 1, (.loc 4))] 2, none, none, true⟩, ⟨.move (.loc 5), none, (some 1), true⟩])
 ((.seq (.ops [⟨.buildSlice 1 [.int .i64 0] [(0, 1, (.k (.int .i64 1)))] 1, none, none, true⟩, ⟨.move (.var 1), none, none, true⟩, ⟨.callS ndeadline_Run [(.loc 0), (.loc 1), (.k (.int .i64 3))], none, none, true⟩, ⟨.move (.loc 2), none, none, true⟩, ⟨.extract (.loc 3) 0, none, none, true⟩, ⟨.extract (.loc 3) 1, none, none, true⟩, ⟨.extract (.loc 3) 2, none, none, true⟩, ⟨.tomb 1 (.k (.agg [.int .i64 0, .int .i64 0])), none, (some 2), true⟩, ⟨.move (.loc 4), none, (some 4), true⟩, ⟨.move (.loc 5), none, (some 5), true⟩, ⟨.upd 2 0 (.loc 7) (.loc 6), none, (some 2), true⟩])
 ((.seq (.ops [⟨.buildSlice 1 [.int .i64 0] [(0, 1, (.k (.int .i64 1)))] 1, none, none, true⟩, ⟨.move (.var 1), none, none, true⟩, ⟨.callS ndeadline_Stuck [(.loc 0), (.loc 1)], none, none, true⟩, ⟨.move (.loc 2), none, none, true⟩, ⟨.extract (.loc 3) 0, none, none, true⟩, ⟨.extract (.loc 3) 1, none, none, true⟩, ⟨.tomb 1 (.k (.agg [.int .i64 0, .int .i64 0])), none, (some 3), true⟩, ⟨.move (.loc 4), none, (some 6), true⟩, ⟨.upd 2 0 (.loc 6) (.loc 5), none, (some 3), true⟩])
 ((.seq (.ops [⟨.field 0 none (.var 2), none, none, true⟩, ⟨.field 0 none (.var 2), none, none, true⟩, ⟨.bin .eql .no (.loc 1) (.k (.int .i64 0)), none, none, true⟩, ⟨.move (.loc 2), none, none, true⟩, ⟨.field 0 none (.var 3), none, none, true⟩, ⟨.field 0 none (.var 3), none, none, true⟩, ⟨.bin .eql .no (.loc 5) (.k (.int .i64 0)), none, none, true⟩, ⟨.pick (.loc 3) (.loc 6) (.k (.bool false)), none, none, true⟩, ⟨.move (.loc 7), none, none, true⟩, ⟨.move (.var 4), none, none, true⟩, ⟨.build [.int .i64 0, .int .i64 0, .int .i64 0, .int .i64 0] [(1, 1, (.k (.int .i64 0))), (3, 1, (.k (.int .i64 5)))], none, none, true⟩, ⟨.build [.int .i64 0, .int .i64 0, .int .i64 0, .int .i64 0] [(1, 1, (.k (.int .i64 1))), (3, 1, (.k (.int .i64 5)))], none, none, true⟩, ⟨.buildSlice 4 [.int .i64 0, .int .i64 0, .int .i64 0, .int .i64 0] [(0, 4, (.loc 10)), (4, 4, (.loc 11))] 2, (some (8, true)), none, true⟩, ⟨.callS nFEqualResults [(.loc 9), (.loc 12)], (some (8, true)), none, true⟩, ⟨.pick (.loc 8) (.loc 13) (.k (.bool false)), none, none, true⟩, ⟨.move (.loc 14), none, none, true⟩, ⟨.move (.var 5), none, none, true⟩, ⟨.buildSlice 1 [.int .i64 0] [(0, 1, (.k (.int .i64 0))), (1, 1, (.k (.int .i64 1)))] 2, (some (15, true)), none, true⟩, ⟨.callS nFEqualInts [(.loc 16), (.loc 17)], (some (15, true)), none, true⟩, ⟨.pick (.loc 15) (.loc 18) (.k (.bool false)), none, none, true⟩, ⟨.move (.loc 19), none, none, true⟩, ⟨.move (.var 6), none, none, true⟩, ⟨.buildSlice 1 [.int .i64 0] [(0, 1, (.k (.int .i64 1)))] 1, (some (20, true)), none, true⟩, ⟨.callS nFEqualInts [(.loc 21), (.loc 22)], (some (20, true)), none, true⟩, ⟨.pick (.loc 20) (.loc 23) (.k (.bool false)), none, none, true⟩, ⟨.move (.loc 24), none, (some 0), true⟩])
 (.ret))))))))))), none⟩
theorem v_LdeadlineExample {F : Nat → Option RFunc} {me ndeadline_Run ndeadline_Stuck nFEqualResults nFEqualInts : Nat} (hF : F me = some (rf_LdeadlineExample ndeadline_Run ndeadline_Stuck nFEqualResults nFEqualInts)) {fl : Nat} {H : Heap} {Q : AV → Heap → Prop} 
  (h : ∀ (b0 : Nat) (H1 : Heap), NewB H 5 [(.int .i64 1), (.int .i64 0), (.int .i64 5), (.int .i64 0), .empty] b0 H1 → ∀ (b2 : Nat) (H3 : Heap), NewB H1 5 [(.int .i64 2), (.int .i64 0), (.int .i64 0), (.int .i64 0), .empty, (.int .i64 2), (.int .i64 0), (.int .i64 0), (.int .i64 0), .empty] b2 H3 → ∀ (b4 : Nat) (H5 : Heap), NewB H3 1 [(.slice b0 0 1 (some 1)), (.slice b2 0 2 (some 2))] b4 H5 → ∀ (b6 : Nat) (H7 : Heap), NewB H5 1 [(.int .i64 1)] b6 H7 → Ret F fl ndeadline_Run [(.slice b6 0 1 (some 1)), (.slice b4 0 2 (some 2)), (.int .i64 3)] H7 (fun v13 H12 => ∃ (r8 : AV) (r9 : AV) (r10 : Int) (r11 : Int), v13 = (.tuple [r8, r9, (.agg [(.int .i64 r10), (.int .i64 r11)])]) ∧ ∀ (H14 : Heap), Dead1 H12 1 H14 → ∀ (b15 : Nat) (H16 : Heap), NewB H14 1 [(.int .i64 1)] b15 H16 → Ret F fl ndeadline_Stuck [(.slice b15 0 1 (some 1)), (.slice b4 0 2 (some 2))] H16 (fun v21 H20 => ∃ (r17 : AV) (r18 : Int) (r19 : Int), v21 = (.tuple [r17, (.agg [(.int .i64 r18), (.int .i64 r19)])]) ∧ ∀ (H22 : Heap), Dead1 H20 1 H22 → ((((r10 = 0) ∧ (r18 = 0))) → ∀ (b23 : Nat) (H24 : Heap), NewB H22 4 [(.int .i64 0), (.int .i64 0), (.int .i64 0), (.int .i64 5), (.int .i64 0), (.int .i64 1), (.int .i64 0), (.int .i64 5)] b23 H24 → Ret F fl nFEqualResults [r8, (.slice b23 0 2 (some 2))] H24 (fun v27 H26 => ∃ (r25 : Bool), v27 = (.bool r25) ∧ ((r25 = true) → ∀ (b28 : Nat) (H29 : Heap), NewB H26 1 [(.int .i64 0), (.int .i64 1)] b28 H29 → Ret F fl nFEqualInts [r9, (.slice b28 0 2 (some 2))] H29 (fun v32 H31 => ∃ (r30 : Bool), v32 = (.bool r30) ∧ ((r30 = true) → ∀ (b33 : Nat) (H34 : Heap), NewB H31 1 [(.int .i64 1)] b33 H34 → Ret F fl nFEqualInts [r17, (.slice b33 0 1 (some 1))] H34 (fun v37 H36 => ∃ (r35 : Bool), v37 = (.bool r35) ∧ Q (.bool r35) H36)) ∧ (¬(r30 = true) → Q (.bool false) H31))) ∧ (¬(r25 = true) → Q (.bool false) H26))) ∧ (¬(((r10 = 0) ∧ (r18 = 0))) → Q (.bool false) H22)))) : Ret F fl me [] H Q := by
  refine ret_intro hF rfl ?_
  refine w_seq ?_
  refine w_run [0] ?_
  refine t_done [(.bool false), .undef, .undef, .undef, .undef, .undef, .undef] H (by kernel_rfl) ?_
  refine then_norm ?_
  refine w_seq ?_
  refine w_run [1, 1, 1, 1, 1, 1, 0] ?_
  refine t_build true [(.int .i64 0), (.int .i64 0), (.int .i64 0), (.int .i64 0), .empty] [(0, 1, .loc 0), (2, 1, .loc 1)] [(.int .i64 1), (.int .i64 5)] [(.int .i64 1), (.int .i64 0), (.int .i64 5), (.int .i64 0), .empty] H (by kernel_rfl) (fill_c (vs := [(.int .i64 1)]) (size := 1) rfl (by kernel_rfl) (by kernel_rfl) (fill_c (vs := [(.int .i64 5)]) (size := 1) rfl (by kernel_rfl) (by kernel_rfl) (by kernel_rfl))) ?_
  obtain ⟨b0, H1, hb⟩ : ∃ b H', NewB H 5 [(.int .i64 1), (.int .i64 0), (.int .i64 5), (.int .i64 0), .empty] b H' := ⟨_, _, rfl, rfl⟩
  replace h := h b0 H1 hb
  refine t_bs true 5 [(.int .i64 0), (.int .i64 0), (.int .i64 0), (.int .i64 0), .empty] [(0, 5, .loc 0)] 1 [(.agg [(.int .i64 1), (.int .i64 0), (.int .i64 5), (.int .i64 0), .empty])] [(.int .i64 1), (.int .i64 0), (.int .i64 5), (.int .i64 0), .empty] b0 H1 H (by kernel_rfl) (fill_c (vs := [(.int .i64 1), (.int .i64 0), (.int .i64 5), (.int .i64 0), .empty]) (size := 5) rfl (by kernel_rfl) (by kernel_rfl) (by kernel_rfl)) hb ?_
  refine t_build true [(.int .i64 0), (.int .i64 0), (.int .i64 0), (.int .i64 0), .empty] [(0, 1, .loc 0)] [(.int .i64 2)] [(.int .i64 2), (.int .i64 0), (.int .i64 0), (.int .i64 0), .empty] H1 (by kernel_rfl) (fill_c (vs := [(.int .i64 2)]) (size := 1) rfl (by kernel_rfl) (by kernel_rfl) (by kernel_rfl)) ?_
  refine t_build true [(.int .i64 0), (.int .i64 0), (.int .i64 0), (.int .i64 0), .empty] [(0, 1, .loc 0)] [(.int .i64 2)] [(.int .i64 2), (.int .i64 0), (.int .i64 0), (.int .i64 0), .empty] H1 (by kernel_rfl) (fill_c (vs := [(.int .i64 2)]) (size := 1) rfl (by kernel_rfl) (by kernel_rfl) (by kernel_rfl)) ?_
  obtain ⟨b2, H3, hb⟩ : ∃ b H', NewB H1 5 [(.int .i64 2), (.int .i64 0), (.int .i64 0), (.int .i64 0), .empty, (.int .i64 2), (.int .i64 0), (.int .i64 0), (.int .i64 0), .empty] b H' := ⟨_, _, rfl, rfl⟩
  replace h := h b2 H3 hb
  refine t_bs true 5 [(.int .i64 0), (.int .i64 0), (.int .i64 0), (.int .i64 0), .empty] [(0, 5, .loc 0), (5, 5, .loc 1)] 2 [(.agg [(.int .i64 2), (.int .i64 0), (.int .i64 0), (.int .i64 0), .empty]), (.agg [(.int .i64 2), (.int .i64 0), (.int .i64 0), (.int .i64 0), .empty])] [(.int .i64 2), (.int .i64 0), (.int .i64 0), (.int .i64 0), .empty, (.int .i64 2), (.int .i64 0), (.int .i64 0), (.int .i64 0), .empty] b2 H3 H1 (by kernel_rfl) (fill_c (vs := [(.int .i64 2), (.int .i64 0), (.int .i64 0), (.int .i64 0), .empty]) (size := 5) rfl (by kernel_rfl) (by kernel_rfl) (fill_c (vs := [(.int .i64 2), (.int .i64 0), (.int .i64 0), (.int .i64 0), .empty]) (size := 5) rfl (by kernel_rfl) (by kernel_rfl) (by kernel_rfl))) hb ?_
  obtain ⟨b4, H5, hb⟩ : ∃ b H', NewB H3 1 [(.slice b0 0 1 (some 1)), (.slice b2 0 2 (some 2))] b H' := ⟨_, _, rfl, rfl⟩
  replace h := h b4 H5 hb
  refine t_bs true 1 [.empty] [(0, 1, .loc 0), (1, 1, .loc 1)] 2 [(.slice b0 0 1 (some 1)), (.slice b2 0 2 (some 2))] [(.slice b0 0 1 (some 1)), (.slice b2 0 2 (some 2))] b4 H5 H3 (by kernel_rfl) (fill_c (vs := [(.slice b0 0 1 (some 1))]) (size := 1) rfl (by kernel_rfl) (by kernel_rfl) (fill_c (vs := [(.slice b2 0 2 (some 2))]) (size := 1) rfl (by kernel_rfl) (by kernel_rfl) (by kernel_rfl))) hb ?_
  refine t_done [(.bool false), (.slice b4 0 2 (some 2)), .undef, .undef, .undef, .undef, .undef] H5 (by kernel_rfl) ?_
  refine then_norm ?_
  refine w_seq ?_
  refine w_run [1, 0, 1, 0, 0, 0, 0, 1, 0, 0, 1] ?_
  obtain ⟨b6, H7, hb⟩ : ∃ b H', NewB H5 1 [(.int .i64 1)] b H' := ⟨_, _, rfl, rfl⟩
  replace h := h b6 H7 hb
  refine t_bs true 1 [(.int .i64 0)] [(0, 1, .loc 0)] 1 [(.int .i64 1)] [(.int .i64 1)] b6 H7 H5 (by kernel_rfl) (fill_c (vs := [(.int .i64 1)]) (size := 1) rfl (by kernel_rfl) (by kernel_rfl) (by kernel_rfl)) hb ?_
  refine t_call true ndeadline_Run [(.slice b6 0 1 (some 1)), (.slice b4 0 2 (some 2)), (.int .i64 3)] H7 (by kernel_rfl) h ?_
  clear h
  rintro _ H12 ⟨r8, r9, r10, r11, rfl, h⟩
  obtain ⟨H14, hb⟩ : ∃ H', Dead1 H12 1 H' := ⟨_, ⟨rfl⟩⟩
  replace h := h H14 hb
  refine t_tomb true 1 (.agg [(.int .i64 0), (.int .i64 0)]) [(.int .i64 0), (.int .i64 0)] H14 H12 (by kernel_rfl) rfl hb ?_
  refine t_upd true 2 0 [(.int .i64 0), (.int .i64 0)] (.agg [(.int .i64 r10), (.int .i64 r11)]) [(.int .i64 r10), (.int .i64 r11)] [(.int .i64 r10), (.int .i64 r11)] H14 (by kernel_rfl) rfl (all_c rfl (all_c rfl all_n)) ⟨rfl, Nat.le_of_ble_eq_true (by kernel_rfl), rfl⟩ ?_
  refine t_done [(.bool false), (.slice b4 0 2 (some 2)), (.agg [(.int .i64 r10), (.int .i64 r11)]), .undef, r8, r9, .undef] H14 (by kernel_rfl) ?_
  refine then_norm ?_
  refine w_seq ?_
  refine w_run [1, 0, 1, 0, 0, 0, 1, 0, 1] ?_
  obtain ⟨b15, H16, hb⟩ : ∃ b H', NewB H14 1 [(.int .i64 1)] b H' := ⟨_, _, rfl, rfl⟩
  replace h := h b15 H16 hb
  refine t_bs true 1 [(.int .i64 0)] [(0, 1, .loc 0)] 1 [(.int .i64 1)] [(.int .i64 1)] b15 H16 H14 (by kernel_rfl) (fill_c (vs := [(.int .i64 1)]) (size := 1) rfl (by kernel_rfl) (by kernel_rfl) (by kernel_rfl)) hb ?_
  refine t_call true ndeadline_Stuck [(.slice b15 0 1 (some 1)), (.slice b4 0 2 (some 2))] H16 (by kernel_rfl) h ?_
  clear h
  rintro _ H20 ⟨r17, r18, r19, rfl, h⟩
  obtain ⟨H22, hb⟩ : ∃ H', Dead1 H20 1 H' := ⟨_, ⟨rfl⟩⟩
  replace h := h H22 hb
  refine t_tomb true 1 (.agg [(.int .i64 0), (.int .i64 0)]) [(.int .i64 0), (.int .i64 0)] H22 H20 (by kernel_rfl) rfl hb ?_
  refine t_upd true 2 0 [(.int .i64 0), (.int .i64 0)] (.agg [(.int .i64 r18), (.int .i64 r19)]) [(.int .i64 r18), (.int .i64 r19)] [(.int .i64 r18), (.int .i64 r19)] H22 (by kernel_rfl) rfl (all_c rfl (all_c rfl all_n)) ⟨rfl, Nat.le_of_ble_eq_true (by kernel_rfl), rfl⟩ ?_
  refine t_done [(.bool false), (.slice b4 0 2 (some 2)), (.agg [(.int .i64 r10), (.int .i64 r11)]), (.agg [(.int .i64 r18), (.int .i64 r19)]), r8, r9, r17] H22 (by kernel_rfl) ?_
  refine then_norm ?_
  refine w_seq ?_
  refine w_run [0, 0, 0, 0, 0, 0, 0, 0, 0, 0, 1, 1, 3, 3, 0, 0, 0, 3, 3, 0, 0, 0, 3, 3, 0, 0] ?_
  refine t_build true [(.int .i64 0), (.int .i64 0), (.int .i64 0), (.int .i64 0)] [(1, 1, .loc 0), (3, 1, .loc 1)] [(.int .i64 0), (.int .i64 5)] [(.int .i64 0), (.int .i64 0), (.int .i64 0), (.int .i64 5)] H22 (by kernel_rfl) (fill_c (vs := [(.int .i64 0)]) (size := 1) rfl (by kernel_rfl) (by kernel_rfl) (fill_c (vs := [(.int .i64 5)]) (size := 1) rfl (by kernel_rfl) (by kernel_rfl) (by kernel_rfl))) ?_
  refine t_build true [(.int .i64 0), (.int .i64 0), (.int .i64 0), (.int .i64 0)] [(1, 1, .loc 0), (3, 1, .loc 1)] [(.int .i64 1), (.int .i64 5)] [(.int .i64 0), (.int .i64 1), (.int .i64 0), (.int .i64 5)] H22 (by kernel_rfl) (fill_c (vs := [(.int .i64 1)]) (size := 1) rfl (by kernel_rfl) (by kernel_rfl) (fill_c (vs := [(.int .i64 5)]) (size := 1) rfl (by kernel_rfl) (by kernel_rfl) (by kernel_rfl))) ?_
  refine t_gd (((r10) == 0) && ((r18) == 0)) true (by kernel_rfl) (fun hc => ?_) (fun hc => ?_)
  · replace h := h.1 ((is_and is_eq is_eq).t hc)
    obtain ⟨b23, H24, hb⟩ : ∃ b H', NewB H22 4 [(.int .i64 0), (.int .i64 0), (.int .i64 0), (.int .i64 5), (.int .i64 0), (.int .i64 1), (.int .i64 0), (.int .i64 5)] b H' := ⟨_, _, rfl, rfl⟩
    replace h := h b23 H24 hb
    refine t_bs true 4 [(.int .i64 0), (.int .i64 0), (.int .i64 0), (.int .i64 0)] [(0, 4, .loc 0), (4, 4, .loc 1)] 2 [(.agg [(.int .i64 0), (.int .i64 0), (.int .i64 0), (.int .i64 5)]), (.agg [(.int .i64 0), (.int .i64 1), (.int .i64 0), (.int .i64 5)])] [(.int .i64 0), (.int .i64 0), (.int .i64 0), (.int .i64 5), (.int .i64 0), (.int .i64 1), (.int .i64 0), (.int .i64 5)] b23 H24 H22 (by kernel_rfl) (fill_c (vs := [(.int .i64 0), (.int .i64 0), (.int .i64 0), (.int .i64 5)]) (size := 4) rfl (by kernel_rfl) (by kernel_rfl) (fill_c (vs := [(.int .i64 0), (.int .i64 1), (.int .i64 0), (.int .i64 5)]) (size := 4) rfl (by kernel_rfl) (by kernel_rfl) (by kernel_rfl))) hb ?_
    refine t_gd true true (by kernel_rfl) (fun _ => ?_) (fun hn => by cases hn)
    refine t_call true nFEqualResults [r8, (.slice b23 0 2 (some 2))] H24 (by kernel_rfl) h ?_
    clear h
    rintro _ H26 ⟨r25, rfl, h⟩
    refine t_gd r25 true (by kernel_rfl) (fun hc => ?_) (fun hc => ?_)
    · replace h := h.1 (is_raw.t hc)
      obtain ⟨b28, H29, hb⟩ : ∃ b H', NewB H26 1 [(.int .i64 0), (.int .i64 1)] b H' := ⟨_, _, rfl, rfl⟩
      replace h := h b28 H29 hb
      refine t_bs true 1 [(.int .i64 0)] [(0, 1, .loc 0), (1, 1, .loc 1)] 2 [(.int .i64 0), (.int .i64 1)] [(.int .i64 0), (.int .i64 1)] b28 H29 H26 (by kernel_rfl) (fill_c (vs := [(.int .i64 0)]) (size := 1) rfl (by kernel_rfl) (by kernel_rfl) (fill_c (vs := [(.int .i64 1)]) (size := 1) rfl (by kernel_rfl) (by kernel_rfl) (by kernel_rfl))) hb ?_
      refine t_gd true true (by kernel_rfl) (fun _ => ?_) (fun hn => by cases hn)
      refine t_call true nFEqualInts [r9, (.slice b28 0 2 (some 2))] H29 (by kernel_rfl) h ?_
      clear h
      rintro _ H31 ⟨r30, rfl, h⟩
      refine t_gd r30 true (by kernel_rfl) (fun hc => ?_) (fun hc => ?_)
      · replace h := h.1 (is_raw.t hc)
        obtain ⟨b33, H34, hb⟩ : ∃ b H', NewB H31 1 [(.int .i64 1)] b H' := ⟨_, _, rfl, rfl⟩
        replace h := h b33 H34 hb
        refine t_bs true 1 [(.int .i64 0)] [(0, 1, .loc 0)] 1 [(.int .i64 1)] [(.int .i64 1)] b33 H34 H31 (by kernel_rfl) (fill_c (vs := [(.int .i64 1)]) (size := 1) rfl (by kernel_rfl) (by kernel_rfl) (by kernel_rfl)) hb ?_
        refine t_gd true true (by kernel_rfl) (fun _ => ?_) (fun hn => by cases hn)
        refine t_call true nFEqualInts [r17, (.slice b33 0 1 (some 1))] H34 (by kernel_rfl) h ?_
        clear h
        rintro _ H36 ⟨r35, rfl, h⟩
        refine t_done [(.bool r35), (.slice b4 0 2 (some 2)), (.agg [(.int .i64 r10), (.int .i64 r11)]), (.agg [(.int .i64 r18), (.int .i64 r19)]), r8, r9, r17] H36 (by kernel_rfl) ?_
        refine then_norm ?_
        refine w_ret ?_
        exact body_ret (vs := [(.bool r35)]) _ (by kernel_rfl) rfl h
      · replace h := h.2 (is_raw.f hc)
        refine t_gd false true (by kernel_rfl) (fun hn => by cases hn) (fun _ => ?_)
        refine t_done [(.bool false), (.slice b4 0 2 (some 2)), (.agg [(.int .i64 r10), (.int .i64 r11)]), (.agg [(.int .i64 r18), (.int .i64 r19)]), r8, r9, r17] H31 (by kernel_rfl) ?_
        refine then_norm ?_
        refine w_ret ?_
        exact body_ret (vs := [(.bool false)]) _ (by kernel_rfl) rfl h
    · replace h := h.2 (is_raw.f hc)
      refine t_gd false true (by kernel_rfl) (fun hn => by cases hn) (fun _ => ?_)
      refine t_gd false true (by kernel_rfl) (fun hn => by cases hn) (fun _ => ?_)
      refine t_gd false true (by kernel_rfl) (fun hn => by cases hn) (fun _ => ?_)
      refine t_done [(.bool false), (.slice b4 0 2 (some 2)), (.agg [(.int .i64 r10), (.int .i64 r11)]), (.agg [(.int .i64 r18), (.int .i64 r19)]), r8, r9, r17] H26 (by kernel_rfl) ?_
      refine then_norm ?_
      refine w_ret ?_
      exact body_ret (vs := [(.bool false)]) _ (by kernel_rfl) rfl h
  · replace h := h.2 ((is_and is_eq is_eq).f hc)
    refine t_gd false true (by kernel_rfl) (fun hn => by cases hn) (fun _ => ?_)
    refine t_gd false true (by kernel_rfl) (fun hn => by cases hn) (fun _ => ?_)
    refine t_gd false true (by kernel_rfl) (fun hn => by cases hn) (fun _ => ?_)
    refine t_gd false true (by kernel_rfl) (fun hn => by cases hn) (fun _ => ?_)
    refine t_gd false true (by kernel_rfl) (fun hn => by cases hn) (fun _ => ?_)
    refine t_done [(.bool false), (.slice b4 0 2 (some 2)), (.agg [(.int .i64 r10), (.int .i64 r11)]), (.agg [(.int .i64 r18), (.int .i64 r19)]), r8, r9, r17] H22 (by kernel_rfl) ?_
    refine then_norm ?_
    refine w_ret ?_
    exact body_ret (vs := [(.bool false)]) _ (by kernel_rfl) rfl h

def rf_LDeadlineFunctionsMatchSpec (nFProcessesFault ndeadline_Run ndeadline_Stuck nLdeadlineExample ndeadline_Validate nFSimulate nFWorld_Left nFEqualInts nFFault nFEqualResults : Nat) : RFunc := ⟨3, 20, [.var 3],
 ((.seq (.ops [⟨.move (.k (.bool false)), none, (some 3), true⟩])
 ((.seq (.ops [⟨.move (.var 0), none, none, true⟩, ⟨.move (.var 1), none, none, true⟩, ⟨.callS nFProcessesFault [(.loc 0), (.loc 1)], none, none, true⟩, ⟨.tomb 1 (.k (.agg [.int .i64 0, .int .i64 0])), none, (some 4), true⟩, ⟨.upd 2 0 (.loc 3) (.loc 2), none, (some 4), true⟩])
 ((.seq (.ops [⟨.move (.var 0), none, none, true⟩, ⟨.move (.var 1), none, none, true⟩, ⟨.move (.var 2), none, none, true⟩, ⟨.callS ndeadline_Run [(.loc 0), (.loc 1), (.loc 2)], none, none, true⟩, ⟨.move (.loc 3), none, none, true⟩, ⟨.extract (.loc 4) 0, none, none, true⟩, ⟨.extract (.loc 4) 1, none, none, true⟩, ⟨.extract (.loc 4) 2, none, none, true⟩, ⟨.tomb 1 (.k (.agg [.int .i64 0, .int .i64 0])), none, (some 7), true⟩, ⟨.move (.loc 5), none, (some 9), true⟩, ⟨.move (.loc 6), none, (some 10), true⟩, ⟨.upd 2 0 (.loc 8) (.loc 7), none, (some 7), true⟩])
 ((.seq (.ops [⟨.move (.var 0), none, none, true⟩, ⟨.move (.var 1), none, none, true⟩, ⟨.callS ndeadline_Stuck [(.loc 0), (.loc 1)], none, none, true⟩, ⟨.move (.loc 2), none, none, true⟩, ⟨.extract (.loc 3) 0, none, none, true⟩, ⟨.extract (.loc 3) 1, none, none, true⟩, ⟨.tomb 1 (.k (.agg [.int .i64 0, .int .i64 0])), none, (some 8), true⟩, ⟨.move (.loc 4), none, (some 11), true⟩, ⟨.upd 2 0 (.loc 6) (.loc 5), none, (some 8), true⟩])
 ((.seq ((.seq (.ops [⟨.callS nLdeadlineExample [], none, none, true⟩, ⟨.un .not (.loc 0), none, none, true⟩, ⟨.move (.loc 1), none, none, true⟩, ⟨.move (.var 0), none, none, false⟩, ⟨.move (.var 1), none, none, false⟩, ⟨.callS ndeadline_Validate [(.loc 3), (.loc 4)], (some (2, false)), none, false⟩, ⟨.field 0 (some 2) (.var 4), none, none, false⟩, ⟨.bin .neq (.agg [.int, .int]) (.loc 5) (.loc 6), (some (2, false)), none, true⟩, ⟨.pick (.loc 2) (.k (.bool true)) (.loc 7), none, (some 5), true⟩])
 (.cond (.var 5) ((.seq (.ops [⟨.move (.k (.bool false)), none, (some 3), true⟩])
 (.ret))) (.skip))))
 ((.seq ((.seq (.ops [⟨.field 0 none (.var 4), none, none, true⟩, ⟨.field 0 none (.var 4), none, none, true⟩, ⟨.bin .neq .no (.loc 1) (.k (.int .i64 0)), none, (some 6), true⟩])
 (.cond (.var 6) ((.seq (.ops [⟨.field 0 (some 2) (.var 7), none, none, true⟩, ⟨.field 0 (some 2) (.var 4), none, none, true⟩, ⟨.bin .eql (.agg [.int, .int]) (.loc 0) (.loc 1), none, none, true⟩, ⟨.move (.loc 2), none, none, true⟩, ⟨.field 0 (some 2) (.var 8), none, none, true⟩, ⟨.field 0 (some 2) (.var 4), none, none, true⟩, ⟨.bin .eql (.agg [.int, .int]) (.loc 4) (.loc 5), none, none, true⟩, ⟨.pick (.loc 3) (.loc 6) (.k (.bool false)), none, none, true⟩, ⟨.move (.loc 7), none, none, true⟩, ⟨.move (.var 9), none, none, true⟩, ⟨.len (.loc 9), none, none, true⟩, ⟨.bin .eql .no (.loc 10) (.k (.int .i64 0)), none, none, true⟩, ⟨.pick (.loc 8) (.loc 11) (.k (.bool false)), none, none, true⟩, ⟨.move (.loc 12), none, none, true⟩, ⟨.move (.var 10), none, none, true⟩, ⟨.len (.loc 14), none, none, true⟩, ⟨.bin .eql .no (.loc 15) (.k (.int .i64 0)), none, none, true⟩, ⟨.pick (.loc 13) (.loc 16) (.k (.bool false)), none, none, true⟩, ⟨.move (.loc 17), none, none, true⟩, ⟨.move (.var 11), none, none, true⟩, ⟨.len (.loc 19), none, none, true⟩, ⟨.bin .eql .no (.loc 20) (.k (.int .i64 0)), none, none, true⟩, ⟨.pick (.loc 18) (.loc 21) (.k (.bool false)), none, none, true⟩, ⟨.move (.loc 22), none, (some 3), true⟩])
 (.ret))) (.skip))))
 ((.seq (.ops [⟨.move (.k (.empty)), none, (some 16), true⟩])
 ((.seq (.ops [⟨.move (.var 0), none, none, true⟩, ⟨.move (.var 1), none, none, true⟩, ⟨.callS nFSimulate [(.loc 0), (.loc 1), (.k (.int .i64 2600))], none, none, true⟩, ⟨.callS nFWorld_Left [(.loc 2)], none, none, true⟩, ⟨.move (.loc 3), none, (some 13), true⟩])
 ((.seq ((.seq (.ops [⟨.move (.k (.int .i64 0)), none, (some 12), true⟩])
 (.block 0 (.loop ((.seq ((.seq (.ops [⟨.move (.var 12), none, none, true⟩, ⟨.move (.var 13), none, none, true⟩, ⟨.len (.loc 1), none, none, true⟩, ⟨.bin .lss .no (.loc 0) (.loc 2), none, (some 14), true⟩])
 (.cond (.var 14) (.skip) (.exit 0))))
 ((.seq (.block 1 ((.seq (.ops [⟨.move (.var 13), none, none, true⟩, ⟨.move (.var 12), none, none, true⟩, ⟨.indexAddr 1 (.loc 0) (.loc 1), none, none, true⟩, ⟨.load none (.loc 2), none, none, true⟩, ⟨.bin .gtr .no (.loc 3) (.k (.int .i64 0)), none, (some 15), true⟩])
 (.cond (.var 15) (.ops [⟨.move (.var 16), none, none, true⟩, ⟨.move (.var 12), none, none, true⟩, ⟨.buildSlice 1 [.int .i64 0] [(0, 1, (.loc 1))] 1, none, none, true⟩, ⟨.append 1 8 (.loc 0) (.loc 2), none, none, true⟩, ⟨.move (.loc 3), none, (some 16), true⟩]) (.skip)))))
 (.ops [⟨.move (.var 12), none, none, true⟩, ⟨.bin .add .no (.loc 0) (.k (.int .i64 1)), none, none, true⟩, ⟨.move (.loc 1), none, (some 12), true⟩])))))))))
 ((.seq ((.seq (.ops [⟨.field 0 none (.var 8), none, none, true⟩, ⟨.field 0 none (.var 8), none, none, true⟩, ⟨.bin .neq .no (.loc 1) (.k (.int .i64 0)), none, none, true⟩, ⟨.move (.loc 2), none, none, true⟩, ⟨.move (.var 11), none, none, true⟩, ⟨.move (.var 16), none, none, true⟩, ⟨.callS nFEqualInts [(.loc 4), (.loc 5)], (some (3, false)), none, true⟩, ⟨.un .not (.loc 6), (some (3, false)), none, true⟩, ⟨.pick (.loc 3) (.k (.bool true)) (.loc 7), none, (some 17), true⟩])
 (.cond (.var 17) ((.seq (.ops [⟨.move (.k (.bool false)), none, (some 3), true⟩])
 (.ret))) (.skip))))
 ((.seq ((.seq (.ops [⟨.move (.var 2), none, none, true⟩, ⟨.bin .lss .no (.loc 0) (.k (.int .i64 0)), none, none, true⟩, ⟨.move (.loc 1), none, none, true⟩, ⟨.move (.var 2), none, none, true⟩, ⟨.bin .gtr .no (.loc 3) (.k (.int .i64 60)), none, none, true⟩, ⟨.pick (.loc 2) (.k (.bool true)) (.loc 4), none, (some 18), true⟩])
 (.cond (.var 18) ((.seq (.ops [⟨.field 0 (some 2) (.var 7), none, none, false⟩, ⟨.callS nFFault [(.k (.int .i64 3)), (.k (.int .i64 (-20)))], none, none, false⟩, ⟨.bin .eql (.agg [.int, .int]) (.loc 0) (.loc 1), none, none, true⟩, ⟨.move (.loc 2), none, none, true⟩, ⟨.move (.var 9), none, none, true⟩, ⟨.len (.loc 4), none, none, true⟩, ⟨.bin .eql .no (.loc 5) (.k (.int .i64 0)), none, none, true⟩, ⟨.pick (.loc 3) (.loc 6) (.k (.bool false)), none, none, true⟩, ⟨.move (.loc 7), none, none, true⟩, ⟨.move (.var 10), none, none, true⟩, ⟨.len (.loc 9), none, none, true⟩, ⟨.bin .eql .no (.loc 10) (.k (.int .i64 0)), none, none, true⟩, ⟨.pick (.loc 8) (.loc 11) (.k (.bool false)), none, none, true⟩, ⟨.move (.loc 12), none, (some 3), true⟩])
 (.ret))) (.skip))))
 ((.seq (.ops [⟨.move (.var 0), none, none, true⟩, ⟨.move (.var 1), none, none, true⟩, ⟨.move (.var 2), none, none, true⟩, ⟨.callS nFSimulate [(.loc 0), (.loc 1), (.loc 2)], none, none, true⟩, ⟨.move (.loc 3), none, (some 19), true⟩])
 ((.seq (.ops [⟨.field 0 none (.var 7), none, none, true⟩, ⟨.field 0 none (.var 7), none, none, true⟩, ⟨.bin .eql .no (.loc 1) (.k (.int .i64 0)), none, none, true⟩, ⟨.move (.loc 2), none, none, true⟩, ⟨.move (.var 9), none, none, true⟩, ⟨.move (.var 19), none, none, true⟩, ⟨.nilCheck (.loc 5), (some (3, true)), none, true⟩, ⟨.fieldAddr 26 (.loc 6), (some (3, true)), none, true⟩, ⟨.load none (.loc 7), (some (3, true)), none, true⟩, ⟨.callS nFEqualResults [(.loc 4), (.loc 8)], (some (3, true)), none, true⟩, ⟨.pick (.loc 3) (.loc 9) (.k (.bool false)), none, none, true⟩, ⟨.move (.loc 10), none, none, true⟩, ⟨.move (.var 10), none, none, true⟩, ⟨.move (.var 19), none, none, true⟩, ⟨.callS nFWorld_Left [(.loc 13)], (some (11, true)), none, true⟩, ⟨.callS nFEqualInts [(.loc 12), (.loc 14)], (some (11, true)), none, true⟩, ⟨.pick (.loc 11) (.loc 15) (.k (.bool false)), none, none, true⟩, ⟨.move (.loc 16), none, (some 3), true⟩])
 (.ret))))))))))))))))))))))))))), none⟩
def rf_LDeadlineChannelsAreQueues (ndeadline_Run nLdeadlineExample nLsender : Nat) : RFunc := ⟨3, 16, [.var 3],
 ((.seq (.ops [⟨.move (.k (.bool false)), none, (some 3), true⟩])
 ((.seq (.ops [⟨.move (.var 0), none, none, true⟩, ⟨.move (.var 1), none, none, true⟩, ⟨.move (.var 2), none, none, true⟩, ⟨.callS ndeadline_Run [(.loc 0), (.loc 1), (.loc 2)], none, none, true⟩, ⟨.move (.loc 3), none, none, true⟩, ⟨.extract (.loc 4) 0, none, none, true⟩, ⟨.extract (.loc 4) 1, none, none, true⟩, ⟨.extract (.loc 4) 2, none, none, true⟩, ⟨.tomb 1 (.k (.agg [.int .i64 0, .int .i64 0])), none, (some 5), true⟩, ⟨.move (.loc 5), none, (some 9), true⟩, ⟨.move (.loc 6), none, none, true⟩, ⟨.upd 2 0 (.loc 8) (.loc 7), none, (some 5), true⟩])
 ((.seq ((.seq (.ops [⟨.callS nLdeadlineExample [], none, none, true⟩, ⟨.un .not (.loc 0), none, (some 4), true⟩])
 (.cond (.var 4) ((.seq (.ops [⟨.move (.k (.bool false)), none, (some 3), true⟩])
 (.ret))) (.skip))))
 ((.seq ((.seq (.ops [⟨.move (.k (.int .i64 0)), none, (some 6), true⟩])
 (.block 0 (.loop ((.seq ((.seq (.ops [⟨.field 0 none (.var 5), none, none, true⟩, ⟨.field 0 none (.var 5), none, none, true⟩, ⟨.bin .eql .no (.loc 1) (.k (.int .i64 0)), none, none, true⟩, ⟨.move (.loc 2), none, none, true⟩, ⟨.move (.var 6), none, none, true⟩, ⟨.move (.var 0), none, none, true⟩, ⟨.len (.loc 5), none, none, true⟩, ⟨.bin .lss .no (.loc 4) (.loc 6), none, none, true⟩, ⟨.pick (.loc 3) (.loc 7) (.k (.bool false)), none, (some 7), true⟩])
 (.cond (.var 7) (.skip) (.exit 0))))
 ((.seq (.block 1 ((.seq (.ops [⟨.move (.k (.empty)), none, (some 13), true⟩])
 ((.seq (.ops [⟨.move (.k (.int .i64 0)), none, (some 8), true⟩])
 (.block 2 (.loop ((.seq ((.seq (.ops [⟨.move (.var 8), none, none, true⟩, ⟨.move (.var 9), none, none, true⟩, ⟨.len (.loc 1), none, none, true⟩, ⟨.bin .lss .no (.loc 0) (.loc 2), none, (some 10), true⟩])
 (.cond (.var 10) (.skip) (.exit 2))))
 ((.seq (.block 3 ((.seq ((.seq (.ops [⟨.move (.var 9), none, none, true⟩, ⟨.move (.var 8), none, none, true⟩, ⟨.indexAddr 4 (.loc 0) (.loc 1), none, none, true⟩, ⟨.fieldAddr 2 (.loc 2), none, none, true⟩, ⟨.load none (.loc 3), none, none, true⟩, ⟨.move (.var 6), none, none, true⟩, ⟨.bin .neq .no (.loc 4) (.loc 5), none, (some 11), true⟩])
 (.cond (.var 11) (.exit 3) (.skip))))
 ((.seq ((.seq (.ops [⟨.move (.var 1), none, none, true⟩, ⟨.move (.var 9), none, none, true⟩, ⟨.move (.var 8), none, none, true⟩, ⟨.callS nLsender [(.loc 0), (.loc 1), (.loc 2)], none, (some 12), true⟩])
 (.cond (.var 12) ((.seq (.ops [⟨.move (.var 13), none, none, true⟩, ⟨.move (.var 9), none, none, true⟩, ⟨.move (.var 8), none, none, true⟩, ⟨.indexAddr 4 (.loc 1) (.loc 2), none, none, true⟩, ⟨.fieldAddr 3 (.loc 3), none, none, true⟩, ⟨.load none (.loc 4), none, none, true⟩, ⟨.buildSlice 1 [.int .i64 0] [(0, 1, (.loc 5))] 1, none, none, true⟩, ⟨.append 1 8 (.loc 0) (.loc 6), none, none, true⟩, ⟨.move (.loc 7), none, (some 13), true⟩])
 ((.seq ((.seq (.ops [⟨.move (.var 13), none, none, true⟩, ⟨.len (.loc 0), none, none, true⟩, ⟨.move (.var 0), none, none, true⟩, ⟨.move (.var 6), none, none, true⟩, ⟨.indexAddr 1 (.loc 2) (.loc 3), none, none, true⟩, ⟨.load none (.loc 4), none, none, true⟩, ⟨.bin .gtr .no (.loc 1) (.loc 5), none, (some 14), true⟩])
 (.cond (.var 14) ((.seq (.ops [⟨.move (.k (.bool false)), none, (some 3), true⟩])
 (.ret))) (.skip))))
 (.exit 3))))) (.skip))))
 ((.seq ((.seq (.ops [⟨.move (.var 13), none, none, true⟩, ⟨.len (.loc 0), none, none, true⟩, ⟨.bin .eql .no (.loc 1) (.k (.int .i64 0)), none, none, true⟩, ⟨.move (.loc 2), none, none, true⟩, ⟨.move (.var 13), none, none, false⟩, ⟨.indexAddr 1 (.loc 4) (.k (.int .i64 0)), (some (3, false)), none, false⟩, ⟨.load none (.loc 5), (some (3, false)), none, false⟩, ⟨.move (.var 9), none, none, false⟩, ⟨.move (.var 8), none, none, false⟩, ⟨.indexAddr 4 (.loc 7) (.loc 8), (some (3, false)), none, false⟩, ⟨.fieldAddr 3 (.loc 9), (some (3, false)), none, false⟩, ⟨.load none (.loc 10), (some (3, false)), none, false⟩, ⟨.bin .neq .no (.loc 6) (.loc 11), (some (3, false)), none, true⟩, ⟨.pick (.loc 3) (.k (.bool true)) (.loc 12), none, (some 15), true⟩])
 (.cond (.var 15) ((.seq (.ops [⟨.move (.k (.bool false)), none, (some 3), true⟩])
 (.ret))) (.skip))))
 (.ops [⟨.move (.var 13), none, none, true⟩, ⟨.slice 1 (.loc 0) (some (.k (.int .i64 1))) none none, none, none, true⟩, ⟨.move (.loc 1), none, (some 13), true⟩]))))))))
 (.ops [⟨.move (.var 8), none, none, true⟩, ⟨.bin .add .no (.loc 0) (.k (.int .i64 1)), none, none, true⟩, ⟨.move (.loc 1), none, (some 8), true⟩]))))))))))))
 (.ops [⟨.move (.var 6), none, none, true⟩, ⟨.bin .add .no (.loc 0) (.k (.int .i64 1)), none, none, true⟩, ⟨.move (.loc 1), none, (some 6), true⟩])))))))))
 ((.seq (.ops [⟨.move (.k (.bool true)), none, (some 3), true⟩])
 (.ret))))))))))), none⟩
def rf_LDeadlineTimeoutsWait (ndeadline_Run nLdeadlineExample : Nat) : RFunc := ⟨3, 17, [.var 3],
 ((.seq (.ops [⟨.move (.k (.bool false)), none, (some 3), true⟩])
 ((.seq (.ops [⟨.move (.var 0), none, none, true⟩, ⟨.move (.var 1), none, none, true⟩, ⟨.move (.var 2), none, none, true⟩, ⟨.callS ndeadline_Run [(.loc 0), (.loc 1), (.loc 2)], none, none, true⟩, ⟨.move (.loc 3), none, none, true⟩, ⟨.extract (.loc 4) 0, none, none, true⟩, ⟨.extract (.loc 4) 1, none, none, true⟩, ⟨.extract (.loc 4) 2, none, none, true⟩, ⟨.tomb 1 (.k (.agg [.int .i64 0, .int .i64 0])), none, (some 5), true⟩, ⟨.move (.loc 5), none, (some 7), true⟩, ⟨.move (.loc 6), none, none, true⟩, ⟨.upd 2 0 (.loc 8) (.loc 7), none, (some 5), true⟩])
 ((.seq ((.seq (.ops [⟨.callS nLdeadlineExample [], none, none, true⟩, ⟨.un .not (.loc 0), none, (some 4), true⟩])
 (.cond (.var 4) ((.seq (.ops [⟨.move (.k (.bool false)), none, (some 3), true⟩])
 (.ret))) (.skip))))
 ((.seq ((.seq (.ops [⟨.move (.k (.int .i64 0)), none, (some 6), true⟩])
 (.block 0 (.loop ((.seq ((.seq (.ops [⟨.field 0 none (.var 5), none, none, true⟩, ⟨.field 0 none (.var 5), none, none, true⟩, ⟨.bin .eql .no (.loc 1) (.k (.int .i64 0)), none, none, true⟩, ⟨.move (.loc 2), none, none, true⟩, ⟨.move (.var 6), none, none, true⟩, ⟨.move (.var 7), none, none, true⟩, ⟨.len (.loc 5), none, none, true⟩, ⟨.bin .lss .no (.loc 4) (.loc 6), none, none, true⟩, ⟨.pick (.loc 3) (.loc 7) (.k (.bool false)), none, (some 8), true⟩])
 (.cond (.var 8) (.skip) (.exit 0))))
 ((.seq (.block 1 ((.seq ((.seq (.ops [⟨.move (.var 7), none, none, true⟩, ⟨.move (.var 6), none, none, true⟩, ⟨.indexAddr 4 (.loc 0) (.loc 1), none, none, true⟩, ⟨.fieldAddr 2 (.loc 2), none, none, true⟩, ⟨.load none (.loc 3), none, none, true⟩, ⟨.bin .neq .no (.loc 4) (.k (.int .i64 (-1))), none, (some 9), true⟩])
 (.cond (.var 9) (.exit 1) (.skip))))
 ((.seq (.ops [⟨.move (.var 7), none, none, true⟩, ⟨.move (.var 6), none, none, true⟩, ⟨.indexAddr 4 (.loc 0) (.loc 1), none, none, true⟩, ⟨.fieldAddr 1 (.loc 2), none, none, true⟩, ⟨.load none (.loc 3), none, none, true⟩, ⟨.move (.loc 4), none, (some 12), true⟩])
 ((.seq (.ops [⟨.move (.k (.int .i64 0)), none, (some 14), true⟩])
 ((.seq (.ops [⟨.move (.k (.int .i64 0)), none, (some 15), true⟩])
 ((.seq ((.seq (.ops [⟨.move (.k (.int .i64 0)), none, (some 10), true⟩])
 (.block 2 (.loop ((.seq ((.seq (.ops [⟨.move (.var 10), none, none, true⟩, ⟨.move (.var 6), none, none, true⟩, ⟨.bin .lss .no (.loc 0) (.loc 1), none, (some 11), true⟩])
 (.cond (.var 11) (.skip) (.exit 2))))
 ((.seq (.block 3 ((.seq (.ops [⟨.move (.var 7), none, none, true⟩, ⟨.move (.var 10), none, none, true⟩, ⟨.indexAddr 4 (.loc 0) (.loc 1), none, none, true⟩, ⟨.fieldAddr 1 (.loc 2), none, none, true⟩, ⟨.load none (.loc 3), none, none, true⟩, ⟨.move (.var 12), none, none, true⟩, ⟨.bin .eql .no (.loc 4) (.loc 5), none, (some 13), true⟩])
 (.cond (.var 13) ((.seq (.ops [⟨.move (.var 14), none, none, true⟩, ⟨.bin .add .no (.loc 0) (.k (.int .i64 1)), none, none, true⟩, ⟨.move (.loc 1), none, (some 14), true⟩])
 (.ops [⟨.move (.var 7), none, none, true⟩, ⟨.move (.var 10), none, none, true⟩, ⟨.indexAddr 4 (.loc 0) (.loc 1), none, none, true⟩, ⟨.fieldAddr 0 (.loc 2), none, none, true⟩, ⟨.load none (.loc 3), none, none, true⟩, ⟨.bin .add .no (.loc 4) (.k (.int .i64 1)), none, none, true⟩, ⟨.move (.loc 5), none, (some 15), true⟩]))) (.skip)))))
 (.ops [⟨.move (.var 10), none, none, true⟩, ⟨.bin .add .no (.loc 0) (.k (.int .i64 1)), none, none, true⟩, ⟨.move (.loc 1), none, (some 10), true⟩])))))))))
 ((.seq (.ops [⟨.move (.var 12), none, none, true⟩, ⟨.bin .lss .no (.loc 0) (.k (.int .i64 0)), none, none, true⟩, ⟨.move (.loc 1), none, none, true⟩, ⟨.move (.var 12), none, none, true⟩, ⟨.move (.var 1), none, none, true⟩, ⟨.len (.loc 4), none, none, true⟩, ⟨.bin .geq .no (.loc 3) (.loc 5), none, none, true⟩, ⟨.pick (.loc 2) (.k (.bool true)) (.loc 6), none, none, true⟩, ⟨.move (.loc 7), none, none, true⟩, ⟨.move (.var 14), none, none, false⟩, ⟨.move (.var 1), none, none, true⟩, ⟨.move (.var 12), none, none, true⟩, ⟨.indexAddr 1 (.loc 10) (.loc 11), (some (8, false)), none, true⟩, ⟨.load none (.loc 12), (some (8, false)), none, true⟩, ⟨.len (.loc 13), (some (8, false)), none, true⟩, ⟨.bin .geq .no (.loc 9) (.loc 14), (some (8, false)), none, true⟩, ⟨.pick (.loc 8) (.k (.bool true)) (.loc 15), none, none, true⟩, ⟨.move (.loc 16), none, none, true⟩, ⟨.move (.var 1), none, none, true⟩, ⟨.move (.var 12), none, none, true⟩, ⟨.indexAddr 1 (.loc 18) (.loc 19), (some (17, false)), none, true⟩, ⟨.load none (.loc 20), (some (17, false)), none, true⟩, ⟨.move (.var 14), none, none, false⟩, ⟨.indexAddr 5 (.loc 21) (.loc 22), (some (17, false)), none, true⟩, ⟨.fieldAddr 0 (.loc 23), (some (17, false)), none, true⟩, ⟨.load none (.loc 24), (some (17, false)), none, true⟩, ⟨.bin .lss .no (.loc 25) (.k (.int .i64 3)), (some (17, false)), none, true⟩, ⟨.pick (.loc 17) (.k (.bool true)) (.loc 26), none, none, true⟩, ⟨.move (.loc 27), none, none, true⟩, ⟨.move (.var 7), none, none, false⟩, ⟨.move (.var 6), none, none, false⟩, ⟨.indexAddr 4 (.loc 29) (.loc 30), (some (28, false)), none, false⟩, ⟨.fieldAddr 0 (.loc 31), (some (28, false)), none, false⟩, ⟨.load none (.loc 32), (some (28, false)), none, false⟩, ⟨.move (.var 15), none, none, false⟩, ⟨.bin .sub .no (.loc 33) (.loc 34), (some (28, false)), none, false⟩, ⟨.move (.var 1), none, none, false⟩, ⟨.move (.var 12), none, none, false⟩, ⟨.indexAddr 1 (.loc 36) (.loc 37), (some (28, false)), none, false⟩, ⟨.load none (.loc 38), (some (28, false)), none, false⟩, ⟨.move (.var 14), none, none, false⟩, ⟨.indexAddr 5 (.loc 39) (.loc 40), (some (28, false)), none, false⟩, ⟨.fieldAddr 3 (.loc 41), (some (28, false)), none, false⟩, ⟨.load none (.loc 42), (some (28, false)), none, false⟩, ⟨.bin .neq .no (.loc 35) (.loc 43), (some (28, false)), none, true⟩, ⟨.pick (.loc 28) (.k (.bool true)) (.loc 44), none, none, true⟩, ⟨.move (.loc 45), none, none, true⟩, ⟨.move (.var 7), none, none, true⟩, ⟨.move (.var 6), none, none, true⟩, ⟨.indexAddr 4 (.loc 47) (.loc 48), (some (46, false)), none, true⟩, ⟨.fieldAddr 3 (.loc 49), (some (46, false)), none, true⟩, ⟨.load none (.loc 50), (some (46, false)), none, true⟩, ⟨.bin .neq .no (.loc 51) (.k (.int .i64 0)), (some (46, false)), none, true⟩, ⟨.pick (.loc 46) (.k (.bool true)) (.loc 52), none, (some 16), true⟩])
 (.cond (.var 16) ((.seq (.ops [⟨.move (.k (.bool false)), none, (some 3), true⟩])
 (.ret))) (.skip)))))))))))))))
 (.ops [⟨.move (.var 6), none, none, true⟩, ⟨.bin .add .no (.loc 0) (.k (.int .i64 1)), none, none, true⟩, ⟨.move (.loc 1), none, (some 6), true⟩])))))))))
 ((.seq (.ops [⟨.move (.k (.bool true)), none, (some 3), true⟩])
 (.ret))))))))))), none⟩
theorem v_LDeadlineTimeoutsWait {F : Nat → Option RFunc} {me ndeadline_Run nLdeadlineExample : Nat} (hF : F me = some (rf_LDeadlineTimeoutsWait ndeadline_Run nLdeadlineExample)) {fl : Nat} {H : Heap} {Q : AV → Heap → Prop} (capacities0 : AV) (scripts1 : AV) (ticks2 : Int)
  (h : Ret F fl ndeadline_Run [capacities0, scripts1, (.int .i64 ticks2)] H (fun v8 H7 => ∃ (r3 : AV) (r4 : AV) (r5 : Int) (r6 : Int), v8 = (.tuple [r3, r4, (.agg [(.int .i64 r5), (.int .i64 r6)])]) ∧ ∀ (H9 : Heap), Dead1 H7 1 H9 → Ret F fl nLdeadlineExample [] H9 (fun v12 H11 => ∃ (r10 : Bool), v12 = (.bool r10) ∧ ((¬(r10 = true)) → Q (.bool false) H11) ∧ (¬(¬(r10 = true)) → ∃ (J13 : Nat → Int → Prop) (k14 : Nat), J13 k14 0 ∧ (∀ (m15 : Nat) (i17 : Int), J13 m15 i17 → ∃ len27 : Nat, lenA r3 = some len27 ∧ ((((r5 = 0) ∧ (i17 < (len27 : Int)))) → ∃ (e28 : Int), getA H11 4 none r3 i17 2 = some (.int .i64 e28) ∧ ((e28 ≠ (-1)) → ∃ m30 : Nat, m30 < m15 ∧ J13 m30 (IntKind.wrap .i64 (i17 + 1))) ∧ (¬(e28 ≠ (-1)) → ∃ (e31 : Int), getA H11 4 none r3 i17 1 = some (.int .i64 e31) ∧ ∃ (J33 : Nat → Int → Int → Int → Prop) (k34 : Nat), J33 k34 0 0 0 ∧ (∀ (m35 : Nat) (k36 : Int) (n39 : Int) (since40 : Int), J33 m35 k36 n39 since40 → ((k36 < i17) → ∃ (e41 : Int), getA H11 4 none r3 k36 1 = some (.int .i64 e41) ∧ ((e41 = e31) → ∃ (e43 : Int), getA H11 4 none r3 k36 0 = some (.int .i64 e43) ∧ ∃ m45 : Nat, m45 < m35 ∧ J33 m45 (IntKind.wrap .i64 (k36 + 1)) (IntKind.wrap .i64 (n39 + 1)) (IntKind.wrap .i64 (e43 + 1))) ∧ (¬(e41 = e31) → ∃ m46 : Nat, m46 < m35 ∧ J33 m46 (IntKind.wrap .i64 (k36 + 1)) n39 since40)) ∧ (¬(k36 < i17) → ∃ len47 : Nat, lenA scripts1 = some len47 ∧ ((((e31 < 0) ∨ (e31 ≥ (len47 : Int)))) → Q (.bool false) H11) ∧ (¬(((e31 < 0) ∨ (e31 ≥ (len47 : Int)))) → ∃ (e48 : AV), getA H11 1 none scripts1 e31 0 = some e48 ∧ ∃ len50 : Nat, lenA e48 = some len50 ∧ ((n39 ≥ (len50 : Int)) → Q (.bool false) H11) ∧ (¬(n39 ≥ (len50 : Int)) → ∃ (e51 : AV), getA H11 1 none scripts1 e31 0 = some e51 ∧ ∃ (e53 : Int), getA H11 5 none e51 n39 0 = some (.int .i64 e53) ∧ ((e53 < 3) → Q (.bool false) H11) ∧ (¬(e53 < 3) → ∃ (e55 : Int), getA H11 4 none r3 i17 0 = some (.int .i64 e55) ∧ ∃ (e57 : AV), getA H11 1 none scripts1 e31 0 = some e57 ∧ ∃ (e59 : Int), getA H11 5 none e57 n39 3 = some (.int .i64 e59) ∧ (((IntKind.wrap .i64 (e55 - since40)) ≠ e59) → Q (.bool false) H11) ∧ (¬((IntKind.wrap .i64 (e55 - since40)) ≠ e59) → ∃ (e61 : Int), getA H11 4 none r3 i17 3 = some (.int .i64 e61) ∧ ((e61 ≠ 0) → Q (.bool false) H11) ∧ (¬(e61 ≠ 0) → ∃ m63 : Nat, m63 < m15 ∧ J13 m63 (IntKind.wrap .i64 (i17 + 1))))))))))) ∧ (¬(((r5 = 0) ∧ (i17 < (len27 : Int)))) → Q (.bool true) H11)))))) : Ret F fl me [capacities0, scripts1, (.int .i64 ticks2)] H Q := by
  refine ret_intro hF rfl ?_
  refine w_seq ?_
  refine w_run [0] ?_
  refine t_done [capacities0, scripts1, (.int .i64 ticks2), (.bool false), .undef, .undef, .undef, .undef, .undef, .undef, .undef, .undef, .undef, .undef, .undef, .undef, .undef] H (by kernel_rfl) ?_
  refine then_norm ?_
  refine w_seq ?_
  refine w_run [0, 0, 0, 1, 0, 0, 0, 0, 1, 0, 0, 1] ?_
  refine t_call true ndeadline_Run [capacities0, scripts1, (.int .i64 ticks2)] H (by kernel_rfl) h ?_
  clear h
  rintro _ H7 ⟨r3, r4, r5, r6, rfl, h⟩
  obtain ⟨H9, hb⟩ : ∃ H', Dead1 H7 1 H' := ⟨_, ⟨rfl⟩⟩
  replace h := h H9 hb
  refine t_tomb true 1 (.agg [(.int .i64 0), (.int .i64 0)]) [(.int .i64 0), (.int .i64 0)] H9 H7 (by kernel_rfl) rfl hb ?_
  refine t_upd true 2 0 [(.int .i64 0), (.int .i64 0)] (.agg [(.int .i64 r5), (.int .i64 r6)]) [(.int .i64 r5), (.int .i64 r6)] [(.int .i64 r5), (.int .i64 r6)] H9 (by kernel_rfl) rfl (all_c rfl (all_c rfl all_n)) ⟨rfl, Nat.le_of_ble_eq_true (by kernel_rfl), rfl⟩ ?_
  refine t_done [capacities0, scripts1, (.int .i64 ticks2), (.bool false), .undef, (.agg [(.int .i64 r5), (.int .i64 r6)]), .undef, r3, .undef, .undef, .undef, .undef, .undef, .undef, .undef, .undef, .undef] H9 (by kernel_rfl) ?_
  refine then_norm ?_
  refine w_seq ?_
  refine w_seq ?_
  refine w_run [1, 0] ?_
  refine t_call true nLdeadlineExample [] H9 (by kernel_rfl) h ?_
  clear h
  rintro _ H11 ⟨r10, rfl, h⟩
  refine t_done [capacities0, scripts1, (.int .i64 ticks2), (.bool false), (.bool (!r10)), (.agg [(.int .i64 r5), (.int .i64 r6)]), .undef, r3, .undef, .undef, .undef, .undef, .undef, .undef, .undef, .undef, .undef] H11 (by kernel_rfl) ?_
  refine then_norm ?_
  refine w_cond (t := (!r10)) rfl (fun hc => ?_) (fun hc => ?_)
  · replace h := h.1 ((is_not is_raw).t hc)
    refine w_seq ?_
    refine w_run [0] ?_
    refine t_done [capacities0, scripts1, (.int .i64 ticks2), (.bool false), (.bool (!r10)), (.agg [(.int .i64 r5), (.int .i64 r6)]), .undef, r3, .undef, .undef, .undef, .undef, .undef, .undef, .undef, .undef, .undef] H11 (by kernel_rfl) ?_
    refine then_norm ?_
    refine w_ret ?_
    refine then_ret ?_
    exact body_ret (vs := [(.bool false)]) _ (by kernel_rfl) rfl h
  · replace h := h.2 ((is_not is_raw).f hc)
    refine w_skip ?_
    refine then_norm ?_
    refine w_seq ?_
    refine w_seq ?_
    refine w_run [0] ?_
    refine t_done [capacities0, scripts1, (.int .i64 ticks2), (.bool false), (.bool (!r10)), (.agg [(.int .i64 r5), (.int .i64 r6)]), (.int .i64 0), r3, .undef, .undef, .undef, .undef, .undef, .undef, .undef, .undef, .undef] H11 (by kernel_rfl) ?_
    refine then_norm ?_
    refine w_block ?_
    obtain ⟨J13, k14, h0, h⟩ := h
    refine w_loop (I := fun mI EI HI => ∃ (d16 : AV) (i17 : Int) (d18 : AV) (d19 : AV) (d20 : AV) (d21 : AV) (d22 : AV) (d23 : AV) (d24 : AV) (d25 : AV) (d26 : AV), EI = [capacities0, scripts1, (.int .i64 ticks2), d16, (.bool (!r10)), (.agg [(.int .i64 r5), (.int .i64 r6)]), (.int .i64 i17), r3, d18, d19, d20, d21, d22, d23, d24, d25, d26] ∧ H11 = HI ∧ J13 mI i17) ?_ k14 ⟨_, _, _, _, _, _, _, _, _, _, _, rfl, rfl, h0⟩
    clear h0
    rintro m15 EI HI ⟨d16, i17, d18, d19, d20, d21, d22, d23, d24, d25, d26, rfl, rfl, hJ⟩
    replace h := h m15 i17  hJ
    clear hJ
    refine w_seq ?_
    refine w_seq ?_
    refine w_run [0, 0, 0, 0, 0, 0, 1, 0, 0] ?_
    obtain ⟨len27, hl, h⟩ := h
    refine t_len true r3 len27 H11 (by kernel_rfl) hl ?_
    refine t_done [capacities0, scripts1, (.int .i64 ticks2), d16, (.bool (!r10)), (.agg [(.int .i64 r5), (.int .i64 r6)]), (.int .i64 i17), r3, (.bool (((r5) == 0) && (decide (i17 < (len27 : Int))))), d19, d20, d21, d22, d23, d24, d25, d26] H11 (by kernel_rfl) ?_
    refine then_norm ?_
    refine w_cond (t := (((r5) == 0) && (decide (i17 < (len27 : Int))))) rfl (fun hc => ?_) (fun hc => ?_)
    · replace h := h.1 ((is_and is_eq is_dec).t hc)
      refine w_skip ?_
      refine then_norm ?_
      refine w_seq ?_
      refine w_block ?_
      refine w_seq ?_
      refine w_seq ?_
      refine w_run [0, 0, 1, 1, 1, 0] ?_
      obtain ⟨e28, hg29, h⟩ := h
      refine t_idxG true 4 r3 .i64 i17 H11 (by kernel_rfl) hg29 ?_
      refine t_fldG true 2 4 r3 i17 0 H11 (by kernel_rfl) hg29 ?_
      refine t_loadG true none 4 r3 i17 2 (.int .i64 e28) H11 (by kernel_rfl) hg29 ?_
      refine t_done [capacities0, scripts1, (.int .i64 ticks2), d16, (.bool (!r10)), (.agg [(.int .i64 r5), (.int .i64 r6)]), (.int .i64 i17), r3, (.bool (((r5) == 0) && (decide (i17 < (len27 : Int))))), (.bool ((e28) != (-1))), d20, d21, d22, d23, d24, d25, d26] H11 (by kernel_rfl) ?_
      refine then_norm ?_
      refine w_cond (t := ((e28) != (-1))) rfl (fun hc => ?_) (fun hc => ?_)
      · replace h := h.1 (is_ne.t hc)
        refine w_exit ?_
        refine then_exit ?_
        refine block_exit ?_
        refine then_norm ?_
        refine w_run [0, 0, 0] ?_
        refine t_done [capacities0, scripts1, (.int .i64 ticks2), d16, (.bool (!r10)), (.agg [(.int .i64 r5), (.int .i64 r6)]), (.int .i64 (IntKind.wrap .i64 (i17 + 1))), r3, (.bool (((r5) == 0) && (decide (i17 < (len27 : Int))))), (.bool ((e28) != (-1))), d20, d21, d22, d23, d24, d25, d26] H11 (by kernel_rfl) ?_
        obtain ⟨m', hm, h⟩ := h
        refine loop_norm ⟨m', hm, _, _, _, _, _, _, _, _, _, _, _, rfl, rfl, h⟩
      · replace h := h.2 (is_ne.f hc)
        refine w_skip ?_
        refine then_norm ?_
        refine w_seq ?_
        refine w_run [0, 0, 1, 1, 1, 0] ?_
        obtain ⟨e31, hg32, h⟩ := h
        refine t_idxG true 4 r3 .i64 i17 H11 (by kernel_rfl) hg32 ?_
        refine t_fldG true 1 4 r3 i17 0 H11 (by kernel_rfl) hg32 ?_
        refine t_loadG true none 4 r3 i17 1 (.int .i64 e31) H11 (by kernel_rfl) hg32 ?_
        refine t_done [capacities0, scripts1, (.int .i64 ticks2), d16, (.bool (!r10)), (.agg [(.int .i64 r5), (.int .i64 r6)]), (.int .i64 i17), r3, (.bool (((r5) == 0) && (decide (i17 < (len27 : Int))))), (.bool ((e28) != (-1))), d20, d21, (.int .i64 e31), d23, d24, d25, d26] H11 (by kernel_rfl) ?_
        refine then_norm ?_
        refine w_seq ?_
        refine w_run [0] ?_
        refine t_done [capacities0, scripts1, (.int .i64 ticks2), d16, (.bool (!r10)), (.agg [(.int .i64 r5), (.int .i64 r6)]), (.int .i64 i17), r3, (.bool (((r5) == 0) && (decide (i17 < (len27 : Int))))), (.bool ((e28) != (-1))), d20, d21, (.int .i64 e31), d23, (.int .i64 0), d25, d26] H11 (by kernel_rfl) ?_
        refine then_norm ?_
        refine w_seq ?_
        refine w_run [0] ?_
        refine t_done [capacities0, scripts1, (.int .i64 ticks2), d16, (.bool (!r10)), (.agg [(.int .i64 r5), (.int .i64 r6)]), (.int .i64 i17), r3, (.bool (((r5) == 0) && (decide (i17 < (len27 : Int))))), (.bool ((e28) != (-1))), d20, d21, (.int .i64 e31), d23, (.int .i64 0), (.int .i64 0), d26] H11 (by kernel_rfl) ?_
        refine then_norm ?_
        refine w_seq ?_
        refine w_seq ?_
        refine w_run [0] ?_
        refine t_done [capacities0, scripts1, (.int .i64 ticks2), d16, (.bool (!r10)), (.agg [(.int .i64 r5), (.int .i64 r6)]), (.int .i64 i17), r3, (.bool (((r5) == 0) && (decide (i17 < (len27 : Int))))), (.bool ((e28) != (-1))), (.int .i64 0), d21, (.int .i64 e31), d23, (.int .i64 0), (.int .i64 0), d26] H11 (by kernel_rfl) ?_
        refine then_norm ?_
        refine w_block ?_
        obtain ⟨J33, k34, h0, h⟩ := h
        refine w_loop (I := fun mI EI HI => ∃ (k36 : Int) (d37 : AV) (d38 : AV) (n39 : Int) (since40 : Int), EI = [capacities0, scripts1, (.int .i64 ticks2), d16, (.bool (!r10)), (.agg [(.int .i64 r5), (.int .i64 r6)]), (.int .i64 i17), r3, (.bool (((r5) == 0) && (decide (i17 < (len27 : Int))))), (.bool ((e28) != (-1))), (.int .i64 k36), d37, (.int .i64 e31), d38, (.int .i64 n39), (.int .i64 since40), d26] ∧ H11 = HI ∧ J33 mI k36 n39 since40) ?_ k34 ⟨_, _, _, _, _, rfl, rfl, h0⟩
        clear h0
        rintro m35 EI HI ⟨k36, d37, d38, n39, since40, rfl, rfl, hJ⟩
        replace h := h m35 k36 n39 since40  hJ
        clear hJ
        refine w_seq ?_
        refine w_seq ?_
        refine w_run [0, 0, 0] ?_
        refine t_done [capacities0, scripts1, (.int .i64 ticks2), d16, (.bool (!r10)), (.agg [(.int .i64 r5), (.int .i64 r6)]), (.int .i64 i17), r3, (.bool (((r5) == 0) && (decide (i17 < (len27 : Int))))), (.bool ((e28) != (-1))), (.int .i64 k36), (.bool (decide (k36 < i17))), (.int .i64 e31), d38, (.int .i64 n39), (.int .i64 since40), d26] H11 (by kernel_rfl) ?_
        refine then_norm ?_
        refine w_cond (t := (decide (k36 < i17))) rfl (fun hc => ?_) (fun hc => ?_)
        · replace h := h.1 (is_dec.t hc)
          refine w_skip ?_
          refine then_norm ?_
          refine w_seq ?_
          refine w_block ?_
          refine w_seq ?_
          refine w_run [0, 0, 1, 1, 1, 0, 0] ?_
          obtain ⟨e41, hg42, h⟩ := h
          refine t_idxG true 4 r3 .i64 k36 H11 (by kernel_rfl) hg42 ?_
          refine t_fldG true 1 4 r3 k36 0 H11 (by kernel_rfl) hg42 ?_
          refine t_loadG true none 4 r3 k36 1 (.int .i64 e41) H11 (by kernel_rfl) hg42 ?_
          refine t_done [capacities0, scripts1, (.int .i64 ticks2), d16, (.bool (!r10)), (.agg [(.int .i64 r5), (.int .i64 r6)]), (.int .i64 i17), r3, (.bool (((r5) == 0) && (decide (i17 < (len27 : Int))))), (.bool ((e28) != (-1))), (.int .i64 k36), (.bool (decide (k36 < i17))), (.int .i64 e31), (.bool ((e41) == e31)), (.int .i64 n39), (.int .i64 since40), d26] H11 (by kernel_rfl) ?_
          refine then_norm ?_
          refine w_cond (t := ((e41) == e31)) rfl (fun hc => ?_) (fun hc => ?_)
          · replace h := h.1 (is_eq.t hc)
            refine w_seq ?_
            refine w_run [0, 0, 0] ?_
            refine t_done [capacities0, scripts1, (.int .i64 ticks2), d16, (.bool (!r10)), (.agg [(.int .i64 r5), (.int .i64 r6)]), (.int .i64 i17), r3, (.bool (((r5) == 0) && (decide (i17 < (len27 : Int))))), (.bool ((e28) != (-1))), (.int .i64 k36), (.bool (decide (k36 < i17))), (.int .i64 e31), (.bool ((e41) == e31)), (.int .i64 (IntKind.wrap .i64 (n39 + 1))), (.int .i64 since40), d26] H11 (by kernel_rfl) ?_
            refine then_norm ?_
            refine w_run [0, 0, 1, 1, 1, 0, 0] ?_
            obtain ⟨e43, hg44, h⟩ := h
            refine t_idxG true 4 r3 .i64 k36 H11 (by kernel_rfl) hg44 ?_
            refine t_fldG true 0 4 r3 k36 0 H11 (by kernel_rfl) hg44 ?_
            refine t_loadG true none 4 r3 k36 0 (.int .i64 e43) H11 (by kernel_rfl) hg44 ?_
            refine t_done [capacities0, scripts1, (.int .i64 ticks2), d16, (.bool (!r10)), (.agg [(.int .i64 r5), (.int .i64 r6)]), (.int .i64 i17), r3, (.bool (((r5) == 0) && (decide (i17 < (len27 : Int))))), (.bool ((e28) != (-1))), (.int .i64 k36), (.bool (decide (k36 < i17))), (.int .i64 e31), (.bool ((e41) == e31)), (.int .i64 (IntKind.wrap .i64 (n39 + 1))), (.int .i64 (IntKind.wrap .i64 (e43 + 1))), d26] H11 (by kernel_rfl) ?_
            refine block_norm ?_
            refine then_norm ?_
            refine w_run [0, 0, 0] ?_
            refine t_done [capacities0, scripts1, (.int .i64 ticks2), d16, (.bool (!r10)), (.agg [(.int .i64 r5), (.int .i64 r6)]), (.int .i64 i17), r3, (.bool (((r5) == 0) && (decide (i17 < (len27 : Int))))), (.bool ((e28) != (-1))), (.int .i64 (IntKind.wrap .i64 (k36 + 1))), (.bool (decide (k36 < i17))), (.int .i64 e31), (.bool ((e41) == e31)), (.int .i64 (IntKind.wrap .i64 (n39 + 1))), (.int .i64 (IntKind.wrap .i64 (e43 + 1))), d26] H11 (by kernel_rfl) ?_
            obtain ⟨m', hm, h⟩ := h
            refine loop_norm ⟨m', hm, _, _, _, _, _, rfl, rfl, h⟩
          · replace h := h.2 (is_eq.f hc)
            refine w_skip ?_
            refine block_norm ?_
            refine then_norm ?_
            refine w_run [0, 0, 0] ?_
            refine t_done [capacities0, scripts1, (.int .i64 ticks2), d16, (.bool (!r10)), (.agg [(.int .i64 r5), (.int .i64 r6)]), (.int .i64 i17), r3, (.bool (((r5) == 0) && (decide (i17 < (len27 : Int))))), (.bool ((e28) != (-1))), (.int .i64 (IntKind.wrap .i64 (k36 + 1))), (.bool (decide (k36 < i17))), (.int .i64 e31), (.bool ((e41) == e31)), (.int .i64 n39), (.int .i64 since40), d26] H11 (by kernel_rfl) ?_
            obtain ⟨m', hm, h⟩ := h
            refine loop_norm ⟨m', hm, _, _, _, _, _, rfl, rfl, h⟩
        · replace h := h.2 (is_dec.f hc)
          refine w_exit ?_
          refine then_exit ?_
          refine loop_exit ?_
          refine block_exit ?_
          refine then_norm ?_
          refine w_seq ?_
          refine w_run [0, 0, 0, 0, 0, 1, 0, 0, 0, 0, 0, 0, 3, 3, 3, 2, 0, 0, 0, 0, 3, 3, 0, 3, 3, 3, 2, 0, 0, 0, 0, 3, 3, 3, 0, 2, 0, 0, 3, 3, 0, 3, 3, 3, 2, 0, 0, 0, 0, 3, 3, 3, 2, 0] ?_
          obtain ⟨len47, hl, h⟩ := h
          refine t_len true scripts1 len47 H11 (by kernel_rfl) hl ?_
          refine t_gd ((decide (e31 < 0)) || (decide (e31 ≥ (len47 : Int)))) false (by kernel_rfl) (fun hc => ?_) (fun hc => ?_)
          · replace h := h.2 ((is_or is_dec is_dec).f hc)
            obtain ⟨e48, hg49, h⟩ := h
            refine t_idxG true 1 scripts1 .i64 e31 H11 (by kernel_rfl) hg49 ?_
            refine t_gd false false (by kernel_rfl) (fun _ => ?_) (fun hn => by cases hn)
            refine t_loadG true none 1 scripts1 e31 0 e48 H11 (by kernel_rfl) hg49 ?_
            refine t_gd false false (by kernel_rfl) (fun _ => ?_) (fun hn => by cases hn)
            obtain ⟨len50, hl, h⟩ := h
            refine t_len true e48 len50 H11 (by kernel_rfl) hl ?_
            refine t_gd false false (by kernel_rfl) (fun _ => ?_) (fun hn => by cases hn)
            refine t_gd (decide (n39 ≥ (len50 : Int))) false (by kernel_rfl) (fun hc => ?_) (fun hc => ?_)
            · replace h := h.2 (is_dec.f hc)
              obtain ⟨e51, hg52, h⟩ := h
              refine t_idxG true 1 scripts1 .i64 e31 H11 (by kernel_rfl) hg52 ?_
              refine t_gd false false (by kernel_rfl) (fun _ => ?_) (fun hn => by cases hn)
              refine t_loadG true none 1 scripts1 e31 0 e51 H11 (by kernel_rfl) hg52 ?_
              refine t_gd false false (by kernel_rfl) (fun _ => ?_) (fun hn => by cases hn)
              obtain ⟨e53, hg54, h⟩ := h
              refine t_idxG true 5 e51 .i64 n39 H11 (by kernel_rfl) hg54 ?_
              refine t_gd false false (by kernel_rfl) (fun _ => ?_) (fun hn => by cases hn)
              refine t_fldG true 0 5 e51 n39 0 H11 (by kernel_rfl) hg54 ?_
              refine t_gd false false (by kernel_rfl) (fun _ => ?_) (fun hn => by cases hn)
              refine t_loadG true none 5 e51 n39 0 (.int .i64 e53) H11 (by kernel_rfl) hg54 ?_
              refine t_gd false false (by kernel_rfl) (fun _ => ?_) (fun hn => by cases hn)
              refine t_gd (decide (e53 < 3)) false (by kernel_rfl) (fun hc => ?_) (fun hc => ?_)
              · replace h := h.2 (is_dec.f hc)
                obtain ⟨e55, hg56, h⟩ := h
                refine t_idxG false 4 r3 .i64 i17 H11 (by kernel_rfl) hg56 ?_
                refine t_gd false false (by kernel_rfl) (fun _ => ?_) (fun hn => by cases hn)
                refine t_fldG false 0 4 r3 i17 0 H11 (by kernel_rfl) hg56 ?_
                refine t_gd false false (by kernel_rfl) (fun _ => ?_) (fun hn => by cases hn)
                refine t_loadG false none 4 r3 i17 0 (.int .i64 e55) H11 (by kernel_rfl) hg56 ?_
                refine t_gd false false (by kernel_rfl) (fun _ => ?_) (fun hn => by cases hn)
                refine t_gd false false (by kernel_rfl) (fun _ => ?_) (fun hn => by cases hn)
                obtain ⟨e57, hg58, h⟩ := h
                refine t_idxG false 1 scripts1 .i64 e31 H11 (by kernel_rfl) hg58 ?_
                refine t_gd false false (by kernel_rfl) (fun _ => ?_) (fun hn => by cases hn)
                refine t_loadG false none 1 scripts1 e31 0 e57 H11 (by kernel_rfl) hg58 ?_
                refine t_gd false false (by kernel_rfl) (fun _ => ?_) (fun hn => by cases hn)
                obtain ⟨e59, hg60, h⟩ := h
                refine t_idxG false 5 e57 .i64 n39 H11 (by kernel_rfl) hg60 ?_
                refine t_gd false false (by kernel_rfl) (fun _ => ?_) (fun hn => by cases hn)
                refine t_fldG false 3 5 e57 n39 0 H11 (by kernel_rfl) hg60 ?_
                refine t_gd false false (by kernel_rfl) (fun _ => ?_) (fun hn => by cases hn)
                refine t_loadG false none 5 e57 n39 3 (.int .i64 e59) H11 (by kernel_rfl) hg60 ?_
                refine t_gd false false (by kernel_rfl) (fun _ => ?_) (fun hn => by cases hn)
                refine t_gd (((IntKind.wrap .i64 (e55 - since40))) != e59) false (by kernel_rfl) (fun hc => ?_) (fun hc => ?_)
                · replace h := h.2 (is_ne.f hc)
                  obtain ⟨e61, hg62, h⟩ := h
                  refine t_idxG true 4 r3 .i64 i17 H11 (by kernel_rfl) hg62 ?_
                  refine t_gd false false (by kernel_rfl) (fun _ => ?_) (fun hn => by cases hn)
                  refine t_fldG true 3 4 r3 i17 0 H11 (by kernel_rfl) hg62 ?_
                  refine t_gd false false (by kernel_rfl) (fun _ => ?_) (fun hn => by cases hn)
                  refine t_loadG true none 4 r3 i17 3 (.int .i64 e61) H11 (by kernel_rfl) hg62 ?_
                  refine t_gd false false (by kernel_rfl) (fun _ => ?_) (fun hn => by cases hn)
                  refine t_done [capacities0, scripts1, (.int .i64 ticks2), d16, (.bool (!r10)), (.agg [(.int .i64 r5), (.int .i64 r6)]), (.int .i64 i17), r3, (.bool (((r5) == 0) && (decide (i17 < (len27 : Int))))), (.bool ((e28) != (-1))), (.int .i64 k36), (.bool (decide (k36 < i17))), (.int .i64 e31), d38, (.int .i64 n39), (.int .i64 since40), (.bool ((e61) != 0))] H11 (by kernel_rfl) ?_
                  refine then_norm ?_
                  refine w_cond (t := ((e61) != 0)) rfl (fun hc => ?_) (fun hc => ?_)
                  · replace h := h.1 (is_ne.t hc)
                    refine w_seq ?_
                    refine w_run [0] ?_
                    refine t_done [capacities0, scripts1, (.int .i64 ticks2), (.bool false), (.bool (!r10)), (.agg [(.int .i64 r5), (.int .i64 r6)]), (.int .i64 i17), r3, (.bool (((r5) == 0) && (decide (i17 < (len27 : Int))))), (.bool ((e28) != (-1))), (.int .i64 k36), (.bool (decide (k36 < i17))), (.int .i64 e31), d38, (.int .i64 n39), (.int .i64 since40), (.bool ((e61) != 0))] H11 (by kernel_rfl) ?_
                    refine then_norm ?_
                    refine w_ret ?_
                    refine block_ret ?_
                    refine then_ret ?_
                    refine loop_ret ?_
                    refine block_ret ?_
                    refine then_ret ?_
                    exact body_ret (vs := [(.bool false)]) _ (by kernel_rfl) rfl h
                  · replace h := h.2 (is_ne.f hc)
                    refine w_skip ?_
                    refine block_norm ?_
                    refine then_norm ?_
                    refine w_run [0, 0, 0] ?_
                    refine t_done [capacities0, scripts1, (.int .i64 ticks2), d16, (.bool (!r10)), (.agg [(.int .i64 r5), (.int .i64 r6)]), (.int .i64 (IntKind.wrap .i64 (i17 + 1))), r3, (.bool (((r5) == 0) && (decide (i17 < (len27 : Int))))), (.bool ((e28) != (-1))), (.int .i64 k36), (.bool (decide (k36 < i17))), (.int .i64 e31), d38, (.int .i64 n39), (.int .i64 since40), (.bool ((e61) != 0))] H11 (by kernel_rfl) ?_
                    obtain ⟨m', hm, h⟩ := h
                    refine loop_norm ⟨m', hm, _, _, _, _, _, _, _, _, _, _, _, rfl, rfl, h⟩
                · replace h := h.1 (is_ne.t hc)
                  refine t_gd true false (by kernel_rfl) (fun hn => by cases hn) (fun _ => ?_)
                  refine t_gd true false (by kernel_rfl) (fun hn => by cases hn) (fun _ => ?_)
                  refine t_gd true false (by kernel_rfl) (fun hn => by cases hn) (fun _ => ?_)
                  refine t_done [capacities0, scripts1, (.int .i64 ticks2), d16, (.bool (!r10)), (.agg [(.int .i64 r5), (.int .i64 r6)]), (.int .i64 i17), r3, (.bool (((r5) == 0) && (decide (i17 < (len27 : Int))))), (.bool ((e28) != (-1))), (.int .i64 k36), (.bool (decide (k36 < i17))), (.int .i64 e31), d38, (.int .i64 n39), (.int .i64 since40), (.bool true)] H11 (by kernel_rfl) ?_
                  refine then_norm ?_
                  refine w_cond (t := true) rfl (fun _ => ?_) (fun hc => by cases hc)
                  refine w_seq ?_
                  refine w_run [0] ?_
                  refine t_done [capacities0, scripts1, (.int .i64 ticks2), (.bool false), (.bool (!r10)), (.agg [(.int .i64 r5), (.int .i64 r6)]), (.int .i64 i17), r3, (.bool (((r5) == 0) && (decide (i17 < (len27 : Int))))), (.bool ((e28) != (-1))), (.int .i64 k36), (.bool (decide (k36 < i17))), (.int .i64 e31), d38, (.int .i64 n39), (.int .i64 since40), (.bool true)] H11 (by kernel_rfl) ?_
                  refine then_norm ?_
                  refine w_ret ?_
                  refine block_ret ?_
                  refine then_ret ?_
                  refine loop_ret ?_
                  refine block_ret ?_
                  refine then_ret ?_
                  exact body_ret (vs := [(.bool false)]) _ (by kernel_rfl) rfl h
              · replace h := h.1 (is_dec.t hc)
                refine t_gd true false (by kernel_rfl) (fun hn => by cases hn) (fun _ => ?_)
                refine t_gd true false (by kernel_rfl) (fun hn => by cases hn) (fun _ => ?_)
                refine t_gd true false (by kernel_rfl) (fun hn => by cases hn) (fun _ => ?_)
                refine t_gd true false (by kernel_rfl) (fun hn => by cases hn) (fun _ => ?_)
                refine t_gd true false (by kernel_rfl) (fun hn => by cases hn) (fun _ => ?_)
                refine t_gd true false (by kernel_rfl) (fun hn => by cases hn) (fun _ => ?_)
                refine t_gd true false (by kernel_rfl) (fun hn => by cases hn) (fun _ => ?_)
                refine t_gd true false (by kernel_rfl) (fun hn => by cases hn) (fun _ => ?_)
                refine t_gd true false (by kernel_rfl) (fun hn => by cases hn) (fun _ => ?_)
                refine t_gd true false (by kernel_rfl) (fun hn => by cases hn) (fun _ => ?_)
                refine t_gd true false (by kernel_rfl) (fun hn => by cases hn) (fun _ => ?_)
                refine t_gd true false (by kernel_rfl) (fun hn => by cases hn) (fun _ => ?_)
                refine t_gd true false (by kernel_rfl) (fun hn => by cases hn) (fun _ => ?_)
                refine t_done [capacities0, scripts1, (.int .i64 ticks2), d16, (.bool (!r10)), (.agg [(.int .i64 r5), (.int .i64 r6)]), (.int .i64 i17), r3, (.bool (((r5) == 0) && (decide (i17 < (len27 : Int))))), (.bool ((e28) != (-1))), (.int .i64 k36), (.bool (decide (k36 < i17))), (.int .i64 e31), d38, (.int .i64 n39), (.int .i64 since40), (.bool true)] H11 (by kernel_rfl) ?_
                refine then_norm ?_
                refine w_cond (t := true) rfl (fun _ => ?_) (fun hc => by cases hc)
                refine w_seq ?_
                refine w_run [0] ?_
                refine t_done [capacities0, scripts1, (.int .i64 ticks2), (.bool false), (.bool (!r10)), (.agg [(.int .i64 r5), (.int .i64 r6)]), (.int .i64 i17), r3, (.bool (((r5) == 0) && (decide (i17 < (len27 : Int))))), (.bool ((e28) != (-1))), (.int .i64 k36), (.bool (decide (k36 < i17))), (.int .i64 e31), d38, (.int .i64 n39), (.int .i64 since40), (.bool true)] H11 (by kernel_rfl) ?_
                refine then_norm ?_
                refine w_ret ?_
                refine block_ret ?_
                refine then_ret ?_
                refine loop_ret ?_
                refine block_ret ?_
                refine then_ret ?_
                exact body_ret (vs := [(.bool false)]) _ (by kernel_rfl) rfl h
            · replace h := h.1 (is_dec.t hc)
              refine t_gd true false (by kernel_rfl) (fun hn => by cases hn) (fun _ => ?_)
              refine t_gd true false (by kernel_rfl) (fun hn => by cases hn) (fun _ => ?_)
              refine t_gd true false (by kernel_rfl) (fun hn => by cases hn) (fun _ => ?_)
              refine t_gd true false (by kernel_rfl) (fun hn => by cases hn) (fun _ => ?_)
              refine t_gd true false (by kernel_rfl) (fun hn => by cases hn) (fun _ => ?_)
              refine t_gd true false (by kernel_rfl) (fun hn => by cases hn) (fun _ => ?_)
              refine t_gd true false (by kernel_rfl) (fun hn => by cases hn) (fun _ => ?_)
              refine t_gd true false (by kernel_rfl) (fun hn => by cases hn) (fun _ => ?_)
              refine t_gd true false (by kernel_rfl) (fun hn => by cases hn) (fun _ => ?_)
              refine t_gd true false (by kernel_rfl) (fun hn => by cases hn) (fun _ => ?_)
              refine t_gd true false (by kernel_rfl) (fun hn => by cases hn) (fun _ => ?_)
              refine t_gd true false (by kernel_rfl) (fun hn => by cases hn) (fun _ => ?_)
              refine t_gd true false (by kernel_rfl) (fun hn => by cases hn) (fun _ => ?_)
              refine t_gd true false (by kernel_rfl) (fun hn => by cases hn) (fun _ => ?_)
              refine t_gd true false (by kernel_rfl) (fun hn => by cases hn) (fun _ => ?_)
              refine t_gd true false (by kernel_rfl) (fun hn => by cases hn) (fun _ => ?_)
              refine t_gd true false (by kernel_rfl) (fun hn => by cases hn) (fun _ => ?_)
              refine t_gd true false (by kernel_rfl) (fun hn => by cases hn) (fun _ => ?_)
              refine t_gd true false (by kernel_rfl) (fun hn => by cases hn) (fun _ => ?_)
              refine t_done [capacities0, scripts1, (.int .i64 ticks2), d16, (.bool (!r10)), (.agg [(.int .i64 r5), (.int .i64 r6)]), (.int .i64 i17), r3, (.bool (((r5) == 0) && (decide (i17 < (len27 : Int))))), (.bool ((e28) != (-1))), (.int .i64 k36), (.bool (decide (k36 < i17))), (.int .i64 e31), d38, (.int .i64 n39), (.int .i64 since40), (.bool true)] H11 (by kernel_rfl) ?_
              refine then_norm ?_
              refine w_cond (t := true) rfl (fun _ => ?_) (fun hc => by cases hc)
              refine w_seq ?_
              refine w_run [0] ?_
              refine t_done [capacities0, scripts1, (.int .i64 ticks2), (.bool false), (.bool (!r10)), (.agg [(.int .i64 r5), (.int .i64 r6)]), (.int .i64 i17), r3, (.bool (((r5) == 0) && (decide (i17 < (len27 : Int))))), (.bool ((e28) != (-1))), (.int .i64 k36), (.bool (decide (k36 < i17))), (.int .i64 e31), d38, (.int .i64 n39), (.int .i64 since40), (.bool true)] H11 (by kernel_rfl) ?_
              refine then_norm ?_
              refine w_ret ?_
              refine block_ret ?_
              refine then_ret ?_
              refine loop_ret ?_
              refine block_ret ?_
              refine then_ret ?_
              exact body_ret (vs := [(.bool false)]) _ (by kernel_rfl) rfl h
          · replace h := h.1 ((is_or is_dec is_dec).t hc)
            refine t_gd true false (by kernel_rfl) (fun hn => by cases hn) (fun _ => ?_)
            refine t_gd true false (by kernel_rfl) (fun hn => by cases hn) (fun _ => ?_)
            refine t_gd true false (by kernel_rfl) (fun hn => by cases hn) (fun _ => ?_)
            refine t_gd true false (by kernel_rfl) (fun hn => by cases hn) (fun _ => ?_)
            refine t_gd true false (by kernel_rfl) (fun hn => by cases hn) (fun _ => ?_)
            refine t_gd true false (by kernel_rfl) (fun hn => by cases hn) (fun _ => ?_)
            refine t_gd true false (by kernel_rfl) (fun hn => by cases hn) (fun _ => ?_)
            refine t_gd true false (by kernel_rfl) (fun hn => by cases hn) (fun _ => ?_)
            refine t_gd true false (by kernel_rfl) (fun hn => by cases hn) (fun _ => ?_)
            refine t_gd true false (by kernel_rfl) (fun hn => by cases hn) (fun _ => ?_)
            refine t_gd true false (by kernel_rfl) (fun hn => by cases hn) (fun _ => ?_)
            refine t_gd true false (by kernel_rfl) (fun hn => by cases hn) (fun _ => ?_)
            refine t_gd true false (by kernel_rfl) (fun hn => by cases hn) (fun _ => ?_)
            refine t_gd true false (by kernel_rfl) (fun hn => by cases hn) (fun _ => ?_)
            refine t_gd true false (by kernel_rfl) (fun hn => by cases hn) (fun _ => ?_)
            refine t_gd true false (by kernel_rfl) (fun hn => by cases hn) (fun _ => ?_)
            refine t_gd true false (by kernel_rfl) (fun hn => by cases hn) (fun _ => ?_)
            refine t_gd true false (by kernel_rfl) (fun hn => by cases hn) (fun _ => ?_)
            refine t_gd true false (by kernel_rfl) (fun hn => by cases hn) (fun _ => ?_)
            refine t_gd true false (by kernel_rfl) (fun hn => by cases hn) (fun _ => ?_)
            refine t_gd true false (by kernel_rfl) (fun hn => by cases hn) (fun _ => ?_)
            refine t_gd true false (by kernel_rfl) (fun hn => by cases hn) (fun _ => ?_)
            refine t_gd true false (by kernel_rfl) (fun hn => by cases hn) (fun _ => ?_)
            refine t_done [capacities0, scripts1, (.int .i64 ticks2), d16, (.bool (!r10)), (.agg [(.int .i64 r5), (.int .i64 r6)]), (.int .i64 i17), r3, (.bool (((r5) == 0) && (decide (i17 < (len27 : Int))))), (.bool ((e28) != (-1))), (.int .i64 k36), (.bool (decide (k36 < i17))), (.int .i64 e31), d38, (.int .i64 n39), (.int .i64 since40), (.bool true)] H11 (by kernel_rfl) ?_
            refine then_norm ?_
            refine w_cond (t := true) rfl (fun _ => ?_) (fun hc => by cases hc)
            refine w_seq ?_
            refine w_run [0] ?_
            refine t_done [capacities0, scripts1, (.int .i64 ticks2), (.bool false), (.bool (!r10)), (.agg [(.int .i64 r5), (.int .i64 r6)]), (.int .i64 i17), r3, (.bool (((r5) == 0) && (decide (i17 < (len27 : Int))))), (.bool ((e28) != (-1))), (.int .i64 k36), (.bool (decide (k36 < i17))), (.int .i64 e31), d38, (.int .i64 n39), (.int .i64 since40), (.bool true)] H11 (by kernel_rfl) ?_
            refine then_norm ?_
            refine w_ret ?_
            refine block_ret ?_
            refine then_ret ?_
            refine loop_ret ?_
            refine block_ret ?_
            refine then_ret ?_
            exact body_ret (vs := [(.bool false)]) _ (by kernel_rfl) rfl h
    · replace h := h.2 ((is_and is_eq is_dec).f hc)
      refine w_exit ?_
      refine then_exit ?_
      refine loop_exit ?_
      refine block_exit ?_
      refine then_norm ?_
      refine w_seq ?_
      refine w_run [0] ?_
      refine t_done [capacities0, scripts1, (.int .i64 ticks2), (.bool true), (.bool (!r10)), (.agg [(.int .i64 r5), (.int .i64 r6)]), (.int .i64 i17), r3, (.bool (((r5) == 0) && (decide (i17 < (len27 : Int))))), d19, d20, d21, d22, d23, d24, d25, d26] H11 (by kernel_rfl) ?_
      refine then_norm ?_
      refine w_ret ?_
      exact body_ret (vs := [(.bool true)]) _ (by kernel_rfl) rfl h

end Go.RM

/-
  The document's run and what is left; results compared; Run and Stuck in one form; the law's example; whose result is a sent value.
-/
namespace Go.RM
set_option linter.unusedSimpArgs false
set_option linter.unusedVariables false
namespace De
variable {F : Nat → Option RFunc}

end De
end Go.RM

/-
  deadline's laws: results compared, Run and Stuck in one form, the example, and whose result is a sent value.
-/
namespace Go.RM
set_option linter.unusedSimpArgs false
set_option linter.unusedVariables false
namespace De
variable {F : Nat → Option RFunc}

theorem res_get {H : Heap} {v : AV} {l : List Res} (h : Arr tRes H v l) {i : Nat} (hi : i < l.length) : getA H 4 (some 4) v (i : Int) 0 = some (.agg (resC l[i])) := Arr.enc (enc := resC) (pos := by decide) (len := fun _ => rfl) (scal := fun _ => rfl) h hi
theorem res_cell {H : Heap} {v : AV} {l : List Res} (h : Arr tRes H v l) {i : Nat} (hi : i < l.length) (o : Nat) {x : AV} (hx : (resC l[i])[o]? = some x) : getA H 4 none v (i : Int) o = some x := Arr.cell (enc := resC) (pos := by decide) (len := fun _ => rfl) (scal := fun _ => rfl) h hi o hx

abbrev EqResC (F : Nat → Option RFunc) (f : Nat) : Prop := ∀ {fl H Q a b} {l m : List Res}, Arr tRes H a l → Arr tRes H b m → Q (.bool (decide (l = m))) H → Ret F fl f [a, b] H Q
theorem eqRes_c {f : Nat} (hF : F f = some rf_FEqualResults) : EqResC F f := fun {fl H Q a b l m} ha hb hq => by
  refine v_FEqualResults hF _ _ ?_
  have hs := ha.small
  refine ⟨_, ha.len, _, hb.len, fun hne => ?_, fun he => ?_⟩
  · rw [decide_eq_false (fun h => hne (by rw [h]))] at hq; exact hq
  · have he : l.length = m.length := by omega
    refine ⟨fun k v => ∃ i : Nat, v = i ∧ i + k = l.length ∧ (l.take i = m.take i), l.length, ⟨0, rfl, by omega, by simp⟩, ?_⟩
    rintro k _ ⟨i, rfl, hk, hi⟩
    refine ⟨_, ha.len, fun hlt => ?_, fun hge => ?_⟩
    · have hil : i < l.length := by omega
      refine ⟨_, _, _, _, res_get ha hil, _, _, _, _, res_get hb (show i < m.length by omega), fun hne => ?_, fun heq => ?_⟩
      · rw [decide_eq_false (fun h => hne (by subst h; exact ⟨rfl, rfl, rfl, rfl, trivial⟩))] at hq; exact hq
      · refine ⟨k - 1, by omega, i + 1, wsucc hil hs, by omega, ?_⟩
        obtain ⟨a1, a2, a3, a4, _⟩ := Classical.not_not.1 heq
        have heq : l[i] = m[i]'(by omega) := by
          cases h1 : l[i]; cases h2 : m[i]'(by omega)
          rw [h1, h2] at a1 a2 a3 a4
          simp only at a1 a2 a3 a4
          rw [a1, a2, a3, a4]
        rw [List.take_succ_eq_append_getElem hil, List.take_succ_eq_append_getElem (by omega), hi, heq]
    · rw [List.take_of_length_le (by omega), List.take_of_length_le (by omega)] at hi
      rw [decide_eq_true hi] at hq; exact hq

def runRes (caps : List Int) (scr : List (List Op)) (n : Int) : List Res := if runE caps scr n = (0, 0) then (runP caps n.toNat (startP caps scr)).res else []
def runLeft (caps : List Int) (scr : List (List Op)) (n : Int) : List Int := if runE caps scr n = (0, 0) then (runP caps n.toNat (startP caps scr)).ops.map fun l => (l.length : Int) else []
def stuckRes (caps : List Int) (scr : List (List Op)) : List Int := if valE caps scr = (0, 0) then stuckL 0 (runP caps 2600 (startP caps scr)).ops else []

abbrev RunU (F : Nat → Option RFunc) (f : Nat) : Prop := ∀ {fl H Q cv sv} {caps : List Int} {scr : List (List Op)} {n : Int}, Ints H cv caps → Arr (tArr tOp) H sv scr → fl ≤ H.length →
  (∀ rv lv H', Keep H.length H H' → Arr tRes H' rv (runRes caps scr n) → Ints H' lv (runLeft caps scr n) → Q (.tuple [rv, lv, flt (runE caps scr n).1 (runE caps scr n).2]) H') → Ret F fl f [cv, sv, i64 n] H Q
theorem run_u {f : Nat} (h : RunC F f) : RunU F f := fun {fl H Q cv sv caps scr n} hc hs hfl hq => by
  unfold runRes runLeft at hq
  refine h hc hs hfl (fun he H' k => ?_) (fun he rv lv H' k h1 h2 => ?_)
  · rw [if_neg he, if_neg he] at hq
    exact hq _ _ H' k Arr.nil Arr.nil
  · rw [if_pos he, if_pos he, he] at hq
    exact hq _ _ H' k h1 h2
abbrev StuckU (F : Nat → Option RFunc) (f : Nat) : Prop := ∀ {fl H Q cv sv} {caps : List Int} {scr : List (List Op)}, Ints H cv caps → Arr (tArr tOp) H sv scr → fl ≤ H.length →
  (∀ w H', Keep H.length H H' → Ints H' w (stuckRes caps scr) → Q (.tuple [w, flt (valE caps scr).1 (valE caps scr).2]) H') → Ret F fl f [cv, sv] H Q
theorem stuck_u {f : Nat} (h : StuckC F f) : StuckU F f := fun {fl H Q cv sv caps scr} hc hs hfl hq => by
  unfold stuckRes at hq
  refine h hc hs hfl (fun he H' k => ?_) (fun he w H' k h1 => ?_)
  · rw [if_neg he] at hq
    exact hq _ H' k Arr.nil
  · rw [if_pos he, he] at hq
    exact hq _ H' k h1

/-- The example's scripts. -/
def exS : List (List Op) := [[⟨1, 0, 5, 0, []⟩], [⟨2, 0, 0, 0, []⟩, ⟨2, 0, 0, 0, []⟩]]
theorem ex_run : runE [1] exS 3 = (0, 0) ∧ runRes [1] exS 3 = [⟨0, 0, 0, 5⟩, ⟨0, 1, 0, 5⟩] ∧ runLeft [1] exS 3 = [0, 1] := by decide
theorem ex_val : valE [1] exS = (0, 0) := by decide
theorem ex_quiet : (stepP [1] (runP [1] 2 (startP [1] exS))).2 = false ∧ stuckL 0 (runP [1] 2 (startP [1] exS)).ops = [1] := by decide
theorem ex_stuck : stuckRes [1] exS = [1] := by
  unfold stuckRes
  rw [if_pos ex_val]
  have ok := run_ok 2 (start_ok ex_val).1
  have h := run_quiet ok ex_quiet.1 2598 (runP [1] 2 (startP [1] exS)).tick
  rw [show (2600 : Nat) = 2 + 2598 from rfl, run_add]
  have e : (runP [1] 2598 (runP [1] 2 (startP [1] exS))).ops = (runP [1] 2 (startP [1] exS)).ops := by
    have : ({ runP [1] 2 (startP [1] exS) with tick := (runP [1] 2 (startP [1] exS)).tick } : Sys) = runP [1] 2 (startP [1] exS) := rfl
    rw [this] at h
    rw [h]
  rw [e]
  exact ex_quiet.2

abbrev ExC (F : Nat → Option RFunc) (f : Nat) : Prop := ∀ {fl H Q}, fl ≤ H.length → (∀ H', Keep H.length H H' → Q (.bool true) H') → Ret F fl f [] H Q
theorem ex_c {f n1 n2 n3 n4 : Nat} (hF : F f = some (rf_LdeadlineExample n1 n2 n3 n4)) (h1 : RunU F n1) (h2 : StuckU F n2) (h3 : EqResC F n3) (h4 : FEqualIntsC F n4) : ExC F f := fun {fl H Q} hfl hq => by
  refine v_LdeadlineExample hF ?_
  intro b0 H1 m1 b2 H3 m3 b4 H5 m5 b6 H7 m7
  have k1 := m1.keep
  have k3 := k1.call m3.keep
  have k5 := k3.call m5.keep
  have k7 := k5.call m7.keep
  have a0 : Arr tOp H1 (.slice b0 0 1 (some 1)) [⟨1, 0, 5, 0, []⟩] := NewB.arr (T := tOp) m1 [opC .empty ⟨1, 0, 5, 0, []⟩] rfl ⟨⟨_, rfl, Arr.nil⟩, trivial⟩ rfl
  have a2 : Arr tOp H3 (.slice b2 0 2 (some 2)) [⟨2, 0, 0, 0, []⟩, ⟨2, 0, 0, 0, []⟩] := NewB.arr (T := tOp) m3 [opC .empty ⟨2, 0, 0, 0, []⟩, opC .empty ⟨2, 0, 0, 0, []⟩] rfl ⟨⟨_, rfl, Arr.nil⟩, ⟨_, rfl, Arr.nil⟩, trivial⟩ rfl
  have a4 : Arr (tArr tOp) H5 (.slice b4 0 2 (some 2)) exS := m5.lists ⟨a0.keep m3.keep, a2, trivial⟩ rfl
  have c7 : Ints H7 (.slice b6 0 1 (some 1)) [1] := m7.ints [1] rfl rfl
  obtain ⟨x1, x2, x3⟩ := ex_run
  refine h1 (n := 3) c7 (a4.keep m7.keep) (k7.fl hfl) fun rv lv H12 k12' r1 r2 => ⟨_, _, _, _, rfl, ?_⟩
  have k12 := k7.call k12'
  intro H14 d14 b15 H16 m16
  have k14 := k12.call d14.keep
  have k16 := k14.call m16.keep
  have c16 : Ints H16 (.slice b15 0 1 (some 1)) [1] := m16.ints [1] rfl rfl
  have a16 := (((a4.keep m7.keep).keep k12').keep d14.keep).keep m16.keep
  refine h2 c16 a16 (k16.fl hfl) fun w H20 k20' r3 => ⟨_, _, _, rfl, ?_⟩
  have k20 := k16.call k20'
  intro H22 d22
  have k22 := k20.call d22.keep
  rw [x1, ex_val]
  rw [x2] at r1
  rw [x3] at r2
  rw [ex_stuck] at r3
  have kk : Keep H12.length H12 H22 := ((d14.keep.call m16.keep).call k20').call d22.keep
  have q1 := r1.keep kk
  have q2 := r2.keep kk
  have q3 := r3.keep d22.keep
  refine ⟨fun _ => ?_, fun hn => absurd ⟨rfl, rfl⟩ hn⟩
  intro b23 H24 m24
  have k24 := k22.call m24.keep
  have e24 : Arr tRes H24 (.slice b23 0 2 (some 2)) [⟨0, 0, 0, 5⟩, ⟨0, 1, 0, 5⟩] := NewB.arr (T := tRes) m24 [resC ⟨0, 0, 0, 5⟩, resC ⟨0, 1, 0, 5⟩] rfl (all2_res [⟨0, 0, 0, 5⟩, ⟨0, 1, 0, 5⟩]) rfl
  refine h3 (q1.keep m24.keep) e24 ⟨_, rfl, fun _ => ?_, fun hn => absurd (decide_eq_true rfl) hn⟩
  intro b28 H29 m29
  have k29 := k24.call m29.keep
  refine h4 ((q2.keep m24.keep).keep m29.keep) (m29.ints [0, 1] rfl rfl) ⟨_, rfl, fun _ => ?_, fun hn => absurd (decide_eq_true rfl) hn⟩
  intro b33 H34 m34
  refine h4 (((q3.keep m24.keep).keep m29.keep).keep m34.keep) (m34.ints [1] rfl rfl) ⟨_, rfl, ?_⟩
  rw [decide_eq_true rfl]
  exact hq H34 (k29.call m34.keep)

/-- The n-th operation of a process, if it has one. -/
def opAt (scr : List (List Op)) (p : Int) (n : Nat) : Option Op := if 0 ≤ p ∧ p < scr.length then (scr.getD p.toNat [])[n]? else none
theorem op_fld {H : Heap} {v : AV} {l : List Op} (h : Arr tOp H v l) {i : Nat} (hi : i < l.length) : getA H 5 none v (i : Int) 0 = some (i64 l[i].k) ∧ getA H 5 none v (i : Int) 3 = some (i64 l[i].w) := by
  obtain ⟨c, ⟨w, rfl, h1⟩, _, h3⟩ := h.get hi
  exact ⟨h3 0 _ rfl, h3 3 _ rfl⟩

end De
end Go.RM

