import Derived.Test.YtpjbnjgckbhohaaRmWp
/-
  Functions of the program as the abstract machine runs them, and what must be shown of a run: printed by RmPrint.
-/
namespace Go.RM
set_option linter.unusedVariables false
set_option maxRecDepth 4000
def rf_speculate_Chance (nspeculate_percents nspeculate_runCode nspeculate_chance : Nat) : RFunc := ⟨2, 9, [.var 2, .part 3 (some 2)],
 ((.seq (.ops [⟨.tomb 1 (.var 1), none, (some 6), true⟩, ⟨.move (.k (.int .i64 0)), none, (some 2), true⟩, ⟨.tomb 1 (.k (.agg [.int .i64 0, .int .i64 0])), none, (some 3), true⟩])
 ((.seq ((.seq (.ops [⟨.move (.var 0), none, none, true⟩, ⟨.callS nspeculate_percents [(.loc 0)], none, none, true⟩, ⟨.tomb 1 (.k (.agg [.int .i64 0, .int .i64 0])), none, (some 4), true⟩, ⟨.upd 2 0 (.loc 2) (.loc 1), none, (some 4), true⟩])
 ((.seq (.ops [⟨.field 0 (some 2) (.var 4), none, none, true⟩, ⟨.build [.int .i64 0, .int .i64 0] [], none, none, true⟩, ⟨.bin .neq (.agg [.int, .int]) (.loc 0) (.loc 1), none, (some 5), true⟩])
 (.cond (.var 5) ((.seq (.ops [⟨.field 0 (some 2) (.var 4), none, none, true⟩, ⟨.move (.k (.int .i64 0)), none, (some 2), false⟩, ⟨.upd 2 0 (.var 3) (.loc 0), none, (some 3), true⟩])
 (.ret))) (.skip))))))
 ((.seq ((.seq (.ops [⟨.move (.var 0), none, none, true⟩, ⟨.len (.loc 0), none, none, true⟩, ⟨.field 0 (some 2) (.var 6), none, none, true⟩, ⟨.callS nspeculate_runCode [(.loc 1), (.loc 2)], none, none, true⟩, ⟨.move (.loc 3), none, (some 7), true⟩])
 ((.seq (.ops [⟨.move (.var 7), none, none, true⟩, ⟨.bin .neq .no (.loc 0) (.k (.int .i64 0)), none, (some 8), true⟩])
 (.cond (.var 8) ((.seq (.ops [⟨.move (.var 7), none, none, true⟩, ⟨.build [.int .i64 0, .int .i64 0] [(0, 1, (.loc 0)), (1, 1, (.k (.int .i64 (-2))))], none, none, true⟩, ⟨.move (.k (.int .i64 0)), none, (some 2), true⟩, ⟨.upd 2 0 (.var 3) (.loc 1), none, (some 3), true⟩])
 (.ret))) (.skip))))))
 ((.seq (.ops [⟨.move (.var 0), none, none, true⟩, ⟨.field 0 (some 2) (.var 6), none, none, true⟩, ⟨.callS nspeculate_chance [(.loc 0), (.loc 1)], none, none, true⟩, ⟨.build [.int .i64 0, .int .i64 0] [], none, none, true⟩, ⟨.move (.loc 2), none, (some 2), true⟩, ⟨.upd 2 0 (.var 3) (.loc 3), none, (some 3), true⟩])
 (.ret))))))))), none⟩
theorem v_speculate_Chance {F : Nat → Option RFunc} {me nspeculate_percents nspeculate_runCode nspeculate_chance : Nat} (hF : F me = some (rf_speculate_Chance nspeculate_percents nspeculate_runCode nspeculate_chance)) {fl : Nat} {H : Heap} {Q : AV → Heap → Prop} (list0 : AV) (r1 : Int) (r2 : AV)
  (h : ∀ (H3 : Heap), Dead1 H 1 H3 → ∀ (H4 : Heap), Dead1 H3 1 H4 → Ret F fl nspeculate_percents [list0] H4 (fun v8 H7 => ∃ (r5 : Int) (r6 : Int), v8 = (.agg [(.int .i64 r5), (.int .i64 r6)]) ∧ ∀ (H9 : Heap), Dead1 H7 1 H9 → ((¬(((r5 = 0) ∧ (((r6 = 0) ∧ (True)))))) → Q (.tuple [(.int .i64 0), (.agg [(.int .i64 r5), (.int .i64 r6)])]) H9) ∧ (¬(¬(((r5 = 0) ∧ (((r6 = 0) ∧ (True)))))) → ∃ len10 : Nat, lenA list0 = some len10 ∧ Ret F fl nspeculate_runCode [(.int .i64 (len10 : Int)), (.agg [(.int .i64 r1), r2])] H9 (fun v13 H12 => ∃ (r11 : Int), v13 = (.int .i64 r11) ∧ ((r11 ≠ 0) → Q (.tuple [(.int .i64 0), (.agg [(.int .i64 r11), (.int .i64 (-2))])]) H12) ∧ (¬(r11 ≠ 0) → Ret F fl nspeculate_chance [list0, (.agg [(.int .i64 r1), r2])] H12 (fun v16 H15 => ∃ (r14 : Int), v16 = (.int .i64 r14) ∧ Q (.tuple [(.int .i64 r14), (.agg [(.int .i64 0), (.int .i64 0)])]) H15)))))) : Ret F fl me [list0, (.agg [(.int .i64 r1), r2])] H Q := by
  refine ret_intro hF rfl ?_
  refine w_seq ?_
  refine w_run [1, 0, 1] ?_
  obtain ⟨H3, hb⟩ : ∃ H', Dead1 H 1 H' := ⟨_, ⟨rfl⟩⟩
  replace h := h H3 hb
  refine t_tomb true 1 (.agg [(.int .i64 r1), r2]) [(.int .i64 r1), r2] H3 H (by kernel_rfl) rfl hb ?_
  obtain ⟨H4, hb⟩ : ∃ H', Dead1 H3 1 H' := ⟨_, ⟨rfl⟩⟩
  replace h := h H4 hb
  refine t_tomb true 1 (.agg [(.int .i64 0), (.int .i64 0)]) [(.int .i64 0), (.int .i64 0)] H4 H3 (by kernel_rfl) rfl hb ?_
  refine t_done [list0, (.agg [(.int .i64 r1), r2]), (.int .i64 0), (.agg [(.int .i64 0), (.int .i64 0)]), .undef, .undef, (.agg [(.int .i64 r1), r2]), .undef, .undef] H4 (by kernel_rfl) ?_
  refine then_norm ?_
  refine w_seq ?_
  refine w_seq ?_
  refine w_run [0, 1, 1, 1] ?_
  refine t_call true nspeculate_percents [list0] H4 (by kernel_rfl) h ?_
  clear h
  rintro _ H7 ⟨r5, r6, rfl, h⟩
  obtain ⟨H9, hb⟩ : ∃ H', Dead1 H7 1 H' := ⟨_, ⟨rfl⟩⟩
  replace h := h H9 hb
  refine t_tomb true 1 (.agg [(.int .i64 0), (.int .i64 0)]) [(.int .i64 0), (.int .i64 0)] H9 H7 (by kernel_rfl) rfl hb ?_
  refine t_upd true 2 0 [(.int .i64 0), (.int .i64 0)] (.agg [(.int .i64 r5), (.int .i64 r6)]) [(.int .i64 r5), (.int .i64 r6)] [(.int .i64 r5), (.int .i64 r6)] H9 (by kernel_rfl) rfl (all_c rfl (all_c rfl all_n)) ⟨rfl, Nat.le_of_ble_eq_true (by kernel_rfl), rfl⟩ ?_
  refine t_done [list0, (.agg [(.int .i64 r1), r2]), (.int .i64 0), (.agg [(.int .i64 0), (.int .i64 0)]), (.agg [(.int .i64 r5), (.int .i64 r6)]), .undef, (.agg [(.int .i64 r1), r2]), .undef, .undef] H9 (by kernel_rfl) ?_
  refine then_norm ?_
  refine w_seq ?_
  refine w_run [0, 1, 0] ?_
  refine t_build true [(.int .i64 0), (.int .i64 0)] [] [] [(.int .i64 0), (.int .i64 0)] H9 (by kernel_rfl) (by kernel_rfl) ?_
  refine t_done [list0, (.agg [(.int .i64 r1), r2]), (.int .i64 0), (.agg [(.int .i64 0), (.int .i64 0)]), (.agg [(.int .i64 r5), (.int .i64 r6)]), (.bool (!(((r5) == 0) && (((r6) == 0) && true)))), (.agg [(.int .i64 r1), r2]), .undef, .undef] H9 (by kernel_rfl) ?_
  refine then_norm ?_
  refine w_cond (t := (!(((r5) == 0) && (((r6) == 0) && true)))) rfl (fun hc => ?_) (fun hc => ?_)
  · replace h := h.1 ((is_not (is_and is_eq (is_and is_eq is_true))).t hc)
    refine w_seq ?_
    refine w_run [0, 0, 1] ?_
    refine t_upd true 2 0 [(.int .i64 0), (.int .i64 0)] (.agg [(.int .i64 r5), (.int .i64 r6)]) [(.int .i64 r5), (.int .i64 r6)] [(.int .i64 r5), (.int .i64 r6)] H9 (by kernel_rfl) rfl (all_c rfl (all_c rfl all_n)) ⟨rfl, Nat.le_of_ble_eq_true (by kernel_rfl), rfl⟩ ?_
    refine t_done [list0, (.agg [(.int .i64 r1), r2]), (.int .i64 0), (.agg [(.int .i64 r5), (.int .i64 r6)]), (.agg [(.int .i64 r5), (.int .i64 r6)]), (.bool (!(((r5) == 0) && (((r6) == 0) && true)))), (.agg [(.int .i64 r1), r2]), .undef, .undef] H9 (by kernel_rfl) ?_
    refine then_norm ?_
    refine w_ret ?_
    refine then_ret ?_
    exact body_ret (vs := [(.int .i64 0), (.agg [(.int .i64 r5), (.int .i64 r6)])]) _ (by kernel_rfl) rfl h
  · replace h := h.2 ((is_not (is_and is_eq (is_and is_eq is_true))).f hc)
    refine w_skip ?_
    refine then_norm ?_
    refine w_seq ?_
    refine w_seq ?_
    refine w_run [0, 1, 0, 1, 0] ?_
    obtain ⟨len10, hl, h⟩ := h
    refine t_len true list0 len10 H9 (by kernel_rfl) hl ?_
    refine t_call true nspeculate_runCode [(.int .i64 (len10 : Int)), (.agg [(.int .i64 r1), r2])] H9 (by kernel_rfl) h ?_
    clear h
    rintro _ H12 ⟨r11, rfl, h⟩
    refine t_done [list0, (.agg [(.int .i64 r1), r2]), (.int .i64 0), (.agg [(.int .i64 0), (.int .i64 0)]), (.agg [(.int .i64 r5), (.int .i64 r6)]), (.bool (!(((r5) == 0) && (((r6) == 0) && true)))), (.agg [(.int .i64 r1), r2]), (.int .i64 r11), .undef] H12 (by kernel_rfl) ?_
    refine then_norm ?_
    refine w_seq ?_
    refine w_run [0, 0] ?_
    refine t_done [list0, (.agg [(.int .i64 r1), r2]), (.int .i64 0), (.agg [(.int .i64 0), (.int .i64 0)]), (.agg [(.int .i64 r5), (.int .i64 r6)]), (.bool (!(((r5) == 0) && (((r6) == 0) && true)))), (.agg [(.int .i64 r1), r2]), (.int .i64 r11), (.bool ((r11) != 0))] H12 (by kernel_rfl) ?_
    refine then_norm ?_
    refine w_cond (t := ((r11) != 0)) rfl (fun hc => ?_) (fun hc => ?_)
    · replace h := h.1 (is_ne.t hc)
      refine w_seq ?_
      refine w_run [0, 1, 0, 1] ?_
      refine t_build true [(.int .i64 0), (.int .i64 0)] [(0, 1, .loc 0), (1, 1, .loc 1)] [(.int .i64 r11), (.int .i64 (-2))] [(.int .i64 r11), (.int .i64 (-2))] H12 (by kernel_rfl) (fill_c (vs := [(.int .i64 r11)]) (size := 1) rfl (by kernel_rfl) (by kernel_rfl) (fill_c (vs := [(.int .i64 (-2))]) (size := 1) rfl (by kernel_rfl) (by kernel_rfl) (by kernel_rfl))) ?_
      refine t_upd true 2 0 [(.int .i64 0), (.int .i64 0)] (.agg [(.int .i64 r11), (.int .i64 (-2))]) [(.int .i64 r11), (.int .i64 (-2))] [(.int .i64 r11), (.int .i64 (-2))] H12 (by kernel_rfl) rfl (all_c rfl (all_c rfl all_n)) ⟨rfl, Nat.le_of_ble_eq_true (by kernel_rfl), rfl⟩ ?_
      refine t_done [list0, (.agg [(.int .i64 r1), r2]), (.int .i64 0), (.agg [(.int .i64 r11), (.int .i64 (-2))]), (.agg [(.int .i64 r5), (.int .i64 r6)]), (.bool (!(((r5) == 0) && (((r6) == 0) && true)))), (.agg [(.int .i64 r1), r2]), (.int .i64 r11), (.bool ((r11) != 0))] H12 (by kernel_rfl) ?_
      refine then_norm ?_
      refine w_ret ?_
      refine then_ret ?_
      exact body_ret (vs := [(.int .i64 0), (.agg [(.int .i64 r11), (.int .i64 (-2))])]) _ (by kernel_rfl) rfl h
    · replace h := h.2 (is_ne.f hc)
      refine w_skip ?_
      refine then_norm ?_
      refine w_seq ?_
      refine w_run [0, 0, 1, 1, 0, 1] ?_
      refine t_call true nspeculate_chance [list0, (.agg [(.int .i64 r1), r2])] H12 (by kernel_rfl) h ?_
      clear h
      rintro _ H15 ⟨r14, rfl, h⟩
      refine t_build true [(.int .i64 0), (.int .i64 0)] [] [] [(.int .i64 0), (.int .i64 0)] H15 (by kernel_rfl) (by kernel_rfl) ?_
      refine t_upd true 2 0 [(.int .i64 0), (.int .i64 0)] (.agg [(.int .i64 0), (.int .i64 0)]) [(.int .i64 0), (.int .i64 0)] [(.int .i64 0), (.int .i64 0)] H15 (by kernel_rfl) rfl (all_c rfl (all_c rfl all_n)) ⟨rfl, Nat.le_of_ble_eq_true (by kernel_rfl), rfl⟩ ?_
      refine t_done [list0, (.agg [(.int .i64 r1), r2]), (.int .i64 r14), (.agg [(.int .i64 0), (.int .i64 0)]), (.agg [(.int .i64 r5), (.int .i64 r6)]), (.bool (!(((r5) == 0) && (((r6) == 0) && true)))), (.agg [(.int .i64 r1), r2]), (.int .i64 r11), (.bool ((r11) != 0))] H15 (by kernel_rfl) ?_
      refine then_norm ?_
      refine w_ret ?_
      exact body_ret (vs := [(.int .i64 r14), (.agg [(.int .i64 0), (.int .i64 0)])]) _ (by kernel_rfl) rfl h

def rf_speculate_Plan (nspeculate_percents nspeculate_chance nslices_SortStableFunc__speculate_planned_speculate_planned nspeculate_Planx1 : Nat) : RFunc := ⟨2, 30, [.var 2, .part 3 (some 2)],
 ((.seq (.ops [⟨.move (.k (.empty)), none, (some 2), true⟩, ⟨.tomb 1 (.k (.agg [.int .i64 0, .int .i64 0])), none, (some 3), true⟩])
 ((.seq ((.seq (.ops [⟨.move (.var 0), none, none, true⟩, ⟨.callS nspeculate_percents [(.loc 0)], none, none, true⟩, ⟨.tomb 1 (.k (.agg [.int .i64 0, .int .i64 0])), none, (some 4), true⟩, ⟨.upd 2 0 (.loc 2) (.loc 1), none, (some 4), true⟩])
 ((.seq (.ops [⟨.field 0 (some 2) (.var 4), none, none, true⟩, ⟨.build [.int .i64 0, .int .i64 0] [], none, none, true⟩, ⟨.bin .neq (.agg [.int, .int]) (.loc 0) (.loc 1), none, (some 5), true⟩])
 (.cond (.var 5) ((.seq (.ops [⟨.field 0 (some 2) (.var 4), none, none, true⟩, ⟨.move (.k (.empty)), none, (some 2), false⟩, ⟨.upd 2 0 (.var 3) (.loc 0), none, (some 3), true⟩])
 (.ret))) (.skip))))))
 ((.seq ((.seq (.ops [⟨.move (.var 1), none, none, true⟩, ⟨.bin .lss .no (.loc 0) (.k (.int .i64 0)), none, none, true⟩, ⟨.move (.loc 1), none, none, true⟩, ⟨.move (.var 1), none, none, true⟩, ⟨.bin .gtr .no (.loc 3) (.k (.int .i64 16)), none, none, true⟩, ⟨.pick (.loc 2) (.k (.bool true)) (.loc 4), none, (some 6), true⟩])
 (.cond (.var 6) ((.seq (.ops [⟨.build [.int .i64 0, .int .i64 0] [(0, 1, (.k (.int .i64 3))), (1, 1, (.k (.int .i64 (-2))))], none, none, true⟩, ⟨.move (.k (.empty)), none, (some 2), true⟩, ⟨.upd 2 0 (.var 3) (.loc 0), none, (some 3), true⟩])
 (.ret))) (.skip))))
 ((.seq (.ops [⟨.move (.k (.empty)), none, (some 23), true⟩])
 ((.seq ((.seq (.ops [⟨.move (.var 0), none, none, true⟩, ⟨.len (.loc 0), none, (some 8), true⟩, ⟨.move (.k (.int .i64 0)), none, (some 7), true⟩])
 (.block 0 (.loop ((.seq (.ops [⟨.bin .lss .no (.var 7) (.var 8), none, (some 9), true⟩])
 ((.seq (.cond (.var 9) (.skip) (.exit 0))
 ((.seq (.block 1 ((.seq (.ops [⟨.move (.var 7), none, none, true⟩, ⟨.move (.loc 0), none, (some 10), true⟩])
 ((.seq (.ops [⟨.move (.var 10), none, none, true⟩, ⟨.bin .shl .no (.k (.int .i64 1)) (.loc 0), none, (some 12), true⟩, ⟨.move (.k (.int .i64 0)), none, (some 11), true⟩])
 (.block 2 (.loop ((.seq (.ops [⟨.bin .lss .no (.var 11) (.var 12), none, (some 13), true⟩])
 ((.seq (.cond (.var 13) (.skip) (.exit 2))
 ((.seq (.block 3 ((.seq (.ops [⟨.move (.var 11), none, none, true⟩, ⟨.move (.loc 0), none, (some 17), true⟩])
 ((.seq (.ops [⟨.move (.var 10), none, none, true⟩, ⟨.build [.int .i64 0, .empty] [(0, 1, (.loc 0))], none, none, true⟩, ⟨.tomb 1 (.k (.agg [.int .i64 0, .empty])), none, (some 20), true⟩, ⟨.upd 2 0 (.loc 2) (.loc 1), none, (some 20), true⟩])
 ((.seq ((.seq (.ops [⟨.move (.var 10), none, (some 15), true⟩, ⟨.move (.k (.int .i64 0)), none, (some 14), true⟩])
 (.block 4 (.loop ((.seq (.ops [⟨.bin .lss .no (.var 14) (.var 15), none, (some 16), true⟩])
 ((.seq (.cond (.var 16) (.skip) (.exit 4))
 ((.seq (.block 5 ((.seq (.ops [⟨.move (.var 14), none, none, true⟩, ⟨.move (.loc 0), none, (some 18), true⟩])
 ((.seq (.ops [⟨.move (.var 17), none, none, true⟩, ⟨.move (.var 18), none, none, true⟩, ⟨.bin .shr .no (.loc 0) (.loc 1), none, none, true⟩, ⟨.bin .and .no (.loc 2) (.k (.int .i64 1)), none, none, true⟩, ⟨.bin .eql .no (.loc 3) (.k (.int .i64 1)), none, (some 19), true⟩])
 (.cond (.var 19) (.ops [⟨.field 0 none (.var 20), none, none, true⟩, ⟨.field 1 none (.var 20), none, none, true⟩, ⟨.move (.var 18), none, none, true⟩, ⟨.buildSlice 1 [.int .i64 0] [(0, 1, (.loc 2))] 1, none, none, true⟩, ⟨.append 1 8 (.loc 1) (.loc 3), none, none, true⟩, ⟨.field 0 none (.var 20), none, none, true⟩, ⟨.upd 1 1 (.var 20) (.loc 4), none, (some 20), true⟩]) (.skip)))))))
 (.ops [⟨.bin .add .no (.var 14) (.k (.int .i64 1)), none, none, true⟩, ⟨.move (.loc 0), none, (some 14), true⟩])))))))))))
 ((.seq (.ops [⟨.move (.var 0), none, none, true⟩, ⟨.field 0 (some 2) (.var 20), none, none, true⟩, ⟨.callS nspeculate_chance [(.loc 0), (.loc 1)], none, none, true⟩, ⟨.move (.loc 2), none, (some 21), true⟩])
 ((.seq (.ops [⟨.move (.var 21), none, none, true⟩, ⟨.bin .gtr .no (.loc 0) (.k (.int .i64 0)), none, (some 22), true⟩])
 (.cond (.var 22) (.ops [⟨.move (.var 23), none, none, true⟩, ⟨.field 0 (some 2) (.var 20), none, none, true⟩, ⟨.move (.var 21), none, none, true⟩, ⟨.build [.int .i64 0, .empty, .int .i64 0] [(0, 2, (.loc 1)), (2, 1, (.loc 2))], none, none, true⟩, ⟨.buildSlice 3 [.int .i64 0, .empty, .int .i64 0] [(0, 3, (.loc 3))] 1, none, none, true⟩, ⟨.append 3 40 (.loc 0) (.loc 4), none, none, true⟩, ⟨.move (.loc 5), none, (some 23), true⟩]) (.skip)))))))))))))
 (.ops [⟨.bin .add .no (.var 11) (.k (.int .i64 1)), none, none, true⟩, ⟨.move (.loc 0), none, (some 11), true⟩]))))))))))))))
 (.ops [⟨.bin .add .no (.var 7) (.k (.int .i64 1)), none, none, true⟩, ⟨.move (.loc 0), none, (some 7), true⟩])))))))))))
 ((.seq (.ops [⟨.move (.var 23), none, none, true⟩, ⟨.callS nslices_SortStableFunc__speculate_planned_speculate_planned [(.loc 0), (.k (.func nspeculate_Planx1 []))], none, none, true⟩])
 ((.seq (.ops [⟨.move (.k (.empty)), none, (some 28), true⟩])
 ((.seq ((.seq (.ops [⟨.move (.var 23), none, none, true⟩, ⟨.move (.var 1), none, none, true⟩, ⟨.move (.var 23), none, none, true⟩, ⟨.len (.loc 2), none, none, true⟩, ⟨.min (.loc 1) [(.loc 3)], none, none, true⟩, ⟨.slice 3 (.loc 0) none (some (.loc 4)) none, none, (some 27), true⟩, ⟨.len (.loc 5), none, (some 25), true⟩, ⟨.move (.k (.int .i64 0)), none, (some 24), true⟩])
 (.block 6 (.loop ((.seq (.ops [⟨.bin .lss .no (.var 24) (.var 25), none, (some 26), true⟩])
 ((.seq (.cond (.var 26) (.skip) (.exit 6))
 ((.seq (.block 7 ((.seq (.ops [⟨.indexAddr 3 (.var 27) (.var 24), none, none, true⟩, ⟨.load (some 3) (.loc 0), none, none, true⟩, ⟨.tomb 1 (.k (.agg [.int .i64 0, .empty, .int .i64 0])), none, (some 29), true⟩, ⟨.upd 3 0 (.loc 2) (.loc 1), none, (some 29), true⟩])
 (.ops [⟨.move (.var 28), none, none, true⟩, ⟨.field 0 none (.var 29), none, none, true⟩, ⟨.field 0 (some 2) (.var 29), none, none, true⟩, ⟨.buildSlice 2 [.int .i64 0, .empty] [(0, 2, (.loc 2))] 1, none, none, true⟩, ⟨.append 2 32 (.loc 0) (.loc 3), none, none, true⟩, ⟨.move (.loc 4), none, (some 28), true⟩]))))
 (.ops [⟨.bin .add .no (.var 24) (.k (.int .i64 1)), none, none, true⟩, ⟨.move (.loc 0), none, (some 24), true⟩])))))))))))
 ((.seq (.ops [⟨.move (.var 28), none, none, true⟩, ⟨.build [.int .i64 0, .int .i64 0] [], none, none, true⟩, ⟨.move (.loc 0), none, (some 2), true⟩, ⟨.upd 2 0 (.var 3) (.loc 1), none, (some 3), true⟩])
 (.ret))))))))))))))))))), none⟩
theorem v_speculate_Plan {F : Nat → Option RFunc} {me nspeculate_percents nspeculate_chance nslices_SortStableFunc__speculate_planned_speculate_planned nspeculate_Planx1 : Nat} (hF : F me = some (rf_speculate_Plan nspeculate_percents nspeculate_chance nslices_SortStableFunc__speculate_planned_speculate_planned nspeculate_Planx1)) {fl : Nat} {H : Heap} {Q : AV → Heap → Prop} (list0 : AV) (budget1 : Int)
  (h : ∀ (H2 : Heap), Dead1 H 1 H2 → Ret F fl nspeculate_percents [list0] H2 (fun v6 H5 => ∃ (r3 : Int) (r4 : Int), v6 = (.agg [(.int .i64 r3), (.int .i64 r4)]) ∧ ∀ (H7 : Heap), Dead1 H5 1 H7 → ((¬(((r3 = 0) ∧ (((r4 = 0) ∧ (True)))))) → Q (.tuple [.empty, (.agg [(.int .i64 r3), (.int .i64 r4)])]) H7) ∧ (¬(¬(((r3 = 0) ∧ (((r4 = 0) ∧ (True)))))) → ((((budget1 < 0) ∨ (budget1 > 16))) → Q (.tuple [.empty, (.agg [(.int .i64 3), (.int .i64 (-2))])]) H7) ∧ (¬(((budget1 < 0) ∨ (budget1 > 16))) → ∃ len8 : Nat, lenA list0 = some len8 ∧ ∃ (J9 : Nat → Int → AV → Heap → Prop) (k10 : Nat), J9 k10 0 .empty H7 ∧ (∀ (m11 : Nat) (v12 : Int) (all27 : AV) (H28 : Heap), J9 m11 v12 all27 H28 → ((v12 < (len8 : Int)) → 0 ≤ v12 ∧ ∃ (J29 : Nat → Int → AV → Heap → Prop) (k30 : Nat), J29 k30 0 all27 H28 ∧ (∀ (m31 : Nat) (v32 : Int) (all43 : AV) (H44 : Heap), J29 m31 v32 all43 H44 → ((v32 < (IntKind.wrap .i64 (1 * 2 ^ (Min.min (Int.toNat v12) (IntKind.bits .i64))))) → ∀ (H45 : Heap), Dead1 H44 1 H45 → ∃ (J46 : Nat → Int → Int → AV → Heap → Prop) (k47 : Nat), J46 k47 0 v12 .empty H45 ∧ (∀ (m48 : Nat) (v49 : Int) (r53 : Int) (r54 : AV) (H55 : Heap), J46 m48 v49 r53 r54 H55 → ((v49 < v12) → 0 ≤ v49 ∧ (((IntKind.wrap .i64 (((BitVec.ofInt (IntKind.bits .i64) (Int.fdiv v32 (2 ^ (Min.min (Int.toNat v49) (IntKind.bits .i64)))) &&& BitVec.ofInt (IntKind.bits .i64) 1).toNat : Int))) = 1) → ∀ (b56 : Nat) (H57 : Heap), NewB H55 1 [(.int .i64 v49)] b56 H57 → ∃ (a58 : AV) (H59 : Heap), appA fl true 1 8 H57 r54 (.slice b56 0 1 (some 1)) = some (a58, H59) ∧ Scal a58 ∧ ∃ m61 : Nat, m61 < m48 ∧ J46 m61 (IntKind.wrap .i64 (v49 + 1)) r53 a58 H59) ∧ (¬((IntKind.wrap .i64 (((BitVec.ofInt (IntKind.bits .i64) (Int.fdiv v32 (2 ^ (Min.min (Int.toNat v49) (IntKind.bits .i64)))) &&& BitVec.ofInt (IntKind.bits .i64) 1).toNat : Int))) = 1) → ∃ m62 : Nat, m62 < m48 ∧ J46 m62 (IntKind.wrap .i64 (v49 + 1)) r53 r54 H55)) ∧ (¬(v49 < v12) → Ret F fl nspeculate_chance [list0, (.agg [(.int .i64 r53), r54])] H55 (fun v65 H64 => ∃ (r63 : Int), v65 = (.int .i64 r63) ∧ ((r63 > 0) → ∀ (b66 : Nat) (H67 : Heap), NewB H64 3 [(.int .i64 r53), r54, (.int .i64 r63)] b66 H67 → ∃ (a68 : AV) (H69 : Heap), appA fl true 3 40 H67 all43 (.slice b66 0 1 (some 1)) = some (a68, H69) ∧ ∃ m70 : Nat, m70 < m31 ∧ J29 m70 (IntKind.wrap .i64 (v32 + 1)) a68 H69) ∧ (¬(r63 > 0) → ∃ m71 : Nat, m71 < m31 ∧ J29 m71 (IntKind.wrap .i64 (v32 + 1)) all43 H64))))) ∧ (¬(v32 < (IntKind.wrap .i64 (1 * 2 ^ (Min.min (Int.toNat v12) (IntKind.bits .i64))))) → ∃ m72 : Nat, m72 < m11 ∧ J9 m72 (IntKind.wrap .i64 (v12 + 1)) all43 H44))) ∧ (¬(v12 < (len8 : Int)) → Ret F fl nslices_SortStableFunc__speculate_planned_speculate_planned [all27, (.func nspeculate_Planx1 [])] H28 (fun v74 H73 => v74 = .undef ∧ ∃ len75 : Nat, lenA all27 = some len75 ∧ ∃ s76 : AV, rslice H73 3 all27 none (some (.int .i64 (imin budget1 (len75 : Int)))) none = some s76 ∧ ∃ len77 : Nat, lenA s76 = some len77 ∧ ∃ (J78 : Nat → Int → AV → Heap → Prop) (k79 : Nat), J78 k79 0 .empty H73 ∧ (∀ (m80 : Nat) (v81 : Int) (out83 : AV) (H85 : Heap), J78 m80 v81 out83 H85 → ((v81 < (len77 : Int)) → ∃ (e86 : Int) (e87 : AV) (e88 : Int), getA H85 3 (some 3) s76 v81 0 = some (.agg [(.int .i64 e86), e87, (.int .i64 e88)]) ∧ ∀ (H90 : Heap), Dead1 H85 1 H90 → Scal e87 ∧ ∀ (b92 : Nat) (H93 : Heap), NewB H90 2 [(.int .i64 e86), e87] b92 H93 → ∃ (a94 : AV) (H95 : Heap), appA fl true 2 32 H93 out83 (.slice b92 0 1 (some 1)) = some (a94, H95) ∧ ∃ m96 : Nat, m96 < m80 ∧ J78 m96 (IntKind.wrap .i64 (v81 + 1)) a94 H95) ∧ (¬(v81 < (len77 : Int)) → Q (.tuple [out83, (.agg [(.int .i64 0), (.int .i64 0)])]) H85))))))))) : Ret F fl me [list0, (.int .i64 budget1)] H Q := by
  refine ret_intro hF rfl ?_
  refine w_seq ?_
  refine w_run [0, 1] ?_
  obtain ⟨H2, hb⟩ : ∃ H', Dead1 H 1 H' := ⟨_, ⟨rfl⟩⟩
  replace h := h H2 hb
  refine t_tomb true 1 (.agg [(.int .i64 0), (.int .i64 0)]) [(.int .i64 0), (.int .i64 0)] H2 H (by kernel_rfl) rfl hb ?_
  refine t_done [list0, (.int .i64 budget1), .empty, (.agg [(.int .i64 0), (.int .i64 0)]), .undef, .undef, .undef, .undef, .undef, .undef, .undef, .undef, .undef, .undef, .undef, .undef, .undef, .undef, .undef, .undef, .undef, .undef, .undef, .undef, .undef, .undef, .undef, .undef, .undef, .undef] H2 (by kernel_rfl) ?_
  refine then_norm ?_
  refine w_seq ?_
  refine w_seq ?_
  refine w_run [0, 1, 1, 1] ?_
  refine t_call true nspeculate_percents [list0] H2 (by kernel_rfl) h ?_
  clear h
  rintro _ H5 ⟨r3, r4, rfl, h⟩
  obtain ⟨H7, hb⟩ : ∃ H', Dead1 H5 1 H' := ⟨_, ⟨rfl⟩⟩
  replace h := h H7 hb
  refine t_tomb true 1 (.agg [(.int .i64 0), (.int .i64 0)]) [(.int .i64 0), (.int .i64 0)] H7 H5 (by kernel_rfl) rfl hb ?_
  refine t_upd true 2 0 [(.int .i64 0), (.int .i64 0)] (.agg [(.int .i64 r3), (.int .i64 r4)]) [(.int .i64 r3), (.int .i64 r4)] [(.int .i64 r3), (.int .i64 r4)] H7 (by kernel_rfl) rfl (all_c rfl (all_c rfl all_n)) ⟨rfl, Nat.le_of_ble_eq_true (by kernel_rfl), rfl⟩ ?_
  refine t_done [list0, (.int .i64 budget1), .empty, (.agg [(.int .i64 0), (.int .i64 0)]), (.agg [(.int .i64 r3), (.int .i64 r4)]), .undef, .undef, .undef, .undef, .undef, .undef, .undef, .undef, .undef, .undef, .undef, .undef, .undef, .undef, .undef, .undef, .undef, .undef, .undef, .undef, .undef, .undef, .undef, .undef, .undef] H7 (by kernel_rfl) ?_
  refine then_norm ?_
  refine w_seq ?_
  refine w_run [0, 1, 0] ?_
  refine t_build true [(.int .i64 0), (.int .i64 0)] [] [] [(.int .i64 0), (.int .i64 0)] H7 (by kernel_rfl) (by kernel_rfl) ?_
  refine t_done [list0, (.int .i64 budget1), .empty, (.agg [(.int .i64 0), (.int .i64 0)]), (.agg [(.int .i64 r3), (.int .i64 r4)]), (.bool (!(((r3) == 0) && (((r4) == 0) && true)))), .undef, .undef, .undef, .undef, .undef, .undef, .undef, .undef, .undef, .undef, .undef, .undef, .undef, .undef, .undef, .undef, .undef, .undef, .undef, .undef, .undef, .undef, .undef, .undef] H7 (by kernel_rfl) ?_
  refine then_norm ?_
  refine w_cond (t := (!(((r3) == 0) && (((r4) == 0) && true)))) rfl (fun hc => ?_) (fun hc => ?_)
  · replace h := h.1 ((is_not (is_and is_eq (is_and is_eq is_true))).t hc)
    refine w_seq ?_
    refine w_run [0, 0, 1] ?_
    refine t_upd true 2 0 [(.int .i64 0), (.int .i64 0)] (.agg [(.int .i64 r3), (.int .i64 r4)]) [(.int .i64 r3), (.int .i64 r4)] [(.int .i64 r3), (.int .i64 r4)] H7 (by kernel_rfl) rfl (all_c rfl (all_c rfl all_n)) ⟨rfl, Nat.le_of_ble_eq_true (by kernel_rfl), rfl⟩ ?_
    refine t_done [list0, (.int .i64 budget1), .empty, (.agg [(.int .i64 r3), (.int .i64 r4)]), (.agg [(.int .i64 r3), (.int .i64 r4)]), (.bool (!(((r3) == 0) && (((r4) == 0) && true)))), .undef, .undef, .undef, .undef, .undef, .undef, .undef, .undef, .undef, .undef, .undef, .undef, .undef, .undef, .undef, .undef, .undef, .undef, .undef, .undef, .undef, .undef, .undef, .undef] H7 (by kernel_rfl) ?_
    refine then_norm ?_
    refine w_ret ?_
    refine then_ret ?_
    exact body_ret (vs := [.empty, (.agg [(.int .i64 r3), (.int .i64 r4)])]) _ (by kernel_rfl) rfl h
  · replace h := h.2 ((is_not (is_and is_eq (is_and is_eq is_true))).f hc)
    refine w_skip ?_
    refine then_norm ?_
    refine w_seq ?_
    refine w_seq ?_
    refine w_run [0, 0, 0, 0, 0, 0] ?_
    refine t_done [list0, (.int .i64 budget1), .empty, (.agg [(.int .i64 0), (.int .i64 0)]), (.agg [(.int .i64 r3), (.int .i64 r4)]), (.bool (!(((r3) == 0) && (((r4) == 0) && true)))), (.bool ((decide (budget1 < 0)) || (decide (budget1 > 16)))), .undef, .undef, .undef, .undef, .undef, .undef, .undef, .undef, .undef, .undef, .undef, .undef, .undef, .undef, .undef, .undef, .undef, .undef, .undef, .undef, .undef, .undef, .undef] H7 (by kernel_rfl) ?_
    refine then_norm ?_
    refine w_cond (t := ((decide (budget1 < 0)) || (decide (budget1 > 16)))) rfl (fun hc => ?_) (fun hc => ?_)
    · replace h := h.1 ((is_or is_dec is_dec).t hc)
      refine w_seq ?_
      refine w_run [1, 0, 1] ?_
      refine t_build true [(.int .i64 0), (.int .i64 0)] [(0, 1, .loc 0), (1, 1, .loc 1)] [(.int .i64 3), (.int .i64 (-2))] [(.int .i64 3), (.int .i64 (-2))] H7 (by kernel_rfl) (fill_c (vs := [(.int .i64 3)]) (size := 1) rfl (by kernel_rfl) (by kernel_rfl) (fill_c (vs := [(.int .i64 (-2))]) (size := 1) rfl (by kernel_rfl) (by kernel_rfl) (by kernel_rfl))) ?_
      refine t_upd true 2 0 [(.int .i64 0), (.int .i64 0)] (.agg [(.int .i64 3), (.int .i64 (-2))]) [(.int .i64 3), (.int .i64 (-2))] [(.int .i64 3), (.int .i64 (-2))] H7 (by kernel_rfl) rfl (all_c rfl (all_c rfl all_n)) ⟨rfl, Nat.le_of_ble_eq_true (by kernel_rfl), rfl⟩ ?_
      refine t_done [list0, (.int .i64 budget1), .empty, (.agg [(.int .i64 3), (.int .i64 (-2))]), (.agg [(.int .i64 r3), (.int .i64 r4)]), (.bool (!(((r3) == 0) && (((r4) == 0) && true)))), (.bool ((decide (budget1 < 0)) || (decide (budget1 > 16)))), .undef, .undef, .undef, .undef, .undef, .undef, .undef, .undef, .undef, .undef, .undef, .undef, .undef, .undef, .undef, .undef, .undef, .undef, .undef, .undef, .undef, .undef, .undef] H7 (by kernel_rfl) ?_
      refine then_norm ?_
      refine w_ret ?_
      refine then_ret ?_
      exact body_ret (vs := [.empty, (.agg [(.int .i64 3), (.int .i64 (-2))])]) _ (by kernel_rfl) rfl h
    · replace h := h.2 ((is_or is_dec is_dec).f hc)
      refine w_skip ?_
      refine then_norm ?_
      refine w_seq ?_
      refine w_run [0] ?_
      refine t_done [list0, (.int .i64 budget1), .empty, (.agg [(.int .i64 0), (.int .i64 0)]), (.agg [(.int .i64 r3), (.int .i64 r4)]), (.bool (!(((r3) == 0) && (((r4) == 0) && true)))), (.bool ((decide (budget1 < 0)) || (decide (budget1 > 16)))), .undef, .undef, .undef, .undef, .undef, .undef, .undef, .undef, .undef, .undef, .undef, .undef, .undef, .undef, .undef, .undef, .empty, .undef, .undef, .undef, .undef, .undef, .undef] H7 (by kernel_rfl) ?_
      refine then_norm ?_
      refine w_seq ?_
      refine w_seq ?_
      refine w_run [0, 1, 0] ?_
      obtain ⟨len8, hl, h⟩ := h
      refine t_len true list0 len8 H7 (by kernel_rfl) hl ?_
      refine t_done [list0, (.int .i64 budget1), .empty, (.agg [(.int .i64 0), (.int .i64 0)]), (.agg [(.int .i64 r3), (.int .i64 r4)]), (.bool (!(((r3) == 0) && (((r4) == 0) && true)))), (.bool ((decide (budget1 < 0)) || (decide (budget1 > 16)))), (.int .i64 0), (.int .i64 (len8 : Int)), .undef, .undef, .undef, .undef, .undef, .undef, .undef, .undef, .undef, .undef, .undef, .undef, .undef, .undef, .empty, .undef, .undef, .undef, .undef, .undef, .undef] H7 (by kernel_rfl) ?_
      refine then_norm ?_
      refine w_block ?_
      obtain ⟨J9, k10, h0, h⟩ := h
      refine w_loop (I := fun mI EI HI => ∃ (v12 : Int) (d13 : AV) (d14 : AV) (d15 : AV) (d16 : AV) (d17 : AV) (d18 : AV) (d19 : AV) (d20 : AV) (d21 : AV) (d22 : AV) (d23 : AV) (d24 : AV) (d25 : AV) (d26 : AV) (all27 : AV), EI = [list0, (.int .i64 budget1), .empty, (.agg [(.int .i64 0), (.int .i64 0)]), (.agg [(.int .i64 r3), (.int .i64 r4)]), (.bool (!(((r3) == 0) && (((r4) == 0) && true)))), (.bool ((decide (budget1 < 0)) || (decide (budget1 > 16)))), (.int .i64 v12), (.int .i64 (len8 : Int)), d13, d14, d15, d16, d17, d18, d19, d20, d21, d22, d23, d24, d25, d26, all27, .undef, .undef, .undef, .undef, .undef, .undef] ∧ J9 mI v12 all27 HI) ?_ k10 ⟨_, _, _, _, _, _, _, _, _, _, _, _, _, _, _, _, rfl, h0⟩
      clear h0
      rintro m11 EI H28 ⟨v12, d13, d14, d15, d16, d17, d18, d19, d20, d21, d22, d23, d24, d25, d26, all27, rfl, hJ⟩
      replace h := h m11 v12 all27 H28 hJ
      clear hJ
      refine w_seq ?_
      refine w_run [0] ?_
      refine t_done [list0, (.int .i64 budget1), .empty, (.agg [(.int .i64 0), (.int .i64 0)]), (.agg [(.int .i64 r3), (.int .i64 r4)]), (.bool (!(((r3) == 0) && (((r4) == 0) && true)))), (.bool ((decide (budget1 < 0)) || (decide (budget1 > 16)))), (.int .i64 v12), (.int .i64 (len8 : Int)), (.bool (decide (v12 < (len8 : Int)))), d14, d15, d16, d17, d18, d19, d20, d21, d22, d23, d24, d25, d26, all27, .undef, .undef, .undef, .undef, .undef, .undef] H28 (by kernel_rfl) ?_
      refine then_norm ?_
      refine w_seq ?_
      refine w_cond (t := (decide (v12 < (len8 : Int)))) rfl (fun hc => ?_) (fun hc => ?_)
      · replace h := h.1 (is_dec.t hc)
        refine w_skip ?_
        refine then_norm ?_
        refine w_seq ?_
        refine w_block ?_
        refine w_seq ?_
        refine w_run [0, 0] ?_
        refine t_done [list0, (.int .i64 budget1), .empty, (.agg [(.int .i64 0), (.int .i64 0)]), (.agg [(.int .i64 r3), (.int .i64 r4)]), (.bool (!(((r3) == 0) && (((r4) == 0) && true)))), (.bool ((decide (budget1 < 0)) || (decide (budget1 > 16)))), (.int .i64 v12), (.int .i64 (len8 : Int)), (.bool (decide (v12 < (len8 : Int)))), (.int .i64 v12), d15, d16, d17, d18, d19, d20, d21, d22, d23, d24, d25, d26, all27, .undef, .undef, .undef, .undef, .undef, .undef] H28 (by kernel_rfl) ?_
        refine then_norm ?_
        refine w_seq ?_
        refine w_run [0, 1, 0] ?_
        obtain ⟨hq, h⟩ := h
        refine t_shl true .no .i64 .i64 1 v12 H28 (by kernel_rfl) hq ?_
        refine t_done [list0, (.int .i64 budget1), .empty, (.agg [(.int .i64 0), (.int .i64 0)]), (.agg [(.int .i64 r3), (.int .i64 r4)]), (.bool (!(((r3) == 0) && (((r4) == 0) && true)))), (.bool ((decide (budget1 < 0)) || (decide (budget1 > 16)))), (.int .i64 v12), (.int .i64 (len8 : Int)), (.bool (decide (v12 < (len8 : Int)))), (.int .i64 v12), (.int .i64 0), (.int .i64 (IntKind.wrap .i64 (1 * 2 ^ (Min.min (Int.toNat v12) (IntKind.bits .i64))))), d17, d18, d19, d20, d21, d22, d23, d24, d25, d26, all27, .undef, .undef, .undef, .undef, .undef, .undef] H28 (by kernel_rfl) ?_
        refine then_norm ?_
        refine w_block ?_
        obtain ⟨J29, k30, h0, h⟩ := h
        refine w_loop (I := fun mI EI HI => ∃ (v32 : Int) (d33 : AV) (d34 : AV) (d35 : AV) (d36 : AV) (d37 : AV) (d38 : AV) (d39 : AV) (d40 : AV) (d41 : AV) (d42 : AV) (all43 : AV), EI = [list0, (.int .i64 budget1), .empty, (.agg [(.int .i64 0), (.int .i64 0)]), (.agg [(.int .i64 r3), (.int .i64 r4)]), (.bool (!(((r3) == 0) && (((r4) == 0) && true)))), (.bool ((decide (budget1 < 0)) || (decide (budget1 > 16)))), (.int .i64 v12), (.int .i64 (len8 : Int)), (.bool (decide (v12 < (len8 : Int)))), (.int .i64 v12), (.int .i64 v32), (.int .i64 (IntKind.wrap .i64 (1 * 2 ^ (Min.min (Int.toNat v12) (IntKind.bits .i64))))), d33, d34, d35, d36, d37, d38, d39, d40, d41, d42, all43, .undef, .undef, .undef, .undef, .undef, .undef] ∧ J29 mI v32 all43 HI) ?_ k30 ⟨_, _, _, _, _, _, _, _, _, _, _, _, rfl, h0⟩
        clear h0
        rintro m31 EI H44 ⟨v32, d33, d34, d35, d36, d37, d38, d39, d40, d41, d42, all43, rfl, hJ⟩
        replace h := h m31 v32 all43 H44 hJ
        clear hJ
        refine w_seq ?_
        refine w_run [0] ?_
        refine t_done [list0, (.int .i64 budget1), .empty, (.agg [(.int .i64 0), (.int .i64 0)]), (.agg [(.int .i64 r3), (.int .i64 r4)]), (.bool (!(((r3) == 0) && (((r4) == 0) && true)))), (.bool ((decide (budget1 < 0)) || (decide (budget1 > 16)))), (.int .i64 v12), (.int .i64 (len8 : Int)), (.bool (decide (v12 < (len8 : Int)))), (.int .i64 v12), (.int .i64 v32), (.int .i64 (IntKind.wrap .i64 (1 * 2 ^ (Min.min (Int.toNat v12) (IntKind.bits .i64))))), (.bool (decide (v32 < (IntKind.wrap .i64 (1 * 2 ^ (Min.min (Int.toNat v12) (IntKind.bits .i64))))))), d34, d35, d36, d37, d38, d39, d40, d41, d42, all43, .undef, .undef, .undef, .undef, .undef, .undef] H44 (by kernel_rfl) ?_
        refine then_norm ?_
        refine w_seq ?_
        refine w_cond (t := (decide (v32 < (IntKind.wrap .i64 (1 * 2 ^ (Min.min (Int.toNat v12) (IntKind.bits .i64))))))) rfl (fun hc => ?_) (fun hc => ?_)
        · replace h := h.1 (is_dec.t hc)
          refine w_skip ?_
          refine then_norm ?_
          refine w_seq ?_
          refine w_block ?_
          refine w_seq ?_
          refine w_run [0, 0] ?_
          refine t_done [list0, (.int .i64 budget1), .empty, (.agg [(.int .i64 0), (.int .i64 0)]), (.agg [(.int .i64 r3), (.int .i64 r4)]), (.bool (!(((r3) == 0) && (((r4) == 0) && true)))), (.bool ((decide (budget1 < 0)) || (decide (budget1 > 16)))), (.int .i64 v12), (.int .i64 (len8 : Int)), (.bool (decide (v12 < (len8 : Int)))), (.int .i64 v12), (.int .i64 v32), (.int .i64 (IntKind.wrap .i64 (1 * 2 ^ (Min.min (Int.toNat v12) (IntKind.bits .i64))))), (.bool (decide (v32 < (IntKind.wrap .i64 (1 * 2 ^ (Min.min (Int.toNat v12) (IntKind.bits .i64))))))), d34, d35, d36, (.int .i64 v32), d38, d39, d40, d41, d42, all43, .undef, .undef, .undef, .undef, .undef, .undef] H44 (by kernel_rfl) ?_
          refine then_norm ?_
          refine w_seq ?_
          refine w_run [0, 1, 1, 1] ?_
          refine t_build true [(.int .i64 0), .empty] [(0, 1, .loc 0)] [(.int .i64 v12)] [(.int .i64 v12), .empty] H44 (by kernel_rfl) (fill_c (vs := [(.int .i64 v12)]) (size := 1) rfl (by kernel_rfl) (by kernel_rfl) (by kernel_rfl)) ?_
          obtain ⟨H45, hb⟩ : ∃ H', Dead1 H44 1 H' := ⟨_, ⟨rfl⟩⟩
          replace h := h H45 hb
          refine t_tomb true 1 (.agg [(.int .i64 0), .empty]) [(.int .i64 0), .empty] H45 H44 (by kernel_rfl) rfl hb ?_
          refine t_upd true 2 0 [(.int .i64 0), .empty] (.agg [(.int .i64 v12), .empty]) [(.int .i64 v12), .empty] [(.int .i64 v12), .empty] H45 (by kernel_rfl) rfl (all_c rfl (all_c rfl all_n)) ⟨rfl, Nat.le_of_ble_eq_true (by kernel_rfl), rfl⟩ ?_
          refine t_done [list0, (.int .i64 budget1), .empty, (.agg [(.int .i64 0), (.int .i64 0)]), (.agg [(.int .i64 r3), (.int .i64 r4)]), (.bool (!(((r3) == 0) && (((r4) == 0) && true)))), (.bool ((decide (budget1 < 0)) || (decide (budget1 > 16)))), (.int .i64 v12), (.int .i64 (len8 : Int)), (.bool (decide (v12 < (len8 : Int)))), (.int .i64 v12), (.int .i64 v32), (.int .i64 (IntKind.wrap .i64 (1 * 2 ^ (Min.min (Int.toNat v12) (IntKind.bits .i64))))), (.bool (decide (v32 < (IntKind.wrap .i64 (1 * 2 ^ (Min.min (Int.toNat v12) (IntKind.bits .i64))))))), d34, d35, d36, (.int .i64 v32), d38, d39, (.agg [(.int .i64 v12), .empty]), d41, d42, all43, .undef, .undef, .undef, .undef, .undef, .undef] H45 (by kernel_rfl) ?_
          refine then_norm ?_
          refine w_seq ?_
          refine w_seq ?_
          refine w_run [0, 0] ?_
          refine t_done [list0, (.int .i64 budget1), .empty, (.agg [(.int .i64 0), (.int .i64 0)]), (.agg [(.int .i64 r3), (.int .i64 r4)]), (.bool (!(((r3) == 0) && (((r4) == 0) && true)))), (.bool ((decide (budget1 < 0)) || (decide (budget1 > 16)))), (.int .i64 v12), (.int .i64 (len8 : Int)), (.bool (decide (v12 < (len8 : Int)))), (.int .i64 v12), (.int .i64 v32), (.int .i64 (IntKind.wrap .i64 (1 * 2 ^ (Min.min (Int.toNat v12) (IntKind.bits .i64))))), (.bool (decide (v32 < (IntKind.wrap .i64 (1 * 2 ^ (Min.min (Int.toNat v12) (IntKind.bits .i64))))))), (.int .i64 0), (.int .i64 v12), d36, (.int .i64 v32), d38, d39, (.agg [(.int .i64 v12), .empty]), d41, d42, all43, .undef, .undef, .undef, .undef, .undef, .undef] H45 (by kernel_rfl) ?_
          refine then_norm ?_
          refine w_block ?_
          obtain ⟨J46, k47, h0, h⟩ := h
          refine w_loop (I := fun mI EI HI => ∃ (v49 : Int) (d50 : AV) (d51 : AV) (d52 : AV) (r53 : Int) (r54 : AV), EI = [list0, (.int .i64 budget1), .empty, (.agg [(.int .i64 0), (.int .i64 0)]), (.agg [(.int .i64 r3), (.int .i64 r4)]), (.bool (!(((r3) == 0) && (((r4) == 0) && true)))), (.bool ((decide (budget1 < 0)) || (decide (budget1 > 16)))), (.int .i64 v12), (.int .i64 (len8 : Int)), (.bool (decide (v12 < (len8 : Int)))), (.int .i64 v12), (.int .i64 v32), (.int .i64 (IntKind.wrap .i64 (1 * 2 ^ (Min.min (Int.toNat v12) (IntKind.bits .i64))))), (.bool (decide (v32 < (IntKind.wrap .i64 (1 * 2 ^ (Min.min (Int.toNat v12) (IntKind.bits .i64))))))), (.int .i64 v49), (.int .i64 v12), d50, (.int .i64 v32), d51, d52, (.agg [(.int .i64 r53), r54]), d41, d42, all43, .undef, .undef, .undef, .undef, .undef, .undef] ∧ J46 mI v49 r53 r54 HI) ?_ k47 ⟨_, _, _, _, _, _, rfl, h0⟩
          clear h0
          rintro m48 EI H55 ⟨v49, d50, d51, d52, r53, r54, rfl, hJ⟩
          replace h := h m48 v49 r53 r54 H55 hJ
          clear hJ
          refine w_seq ?_
          refine w_run [0] ?_
          refine t_done [list0, (.int .i64 budget1), .empty, (.agg [(.int .i64 0), (.int .i64 0)]), (.agg [(.int .i64 r3), (.int .i64 r4)]), (.bool (!(((r3) == 0) && (((r4) == 0) && true)))), (.bool ((decide (budget1 < 0)) || (decide (budget1 > 16)))), (.int .i64 v12), (.int .i64 (len8 : Int)), (.bool (decide (v12 < (len8 : Int)))), (.int .i64 v12), (.int .i64 v32), (.int .i64 (IntKind.wrap .i64 (1 * 2 ^ (Min.min (Int.toNat v12) (IntKind.bits .i64))))), (.bool (decide (v32 < (IntKind.wrap .i64 (1 * 2 ^ (Min.min (Int.toNat v12) (IntKind.bits .i64))))))), (.int .i64 v49), (.int .i64 v12), (.bool (decide (v49 < v12))), (.int .i64 v32), d51, d52, (.agg [(.int .i64 r53), r54]), d41, d42, all43, .undef, .undef, .undef, .undef, .undef, .undef] H55 (by kernel_rfl) ?_
          refine then_norm ?_
          refine w_seq ?_
          refine w_cond (t := (decide (v49 < v12))) rfl (fun hc => ?_) (fun hc => ?_)
          · replace h := h.1 (is_dec.t hc)
            refine w_skip ?_
            refine then_norm ?_
            refine w_seq ?_
            refine w_block ?_
            refine w_seq ?_
            refine w_run [0, 0] ?_
            refine t_done [list0, (.int .i64 budget1), .empty, (.agg [(.int .i64 0), (.int .i64 0)]), (.agg [(.int .i64 r3), (.int .i64 r4)]), (.bool (!(((r3) == 0) && (((r4) == 0) && true)))), (.bool ((decide (budget1 < 0)) || (decide (budget1 > 16)))), (.int .i64 v12), (.int .i64 (len8 : Int)), (.bool (decide (v12 < (len8 : Int)))), (.int .i64 v12), (.int .i64 v32), (.int .i64 (IntKind.wrap .i64 (1 * 2 ^ (Min.min (Int.toNat v12) (IntKind.bits .i64))))), (.bool (decide (v32 < (IntKind.wrap .i64 (1 * 2 ^ (Min.min (Int.toNat v12) (IntKind.bits .i64))))))), (.int .i64 v49), (.int .i64 v12), (.bool (decide (v49 < v12))), (.int .i64 v32), (.int .i64 v49), d52, (.agg [(.int .i64 r53), r54]), d41, d42, all43, .undef, .undef, .undef, .undef, .undef, .undef] H55 (by kernel_rfl) ?_
            refine then_norm ?_
            refine w_seq ?_
            refine w_run [0, 0, 1, 0, 0] ?_
            obtain ⟨hq, h⟩ := h
            refine t_shr true .no .i64 .i64 v32 v49 H55 (by kernel_rfl) hq ?_
            refine t_done [list0, (.int .i64 budget1), .empty, (.agg [(.int .i64 0), (.int .i64 0)]), (.agg [(.int .i64 r3), (.int .i64 r4)]), (.bool (!(((r3) == 0) && (((r4) == 0) && true)))), (.bool ((decide (budget1 < 0)) || (decide (budget1 > 16)))), (.int .i64 v12), (.int .i64 (len8 : Int)), (.bool (decide (v12 < (len8 : Int)))), (.int .i64 v12), (.int .i64 v32), (.int .i64 (IntKind.wrap .i64 (1 * 2 ^ (Min.min (Int.toNat v12) (IntKind.bits .i64))))), (.bool (decide (v32 < (IntKind.wrap .i64 (1 * 2 ^ (Min.min (Int.toNat v12) (IntKind.bits .i64))))))), (.int .i64 v49), (.int .i64 v12), (.bool (decide (v49 < v12))), (.int .i64 v32), (.int .i64 v49), (.bool (((IntKind.wrap .i64 (((BitVec.ofInt (IntKind.bits .i64) (Int.fdiv v32 (2 ^ (Min.min (Int.toNat v49) (IntKind.bits .i64)))) &&& BitVec.ofInt (IntKind.bits .i64) 1).toNat : Int)))) == 1)), (.agg [(.int .i64 r53), r54]), d41, d42, all43, .undef, .undef, .undef, .undef, .undef, .undef] H55 (by kernel_rfl) ?_
            refine then_norm ?_
            refine w_cond (t := (((IntKind.wrap .i64 (((BitVec.ofInt (IntKind.bits .i64) (Int.fdiv v32 (2 ^ (Min.min (Int.toNat v49) (IntKind.bits .i64)))) &&& BitVec.ofInt (IntKind.bits .i64) 1).toNat : Int)))) == 1)) rfl (fun hc => ?_) (fun hc => ?_)
            · replace h := h.1 (is_eq.t hc)
              refine w_run [0, 0, 0, 1, 1, 0, 1] ?_
              obtain ⟨b56, H57, hb⟩ : ∃ b H', NewB H55 1 [(.int .i64 v49)] b H' := ⟨_, _, rfl, rfl⟩
              replace h := h b56 H57 hb
              refine t_bs true 1 [(.int .i64 0)] [(0, 1, .loc 0)] 1 [(.int .i64 v49)] [(.int .i64 v49)] b56 H57 H55 (by kernel_rfl) (fill_c (vs := [(.int .i64 v49)]) (size := 1) rfl (by kernel_rfl) (by kernel_rfl) (by kernel_rfl)) hb ?_
              obtain ⟨a58, H59, ha, h⟩ := h
              refine t_app true 1 8 r54 (.slice b56 0 1 (some 1)) a58 H59 H57 (by kernel_rfl) ha ?_
              obtain ⟨hs60, h⟩ := h
              refine t_upd true 1 1 [(.int .i64 r53), r54] a58 [a58] [(.int .i64 r53), a58] H59 (by kernel_rfl) hs60.1 (all_c hs60.2 all_n) ⟨rfl, Nat.le_of_ble_eq_true (by kernel_rfl), rfl⟩ ?_
              refine t_done [list0, (.int .i64 budget1), .empty, (.agg [(.int .i64 0), (.int .i64 0)]), (.agg [(.int .i64 r3), (.int .i64 r4)]), (.bool (!(((r3) == 0) && (((r4) == 0) && true)))), (.bool ((decide (budget1 < 0)) || (decide (budget1 > 16)))), (.int .i64 v12), (.int .i64 (len8 : Int)), (.bool (decide (v12 < (len8 : Int)))), (.int .i64 v12), (.int .i64 v32), (.int .i64 (IntKind.wrap .i64 (1 * 2 ^ (Min.min (Int.toNat v12) (IntKind.bits .i64))))), (.bool (decide (v32 < (IntKind.wrap .i64 (1 * 2 ^ (Min.min (Int.toNat v12) (IntKind.bits .i64))))))), (.int .i64 v49), (.int .i64 v12), (.bool (decide (v49 < v12))), (.int .i64 v32), (.int .i64 v49), (.bool (((IntKind.wrap .i64 (((BitVec.ofInt (IntKind.bits .i64) (Int.fdiv v32 (2 ^ (Min.min (Int.toNat v49) (IntKind.bits .i64)))) &&& BitVec.ofInt (IntKind.bits .i64) 1).toNat : Int)))) == 1)), (.agg [(.int .i64 r53), a58]), d41, d42, all43, .undef, .undef, .undef, .undef, .undef, .undef] H59 (by kernel_rfl) ?_
              refine block_norm ?_
              refine then_norm ?_
              refine w_run [0, 0] ?_
              refine t_done [list0, (.int .i64 budget1), .empty, (.agg [(.int .i64 0), (.int .i64 0)]), (.agg [(.int .i64 r3), (.int .i64 r4)]), (.bool (!(((r3) == 0) && (((r4) == 0) && true)))), (.bool ((decide (budget1 < 0)) || (decide (budget1 > 16)))), (.int .i64 v12), (.int .i64 (len8 : Int)), (.bool (decide (v12 < (len8 : Int)))), (.int .i64 v12), (.int .i64 v32), (.int .i64 (IntKind.wrap .i64 (1 * 2 ^ (Min.min (Int.toNat v12) (IntKind.bits .i64))))), (.bool (decide (v32 < (IntKind.wrap .i64 (1 * 2 ^ (Min.min (Int.toNat v12) (IntKind.bits .i64))))))), (.int .i64 (IntKind.wrap .i64 (v49 + 1))), (.int .i64 v12), (.bool (decide (v49 < v12))), (.int .i64 v32), (.int .i64 v49), (.bool (((IntKind.wrap .i64 (((BitVec.ofInt (IntKind.bits .i64) (Int.fdiv v32 (2 ^ (Min.min (Int.toNat v49) (IntKind.bits .i64)))) &&& BitVec.ofInt (IntKind.bits .i64) 1).toNat : Int)))) == 1)), (.agg [(.int .i64 r53), a58]), d41, d42, all43, .undef, .undef, .undef, .undef, .undef, .undef] H59 (by kernel_rfl) ?_
              obtain ⟨m', hm, h⟩ := h
              refine loop_norm ⟨m', hm, _, _, _, _, _, _, rfl, h⟩
            · replace h := h.2 (is_eq.f hc)
              refine w_skip ?_
              refine block_norm ?_
              refine then_norm ?_
              refine w_run [0, 0] ?_
              refine t_done [list0, (.int .i64 budget1), .empty, (.agg [(.int .i64 0), (.int .i64 0)]), (.agg [(.int .i64 r3), (.int .i64 r4)]), (.bool (!(((r3) == 0) && (((r4) == 0) && true)))), (.bool ((decide (budget1 < 0)) || (decide (budget1 > 16)))), (.int .i64 v12), (.int .i64 (len8 : Int)), (.bool (decide (v12 < (len8 : Int)))), (.int .i64 v12), (.int .i64 v32), (.int .i64 (IntKind.wrap .i64 (1 * 2 ^ (Min.min (Int.toNat v12) (IntKind.bits .i64))))), (.bool (decide (v32 < (IntKind.wrap .i64 (1 * 2 ^ (Min.min (Int.toNat v12) (IntKind.bits .i64))))))), (.int .i64 (IntKind.wrap .i64 (v49 + 1))), (.int .i64 v12), (.bool (decide (v49 < v12))), (.int .i64 v32), (.int .i64 v49), (.bool (((IntKind.wrap .i64 (((BitVec.ofInt (IntKind.bits .i64) (Int.fdiv v32 (2 ^ (Min.min (Int.toNat v49) (IntKind.bits .i64)))) &&& BitVec.ofInt (IntKind.bits .i64) 1).toNat : Int)))) == 1)), (.agg [(.int .i64 r53), r54]), d41, d42, all43, .undef, .undef, .undef, .undef, .undef, .undef] H55 (by kernel_rfl) ?_
              obtain ⟨m', hm, h⟩ := h
              refine loop_norm ⟨m', hm, _, _, _, _, _, _, rfl, h⟩
          · replace h := h.2 (is_dec.f hc)
            refine w_exit ?_
            refine then_exit ?_
            refine loop_exit ?_
            refine block_exit ?_
            refine then_norm ?_
            refine w_seq ?_
            refine w_run [0, 0, 1, 0] ?_
            refine t_call true nspeculate_chance [list0, (.agg [(.int .i64 r53), r54])] H55 (by kernel_rfl) h ?_
            clear h
            rintro _ H64 ⟨r63, rfl, h⟩
            refine t_done [list0, (.int .i64 budget1), .empty, (.agg [(.int .i64 0), (.int .i64 0)]), (.agg [(.int .i64 r3), (.int .i64 r4)]), (.bool (!(((r3) == 0) && (((r4) == 0) && true)))), (.bool ((decide (budget1 < 0)) || (decide (budget1 > 16)))), (.int .i64 v12), (.int .i64 (len8 : Int)), (.bool (decide (v12 < (len8 : Int)))), (.int .i64 v12), (.int .i64 v32), (.int .i64 (IntKind.wrap .i64 (1 * 2 ^ (Min.min (Int.toNat v12) (IntKind.bits .i64))))), (.bool (decide (v32 < (IntKind.wrap .i64 (1 * 2 ^ (Min.min (Int.toNat v12) (IntKind.bits .i64))))))), (.int .i64 v49), (.int .i64 v12), (.bool (decide (v49 < v12))), (.int .i64 v32), d51, d52, (.agg [(.int .i64 r53), r54]), (.int .i64 r63), d42, all43, .undef, .undef, .undef, .undef, .undef, .undef] H64 (by kernel_rfl) ?_
            refine then_norm ?_
            refine w_seq ?_
            refine w_run [0, 0] ?_
            refine t_done [list0, (.int .i64 budget1), .empty, (.agg [(.int .i64 0), (.int .i64 0)]), (.agg [(.int .i64 r3), (.int .i64 r4)]), (.bool (!(((r3) == 0) && (((r4) == 0) && true)))), (.bool ((decide (budget1 < 0)) || (decide (budget1 > 16)))), (.int .i64 v12), (.int .i64 (len8 : Int)), (.bool (decide (v12 < (len8 : Int)))), (.int .i64 v12), (.int .i64 v32), (.int .i64 (IntKind.wrap .i64 (1 * 2 ^ (Min.min (Int.toNat v12) (IntKind.bits .i64))))), (.bool (decide (v32 < (IntKind.wrap .i64 (1 * 2 ^ (Min.min (Int.toNat v12) (IntKind.bits .i64))))))), (.int .i64 v49), (.int .i64 v12), (.bool (decide (v49 < v12))), (.int .i64 v32), d51, d52, (.agg [(.int .i64 r53), r54]), (.int .i64 r63), (.bool (decide (r63 > 0))), all43, .undef, .undef, .undef, .undef, .undef, .undef] H64 (by kernel_rfl) ?_
            refine then_norm ?_
            refine w_cond (t := (decide (r63 > 0))) rfl (fun hc => ?_) (fun hc => ?_)
            · replace h := h.1 (is_dec.t hc)
              refine w_run [0, 0, 0, 1, 1, 1, 0] ?_
              refine t_build true [(.int .i64 0), .empty, (.int .i64 0)] [(0, 2, .loc 0), (2, 1, .loc 1)] [(.agg [(.int .i64 r53), r54]), (.int .i64 r63)] [(.int .i64 r53), r54, (.int .i64 r63)] H64 (by kernel_rfl) (fill_c (vs := [(.int .i64 r53), r54]) (size := 2) rfl (by kernel_rfl) (by kernel_rfl) (fill_c (vs := [(.int .i64 r63)]) (size := 1) rfl (by kernel_rfl) (by kernel_rfl) (by kernel_rfl))) ?_
              obtain ⟨b66, H67, hb⟩ : ∃ b H', NewB H64 3 [(.int .i64 r53), r54, (.int .i64 r63)] b H' := ⟨_, _, rfl, rfl⟩
              replace h := h b66 H67 hb
              refine t_bs true 3 [(.int .i64 0), .empty, (.int .i64 0)] [(0, 3, .loc 0)] 1 [(.agg [(.int .i64 r53), r54, (.int .i64 r63)])] [(.int .i64 r53), r54, (.int .i64 r63)] b66 H67 H64 (by kernel_rfl) (fill_c (vs := [(.int .i64 r53), r54, (.int .i64 r63)]) (size := 3) rfl (by kernel_rfl) (by kernel_rfl) (by kernel_rfl)) hb ?_
              obtain ⟨a68, H69, ha, h⟩ := h
              refine t_app true 3 40 all43 (.slice b66 0 1 (some 1)) a68 H69 H67 (by kernel_rfl) ha ?_
              refine t_done [list0, (.int .i64 budget1), .empty, (.agg [(.int .i64 0), (.int .i64 0)]), (.agg [(.int .i64 r3), (.int .i64 r4)]), (.bool (!(((r3) == 0) && (((r4) == 0) && true)))), (.bool ((decide (budget1 < 0)) || (decide (budget1 > 16)))), (.int .i64 v12), (.int .i64 (len8 : Int)), (.bool (decide (v12 < (len8 : Int)))), (.int .i64 v12), (.int .i64 v32), (.int .i64 (IntKind.wrap .i64 (1 * 2 ^ (Min.min (Int.toNat v12) (IntKind.bits .i64))))), (.bool (decide (v32 < (IntKind.wrap .i64 (1 * 2 ^ (Min.min (Int.toNat v12) (IntKind.bits .i64))))))), (.int .i64 v49), (.int .i64 v12), (.bool (decide (v49 < v12))), (.int .i64 v32), d51, d52, (.agg [(.int .i64 r53), r54]), (.int .i64 r63), (.bool (decide (r63 > 0))), a68, .undef, .undef, .undef, .undef, .undef, .undef] H69 (by kernel_rfl) ?_
              refine block_norm ?_
              refine then_norm ?_
              refine w_run [0, 0] ?_
              refine t_done [list0, (.int .i64 budget1), .empty, (.agg [(.int .i64 0), (.int .i64 0)]), (.agg [(.int .i64 r3), (.int .i64 r4)]), (.bool (!(((r3) == 0) && (((r4) == 0) && true)))), (.bool ((decide (budget1 < 0)) || (decide (budget1 > 16)))), (.int .i64 v12), (.int .i64 (len8 : Int)), (.bool (decide (v12 < (len8 : Int)))), (.int .i64 v12), (.int .i64 (IntKind.wrap .i64 (v32 + 1))), (.int .i64 (IntKind.wrap .i64 (1 * 2 ^ (Min.min (Int.toNat v12) (IntKind.bits .i64))))), (.bool (decide (v32 < (IntKind.wrap .i64 (1 * 2 ^ (Min.min (Int.toNat v12) (IntKind.bits .i64))))))), (.int .i64 v49), (.int .i64 v12), (.bool (decide (v49 < v12))), (.int .i64 v32), d51, d52, (.agg [(.int .i64 r53), r54]), (.int .i64 r63), (.bool (decide (r63 > 0))), a68, .undef, .undef, .undef, .undef, .undef, .undef] H69 (by kernel_rfl) ?_
              obtain ⟨m', hm, h⟩ := h
              refine loop_norm ⟨m', hm, _, _, _, _, _, _, _, _, _, _, _, _, rfl, h⟩
            · replace h := h.2 (is_dec.f hc)
              refine w_skip ?_
              refine block_norm ?_
              refine then_norm ?_
              refine w_run [0, 0] ?_
              refine t_done [list0, (.int .i64 budget1), .empty, (.agg [(.int .i64 0), (.int .i64 0)]), (.agg [(.int .i64 r3), (.int .i64 r4)]), (.bool (!(((r3) == 0) && (((r4) == 0) && true)))), (.bool ((decide (budget1 < 0)) || (decide (budget1 > 16)))), (.int .i64 v12), (.int .i64 (len8 : Int)), (.bool (decide (v12 < (len8 : Int)))), (.int .i64 v12), (.int .i64 (IntKind.wrap .i64 (v32 + 1))), (.int .i64 (IntKind.wrap .i64 (1 * 2 ^ (Min.min (Int.toNat v12) (IntKind.bits .i64))))), (.bool (decide (v32 < (IntKind.wrap .i64 (1 * 2 ^ (Min.min (Int.toNat v12) (IntKind.bits .i64))))))), (.int .i64 v49), (.int .i64 v12), (.bool (decide (v49 < v12))), (.int .i64 v32), d51, d52, (.agg [(.int .i64 r53), r54]), (.int .i64 r63), (.bool (decide (r63 > 0))), all43, .undef, .undef, .undef, .undef, .undef, .undef] H64 (by kernel_rfl) ?_
              obtain ⟨m', hm, h⟩ := h
              refine loop_norm ⟨m', hm, _, _, _, _, _, _, _, _, _, _, _, _, rfl, h⟩
        · replace h := h.2 (is_dec.f hc)
          refine w_exit ?_
          refine then_exit ?_
          refine loop_exit ?_
          refine block_exit ?_
          refine block_norm ?_
          refine then_norm ?_
          refine w_run [0, 0] ?_
          refine t_done [list0, (.int .i64 budget1), .empty, (.agg [(.int .i64 0), (.int .i64 0)]), (.agg [(.int .i64 r3), (.int .i64 r4)]), (.bool (!(((r3) == 0) && (((r4) == 0) && true)))), (.bool ((decide (budget1 < 0)) || (decide (budget1 > 16)))), (.int .i64 (IntKind.wrap .i64 (v12 + 1))), (.int .i64 (len8 : Int)), (.bool (decide (v12 < (len8 : Int)))), (.int .i64 v12), (.int .i64 v32), (.int .i64 (IntKind.wrap .i64 (1 * 2 ^ (Min.min (Int.toNat v12) (IntKind.bits .i64))))), (.bool (decide (v32 < (IntKind.wrap .i64 (1 * 2 ^ (Min.min (Int.toNat v12) (IntKind.bits .i64))))))), d34, d35, d36, d37, d38, d39, d40, d41, d42, all43, .undef, .undef, .undef, .undef, .undef, .undef] H44 (by kernel_rfl) ?_
          obtain ⟨m', hm, h⟩ := h
          refine loop_norm ⟨m', hm, _, _, _, _, _, _, _, _, _, _, _, _, _, _, _, _, rfl, h⟩
      · replace h := h.2 (is_dec.f hc)
        refine w_exit ?_
        refine then_exit ?_
        refine loop_exit ?_
        refine block_exit ?_
        refine then_norm ?_
        refine w_seq ?_
        refine w_run [0, 1] ?_
        refine t_call true nslices_SortStableFunc__speculate_planned_speculate_planned [all27, (.func nspeculate_Planx1 [])] H28 (by kernel_rfl) h ?_
        clear h
        rintro _ H73 ⟨rfl, h⟩
        refine t_done [list0, (.int .i64 budget1), .empty, (.agg [(.int .i64 0), (.int .i64 0)]), (.agg [(.int .i64 r3), (.int .i64 r4)]), (.bool (!(((r3) == 0) && (((r4) == 0) && true)))), (.bool ((decide (budget1 < 0)) || (decide (budget1 > 16)))), (.int .i64 v12), (.int .i64 (len8 : Int)), (.bool (decide (v12 < (len8 : Int)))), d14, d15, d16, d17, d18, d19, d20, d21, d22, d23, d24, d25, d26, all27, .undef, .undef, .undef, .undef, .undef, .undef] H73 (by kernel_rfl) ?_
        refine then_norm ?_
        refine w_seq ?_
        refine w_run [0] ?_
        refine t_done [list0, (.int .i64 budget1), .empty, (.agg [(.int .i64 0), (.int .i64 0)]), (.agg [(.int .i64 r3), (.int .i64 r4)]), (.bool (!(((r3) == 0) && (((r4) == 0) && true)))), (.bool ((decide (budget1 < 0)) || (decide (budget1 > 16)))), (.int .i64 v12), (.int .i64 (len8 : Int)), (.bool (decide (v12 < (len8 : Int)))), d14, d15, d16, d17, d18, d19, d20, d21, d22, d23, d24, d25, d26, all27, .undef, .undef, .undef, .undef, .empty, .undef] H73 (by kernel_rfl) ?_
        refine then_norm ?_
        refine w_seq ?_
        refine w_seq ?_
        refine w_run [0, 0, 0, 1, 0, 1, 1, 0] ?_
        obtain ⟨len75, hl, h⟩ := h
        refine t_len true all27 len75 H73 (by kernel_rfl) hl ?_
        obtain ⟨s76, hs, h⟩ := h
        refine t_slcH true 3 all27 (.int .i64 (imin budget1 (len75 : Int))) s76 H73 (by kernel_rfl) hs ?_
        obtain ⟨len77, hl, h⟩ := h
        refine t_len true s76 len77 H73 (by kernel_rfl) hl ?_
        refine t_done [list0, (.int .i64 budget1), .empty, (.agg [(.int .i64 0), (.int .i64 0)]), (.agg [(.int .i64 r3), (.int .i64 r4)]), (.bool (!(((r3) == 0) && (((r4) == 0) && true)))), (.bool ((decide (budget1 < 0)) || (decide (budget1 > 16)))), (.int .i64 v12), (.int .i64 (len8 : Int)), (.bool (decide (v12 < (len8 : Int)))), d14, d15, d16, d17, d18, d19, d20, d21, d22, d23, d24, d25, d26, all27, (.int .i64 0), (.int .i64 (len77 : Int)), .undef, s76, .empty, .undef] H73 (by kernel_rfl) ?_
        refine then_norm ?_
        refine w_block ?_
        obtain ⟨J78, k79, h0, h⟩ := h
        refine w_loop (I := fun mI EI HI => ∃ (v81 : Int) (d82 : AV) (out83 : AV) (d84 : AV), EI = [list0, (.int .i64 budget1), .empty, (.agg [(.int .i64 0), (.int .i64 0)]), (.agg [(.int .i64 r3), (.int .i64 r4)]), (.bool (!(((r3) == 0) && (((r4) == 0) && true)))), (.bool ((decide (budget1 < 0)) || (decide (budget1 > 16)))), (.int .i64 v12), (.int .i64 (len8 : Int)), (.bool (decide (v12 < (len8 : Int)))), d14, d15, d16, d17, d18, d19, d20, d21, d22, d23, d24, d25, d26, all27, (.int .i64 v81), (.int .i64 (len77 : Int)), d82, s76, out83, d84] ∧ J78 mI v81 out83 HI) ?_ k79 ⟨_, _, _, _, rfl, h0⟩
        clear h0
        rintro m80 EI H85 ⟨v81, d82, out83, d84, rfl, hJ⟩
        replace h := h m80 v81 out83 H85 hJ
        clear hJ
        refine w_seq ?_
        refine w_run [0] ?_
        refine t_done [list0, (.int .i64 budget1), .empty, (.agg [(.int .i64 0), (.int .i64 0)]), (.agg [(.int .i64 r3), (.int .i64 r4)]), (.bool (!(((r3) == 0) && (((r4) == 0) && true)))), (.bool ((decide (budget1 < 0)) || (decide (budget1 > 16)))), (.int .i64 v12), (.int .i64 (len8 : Int)), (.bool (decide (v12 < (len8 : Int)))), d14, d15, d16, d17, d18, d19, d20, d21, d22, d23, d24, d25, d26, all27, (.int .i64 v81), (.int .i64 (len77 : Int)), (.bool (decide (v81 < (len77 : Int)))), s76, out83, d84] H85 (by kernel_rfl) ?_
        refine then_norm ?_
        refine w_seq ?_
        refine w_cond (t := (decide (v81 < (len77 : Int)))) rfl (fun hc => ?_) (fun hc => ?_)
        · replace h := h.1 (is_dec.t hc)
          refine w_skip ?_
          refine then_norm ?_
          refine w_seq ?_
          refine w_block ?_
          refine w_seq ?_
          refine w_run [1, 1, 1, 1] ?_
          obtain ⟨e86, e87, e88, hg89, h⟩ := h
          refine t_idxG true 3 s76 .i64 v81 H85 (by kernel_rfl) hg89 ?_
          refine t_loadG true (some 3) 3 s76 v81 0 (.agg [(.int .i64 e86), e87, (.int .i64 e88)]) H85 (by kernel_rfl) hg89 ?_
          obtain ⟨H90, hb⟩ : ∃ H', Dead1 H85 1 H' := ⟨_, ⟨rfl⟩⟩
          replace h := h H90 hb
          refine t_tomb true 1 (.agg [(.int .i64 0), .empty, (.int .i64 0)]) [(.int .i64 0), .empty, (.int .i64 0)] H90 H85 (by kernel_rfl) rfl hb ?_
          obtain ⟨hs91, h⟩ := h
          refine t_upd true 3 0 [(.int .i64 0), .empty, (.int .i64 0)] (.agg [(.int .i64 e86), e87, (.int .i64 e88)]) [(.int .i64 e86), e87, (.int .i64 e88)] [(.int .i64 e86), e87, (.int .i64 e88)] H90 (by kernel_rfl) rfl (all_c rfl (all_c hs91.2 (all_c rfl all_n))) ⟨rfl, Nat.le_of_ble_eq_true (by kernel_rfl), rfl⟩ ?_
          refine t_done [list0, (.int .i64 budget1), .empty, (.agg [(.int .i64 0), (.int .i64 0)]), (.agg [(.int .i64 r3), (.int .i64 r4)]), (.bool (!(((r3) == 0) && (((r4) == 0) && true)))), (.bool ((decide (budget1 < 0)) || (decide (budget1 > 16)))), (.int .i64 v12), (.int .i64 (len8 : Int)), (.bool (decide (v12 < (len8 : Int)))), d14, d15, d16, d17, d18, d19, d20, d21, d22, d23, d24, d25, d26, all27, (.int .i64 v81), (.int .i64 (len77 : Int)), (.bool (decide (v81 < (len77 : Int)))), s76, out83, (.agg [(.int .i64 e86), e87, (.int .i64 e88)])] H90 (by kernel_rfl) ?_
          refine then_norm ?_
          refine w_run [0, 0, 0, 1, 1, 0] ?_
          obtain ⟨b92, H93, hb⟩ : ∃ b H', NewB H90 2 [(.int .i64 e86), e87] b H' := ⟨_, _, rfl, rfl⟩
          replace h := h b92 H93 hb
          refine t_bs true 2 [(.int .i64 0), .empty] [(0, 2, .loc 0)] 1 [(.agg [(.int .i64 e86), e87])] [(.int .i64 e86), e87] b92 H93 H90 (by kernel_rfl) (fill_c (vs := [(.int .i64 e86), e87]) (size := 2) rfl (by kernel_rfl) (by kernel_rfl) (by kernel_rfl)) hb ?_
          obtain ⟨a94, H95, ha, h⟩ := h
          refine t_app true 2 32 out83 (.slice b92 0 1 (some 1)) a94 H95 H93 (by kernel_rfl) ha ?_
          refine t_done [list0, (.int .i64 budget1), .empty, (.agg [(.int .i64 0), (.int .i64 0)]), (.agg [(.int .i64 r3), (.int .i64 r4)]), (.bool (!(((r3) == 0) && (((r4) == 0) && true)))), (.bool ((decide (budget1 < 0)) || (decide (budget1 > 16)))), (.int .i64 v12), (.int .i64 (len8 : Int)), (.bool (decide (v12 < (len8 : Int)))), d14, d15, d16, d17, d18, d19, d20, d21, d22, d23, d24, d25, d26, all27, (.int .i64 v81), (.int .i64 (len77 : Int)), (.bool (decide (v81 < (len77 : Int)))), s76, a94, (.agg [(.int .i64 e86), e87, (.int .i64 e88)])] H95 (by kernel_rfl) ?_
          refine block_norm ?_
          refine then_norm ?_
          refine w_run [0, 0] ?_
          refine t_done [list0, (.int .i64 budget1), .empty, (.agg [(.int .i64 0), (.int .i64 0)]), (.agg [(.int .i64 r3), (.int .i64 r4)]), (.bool (!(((r3) == 0) && (((r4) == 0) && true)))), (.bool ((decide (budget1 < 0)) || (decide (budget1 > 16)))), (.int .i64 v12), (.int .i64 (len8 : Int)), (.bool (decide (v12 < (len8 : Int)))), d14, d15, d16, d17, d18, d19, d20, d21, d22, d23, d24, d25, d26, all27, (.int .i64 (IntKind.wrap .i64 (v81 + 1))), (.int .i64 (len77 : Int)), (.bool (decide (v81 < (len77 : Int)))), s76, a94, (.agg [(.int .i64 e86), e87, (.int .i64 e88)])] H95 (by kernel_rfl) ?_
          obtain ⟨m', hm, h⟩ := h
          refine loop_norm ⟨m', hm, _, _, _, _, rfl, h⟩
        · replace h := h.2 (is_dec.f hc)
          refine w_exit ?_
          refine then_exit ?_
          refine loop_exit ?_
          refine block_exit ?_
          refine then_norm ?_
          refine w_seq ?_
          refine w_run [0, 1, 0, 1] ?_
          refine t_build true [(.int .i64 0), (.int .i64 0)] [] [] [(.int .i64 0), (.int .i64 0)] H85 (by kernel_rfl) (by kernel_rfl) ?_
          refine t_upd true 2 0 [(.int .i64 0), (.int .i64 0)] (.agg [(.int .i64 0), (.int .i64 0)]) [(.int .i64 0), (.int .i64 0)] [(.int .i64 0), (.int .i64 0)] H85 (by kernel_rfl) rfl (all_c rfl (all_c rfl all_n)) ⟨rfl, Nat.le_of_ble_eq_true (by kernel_rfl), rfl⟩ ?_
          refine t_done [list0, (.int .i64 budget1), out83, (.agg [(.int .i64 0), (.int .i64 0)]), (.agg [(.int .i64 r3), (.int .i64 r4)]), (.bool (!(((r3) == 0) && (((r4) == 0) && true)))), (.bool ((decide (budget1 < 0)) || (decide (budget1 > 16)))), (.int .i64 v12), (.int .i64 (len8 : Int)), (.bool (decide (v12 < (len8 : Int)))), d14, d15, d16, d17, d18, d19, d20, d21, d22, d23, d24, d25, d26, all27, (.int .i64 v81), (.int .i64 (len77 : Int)), (.bool (decide (v81 < (len77 : Int)))), s76, out83, d84] H85 (by kernel_rfl) ?_
          refine then_norm ?_
          refine w_ret ?_
          exact body_ret (vs := [out83, (.agg [(.int .i64 0), (.int .i64 0)])]) _ (by kernel_rfl) rfl h

def rf_speculate_percents : RFunc := ⟨1, 10, [.part 1 (some 2)],
 ((.seq (.ops [⟨.tomb 1 (.k (.agg [.int .i64 0, .int .i64 0])), none, (some 1), true⟩])
 ((.seq ((.seq (.ops [⟨.move (.var 0), none, none, true⟩, ⟨.len (.loc 0), none, none, true⟩, ⟨.bin .gtr .no (.loc 1) (.k (.int .i64 8)), none, (some 2), true⟩])
 (.cond (.var 2) ((.seq (.ops [⟨.build [.int .i64 0, .int .i64 0] [(0, 1, (.k (.int .i64 2))), (1, 1, (.k (.int .i64 (-1))))], none, none, true⟩, ⟨.upd 2 0 (.var 1) (.loc 0), none, (some 1), true⟩])
 (.ret))) (.skip))))
 ((.seq ((.seq (.ops [⟨.move (.var 0), none, (some 6), true⟩, ⟨.len (.loc 0), none, (some 4), true⟩, ⟨.move (.k (.int .i64 0)), none, (some 3), true⟩])
 (.block 0 (.loop ((.seq (.ops [⟨.bin .lss .no (.var 3) (.var 4), none, (some 5), true⟩])
 ((.seq (.cond (.var 5) (.skip) (.exit 0))
 ((.seq (.block 1 ((.seq (.ops [⟨.move (.var 3), none, none, true⟩, ⟨.indexAddr 1 (.var 6) (.var 3), none, none, true⟩, ⟨.load none (.loc 1), none, none, true⟩, ⟨.move (.loc 0), none, (some 9), true⟩, ⟨.move (.loc 2), none, (some 7), true⟩])
 ((.seq (.ops [⟨.move (.var 7), none, none, true⟩, ⟨.bin .lss .no (.loc 0) (.k (.int .i64 0)), none, none, true⟩, ⟨.move (.loc 1), none, none, true⟩, ⟨.move (.var 7), none, none, true⟩, ⟨.bin .gtr .no (.loc 3) (.k (.int .i64 100)), none, none, true⟩, ⟨.pick (.loc 2) (.k (.bool true)) (.loc 4), none, (some 8), true⟩])
 (.cond (.var 8) ((.seq (.ops [⟨.move (.var 9), none, none, true⟩, ⟨.build [.int .i64 0, .int .i64 0] [(0, 1, (.k (.int .i64 3))), (1, 1, (.loc 0))], none, none, true⟩, ⟨.upd 2 0 (.var 1) (.loc 1), none, (some 1), true⟩])
 (.ret))) (.skip)))))))
 (.ops [⟨.bin .add .no (.var 3) (.k (.int .i64 1)), none, none, true⟩, ⟨.move (.loc 0), none, (some 3), true⟩])))))))))))
 ((.seq (.ops [⟨.build [.int .i64 0, .int .i64 0] [], none, none, true⟩, ⟨.upd 2 0 (.var 1) (.loc 0), none, (some 1), true⟩])
 (.ret))))))))), none⟩
theorem v_speculate_percents {F : Nat → Option RFunc} {me : Nat} (hF : F me = some (rf_speculate_percents )) {fl : Nat} {H : Heap} {Q : AV → Heap → Prop} (list0 : AV)
  (h : ∀ (H1 : Heap), Dead1 H 1 H1 → ∃ len2 : Nat, lenA list0 = some len2 ∧ (((len2 : Int) > 8) → Q (.agg [(.int .i64 2), (.int .i64 (-1))]) H1) ∧ (¬((len2 : Int) > 8) → ∃ len3 : Nat, lenA list0 = some len3 ∧ ∃ (J4 : Nat → Int → Int → Int → Prop) (k5 : Nat), J4 k5 0 0 0 ∧ (∀ (m6 : Nat) (v7 : Int) (v8 : Int) (v9 : Int), J4 m6 v7 v8 v9 → ((v9 < (len3 : Int)) → ∃ (e14 : Int), getA H1 1 none list0 v9 0 = some (.int .i64 e14) ∧ ((((e14 < 0) ∨ (e14 > 100))) → Q (.agg [(.int .i64 3), (.int .i64 v9)]) H1) ∧ (¬(((e14 < 0) ∨ (e14 > 100))) → ∃ m16 : Nat, m16 < m6 ∧ J4 m16 v7 v8 (IntKind.wrap .i64 (v9 + 1)))) ∧ (¬(v9 < (len3 : Int)) → Q (.agg [(.int .i64 0), (.int .i64 0)]) H1)))) : Ret F fl me [list0] H Q := by
  refine ret_intro hF rfl ?_
  refine w_seq ?_
  refine w_run [1] ?_
  obtain ⟨H1, hb⟩ : ∃ H', Dead1 H 1 H' := ⟨_, ⟨rfl⟩⟩
  replace h := h H1 hb
  refine t_tomb true 1 (.agg [(.int .i64 0), (.int .i64 0)]) [(.int .i64 0), (.int .i64 0)] H1 H (by kernel_rfl) rfl hb ?_
  refine t_done [list0, (.agg [(.int .i64 0), (.int .i64 0)]), .undef, .undef, .undef, .undef, .undef, .undef, .undef, .undef] H1 (by kernel_rfl) ?_
  refine then_norm ?_
  refine w_seq ?_
  refine w_seq ?_
  refine w_run [0, 1, 0] ?_
  obtain ⟨len2, hl, h⟩ := h
  refine t_len true list0 len2 H1 (by kernel_rfl) hl ?_
  refine t_done [list0, (.agg [(.int .i64 0), (.int .i64 0)]), (.bool (decide ((len2 : Int) > 8))), .undef, .undef, .undef, .undef, .undef, .undef, .undef] H1 (by kernel_rfl) ?_
  refine then_norm ?_
  refine w_cond (t := (decide ((len2 : Int) > 8))) rfl (fun hc => ?_) (fun hc => ?_)
  · replace h := h.1 (is_dec.t hc)
    refine w_seq ?_
    refine w_run [1, 1] ?_
    refine t_build true [(.int .i64 0), (.int .i64 0)] [(0, 1, .loc 0), (1, 1, .loc 1)] [(.int .i64 2), (.int .i64 (-1))] [(.int .i64 2), (.int .i64 (-1))] H1 (by kernel_rfl) (fill_c (vs := [(.int .i64 2)]) (size := 1) rfl (by kernel_rfl) (by kernel_rfl) (fill_c (vs := [(.int .i64 (-1))]) (size := 1) rfl (by kernel_rfl) (by kernel_rfl) (by kernel_rfl))) ?_
    refine t_upd true 2 0 [(.int .i64 0), (.int .i64 0)] (.agg [(.int .i64 2), (.int .i64 (-1))]) [(.int .i64 2), (.int .i64 (-1))] [(.int .i64 2), (.int .i64 (-1))] H1 (by kernel_rfl) rfl (all_c rfl (all_c rfl all_n)) ⟨rfl, Nat.le_of_ble_eq_true (by kernel_rfl), rfl⟩ ?_
    refine t_done [list0, (.agg [(.int .i64 2), (.int .i64 (-1))]), (.bool (decide ((len2 : Int) > 8))), .undef, .undef, .undef, .undef, .undef, .undef, .undef] H1 (by kernel_rfl) ?_
    refine then_norm ?_
    refine w_ret ?_
    refine then_ret ?_
    exact body_ret (vs := [(.agg [(.int .i64 2), (.int .i64 (-1))])]) _ (by kernel_rfl) rfl h
  · replace h := h.2 (is_dec.f hc)
    refine w_skip ?_
    refine then_norm ?_
    refine w_seq ?_
    refine w_seq ?_
    refine w_run [0, 1, 0] ?_
    obtain ⟨len3, hl, h⟩ := h
    refine t_len true list0 len3 H1 (by kernel_rfl) hl ?_
    refine t_done [list0, (.agg [(.int .i64 0), (.int .i64 0)]), (.bool (decide ((len2 : Int) > 8))), (.int .i64 0), (.int .i64 (len3 : Int)), .undef, list0, .undef, .undef, .undef] H1 (by kernel_rfl) ?_
    refine then_norm ?_
    refine w_block ?_
    obtain ⟨J4, k5, h0, h⟩ := h
    refine w_loop (I := fun mI EI HI => ∃ (v7 : Int) (v8 : Int) (v9 : Int) (d10 : AV) (d11 : AV) (d12 : AV) (d13 : AV), EI = [list0, (.agg [(.int .i64 v7), (.int .i64 v8)]), (.bool (decide ((len2 : Int) > 8))), (.int .i64 v9), (.int .i64 (len3 : Int)), d10, list0, d11, d12, d13] ∧ H1 = HI ∧ J4 mI v7 v8 v9) ?_ k5 ⟨_, _, _, _, _, _, _, rfl, rfl, h0⟩
    clear h0
    rintro m6 EI HI ⟨v7, v8, v9, d10, d11, d12, d13, rfl, rfl, hJ⟩
    replace h := h m6 v7 v8 v9  hJ
    clear hJ
    refine w_seq ?_
    refine w_run [0] ?_
    refine t_done [list0, (.agg [(.int .i64 v7), (.int .i64 v8)]), (.bool (decide ((len2 : Int) > 8))), (.int .i64 v9), (.int .i64 (len3 : Int)), (.bool (decide (v9 < (len3 : Int)))), list0, d11, d12, d13] H1 (by kernel_rfl) ?_
    refine then_norm ?_
    refine w_seq ?_
    refine w_cond (t := (decide (v9 < (len3 : Int)))) rfl (fun hc => ?_) (fun hc => ?_)
    · replace h := h.1 (is_dec.t hc)
      refine w_skip ?_
      refine then_norm ?_
      refine w_seq ?_
      refine w_block ?_
      refine w_seq ?_
      refine w_run [0, 1, 1, 0, 0] ?_
      obtain ⟨e14, hg15, h⟩ := h
      refine t_idxG true 1 list0 .i64 v9 H1 (by kernel_rfl) hg15 ?_
      refine t_loadG true none 1 list0 v9 0 (.int .i64 e14) H1 (by kernel_rfl) hg15 ?_
      refine t_done [list0, (.agg [(.int .i64 v7), (.int .i64 v8)]), (.bool (decide ((len2 : Int) > 8))), (.int .i64 v9), (.int .i64 (len3 : Int)), (.bool (decide (v9 < (len3 : Int)))), list0, (.int .i64 e14), d12, (.int .i64 v9)] H1 (by kernel_rfl) ?_
      refine then_norm ?_
      refine w_seq ?_
      refine w_run [0, 0, 0, 0, 0, 0] ?_
      refine t_done [list0, (.agg [(.int .i64 v7), (.int .i64 v8)]), (.bool (decide ((len2 : Int) > 8))), (.int .i64 v9), (.int .i64 (len3 : Int)), (.bool (decide (v9 < (len3 : Int)))), list0, (.int .i64 e14), (.bool ((decide (e14 < 0)) || (decide (e14 > 100)))), (.int .i64 v9)] H1 (by kernel_rfl) ?_
      refine then_norm ?_
      refine w_cond (t := ((decide (e14 < 0)) || (decide (e14 > 100)))) rfl (fun hc => ?_) (fun hc => ?_)
      · replace h := h.1 ((is_or is_dec is_dec).t hc)
        refine w_seq ?_
        refine w_run [0, 1, 1] ?_
        refine t_build true [(.int .i64 0), (.int .i64 0)] [(0, 1, .loc 0), (1, 1, .loc 1)] [(.int .i64 3), (.int .i64 v9)] [(.int .i64 3), (.int .i64 v9)] H1 (by kernel_rfl) (fill_c (vs := [(.int .i64 3)]) (size := 1) rfl (by kernel_rfl) (by kernel_rfl) (fill_c (vs := [(.int .i64 v9)]) (size := 1) rfl (by kernel_rfl) (by kernel_rfl) (by kernel_rfl))) ?_
        refine t_upd true 2 0 [(.int .i64 v7), (.int .i64 v8)] (.agg [(.int .i64 3), (.int .i64 v9)]) [(.int .i64 3), (.int .i64 v9)] [(.int .i64 3), (.int .i64 v9)] H1 (by kernel_rfl) rfl (all_c rfl (all_c rfl all_n)) ⟨rfl, Nat.le_of_ble_eq_true (by kernel_rfl), rfl⟩ ?_
        refine t_done [list0, (.agg [(.int .i64 3), (.int .i64 v9)]), (.bool (decide ((len2 : Int) > 8))), (.int .i64 v9), (.int .i64 (len3 : Int)), (.bool (decide (v9 < (len3 : Int)))), list0, (.int .i64 e14), (.bool ((decide (e14 < 0)) || (decide (e14 > 100)))), (.int .i64 v9)] H1 (by kernel_rfl) ?_
        refine then_norm ?_
        refine w_ret ?_
        refine block_ret ?_
        refine then_ret ?_
        refine loop_ret ?_
        refine block_ret ?_
        refine then_ret ?_
        exact body_ret (vs := [(.agg [(.int .i64 3), (.int .i64 v9)])]) _ (by kernel_rfl) rfl h
      · replace h := h.2 ((is_or is_dec is_dec).f hc)
        refine w_skip ?_
        refine block_norm ?_
        refine then_norm ?_
        refine w_run [0, 0] ?_
        refine t_done [list0, (.agg [(.int .i64 v7), (.int .i64 v8)]), (.bool (decide ((len2 : Int) > 8))), (.int .i64 (IntKind.wrap .i64 (v9 + 1))), (.int .i64 (len3 : Int)), (.bool (decide (v9 < (len3 : Int)))), list0, (.int .i64 e14), (.bool ((decide (e14 < 0)) || (decide (e14 > 100)))), (.int .i64 v9)] H1 (by kernel_rfl) ?_
        obtain ⟨m', hm, h⟩ := h
        refine loop_norm ⟨m', hm, _, _, _, _, _, _, _, rfl, rfl, h⟩
    · replace h := h.2 (is_dec.f hc)
      refine w_exit ?_
      refine then_exit ?_
      refine loop_exit ?_
      refine block_exit ?_
      refine then_norm ?_
      refine w_seq ?_
      refine w_run [1, 1] ?_
      refine t_build true [(.int .i64 0), (.int .i64 0)] [] [] [(.int .i64 0), (.int .i64 0)] H1 (by kernel_rfl) (by kernel_rfl) ?_
      refine t_upd true 2 0 [(.int .i64 v7), (.int .i64 v8)] (.agg [(.int .i64 0), (.int .i64 0)]) [(.int .i64 0), (.int .i64 0)] [(.int .i64 0), (.int .i64 0)] H1 (by kernel_rfl) rfl (all_c rfl (all_c rfl all_n)) ⟨rfl, Nat.le_of_ble_eq_true (by kernel_rfl), rfl⟩ ?_
      refine t_done [list0, (.agg [(.int .i64 0), (.int .i64 0)]), (.bool (decide ((len2 : Int) > 8))), (.int .i64 v9), (.int .i64 (len3 : Int)), (.bool (decide (v9 < (len3 : Int)))), list0, d11, d12, d13] H1 (by kernel_rfl) ?_
      refine then_norm ?_
      refine w_ret ?_
      exact body_ret (vs := [(.agg [(.int .i64 0), (.int .i64 0)])]) _ (by kernel_rfl) rfl h

def rf_speculate_runCode : RFunc := ⟨2, 13, [.var 2],
 ((.seq (.ops [⟨.tomb 1 (.var 1), none, (some 3), true⟩, ⟨.move (.k (.int .i64 0)), none, (some 2), true⟩])
 ((.seq ((.seq (.ops [⟨.field 0 none (.var 3), none, none, true⟩, ⟨.field 0 none (.var 3), none, none, true⟩, ⟨.bin .lss .no (.loc 1) (.k (.int .i64 0)), none, none, true⟩, ⟨.move (.loc 2), none, none, true⟩, ⟨.field 0 none (.var 3), none, none, true⟩, ⟨.field 0 none (.var 3), none, none, true⟩, ⟨.move (.var 0), none, none, true⟩, ⟨.bin .geq .no (.loc 5) (.loc 6), none, none, true⟩, ⟨.pick (.loc 3) (.k (.bool true)) (.loc 7), none, (some 4), true⟩])
 (.cond (.var 4) ((.seq (.ops [⟨.move (.k (.int .i64 3)), none, (some 2), true⟩])
 (.ret))) (.skip))))
 ((.seq ((.seq (.ops [⟨.field 0 none (.var 3), none, none, true⟩, ⟨.field 1 none (.var 3), none, (some 8), true⟩, ⟨.len (.loc 1), none, (some 6), true⟩, ⟨.move (.k (.int .i64 0)), none, (some 5), true⟩])
 (.block 0 (.loop ((.seq (.ops [⟨.bin .lss .no (.var 5) (.var 6), none, (some 7), true⟩])
 ((.seq (.cond (.var 7) (.skip) (.exit 0))
 ((.seq (.block 1 ((.seq (.ops [⟨.move (.var 5), none, none, true⟩, ⟨.indexAddr 1 (.var 8) (.var 5), none, none, true⟩, ⟨.load none (.loc 1), none, none, true⟩, ⟨.move (.loc 0), none, (some 11), true⟩, ⟨.move (.loc 2), none, (some 9), true⟩])
 (.block 2 ((.seq (.ops [⟨.move (.var 9), none, none, true⟩, ⟨.bin .lss .no (.loc 0) (.k (.int .i64 0)), none, none, true⟩, ⟨.move (.loc 1), none, none, true⟩, ⟨.move (.var 9), none, none, true⟩, ⟨.field 0 none (.var 3), none, none, true⟩, ⟨.field 0 none (.var 3), none, none, true⟩, ⟨.bin .geq .no (.loc 3) (.loc 5), none, none, true⟩, ⟨.pick (.loc 2) (.k (.bool true)) (.loc 6), none, none, true⟩, ⟨.move (.loc 7), none, (some 10), true⟩])
 (.cond (.var 10) ((.seq (.ops [⟨.move (.k (.int .i64 3)), none, (some 2), true⟩])
 (.ret))) ((.seq (.ops [⟨.move (.var 11), none, none, true⟩, ⟨.bin .gtr .no (.loc 0) (.k (.int .i64 0)), none, none, true⟩, ⟨.move (.loc 1), none, none, true⟩, ⟨.move (.var 9), none, none, true⟩, ⟨.field 0 none (.var 3), none, none, true⟩, ⟨.field 1 none (.var 3), none, none, true⟩, ⟨.move (.var 11), none, none, true⟩, ⟨.bin .sub .no (.loc 6) (.k (.int .i64 1)), none, none, true⟩, ⟨.indexAddr 1 (.loc 5) (.loc 7), (some (2, true)), none, true⟩, ⟨.load none (.loc 8), (some (2, true)), none, true⟩, ⟨.bin .leq .no (.loc 3) (.loc 9), (some (2, true)), none, true⟩, ⟨.pick (.loc 2) (.loc 10) (.k (.bool false)), none, none, true⟩, ⟨.move (.loc 11), none, (some 12), true⟩])
 (.cond (.var 12) ((.seq (.ops [⟨.move (.k (.int .i64 5)), none, (some 2), true⟩])
 (.ret))) (.skip)))))))))))
 (.ops [⟨.bin .add .no (.var 5) (.k (.int .i64 1)), none, none, true⟩, ⟨.move (.loc 0), none, (some 5), true⟩])))))))))))
 ((.seq (.ops [⟨.move (.k (.int .i64 0)), none, (some 2), true⟩])
 (.ret))))))))), none⟩
theorem v_speculate_runCode {F : Nat → Option RFunc} {me : Nat} (hF : F me = some (rf_speculate_runCode )) {fl : Nat} {H : Heap} {Q : AV → Heap → Prop} (n0 : Int) (r1 : Int) (r2 : AV)
  (h : ∀ (H3 : Heap), Dead1 H 1 H3 → ((((r1 < 0) ∨ (r1 ≥ n0))) → Q (.int .i64 3) H3) ∧ (¬(((r1 < 0) ∨ (r1 ≥ n0))) → ∃ len4 : Nat, lenA r2 = some len4 ∧ ∃ (J5 : Nat → Int → Prop) (k6 : Nat), J5 k6 0 ∧ (∀ (m7 : Nat) (v9 : Int), J5 m7 v9 → ((v9 < (len4 : Int)) → ∃ (e15 : Int), getA H3 1 none r2 v9 0 = some (.int .i64 e15) ∧ ((((e15 < 0) ∨ (e15 ≥ r1))) → Q (.int .i64 3) H3) ∧ (¬(((e15 < 0) ∨ (e15 ≥ r1))) → ((v9 > 0) → ∃ (e17 : Int), getA H3 1 none r2 (IntKind.wrap .i64 (v9 - 1)) 0 = some (.int .i64 e17) ∧ ((e15 ≤ e17) → Q (.int .i64 5) H3) ∧ (¬(e15 ≤ e17) → ∃ m19 : Nat, m19 < m7 ∧ J5 m19 (IntKind.wrap .i64 (v9 + 1)))) ∧ (¬(v9 > 0) → ∃ m20 : Nat, m20 < m7 ∧ J5 m20 (IntKind.wrap .i64 (v9 + 1))))) ∧ (¬(v9 < (len4 : Int)) → Q (.int .i64 0) H3)))) : Ret F fl me [(.int .i64 n0), (.agg [(.int .i64 r1), r2])] H Q := by
  refine ret_intro hF rfl ?_
  refine w_seq ?_
  refine w_run [1, 0] ?_
  obtain ⟨H3, hb⟩ : ∃ H', Dead1 H 1 H' := ⟨_, ⟨rfl⟩⟩
  replace h := h H3 hb
  refine t_tomb true 1 (.agg [(.int .i64 r1), r2]) [(.int .i64 r1), r2] H3 H (by kernel_rfl) rfl hb ?_
  refine t_done [(.int .i64 n0), (.agg [(.int .i64 r1), r2]), (.int .i64 0), (.agg [(.int .i64 r1), r2]), .undef, .undef, .undef, .undef, .undef, .undef, .undef, .undef, .undef] H3 (by kernel_rfl) ?_
  refine then_norm ?_
  refine w_seq ?_
  refine w_seq ?_
  refine w_run [0, 0, 0, 0, 0, 0, 0, 0, 0] ?_
  refine t_done [(.int .i64 n0), (.agg [(.int .i64 r1), r2]), (.int .i64 0), (.agg [(.int .i64 r1), r2]), (.bool ((decide (r1 < 0)) || (decide (r1 ≥ n0)))), .undef, .undef, .undef, .undef, .undef, .undef, .undef, .undef] H3 (by kernel_rfl) ?_
  refine then_norm ?_
  refine w_cond (t := ((decide (r1 < 0)) || (decide (r1 ≥ n0)))) rfl (fun hc => ?_) (fun hc => ?_)
  · replace h := h.1 ((is_or is_dec is_dec).t hc)
    refine w_seq ?_
    refine w_run [0] ?_
    refine t_done [(.int .i64 n0), (.agg [(.int .i64 r1), r2]), (.int .i64 3), (.agg [(.int .i64 r1), r2]), (.bool ((decide (r1 < 0)) || (decide (r1 ≥ n0)))), .undef, .undef, .undef, .undef, .undef, .undef, .undef, .undef] H3 (by kernel_rfl) ?_
    refine then_norm ?_
    refine w_ret ?_
    refine then_ret ?_
    exact body_ret (vs := [(.int .i64 3)]) _ (by kernel_rfl) rfl h
  · replace h := h.2 ((is_or is_dec is_dec).f hc)
    refine w_skip ?_
    refine then_norm ?_
    refine w_seq ?_
    refine w_seq ?_
    refine w_run [0, 0, 1, 0] ?_
    obtain ⟨len4, hl, h⟩ := h
    refine t_len true r2 len4 H3 (by kernel_rfl) hl ?_
    refine t_done [(.int .i64 n0), (.agg [(.int .i64 r1), r2]), (.int .i64 0), (.agg [(.int .i64 r1), r2]), (.bool ((decide (r1 < 0)) || (decide (r1 ≥ n0)))), (.int .i64 0), (.int .i64 (len4 : Int)), .undef, r2, .undef, .undef, .undef, .undef] H3 (by kernel_rfl) ?_
    refine then_norm ?_
    refine w_block ?_
    obtain ⟨J5, k6, h0, h⟩ := h
    refine w_loop (I := fun mI EI HI => ∃ (d8 : AV) (v9 : Int) (d10 : AV) (d11 : AV) (d12 : AV) (d13 : AV) (d14 : AV), EI = [(.int .i64 n0), (.agg [(.int .i64 r1), r2]), d8, (.agg [(.int .i64 r1), r2]), (.bool ((decide (r1 < 0)) || (decide (r1 ≥ n0)))), (.int .i64 v9), (.int .i64 (len4 : Int)), d10, r2, d11, d12, d13, d14] ∧ H3 = HI ∧ J5 mI v9) ?_ k6 ⟨_, _, _, _, _, _, _, rfl, rfl, h0⟩
    clear h0
    rintro m7 EI HI ⟨d8, v9, d10, d11, d12, d13, d14, rfl, rfl, hJ⟩
    replace h := h m7 v9  hJ
    clear hJ
    refine w_seq ?_
    refine w_run [0] ?_
    refine t_done [(.int .i64 n0), (.agg [(.int .i64 r1), r2]), d8, (.agg [(.int .i64 r1), r2]), (.bool ((decide (r1 < 0)) || (decide (r1 ≥ n0)))), (.int .i64 v9), (.int .i64 (len4 : Int)), (.bool (decide (v9 < (len4 : Int)))), r2, d11, d12, d13, d14] H3 (by kernel_rfl) ?_
    refine then_norm ?_
    refine w_seq ?_
    refine w_cond (t := (decide (v9 < (len4 : Int)))) rfl (fun hc => ?_) (fun hc => ?_)
    · replace h := h.1 (is_dec.t hc)
      refine w_skip ?_
      refine then_norm ?_
      refine w_seq ?_
      refine w_block ?_
      refine w_seq ?_
      refine w_run [0, 1, 1, 0, 0] ?_
      obtain ⟨e15, hg16, h⟩ := h
      refine t_idxG true 1 r2 .i64 v9 H3 (by kernel_rfl) hg16 ?_
      refine t_loadG true none 1 r2 v9 0 (.int .i64 e15) H3 (by kernel_rfl) hg16 ?_
      refine t_done [(.int .i64 n0), (.agg [(.int .i64 r1), r2]), d8, (.agg [(.int .i64 r1), r2]), (.bool ((decide (r1 < 0)) || (decide (r1 ≥ n0)))), (.int .i64 v9), (.int .i64 (len4 : Int)), (.bool (decide (v9 < (len4 : Int)))), r2, (.int .i64 e15), d12, (.int .i64 v9), d14] H3 (by kernel_rfl) ?_
      refine then_norm ?_
      refine w_block ?_
      refine w_seq ?_
      refine w_run [0, 0, 0, 0, 0, 0, 0, 0, 0] ?_
      refine t_done [(.int .i64 n0), (.agg [(.int .i64 r1), r2]), d8, (.agg [(.int .i64 r1), r2]), (.bool ((decide (r1 < 0)) || (decide (r1 ≥ n0)))), (.int .i64 v9), (.int .i64 (len4 : Int)), (.bool (decide (v9 < (len4 : Int)))), r2, (.int .i64 e15), (.bool ((decide (e15 < 0)) || (decide (e15 ≥ r1)))), (.int .i64 v9), d14] H3 (by kernel_rfl) ?_
      refine then_norm ?_
      refine w_cond (t := ((decide (e15 < 0)) || (decide (e15 ≥ r1)))) rfl (fun hc => ?_) (fun hc => ?_)
      · replace h := h.1 ((is_or is_dec is_dec).t hc)
        refine w_seq ?_
        refine w_run [0] ?_
        refine t_done [(.int .i64 n0), (.agg [(.int .i64 r1), r2]), (.int .i64 3), (.agg [(.int .i64 r1), r2]), (.bool ((decide (r1 < 0)) || (decide (r1 ≥ n0)))), (.int .i64 v9), (.int .i64 (len4 : Int)), (.bool (decide (v9 < (len4 : Int)))), r2, (.int .i64 e15), (.bool ((decide (e15 < 0)) || (decide (e15 ≥ r1)))), (.int .i64 v9), d14] H3 (by kernel_rfl) ?_
        refine then_norm ?_
        refine w_ret ?_
        refine block_ret ?_
        refine block_ret ?_
        refine then_ret ?_
        refine loop_ret ?_
        refine block_ret ?_
        refine then_ret ?_
        exact body_ret (vs := [(.int .i64 3)]) _ (by kernel_rfl) rfl h
      · replace h := h.2 ((is_or is_dec is_dec).f hc)
        refine w_seq ?_
        refine w_run [0, 0, 0, 0, 0, 0, 0, 0, 3, 3, 2, 0, 0] ?_
        refine t_gd (decide (v9 > 0)) true (by kernel_rfl) (fun hc => ?_) (fun hc => ?_)
        · replace h := h.1 (is_dec.t hc)
          obtain ⟨e17, hg18, h⟩ := h
          refine t_idxG true 1 r2 .i64 (IntKind.wrap .i64 (v9 - 1)) H3 (by kernel_rfl) hg18 ?_
          refine t_gd true true (by kernel_rfl) (fun _ => ?_) (fun hn => by cases hn)
          refine t_loadG true none 1 r2 (IntKind.wrap .i64 (v9 - 1)) 0 (.int .i64 e17) H3 (by kernel_rfl) hg18 ?_
          refine t_gd true true (by kernel_rfl) (fun _ => ?_) (fun hn => by cases hn)
          refine t_done [(.int .i64 n0), (.agg [(.int .i64 r1), r2]), d8, (.agg [(.int .i64 r1), r2]), (.bool ((decide (r1 < 0)) || (decide (r1 ≥ n0)))), (.int .i64 v9), (.int .i64 (len4 : Int)), (.bool (decide (v9 < (len4 : Int)))), r2, (.int .i64 e15), (.bool ((decide (e15 < 0)) || (decide (e15 ≥ r1)))), (.int .i64 v9), (.bool (decide (e15 ≤ e17)))] H3 (by kernel_rfl) ?_
          refine then_norm ?_
          refine w_cond (t := (decide (e15 ≤ e17))) rfl (fun hc => ?_) (fun hc => ?_)
          · replace h := h.1 (is_dec.t hc)
            refine w_seq ?_
            refine w_run [0] ?_
            refine t_done [(.int .i64 n0), (.agg [(.int .i64 r1), r2]), (.int .i64 5), (.agg [(.int .i64 r1), r2]), (.bool ((decide (r1 < 0)) || (decide (r1 ≥ n0)))), (.int .i64 v9), (.int .i64 (len4 : Int)), (.bool (decide (v9 < (len4 : Int)))), r2, (.int .i64 e15), (.bool ((decide (e15 < 0)) || (decide (e15 ≥ r1)))), (.int .i64 v9), (.bool (decide (e15 ≤ e17)))] H3 (by kernel_rfl) ?_
            refine then_norm ?_
            refine w_ret ?_
            refine block_ret ?_
            refine block_ret ?_
            refine then_ret ?_
            refine loop_ret ?_
            refine block_ret ?_
            refine then_ret ?_
            exact body_ret (vs := [(.int .i64 5)]) _ (by kernel_rfl) rfl h
          · replace h := h.2 (is_dec.f hc)
            refine w_skip ?_
            refine block_norm ?_
            refine block_norm ?_
            refine then_norm ?_
            refine w_run [0, 0] ?_
            refine t_done [(.int .i64 n0), (.agg [(.int .i64 r1), r2]), d8, (.agg [(.int .i64 r1), r2]), (.bool ((decide (r1 < 0)) || (decide (r1 ≥ n0)))), (.int .i64 (IntKind.wrap .i64 (v9 + 1))), (.int .i64 (len4 : Int)), (.bool (decide (v9 < (len4 : Int)))), r2, (.int .i64 e15), (.bool ((decide (e15 < 0)) || (decide (e15 ≥ r1)))), (.int .i64 v9), (.bool (decide (e15 ≤ e17)))] H3 (by kernel_rfl) ?_
            obtain ⟨m', hm, h⟩ := h
            refine loop_norm ⟨m', hm, _, _, _, _, _, _, _, rfl, rfl, h⟩
        · replace h := h.2 (is_dec.f hc)
          refine t_gd false true (by kernel_rfl) (fun hn => by cases hn) (fun _ => ?_)
          refine t_gd false true (by kernel_rfl) (fun hn => by cases hn) (fun _ => ?_)
          refine t_done [(.int .i64 n0), (.agg [(.int .i64 r1), r2]), d8, (.agg [(.int .i64 r1), r2]), (.bool ((decide (r1 < 0)) || (decide (r1 ≥ n0)))), (.int .i64 v9), (.int .i64 (len4 : Int)), (.bool (decide (v9 < (len4 : Int)))), r2, (.int .i64 e15), (.bool ((decide (e15 < 0)) || (decide (e15 ≥ r1)))), (.int .i64 v9), (.bool false)] H3 (by kernel_rfl) ?_
          refine then_norm ?_
          refine w_cond (t := false) rfl (fun hc => by cases hc) (fun _ => ?_)
          refine w_skip ?_
          refine block_norm ?_
          refine block_norm ?_
          refine then_norm ?_
          refine w_run [0, 0] ?_
          refine t_done [(.int .i64 n0), (.agg [(.int .i64 r1), r2]), d8, (.agg [(.int .i64 r1), r2]), (.bool ((decide (r1 < 0)) || (decide (r1 ≥ n0)))), (.int .i64 (IntKind.wrap .i64 (v9 + 1))), (.int .i64 (len4 : Int)), (.bool (decide (v9 < (len4 : Int)))), r2, (.int .i64 e15), (.bool ((decide (e15 < 0)) || (decide (e15 ≥ r1)))), (.int .i64 v9), (.bool false)] H3 (by kernel_rfl) ?_
          obtain ⟨m', hm, h⟩ := h
          refine loop_norm ⟨m', hm, _, _, _, _, _, _, _, rfl, rfl, h⟩
    · replace h := h.2 (is_dec.f hc)
      refine w_exit ?_
      refine then_exit ?_
      refine loop_exit ?_
      refine block_exit ?_
      refine then_norm ?_
      refine w_seq ?_
      refine w_run [0] ?_
      refine t_done [(.int .i64 n0), (.agg [(.int .i64 r1), r2]), (.int .i64 0), (.agg [(.int .i64 r1), r2]), (.bool ((decide (r1 < 0)) || (decide (r1 ≥ n0)))), (.int .i64 v9), (.int .i64 (len4 : Int)), (.bool (decide (v9 < (len4 : Int)))), r2, d11, d12, d13, d14] H3 (by kernel_rfl) ?_
      refine then_norm ?_
      refine w_ret ?_
      exact body_ret (vs := [(.int .i64 0)]) _ (by kernel_rfl) rfl h

def rf_speculate_chance : RFunc := ⟨2, 14, [.var 2],
 ((.seq (.ops [⟨.tomb 1 (.var 1), none, (some 8), true⟩, ⟨.move (.k (.int .i64 0)), none, (some 2), true⟩])
 ((.seq (.ops [⟨.move (.k (.int .i64 1)), none, (some 10), true⟩, ⟨.move (.k (.int .i64 0)), none, (some 11), true⟩])
 ((.seq ((.seq (.ops [⟨.move (.var 0), none, (some 6), true⟩, ⟨.len (.loc 0), none, (some 4), true⟩, ⟨.move (.k (.int .i64 0)), none, (some 3), true⟩])
 (.block 0 (.loop ((.seq (.ops [⟨.bin .lss .no (.var 3) (.var 4), none, (some 5), true⟩])
 ((.seq (.cond (.var 5) (.skip) (.exit 0))
 ((.seq (.block 1 ((.seq (.ops [⟨.move (.var 3), none, none, true⟩, ⟨.indexAddr 1 (.var 6) (.var 3), none, none, true⟩, ⟨.load none (.loc 1), none, none, true⟩, ⟨.move (.loc 0), none, (some 7), true⟩, ⟨.move (.loc 2), none, (some 13), true⟩])
 (.block 2 ((.seq (.ops [⟨.move (.var 7), none, none, true⟩, ⟨.field 0 none (.var 8), none, none, true⟩, ⟨.field 0 none (.var 8), none, none, true⟩, ⟨.bin .geq .no (.loc 0) (.loc 2), none, none, true⟩, ⟨.move (.loc 3), none, (some 9), true⟩])
 (.cond (.var 9) (.ops [⟨.move (.var 10), none, none, true⟩, ⟨.bin .mul .no (.loc 0) (.k (.int .i64 100)), none, none, true⟩, ⟨.move (.loc 1), none, (some 10), true⟩]) ((.seq (.ops [⟨.move (.var 11), none, none, true⟩, ⟨.field 0 none (.var 8), none, none, true⟩, ⟨.field 1 none (.var 8), none, none, true⟩, ⟨.len (.loc 2), none, none, true⟩, ⟨.bin .lss .no (.loc 0) (.loc 3), none, none, true⟩, ⟨.move (.loc 4), none, none, true⟩, ⟨.field 0 none (.var 8), none, none, true⟩, ⟨.field 1 none (.var 8), none, none, true⟩, ⟨.move (.var 11), none, none, true⟩, ⟨.indexAddr 1 (.loc 7) (.loc 8), (some (5, true)), none, true⟩, ⟨.load none (.loc 9), (some (5, true)), none, true⟩, ⟨.move (.var 7), none, none, true⟩, ⟨.bin .eql .no (.loc 10) (.loc 11), (some (5, true)), none, true⟩, ⟨.pick (.loc 5) (.loc 12) (.k (.bool false)), none, none, true⟩, ⟨.move (.loc 13), none, (some 12), true⟩])
 (.cond (.var 12) ((.seq (.ops [⟨.move (.var 10), none, none, true⟩, ⟨.move (.var 13), none, none, true⟩, ⟨.bin .mul .no (.loc 0) (.loc 1), none, none, true⟩, ⟨.move (.loc 2), none, (some 10), true⟩])
 (.ops [⟨.move (.var 11), none, none, true⟩, ⟨.bin .add .no (.loc 0) (.k (.int .i64 1)), none, none, true⟩, ⟨.move (.loc 1), none, (some 11), true⟩]))) (.ops [⟨.move (.var 10), none, none, true⟩, ⟨.move (.var 13), none, none, true⟩, ⟨.bin .sub .no (.k (.int .i64 100)) (.loc 1), none, none, true⟩, ⟨.bin .mul .no (.loc 0) (.loc 2), none, none, true⟩, ⟨.move (.loc 3), none, (some 10), true⟩])))))))))))
 (.ops [⟨.bin .add .no (.var 3) (.k (.int .i64 1)), none, none, true⟩, ⟨.move (.loc 0), none, (some 3), true⟩])))))))))))
 ((.seq (.ops [⟨.move (.var 10), none, none, true⟩, ⟨.move (.loc 0), none, (some 2), true⟩])
 (.ret))))))))), none⟩
theorem v_speculate_chance {F : Nat → Option RFunc} {me : Nat} (hF : F me = some (rf_speculate_chance )) {fl : Nat} {H : Heap} {Q : AV → Heap → Prop} (list0 : AV) (r1 : Int) (r2 : AV)
  (h : ∀ (H3 : Heap), Dead1 H 1 H3 → ∃ len4 : Nat, lenA list0 = some len4 ∧ ∃ (J5 : Nat → Int → Int → Int → Prop) (k6 : Nat), J5 k6 0 1 0 ∧ (∀ (m7 : Nat) (v8 : Int) (out12 : Int) (k13 : Int), J5 m7 v8 out12 k13 → ((v8 < (len4 : Int)) → ∃ (e16 : Int), getA H3 1 none list0 v8 0 = some (.int .i64 e16) ∧ ((v8 ≥ r1) → ∃ m18 : Nat, m18 < m7 ∧ J5 m18 (IntKind.wrap .i64 (v8 + 1)) (IntKind.wrap .i64 (out12 * 100)) k13) ∧ (¬(v8 ≥ r1) → ∃ len19 : Nat, lenA r2 = some len19 ∧ ((k13 < (len19 : Int)) → ∃ (e20 : Int), getA H3 1 none r2 k13 0 = some (.int .i64 e20) ∧ ((e20 = v8) → ∃ m22 : Nat, m22 < m7 ∧ J5 m22 (IntKind.wrap .i64 (v8 + 1)) (IntKind.wrap .i64 (out12 * e16)) (IntKind.wrap .i64 (k13 + 1))) ∧ (¬(e20 = v8) → ∃ m23 : Nat, m23 < m7 ∧ J5 m23 (IntKind.wrap .i64 (v8 + 1)) (IntKind.wrap .i64 (out12 * (IntKind.wrap .i64 (100 - e16)))) k13)) ∧ (¬(k13 < (len19 : Int)) → ∃ m24 : Nat, m24 < m7 ∧ J5 m24 (IntKind.wrap .i64 (v8 + 1)) (IntKind.wrap .i64 (out12 * (IntKind.wrap .i64 (100 - e16)))) k13))) ∧ (¬(v8 < (len4 : Int)) → Q (.int .i64 out12) H3))) : Ret F fl me [list0, (.agg [(.int .i64 r1), r2])] H Q := by
  refine ret_intro hF rfl ?_
  refine w_seq ?_
  refine w_run [1, 0] ?_
  obtain ⟨H3, hb⟩ : ∃ H', Dead1 H 1 H' := ⟨_, ⟨rfl⟩⟩
  replace h := h H3 hb
  refine t_tomb true 1 (.agg [(.int .i64 r1), r2]) [(.int .i64 r1), r2] H3 H (by kernel_rfl) rfl hb ?_
  refine t_done [list0, (.agg [(.int .i64 r1), r2]), (.int .i64 0), .undef, .undef, .undef, .undef, .undef, (.agg [(.int .i64 r1), r2]), .undef, .undef, .undef, .undef, .undef] H3 (by kernel_rfl) ?_
  refine then_norm ?_
  refine w_seq ?_
  refine w_run [0, 0] ?_
  refine t_done [list0, (.agg [(.int .i64 r1), r2]), (.int .i64 0), .undef, .undef, .undef, .undef, .undef, (.agg [(.int .i64 r1), r2]), .undef, (.int .i64 1), (.int .i64 0), .undef, .undef] H3 (by kernel_rfl) ?_
  refine then_norm ?_
  refine w_seq ?_
  refine w_seq ?_
  refine w_run [0, 1, 0] ?_
  obtain ⟨len4, hl, h⟩ := h
  refine t_len true list0 len4 H3 (by kernel_rfl) hl ?_
  refine t_done [list0, (.agg [(.int .i64 r1), r2]), (.int .i64 0), (.int .i64 0), (.int .i64 (len4 : Int)), .undef, list0, .undef, (.agg [(.int .i64 r1), r2]), .undef, (.int .i64 1), (.int .i64 0), .undef, .undef] H3 (by kernel_rfl) ?_
  refine then_norm ?_
  refine w_block ?_
  obtain ⟨J5, k6, h0, h⟩ := h
  refine w_loop (I := fun mI EI HI => ∃ (v8 : Int) (d9 : AV) (d10 : AV) (d11 : AV) (out12 : Int) (k13 : Int) (d14 : AV) (d15 : AV), EI = [list0, (.agg [(.int .i64 r1), r2]), (.int .i64 0), (.int .i64 v8), (.int .i64 (len4 : Int)), d9, list0, d10, (.agg [(.int .i64 r1), r2]), d11, (.int .i64 out12), (.int .i64 k13), d14, d15] ∧ H3 = HI ∧ J5 mI v8 out12 k13) ?_ k6 ⟨_, _, _, _, _, _, _, _, rfl, rfl, h0⟩
  clear h0
  rintro m7 EI HI ⟨v8, d9, d10, d11, out12, k13, d14, d15, rfl, rfl, hJ⟩
  replace h := h m7 v8 out12 k13  hJ
  clear hJ
  refine w_seq ?_
  refine w_run [0] ?_
  refine t_done [list0, (.agg [(.int .i64 r1), r2]), (.int .i64 0), (.int .i64 v8), (.int .i64 (len4 : Int)), (.bool (decide (v8 < (len4 : Int)))), list0, d10, (.agg [(.int .i64 r1), r2]), d11, (.int .i64 out12), (.int .i64 k13), d14, d15] H3 (by kernel_rfl) ?_
  refine then_norm ?_
  refine w_seq ?_
  refine w_cond (t := (decide (v8 < (len4 : Int)))) rfl (fun hc => ?_) (fun hc => ?_)
  · replace h := h.1 (is_dec.t hc)
    refine w_skip ?_
    refine then_norm ?_
    refine w_seq ?_
    refine w_block ?_
    refine w_seq ?_
    refine w_run [0, 1, 1, 0, 0] ?_
    obtain ⟨e16, hg17, h⟩ := h
    refine t_idxG true 1 list0 .i64 v8 H3 (by kernel_rfl) hg17 ?_
    refine t_loadG true none 1 list0 v8 0 (.int .i64 e16) H3 (by kernel_rfl) hg17 ?_
    refine t_done [list0, (.agg [(.int .i64 r1), r2]), (.int .i64 0), (.int .i64 v8), (.int .i64 (len4 : Int)), (.bool (decide (v8 < (len4 : Int)))), list0, (.int .i64 v8), (.agg [(.int .i64 r1), r2]), d11, (.int .i64 out12), (.int .i64 k13), d14, (.int .i64 e16)] H3 (by kernel_rfl) ?_
    refine then_norm ?_
    refine w_block ?_
    refine w_seq ?_
    refine w_run [0, 0, 0, 0, 0] ?_
    refine t_done [list0, (.agg [(.int .i64 r1), r2]), (.int .i64 0), (.int .i64 v8), (.int .i64 (len4 : Int)), (.bool (decide (v8 < (len4 : Int)))), list0, (.int .i64 v8), (.agg [(.int .i64 r1), r2]), (.bool (decide (v8 ≥ r1))), (.int .i64 out12), (.int .i64 k13), d14, (.int .i64 e16)] H3 (by kernel_rfl) ?_
    refine then_norm ?_
    refine w_cond (t := (decide (v8 ≥ r1))) rfl (fun hc => ?_) (fun hc => ?_)
    · replace h := h.1 (is_dec.t hc)
      refine w_run [0, 0, 0] ?_
      refine t_done [list0, (.agg [(.int .i64 r1), r2]), (.int .i64 0), (.int .i64 v8), (.int .i64 (len4 : Int)), (.bool (decide (v8 < (len4 : Int)))), list0, (.int .i64 v8), (.agg [(.int .i64 r1), r2]), (.bool (decide (v8 ≥ r1))), (.int .i64 (IntKind.wrap .i64 (out12 * 100))), (.int .i64 k13), d14, (.int .i64 e16)] H3 (by kernel_rfl) ?_
      refine block_norm ?_
      refine block_norm ?_
      refine then_norm ?_
      refine w_run [0, 0] ?_
      refine t_done [list0, (.agg [(.int .i64 r1), r2]), (.int .i64 0), (.int .i64 (IntKind.wrap .i64 (v8 + 1))), (.int .i64 (len4 : Int)), (.bool (decide (v8 < (len4 : Int)))), list0, (.int .i64 v8), (.agg [(.int .i64 r1), r2]), (.bool (decide (v8 ≥ r1))), (.int .i64 (IntKind.wrap .i64 (out12 * 100))), (.int .i64 k13), d14, (.int .i64 e16)] H3 (by kernel_rfl) ?_
      obtain ⟨m', hm, h⟩ := h
      refine loop_norm ⟨m', hm, _, _, _, _, _, _, _, _, rfl, rfl, h⟩
    · replace h := h.2 (is_dec.f hc)
      refine w_seq ?_
      refine w_run [0, 0, 0, 1, 0, 0, 0, 0, 0, 3, 3, 0, 2, 0, 0] ?_
      obtain ⟨len19, hl, h⟩ := h
      refine t_len true r2 len19 H3 (by kernel_rfl) hl ?_
      refine t_gd (decide (k13 < (len19 : Int))) true (by kernel_rfl) (fun hc => ?_) (fun hc => ?_)
      · replace h := h.1 (is_dec.t hc)
        obtain ⟨e20, hg21, h⟩ := h
        refine t_idxG true 1 r2 .i64 k13 H3 (by kernel_rfl) hg21 ?_
        refine t_gd true true (by kernel_rfl) (fun _ => ?_) (fun hn => by cases hn)
        refine t_loadG true none 1 r2 k13 0 (.int .i64 e20) H3 (by kernel_rfl) hg21 ?_
        refine t_gd true true (by kernel_rfl) (fun _ => ?_) (fun hn => by cases hn)
        refine t_done [list0, (.agg [(.int .i64 r1), r2]), (.int .i64 0), (.int .i64 v8), (.int .i64 (len4 : Int)), (.bool (decide (v8 < (len4 : Int)))), list0, (.int .i64 v8), (.agg [(.int .i64 r1), r2]), (.bool (decide (v8 ≥ r1))), (.int .i64 out12), (.int .i64 k13), (.bool ((e20) == v8)), (.int .i64 e16)] H3 (by kernel_rfl) ?_
        refine then_norm ?_
        refine w_cond (t := ((e20) == v8)) rfl (fun hc => ?_) (fun hc => ?_)
        · replace h := h.1 (is_eq.t hc)
          refine w_seq ?_
          refine w_run [0, 0, 0, 0] ?_
          refine t_done [list0, (.agg [(.int .i64 r1), r2]), (.int .i64 0), (.int .i64 v8), (.int .i64 (len4 : Int)), (.bool (decide (v8 < (len4 : Int)))), list0, (.int .i64 v8), (.agg [(.int .i64 r1), r2]), (.bool (decide (v8 ≥ r1))), (.int .i64 (IntKind.wrap .i64 (out12 * e16))), (.int .i64 k13), (.bool ((e20) == v8)), (.int .i64 e16)] H3 (by kernel_rfl) ?_
          refine then_norm ?_
          refine w_run [0, 0, 0] ?_
          refine t_done [list0, (.agg [(.int .i64 r1), r2]), (.int .i64 0), (.int .i64 v8), (.int .i64 (len4 : Int)), (.bool (decide (v8 < (len4 : Int)))), list0, (.int .i64 v8), (.agg [(.int .i64 r1), r2]), (.bool (decide (v8 ≥ r1))), (.int .i64 (IntKind.wrap .i64 (out12 * e16))), (.int .i64 (IntKind.wrap .i64 (k13 + 1))), (.bool ((e20) == v8)), (.int .i64 e16)] H3 (by kernel_rfl) ?_
          refine block_norm ?_
          refine block_norm ?_
          refine then_norm ?_
          refine w_run [0, 0] ?_
          refine t_done [list0, (.agg [(.int .i64 r1), r2]), (.int .i64 0), (.int .i64 (IntKind.wrap .i64 (v8 + 1))), (.int .i64 (len4 : Int)), (.bool (decide (v8 < (len4 : Int)))), list0, (.int .i64 v8), (.agg [(.int .i64 r1), r2]), (.bool (decide (v8 ≥ r1))), (.int .i64 (IntKind.wrap .i64 (out12 * e16))), (.int .i64 (IntKind.wrap .i64 (k13 + 1))), (.bool ((e20) == v8)), (.int .i64 e16)] H3 (by kernel_rfl) ?_
          obtain ⟨m', hm, h⟩ := h
          refine loop_norm ⟨m', hm, _, _, _, _, _, _, _, _, rfl, rfl, h⟩
        · replace h := h.2 (is_eq.f hc)
          refine w_run [0, 0, 0, 0, 0] ?_
          refine t_done [list0, (.agg [(.int .i64 r1), r2]), (.int .i64 0), (.int .i64 v8), (.int .i64 (len4 : Int)), (.bool (decide (v8 < (len4 : Int)))), list0, (.int .i64 v8), (.agg [(.int .i64 r1), r2]), (.bool (decide (v8 ≥ r1))), (.int .i64 (IntKind.wrap .i64 (out12 * (IntKind.wrap .i64 (100 - e16))))), (.int .i64 k13), (.bool ((e20) == v8)), (.int .i64 e16)] H3 (by kernel_rfl) ?_
          refine block_norm ?_
          refine block_norm ?_
          refine then_norm ?_
          refine w_run [0, 0] ?_
          refine t_done [list0, (.agg [(.int .i64 r1), r2]), (.int .i64 0), (.int .i64 (IntKind.wrap .i64 (v8 + 1))), (.int .i64 (len4 : Int)), (.bool (decide (v8 < (len4 : Int)))), list0, (.int .i64 v8), (.agg [(.int .i64 r1), r2]), (.bool (decide (v8 ≥ r1))), (.int .i64 (IntKind.wrap .i64 (out12 * (IntKind.wrap .i64 (100 - e16))))), (.int .i64 k13), (.bool ((e20) == v8)), (.int .i64 e16)] H3 (by kernel_rfl) ?_
          obtain ⟨m', hm, h⟩ := h
          refine loop_norm ⟨m', hm, _, _, _, _, _, _, _, _, rfl, rfl, h⟩
      · replace h := h.2 (is_dec.f hc)
        refine t_gd false true (by kernel_rfl) (fun hn => by cases hn) (fun _ => ?_)
        refine t_gd false true (by kernel_rfl) (fun hn => by cases hn) (fun _ => ?_)
        refine t_done [list0, (.agg [(.int .i64 r1), r2]), (.int .i64 0), (.int .i64 v8), (.int .i64 (len4 : Int)), (.bool (decide (v8 < (len4 : Int)))), list0, (.int .i64 v8), (.agg [(.int .i64 r1), r2]), (.bool (decide (v8 ≥ r1))), (.int .i64 out12), (.int .i64 k13), (.bool false), (.int .i64 e16)] H3 (by kernel_rfl) ?_
        refine then_norm ?_
        refine w_cond (t := false) rfl (fun hc => by cases hc) (fun _ => ?_)
        refine w_run [0, 0, 0, 0, 0] ?_
        refine t_done [list0, (.agg [(.int .i64 r1), r2]), (.int .i64 0), (.int .i64 v8), (.int .i64 (len4 : Int)), (.bool (decide (v8 < (len4 : Int)))), list0, (.int .i64 v8), (.agg [(.int .i64 r1), r2]), (.bool (decide (v8 ≥ r1))), (.int .i64 (IntKind.wrap .i64 (out12 * (IntKind.wrap .i64 (100 - e16))))), (.int .i64 k13), (.bool false), (.int .i64 e16)] H3 (by kernel_rfl) ?_
        refine block_norm ?_
        refine block_norm ?_
        refine then_norm ?_
        refine w_run [0, 0] ?_
        refine t_done [list0, (.agg [(.int .i64 r1), r2]), (.int .i64 0), (.int .i64 (IntKind.wrap .i64 (v8 + 1))), (.int .i64 (len4 : Int)), (.bool (decide (v8 < (len4 : Int)))), list0, (.int .i64 v8), (.agg [(.int .i64 r1), r2]), (.bool (decide (v8 ≥ r1))), (.int .i64 (IntKind.wrap .i64 (out12 * (IntKind.wrap .i64 (100 - e16))))), (.int .i64 k13), (.bool false), (.int .i64 e16)] H3 (by kernel_rfl) ?_
        obtain ⟨m', hm, h⟩ := h
        refine loop_norm ⟨m', hm, _, _, _, _, _, _, _, _, rfl, rfl, h⟩
  · replace h := h.2 (is_dec.f hc)
    refine w_exit ?_
    refine then_exit ?_
    refine loop_exit ?_
    refine block_exit ?_
    refine then_norm ?_
    refine w_seq ?_
    refine w_run [0, 0] ?_
    refine t_done [list0, (.agg [(.int .i64 r1), r2]), (.int .i64 out12), (.int .i64 v8), (.int .i64 (len4 : Int)), (.bool (decide (v8 < (len4 : Int)))), list0, d10, (.agg [(.int .i64 r1), r2]), d11, (.int .i64 out12), (.int .i64 k13), d14, d15] H3 (by kernel_rfl) ?_
    refine then_norm ?_
    refine w_ret ?_
    exact body_ret (vs := [(.int .i64 out12)]) _ (by kernel_rfl) rfl h

def rf_speculate_Planx1 (ncmp_Compare_int : Nat) : RFunc := ⟨2, 5, [.var 2],
 ((.seq (.ops [⟨.tomb 1 (.var 0), none, (some 4), true⟩, ⟨.tomb 1 (.var 1), none, (some 3), true⟩, ⟨.move (.k (.int .i64 0)), none, (some 2), true⟩])
 ((.seq (.ops [⟨.field 0 none (.var 3), none, none, true⟩, ⟨.field 2 none (.var 3), none, none, true⟩, ⟨.field 0 none (.var 4), none, none, true⟩, ⟨.field 2 none (.var 4), none, none, true⟩, ⟨.callS ncmp_Compare_int [(.loc 1), (.loc 3)], none, none, true⟩, ⟨.move (.loc 4), none, (some 2), true⟩])
 (.ret))))), none⟩
theorem v_speculate_Planx1 {F : Nat → Option RFunc} {me ncmp_Compare_int : Nat} (hF : F me = some (rf_speculate_Planx1 ncmp_Compare_int)) {fl : Nat} {H : Heap} {Q : AV → Heap → Prop} (a0 : Int) (a1 : AV) (a2 : Int) (b3 : Int) (b4 : AV) (b5 : Int)
  (h : ∀ (H6 : Heap), Dead1 H 1 H6 → ∀ (H7 : Heap), Dead1 H6 1 H7 → Ret F fl ncmp_Compare_int [(.int .i64 b5), (.int .i64 a2)] H7 (fun v10 H9 => ∃ (r8 : Int), v10 = (.int .i64 r8) ∧ Q (.int .i64 r8) H9)) : Ret F fl me [(.agg [(.int .i64 a0), a1, (.int .i64 a2)]), (.agg [(.int .i64 b3), b4, (.int .i64 b5)])] H Q := by
  refine ret_intro hF rfl ?_
  refine w_seq ?_
  refine w_run [1, 1, 0] ?_
  obtain ⟨H6, hb⟩ : ∃ H', Dead1 H 1 H' := ⟨_, ⟨rfl⟩⟩
  replace h := h H6 hb
  refine t_tomb true 1 (.agg [(.int .i64 a0), a1, (.int .i64 a2)]) [(.int .i64 a0), a1, (.int .i64 a2)] H6 H (by kernel_rfl) rfl hb ?_
  obtain ⟨H7, hb⟩ : ∃ H', Dead1 H6 1 H' := ⟨_, ⟨rfl⟩⟩
  replace h := h H7 hb
  refine t_tomb true 1 (.agg [(.int .i64 b3), b4, (.int .i64 b5)]) [(.int .i64 b3), b4, (.int .i64 b5)] H7 H6 (by kernel_rfl) rfl hb ?_
  refine t_done [(.agg [(.int .i64 a0), a1, (.int .i64 a2)]), (.agg [(.int .i64 b3), b4, (.int .i64 b5)]), (.int .i64 0), (.agg [(.int .i64 b3), b4, (.int .i64 b5)]), (.agg [(.int .i64 a0), a1, (.int .i64 a2)])] H7 (by kernel_rfl) ?_
  refine then_norm ?_
  refine w_seq ?_
  refine w_run [0, 0, 0, 0, 1, 0] ?_
  refine t_call true ncmp_Compare_int [(.int .i64 b5), (.int .i64 a2)] H7 (by kernel_rfl) h ?_
  clear h
  rintro _ H9 ⟨r8, rfl, h⟩
  refine t_done [(.agg [(.int .i64 a0), a1, (.int .i64 a2)]), (.agg [(.int .i64 b3), b4, (.int .i64 b5)]), (.int .i64 r8), (.agg [(.int .i64 b3), b4, (.int .i64 b5)]), (.agg [(.int .i64 a0), a1, (.int .i64 a2)])] H9 (by kernel_rfl) ?_
  refine then_norm ?_
  refine w_ret ?_
  exact body_ret (vs := [(.int .i64 r8)]) _ (by kernel_rfl) rfl h

def rf_speculate_Decide (nspeculate_results nspeculate_Decidex1 nslices_IndexFunc__api_TestResult_api_TestResult : Nat) : RFunc := ⟨2, 16, [.var 2, .var 3, .part 4 (some 2)],
 ((.seq (.ops [⟨.move (.k (.empty)), none, (some 2), true⟩, ⟨.move (.k (.empty)), none, (some 3), true⟩, ⟨.tomb 1 (.k (.agg [.int .i64 0, .int .i64 0])), none, (some 4), true⟩])
 ((.seq ((.seq (.ops [⟨.move (.var 0), none, none, true⟩, ⟨.move (.var 1), none, none, true⟩, ⟨.callS nspeculate_results [(.loc 0), (.loc 1)], none, none, true⟩, ⟨.tomb 1 (.k (.agg [.int .i64 0, .int .i64 0])), none, (some 5), true⟩, ⟨.upd 2 0 (.loc 3) (.loc 2), none, (some 5), true⟩])
 ((.seq (.ops [⟨.field 0 (some 2) (.var 5), none, none, true⟩, ⟨.build [.int .i64 0, .int .i64 0] [], none, none, true⟩, ⟨.bin .neq (.agg [.int, .int]) (.loc 0) (.loc 1), none, (some 6), true⟩])
 (.cond (.var 6) ((.seq (.ops [⟨.field 0 (some 2) (.var 5), none, none, true⟩, ⟨.move (.k (.empty)), none, (some 2), false⟩, ⟨.move (.k (.empty)), none, (some 3), false⟩, ⟨.upd 2 0 (.var 4) (.loc 0), none, (some 4), true⟩])
 (.ret))) (.skip))))))
 ((.seq (.ops [⟨.alloc 1 [.empty], none, (some 11), true⟩, ⟨.move (.k (.empty)), none, (some 14), true⟩])
 ((.seq ((.seq (.ops [⟨.move (.var 0), none, (some 8), true⟩, ⟨.move (.k (.int .i64 0)), none, (some 7), true⟩])
 (.block 0 (.loop ((.seq (.ops [⟨.bin .lss .no (.var 7) (.var 8), none, (some 9), true⟩])
 ((.seq (.cond (.var 9) (.skip) (.exit 0))
 ((.seq (.block 1 ((.seq (.ops [⟨.move (.var 7), none, none, true⟩, ⟨.alloc 1 [.int .i64 0], none, (some 10), true⟩, ⟨.store 1 (.loc 1) (.loc 0) [], none, none, true⟩])
 ((.seq (.ops [⟨.move (.var 1), none, none, true⟩, ⟨.makeFunc nspeculate_Decidex1 [(.var 10), (.var 11)], none, none, true⟩, ⟨.callS nslices_IndexFunc__api_TestResult_api_TestResult [(.loc 0), (.loc 1)], none, none, true⟩, ⟨.move (.loc 2), none, (some 12), true⟩])
 (.block 2 ((.seq (.ops [⟨.move (.var 12), none, none, true⟩, ⟨.bin .lss .no (.loc 0) (.k (.int .i64 0)), none, none, true⟩, ⟨.move (.loc 1), none, (some 13), true⟩])
 (.cond (.var 13) ((.seq (.ops [⟨.load none (.var 11), none, none, true⟩, ⟨.move (.var 14), none, none, true⟩, ⟨.build [.int .i64 0, .int .i64 0] [], none, none, true⟩, ⟨.move (.loc 0), none, (some 2), true⟩, ⟨.move (.loc 1), none, (some 3), true⟩, ⟨.upd 2 0 (.var 4) (.loc 2), none, (some 4), true⟩])
 (.ret))) ((.seq (.ops [⟨.move (.var 1), none, none, true⟩, ⟨.move (.var 12), none, none, true⟩, ⟨.indexAddr 3 (.loc 0) (.loc 1), none, none, true⟩, ⟨.fieldAddr 2 (.loc 2), none, none, true⟩, ⟨.load none (.loc 3), none, none, true⟩, ⟨.move (.loc 4), none, (some 15), true⟩])
 (.cond (.var 15) (.ops [⟨.load none (.var 11), none, none, true⟩, ⟨.load none (.var 10), none, none, true⟩, ⟨.buildSlice 1 [.int .i64 0] [(0, 1, (.loc 1))] 1, none, none, true⟩, ⟨.append 1 8 (.loc 0) (.loc 2), none, none, true⟩, ⟨.store 1 (.var 11) (.loc 3) [], none, none, true⟩]) (.ops [⟨.move (.var 14), none, none, true⟩, ⟨.load none (.var 10), none, none, true⟩, ⟨.buildSlice 1 [.int .i64 0] [(0, 1, (.loc 1))] 1, none, none, true⟩, ⟨.append 1 8 (.loc 0) (.loc 2), none, none, true⟩, ⟨.move (.loc 3), none, (some 14), true⟩])))))))))))))
 (.ops [⟨.bin .add .no (.var 7) (.k (.int .i64 1)), none, none, true⟩, ⟨.move (.loc 0), none, (some 7), true⟩])))))))))))
 ((.seq (.ops [⟨.load none (.var 11), none, none, true⟩, ⟨.move (.var 14), none, none, true⟩, ⟨.build [.int .i64 0, .int .i64 0] [], none, none, true⟩, ⟨.move (.loc 0), none, (some 2), true⟩, ⟨.move (.loc 1), none, (some 3), true⟩, ⟨.upd 2 0 (.var 4) (.loc 2), none, (some 4), true⟩])
 (.ret))))))))))), none⟩
theorem v_speculate_Decide {F : Nat → Option RFunc} {me nspeculate_results nspeculate_Decidex1 nslices_IndexFunc__api_TestResult_api_TestResult : Nat} (hF : F me = some (rf_speculate_Decide nspeculate_results nspeculate_Decidex1 nslices_IndexFunc__api_TestResult_api_TestResult)) {fl : Nat} {H : Heap} {Q : AV → Heap → Prop} (n0 : Int) (list1 : AV)
  (h : ∀ (H2 : Heap), Dead1 H 1 H2 → Ret F fl nspeculate_results [(.int .i64 n0), list1] H2 (fun v6 H5 => ∃ (r3 : Int) (r4 : Int), v6 = (.agg [(.int .i64 r3), (.int .i64 r4)]) ∧ ∀ (H7 : Heap), Dead1 H5 1 H7 → ((¬(((r3 = 0) ∧ (((r4 = 0) ∧ (True)))))) → Q (.tuple [.empty, .empty, (.agg [(.int .i64 r3), (.int .i64 r4)])]) H7) ∧ (¬(¬(((r3 = 0) ∧ (((r4 = 0) ∧ (True)))))) → ∀ (b8 : Nat) (H9 : Heap), NewB H7 1 [.empty] b8 H9 → ∃ (J10 : Nat → Int → Int → Int → AV → Heap → Prop) (k11 : Nat), J10 k11 0 0 0 .empty H9 ∧ (∀ (m12 : Nat) (v15 : Int) (v16 : Int) (v17 : Int) (rejected22 : AV) (H24 : Heap), J10 m12 v15 v16 v17 rejected22 H24 → ((v17 < n0) → ∀ (b25 : Nat) (H26 : Heap), NewB H24 1 [(.int .i64 0)] b25 H26 → ∃ H27 : Heap, putA fl H26 b25 0 1 (.int .i64 v17) = some H27 ∧ Ret F fl nslices_IndexFunc__api_TestResult_api_TestResult [list1, (.func nspeculate_Decidex1 [(.ptr b25 0), (.ptr b8 0)])] H27 (fun v30 H29 => ∃ (r28 : Int), v30 = (.int .i64 r28) ∧ ((r28 < 0) → ∃ (e31 : AV), rload H29 none b8 0 = some e31 ∧ Q (.tuple [e31, rejected22, (.agg [(.int .i64 0), (.int .i64 0)])]) H29) ∧ (¬(r28 < 0) → ∃ (e32 : Bool), getA H29 3 none list1 r28 2 = some (.bool e32) ∧ ((e32 = true) → ∃ (e34 : AV), rload H29 none b8 0 = some e34 ∧ ∃ (e35 : Int), rload H29 none b25 0 = some (.int .i64 e35) ∧ ∀ (b36 : Nat) (H37 : Heap), NewB H29 1 [(.int .i64 e35)] b36 H37 → ∃ (a38 : AV) (H39 : Heap), appA fl true 1 8 H37 e34 (.slice b36 0 1 (some 1)) = some (a38, H39) ∧ ∃ H40 : Heap, putA fl H39 b8 0 1 a38 = some H40 ∧ ∃ m41 : Nat, m41 < m12 ∧ J10 m41 v15 v16 (IntKind.wrap .i64 (v17 + 1)) rejected22 H40) ∧ (¬(e32 = true) → ∃ (e42 : Int), rload H29 none b25 0 = some (.int .i64 e42) ∧ ∀ (b43 : Nat) (H44 : Heap), NewB H29 1 [(.int .i64 e42)] b43 H44 → ∃ (a45 : AV) (H46 : Heap), appA fl true 1 8 H44 rejected22 (.slice b43 0 1 (some 1)) = some (a45, H46) ∧ ∃ m47 : Nat, m47 < m12 ∧ J10 m47 v15 v16 (IntKind.wrap .i64 (v17 + 1)) a45 H46)))) ∧ (¬(v17 < n0) → ∃ (e48 : AV), rload H24 none b8 0 = some e48 ∧ Q (.tuple [e48, rejected22, (.agg [(.int .i64 0), (.int .i64 0)])]) H24))))) : Ret F fl me [(.int .i64 n0), list1] H Q := by
  refine ret_intro hF rfl ?_
  refine w_seq ?_
  refine w_run [0, 0, 1] ?_
  obtain ⟨H2, hb⟩ : ∃ H', Dead1 H 1 H' := ⟨_, ⟨rfl⟩⟩
  replace h := h H2 hb
  refine t_tomb true 1 (.agg [(.int .i64 0), (.int .i64 0)]) [(.int .i64 0), (.int .i64 0)] H2 H (by kernel_rfl) rfl hb ?_
  refine t_done [(.int .i64 n0), list1, .empty, .empty, (.agg [(.int .i64 0), (.int .i64 0)]), .undef, .undef, .undef, .undef, .undef, .undef, .undef, .undef, .undef, .undef, .undef] H2 (by kernel_rfl) ?_
  refine then_norm ?_
  refine w_seq ?_
  refine w_seq ?_
  refine w_run [0, 0, 1, 1, 1] ?_
  refine t_call true nspeculate_results [(.int .i64 n0), list1] H2 (by kernel_rfl) h ?_
  clear h
  rintro _ H5 ⟨r3, r4, rfl, h⟩
  obtain ⟨H7, hb⟩ : ∃ H', Dead1 H5 1 H' := ⟨_, ⟨rfl⟩⟩
  replace h := h H7 hb
  refine t_tomb true 1 (.agg [(.int .i64 0), (.int .i64 0)]) [(.int .i64 0), (.int .i64 0)] H7 H5 (by kernel_rfl) rfl hb ?_
  refine t_upd true 2 0 [(.int .i64 0), (.int .i64 0)] (.agg [(.int .i64 r3), (.int .i64 r4)]) [(.int .i64 r3), (.int .i64 r4)] [(.int .i64 r3), (.int .i64 r4)] H7 (by kernel_rfl) rfl (all_c rfl (all_c rfl all_n)) ⟨rfl, Nat.le_of_ble_eq_true (by kernel_rfl), rfl⟩ ?_
  refine t_done [(.int .i64 n0), list1, .empty, .empty, (.agg [(.int .i64 0), (.int .i64 0)]), (.agg [(.int .i64 r3), (.int .i64 r4)]), .undef, .undef, .undef, .undef, .undef, .undef, .undef, .undef, .undef, .undef] H7 (by kernel_rfl) ?_
  refine then_norm ?_
  refine w_seq ?_
  refine w_run [0, 1, 0] ?_
  refine t_build true [(.int .i64 0), (.int .i64 0)] [] [] [(.int .i64 0), (.int .i64 0)] H7 (by kernel_rfl) (by kernel_rfl) ?_
  refine t_done [(.int .i64 n0), list1, .empty, .empty, (.agg [(.int .i64 0), (.int .i64 0)]), (.agg [(.int .i64 r3), (.int .i64 r4)]), (.bool (!(((r3) == 0) && (((r4) == 0) && true)))), .undef, .undef, .undef, .undef, .undef, .undef, .undef, .undef, .undef] H7 (by kernel_rfl) ?_
  refine then_norm ?_
  refine w_cond (t := (!(((r3) == 0) && (((r4) == 0) && true)))) rfl (fun hc => ?_) (fun hc => ?_)
  · replace h := h.1 ((is_not (is_and is_eq (is_and is_eq is_true))).t hc)
    refine w_seq ?_
    refine w_run [0, 0, 0, 1] ?_
    refine t_upd true 2 0 [(.int .i64 0), (.int .i64 0)] (.agg [(.int .i64 r3), (.int .i64 r4)]) [(.int .i64 r3), (.int .i64 r4)] [(.int .i64 r3), (.int .i64 r4)] H7 (by kernel_rfl) rfl (all_c rfl (all_c rfl all_n)) ⟨rfl, Nat.le_of_ble_eq_true (by kernel_rfl), rfl⟩ ?_
    refine t_done [(.int .i64 n0), list1, .empty, .empty, (.agg [(.int .i64 r3), (.int .i64 r4)]), (.agg [(.int .i64 r3), (.int .i64 r4)]), (.bool (!(((r3) == 0) && (((r4) == 0) && true)))), .undef, .undef, .undef, .undef, .undef, .undef, .undef, .undef, .undef] H7 (by kernel_rfl) ?_
    refine then_norm ?_
    refine w_ret ?_
    refine then_ret ?_
    exact body_ret (vs := [.empty, .empty, (.agg [(.int .i64 r3), (.int .i64 r4)])]) _ (by kernel_rfl) rfl h
  · replace h := h.2 ((is_not (is_and is_eq (is_and is_eq is_true))).f hc)
    refine w_skip ?_
    refine then_norm ?_
    refine w_seq ?_
    refine w_run [1, 0] ?_
    obtain ⟨b8, H9, hb⟩ : ∃ b H', NewB H7 1 [.empty] b H' := ⟨_, _, rfl, rfl⟩
    replace h := h b8 H9 hb
    refine t_alloc true 1 [.empty] b8 H9 H7 (by kernel_rfl) hb ?_
    refine t_done [(.int .i64 n0), list1, .empty, .empty, (.agg [(.int .i64 0), (.int .i64 0)]), (.agg [(.int .i64 r3), (.int .i64 r4)]), (.bool (!(((r3) == 0) && (((r4) == 0) && true)))), .undef, .undef, .undef, .undef, (.ptr b8 0), .undef, .undef, .empty, .undef] H9 (by kernel_rfl) ?_
    refine then_norm ?_
    refine w_seq ?_
    refine w_seq ?_
    refine w_run [0, 0] ?_
    refine t_done [(.int .i64 n0), list1, .empty, .empty, (.agg [(.int .i64 0), (.int .i64 0)]), (.agg [(.int .i64 r3), (.int .i64 r4)]), (.bool (!(((r3) == 0) && (((r4) == 0) && true)))), (.int .i64 0), (.int .i64 n0), .undef, .undef, (.ptr b8 0), .undef, .undef, .empty, .undef] H9 (by kernel_rfl) ?_
    refine then_norm ?_
    refine w_block ?_
    obtain ⟨J10, k11, h0, h⟩ := h
    refine w_loop (I := fun mI EI HI => ∃ (d13 : AV) (d14 : AV) (v15 : Int) (v16 : Int) (v17 : Int) (d18 : AV) (d19 : AV) (d20 : AV) (d21 : AV) (rejected22 : AV) (d23 : AV), EI = [(.int .i64 n0), list1, d13, d14, (.agg [(.int .i64 v15), (.int .i64 v16)]), (.agg [(.int .i64 r3), (.int .i64 r4)]), (.bool (!(((r3) == 0) && (((r4) == 0) && true)))), (.int .i64 v17), (.int .i64 n0), d18, d19, (.ptr b8 0), d20, d21, rejected22, d23] ∧ J10 mI v15 v16 v17 rejected22 HI) ?_ k11 ⟨_, _, _, _, _, _, _, _, _, _, _, rfl, h0⟩
    clear h0
    rintro m12 EI H24 ⟨d13, d14, v15, v16, v17, d18, d19, d20, d21, rejected22, d23, rfl, hJ⟩
    replace h := h m12 v15 v16 v17 rejected22 H24 hJ
    clear hJ
    refine w_seq ?_
    refine w_run [0] ?_
    refine t_done [(.int .i64 n0), list1, d13, d14, (.agg [(.int .i64 v15), (.int .i64 v16)]), (.agg [(.int .i64 r3), (.int .i64 r4)]), (.bool (!(((r3) == 0) && (((r4) == 0) && true)))), (.int .i64 v17), (.int .i64 n0), (.bool (decide (v17 < n0))), d19, (.ptr b8 0), d20, d21, rejected22, d23] H24 (by kernel_rfl) ?_
    refine then_norm ?_
    refine w_seq ?_
    refine w_cond (t := (decide (v17 < n0))) rfl (fun hc => ?_) (fun hc => ?_)
    · replace h := h.1 (is_dec.t hc)
      refine w_skip ?_
      refine then_norm ?_
      refine w_seq ?_
      refine w_block ?_
      refine w_seq ?_
      refine w_run [0, 1, 1] ?_
      obtain ⟨b25, H26, hb⟩ : ∃ b H', NewB H24 1 [(.int .i64 0)] b H' := ⟨_, _, rfl, rfl⟩
      replace h := h b25 H26 hb
      refine t_alloc true 1 [(.int .i64 0)] b25 H26 H24 (by kernel_rfl) hb ?_
      obtain ⟨H27, hp, h⟩ := h
      refine t_store true 1 b25 0 (.int .i64 v17) H27 H26 (by kernel_rfl) hp ?_
      refine t_done [(.int .i64 n0), list1, d13, d14, (.agg [(.int .i64 v15), (.int .i64 v16)]), (.agg [(.int .i64 r3), (.int .i64 r4)]), (.bool (!(((r3) == 0) && (((r4) == 0) && true)))), (.int .i64 v17), (.int .i64 n0), (.bool (decide (v17 < n0))), (.ptr b25 0), (.ptr b8 0), d20, d21, rejected22, d23] H27 (by kernel_rfl) ?_
      refine then_norm ?_
      refine w_seq ?_
      refine w_run [0, 0, 1, 0] ?_
      refine t_call true nslices_IndexFunc__api_TestResult_api_TestResult [list1, (.func nspeculate_Decidex1 [(.ptr b25 0), (.ptr b8 0)])] H27 (by kernel_rfl) h ?_
      clear h
      rintro _ H29 ⟨r28, rfl, h⟩
      refine t_done [(.int .i64 n0), list1, d13, d14, (.agg [(.int .i64 v15), (.int .i64 v16)]), (.agg [(.int .i64 r3), (.int .i64 r4)]), (.bool (!(((r3) == 0) && (((r4) == 0) && true)))), (.int .i64 v17), (.int .i64 n0), (.bool (decide (v17 < n0))), (.ptr b25 0), (.ptr b8 0), (.int .i64 r28), d21, rejected22, d23] H29 (by kernel_rfl) ?_
      refine then_norm ?_
      refine w_block ?_
      refine w_seq ?_
      refine w_run [0, 0, 0] ?_
      refine t_done [(.int .i64 n0), list1, d13, d14, (.agg [(.int .i64 v15), (.int .i64 v16)]), (.agg [(.int .i64 r3), (.int .i64 r4)]), (.bool (!(((r3) == 0) && (((r4) == 0) && true)))), (.int .i64 v17), (.int .i64 n0), (.bool (decide (v17 < n0))), (.ptr b25 0), (.ptr b8 0), (.int .i64 r28), (.bool (decide (r28 < 0))), rejected22, d23] H29 (by kernel_rfl) ?_
      refine then_norm ?_
      refine w_cond (t := (decide (r28 < 0))) rfl (fun hc => ?_) (fun hc => ?_)
      · replace h := h.1 (is_dec.t hc)
        refine w_seq ?_
        refine w_run [1, 0, 1, 0, 0, 1] ?_
        obtain ⟨e31, hl, h⟩ := h
        refine t_load true none b8 0 e31 H29 (by kernel_rfl) hl ?_
        refine t_build true [(.int .i64 0), (.int .i64 0)] [] [] [(.int .i64 0), (.int .i64 0)] H29 (by kernel_rfl) (by kernel_rfl) ?_
        refine t_upd true 2 0 [(.int .i64 v15), (.int .i64 v16)] (.agg [(.int .i64 0), (.int .i64 0)]) [(.int .i64 0), (.int .i64 0)] [(.int .i64 0), (.int .i64 0)] H29 (by kernel_rfl) rfl (all_c rfl (all_c rfl all_n)) ⟨rfl, Nat.le_of_ble_eq_true (by kernel_rfl), rfl⟩ ?_
        refine t_done [(.int .i64 n0), list1, e31, rejected22, (.agg [(.int .i64 0), (.int .i64 0)]), (.agg [(.int .i64 r3), (.int .i64 r4)]), (.bool (!(((r3) == 0) && (((r4) == 0) && true)))), (.int .i64 v17), (.int .i64 n0), (.bool (decide (v17 < n0))), (.ptr b25 0), (.ptr b8 0), (.int .i64 r28), (.bool (decide (r28 < 0))), rejected22, d23] H29 (by kernel_rfl) ?_
        refine then_norm ?_
        refine w_ret ?_
        refine block_ret ?_
        refine block_ret ?_
        refine then_ret ?_
        refine loop_ret ?_
        refine block_ret ?_
        refine then_ret ?_
        exact body_ret (vs := [e31, rejected22, (.agg [(.int .i64 0), (.int .i64 0)])]) _ (by kernel_rfl) rfl h
      · replace h := h.2 (is_dec.f hc)
        refine w_seq ?_
        refine w_run [0, 0, 1, 1, 1, 0] ?_
        obtain ⟨e32, hg33, h⟩ := h
        refine t_idxG true 3 list1 .i64 r28 H29 (by kernel_rfl) hg33 ?_
        refine t_fldG true 2 3 list1 r28 0 H29 (by kernel_rfl) hg33 ?_
        refine t_loadG true none 3 list1 r28 2 (.bool e32) H29 (by kernel_rfl) hg33 ?_
        refine t_done [(.int .i64 n0), list1, d13, d14, (.agg [(.int .i64 v15), (.int .i64 v16)]), (.agg [(.int .i64 r3), (.int .i64 r4)]), (.bool (!(((r3) == 0) && (((r4) == 0) && true)))), (.int .i64 v17), (.int .i64 n0), (.bool (decide (v17 < n0))), (.ptr b25 0), (.ptr b8 0), (.int .i64 r28), (.bool (decide (r28 < 0))), rejected22, (.bool e32)] H29 (by kernel_rfl) ?_
        refine then_norm ?_
        refine w_cond (t := e32) rfl (fun hc => ?_) (fun hc => ?_)
        · replace h := h.1 (is_raw.t hc)
          refine w_run [1, 1, 1, 1, 1] ?_
          obtain ⟨e34, hl, h⟩ := h
          refine t_load true none b8 0 e34 H29 (by kernel_rfl) hl ?_
          obtain ⟨e35, hl, h⟩ := h
          refine t_load true none b25 0 (.int .i64 e35) H29 (by kernel_rfl) hl ?_
          obtain ⟨b36, H37, hb⟩ : ∃ b H', NewB H29 1 [(.int .i64 e35)] b H' := ⟨_, _, rfl, rfl⟩
          replace h := h b36 H37 hb
          refine t_bs true 1 [(.int .i64 0)] [(0, 1, .loc 0)] 1 [(.int .i64 e35)] [(.int .i64 e35)] b36 H37 H29 (by kernel_rfl) (fill_c (vs := [(.int .i64 e35)]) (size := 1) rfl (by kernel_rfl) (by kernel_rfl) (by kernel_rfl)) hb ?_
          obtain ⟨a38, H39, ha, h⟩ := h
          refine t_app true 1 8 e34 (.slice b36 0 1 (some 1)) a38 H39 H37 (by kernel_rfl) ha ?_
          obtain ⟨H40, hp, h⟩ := h
          refine t_store true 1 b8 0 a38 H40 H39 (by kernel_rfl) hp ?_
          refine t_done [(.int .i64 n0), list1, d13, d14, (.agg [(.int .i64 v15), (.int .i64 v16)]), (.agg [(.int .i64 r3), (.int .i64 r4)]), (.bool (!(((r3) == 0) && (((r4) == 0) && true)))), (.int .i64 v17), (.int .i64 n0), (.bool (decide (v17 < n0))), (.ptr b25 0), (.ptr b8 0), (.int .i64 r28), (.bool (decide (r28 < 0))), rejected22, (.bool e32)] H40 (by kernel_rfl) ?_
          refine block_norm ?_
          refine block_norm ?_
          refine then_norm ?_
          refine w_run [0, 0] ?_
          refine t_done [(.int .i64 n0), list1, d13, d14, (.agg [(.int .i64 v15), (.int .i64 v16)]), (.agg [(.int .i64 r3), (.int .i64 r4)]), (.bool (!(((r3) == 0) && (((r4) == 0) && true)))), (.int .i64 (IntKind.wrap .i64 (v17 + 1))), (.int .i64 n0), (.bool (decide (v17 < n0))), (.ptr b25 0), (.ptr b8 0), (.int .i64 r28), (.bool (decide (r28 < 0))), rejected22, (.bool e32)] H40 (by kernel_rfl) ?_
          obtain ⟨m', hm, h⟩ := h
          refine loop_norm ⟨m', hm, _, _, _, _, _, _, _, _, _, _, _, rfl, h⟩
        · replace h := h.2 (is_raw.f hc)
          refine w_run [0, 1, 1, 1, 0] ?_
          obtain ⟨e42, hl, h⟩ := h
          refine t_load true none b25 0 (.int .i64 e42) H29 (by kernel_rfl) hl ?_
          obtain ⟨b43, H44, hb⟩ : ∃ b H', NewB H29 1 [(.int .i64 e42)] b H' := ⟨_, _, rfl, rfl⟩
          replace h := h b43 H44 hb
          refine t_bs true 1 [(.int .i64 0)] [(0, 1, .loc 0)] 1 [(.int .i64 e42)] [(.int .i64 e42)] b43 H44 H29 (by kernel_rfl) (fill_c (vs := [(.int .i64 e42)]) (size := 1) rfl (by kernel_rfl) (by kernel_rfl) (by kernel_rfl)) hb ?_
          obtain ⟨a45, H46, ha, h⟩ := h
          refine t_app true 1 8 rejected22 (.slice b43 0 1 (some 1)) a45 H46 H44 (by kernel_rfl) ha ?_
          refine t_done [(.int .i64 n0), list1, d13, d14, (.agg [(.int .i64 v15), (.int .i64 v16)]), (.agg [(.int .i64 r3), (.int .i64 r4)]), (.bool (!(((r3) == 0) && (((r4) == 0) && true)))), (.int .i64 v17), (.int .i64 n0), (.bool (decide (v17 < n0))), (.ptr b25 0), (.ptr b8 0), (.int .i64 r28), (.bool (decide (r28 < 0))), a45, (.bool e32)] H46 (by kernel_rfl) ?_
          refine block_norm ?_
          refine block_norm ?_
          refine then_norm ?_
          refine w_run [0, 0] ?_
          refine t_done [(.int .i64 n0), list1, d13, d14, (.agg [(.int .i64 v15), (.int .i64 v16)]), (.agg [(.int .i64 r3), (.int .i64 r4)]), (.bool (!(((r3) == 0) && (((r4) == 0) && true)))), (.int .i64 (IntKind.wrap .i64 (v17 + 1))), (.int .i64 n0), (.bool (decide (v17 < n0))), (.ptr b25 0), (.ptr b8 0), (.int .i64 r28), (.bool (decide (r28 < 0))), a45, (.bool e32)] H46 (by kernel_rfl) ?_
          obtain ⟨m', hm, h⟩ := h
          refine loop_norm ⟨m', hm, _, _, _, _, _, _, _, _, _, _, _, rfl, h⟩
    · replace h := h.2 (is_dec.f hc)
      refine w_exit ?_
      refine then_exit ?_
      refine loop_exit ?_
      refine block_exit ?_
      refine then_norm ?_
      refine w_seq ?_
      refine w_run [1, 0, 1, 0, 0, 1] ?_
      obtain ⟨e48, hl, h⟩ := h
      refine t_load true none b8 0 e48 H24 (by kernel_rfl) hl ?_
      refine t_build true [(.int .i64 0), (.int .i64 0)] [] [] [(.int .i64 0), (.int .i64 0)] H24 (by kernel_rfl) (by kernel_rfl) ?_
      refine t_upd true 2 0 [(.int .i64 v15), (.int .i64 v16)] (.agg [(.int .i64 0), (.int .i64 0)]) [(.int .i64 0), (.int .i64 0)] [(.int .i64 0), (.int .i64 0)] H24 (by kernel_rfl) rfl (all_c rfl (all_c rfl all_n)) ⟨rfl, Nat.le_of_ble_eq_true (by kernel_rfl), rfl⟩ ?_
      refine t_done [(.int .i64 n0), list1, e48, rejected22, (.agg [(.int .i64 0), (.int .i64 0)]), (.agg [(.int .i64 r3), (.int .i64 r4)]), (.bool (!(((r3) == 0) && (((r4) == 0) && true)))), (.int .i64 v17), (.int .i64 n0), (.bool (decide (v17 < n0))), d19, (.ptr b8 0), d20, d21, rejected22, d23] H24 (by kernel_rfl) ?_
      refine then_norm ?_
      refine w_ret ?_
      exact body_ret (vs := [e48, rejected22, (.agg [(.int .i64 0), (.int .i64 0)])]) _ (by kernel_rfl) rfl h

def rf_speculate_Next (nspeculate_Decide : Nat) : RFunc := ⟨2, 9, [.cell 2 (some 2), .part 3 (some 2)],
 ((.seq (.ops [⟨.alloc 1 [.int .i64 0, .empty], none, (some 2), true⟩, ⟨.tomb 1 (.k (.agg [.int .i64 0, .int .i64 0])), none, (some 3), true⟩])
 ((.seq (.ops [⟨.move (.var 0), none, none, true⟩, ⟨.move (.var 1), none, none, true⟩, ⟨.callS nspeculate_Decide [(.loc 0), (.loc 1)], none, none, true⟩, ⟨.move (.loc 2), none, none, true⟩, ⟨.extract (.loc 3) 0, none, none, true⟩, ⟨.extract (.loc 3) 1, none, none, true⟩, ⟨.extract (.loc 3) 2, none, none, true⟩, ⟨.tomb 1 (.k (.agg [.int .i64 0, .int .i64 0])), none, (some 4), true⟩, ⟨.move (.loc 4), none, (some 6), true⟩, ⟨.move (.loc 5), none, (some 7), true⟩, ⟨.upd 2 0 (.loc 7) (.loc 6), none, (some 4), true⟩])
 ((.seq (.block 0 ((.seq (.ops [⟨.field 0 (some 2) (.var 4), none, none, true⟩, ⟨.build [.int .i64 0, .int .i64 0] [], none, none, true⟩, ⟨.bin .neq (.agg [.int, .int]) (.loc 0) (.loc 1), none, none, true⟩, ⟨.move (.loc 2), none, (some 5), true⟩])
 (.cond (.var 5) ((.seq (.ops [⟨.build [.int .i64 0, .empty] [], none, none, false⟩, ⟨.field 0 (some 2) (.var 4), none, none, false⟩, ⟨.store 2 (.var 2) (.loc 0) [(.var 4)], none, none, false⟩, ⟨.upd 2 0 (.var 3) (.loc 1), none, (some 3), true⟩])
 (.ret))) ((.seq (.ops [⟨.move (.var 6), none, none, true⟩, ⟨.len (.loc 0), none, none, true⟩, ⟨.move (.var 7), none, none, true⟩, ⟨.len (.loc 2), none, none, true⟩, ⟨.bin .add .no (.loc 1) (.loc 3), none, none, true⟩, ⟨.move (.var 0), none, none, true⟩, ⟨.bin .eql .no (.loc 4) (.loc 5), none, none, true⟩, ⟨.move (.loc 6), none, (some 8), true⟩])
 (.cond (.var 8) ((.seq (.ops [⟨.build [.int .i64 0, .empty] [], none, none, true⟩, ⟨.build [.int .i64 0, .int .i64 0] [(0, 1, (.k (.int .i64 6))), (1, 1, (.k (.int .i64 (-3))))], none, none, true⟩, ⟨.store 2 (.var 2) (.loc 0) [], none, none, true⟩, ⟨.upd 2 0 (.var 3) (.loc 1), none, (some 3), true⟩])
 (.ret))) (.skip))))))))
 ((.seq (.ops [⟨.move (.var 6), none, none, false⟩, ⟨.len (.loc 0), none, none, false⟩, ⟨.move (.var 7), none, none, false⟩, ⟨.len (.loc 2), none, none, false⟩, ⟨.bin .add .no (.loc 1) (.loc 3), none, none, false⟩, ⟨.move (.var 6), none, none, false⟩, ⟨.build [.int .i64 0, .empty] [(0, 1, (.loc 4)), (1, 1, (.loc 5))], none, none, false⟩, ⟨.field 0 (some 2) (.var 4), none, none, false⟩, ⟨.store 2 (.var 2) (.loc 6) [(.var 4)], none, none, false⟩, ⟨.upd 2 0 (.var 3) (.loc 7), none, (some 3), true⟩])
 (.ret))))))))), none⟩
theorem v_speculate_Next {F : Nat → Option RFunc} {me nspeculate_Decide : Nat} (hF : F me = some (rf_speculate_Next nspeculate_Decide)) {fl : Nat} {H : Heap} {Q : AV → Heap → Prop} (n0 : Int) (list1 : AV)
  (h : ∀ (b2 : Nat) (H3 : Heap), NewB H 1 [(.int .i64 0), .empty] b2 H3 → ∀ (H4 : Heap), Dead1 H3 1 H4 → Ret F fl nspeculate_Decide [(.int .i64 n0), list1] H4 (fun v10 H9 => ∃ (r5 : AV) (r6 : AV) (r7 : Int) (r8 : Int), v10 = (.tuple [r5, r6, (.agg [(.int .i64 r7), (.int .i64 r8)])]) ∧ ∀ (H11 : Heap), Dead1 H9 1 H11 → ((¬(((r7 = 0) ∧ (((r8 = 0) ∧ (True)))))) → ∃ H12 : Heap, putA fl H11 b2 0 2 (.agg [(.int .i64 0), .empty]) = some H12 ∧ ∃ e13 : AV, rload H12 (some 2) b2 0 = some e13 ∧ Q (.tuple [e13, (.agg [(.int .i64 r7), (.int .i64 r8)])]) H12) ∧ (¬(¬(((r7 = 0) ∧ (((r8 = 0) ∧ (True)))))) → ∃ len15 : Nat, lenA r5 = some len15 ∧ ∃ len16 : Nat, lenA r6 = some len16 ∧ (((IntKind.wrap .i64 ((len15 : Int) + (len16 : Int))) = n0) → ∃ H17 : Heap, putA fl H11 b2 0 2 (.agg [(.int .i64 0), .empty]) = some H17 ∧ ∃ e18 : AV, rload H17 (some 2) b2 0 = some e18 ∧ Q (.tuple [e18, (.agg [(.int .i64 6), (.int .i64 (-3))])]) H17) ∧ (¬((IntKind.wrap .i64 ((len15 : Int) + (len16 : Int))) = n0) → ∃ len20 : Nat, lenA r5 = some len20 ∧ ∃ len21 : Nat, lenA r6 = some len21 ∧ Scal r5 ∧ ∃ H23 : Heap, putA fl H11 b2 0 2 (.agg [(.int .i64 (IntKind.wrap .i64 ((len20 : Int) + (len21 : Int)))), r5]) = some H23 ∧ ∃ e24 : AV, rload H23 (some 2) b2 0 = some e24 ∧ Q (.tuple [e24, (.agg [(.int .i64 r7), (.int .i64 r8)])]) H23)))) : Ret F fl me [(.int .i64 n0), list1] H Q := by
  refine ret_intro hF rfl ?_
  refine w_seq ?_
  refine w_run [1, 1] ?_
  obtain ⟨b2, H3, hb⟩ : ∃ b H', NewB H 1 [(.int .i64 0), .empty] b H' := ⟨_, _, rfl, rfl⟩
  replace h := h b2 H3 hb
  refine t_alloc true 1 [(.int .i64 0), .empty] b2 H3 H (by kernel_rfl) hb ?_
  obtain ⟨H4, hb⟩ : ∃ H', Dead1 H3 1 H' := ⟨_, ⟨rfl⟩⟩
  replace h := h H4 hb
  refine t_tomb true 1 (.agg [(.int .i64 0), (.int .i64 0)]) [(.int .i64 0), (.int .i64 0)] H4 H3 (by kernel_rfl) rfl hb ?_
  refine t_done [(.int .i64 n0), list1, (.ptr b2 0), (.agg [(.int .i64 0), (.int .i64 0)]), .undef, .undef, .undef, .undef, .undef] H4 (by kernel_rfl) ?_
  refine then_norm ?_
  refine w_seq ?_
  refine w_run [0, 0, 1, 0, 0, 0, 0, 1, 0, 0, 1] ?_
  refine t_call true nspeculate_Decide [(.int .i64 n0), list1] H4 (by kernel_rfl) h ?_
  clear h
  rintro _ H9 ⟨r5, r6, r7, r8, rfl, h⟩
  obtain ⟨H11, hb⟩ : ∃ H', Dead1 H9 1 H' := ⟨_, ⟨rfl⟩⟩
  replace h := h H11 hb
  refine t_tomb true 1 (.agg [(.int .i64 0), (.int .i64 0)]) [(.int .i64 0), (.int .i64 0)] H11 H9 (by kernel_rfl) rfl hb ?_
  refine t_upd true 2 0 [(.int .i64 0), (.int .i64 0)] (.agg [(.int .i64 r7), (.int .i64 r8)]) [(.int .i64 r7), (.int .i64 r8)] [(.int .i64 r7), (.int .i64 r8)] H11 (by kernel_rfl) rfl (all_c rfl (all_c rfl all_n)) ⟨rfl, Nat.le_of_ble_eq_true (by kernel_rfl), rfl⟩ ?_
  refine t_done [(.int .i64 n0), list1, (.ptr b2 0), (.agg [(.int .i64 0), (.int .i64 0)]), (.agg [(.int .i64 r7), (.int .i64 r8)]), .undef, r5, r6, .undef] H11 (by kernel_rfl) ?_
  refine then_norm ?_
  refine w_seq ?_
  refine w_block ?_
  refine w_seq ?_
  refine w_run [0, 1, 0, 0] ?_
  refine t_build true [(.int .i64 0), (.int .i64 0)] [] [] [(.int .i64 0), (.int .i64 0)] H11 (by kernel_rfl) (by kernel_rfl) ?_
  refine t_done [(.int .i64 n0), list1, (.ptr b2 0), (.agg [(.int .i64 0), (.int .i64 0)]), (.agg [(.int .i64 r7), (.int .i64 r8)]), (.bool (!(((r7) == 0) && (((r8) == 0) && true)))), r5, r6, .undef] H11 (by kernel_rfl) ?_
  refine then_norm ?_
  refine w_cond (t := (!(((r7) == 0) && (((r8) == 0) && true)))) rfl (fun hc => ?_) (fun hc => ?_)
  · replace h := h.1 ((is_not (is_and is_eq (is_and is_eq is_true))).t hc)
    refine w_seq ?_
    refine w_run [1, 0, 1, 1] ?_
    refine t_build false [(.int .i64 0), .empty] [] [] [(.int .i64 0), .empty] H11 (by kernel_rfl) (by kernel_rfl) ?_
    obtain ⟨H12, hp, h⟩ := h
    refine t_store1 false 2 b2 0 (.agg [(.int .i64 0), .empty]) (.agg [(.int .i64 r7), (.int .i64 r8)]) H12 H11 (by kernel_rfl) rfl hp ?_
    refine t_upd true 2 0 [(.int .i64 0), (.int .i64 0)] (.agg [(.int .i64 r7), (.int .i64 r8)]) [(.int .i64 r7), (.int .i64 r8)] [(.int .i64 r7), (.int .i64 r8)] H12 (by kernel_rfl) rfl (all_c rfl (all_c rfl all_n)) ⟨rfl, Nat.le_of_ble_eq_true (by kernel_rfl), rfl⟩ ?_
    refine t_done [(.int .i64 n0), list1, (.ptr b2 0), (.agg [(.int .i64 r7), (.int .i64 r8)]), (.agg [(.int .i64 r7), (.int .i64 r8)]), (.bool (!(((r7) == 0) && (((r8) == 0) && true)))), r5, r6, .undef] H12 (by kernel_rfl) ?_
    refine then_norm ?_
    refine w_ret ?_
    refine block_ret ?_
    refine then_ret ?_
    obtain ⟨e13, hl14, h⟩ := h
    exact body_ret (vs := [e13, (.agg [(.int .i64 r7), (.int .i64 r8)])]) _ (res_c hl14 (res_c (by kernel_rfl) res_n)) rfl h
  · replace h := h.2 ((is_not (is_and is_eq (is_and is_eq is_true))).f hc)
    refine w_seq ?_
    refine w_run [0, 1, 0, 1, 0, 0, 0, 0] ?_
    obtain ⟨len15, hl, h⟩ := h
    refine t_len true r5 len15 H11 (by kernel_rfl) hl ?_
    obtain ⟨len16, hl, h⟩ := h
    refine t_len true r6 len16 H11 (by kernel_rfl) hl ?_
    refine t_done [(.int .i64 n0), list1, (.ptr b2 0), (.agg [(.int .i64 0), (.int .i64 0)]), (.agg [(.int .i64 r7), (.int .i64 r8)]), (.bool (!(((r7) == 0) && (((r8) == 0) && true)))), r5, r6, (.bool (((IntKind.wrap .i64 ((len15 : Int) + (len16 : Int)))) == n0))] H11 (by kernel_rfl) ?_
    refine then_norm ?_
    refine w_cond (t := (((IntKind.wrap .i64 ((len15 : Int) + (len16 : Int)))) == n0)) rfl (fun hc => ?_) (fun hc => ?_)
    · replace h := h.1 (is_eq.t hc)
      refine w_seq ?_
      refine w_run [1, 1, 1, 1] ?_
      refine t_build true [(.int .i64 0), .empty] [] [] [(.int .i64 0), .empty] H11 (by kernel_rfl) (by kernel_rfl) ?_
      refine t_build true [(.int .i64 0), (.int .i64 0)] [(0, 1, .loc 0), (1, 1, .loc 1)] [(.int .i64 6), (.int .i64 (-3))] [(.int .i64 6), (.int .i64 (-3))] H11 (by kernel_rfl) (fill_c (vs := [(.int .i64 6)]) (size := 1) rfl (by kernel_rfl) (by kernel_rfl) (fill_c (vs := [(.int .i64 (-3))]) (size := 1) rfl (by kernel_rfl) (by kernel_rfl) (by kernel_rfl))) ?_
      obtain ⟨H17, hp, h⟩ := h
      refine t_store true 2 b2 0 (.agg [(.int .i64 0), .empty]) H17 H11 (by kernel_rfl) hp ?_
      refine t_upd true 2 0 [(.int .i64 0), (.int .i64 0)] (.agg [(.int .i64 6), (.int .i64 (-3))]) [(.int .i64 6), (.int .i64 (-3))] [(.int .i64 6), (.int .i64 (-3))] H17 (by kernel_rfl) rfl (all_c rfl (all_c rfl all_n)) ⟨rfl, Nat.le_of_ble_eq_true (by kernel_rfl), rfl⟩ ?_
      refine t_done [(.int .i64 n0), list1, (.ptr b2 0), (.agg [(.int .i64 6), (.int .i64 (-3))]), (.agg [(.int .i64 r7), (.int .i64 r8)]), (.bool (!(((r7) == 0) && (((r8) == 0) && true)))), r5, r6, (.bool (((IntKind.wrap .i64 ((len15 : Int) + (len16 : Int)))) == n0))] H17 (by kernel_rfl) ?_
      refine then_norm ?_
      refine w_ret ?_
      refine block_ret ?_
      refine then_ret ?_
      obtain ⟨e18, hl19, h⟩ := h
      exact body_ret (vs := [e18, (.agg [(.int .i64 6), (.int .i64 (-3))])]) _ (res_c hl19 (res_c (by kernel_rfl) res_n)) rfl h
    · replace h := h.2 (is_eq.f hc)
      refine w_skip ?_
      refine block_norm ?_
      refine then_norm ?_
      refine w_seq ?_
      refine w_run [0, 1, 0, 1, 0, 0, 1, 0, 1, 1] ?_
      obtain ⟨len20, hl, h⟩ := h
      refine t_len false r5 len20 H11 (by kernel_rfl) hl ?_
      obtain ⟨len21, hl, h⟩ := h
      refine t_len false r6 len21 H11 (by kernel_rfl) hl ?_
      obtain ⟨hs22, h⟩ := h
      refine t_build false [(.int .i64 0), .empty] [(0, 1, .loc 0), (1, 1, .loc 1)] [(.int .i64 (IntKind.wrap .i64 ((len20 : Int) + (len21 : Int)))), r5] [(.int .i64 (IntKind.wrap .i64 ((len20 : Int) + (len21 : Int)))), r5] H11 (by kernel_rfl) (fill_c (vs := [(.int .i64 (IntKind.wrap .i64 ((len20 : Int) + (len21 : Int))))]) (size := 1) rfl (by kernel_rfl) (by kernel_rfl) (fill_c (vs := [r5]) (size := 1) hs22.1 (by kernel_rfl) (by kernel_rfl) (by kernel_rfl))) ?_
      obtain ⟨H23, hp, h⟩ := h
      refine t_store1 false 2 b2 0 (.agg [(.int .i64 (IntKind.wrap .i64 ((len20 : Int) + (len21 : Int)))), r5]) (.agg [(.int .i64 r7), (.int .i64 r8)]) H23 H11 (by kernel_rfl) rfl hp ?_
      refine t_upd true 2 0 [(.int .i64 0), (.int .i64 0)] (.agg [(.int .i64 r7), (.int .i64 r8)]) [(.int .i64 r7), (.int .i64 r8)] [(.int .i64 r7), (.int .i64 r8)] H23 (by kernel_rfl) rfl (all_c rfl (all_c rfl all_n)) ⟨rfl, Nat.le_of_ble_eq_true (by kernel_rfl), rfl⟩ ?_
      refine t_done [(.int .i64 n0), list1, (.ptr b2 0), (.agg [(.int .i64 r7), (.int .i64 r8)]), (.agg [(.int .i64 r7), (.int .i64 r8)]), (.bool (!(((r7) == 0) && (((r8) == 0) && true)))), r5, r6, (.bool (((IntKind.wrap .i64 ((len15 : Int) + (len16 : Int)))) == n0))] H23 (by kernel_rfl) ?_
      refine then_norm ?_
      refine w_ret ?_
      obtain ⟨e24, hl25, h⟩ := h
      exact body_ret (vs := [e24, (.agg [(.int .i64 r7), (.int .i64 r8)])]) _ (res_c hl25 (res_c (by kernel_rfl) res_n)) rfl h

def rf_speculate_Useful (nspeculate_Decide nspeculate_runCode nslices_BinarySearch__int_int nslices_Equal__int_int : Nat) : RFunc := ⟨3, 14, [.var 3, .part 4 (some 2)],
 ((.seq (.ops [⟨.tomb 1 (.var 2), none, (some 7), true⟩, ⟨.move (.k (.bool false)), none, (some 3), true⟩, ⟨.tomb 1 (.k (.agg [.int .i64 0, .int .i64 0])), none, (some 4), true⟩])
 ((.seq (.ops [⟨.move (.var 0), none, none, true⟩, ⟨.move (.var 1), none, none, true⟩, ⟨.callS nspeculate_Decide [(.loc 0), (.loc 1)], none, none, true⟩, ⟨.move (.loc 2), none, none, true⟩, ⟨.extract (.loc 3) 0, none, none, true⟩, ⟨.extract (.loc 3) 1, none, none, true⟩, ⟨.extract (.loc 3) 2, none, none, true⟩, ⟨.tomb 1 (.k (.agg [.int .i64 0, .int .i64 0])), none, (some 5), true⟩, ⟨.move (.loc 4), none, (some 10), true⟩, ⟨.move (.loc 5), none, (some 11), true⟩, ⟨.upd 2 0 (.loc 7) (.loc 6), none, (some 5), true⟩])
 ((.seq ((.seq (.ops [⟨.field 0 (some 2) (.var 5), none, none, true⟩, ⟨.build [.int .i64 0, .int .i64 0] [], none, none, true⟩, ⟨.bin .neq (.agg [.int, .int]) (.loc 0) (.loc 1), none, (some 6), true⟩])
 (.cond (.var 6) ((.seq (.ops [⟨.field 0 (some 2) (.var 5), none, none, true⟩, ⟨.move (.k (.bool false)), none, (some 3), false⟩, ⟨.upd 2 0 (.var 4) (.loc 0), none, (some 4), true⟩])
 (.ret))) (.skip))))
 ((.seq ((.seq (.ops [⟨.move (.var 0), none, none, true⟩, ⟨.field 0 (some 2) (.var 7), none, none, true⟩, ⟨.callS nspeculate_runCode [(.loc 0), (.loc 1)], none, none, true⟩, ⟨.move (.loc 2), none, (some 8), true⟩])
 ((.seq (.ops [⟨.move (.var 8), none, none, true⟩, ⟨.bin .neq .no (.loc 0) (.k (.int .i64 0)), none, (some 9), true⟩])
 (.cond (.var 9) ((.seq (.ops [⟨.move (.var 8), none, none, true⟩, ⟨.build [.int .i64 0, .int .i64 0] [(0, 1, (.loc 0)), (1, 1, (.k (.int .i64 (-3))))], none, none, true⟩, ⟨.move (.k (.bool false)), none, (some 3), true⟩, ⟨.upd 2 0 (.var 4) (.loc 1), none, (some 4), true⟩])
 (.ret))) (.skip))))))
 ((.seq (.ops [⟨.move (.var 10), none, none, true⟩, ⟨.len (.loc 0), none, none, true⟩, ⟨.move (.var 11), none, none, true⟩, ⟨.len (.loc 2), none, none, true⟩, ⟨.bin .add .no (.loc 1) (.loc 3), none, none, true⟩, ⟨.move (.loc 4), none, (some 12), true⟩])
 ((.seq (.ops [⟨.field 0 none (.var 7), none, none, true⟩, ⟨.field 1 none (.var 7), none, none, true⟩, ⟨.move (.var 12), none, none, true⟩, ⟨.callS nslices_BinarySearch__int_int [(.loc 1), (.loc 2)], none, none, true⟩, ⟨.move (.loc 3), none, none, true⟩, ⟨.extract (.loc 4) 0, none, none, true⟩, ⟨.extract (.loc 4) 1, none, none, true⟩, ⟨.move (.loc 5), none, (some 13), true⟩, ⟨.move (.loc 6), none, none, true⟩])
 ((.seq (.ops [⟨.field 0 none (.var 7), none, none, false⟩, ⟨.field 0 none (.var 7), none, none, false⟩, ⟨.move (.var 12), none, none, false⟩, ⟨.bin .geq .no (.loc 1) (.loc 2), none, none, false⟩, ⟨.move (.loc 3), none, none, false⟩, ⟨.field 0 none (.var 7), none, none, false⟩, ⟨.field 1 none (.var 7), none, none, false⟩, ⟨.move (.var 13), none, none, false⟩, ⟨.slice 1 (.loc 6) none (some (.loc 7)) none, (some (4, true)), none, false⟩, ⟨.move (.var 10), none, none, false⟩, ⟨.callS nslices_Equal__int_int [(.loc 8), (.loc 9)], (some (4, true)), none, false⟩, ⟨.pick (.loc 4) (.loc 10) (.k (.bool false)), none, none, false⟩, ⟨.field 0 (some 2) (.var 5), none, none, false⟩, ⟨.move (.loc 11), none, (some 3), false⟩, ⟨.upd 2 0 (.var 4) (.loc 12), none, (some 4), true⟩])
 (.ret))))))))))))))), none⟩
theorem v_speculate_Useful {F : Nat → Option RFunc} {me nspeculate_Decide nspeculate_runCode nslices_BinarySearch__int_int nslices_Equal__int_int : Nat} (hF : F me = some (rf_speculate_Useful nspeculate_Decide nspeculate_runCode nslices_BinarySearch__int_int nslices_Equal__int_int)) {fl : Nat} {H : Heap} {Q : AV → Heap → Prop} (n0 : Int) (list1 : AV) (r2 : Int) (r3 : AV)
  (h : ∀ (H4 : Heap), Dead1 H 1 H4 → ∀ (H5 : Heap), Dead1 H4 1 H5 → Ret F fl nspeculate_Decide [(.int .i64 n0), list1] H5 (fun v11 H10 => ∃ (r6 : AV) (r7 : AV) (r8 : Int) (r9 : Int), v11 = (.tuple [r6, r7, (.agg [(.int .i64 r8), (.int .i64 r9)])]) ∧ ∀ (H12 : Heap), Dead1 H10 1 H12 → ((¬(((r8 = 0) ∧ (((r9 = 0) ∧ (True)))))) → Q (.tuple [(.bool false), (.agg [(.int .i64 r8), (.int .i64 r9)])]) H12) ∧ (¬(¬(((r8 = 0) ∧ (((r9 = 0) ∧ (True)))))) → Ret F fl nspeculate_runCode [(.int .i64 n0), (.agg [(.int .i64 r2), r3])] H12 (fun v15 H14 => ∃ (r13 : Int), v15 = (.int .i64 r13) ∧ ((r13 ≠ 0) → Q (.tuple [(.bool false), (.agg [(.int .i64 r13), (.int .i64 (-3))])]) H14) ∧ (¬(r13 ≠ 0) → ∃ len16 : Nat, lenA r6 = some len16 ∧ ∃ len17 : Nat, lenA r7 = some len17 ∧ Ret F fl nslices_BinarySearch__int_int [r3, (.int .i64 (IntKind.wrap .i64 ((len16 : Int) + (len17 : Int))))] H14 (fun v21 H20 => ∃ (r18 : Int) (r19 : Bool), v21 = (.tuple [(.int .i64 r18), (.bool r19)]) ∧ ((r2 ≥ (IntKind.wrap .i64 ((len16 : Int) + (len17 : Int)))) → ∃ s22 : AV, rslice H20 1 r3 none (some (.int .i64 r18)) none = some s22 ∧ Ret F H20.length nslices_Equal__int_int [s22, r6] H20 (fun v25 H24 => ∃ (r23 : Bool), v25 = (.bool r23) ∧ Q (.tuple [(.bool r23), (.agg [(.int .i64 r8), (.int .i64 r9)])]) H24)) ∧ (¬(r2 ≥ (IntKind.wrap .i64 ((len16 : Int) + (len17 : Int)))) → Q (.tuple [(.bool false), (.agg [(.int .i64 r8), (.int .i64 r9)])]) H20))))))) : Ret F fl me [(.int .i64 n0), list1, (.agg [(.int .i64 r2), r3])] H Q := by
  refine ret_intro hF rfl ?_
  refine w_seq ?_
  refine w_run [1, 0, 1] ?_
  obtain ⟨H4, hb⟩ : ∃ H', Dead1 H 1 H' := ⟨_, ⟨rfl⟩⟩
  replace h := h H4 hb
  refine t_tomb true 1 (.agg [(.int .i64 r2), r3]) [(.int .i64 r2), r3] H4 H (by kernel_rfl) rfl hb ?_
  obtain ⟨H5, hb⟩ : ∃ H', Dead1 H4 1 H' := ⟨_, ⟨rfl⟩⟩
  replace h := h H5 hb
  refine t_tomb true 1 (.agg [(.int .i64 0), (.int .i64 0)]) [(.int .i64 0), (.int .i64 0)] H5 H4 (by kernel_rfl) rfl hb ?_
  refine t_done [(.int .i64 n0), list1, (.agg [(.int .i64 r2), r3]), (.bool false), (.agg [(.int .i64 0), (.int .i64 0)]), .undef, .undef, (.agg [(.int .i64 r2), r3]), .undef, .undef, .undef, .undef, .undef, .undef] H5 (by kernel_rfl) ?_
  refine then_norm ?_
  refine w_seq ?_
  refine w_run [0, 0, 1, 0, 0, 0, 0, 1, 0, 0, 1] ?_
  refine t_call true nspeculate_Decide [(.int .i64 n0), list1] H5 (by kernel_rfl) h ?_
  clear h
  rintro _ H10 ⟨r6, r7, r8, r9, rfl, h⟩
  obtain ⟨H12, hb⟩ : ∃ H', Dead1 H10 1 H' := ⟨_, ⟨rfl⟩⟩
  replace h := h H12 hb
  refine t_tomb true 1 (.agg [(.int .i64 0), (.int .i64 0)]) [(.int .i64 0), (.int .i64 0)] H12 H10 (by kernel_rfl) rfl hb ?_
  refine t_upd true 2 0 [(.int .i64 0), (.int .i64 0)] (.agg [(.int .i64 r8), (.int .i64 r9)]) [(.int .i64 r8), (.int .i64 r9)] [(.int .i64 r8), (.int .i64 r9)] H12 (by kernel_rfl) rfl (all_c rfl (all_c rfl all_n)) ⟨rfl, Nat.le_of_ble_eq_true (by kernel_rfl), rfl⟩ ?_
  refine t_done [(.int .i64 n0), list1, (.agg [(.int .i64 r2), r3]), (.bool false), (.agg [(.int .i64 0), (.int .i64 0)]), (.agg [(.int .i64 r8), (.int .i64 r9)]), .undef, (.agg [(.int .i64 r2), r3]), .undef, .undef, r6, r7, .undef, .undef] H12 (by kernel_rfl) ?_
  refine then_norm ?_
  refine w_seq ?_
  refine w_seq ?_
  refine w_run [0, 1, 0] ?_
  refine t_build true [(.int .i64 0), (.int .i64 0)] [] [] [(.int .i64 0), (.int .i64 0)] H12 (by kernel_rfl) (by kernel_rfl) ?_
  refine t_done [(.int .i64 n0), list1, (.agg [(.int .i64 r2), r3]), (.bool false), (.agg [(.int .i64 0), (.int .i64 0)]), (.agg [(.int .i64 r8), (.int .i64 r9)]), (.bool (!(((r8) == 0) && (((r9) == 0) && true)))), (.agg [(.int .i64 r2), r3]), .undef, .undef, r6, r7, .undef, .undef] H12 (by kernel_rfl) ?_
  refine then_norm ?_
  refine w_cond (t := (!(((r8) == 0) && (((r9) == 0) && true)))) rfl (fun hc => ?_) (fun hc => ?_)
  · replace h := h.1 ((is_not (is_and is_eq (is_and is_eq is_true))).t hc)
    refine w_seq ?_
    refine w_run [0, 0, 1] ?_
    refine t_upd true 2 0 [(.int .i64 0), (.int .i64 0)] (.agg [(.int .i64 r8), (.int .i64 r9)]) [(.int .i64 r8), (.int .i64 r9)] [(.int .i64 r8), (.int .i64 r9)] H12 (by kernel_rfl) rfl (all_c rfl (all_c rfl all_n)) ⟨rfl, Nat.le_of_ble_eq_true (by kernel_rfl), rfl⟩ ?_
    refine t_done [(.int .i64 n0), list1, (.agg [(.int .i64 r2), r3]), (.bool false), (.agg [(.int .i64 r8), (.int .i64 r9)]), (.agg [(.int .i64 r8), (.int .i64 r9)]), (.bool (!(((r8) == 0) && (((r9) == 0) && true)))), (.agg [(.int .i64 r2), r3]), .undef, .undef, r6, r7, .undef, .undef] H12 (by kernel_rfl) ?_
    refine then_norm ?_
    refine w_ret ?_
    refine then_ret ?_
    exact body_ret (vs := [(.bool false), (.agg [(.int .i64 r8), (.int .i64 r9)])]) _ (by kernel_rfl) rfl h
  · replace h := h.2 ((is_not (is_and is_eq (is_and is_eq is_true))).f hc)
    refine w_skip ?_
    refine then_norm ?_
    refine w_seq ?_
    refine w_seq ?_
    refine w_run [0, 0, 1, 0] ?_
    refine t_call true nspeculate_runCode [(.int .i64 n0), (.agg [(.int .i64 r2), r3])] H12 (by kernel_rfl) h ?_
    clear h
    rintro _ H14 ⟨r13, rfl, h⟩
    refine t_done [(.int .i64 n0), list1, (.agg [(.int .i64 r2), r3]), (.bool false), (.agg [(.int .i64 0), (.int .i64 0)]), (.agg [(.int .i64 r8), (.int .i64 r9)]), (.bool (!(((r8) == 0) && (((r9) == 0) && true)))), (.agg [(.int .i64 r2), r3]), (.int .i64 r13), .undef, r6, r7, .undef, .undef] H14 (by kernel_rfl) ?_
    refine then_norm ?_
    refine w_seq ?_
    refine w_run [0, 0] ?_
    refine t_done [(.int .i64 n0), list1, (.agg [(.int .i64 r2), r3]), (.bool false), (.agg [(.int .i64 0), (.int .i64 0)]), (.agg [(.int .i64 r8), (.int .i64 r9)]), (.bool (!(((r8) == 0) && (((r9) == 0) && true)))), (.agg [(.int .i64 r2), r3]), (.int .i64 r13), (.bool ((r13) != 0)), r6, r7, .undef, .undef] H14 (by kernel_rfl) ?_
    refine then_norm ?_
    refine w_cond (t := ((r13) != 0)) rfl (fun hc => ?_) (fun hc => ?_)
    · replace h := h.1 (is_ne.t hc)
      refine w_seq ?_
      refine w_run [0, 1, 0, 1] ?_
      refine t_build true [(.int .i64 0), (.int .i64 0)] [(0, 1, .loc 0), (1, 1, .loc 1)] [(.int .i64 r13), (.int .i64 (-3))] [(.int .i64 r13), (.int .i64 (-3))] H14 (by kernel_rfl) (fill_c (vs := [(.int .i64 r13)]) (size := 1) rfl (by kernel_rfl) (by kernel_rfl) (fill_c (vs := [(.int .i64 (-3))]) (size := 1) rfl (by kernel_rfl) (by kernel_rfl) (by kernel_rfl))) ?_
      refine t_upd true 2 0 [(.int .i64 0), (.int .i64 0)] (.agg [(.int .i64 r13), (.int .i64 (-3))]) [(.int .i64 r13), (.int .i64 (-3))] [(.int .i64 r13), (.int .i64 (-3))] H14 (by kernel_rfl) rfl (all_c rfl (all_c rfl all_n)) ⟨rfl, Nat.le_of_ble_eq_true (by kernel_rfl), rfl⟩ ?_
      refine t_done [(.int .i64 n0), list1, (.agg [(.int .i64 r2), r3]), (.bool false), (.agg [(.int .i64 r13), (.int .i64 (-3))]), (.agg [(.int .i64 r8), (.int .i64 r9)]), (.bool (!(((r8) == 0) && (((r9) == 0) && true)))), (.agg [(.int .i64 r2), r3]), (.int .i64 r13), (.bool ((r13) != 0)), r6, r7, .undef, .undef] H14 (by kernel_rfl) ?_
      refine then_norm ?_
      refine w_ret ?_
      refine then_ret ?_
      exact body_ret (vs := [(.bool false), (.agg [(.int .i64 r13), (.int .i64 (-3))])]) _ (by kernel_rfl) rfl h
    · replace h := h.2 (is_ne.f hc)
      refine w_skip ?_
      refine then_norm ?_
      refine w_seq ?_
      refine w_run [0, 1, 0, 1, 0, 0] ?_
      obtain ⟨len16, hl, h⟩ := h
      refine t_len true r6 len16 H14 (by kernel_rfl) hl ?_
      obtain ⟨len17, hl, h⟩ := h
      refine t_len true r7 len17 H14 (by kernel_rfl) hl ?_
      refine t_done [(.int .i64 n0), list1, (.agg [(.int .i64 r2), r3]), (.bool false), (.agg [(.int .i64 0), (.int .i64 0)]), (.agg [(.int .i64 r8), (.int .i64 r9)]), (.bool (!(((r8) == 0) && (((r9) == 0) && true)))), (.agg [(.int .i64 r2), r3]), (.int .i64 r13), (.bool ((r13) != 0)), r6, r7, (.int .i64 (IntKind.wrap .i64 ((len16 : Int) + (len17 : Int)))), .undef] H14 (by kernel_rfl) ?_
      refine then_norm ?_
      refine w_seq ?_
      refine w_run [0, 0, 0, 1, 0, 0, 0, 0, 0] ?_
      refine t_call true nslices_BinarySearch__int_int [r3, (.int .i64 (IntKind.wrap .i64 ((len16 : Int) + (len17 : Int))))] H14 (by kernel_rfl) h ?_
      clear h
      rintro _ H20 ⟨r18, r19, rfl, h⟩
      refine t_done [(.int .i64 n0), list1, (.agg [(.int .i64 r2), r3]), (.bool false), (.agg [(.int .i64 0), (.int .i64 0)]), (.agg [(.int .i64 r8), (.int .i64 r9)]), (.bool (!(((r8) == 0) && (((r9) == 0) && true)))), (.agg [(.int .i64 r2), r3]), (.int .i64 r13), (.bool ((r13) != 0)), r6, r7, (.int .i64 (IntKind.wrap .i64 ((len16 : Int) + (len17 : Int)))), (.int .i64 r18)] H20 (by kernel_rfl) ?_
      refine then_norm ?_
      refine w_seq ?_
      refine w_run [0, 0, 0, 0, 0, 0, 0, 0, 3, 0, 3, 0, 0, 0, 1] ?_
      refine t_gd (decide (r2 ≥ (IntKind.wrap .i64 ((len16 : Int) + (len17 : Int))))) true (by kernel_rfl) (fun hc => ?_) (fun hc => ?_)
      · replace h := h.1 (is_dec.t hc)
        obtain ⟨s22, hs, h⟩ := h
        refine t_slcH false 1 r3 (.int .i64 r18) s22 H20 (by kernel_rfl) hs ?_
        refine t_gd true true (by kernel_rfl) (fun _ => ?_) (fun hn => by cases hn)
        refine t_call false nslices_Equal__int_int [s22, r6] H20 (by kernel_rfl) h ?_
        clear h
        rintro _ H24 ⟨r23, rfl, h⟩
        refine t_upd true 2 0 [(.int .i64 0), (.int .i64 0)] (.agg [(.int .i64 r8), (.int .i64 r9)]) [(.int .i64 r8), (.int .i64 r9)] [(.int .i64 r8), (.int .i64 r9)] H24 (by kernel_rfl) rfl (all_c rfl (all_c rfl all_n)) ⟨rfl, Nat.le_of_ble_eq_true (by kernel_rfl), rfl⟩ ?_
        refine t_done [(.int .i64 n0), list1, (.agg [(.int .i64 r2), r3]), (.bool r23), (.agg [(.int .i64 r8), (.int .i64 r9)]), (.agg [(.int .i64 r8), (.int .i64 r9)]), (.bool (!(((r8) == 0) && (((r9) == 0) && true)))), (.agg [(.int .i64 r2), r3]), (.int .i64 r13), (.bool ((r13) != 0)), r6, r7, (.int .i64 (IntKind.wrap .i64 ((len16 : Int) + (len17 : Int)))), (.int .i64 r18)] H24 (by kernel_rfl) ?_
        refine then_norm ?_
        refine w_ret ?_
        exact body_ret (vs := [(.bool r23), (.agg [(.int .i64 r8), (.int .i64 r9)])]) _ (by kernel_rfl) rfl h
      · replace h := h.2 (is_dec.f hc)
        refine t_gd false true (by kernel_rfl) (fun hn => by cases hn) (fun _ => ?_)
        refine t_upd true 2 0 [(.int .i64 0), (.int .i64 0)] (.agg [(.int .i64 r8), (.int .i64 r9)]) [(.int .i64 r8), (.int .i64 r9)] [(.int .i64 r8), (.int .i64 r9)] H20 (by kernel_rfl) rfl (all_c rfl (all_c rfl all_n)) ⟨rfl, Nat.le_of_ble_eq_true (by kernel_rfl), rfl⟩ ?_
        refine t_done [(.int .i64 n0), list1, (.agg [(.int .i64 r2), r3]), (.bool false), (.agg [(.int .i64 r8), (.int .i64 r9)]), (.agg [(.int .i64 r8), (.int .i64 r9)]), (.bool (!(((r8) == 0) && (((r9) == 0) && true)))), (.agg [(.int .i64 r2), r3]), (.int .i64 r13), (.bool ((r13) != 0)), r6, r7, (.int .i64 (IntKind.wrap .i64 ((len16 : Int) + (len17 : Int)))), (.int .i64 r18)] H20 (by kernel_rfl) ?_
        refine then_norm ?_
        refine w_ret ?_
        exact body_ret (vs := [(.bool false), (.agg [(.int .i64 r8), (.int .i64 r9)])]) _ (by kernel_rfl) rfl h

def rf_speculate_results (nspeculate_runCode nspeculate_resultsx1 nslices_ContainsFunc__api_TestResult_api_TestResult : Nat) : RFunc := ⟨2, 14, [.part 2 (some 2)],
 ((.seq (.ops [⟨.tomb 1 (.k (.agg [.int .i64 0, .int .i64 0])), none, (some 2), true⟩])
 ((.seq (.block 0 ((.seq (.ops [⟨.move (.var 0), none, none, true⟩, ⟨.bin .lss .no (.loc 0) (.k (.int .i64 0)), none, none, true⟩, ⟨.move (.loc 1), none, none, true⟩, ⟨.move (.var 0), none, none, true⟩, ⟨.bin .gtr .no (.loc 3) (.k (.int .i64 8)), none, none, true⟩, ⟨.pick (.loc 2) (.k (.bool true)) (.loc 4), none, none, true⟩, ⟨.move (.loc 5), none, (some 3), true⟩])
 (.cond (.var 3) ((.seq (.ops [⟨.build [.int .i64 0, .int .i64 0] [(0, 1, (.k (.int .i64 3))), (1, 1, (.k (.int .i64 (-2))))], none, none, true⟩, ⟨.upd 2 0 (.var 2) (.loc 0), none, (some 2), true⟩])
 (.ret))) ((.seq (.ops [⟨.move (.var 1), none, none, true⟩, ⟨.len (.loc 0), none, none, true⟩, ⟨.bin .gtr .no (.loc 1) (.k (.int .i64 16)), none, none, true⟩, ⟨.move (.loc 2), none, (some 4), true⟩])
 (.cond (.var 4) ((.seq (.ops [⟨.build [.int .i64 0, .int .i64 0] [(0, 1, (.k (.int .i64 2))), (1, 1, (.k (.int .i64 (-1))))], none, none, true⟩, ⟨.upd 2 0 (.var 2) (.loc 0), none, (some 2), true⟩])
 (.ret))) (.skip))))))))
 ((.seq ((.seq (.ops [⟨.move (.var 1), none, (some 8), true⟩, ⟨.len (.loc 0), none, (some 6), true⟩, ⟨.move (.k (.int .i64 0)), none, (some 5), true⟩])
 (.block 1 (.loop ((.seq (.ops [⟨.bin .lss .no (.var 5) (.var 6), none, (some 7), true⟩])
 ((.seq (.cond (.var 7) (.skip) (.exit 1))
 ((.seq (.block 2 ((.seq (.ops [⟨.move (.var 5), none, none, true⟩, ⟨.indexAddr 3 (.var 8) (.var 5), none, none, true⟩, ⟨.load (some 3) (.loc 1), none, none, true⟩, ⟨.alloc 1 [.int .i64 0, .empty, .bool false], none, (some 9), true⟩, ⟨.move (.loc 0), none, (some 12), true⟩, ⟨.store 3 (.loc 3) (.loc 2) [], none, none, true⟩])
 ((.seq ((.seq (.ops [⟨.move (.var 0), none, none, true⟩, ⟨.fieldAddr 0 (.var 9), none, none, true⟩, ⟨.load (some 2) (.loc 1), none, none, true⟩, ⟨.callS nspeculate_runCode [(.loc 0), (.loc 2)], none, none, true⟩, ⟨.move (.loc 3), none, (some 10), true⟩])
 ((.seq (.ops [⟨.move (.var 10), none, none, true⟩, ⟨.bin .neq .no (.loc 0) (.k (.int .i64 0)), none, (some 11), true⟩])
 (.cond (.var 11) ((.seq (.ops [⟨.move (.var 10), none, none, true⟩, ⟨.move (.var 12), none, none, true⟩, ⟨.build [.int .i64 0, .int .i64 0] [(0, 1, (.loc 0)), (1, 1, (.loc 1))], none, none, true⟩, ⟨.upd 2 0 (.var 2) (.loc 2), none, (some 2), true⟩])
 (.ret))) (.skip))))))
 ((.seq (.ops [⟨.move (.var 1), none, none, true⟩, ⟨.move (.var 12), none, none, true⟩, ⟨.slice 3 (.loc 0) none (some (.loc 1)) none, none, none, true⟩, ⟨.makeFunc nspeculate_resultsx1 [(.var 9)], none, none, true⟩, ⟨.callS nslices_ContainsFunc__api_TestResult_api_TestResult [(.loc 2), (.loc 3)], none, (some 13), true⟩])
 (.cond (.var 13) ((.seq (.ops [⟨.move (.var 12), none, none, true⟩, ⟨.build [.int .i64 0, .int .i64 0] [(0, 1, (.k (.int .i64 19))), (1, 1, (.loc 0))], none, none, true⟩, ⟨.upd 2 0 (.var 2) (.loc 1), none, (some 2), true⟩])
 (.ret))) (.skip)))))))))
 (.ops [⟨.bin .add .no (.var 5) (.k (.int .i64 1)), none, none, true⟩, ⟨.move (.loc 0), none, (some 5), true⟩])))))))))))
 ((.seq (.ops [⟨.build [.int .i64 0, .int .i64 0] [], none, none, true⟩, ⟨.upd 2 0 (.var 2) (.loc 0), none, (some 2), true⟩])
 (.ret))))))))), none⟩
theorem v_speculate_results {F : Nat → Option RFunc} {me nspeculate_runCode nspeculate_resultsx1 nslices_ContainsFunc__api_TestResult_api_TestResult : Nat} (hF : F me = some (rf_speculate_results nspeculate_runCode nspeculate_resultsx1 nslices_ContainsFunc__api_TestResult_api_TestResult)) {fl : Nat} {H : Heap} {Q : AV → Heap → Prop} (n0 : Int) (list1 : AV)
  (h : ∀ (H2 : Heap), Dead1 H 1 H2 → ((((n0 < 0) ∨ (n0 > 8))) → Q (.agg [(.int .i64 3), (.int .i64 (-2))]) H2) ∧ (¬(((n0 < 0) ∨ (n0 > 8))) → ∃ len3 : Nat, lenA list1 = some len3 ∧ (((len3 : Int) > 16) → Q (.agg [(.int .i64 2), (.int .i64 (-1))]) H2) ∧ (¬((len3 : Int) > 16) → ∃ len4 : Nat, lenA list1 = some len4 ∧ ∃ (J5 : Nat → Int → Int → Int → Heap → Prop) (k6 : Nat), J5 k6 0 0 0 H2 ∧ (∀ (m7 : Nat) (v8 : Int) (v9 : Int) (v10 : Int) (H17 : Heap), J5 m7 v8 v9 v10 H17 → ((v10 < (len4 : Int)) → ∃ (e18 : Int) (e19 : AV) (e20 : Bool), getA H17 3 (some 3) list1 v10 0 = some (.agg [(.int .i64 e18), e19, (.bool e20)]) ∧ ∀ (b22 : Nat) (H23 : Heap), NewB H17 1 [(.int .i64 0), .empty, (.bool false)] b22 H23 → ∃ H24 : Heap, putA fl H23 b22 0 3 (.agg [(.int .i64 e18), e19, (.bool e20)]) = some H24 ∧ ∃ (e25 : Int) (e26 : AV), rload H24 (some 2) b22 0 = some (.agg [(.int .i64 e25), e26]) ∧ Ret F fl nspeculate_runCode [(.int .i64 n0), (.agg [(.int .i64 e25), e26])] H24 (fun v29 H28 => ∃ (r27 : Int), v29 = (.int .i64 r27) ∧ ((r27 ≠ 0) → Q (.agg [(.int .i64 r27), (.int .i64 v10)]) H28) ∧ (¬(r27 ≠ 0) → ∃ s30 : AV, rslice H28 3 list1 none (some (.int .i64 v10)) none = some s30 ∧ Ret F fl nslices_ContainsFunc__api_TestResult_api_TestResult [s30, (.func nspeculate_resultsx1 [(.ptr b22 0)])] H28 (fun v33 H32 => ∃ (r31 : Bool), v33 = (.bool r31) ∧ ((r31 = true) → Q (.agg [(.int .i64 19), (.int .i64 v10)]) H32) ∧ (¬(r31 = true) → ∃ m34 : Nat, m34 < m7 ∧ J5 m34 v8 v9 (IntKind.wrap .i64 (v10 + 1)) H32))))) ∧ (¬(v10 < (len4 : Int)) → Q (.agg [(.int .i64 0), (.int .i64 0)]) H17))))) : Ret F fl me [(.int .i64 n0), list1] H Q := by
  refine ret_intro hF rfl ?_
  refine w_seq ?_
  refine w_run [1] ?_
  obtain ⟨H2, hb⟩ : ∃ H', Dead1 H 1 H' := ⟨_, ⟨rfl⟩⟩
  replace h := h H2 hb
  refine t_tomb true 1 (.agg [(.int .i64 0), (.int .i64 0)]) [(.int .i64 0), (.int .i64 0)] H2 H (by kernel_rfl) rfl hb ?_
  refine t_done [(.int .i64 n0), list1, (.agg [(.int .i64 0), (.int .i64 0)]), .undef, .undef, .undef, .undef, .undef, .undef, .undef, .undef, .undef, .undef, .undef] H2 (by kernel_rfl) ?_
  refine then_norm ?_
  refine w_seq ?_
  refine w_block ?_
  refine w_seq ?_
  refine w_run [0, 0, 0, 0, 0, 0, 0] ?_
  refine t_done [(.int .i64 n0), list1, (.agg [(.int .i64 0), (.int .i64 0)]), (.bool ((decide (n0 < 0)) || (decide (n0 > 8)))), .undef, .undef, .undef, .undef, .undef, .undef, .undef, .undef, .undef, .undef] H2 (by kernel_rfl) ?_
  refine then_norm ?_
  refine w_cond (t := ((decide (n0 < 0)) || (decide (n0 > 8)))) rfl (fun hc => ?_) (fun hc => ?_)
  · replace h := h.1 ((is_or is_dec is_dec).t hc)
    refine w_seq ?_
    refine w_run [1, 1] ?_
    refine t_build true [(.int .i64 0), (.int .i64 0)] [(0, 1, .loc 0), (1, 1, .loc 1)] [(.int .i64 3), (.int .i64 (-2))] [(.int .i64 3), (.int .i64 (-2))] H2 (by kernel_rfl) (fill_c (vs := [(.int .i64 3)]) (size := 1) rfl (by kernel_rfl) (by kernel_rfl) (fill_c (vs := [(.int .i64 (-2))]) (size := 1) rfl (by kernel_rfl) (by kernel_rfl) (by kernel_rfl))) ?_
    refine t_upd true 2 0 [(.int .i64 0), (.int .i64 0)] (.agg [(.int .i64 3), (.int .i64 (-2))]) [(.int .i64 3), (.int .i64 (-2))] [(.int .i64 3), (.int .i64 (-2))] H2 (by kernel_rfl) rfl (all_c rfl (all_c rfl all_n)) ⟨rfl, Nat.le_of_ble_eq_true (by kernel_rfl), rfl⟩ ?_
    refine t_done [(.int .i64 n0), list1, (.agg [(.int .i64 3), (.int .i64 (-2))]), (.bool ((decide (n0 < 0)) || (decide (n0 > 8)))), .undef, .undef, .undef, .undef, .undef, .undef, .undef, .undef, .undef, .undef] H2 (by kernel_rfl) ?_
    refine then_norm ?_
    refine w_ret ?_
    refine block_ret ?_
    refine then_ret ?_
    exact body_ret (vs := [(.agg [(.int .i64 3), (.int .i64 (-2))])]) _ (by kernel_rfl) rfl h
  · replace h := h.2 ((is_or is_dec is_dec).f hc)
    refine w_seq ?_
    refine w_run [0, 1, 0, 0] ?_
    obtain ⟨len3, hl, h⟩ := h
    refine t_len true list1 len3 H2 (by kernel_rfl) hl ?_
    refine t_done [(.int .i64 n0), list1, (.agg [(.int .i64 0), (.int .i64 0)]), (.bool ((decide (n0 < 0)) || (decide (n0 > 8)))), (.bool (decide ((len3 : Int) > 16))), .undef, .undef, .undef, .undef, .undef, .undef, .undef, .undef, .undef] H2 (by kernel_rfl) ?_
    refine then_norm ?_
    refine w_cond (t := (decide ((len3 : Int) > 16))) rfl (fun hc => ?_) (fun hc => ?_)
    · replace h := h.1 (is_dec.t hc)
      refine w_seq ?_
      refine w_run [1, 1] ?_
      refine t_build true [(.int .i64 0), (.int .i64 0)] [(0, 1, .loc 0), (1, 1, .loc 1)] [(.int .i64 2), (.int .i64 (-1))] [(.int .i64 2), (.int .i64 (-1))] H2 (by kernel_rfl) (fill_c (vs := [(.int .i64 2)]) (size := 1) rfl (by kernel_rfl) (by kernel_rfl) (fill_c (vs := [(.int .i64 (-1))]) (size := 1) rfl (by kernel_rfl) (by kernel_rfl) (by kernel_rfl))) ?_
      refine t_upd true 2 0 [(.int .i64 0), (.int .i64 0)] (.agg [(.int .i64 2), (.int .i64 (-1))]) [(.int .i64 2), (.int .i64 (-1))] [(.int .i64 2), (.int .i64 (-1))] H2 (by kernel_rfl) rfl (all_c rfl (all_c rfl all_n)) ⟨rfl, Nat.le_of_ble_eq_true (by kernel_rfl), rfl⟩ ?_
      refine t_done [(.int .i64 n0), list1, (.agg [(.int .i64 2), (.int .i64 (-1))]), (.bool ((decide (n0 < 0)) || (decide (n0 > 8)))), (.bool (decide ((len3 : Int) > 16))), .undef, .undef, .undef, .undef, .undef, .undef, .undef, .undef, .undef] H2 (by kernel_rfl) ?_
      refine then_norm ?_
      refine w_ret ?_
      refine block_ret ?_
      refine then_ret ?_
      exact body_ret (vs := [(.agg [(.int .i64 2), (.int .i64 (-1))])]) _ (by kernel_rfl) rfl h
    · replace h := h.2 (is_dec.f hc)
      refine w_skip ?_
      refine block_norm ?_
      refine then_norm ?_
      refine w_seq ?_
      refine w_seq ?_
      refine w_run [0, 1, 0] ?_
      obtain ⟨len4, hl, h⟩ := h
      refine t_len true list1 len4 H2 (by kernel_rfl) hl ?_
      refine t_done [(.int .i64 n0), list1, (.agg [(.int .i64 0), (.int .i64 0)]), (.bool ((decide (n0 < 0)) || (decide (n0 > 8)))), (.bool (decide ((len3 : Int) > 16))), (.int .i64 0), (.int .i64 (len4 : Int)), .undef, list1, .undef, .undef, .undef, .undef, .undef] H2 (by kernel_rfl) ?_
      refine then_norm ?_
      refine w_block ?_
      obtain ⟨J5, k6, h0, h⟩ := h
      refine w_loop (I := fun mI EI HI => ∃ (v8 : Int) (v9 : Int) (v10 : Int) (d11 : AV) (d12 : AV) (d13 : AV) (d14 : AV) (d15 : AV) (d16 : AV), EI = [(.int .i64 n0), list1, (.agg [(.int .i64 v8), (.int .i64 v9)]), (.bool ((decide (n0 < 0)) || (decide (n0 > 8)))), (.bool (decide ((len3 : Int) > 16))), (.int .i64 v10), (.int .i64 (len4 : Int)), d11, list1, d12, d13, d14, d15, d16] ∧ J5 mI v8 v9 v10 HI) ?_ k6 ⟨_, _, _, _, _, _, _, _, _, rfl, h0⟩
      clear h0
      rintro m7 EI H17 ⟨v8, v9, v10, d11, d12, d13, d14, d15, d16, rfl, hJ⟩
      replace h := h m7 v8 v9 v10 H17 hJ
      clear hJ
      refine w_seq ?_
      refine w_run [0] ?_
      refine t_done [(.int .i64 n0), list1, (.agg [(.int .i64 v8), (.int .i64 v9)]), (.bool ((decide (n0 < 0)) || (decide (n0 > 8)))), (.bool (decide ((len3 : Int) > 16))), (.int .i64 v10), (.int .i64 (len4 : Int)), (.bool (decide (v10 < (len4 : Int)))), list1, d12, d13, d14, d15, d16] H17 (by kernel_rfl) ?_
      refine then_norm ?_
      refine w_seq ?_
      refine w_cond (t := (decide (v10 < (len4 : Int)))) rfl (fun hc => ?_) (fun hc => ?_)
      · replace h := h.1 (is_dec.t hc)
        refine w_skip ?_
        refine then_norm ?_
        refine w_seq ?_
        refine w_block ?_
        refine w_seq ?_
        refine w_run [0, 1, 1, 1, 0, 1] ?_
        obtain ⟨e18, e19, e20, hg21, h⟩ := h
        refine t_idxG true 3 list1 .i64 v10 H17 (by kernel_rfl) hg21 ?_
        refine t_loadG true (some 3) 3 list1 v10 0 (.agg [(.int .i64 e18), e19, (.bool e20)]) H17 (by kernel_rfl) hg21 ?_
        obtain ⟨b22, H23, hb⟩ : ∃ b H', NewB H17 1 [(.int .i64 0), .empty, (.bool false)] b H' := ⟨_, _, rfl, rfl⟩
        replace h := h b22 H23 hb
        refine t_alloc true 1 [(.int .i64 0), .empty, (.bool false)] b22 H23 H17 (by kernel_rfl) hb ?_
        obtain ⟨H24, hp, h⟩ := h
        refine t_store true 3 b22 0 (.agg [(.int .i64 e18), e19, (.bool e20)]) H24 H23 (by kernel_rfl) hp ?_
        refine t_done [(.int .i64 n0), list1, (.agg [(.int .i64 v8), (.int .i64 v9)]), (.bool ((decide (n0 < 0)) || (decide (n0 > 8)))), (.bool (decide ((len3 : Int) > 16))), (.int .i64 v10), (.int .i64 (len4 : Int)), (.bool (decide (v10 < (len4 : Int)))), list1, (.ptr b22 0), d13, d14, (.int .i64 v10), d16] H24 (by kernel_rfl) ?_
        refine then_norm ?_
        refine w_seq ?_
        refine w_seq ?_
        refine w_run [0, 1, 1, 1, 0] ?_
        refine t_op true (.fieldAddr 0 (.loc 0)) [.ptr b22 0] H24 (.ptr b22 0) H24 (by kernel_rfl) rfl ?_
        obtain ⟨e25, e26, hl, h⟩ := h
        refine t_load true (some 2) b22 0 (.agg [(.int .i64 e25), e26]) H24 (by kernel_rfl) hl ?_
        refine t_call true nspeculate_runCode [(.int .i64 n0), (.agg [(.int .i64 e25), e26])] H24 (by kernel_rfl) h ?_
        clear h
        rintro _ H28 ⟨r27, rfl, h⟩
        refine t_done [(.int .i64 n0), list1, (.agg [(.int .i64 v8), (.int .i64 v9)]), (.bool ((decide (n0 < 0)) || (decide (n0 > 8)))), (.bool (decide ((len3 : Int) > 16))), (.int .i64 v10), (.int .i64 (len4 : Int)), (.bool (decide (v10 < (len4 : Int)))), list1, (.ptr b22 0), (.int .i64 r27), d14, (.int .i64 v10), d16] H28 (by kernel_rfl) ?_
        refine then_norm ?_
        refine w_seq ?_
        refine w_run [0, 0] ?_
        refine t_done [(.int .i64 n0), list1, (.agg [(.int .i64 v8), (.int .i64 v9)]), (.bool ((decide (n0 < 0)) || (decide (n0 > 8)))), (.bool (decide ((len3 : Int) > 16))), (.int .i64 v10), (.int .i64 (len4 : Int)), (.bool (decide (v10 < (len4 : Int)))), list1, (.ptr b22 0), (.int .i64 r27), (.bool ((r27) != 0)), (.int .i64 v10), d16] H28 (by kernel_rfl) ?_
        refine then_norm ?_
        refine w_cond (t := ((r27) != 0)) rfl (fun hc => ?_) (fun hc => ?_)
        · replace h := h.1 (is_ne.t hc)
          refine w_seq ?_
          refine w_run [0, 0, 1, 1] ?_
          refine t_build true [(.int .i64 0), (.int .i64 0)] [(0, 1, .loc 0), (1, 1, .loc 1)] [(.int .i64 r27), (.int .i64 v10)] [(.int .i64 r27), (.int .i64 v10)] H28 (by kernel_rfl) (fill_c (vs := [(.int .i64 r27)]) (size := 1) rfl (by kernel_rfl) (by kernel_rfl) (fill_c (vs := [(.int .i64 v10)]) (size := 1) rfl (by kernel_rfl) (by kernel_rfl) (by kernel_rfl))) ?_
          refine t_upd true 2 0 [(.int .i64 v8), (.int .i64 v9)] (.agg [(.int .i64 r27), (.int .i64 v10)]) [(.int .i64 r27), (.int .i64 v10)] [(.int .i64 r27), (.int .i64 v10)] H28 (by kernel_rfl) rfl (all_c rfl (all_c rfl all_n)) ⟨rfl, Nat.le_of_ble_eq_true (by kernel_rfl), rfl⟩ ?_
          refine t_done [(.int .i64 n0), list1, (.agg [(.int .i64 r27), (.int .i64 v10)]), (.bool ((decide (n0 < 0)) || (decide (n0 > 8)))), (.bool (decide ((len3 : Int) > 16))), (.int .i64 v10), (.int .i64 (len4 : Int)), (.bool (decide (v10 < (len4 : Int)))), list1, (.ptr b22 0), (.int .i64 r27), (.bool ((r27) != 0)), (.int .i64 v10), d16] H28 (by kernel_rfl) ?_
          refine then_norm ?_
          refine w_ret ?_
          refine then_ret ?_
          refine block_ret ?_
          refine then_ret ?_
          refine loop_ret ?_
          refine block_ret ?_
          refine then_ret ?_
          exact body_ret (vs := [(.agg [(.int .i64 r27), (.int .i64 v10)])]) _ (by kernel_rfl) rfl h
        · replace h := h.2 (is_ne.f hc)
          refine w_skip ?_
          refine then_norm ?_
          refine w_seq ?_
          refine w_run [0, 0, 1, 0, 1] ?_
          obtain ⟨s30, hs, h⟩ := h
          refine t_slcH true 3 list1 (.int .i64 v10) s30 H28 (by kernel_rfl) hs ?_
          refine t_call true nslices_ContainsFunc__api_TestResult_api_TestResult [s30, (.func nspeculate_resultsx1 [(.ptr b22 0)])] H28 (by kernel_rfl) h ?_
          clear h
          rintro _ H32 ⟨r31, rfl, h⟩
          refine t_done [(.int .i64 n0), list1, (.agg [(.int .i64 v8), (.int .i64 v9)]), (.bool ((decide (n0 < 0)) || (decide (n0 > 8)))), (.bool (decide ((len3 : Int) > 16))), (.int .i64 v10), (.int .i64 (len4 : Int)), (.bool (decide (v10 < (len4 : Int)))), list1, (.ptr b22 0), (.int .i64 r27), (.bool ((r27) != 0)), (.int .i64 v10), (.bool r31)] H32 (by kernel_rfl) ?_
          refine then_norm ?_
          refine w_cond (t := r31) rfl (fun hc => ?_) (fun hc => ?_)
          · replace h := h.1 (is_raw.t hc)
            refine w_seq ?_
            refine w_run [0, 1, 1] ?_
            refine t_build true [(.int .i64 0), (.int .i64 0)] [(0, 1, .loc 0), (1, 1, .loc 1)] [(.int .i64 19), (.int .i64 v10)] [(.int .i64 19), (.int .i64 v10)] H32 (by kernel_rfl) (fill_c (vs := [(.int .i64 19)]) (size := 1) rfl (by kernel_rfl) (by kernel_rfl) (fill_c (vs := [(.int .i64 v10)]) (size := 1) rfl (by kernel_rfl) (by kernel_rfl) (by kernel_rfl))) ?_
            refine t_upd true 2 0 [(.int .i64 v8), (.int .i64 v9)] (.agg [(.int .i64 19), (.int .i64 v10)]) [(.int .i64 19), (.int .i64 v10)] [(.int .i64 19), (.int .i64 v10)] H32 (by kernel_rfl) rfl (all_c rfl (all_c rfl all_n)) ⟨rfl, Nat.le_of_ble_eq_true (by kernel_rfl), rfl⟩ ?_
            refine t_done [(.int .i64 n0), list1, (.agg [(.int .i64 19), (.int .i64 v10)]), (.bool ((decide (n0 < 0)) || (decide (n0 > 8)))), (.bool (decide ((len3 : Int) > 16))), (.int .i64 v10), (.int .i64 (len4 : Int)), (.bool (decide (v10 < (len4 : Int)))), list1, (.ptr b22 0), (.int .i64 r27), (.bool ((r27) != 0)), (.int .i64 v10), (.bool r31)] H32 (by kernel_rfl) ?_
            refine then_norm ?_
            refine w_ret ?_
            refine block_ret ?_
            refine then_ret ?_
            refine loop_ret ?_
            refine block_ret ?_
            refine then_ret ?_
            exact body_ret (vs := [(.agg [(.int .i64 19), (.int .i64 v10)])]) _ (by kernel_rfl) rfl h
          · replace h := h.2 (is_raw.f hc)
            refine w_skip ?_
            refine block_norm ?_
            refine then_norm ?_
            refine w_run [0, 0] ?_
            refine t_done [(.int .i64 n0), list1, (.agg [(.int .i64 v8), (.int .i64 v9)]), (.bool ((decide (n0 < 0)) || (decide (n0 > 8)))), (.bool (decide ((len3 : Int) > 16))), (.int .i64 (IntKind.wrap .i64 (v10 + 1))), (.int .i64 (len4 : Int)), (.bool (decide (v10 < (len4 : Int)))), list1, (.ptr b22 0), (.int .i64 r27), (.bool ((r27) != 0)), (.int .i64 v10), (.bool r31)] H32 (by kernel_rfl) ?_
            obtain ⟨m', hm, h⟩ := h
            refine loop_norm ⟨m', hm, _, _, _, _, _, _, _, _, _, rfl, h⟩
      · replace h := h.2 (is_dec.f hc)
        refine w_exit ?_
        refine then_exit ?_
        refine loop_exit ?_
        refine block_exit ?_
        refine then_norm ?_
        refine w_seq ?_
        refine w_run [1, 1] ?_
        refine t_build true [(.int .i64 0), (.int .i64 0)] [] [] [(.int .i64 0), (.int .i64 0)] H17 (by kernel_rfl) (by kernel_rfl) ?_
        refine t_upd true 2 0 [(.int .i64 v8), (.int .i64 v9)] (.agg [(.int .i64 0), (.int .i64 0)]) [(.int .i64 0), (.int .i64 0)] [(.int .i64 0), (.int .i64 0)] H17 (by kernel_rfl) rfl (all_c rfl (all_c rfl all_n)) ⟨rfl, Nat.le_of_ble_eq_true (by kernel_rfl), rfl⟩ ?_
        refine t_done [(.int .i64 n0), list1, (.agg [(.int .i64 0), (.int .i64 0)]), (.bool ((decide (n0 < 0)) || (decide (n0 > 8)))), (.bool (decide ((len3 : Int) > 16))), (.int .i64 v10), (.int .i64 (len4 : Int)), (.bool (decide (v10 < (len4 : Int)))), list1, d12, d13, d14, d15, d16] H17 (by kernel_rfl) ?_
        refine then_norm ?_
        refine w_ret ?_
        exact body_ret (vs := [(.agg [(.int .i64 0), (.int .i64 0)])]) _ (by kernel_rfl) rfl h

def rf_speculate_resultsx1 (nspeculate_same : Nat) : RFunc := ⟨2, 4, [.var 2],
 ((.seq (.ops [⟨.tomb 1 (.var 0), none, (some 3), true⟩, ⟨.move (.k (.bool false)), none, (some 2), true⟩])
 ((.seq (.ops [⟨.fieldAddr 0 (.var 1), none, none, true⟩, ⟨.load (some 2) (.loc 0), none, none, true⟩, ⟨.field 0 none (.var 3), none, none, true⟩, ⟨.field 0 (some 2) (.var 3), none, none, true⟩, ⟨.callS nspeculate_same [(.loc 1), (.loc 3)], none, none, true⟩, ⟨.move (.loc 4), none, none, true⟩, ⟨.fieldAddr 2 (.var 1), (some (5, true)), none, true⟩, ⟨.load none (.loc 6), (some (5, true)), none, true⟩, ⟨.field 0 none (.var 3), none, none, true⟩, ⟨.field 2 none (.var 3), none, none, true⟩, ⟨.bin .neq .bool (.loc 7) (.loc 9), (some (5, true)), none, true⟩, ⟨.pick (.loc 5) (.loc 10) (.k (.bool false)), none, none, true⟩, ⟨.move (.loc 11), none, (some 2), true⟩])
 (.ret))))), none⟩
theorem v_speculate_resultsx1 {F : Nat → Option RFunc} {me nspeculate_same : Nat} (hF : F me = some (rf_speculate_resultsx1 nspeculate_same)) {fl : Nat} {H : Heap} {Q : AV → Heap → Prop} (y0 : Int) (y1 : AV) (y2 : Bool) (cap3 : AV)
  (h : ∀ (H4 : Heap), Dead1 H 1 H4 → ∃ b5 o6 : Nat, cap3 = .ptr b5 o6 ∧ ∃ (e7 : Int) (e8 : AV), rload H4 (some 2) b5 o6 = some (.agg [(.int .i64 e7), e8]) ∧ Ret F fl nspeculate_same [(.agg [(.int .i64 e7), e8]), (.agg [(.int .i64 y0), y1])] H4 (fun v11 H10 => ∃ (r9 : Bool), v11 = (.bool r9) ∧ ((r9 = true) → ∃ (e12 : Bool), rload H10 none b5 (o6 + 2) = some (.bool e12) ∧ Q (.bool (!(e12 == y2))) H10) ∧ (¬(r9 = true) → Q (.bool false) H10))) : Ret F fl me [(.agg [(.int .i64 y0), y1, (.bool y2)]), cap3] H Q := by
  refine ret_intro hF rfl ?_
  refine w_seq ?_
  refine w_run [1, 0] ?_
  obtain ⟨H4, hb⟩ : ∃ H', Dead1 H 1 H' := ⟨_, ⟨rfl⟩⟩
  replace h := h H4 hb
  refine t_tomb true 1 (.agg [(.int .i64 y0), y1, (.bool y2)]) [(.int .i64 y0), y1, (.bool y2)] H4 H (by kernel_rfl) rfl hb ?_
  refine t_done [(.agg [(.int .i64 y0), y1, (.bool y2)]), cap3, (.bool false), (.agg [(.int .i64 y0), y1, (.bool y2)])] H4 (by kernel_rfl) ?_
  refine then_norm ?_
  refine w_seq ?_
  refine w_run [1, 1, 0, 0, 1, 0, 3, 3, 0, 0, 2, 0, 0] ?_
  obtain ⟨b5, o6, rfl, h⟩ := h
  refine t_op true (.fieldAddr 0 (.loc 0)) [.ptr b5 o6] H4 (.ptr b5 o6) H4 (by kernel_rfl) rfl ?_
  obtain ⟨e7, e8, hl, h⟩ := h
  refine t_load true (some 2) b5 o6 (.agg [(.int .i64 e7), e8]) H4 (by kernel_rfl) hl ?_
  refine t_call true nspeculate_same [(.agg [(.int .i64 e7), e8]), (.agg [(.int .i64 y0), y1])] H4 (by kernel_rfl) h ?_
  clear h
  rintro _ H10 ⟨r9, rfl, h⟩
  refine t_gd r9 true (by kernel_rfl) (fun hc => ?_) (fun hc => ?_)
  · replace h := h.1 (is_raw.t hc)
    refine t_op true (.fieldAddr 2 (.loc 0)) [.ptr b5 o6] H10 (.ptr b5 (o6 + 2)) H10 (by kernel_rfl) rfl ?_
    refine t_gd true true (by kernel_rfl) (fun _ => ?_) (fun hn => by cases hn)
    obtain ⟨e12, hl, h⟩ := h
    refine t_load true none b5 (o6 + 2) (.bool e12) H10 (by kernel_rfl) hl ?_
    refine t_gd true true (by kernel_rfl) (fun _ => ?_) (fun hn => by cases hn)
    refine t_done [(.agg [(.int .i64 y0), y1, (.bool y2)]), (.ptr b5 o6), (.bool (!(e12 == y2))), (.agg [(.int .i64 y0), y1, (.bool y2)])] H10 (by kernel_rfl) ?_
    refine then_norm ?_
    refine w_ret ?_
    exact body_ret (vs := [(.bool (!(e12 == y2)))]) _ (by kernel_rfl) rfl h
  · replace h := h.2 (is_raw.f hc)
    refine t_gd false true (by kernel_rfl) (fun hn => by cases hn) (fun _ => ?_)
    refine t_gd false true (by kernel_rfl) (fun hn => by cases hn) (fun _ => ?_)
    refine t_done [(.agg [(.int .i64 y0), y1, (.bool y2)]), (.ptr b5 o6), (.bool false), (.agg [(.int .i64 y0), y1, (.bool y2)])] H10 (by kernel_rfl) ?_
    refine then_norm ?_
    refine w_ret ?_
    exact body_ret (vs := [(.bool false)]) _ (by kernel_rfl) rfl h

def rf_speculate_Decidex1 (nspeculate_same : Nat) : RFunc := ⟨3, 5, [.var 3],
 ((.seq (.ops [⟨.tomb 1 (.var 0), none, (some 4), true⟩, ⟨.move (.k (.bool false)), none, (some 3), true⟩])
 ((.seq (.ops [⟨.field 0 none (.var 4), none, none, true⟩, ⟨.field 0 (some 2) (.var 4), none, none, true⟩, ⟨.load none (.var 1), none, none, true⟩, ⟨.load none (.var 2), none, none, true⟩, ⟨.build [.int .i64 0, .empty] [(0, 1, (.loc 2)), (1, 1, (.loc 3))], none, none, true⟩, ⟨.callS nspeculate_same [(.loc 1), (.loc 4)], none, none, true⟩, ⟨.move (.loc 5), none, (some 3), true⟩])
 (.ret))))), none⟩
theorem v_speculate_Decidex1 {F : Nat → Option RFunc} {me nspeculate_same : Nat} (hF : F me = some (rf_speculate_Decidex1 nspeculate_same)) {fl : Nat} {H : Heap} {Q : AV → Heap → Prop} (x0 : Int) (x1 : AV) (x2 : Bool) (cap3 : AV) (cap4 : AV)
  (h : ∀ (H5 : Heap), Dead1 H 1 H5 → ∃ (b6 : Nat) (o7 : Nat), cap3 = .ptr b6 o7 ∧ ∃ (e8 : Int), rload H5 none b6 o7 = some (.int .i64 e8) ∧ ∃ (b9 : Nat) (o10 : Nat), cap4 = .ptr b9 o10 ∧ ∃ (e11 : AV), rload H5 none b9 o10 = some e11 ∧ Scal e11 ∧ Ret F fl nspeculate_same [(.agg [(.int .i64 x0), x1]), (.agg [(.int .i64 e8), e11])] H5 (fun v15 H14 => ∃ (r13 : Bool), v15 = (.bool r13) ∧ Q (.bool r13) H14)) : Ret F fl me [(.agg [(.int .i64 x0), x1, (.bool x2)]), cap3, cap4] H Q := by
  refine ret_intro hF rfl ?_
  refine w_seq ?_
  refine w_run [1, 0] ?_
  obtain ⟨H5, hb⟩ : ∃ H', Dead1 H 1 H' := ⟨_, ⟨rfl⟩⟩
  replace h := h H5 hb
  refine t_tomb true 1 (.agg [(.int .i64 x0), x1, (.bool x2)]) [(.int .i64 x0), x1, (.bool x2)] H5 H (by kernel_rfl) rfl hb ?_
  refine t_done [(.agg [(.int .i64 x0), x1, (.bool x2)]), cap3, cap4, (.bool false), (.agg [(.int .i64 x0), x1, (.bool x2)])] H5 (by kernel_rfl) ?_
  refine then_norm ?_
  refine w_seq ?_
  refine w_run [0, 0, 1, 1, 1, 1, 0] ?_
  obtain ⟨b6, o7, rfl, e8, hl, h⟩ := h
  refine t_load true none b6 o7 (.int .i64 e8) H5 (by kernel_rfl) hl ?_
  obtain ⟨b9, o10, rfl, e11, hl, h⟩ := h
  refine t_load true none b9 o10 e11 H5 (by kernel_rfl) hl ?_
  obtain ⟨hs12, h⟩ := h
  refine t_build true [(.int .i64 0), .empty] [(0, 1, .loc 0), (1, 1, .loc 1)] [(.int .i64 e8), e11] [(.int .i64 e8), e11] H5 (by kernel_rfl) (fill_c (vs := [(.int .i64 e8)]) (size := 1) rfl (by kernel_rfl) (by kernel_rfl) (fill_c (vs := [e11]) (size := 1) hs12.1 (by kernel_rfl) (by kernel_rfl) (by kernel_rfl))) ?_
  refine t_call true nspeculate_same [(.agg [(.int .i64 x0), x1]), (.agg [(.int .i64 e8), e11])] H5 (by kernel_rfl) h ?_
  clear h
  rintro _ H14 ⟨r13, rfl, h⟩
  refine t_done [(.agg [(.int .i64 x0), x1, (.bool x2)]), (.ptr b6 o7), (.ptr b9 o10), (.bool r13), (.agg [(.int .i64 x0), x1, (.bool x2)])] H14 (by kernel_rfl) ?_
  refine then_norm ?_
  refine w_ret ?_
  exact body_ret (vs := [(.bool r13)]) _ (by kernel_rfl) rfl h

def rf_speculate_same (nslices_Equal__int_int : Nat) : RFunc := ⟨2, 5, [.var 2],
 ((.seq (.ops [⟨.tomb 1 (.var 0), none, (some 3), true⟩, ⟨.tomb 1 (.var 1), none, (some 4), true⟩, ⟨.move (.k (.bool false)), none, (some 2), true⟩])
 ((.seq (.ops [⟨.field 0 none (.var 3), none, none, true⟩, ⟨.field 0 none (.var 3), none, none, true⟩, ⟨.field 0 none (.var 4), none, none, true⟩, ⟨.field 0 none (.var 4), none, none, true⟩, ⟨.bin .eql .no (.loc 1) (.loc 3), none, none, true⟩, ⟨.move (.loc 4), none, none, true⟩, ⟨.field 0 none (.var 3), none, none, true⟩, ⟨.field 1 none (.var 3), none, none, true⟩, ⟨.field 0 none (.var 4), none, none, true⟩, ⟨.field 1 none (.var 4), none, none, true⟩, ⟨.callS nslices_Equal__int_int [(.loc 7), (.loc 9)], (some (5, true)), none, true⟩, ⟨.pick (.loc 5) (.loc 10) (.k (.bool false)), none, none, true⟩, ⟨.move (.loc 11), none, (some 2), true⟩])
 (.ret))))), none⟩
theorem v_speculate_same {F : Nat → Option RFunc} {me nslices_Equal__int_int : Nat} (hF : F me = some (rf_speculate_same nslices_Equal__int_int)) {fl : Nat} {H : Heap} {Q : AV → Heap → Prop} (a0 : Int) (a1 : AV) (b2 : Int) (b3 : AV)
  (h : ∀ (H4 : Heap), Dead1 H 1 H4 → ∀ (H5 : Heap), Dead1 H4 1 H5 → ((a0 = b2) → Ret F fl nslices_Equal__int_int [a1, b3] H5 (fun v8 H7 => ∃ (r6 : Bool), v8 = (.bool r6) ∧ Q (.bool r6) H7)) ∧ (¬(a0 = b2) → Q (.bool false) H5)) : Ret F fl me [(.agg [(.int .i64 a0), a1]), (.agg [(.int .i64 b2), b3])] H Q := by
  refine ret_intro hF rfl ?_
  refine w_seq ?_
  refine w_run [1, 1, 0] ?_
  obtain ⟨H4, hb⟩ : ∃ H', Dead1 H 1 H' := ⟨_, ⟨rfl⟩⟩
  replace h := h H4 hb
  refine t_tomb true 1 (.agg [(.int .i64 a0), a1]) [(.int .i64 a0), a1] H4 H (by kernel_rfl) rfl hb ?_
  obtain ⟨H5, hb⟩ : ∃ H', Dead1 H4 1 H' := ⟨_, ⟨rfl⟩⟩
  replace h := h H5 hb
  refine t_tomb true 1 (.agg [(.int .i64 b2), b3]) [(.int .i64 b2), b3] H5 H4 (by kernel_rfl) rfl hb ?_
  refine t_done [(.agg [(.int .i64 a0), a1]), (.agg [(.int .i64 b2), b3]), (.bool false), (.agg [(.int .i64 a0), a1]), (.agg [(.int .i64 b2), b3])] H5 (by kernel_rfl) ?_
  refine then_norm ?_
  refine w_seq ?_
  refine w_run [0, 0, 0, 0, 0, 0, 0, 0, 0, 0, 3, 0, 0] ?_
  refine t_gd ((a0) == b2) true (by kernel_rfl) (fun hc => ?_) (fun hc => ?_)
  · replace h := h.1 (is_eq.t hc)
    refine t_call true nslices_Equal__int_int [a1, b3] H5 (by kernel_rfl) h ?_
    clear h
    rintro _ H7 ⟨r6, rfl, h⟩
    refine t_done [(.agg [(.int .i64 a0), a1]), (.agg [(.int .i64 b2), b3]), (.bool r6), (.agg [(.int .i64 a0), a1]), (.agg [(.int .i64 b2), b3])] H7 (by kernel_rfl) ?_
    refine then_norm ?_
    refine w_ret ?_
    exact body_ret (vs := [(.bool r6)]) _ (by kernel_rfl) rfl h
  · replace h := h.2 (is_eq.f hc)
    refine t_done [(.agg [(.int .i64 a0), a1]), (.agg [(.int .i64 b2), b3]), (.bool false), (.agg [(.int .i64 a0), a1]), (.agg [(.int .i64 b2), b3])] H5 (by kernel_rfl) ?_
    refine then_norm ?_
    refine w_ret ?_
    exact body_ret (vs := [(.bool false)]) _ (by kernel_rfl) rfl h

def rf_slices_IndexFunc__api_TestResult_api_TestResult : RFunc := ⟨2, 8, [.var 2],
 ((.seq (.ops [⟨.move (.k (.int .i64 0)), none, (some 2), true⟩])
 ((.seq ((.seq (.ops [⟨.move (.var 0), none, none, true⟩, ⟨.len (.loc 0), none, (some 4), true⟩, ⟨.move (.k (.int .i64 0)), none, (some 3), true⟩])
 (.block 0 (.loop ((.seq (.ops [⟨.bin .lss .no (.var 3) (.var 4), none, (some 5), true⟩])
 ((.seq (.cond (.var 5) (.skip) (.exit 0))
 ((.seq (.block 1 ((.seq (.ops [⟨.move (.var 3), none, none, true⟩, ⟨.move (.loc 0), none, (some 6), true⟩])
 ((.seq (.ops [⟨.move (.var 1), none, none, true⟩, ⟨.move (.var 0), none, none, true⟩, ⟨.move (.var 6), none, none, true⟩, ⟨.indexAddr 3 (.loc 1) (.loc 2), none, none, true⟩, ⟨.load (some 3) (.loc 3), none, none, true⟩, ⟨.call (.loc 0) [(.loc 4)], none, (some 7), true⟩])
 (.cond (.var 7) ((.seq (.ops [⟨.move (.var 6), none, none, true⟩, ⟨.move (.loc 0), none, (some 2), true⟩])
 (.ret))) (.skip)))))))
 (.ops [⟨.bin .add .no (.var 3) (.k (.int .i64 1)), none, none, true⟩, ⟨.move (.loc 0), none, (some 3), true⟩])))))))))))
 ((.seq (.ops [⟨.move (.k (.int .i64 (-1))), none, (some 2), true⟩])
 (.ret))))))), none⟩
theorem v_slices_IndexFunc__api_TestResult_api_TestResult {F : Nat → Option RFunc} {me : Nat} (hF : F me = some (rf_slices_IndexFunc__api_TestResult_api_TestResult )) {fl : Nat} {H : Heap} {Q : AV → Heap → Prop} (s0 : AV) (fg1 : Nat) (fc2 : List AV)
  (h : ∃ len3 : Nat, lenA s0 = some len3 ∧ ∃ (J4 : Nat → Int → Heap → Prop) (k5 : Nat), J4 k5 0 H ∧ (∀ (m6 : Nat) (v8 : Int) (H12 : Heap), J4 m6 v8 H12 → ((v8 < (len3 : Int)) → ∃ (e13 : Int) (e14 : AV) (e15 : Bool), getA H12 3 (some 3) s0 v8 0 = some (.agg [(.int .i64 e13), e14, (.bool e15)]) ∧ Ret F fl fg1 (([(.agg [(.int .i64 e13), e14, (.bool e15)])] : List AV) ++ fc2) H12 (fun v19 H18 => ∃ (r17 : Bool), v19 = (.bool r17) ∧ ((r17 = true) → Q (.int .i64 v8) H18) ∧ (¬(r17 = true) → ∃ m20 : Nat, m20 < m6 ∧ J4 m20 (IntKind.wrap .i64 (v8 + 1)) H18))) ∧ (¬(v8 < (len3 : Int)) → Q (.int .i64 (-1)) H12))) : Ret F fl me [s0, (.func fg1 fc2)] H Q := by
  refine ret_intro hF rfl ?_
  refine w_seq ?_
  refine w_run [0] ?_
  refine t_done [s0, (.func fg1 fc2), (.int .i64 0), .undef, .undef, .undef, .undef, .undef] H (by kernel_rfl) ?_
  refine then_norm ?_
  refine w_seq ?_
  refine w_seq ?_
  refine w_run [0, 1, 0] ?_
  obtain ⟨len3, hl, h⟩ := h
  refine t_len true s0 len3 H (by kernel_rfl) hl ?_
  refine t_done [s0, (.func fg1 fc2), (.int .i64 0), (.int .i64 0), (.int .i64 (len3 : Int)), .undef, .undef, .undef] H (by kernel_rfl) ?_
  refine then_norm ?_
  refine w_block ?_
  obtain ⟨J4, k5, h0, h⟩ := h
  refine w_loop (I := fun mI EI HI => ∃ (d7 : AV) (v8 : Int) (d9 : AV) (d10 : AV) (d11 : AV), EI = [s0, (.func fg1 fc2), d7, (.int .i64 v8), (.int .i64 (len3 : Int)), d9, d10, d11] ∧ J4 mI v8 HI) ?_ k5 ⟨_, _, _, _, _, rfl, h0⟩
  clear h0
  rintro m6 EI H12 ⟨d7, v8, d9, d10, d11, rfl, hJ⟩
  replace h := h m6 v8 H12 hJ
  clear hJ
  refine w_seq ?_
  refine w_run [0] ?_
  refine t_done [s0, (.func fg1 fc2), d7, (.int .i64 v8), (.int .i64 (len3 : Int)), (.bool (decide (v8 < (len3 : Int)))), d10, d11] H12 (by kernel_rfl) ?_
  refine then_norm ?_
  refine w_seq ?_
  refine w_cond (t := (decide (v8 < (len3 : Int)))) rfl (fun hc => ?_) (fun hc => ?_)
  · replace h := h.1 (is_dec.t hc)
    refine w_skip ?_
    refine then_norm ?_
    refine w_seq ?_
    refine w_block ?_
    refine w_seq ?_
    refine w_run [0, 0] ?_
    refine t_done [s0, (.func fg1 fc2), d7, (.int .i64 v8), (.int .i64 (len3 : Int)), (.bool (decide (v8 < (len3 : Int)))), (.int .i64 v8), d11] H12 (by kernel_rfl) ?_
    refine then_norm ?_
    refine w_seq ?_
    refine w_run [0, 0, 0, 1, 1, 1] ?_
    obtain ⟨e13, e14, e15, hg16, h⟩ := h
    refine t_idxG true 3 s0 .i64 v8 H12 (by kernel_rfl) hg16 ?_
    refine t_loadG true (some 3) 3 s0 v8 0 (.agg [(.int .i64 e13), e14, (.bool e15)]) H12 (by kernel_rfl) hg16 ?_
    refine t_call true fg1 (([(.agg [(.int .i64 e13), e14, (.bool e15)])] : List AV) ++ fc2) H12 (by kernel_rfl) h ?_
    clear h
    rintro _ H18 ⟨r17, rfl, h⟩
    refine t_done [s0, (.func fg1 fc2), d7, (.int .i64 v8), (.int .i64 (len3 : Int)), (.bool (decide (v8 < (len3 : Int)))), (.int .i64 v8), (.bool r17)] H18 (by kernel_rfl) ?_
    refine then_norm ?_
    refine w_cond (t := r17) rfl (fun hc => ?_) (fun hc => ?_)
    · replace h := h.1 (is_raw.t hc)
      refine w_seq ?_
      refine w_run [0, 0] ?_
      refine t_done [s0, (.func fg1 fc2), (.int .i64 v8), (.int .i64 v8), (.int .i64 (len3 : Int)), (.bool (decide (v8 < (len3 : Int)))), (.int .i64 v8), (.bool r17)] H18 (by kernel_rfl) ?_
      refine then_norm ?_
      refine w_ret ?_
      refine block_ret ?_
      refine then_ret ?_
      refine loop_ret ?_
      refine block_ret ?_
      refine then_ret ?_
      exact body_ret (vs := [(.int .i64 v8)]) _ (by kernel_rfl) rfl h
    · replace h := h.2 (is_raw.f hc)
      refine w_skip ?_
      refine block_norm ?_
      refine then_norm ?_
      refine w_run [0, 0] ?_
      refine t_done [s0, (.func fg1 fc2), d7, (.int .i64 (IntKind.wrap .i64 (v8 + 1))), (.int .i64 (len3 : Int)), (.bool (decide (v8 < (len3 : Int)))), (.int .i64 v8), (.bool r17)] H18 (by kernel_rfl) ?_
      obtain ⟨m', hm, h⟩ := h
      refine loop_norm ⟨m', hm, _, _, _, _, _, rfl, h⟩
  · replace h := h.2 (is_dec.f hc)
    refine w_exit ?_
    refine then_exit ?_
    refine loop_exit ?_
    refine block_exit ?_
    refine then_norm ?_
    refine w_seq ?_
    refine w_run [0] ?_
    refine t_done [s0, (.func fg1 fc2), (.int .i64 (-1)), (.int .i64 v8), (.int .i64 (len3 : Int)), (.bool (decide (v8 < (len3 : Int)))), d10, d11] H12 (by kernel_rfl) ?_
    refine then_norm ?_
    refine w_ret ?_
    exact body_ret (vs := [(.int .i64 (-1))]) _ (by kernel_rfl) rfl h

def rf_slices_ContainsFunc__api_TestResult_api_TestResult (nslices_IndexFunc__api_TestResult_api_TestResult : Nat) : RFunc := ⟨2, 3, [.var 2],
 ((.seq (.ops [⟨.move (.k (.bool false)), none, (some 2), true⟩])
 ((.seq (.ops [⟨.move (.var 0), none, none, true⟩, ⟨.move (.var 1), none, none, true⟩, ⟨.callS nslices_IndexFunc__api_TestResult_api_TestResult [(.loc 0), (.loc 1)], none, none, true⟩, ⟨.bin .geq .no (.loc 2) (.k (.int .i64 0)), none, none, true⟩, ⟨.move (.loc 3), none, (some 2), true⟩])
 (.ret))))), none⟩
theorem v_slices_ContainsFunc__api_TestResult_api_TestResult {F : Nat → Option RFunc} {me nslices_IndexFunc__api_TestResult_api_TestResult : Nat} (hF : F me = some (rf_slices_ContainsFunc__api_TestResult_api_TestResult nslices_IndexFunc__api_TestResult_api_TestResult)) {fl : Nat} {H : Heap} {Q : AV → Heap → Prop} (s0 : AV) (fg1 : Nat) (fc2 : List AV)
  (h : Ret F fl nslices_IndexFunc__api_TestResult_api_TestResult [s0, (.func fg1 fc2)] H (fun v5 H4 => ∃ (r3 : Int), v5 = (.int .i64 r3) ∧ Q (.bool (decide (r3 ≥ 0))) H4)) : Ret F fl me [s0, (.func fg1 fc2)] H Q := by
  refine ret_intro hF rfl ?_
  refine w_seq ?_
  refine w_run [0] ?_
  refine t_done [s0, (.func fg1 fc2), (.bool false)] H (by kernel_rfl) ?_
  refine then_norm ?_
  refine w_seq ?_
  refine w_run [0, 0, 1, 0, 0] ?_
  refine t_call true nslices_IndexFunc__api_TestResult_api_TestResult [s0, (.func fg1 fc2)] H (by kernel_rfl) h ?_
  clear h
  rintro _ H4 ⟨r3, rfl, h⟩
  refine t_done [s0, (.func fg1 fc2), (.bool (decide (r3 ≥ 0)))] H4 (by kernel_rfl) ?_
  refine then_norm ?_
  refine w_ret ?_
  exact body_ret (vs := [(.bool (decide (r3 ≥ 0)))]) _ (by kernel_rfl) rfl h

def rf_slices_BinarySearch__int_int (ncmp_Less_int nslices_isNaN_int : Nat) : RFunc := ⟨2, 10, [.var 2, .var 3],
 ((.seq (.ops [⟨.move (.k (.int .i64 0)), none, (some 2), true⟩, ⟨.move (.k (.bool false)), none, (some 3), true⟩])
 ((.seq (.ops [⟨.move (.var 0), none, none, true⟩, ⟨.len (.loc 0), none, none, true⟩, ⟨.move (.loc 1), none, (some 4), true⟩])
 ((.seq (.ops [⟨.move (.var 4), none, none, true⟩, ⟨.move (.k (.int .i64 0)), none, (some 5), true⟩, ⟨.move (.loc 0), none, (some 6), true⟩])
 ((.seq (.block 0 (.loop ((.seq ((.seq (.ops [⟨.move (.var 5), none, none, true⟩, ⟨.move (.var 6), none, none, true⟩, ⟨.bin .lss .no (.loc 0) (.loc 1), none, (some 7), true⟩])
 (.cond (.var 7) (.skip) (.exit 0))))
 (.block 1 ((.seq (.ops [⟨.move (.var 5), none, none, true⟩, ⟨.move (.var 6), none, none, true⟩, ⟨.bin .add .no (.loc 0) (.loc 1), none, none, true⟩, ⟨.convInt .u64 (.loc 2), none, none, true⟩, ⟨.bin .shr .no (.loc 3) (.k (.int .u64 1)), none, none, true⟩, ⟨.convInt .i64 (.loc 4), none, none, true⟩, ⟨.move (.loc 5), none, (some 8), true⟩])
 ((.seq (.ops [⟨.move (.var 0), none, none, true⟩, ⟨.move (.var 8), none, none, true⟩, ⟨.indexAddr 1 (.loc 0) (.loc 1), none, none, true⟩, ⟨.load none (.loc 2), none, none, true⟩, ⟨.move (.var 1), none, none, true⟩, ⟨.callS ncmp_Less_int [(.loc 3), (.loc 4)], none, (some 9), true⟩])
 (.cond (.var 9) (.ops [⟨.move (.var 8), none, none, true⟩, ⟨.bin .add .no (.loc 0) (.k (.int .i64 1)), none, none, true⟩, ⟨.move (.loc 1), none, (some 5), true⟩]) (.ops [⟨.move (.var 8), none, none, true⟩, ⟨.move (.loc 0), none, (some 6), true⟩])))))))))))
 ((.seq (.ops [⟨.move (.var 5), none, none, true⟩, ⟨.move (.var 5), none, none, true⟩, ⟨.move (.var 4), none, none, true⟩, ⟨.bin .lss .no (.loc 1) (.loc 2), none, none, true⟩, ⟨.move (.loc 3), none, none, true⟩, ⟨.move (.var 0), none, none, true⟩, ⟨.move (.var 5), none, none, true⟩, ⟨.indexAddr 1 (.loc 5) (.loc 6), (some (4, true)), none, true⟩, ⟨.load none (.loc 7), (some (4, true)), none, true⟩, ⟨.move (.var 1), none, none, true⟩, ⟨.bin .eql .no (.loc 8) (.loc 9), (some (4, true)), none, true⟩, ⟨.move (.loc 10), (some (4, true)), none, true⟩, ⟨.move (.var 0), none, none, true⟩, ⟨.move (.var 5), none, none, true⟩, ⟨.indexAddr 1 (.loc 12) (.loc 13), (some (11, false)), none, true⟩, ⟨.load none (.loc 14), (some (11, false)), none, true⟩, ⟨.callS nslices_isNaN_int [(.loc 15)], (some (11, false)), none, true⟩, ⟨.move (.loc 16), (some (11, false)), none, true⟩, ⟨.move (.var 1), none, none, true⟩, ⟨.callS nslices_isNaN_int [(.loc 18)], (some (17, true)), none, true⟩, ⟨.pick (.loc 17) (.loc 19) (.k (.bool false)), (some (11, false)), none, true⟩, ⟨.pick (.loc 11) (.k (.bool true)) (.loc 20), (some (4, true)), none, true⟩, ⟨.pick (.loc 4) (.loc 21) (.k (.bool false)), none, none, true⟩, ⟨.move (.loc 0), none, (some 2), true⟩, ⟨.move (.loc 22), none, (some 3), true⟩])
 (.ret))))))))))), none⟩
theorem v_slices_BinarySearch__int_int {F : Nat → Option RFunc} {me ncmp_Less_int nslices_isNaN_int : Nat} (hF : F me = some (rf_slices_BinarySearch__int_int ncmp_Less_int nslices_isNaN_int)) {fl : Nat} {H : Heap} {Q : AV → Heap → Prop} (x0 : AV) (target1 : Int)
  (h : ∃ len2 : Nat, lenA x0 = some len2 ∧ ∃ (J3 : Nat → Int → Int → Heap → Prop) (k4 : Nat), J3 k4 0 (len2 : Int) H ∧ (∀ (m5 : Nat) (i6 : Int) (j7 : Int) (H11 : Heap), J3 m5 i6 j7 H11 → ((i6 < j7) → ∃ (e12 : Int), getA H11 1 none x0 (IntKind.wrap .i64 ((Int.fdiv (IntKind.wrap .u64 ((IntKind.wrap .i64 (i6 + j7)))) (2 ^ (Min.min (Int.toNat 1) (IntKind.bits .u64)))))) 0 = some (.int .i64 e12) ∧ Ret F fl ncmp_Less_int [(.int .i64 e12), (.int .i64 target1)] H11 (fun v16 H15 => ∃ (r14 : Bool), v16 = (.bool r14) ∧ ((r14 = true) → ∃ m17 : Nat, m17 < m5 ∧ J3 m17 (IntKind.wrap .i64 ((IntKind.wrap .i64 ((Int.fdiv (IntKind.wrap .u64 ((IntKind.wrap .i64 (i6 + j7)))) (2 ^ (Min.min (Int.toNat 1) (IntKind.bits .u64)))))) + 1)) j7 H15) ∧ (¬(r14 = true) → ∃ m18 : Nat, m18 < m5 ∧ J3 m18 i6 (IntKind.wrap .i64 ((Int.fdiv (IntKind.wrap .u64 ((IntKind.wrap .i64 (i6 + j7)))) (2 ^ (Min.min (Int.toNat 1) (IntKind.bits .u64)))))) H15))) ∧ (¬(i6 < j7) → ((i6 < (len2 : Int)) → ∃ (e19 : Int), getA H11 1 none x0 i6 0 = some (.int .i64 e19) ∧ ((e19 = target1) → Q (.tuple [(.int .i64 i6), (.bool true)]) H11) ∧ (¬(e19 = target1) → ∃ (e21 : Int), getA H11 1 none x0 i6 0 = some (.int .i64 e21) ∧ Ret F fl nslices_isNaN_int [(.int .i64 e21)] H11 (fun v25 H24 => ∃ (r23 : Bool), v25 = (.bool r23) ∧ ((r23 = true) → Ret F fl nslices_isNaN_int [(.int .i64 target1)] H24 (fun v28 H27 => ∃ (r26 : Bool), v28 = (.bool r26) ∧ Q (.tuple [(.int .i64 i6), (.bool r26)]) H27)) ∧ (¬(r23 = true) → Q (.tuple [(.int .i64 i6), (.bool false)]) H24)))) ∧ (¬(i6 < (len2 : Int)) → Q (.tuple [(.int .i64 i6), (.bool false)]) H11)))) : Ret F fl me [x0, (.int .i64 target1)] H Q := by
  refine ret_intro hF rfl ?_
  refine w_seq ?_
  refine w_run [0, 0] ?_
  refine t_done [x0, (.int .i64 target1), (.int .i64 0), (.bool false), .undef, .undef, .undef, .undef, .undef, .undef] H (by kernel_rfl) ?_
  refine then_norm ?_
  refine w_seq ?_
  refine w_run [0, 1, 0] ?_
  obtain ⟨len2, hl, h⟩ := h
  refine t_len true x0 len2 H (by kernel_rfl) hl ?_
  refine t_done [x0, (.int .i64 target1), (.int .i64 0), (.bool false), (.int .i64 (len2 : Int)), .undef, .undef, .undef, .undef, .undef] H (by kernel_rfl) ?_
  refine then_norm ?_
  refine w_seq ?_
  refine w_run [0, 0, 0] ?_
  refine t_done [x0, (.int .i64 target1), (.int .i64 0), (.bool false), (.int .i64 (len2 : Int)), (.int .i64 0), (.int .i64 (len2 : Int)), .undef, .undef, .undef] H (by kernel_rfl) ?_
  refine then_norm ?_
  refine w_seq ?_
  refine w_block ?_
  obtain ⟨J3, k4, h0, h⟩ := h
  refine w_loop (I := fun mI EI HI => ∃ (i6 : Int) (j7 : Int) (d8 : AV) (d9 : AV) (d10 : AV), EI = [x0, (.int .i64 target1), (.int .i64 0), (.bool false), (.int .i64 (len2 : Int)), (.int .i64 i6), (.int .i64 j7), d8, d9, d10] ∧ J3 mI i6 j7 HI) ?_ k4 ⟨_, _, _, _, _, rfl, h0⟩
  clear h0
  rintro m5 EI H11 ⟨i6, j7, d8, d9, d10, rfl, hJ⟩
  replace h := h m5 i6 j7 H11 hJ
  clear hJ
  refine w_seq ?_
  refine w_seq ?_
  refine w_run [0, 0, 0] ?_
  refine t_done [x0, (.int .i64 target1), (.int .i64 0), (.bool false), (.int .i64 (len2 : Int)), (.int .i64 i6), (.int .i64 j7), (.bool (decide (i6 < j7))), d9, d10] H11 (by kernel_rfl) ?_
  refine then_norm ?_
  refine w_cond (t := (decide (i6 < j7))) rfl (fun hc => ?_) (fun hc => ?_)
  · replace h := h.1 (is_dec.t hc)
    refine w_skip ?_
    refine then_norm ?_
    refine w_block ?_
    refine w_seq ?_
    refine w_run [0, 0, 0, 0, 1, 0, 0] ?_
    refine t_shr true .no .u64 .u64 (IntKind.wrap .u64 ((IntKind.wrap .i64 (i6 + j7)))) 1 H11 (by kernel_rfl) (by decide) ?_
    refine t_done [x0, (.int .i64 target1), (.int .i64 0), (.bool false), (.int .i64 (len2 : Int)), (.int .i64 i6), (.int .i64 j7), (.bool (decide (i6 < j7))), (.int .i64 (IntKind.wrap .i64 ((Int.fdiv (IntKind.wrap .u64 ((IntKind.wrap .i64 (i6 + j7)))) (2 ^ (Min.min (Int.toNat 1) (IntKind.bits .u64))))))), d10] H11 (by kernel_rfl) ?_
    refine then_norm ?_
    refine w_seq ?_
    refine w_run [0, 0, 1, 1, 0, 1] ?_
    obtain ⟨e12, hg13, h⟩ := h
    refine t_idxG true 1 x0 .i64 (IntKind.wrap .i64 ((Int.fdiv (IntKind.wrap .u64 ((IntKind.wrap .i64 (i6 + j7)))) (2 ^ (Min.min (Int.toNat 1) (IntKind.bits .u64)))))) H11 (by kernel_rfl) hg13 ?_
    refine t_loadG true none 1 x0 (IntKind.wrap .i64 ((Int.fdiv (IntKind.wrap .u64 ((IntKind.wrap .i64 (i6 + j7)))) (2 ^ (Min.min (Int.toNat 1) (IntKind.bits .u64)))))) 0 (.int .i64 e12) H11 (by kernel_rfl) hg13 ?_
    refine t_call true ncmp_Less_int [(.int .i64 e12), (.int .i64 target1)] H11 (by kernel_rfl) h ?_
    clear h
    rintro _ H15 ⟨r14, rfl, h⟩
    refine t_done [x0, (.int .i64 target1), (.int .i64 0), (.bool false), (.int .i64 (len2 : Int)), (.int .i64 i6), (.int .i64 j7), (.bool (decide (i6 < j7))), (.int .i64 (IntKind.wrap .i64 ((Int.fdiv (IntKind.wrap .u64 ((IntKind.wrap .i64 (i6 + j7)))) (2 ^ (Min.min (Int.toNat 1) (IntKind.bits .u64))))))), (.bool r14)] H15 (by kernel_rfl) ?_
    refine then_norm ?_
    refine w_cond (t := r14) rfl (fun hc => ?_) (fun hc => ?_)
    · replace h := h.1 (is_raw.t hc)
      refine w_run [0, 0, 0] ?_
      refine t_done [x0, (.int .i64 target1), (.int .i64 0), (.bool false), (.int .i64 (len2 : Int)), (.int .i64 (IntKind.wrap .i64 ((IntKind.wrap .i64 ((Int.fdiv (IntKind.wrap .u64 ((IntKind.wrap .i64 (i6 + j7)))) (2 ^ (Min.min (Int.toNat 1) (IntKind.bits .u64)))))) + 1))), (.int .i64 j7), (.bool (decide (i6 < j7))), (.int .i64 (IntKind.wrap .i64 ((Int.fdiv (IntKind.wrap .u64 ((IntKind.wrap .i64 (i6 + j7)))) (2 ^ (Min.min (Int.toNat 1) (IntKind.bits .u64))))))), (.bool r14)] H15 (by kernel_rfl) ?_
      refine block_norm ?_
      obtain ⟨m', hm, h⟩ := h
      refine loop_norm ⟨m', hm, _, _, _, _, _, rfl, h⟩
    · replace h := h.2 (is_raw.f hc)
      refine w_run [0, 0] ?_
      refine t_done [x0, (.int .i64 target1), (.int .i64 0), (.bool false), (.int .i64 (len2 : Int)), (.int .i64 i6), (.int .i64 (IntKind.wrap .i64 ((Int.fdiv (IntKind.wrap .u64 ((IntKind.wrap .i64 (i6 + j7)))) (2 ^ (Min.min (Int.toNat 1) (IntKind.bits .u64))))))), (.bool (decide (i6 < j7))), (.int .i64 (IntKind.wrap .i64 ((Int.fdiv (IntKind.wrap .u64 ((IntKind.wrap .i64 (i6 + j7)))) (2 ^ (Min.min (Int.toNat 1) (IntKind.bits .u64))))))), (.bool r14)] H15 (by kernel_rfl) ?_
      refine block_norm ?_
      obtain ⟨m', hm, h⟩ := h
      refine loop_norm ⟨m', hm, _, _, _, _, _, rfl, h⟩
  · replace h := h.2 (is_dec.f hc)
    refine w_exit ?_
    refine then_exit ?_
    refine loop_exit ?_
    refine block_exit ?_
    refine then_norm ?_
    refine w_seq ?_
    refine w_run [0, 0, 0, 0, 0, 0, 0, 3, 3, 0, 2, 2, 0, 0, 3, 3, 3, 2, 0, 3, 2, 2, 0, 0, 0] ?_
    refine t_gd (decide (i6 < (len2 : Int))) true (by kernel_rfl) (fun hc => ?_) (fun hc => ?_)
    · replace h := h.1 (is_dec.t hc)
      obtain ⟨e19, hg20, h⟩ := h
      refine t_idxG true 1 x0 .i64 i6 H11 (by kernel_rfl) hg20 ?_
      refine t_gd true true (by kernel_rfl) (fun _ => ?_) (fun hn => by cases hn)
      refine t_loadG true none 1 x0 i6 0 (.int .i64 e19) H11 (by kernel_rfl) hg20 ?_
      refine t_gd true true (by kernel_rfl) (fun _ => ?_) (fun hn => by cases hn)
      refine t_gd true true (by kernel_rfl) (fun _ => ?_) (fun hn => by cases hn)
      refine t_gd ((e19) == target1) false (by kernel_rfl) (fun hc => ?_) (fun hc => ?_)
      · replace h := h.2 (is_eq.f hc)
        obtain ⟨e21, hg22, h⟩ := h
        refine t_idxG true 1 x0 .i64 i6 H11 (by kernel_rfl) hg22 ?_
        refine t_gd false false (by kernel_rfl) (fun _ => ?_) (fun hn => by cases hn)
        refine t_loadG true none 1 x0 i6 0 (.int .i64 e21) H11 (by kernel_rfl) hg22 ?_
        refine t_gd false false (by kernel_rfl) (fun _ => ?_) (fun hn => by cases hn)
        refine t_call true nslices_isNaN_int [(.int .i64 e21)] H11 (by kernel_rfl) h ?_
        clear h
        rintro _ H24 ⟨r23, rfl, h⟩
        refine t_gd false false (by kernel_rfl) (fun _ => ?_) (fun hn => by cases hn)
        refine t_gd r23 true (by kernel_rfl) (fun hc => ?_) (fun hc => ?_)
        · replace h := h.1 (is_raw.t hc)
          refine t_call true nslices_isNaN_int [(.int .i64 target1)] H24 (by kernel_rfl) h ?_
          clear h
          rintro _ H27 ⟨r26, rfl, h⟩
          refine t_gd false false (by kernel_rfl) (fun _ => ?_) (fun hn => by cases hn)
          refine t_gd true true (by kernel_rfl) (fun _ => ?_) (fun hn => by cases hn)
          refine t_done [x0, (.int .i64 target1), (.int .i64 i6), (.bool r26), (.int .i64 (len2 : Int)), (.int .i64 i6), (.int .i64 j7), (.bool (decide (i6 < j7))), d9, d10] H27 (by kernel_rfl) ?_
          refine then_norm ?_
          refine w_ret ?_
          exact body_ret (vs := [(.int .i64 i6), (.bool r26)]) _ (by kernel_rfl) rfl h
        · replace h := h.2 (is_raw.f hc)
          refine t_gd false false (by kernel_rfl) (fun _ => ?_) (fun hn => by cases hn)
          refine t_gd true true (by kernel_rfl) (fun _ => ?_) (fun hn => by cases hn)
          refine t_done [x0, (.int .i64 target1), (.int .i64 i6), (.bool false), (.int .i64 (len2 : Int)), (.int .i64 i6), (.int .i64 j7), (.bool (decide (i6 < j7))), d9, d10] H24 (by kernel_rfl) ?_
          refine then_norm ?_
          refine w_ret ?_
          exact body_ret (vs := [(.int .i64 i6), (.bool false)]) _ (by kernel_rfl) rfl h
      · replace h := h.1 (is_eq.t hc)
        refine t_gd true false (by kernel_rfl) (fun hn => by cases hn) (fun _ => ?_)
        refine t_gd true false (by kernel_rfl) (fun hn => by cases hn) (fun _ => ?_)
        refine t_gd true false (by kernel_rfl) (fun hn => by cases hn) (fun _ => ?_)
        refine t_gdU true (by kernel_rfl) ?_
        refine t_gd true false (by kernel_rfl) (fun hn => by cases hn) (fun _ => ?_)
        refine t_gd true true (by kernel_rfl) (fun _ => ?_) (fun hn => by cases hn)
        refine t_done [x0, (.int .i64 target1), (.int .i64 i6), (.bool true), (.int .i64 (len2 : Int)), (.int .i64 i6), (.int .i64 j7), (.bool (decide (i6 < j7))), d9, d10] H11 (by kernel_rfl) ?_
        refine then_norm ?_
        refine w_ret ?_
        exact body_ret (vs := [(.int .i64 i6), (.bool true)]) _ (by kernel_rfl) rfl h
    · replace h := h.2 (is_dec.f hc)
      refine t_gd false true (by kernel_rfl) (fun hn => by cases hn) (fun _ => ?_)
      refine t_gd false true (by kernel_rfl) (fun hn => by cases hn) (fun _ => ?_)
      refine t_gd false true (by kernel_rfl) (fun hn => by cases hn) (fun _ => ?_)
      refine t_gdU false (by kernel_rfl) ?_
      refine t_gdU false (by kernel_rfl) ?_
      refine t_gdU false (by kernel_rfl) ?_
      refine t_gdU false (by kernel_rfl) ?_
      refine t_gdU true (by kernel_rfl) ?_
      refine t_gdU false (by kernel_rfl) ?_
      refine t_gd false true (by kernel_rfl) (fun hn => by cases hn) (fun _ => ?_)
      refine t_done [x0, (.int .i64 target1), (.int .i64 i6), (.bool false), (.int .i64 (len2 : Int)), (.int .i64 i6), (.int .i64 j7), (.bool (decide (i6 < j7))), d9, d10] H11 (by kernel_rfl) ?_
      refine then_norm ?_
      refine w_ret ?_
      exact body_ret (vs := [(.int .i64 i6), (.bool false)]) _ (by kernel_rfl) rfl h

def rf_cmp_Less_int (ncmp_isNaN_int : Nat) : RFunc := ⟨2, 3, [.var 2],
 ((.seq (.ops [⟨.move (.k (.bool false)), none, (some 2), true⟩])
 ((.seq (.ops [⟨.move (.var 0), none, none, true⟩, ⟨.callS ncmp_isNaN_int [(.loc 0)], none, none, true⟩, ⟨.move (.loc 1), none, none, true⟩, ⟨.move (.var 1), none, none, true⟩, ⟨.callS ncmp_isNaN_int [(.loc 3)], (some (2, true)), none, true⟩, ⟨.un .not (.loc 4), (some (2, true)), none, true⟩, ⟨.pick (.loc 2) (.loc 5) (.k (.bool false)), none, none, true⟩, ⟨.move (.loc 6), none, none, true⟩, ⟨.move (.var 0), none, none, true⟩, ⟨.move (.var 1), none, none, true⟩, ⟨.bin .lss .no (.loc 8) (.loc 9), none, none, true⟩, ⟨.pick (.loc 7) (.k (.bool true)) (.loc 10), none, none, true⟩, ⟨.move (.loc 11), none, (some 2), true⟩])
 (.ret))))), none⟩
theorem v_cmp_Less_int {F : Nat → Option RFunc} {me ncmp_isNaN_int : Nat} (hF : F me = some (rf_cmp_Less_int ncmp_isNaN_int)) {fl : Nat} {H : Heap} {Q : AV → Heap → Prop} (x0 : Int) (y1 : Int)
  (h : Ret F fl ncmp_isNaN_int [(.int .i64 x0)] H (fun v4 H3 => ∃ (r2 : Bool), v4 = (.bool r2) ∧ ((r2 = true) → Ret F fl ncmp_isNaN_int [(.int .i64 y1)] H3 (fun v7 H6 => ∃ (r5 : Bool), v7 = (.bool r5) ∧ Q (.bool ((!r5) || (decide (x0 < y1)))) H6)) ∧ (¬(r2 = true) → Q (.bool (decide (x0 < y1))) H3))) : Ret F fl me [(.int .i64 x0), (.int .i64 y1)] H Q := by
  refine ret_intro hF rfl ?_
  refine w_seq ?_
  refine w_run [0] ?_
  refine t_done [(.int .i64 x0), (.int .i64 y1), (.bool false)] H (by kernel_rfl) ?_
  refine then_norm ?_
  refine w_seq ?_
  refine w_run [0, 1, 0, 0, 3, 2, 0, 0, 0, 0, 0, 0, 0] ?_
  refine t_call true ncmp_isNaN_int [(.int .i64 x0)] H (by kernel_rfl) h ?_
  clear h
  rintro _ H3 ⟨r2, rfl, h⟩
  refine t_gd r2 true (by kernel_rfl) (fun hc => ?_) (fun hc => ?_)
  · replace h := h.1 (is_raw.t hc)
    refine t_call true ncmp_isNaN_int [(.int .i64 y1)] H3 (by kernel_rfl) h ?_
    clear h
    rintro _ H6 ⟨r5, rfl, h⟩
    refine t_gd true true (by kernel_rfl) (fun _ => ?_) (fun hn => by cases hn)
    refine t_done [(.int .i64 x0), (.int .i64 y1), (.bool ((!r5) || (decide (x0 < y1))))] H6 (by kernel_rfl) ?_
    refine then_norm ?_
    refine w_ret ?_
    exact body_ret (vs := [(.bool ((!r5) || (decide (x0 < y1))))]) _ (by kernel_rfl) rfl h
  · replace h := h.2 (is_raw.f hc)
    refine t_gd false true (by kernel_rfl) (fun hn => by cases hn) (fun _ => ?_)
    refine t_done [(.int .i64 x0), (.int .i64 y1), (.bool (decide (x0 < y1)))] H3 (by kernel_rfl) ?_
    refine then_norm ?_
    refine w_ret ?_
    exact body_ret (vs := [(.bool (decide (x0 < y1)))]) _ (by kernel_rfl) rfl h

def rf_slices_isNaN_int : RFunc := ⟨1, 2, [.var 1],
 ((.seq (.ops [⟨.move (.k (.bool false)), none, (some 1), true⟩])
 ((.seq (.ops [⟨.move (.var 0), none, none, true⟩, ⟨.move (.var 0), none, none, true⟩, ⟨.bin .neq .no (.loc 0) (.loc 1), none, none, true⟩, ⟨.move (.loc 2), none, (some 1), true⟩])
 (.ret))))), none⟩
theorem v_slices_isNaN_int {F : Nat → Option RFunc} {me : Nat} (hF : F me = some (rf_slices_isNaN_int )) {fl : Nat} {H : Heap} {Q : AV → Heap → Prop} (x0 : Int)
  (h : Q (.bool ((x0) != x0)) H) : Ret F fl me [(.int .i64 x0)] H Q := by
  refine ret_intro hF rfl ?_
  refine w_seq ?_
  refine w_run [0] ?_
  refine t_done [(.int .i64 x0), (.bool false)] H (by kernel_rfl) ?_
  refine then_norm ?_
  refine w_seq ?_
  refine w_run [0, 0, 0, 0] ?_
  refine t_done [(.int .i64 x0), (.bool ((x0) != x0))] H (by kernel_rfl) ?_
  refine then_norm ?_
  refine w_ret ?_
  exact body_ret (vs := [(.bool ((x0) != x0))]) _ (by kernel_rfl) rfl h

def rf_slices_Equal__int_int : RFunc := ⟨2, 9, [.var 2],
 ((.seq (.ops [⟨.move (.k (.bool false)), none, (some 2), true⟩])
 ((.seq ((.seq (.ops [⟨.move (.var 0), none, none, true⟩, ⟨.len (.loc 0), none, none, true⟩, ⟨.move (.var 1), none, none, true⟩, ⟨.len (.loc 2), none, none, true⟩, ⟨.bin .neq .no (.loc 1) (.loc 3), none, (some 3), true⟩])
 (.cond (.var 3) ((.seq (.ops [⟨.move (.k (.bool false)), none, (some 2), true⟩])
 (.ret))) (.skip))))
 ((.seq ((.seq (.ops [⟨.move (.var 0), none, none, true⟩, ⟨.len (.loc 0), none, (some 5), true⟩, ⟨.move (.k (.int .i64 0)), none, (some 4), true⟩])
 (.block 0 (.loop ((.seq (.ops [⟨.bin .lss .no (.var 4) (.var 5), none, (some 6), true⟩])
 ((.seq (.cond (.var 6) (.skip) (.exit 0))
 ((.seq (.block 1 ((.seq (.ops [⟨.move (.var 4), none, none, true⟩, ⟨.move (.loc 0), none, (some 7), true⟩])
 ((.seq (.ops [⟨.move (.var 0), none, none, false⟩, ⟨.move (.var 7), none, none, false⟩, ⟨.indexAddr 1 (.loc 0) (.loc 1), none, none, false⟩, ⟨.load none (.loc 2), none, none, false⟩, ⟨.move (.var 1), none, none, false⟩, ⟨.move (.var 7), none, none, false⟩, ⟨.indexAddr 1 (.loc 4) (.loc 5), none, none, false⟩, ⟨.load none (.loc 6), none, none, false⟩, ⟨.bin .neq .no (.loc 3) (.loc 7), none, (some 8), true⟩])
 (.cond (.var 8) ((.seq (.ops [⟨.move (.k (.bool false)), none, (some 2), true⟩])
 (.ret))) (.skip)))))))
 (.ops [⟨.bin .add .no (.var 4) (.k (.int .i64 1)), none, none, true⟩, ⟨.move (.loc 0), none, (some 4), true⟩])))))))))))
 ((.seq (.ops [⟨.move (.k (.bool true)), none, (some 2), true⟩])
 (.ret))))))))), none⟩
theorem v_slices_Equal__int_int {F : Nat → Option RFunc} {me : Nat} (hF : F me = some (rf_slices_Equal__int_int )) {fl : Nat} {H : Heap} {Q : AV → Heap → Prop} (s10 : AV) (s21 : AV)
  (h : ∃ len2 : Nat, lenA s10 = some len2 ∧ ∃ len3 : Nat, lenA s21 = some len3 ∧ (((len2 : Int) ≠ (len3 : Int)) → Q (.bool false) H) ∧ (¬((len2 : Int) ≠ (len3 : Int)) → ∃ len4 : Nat, lenA s10 = some len4 ∧ ∃ (J5 : Nat → Int → Prop) (k6 : Nat), J5 k6 0 ∧ (∀ (m7 : Nat) (v9 : Int), J5 m7 v9 → ((v9 < (len4 : Int)) → ∃ (e13 : Int), getA H 1 none s10 v9 0 = some (.int .i64 e13) ∧ ∃ (e15 : Int), getA H 1 none s21 v9 0 = some (.int .i64 e15) ∧ ((e13 ≠ e15) → Q (.bool false) H) ∧ (¬(e13 ≠ e15) → ∃ m17 : Nat, m17 < m7 ∧ J5 m17 (IntKind.wrap .i64 (v9 + 1)))) ∧ (¬(v9 < (len4 : Int)) → Q (.bool true) H)))) : Ret F fl me [s10, s21] H Q := by
  refine ret_intro hF rfl ?_
  refine w_seq ?_
  refine w_run [0] ?_
  refine t_done [s10, s21, (.bool false), .undef, .undef, .undef, .undef, .undef, .undef] H (by kernel_rfl) ?_
  refine then_norm ?_
  refine w_seq ?_
  refine w_seq ?_
  refine w_run [0, 1, 0, 1, 0] ?_
  obtain ⟨len2, hl, h⟩ := h
  refine t_len true s10 len2 H (by kernel_rfl) hl ?_
  obtain ⟨len3, hl, h⟩ := h
  refine t_len true s21 len3 H (by kernel_rfl) hl ?_
  refine t_done [s10, s21, (.bool false), (.bool (((len2 : Int)) != (len3 : Int))), .undef, .undef, .undef, .undef, .undef] H (by kernel_rfl) ?_
  refine then_norm ?_
  refine w_cond (t := (((len2 : Int)) != (len3 : Int))) rfl (fun hc => ?_) (fun hc => ?_)
  · replace h := h.1 (is_ne.t hc)
    refine w_seq ?_
    refine w_run [0] ?_
    refine t_done [s10, s21, (.bool false), (.bool (((len2 : Int)) != (len3 : Int))), .undef, .undef, .undef, .undef, .undef] H (by kernel_rfl) ?_
    refine then_norm ?_
    refine w_ret ?_
    refine then_ret ?_
    exact body_ret (vs := [(.bool false)]) _ (by kernel_rfl) rfl h
  · replace h := h.2 (is_ne.f hc)
    refine w_skip ?_
    refine then_norm ?_
    refine w_seq ?_
    refine w_seq ?_
    refine w_run [0, 1, 0] ?_
    obtain ⟨len4, hl, h⟩ := h
    refine t_len true s10 len4 H (by kernel_rfl) hl ?_
    refine t_done [s10, s21, (.bool false), (.bool (((len2 : Int)) != (len3 : Int))), (.int .i64 0), (.int .i64 (len4 : Int)), .undef, .undef, .undef] H (by kernel_rfl) ?_
    refine then_norm ?_
    refine w_block ?_
    obtain ⟨J5, k6, h0, h⟩ := h
    refine w_loop (I := fun mI EI HI => ∃ (d8 : AV) (v9 : Int) (d10 : AV) (d11 : AV) (d12 : AV), EI = [s10, s21, d8, (.bool (((len2 : Int)) != (len3 : Int))), (.int .i64 v9), (.int .i64 (len4 : Int)), d10, d11, d12] ∧ H = HI ∧ J5 mI v9) ?_ k6 ⟨_, _, _, _, _, rfl, rfl, h0⟩
    clear h0
    rintro m7 EI HI ⟨d8, v9, d10, d11, d12, rfl, rfl, hJ⟩
    replace h := h m7 v9  hJ
    clear hJ
    refine w_seq ?_
    refine w_run [0] ?_
    refine t_done [s10, s21, d8, (.bool (((len2 : Int)) != (len3 : Int))), (.int .i64 v9), (.int .i64 (len4 : Int)), (.bool (decide (v9 < (len4 : Int)))), d11, d12] H (by kernel_rfl) ?_
    refine then_norm ?_
    refine w_seq ?_
    refine w_cond (t := (decide (v9 < (len4 : Int)))) rfl (fun hc => ?_) (fun hc => ?_)
    · replace h := h.1 (is_dec.t hc)
      refine w_skip ?_
      refine then_norm ?_
      refine w_seq ?_
      refine w_block ?_
      refine w_seq ?_
      refine w_run [0, 0] ?_
      refine t_done [s10, s21, d8, (.bool (((len2 : Int)) != (len3 : Int))), (.int .i64 v9), (.int .i64 (len4 : Int)), (.bool (decide (v9 < (len4 : Int)))), (.int .i64 v9), d12] H (by kernel_rfl) ?_
      refine then_norm ?_
      refine w_seq ?_
      refine w_run [0, 0, 1, 1, 0, 0, 1, 1, 0] ?_
      obtain ⟨e13, hg14, h⟩ := h
      refine t_idxG false 1 s10 .i64 v9 H (by kernel_rfl) hg14 ?_
      refine t_loadG false none 1 s10 v9 0 (.int .i64 e13) H (by kernel_rfl) hg14 ?_
      obtain ⟨e15, hg16, h⟩ := h
      refine t_idxG false 1 s21 .i64 v9 H (by kernel_rfl) hg16 ?_
      refine t_loadG false none 1 s21 v9 0 (.int .i64 e15) H (by kernel_rfl) hg16 ?_
      refine t_done [s10, s21, d8, (.bool (((len2 : Int)) != (len3 : Int))), (.int .i64 v9), (.int .i64 (len4 : Int)), (.bool (decide (v9 < (len4 : Int)))), (.int .i64 v9), (.bool ((e13) != e15))] H (by kernel_rfl) ?_
      refine then_norm ?_
      refine w_cond (t := ((e13) != e15)) rfl (fun hc => ?_) (fun hc => ?_)
      · replace h := h.1 (is_ne.t hc)
        refine w_seq ?_
        refine w_run [0] ?_
        refine t_done [s10, s21, (.bool false), (.bool (((len2 : Int)) != (len3 : Int))), (.int .i64 v9), (.int .i64 (len4 : Int)), (.bool (decide (v9 < (len4 : Int)))), (.int .i64 v9), (.bool ((e13) != e15))] H (by kernel_rfl) ?_
        refine then_norm ?_
        refine w_ret ?_
        refine block_ret ?_
        refine then_ret ?_
        refine loop_ret ?_
        refine block_ret ?_
        refine then_ret ?_
        exact body_ret (vs := [(.bool false)]) _ (by kernel_rfl) rfl h
      · replace h := h.2 (is_ne.f hc)
        refine w_skip ?_
        refine block_norm ?_
        refine then_norm ?_
        refine w_run [0, 0] ?_
        refine t_done [s10, s21, d8, (.bool (((len2 : Int)) != (len3 : Int))), (.int .i64 (IntKind.wrap .i64 (v9 + 1))), (.int .i64 (len4 : Int)), (.bool (decide (v9 < (len4 : Int)))), (.int .i64 v9), (.bool ((e13) != e15))] H (by kernel_rfl) ?_
        obtain ⟨m', hm, h⟩ := h
        refine loop_norm ⟨m', hm, _, _, _, _, _, rfl, rfl, h⟩
    · replace h := h.2 (is_dec.f hc)
      refine w_exit ?_
      refine then_exit ?_
      refine loop_exit ?_
      refine block_exit ?_
      refine then_norm ?_
      refine w_seq ?_
      refine w_run [0] ?_
      refine t_done [s10, s21, (.bool true), (.bool (((len2 : Int)) != (len3 : Int))), (.int .i64 v9), (.int .i64 (len4 : Int)), (.bool (decide (v9 < (len4 : Int)))), d11, d12] H (by kernel_rfl) ?_
      refine then_norm ?_
      refine w_ret ?_
      exact body_ret (vs := [(.bool true)]) _ (by kernel_rfl) rfl h

end Go.RM

