import Derived.Test.YtlcoalimkpjjpaaRmVc
/-
  Functions of the program as the abstract machine runs them, and what must be shown of a run: printed by RmPrint.
-/
namespace Go.RM
set_option linter.unusedVariables false
set_option maxRecDepth 4000
def rf_canary_Decide (ncanary_two ncanary_tail : Nat) : RFunc := ⟨4, 15, [.var 4, .part 5 (some 2)],
 ((.seq (.ops [⟨.tomb 1 (.var 0), none, (some 6), true⟩, ⟨.tomb 1 (.var 1), none, (some 7), true⟩, ⟨.move (.k (.int .i64 0)), none, (some 4), true⟩, ⟨.tomb 1 (.k (.agg [.int .i64 0, .int .i64 0])), none, (some 5), true⟩])
 ((.seq (.ops [⟨.field 0 (some 2) (.var 6), none, none, true⟩, ⟨.field 0 (some 2) (.var 7), none, none, true⟩, ⟨.callS ncanary_two [(.loc 0), (.loc 1)], none, none, true⟩, ⟨.tomb 1 (.k (.agg [.int .i64 0, .int .i64 0])), none, (some 8), true⟩, ⟨.upd 2 0 (.loc 3) (.loc 2), none, (some 8), true⟩])
 ((.seq ((.seq (.ops [⟨.field 0 (some 2) (.var 8), none, none, true⟩, ⟨.build [.int .i64 0, .int .i64 0] [], none, none, true⟩, ⟨.bin .eql (.agg [.int, .int]) (.loc 0) (.loc 1), none, none, true⟩, ⟨.move (.loc 2), none, none, true⟩, ⟨.move (.var 2), none, none, true⟩, ⟨.bin .lss .no (.loc 4) (.k (.int .i64 0)), none, none, true⟩, ⟨.move (.loc 5), none, none, true⟩, ⟨.move (.var 2), none, none, true⟩, ⟨.bin .gtr .no (.loc 7) (.k (.int .i64 25)), none, none, true⟩, ⟨.pick (.loc 6) (.k (.bool true)) (.loc 8), none, none, true⟩, ⟨.move (.loc 9), none, none, true⟩, ⟨.move (.var 3), none, none, true⟩, ⟨.bin .lss .no (.loc 11) (.k (.int .i64 0)), none, none, true⟩, ⟨.pick (.loc 10) (.k (.bool true)) (.loc 12), none, none, true⟩, ⟨.move (.loc 13), none, none, true⟩, ⟨.move (.var 3), none, none, true⟩, ⟨.bin .geq .no (.loc 15) (.k (.int .i64 1000)), none, none, true⟩, ⟨.pick (.loc 14) (.k (.bool true)) (.loc 16), none, none, true⟩, ⟨.pick (.loc 3) (.loc 17) (.k (.bool false)), none, (some 9), true⟩])
 (.cond (.var 9) (.ops [⟨.build [.int .i64 0, .int .i64 0] [(0, 1, (.k (.int .i64 3))), (1, 1, (.k (.int .i64 (-3))))], none, none, true⟩, ⟨.upd 2 0 (.var 8) (.loc 0), none, (some 8), true⟩]) (.skip))))
 ((.seq ((.seq (.ops [⟨.field 0 (some 2) (.var 8), none, none, true⟩, ⟨.build [.int .i64 0, .int .i64 0] [], none, none, true⟩, ⟨.bin .neq (.agg [.int, .int]) (.loc 0) (.loc 1), none, (some 10), true⟩])
 (.cond (.var 10) ((.seq (.ops [⟨.field 0 (some 2) (.var 8), none, none, true⟩, ⟨.move (.k (.int .i64 0)), none, (some 4), false⟩, ⟨.upd 2 0 (.var 5) (.loc 0), none, (some 5), true⟩])
 (.ret))) (.skip))))
 ((.seq ((.seq (.ops [⟨.field 0 (some 2) (.var 6), none, none, true⟩, ⟨.field 0 (some 2) (.var 7), none, none, true⟩, ⟨.callS ncanary_tail [(.loc 0), (.loc 1)], none, none, true⟩, ⟨.move (.loc 2), none, none, true⟩, ⟨.extract (.loc 3) 0, none, none, true⟩, ⟨.extract (.loc 3) 1, none, none, true⟩, ⟨.move (.loc 4), none, (some 11), true⟩, ⟨.move (.loc 5), none, (some 12), true⟩])
 (.block 0 ((.seq (.ops [⟨.move (.var 11), none, none, true⟩, ⟨.bin .mul .no (.loc 0) (.k (.int .i64 1000)), none, none, true⟩, ⟨.move (.var 12), none, none, true⟩, ⟨.move (.var 3), none, none, true⟩, ⟨.bin .mul .no (.loc 2) (.loc 3), none, none, true⟩, ⟨.bin .leq .no (.loc 1) (.loc 4), none, none, true⟩, ⟨.move (.loc 5), none, (some 13), true⟩])
 (.cond (.var 13) ((.seq (.ops [⟨.field 0 (some 2) (.var 8), none, none, true⟩, ⟨.move (.k (.int .i64 3)), none, (some 4), false⟩, ⟨.upd 2 0 (.var 5) (.loc 0), none, (some 5), true⟩])
 (.ret))) ((.seq (.ops [⟨.field 0 none (.var 7), none, none, true⟩, ⟨.field 0 none (.var 7), none, none, true⟩, ⟨.field 0 none (.var 7), none, none, true⟩, ⟨.field 1 none (.var 7), none, none, true⟩, ⟨.bin .add .no (.loc 1) (.loc 3), none, none, true⟩, ⟨.move (.var 2), none, none, true⟩, ⟨.bin .lss .no (.loc 4) (.loc 5), none, none, true⟩, ⟨.move (.loc 6), none, (some 14), true⟩])
 (.cond (.var 14) ((.seq (.ops [⟨.field 0 (some 2) (.var 8), none, none, true⟩, ⟨.move (.k (.int .i64 1)), none, (some 4), false⟩, ⟨.upd 2 0 (.var 5) (.loc 0), none, (some 5), true⟩])
 (.ret))) (.skip))))))))))
 ((.seq (.ops [⟨.field 0 (some 2) (.var 8), none, none, true⟩, ⟨.move (.k (.int .i64 2)), none, (some 4), false⟩, ⟨.upd 2 0 (.var 5) (.loc 0), none, (some 5), true⟩])
 (.ret)))))))))))))⟩
theorem v_canary_Decide {F : Nat → Option RFunc} {me ncanary_two ncanary_tail : Nat} (hF : F me = some (rf_canary_Decide ncanary_two ncanary_tail)) {fl : Nat} {H : Heap} {Q : AV → Heap → Prop} (base0 : Int) (base1 : Int) (canary2 : Int) (canary3 : Int) (need4 : Int) (perMille5 : Int)
  (h : ∀ (H6 : Heap), Dead1 H 1 H6 → ∀ (H7 : Heap), Dead1 H6 1 H7 → ∀ (H8 : Heap), Dead1 H7 1 H8 → Ret F fl ncanary_two [(.agg [(.int .i64 base0), (.int .i64 base1)]), (.agg [(.int .i64 canary2), (.int .i64 canary3)])] H8 (fun v12 H11 => ∃ (r9 : Int) (r10 : Int), v12 = (.agg [(.int .i64 r9), (.int .i64 r10)]) ∧ ∀ (H13 : Heap), Dead1 H11 1 H13 → ((((((r9 = 0) ∧ (((r10 = 0) ∧ (True))))) ∧ (((((((need4 < 0) ∨ (need4 > 25))) ∨ (perMille5 < 0))) ∨ (perMille5 ≥ 1000))))) → ((¬((((3 : Int) = 0) ∧ (((((-3) : Int) = 0) ∧ (True)))))) → Q (.tuple [(.int .i64 0), (.agg [(.int .i64 3), (.int .i64 (-3))])]) H13) ∧ (¬(¬((((3 : Int) = 0) ∧ (((((-3) : Int) = 0) ∧ (True)))))) → Ret F fl ncanary_tail [(.agg [(.int .i64 base0), (.int .i64 base1)]), (.agg [(.int .i64 canary2), (.int .i64 canary3)])] H13 (fun v17 H16 => ∃ (r14 : Int) (r15 : Int), v17 = (.tuple [(.int .i64 r14), (.int .i64 r15)]) ∧ (((IntKind.wrap .i64 (r14 * 1000)) ≤ (IntKind.wrap .i64 (r15 * perMille5))) → Q (.tuple [(.int .i64 3), (.agg [(.int .i64 3), (.int .i64 (-3))])]) H16) ∧ (¬((IntKind.wrap .i64 (r14 * 1000)) ≤ (IntKind.wrap .i64 (r15 * perMille5))) → (((IntKind.wrap .i64 (canary2 + canary3)) < need4) → Q (.tuple [(.int .i64 1), (.agg [(.int .i64 3), (.int .i64 (-3))])]) H16) ∧ (¬((IntKind.wrap .i64 (canary2 + canary3)) < need4) → Q (.tuple [(.int .i64 2), (.agg [(.int .i64 3), (.int .i64 (-3))])]) H16))))) ∧ (¬(((((r9 = 0) ∧ (((r10 = 0) ∧ (True))))) ∧ (((((((need4 < 0) ∨ (need4 > 25))) ∨ (perMille5 < 0))) ∨ (perMille5 ≥ 1000))))) → ((¬(((r9 = 0) ∧ (((r10 = 0) ∧ (True)))))) → Q (.tuple [(.int .i64 0), (.agg [(.int .i64 r9), (.int .i64 r10)])]) H13) ∧ (¬(¬(((r9 = 0) ∧ (((r10 = 0) ∧ (True)))))) → Ret F fl ncanary_tail [(.agg [(.int .i64 base0), (.int .i64 base1)]), (.agg [(.int .i64 canary2), (.int .i64 canary3)])] H13 (fun v21 H20 => ∃ (r18 : Int) (r19 : Int), v21 = (.tuple [(.int .i64 r18), (.int .i64 r19)]) ∧ (((IntKind.wrap .i64 (r18 * 1000)) ≤ (IntKind.wrap .i64 (r19 * perMille5))) → Q (.tuple [(.int .i64 3), (.agg [(.int .i64 r9), (.int .i64 r10)])]) H20) ∧ (¬((IntKind.wrap .i64 (r18 * 1000)) ≤ (IntKind.wrap .i64 (r19 * perMille5))) → (((IntKind.wrap .i64 (canary2 + canary3)) < need4) → Q (.tuple [(.int .i64 1), (.agg [(.int .i64 r9), (.int .i64 r10)])]) H20) ∧ (¬((IntKind.wrap .i64 (canary2 + canary3)) < need4) → Q (.tuple [(.int .i64 2), (.agg [(.int .i64 r9), (.int .i64 r10)])]) H20))))))) : Ret F fl me [(.agg [(.int .i64 base0), (.int .i64 base1)]), (.agg [(.int .i64 canary2), (.int .i64 canary3)]), (.int .i64 need4), (.int .i64 perMille5)] H Q := by
  refine ret_intro hF rfl ?_
  refine w_seq ?_
  refine w_run [1, 1, 0, 1] ?_
  obtain ⟨H6, hb⟩ : ∃ H', Dead1 H 1 H' := ⟨_, ⟨rfl⟩⟩
  replace h := h H6 hb
  refine t_tomb true 1 (.agg [(.int .i64 base0), (.int .i64 base1)]) [(.int .i64 base0), (.int .i64 base1)] H6 H (by kernel_rfl) rfl hb ?_
  obtain ⟨H7, hb⟩ : ∃ H', Dead1 H6 1 H' := ⟨_, ⟨rfl⟩⟩
  replace h := h H7 hb
  refine t_tomb true 1 (.agg [(.int .i64 canary2), (.int .i64 canary3)]) [(.int .i64 canary2), (.int .i64 canary3)] H7 H6 (by kernel_rfl) rfl hb ?_
  obtain ⟨H8, hb⟩ : ∃ H', Dead1 H7 1 H' := ⟨_, ⟨rfl⟩⟩
  replace h := h H8 hb
  refine t_tomb true 1 (.agg [(.int .i64 0), (.int .i64 0)]) [(.int .i64 0), (.int .i64 0)] H8 H7 (by kernel_rfl) rfl hb ?_
  refine t_done [(.agg [(.int .i64 base0), (.int .i64 base1)]), (.agg [(.int .i64 canary2), (.int .i64 canary3)]), (.int .i64 need4), (.int .i64 perMille5), (.int .i64 0), (.agg [(.int .i64 0), (.int .i64 0)]), (.agg [(.int .i64 base0), (.int .i64 base1)]), (.agg [(.int .i64 canary2), (.int .i64 canary3)]), .undef, .undef, .undef, .undef, .undef, .undef, .undef] H8 (by kernel_rfl) ?_
  refine then_norm ?_
  refine w_seq ?_
  refine w_run [0, 0, 1, 1, 1] ?_
  refine t_call true ncanary_two [(.agg [(.int .i64 base0), (.int .i64 base1)]), (.agg [(.int .i64 canary2), (.int .i64 canary3)])] H8 (by kernel_rfl) h ?_
  clear h
  rintro _ H11 ⟨r9, r10, rfl, h⟩
  obtain ⟨H13, hb⟩ : ∃ H', Dead1 H11 1 H' := ⟨_, ⟨rfl⟩⟩
  replace h := h H13 hb
  refine t_tomb true 1 (.agg [(.int .i64 0), (.int .i64 0)]) [(.int .i64 0), (.int .i64 0)] H13 H11 (by kernel_rfl) rfl hb ?_
  refine t_upd true 2 0 [(.int .i64 0), (.int .i64 0)] (.agg [(.int .i64 r9), (.int .i64 r10)]) [(.int .i64 r9), (.int .i64 r10)] [(.int .i64 r9), (.int .i64 r10)] H13 (by kernel_rfl) rfl (all_c rfl (all_c rfl all_n)) ⟨rfl, Nat.le_of_ble_eq_true (by kernel_rfl), rfl⟩ ?_
  refine t_done [(.agg [(.int .i64 base0), (.int .i64 base1)]), (.agg [(.int .i64 canary2), (.int .i64 canary3)]), (.int .i64 need4), (.int .i64 perMille5), (.int .i64 0), (.agg [(.int .i64 0), (.int .i64 0)]), (.agg [(.int .i64 base0), (.int .i64 base1)]), (.agg [(.int .i64 canary2), (.int .i64 canary3)]), (.agg [(.int .i64 r9), (.int .i64 r10)]), .undef, .undef, .undef, .undef, .undef, .undef] H13 (by kernel_rfl) ?_
  refine then_norm ?_
  refine w_seq ?_
  refine w_seq ?_
  refine w_run [0, 1, 0, 0, 0, 0, 0, 0, 0, 0, 0, 0, 0, 0, 0, 0, 0, 0, 0] ?_
  refine t_build true [(.int .i64 0), (.int .i64 0)] [] [] [(.int .i64 0), (.int .i64 0)] H13 (by kernel_rfl) (by kernel_rfl) ?_
  refine t_done [(.agg [(.int .i64 base0), (.int .i64 base1)]), (.agg [(.int .i64 canary2), (.int .i64 canary3)]), (.int .i64 need4), (.int .i64 perMille5), (.int .i64 0), (.agg [(.int .i64 0), (.int .i64 0)]), (.agg [(.int .i64 base0), (.int .i64 base1)]), (.agg [(.int .i64 canary2), (.int .i64 canary3)]), (.agg [(.int .i64 r9), (.int .i64 r10)]), (.bool ((((r9) == 0) && (((r10) == 0) && true)) && ((((decide (need4 < 0)) || (decide (need4 > 25))) || (decide (perMille5 < 0))) || (decide (perMille5 ≥ 1000))))), .undef, .undef, .undef, .undef, .undef] H13 (by kernel_rfl) ?_
  refine then_norm ?_
  refine w_cond (t := ((((r9) == 0) && (((r10) == 0) && true)) && ((((decide (need4 < 0)) || (decide (need4 > 25))) || (decide (perMille5 < 0))) || (decide (perMille5 ≥ 1000))))) rfl (fun hc => ?_) (fun hc => ?_)
  · replace h := h.1 ((is_and (is_and is_eq (is_and is_eq is_true)) (is_or (is_or (is_or is_dec is_dec) is_dec) is_dec)).t hc)
    refine w_run [1, 1] ?_
    refine t_build true [(.int .i64 0), (.int .i64 0)] [(0, 1, .loc 0), (1, 1, .loc 1)] [(.int .i64 3), (.int .i64 (-3))] [(.int .i64 3), (.int .i64 (-3))] H13 (by kernel_rfl) (fill_c (vs := [(.int .i64 3)]) (size := 1) rfl (by kernel_rfl) (by kernel_rfl) (fill_c (vs := [(.int .i64 (-3))]) (size := 1) rfl (by kernel_rfl) (by kernel_rfl) (by kernel_rfl))) ?_
    refine t_upd true 2 0 [(.int .i64 r9), (.int .i64 r10)] (.agg [(.int .i64 3), (.int .i64 (-3))]) [(.int .i64 3), (.int .i64 (-3))] [(.int .i64 3), (.int .i64 (-3))] H13 (by kernel_rfl) rfl (all_c rfl (all_c rfl all_n)) ⟨rfl, Nat.le_of_ble_eq_true (by kernel_rfl), rfl⟩ ?_
    refine t_done [(.agg [(.int .i64 base0), (.int .i64 base1)]), (.agg [(.int .i64 canary2), (.int .i64 canary3)]), (.int .i64 need4), (.int .i64 perMille5), (.int .i64 0), (.agg [(.int .i64 0), (.int .i64 0)]), (.agg [(.int .i64 base0), (.int .i64 base1)]), (.agg [(.int .i64 canary2), (.int .i64 canary3)]), (.agg [(.int .i64 3), (.int .i64 (-3))]), (.bool ((((r9) == 0) && (((r10) == 0) && true)) && ((((decide (need4 < 0)) || (decide (need4 > 25))) || (decide (perMille5 < 0))) || (decide (perMille5 ≥ 1000))))), .undef, .undef, .undef, .undef, .undef] H13 (by kernel_rfl) ?_
    refine then_norm ?_
    refine w_seq ?_
    refine w_seq ?_
    refine w_run [0, 1, 0] ?_
    refine t_build true [(.int .i64 0), (.int .i64 0)] [] [] [(.int .i64 0), (.int .i64 0)] H13 (by kernel_rfl) (by kernel_rfl) ?_
    refine t_done [(.agg [(.int .i64 base0), (.int .i64 base1)]), (.agg [(.int .i64 canary2), (.int .i64 canary3)]), (.int .i64 need4), (.int .i64 perMille5), (.int .i64 0), (.agg [(.int .i64 0), (.int .i64 0)]), (.agg [(.int .i64 base0), (.int .i64 base1)]), (.agg [(.int .i64 canary2), (.int .i64 canary3)]), (.agg [(.int .i64 3), (.int .i64 (-3))]), (.bool ((((r9) == 0) && (((r10) == 0) && true)) && ((((decide (need4 < 0)) || (decide (need4 > 25))) || (decide (perMille5 < 0))) || (decide (perMille5 ≥ 1000))))), (.bool (!((((3 : Int)) == 0) && (((((-3) : Int)) == 0) && true)))), .undef, .undef, .undef, .undef] H13 (by kernel_rfl) ?_
    refine then_norm ?_
    refine w_cond (t := (!((((3 : Int)) == 0) && (((((-3) : Int)) == 0) && true)))) rfl (fun hc => ?_) (fun hc => ?_)
    · replace h := h.1 ((is_not (is_and is_eq (is_and is_eq is_true))).t hc)
      refine w_seq ?_
      refine w_run [0, 0, 1] ?_
      refine t_upd true 2 0 [(.int .i64 0), (.int .i64 0)] (.agg [(.int .i64 3), (.int .i64 (-3))]) [(.int .i64 3), (.int .i64 (-3))] [(.int .i64 3), (.int .i64 (-3))] H13 (by kernel_rfl) rfl (all_c rfl (all_c rfl all_n)) ⟨rfl, Nat.le_of_ble_eq_true (by kernel_rfl), rfl⟩ ?_
      refine t_done [(.agg [(.int .i64 base0), (.int .i64 base1)]), (.agg [(.int .i64 canary2), (.int .i64 canary3)]), (.int .i64 need4), (.int .i64 perMille5), (.int .i64 0), (.agg [(.int .i64 3), (.int .i64 (-3))]), (.agg [(.int .i64 base0), (.int .i64 base1)]), (.agg [(.int .i64 canary2), (.int .i64 canary3)]), (.agg [(.int .i64 3), (.int .i64 (-3))]), (.bool ((((r9) == 0) && (((r10) == 0) && true)) && ((((decide (need4 < 0)) || (decide (need4 > 25))) || (decide (perMille5 < 0))) || (decide (perMille5 ≥ 1000))))), (.bool (!((((3 : Int)) == 0) && (((((-3) : Int)) == 0) && true)))), .undef, .undef, .undef, .undef] H13 (by kernel_rfl) ?_
      refine then_norm ?_
      refine w_ret ?_
      refine then_ret ?_
      exact body_ret (vs := [(.int .i64 0), (.agg [(.int .i64 3), (.int .i64 (-3))])]) _ (by kernel_rfl) rfl h
    · replace h := h.2 ((is_not (is_and is_eq (is_and is_eq is_true))).f hc)
      refine w_skip ?_
      refine then_norm ?_
      refine w_seq ?_
      refine w_seq ?_
      refine w_run [0, 0, 1, 0, 0, 0, 0, 0] ?_
      refine t_call true ncanary_tail [(.agg [(.int .i64 base0), (.int .i64 base1)]), (.agg [(.int .i64 canary2), (.int .i64 canary3)])] H13 (by kernel_rfl) h ?_
      clear h
      rintro _ H16 ⟨r14, r15, rfl, h⟩
      refine t_done [(.agg [(.int .i64 base0), (.int .i64 base1)]), (.agg [(.int .i64 canary2), (.int .i64 canary3)]), (.int .i64 need4), (.int .i64 perMille5), (.int .i64 0), (.agg [(.int .i64 0), (.int .i64 0)]), (.agg [(.int .i64 base0), (.int .i64 base1)]), (.agg [(.int .i64 canary2), (.int .i64 canary3)]), (.agg [(.int .i64 3), (.int .i64 (-3))]), (.bool ((((r9) == 0) && (((r10) == 0) && true)) && ((((decide (need4 < 0)) || (decide (need4 > 25))) || (decide (perMille5 < 0))) || (decide (perMille5 ≥ 1000))))), (.bool (!((((3 : Int)) == 0) && (((((-3) : Int)) == 0) && true)))), (.int .i64 r14), (.int .i64 r15), .undef, .undef] H16 (by kernel_rfl) ?_
      refine then_norm ?_
      refine w_block ?_
      refine w_seq ?_
      refine w_run [0, 0, 0, 0, 0, 0, 0] ?_
      refine t_done [(.agg [(.int .i64 base0), (.int .i64 base1)]), (.agg [(.int .i64 canary2), (.int .i64 canary3)]), (.int .i64 need4), (.int .i64 perMille5), (.int .i64 0), (.agg [(.int .i64 0), (.int .i64 0)]), (.agg [(.int .i64 base0), (.int .i64 base1)]), (.agg [(.int .i64 canary2), (.int .i64 canary3)]), (.agg [(.int .i64 3), (.int .i64 (-3))]), (.bool ((((r9) == 0) && (((r10) == 0) && true)) && ((((decide (need4 < 0)) || (decide (need4 > 25))) || (decide (perMille5 < 0))) || (decide (perMille5 ≥ 1000))))), (.bool (!((((3 : Int)) == 0) && (((((-3) : Int)) == 0) && true)))), (.int .i64 r14), (.int .i64 r15), (.bool (decide ((IntKind.wrap .i64 (r14 * 1000)) ≤ (IntKind.wrap .i64 (r15 * perMille5))))), .undef] H16 (by kernel_rfl) ?_
      refine then_norm ?_
      refine w_cond (t := (decide ((IntKind.wrap .i64 (r14 * 1000)) ≤ (IntKind.wrap .i64 (r15 * perMille5))))) rfl (fun hc => ?_) (fun hc => ?_)
      · replace h := h.1 (is_dec.t hc)
        refine w_seq ?_
        refine w_run [0, 0, 1] ?_
        refine t_upd true 2 0 [(.int .i64 0), (.int .i64 0)] (.agg [(.int .i64 3), (.int .i64 (-3))]) [(.int .i64 3), (.int .i64 (-3))] [(.int .i64 3), (.int .i64 (-3))] H16 (by kernel_rfl) rfl (all_c rfl (all_c rfl all_n)) ⟨rfl, Nat.le_of_ble_eq_true (by kernel_rfl), rfl⟩ ?_
        refine t_done [(.agg [(.int .i64 base0), (.int .i64 base1)]), (.agg [(.int .i64 canary2), (.int .i64 canary3)]), (.int .i64 need4), (.int .i64 perMille5), (.int .i64 3), (.agg [(.int .i64 3), (.int .i64 (-3))]), (.agg [(.int .i64 base0), (.int .i64 base1)]), (.agg [(.int .i64 canary2), (.int .i64 canary3)]), (.agg [(.int .i64 3), (.int .i64 (-3))]), (.bool ((((r9) == 0) && (((r10) == 0) && true)) && ((((decide (need4 < 0)) || (decide (need4 > 25))) || (decide (perMille5 < 0))) || (decide (perMille5 ≥ 1000))))), (.bool (!((((3 : Int)) == 0) && (((((-3) : Int)) == 0) && true)))), (.int .i64 r14), (.int .i64 r15), (.bool (decide ((IntKind.wrap .i64 (r14 * 1000)) ≤ (IntKind.wrap .i64 (r15 * perMille5))))), .undef] H16 (by kernel_rfl) ?_
        refine then_norm ?_
        refine w_ret ?_
        refine block_ret ?_
        refine then_ret ?_
        exact body_ret (vs := [(.int .i64 3), (.agg [(.int .i64 3), (.int .i64 (-3))])]) _ (by kernel_rfl) rfl h
      · replace h := h.2 (is_dec.f hc)
        refine w_seq ?_
        refine w_run [0, 0, 0, 0, 0, 0, 0, 0] ?_
        refine t_done [(.agg [(.int .i64 base0), (.int .i64 base1)]), (.agg [(.int .i64 canary2), (.int .i64 canary3)]), (.int .i64 need4), (.int .i64 perMille5), (.int .i64 0), (.agg [(.int .i64 0), (.int .i64 0)]), (.agg [(.int .i64 base0), (.int .i64 base1)]), (.agg [(.int .i64 canary2), (.int .i64 canary3)]), (.agg [(.int .i64 3), (.int .i64 (-3))]), (.bool ((((r9) == 0) && (((r10) == 0) && true)) && ((((decide (need4 < 0)) || (decide (need4 > 25))) || (decide (perMille5 < 0))) || (decide (perMille5 ≥ 1000))))), (.bool (!((((3 : Int)) == 0) && (((((-3) : Int)) == 0) && true)))), (.int .i64 r14), (.int .i64 r15), (.bool (decide ((IntKind.wrap .i64 (r14 * 1000)) ≤ (IntKind.wrap .i64 (r15 * perMille5))))), (.bool (decide ((IntKind.wrap .i64 (canary2 + canary3)) < need4)))] H16 (by kernel_rfl) ?_
        refine then_norm ?_
        refine w_cond (t := (decide ((IntKind.wrap .i64 (canary2 + canary3)) < need4))) rfl (fun hc => ?_) (fun hc => ?_)
        · replace h := h.1 (is_dec.t hc)
          refine w_seq ?_
          refine w_run [0, 0, 1] ?_
          refine t_upd true 2 0 [(.int .i64 0), (.int .i64 0)] (.agg [(.int .i64 3), (.int .i64 (-3))]) [(.int .i64 3), (.int .i64 (-3))] [(.int .i64 3), (.int .i64 (-3))] H16 (by kernel_rfl) rfl (all_c rfl (all_c rfl all_n)) ⟨rfl, Nat.le_of_ble_eq_true (by kernel_rfl), rfl⟩ ?_
          refine t_done [(.agg [(.int .i64 base0), (.int .i64 base1)]), (.agg [(.int .i64 canary2), (.int .i64 canary3)]), (.int .i64 need4), (.int .i64 perMille5), (.int .i64 1), (.agg [(.int .i64 3), (.int .i64 (-3))]), (.agg [(.int .i64 base0), (.int .i64 base1)]), (.agg [(.int .i64 canary2), (.int .i64 canary3)]), (.agg [(.int .i64 3), (.int .i64 (-3))]), (.bool ((((r9) == 0) && (((r10) == 0) && true)) && ((((decide (need4 < 0)) || (decide (need4 > 25))) || (decide (perMille5 < 0))) || (decide (perMille5 ≥ 1000))))), (.bool (!((((3 : Int)) == 0) && (((((-3) : Int)) == 0) && true)))), (.int .i64 r14), (.int .i64 r15), (.bool (decide ((IntKind.wrap .i64 (r14 * 1000)) ≤ (IntKind.wrap .i64 (r15 * perMille5))))), (.bool (decide ((IntKind.wrap .i64 (canary2 + canary3)) < need4)))] H16 (by kernel_rfl) ?_
          refine then_norm ?_
          refine w_ret ?_
          refine block_ret ?_
          refine then_ret ?_
          exact body_ret (vs := [(.int .i64 1), (.agg [(.int .i64 3), (.int .i64 (-3))])]) _ (by kernel_rfl) rfl h
        · replace h := h.2 (is_dec.f hc)
          refine w_skip ?_
          refine block_norm ?_
          refine then_norm ?_
          refine w_seq ?_
          refine w_run [0, 0, 1] ?_
          refine t_upd true 2 0 [(.int .i64 0), (.int .i64 0)] (.agg [(.int .i64 3), (.int .i64 (-3))]) [(.int .i64 3), (.int .i64 (-3))] [(.int .i64 3), (.int .i64 (-3))] H16 (by kernel_rfl) rfl (all_c rfl (all_c rfl all_n)) ⟨rfl, Nat.le_of_ble_eq_true (by kernel_rfl), rfl⟩ ?_
          refine t_done [(.agg [(.int .i64 base0), (.int .i64 base1)]), (.agg [(.int .i64 canary2), (.int .i64 canary3)]), (.int .i64 need4), (.int .i64 perMille5), (.int .i64 2), (.agg [(.int .i64 3), (.int .i64 (-3))]), (.agg [(.int .i64 base0), (.int .i64 base1)]), (.agg [(.int .i64 canary2), (.int .i64 canary3)]), (.agg [(.int .i64 3), (.int .i64 (-3))]), (.bool ((((r9) == 0) && (((r10) == 0) && true)) && ((((decide (need4 < 0)) || (decide (need4 > 25))) || (decide (perMille5 < 0))) || (decide (perMille5 ≥ 1000))))), (.bool (!((((3 : Int)) == 0) && (((((-3) : Int)) == 0) && true)))), (.int .i64 r14), (.int .i64 r15), (.bool (decide ((IntKind.wrap .i64 (r14 * 1000)) ≤ (IntKind.wrap .i64 (r15 * perMille5))))), (.bool (decide ((IntKind.wrap .i64 (canary2 + canary3)) < need4)))] H16 (by kernel_rfl) ?_
          refine then_norm ?_
          refine w_ret ?_
          exact body_ret (vs := [(.int .i64 2), (.agg [(.int .i64 3), (.int .i64 (-3))])]) _ (by kernel_rfl) rfl h
  · replace h := h.2 ((is_and (is_and is_eq (is_and is_eq is_true)) (is_or (is_or (is_or is_dec is_dec) is_dec) is_dec)).f hc)
    refine w_skip ?_
    refine then_norm ?_
    refine w_seq ?_
    refine w_seq ?_
    refine w_run [0, 1, 0] ?_
    refine t_build true [(.int .i64 0), (.int .i64 0)] [] [] [(.int .i64 0), (.int .i64 0)] H13 (by kernel_rfl) (by kernel_rfl) ?_
    refine t_done [(.agg [(.int .i64 base0), (.int .i64 base1)]), (.agg [(.int .i64 canary2), (.int .i64 canary3)]), (.int .i64 need4), (.int .i64 perMille5), (.int .i64 0), (.agg [(.int .i64 0), (.int .i64 0)]), (.agg [(.int .i64 base0), (.int .i64 base1)]), (.agg [(.int .i64 canary2), (.int .i64 canary3)]), (.agg [(.int .i64 r9), (.int .i64 r10)]), (.bool ((((r9) == 0) && (((r10) == 0) && true)) && ((((decide (need4 < 0)) || (decide (need4 > 25))) || (decide (perMille5 < 0))) || (decide (perMille5 ≥ 1000))))), (.bool (!(((r9) == 0) && (((r10) == 0) && true)))), .undef, .undef, .undef, .undef] H13 (by kernel_rfl) ?_
    refine then_norm ?_
    refine w_cond (t := (!(((r9) == 0) && (((r10) == 0) && true)))) rfl (fun hc => ?_) (fun hc => ?_)
    · replace h := h.1 ((is_not (is_and is_eq (is_and is_eq is_true))).t hc)
      refine w_seq ?_
      refine w_run [0, 0, 1] ?_
      refine t_upd true 2 0 [(.int .i64 0), (.int .i64 0)] (.agg [(.int .i64 r9), (.int .i64 r10)]) [(.int .i64 r9), (.int .i64 r10)] [(.int .i64 r9), (.int .i64 r10)] H13 (by kernel_rfl) rfl (all_c rfl (all_c rfl all_n)) ⟨rfl, Nat.le_of_ble_eq_true (by kernel_rfl), rfl⟩ ?_
      refine t_done [(.agg [(.int .i64 base0), (.int .i64 base1)]), (.agg [(.int .i64 canary2), (.int .i64 canary3)]), (.int .i64 need4), (.int .i64 perMille5), (.int .i64 0), (.agg [(.int .i64 r9), (.int .i64 r10)]), (.agg [(.int .i64 base0), (.int .i64 base1)]), (.agg [(.int .i64 canary2), (.int .i64 canary3)]), (.agg [(.int .i64 r9), (.int .i64 r10)]), (.bool ((((r9) == 0) && (((r10) == 0) && true)) && ((((decide (need4 < 0)) || (decide (need4 > 25))) || (decide (perMille5 < 0))) || (decide (perMille5 ≥ 1000))))), (.bool (!(((r9) == 0) && (((r10) == 0) && true)))), .undef, .undef, .undef, .undef] H13 (by kernel_rfl) ?_
      refine then_norm ?_
      refine w_ret ?_
      refine then_ret ?_
      exact body_ret (vs := [(.int .i64 0), (.agg [(.int .i64 r9), (.int .i64 r10)])]) _ (by kernel_rfl) rfl h
    · replace h := h.2 ((is_not (is_and is_eq (is_and is_eq is_true))).f hc)
      refine w_skip ?_
      refine then_norm ?_
      refine w_seq ?_
      refine w_seq ?_
      refine w_run [0, 0, 1, 0, 0, 0, 0, 0] ?_
      refine t_call true ncanary_tail [(.agg [(.int .i64 base0), (.int .i64 base1)]), (.agg [(.int .i64 canary2), (.int .i64 canary3)])] H13 (by kernel_rfl) h ?_
      clear h
      rintro _ H20 ⟨r18, r19, rfl, h⟩
      refine t_done [(.agg [(.int .i64 base0), (.int .i64 base1)]), (.agg [(.int .i64 canary2), (.int .i64 canary3)]), (.int .i64 need4), (.int .i64 perMille5), (.int .i64 0), (.agg [(.int .i64 0), (.int .i64 0)]), (.agg [(.int .i64 base0), (.int .i64 base1)]), (.agg [(.int .i64 canary2), (.int .i64 canary3)]), (.agg [(.int .i64 r9), (.int .i64 r10)]), (.bool ((((r9) == 0) && (((r10) == 0) && true)) && ((((decide (need4 < 0)) || (decide (need4 > 25))) || (decide (perMille5 < 0))) || (decide (perMille5 ≥ 1000))))), (.bool (!(((r9) == 0) && (((r10) == 0) && true)))), (.int .i64 r18), (.int .i64 r19), .undef, .undef] H20 (by kernel_rfl) ?_
      refine then_norm ?_
      refine w_block ?_
      refine w_seq ?_
      refine w_run [0, 0, 0, 0, 0, 0, 0] ?_
      refine t_done [(.agg [(.int .i64 base0), (.int .i64 base1)]), (.agg [(.int .i64 canary2), (.int .i64 canary3)]), (.int .i64 need4), (.int .i64 perMille5), (.int .i64 0), (.agg [(.int .i64 0), (.int .i64 0)]), (.agg [(.int .i64 base0), (.int .i64 base1)]), (.agg [(.int .i64 canary2), (.int .i64 canary3)]), (.agg [(.int .i64 r9), (.int .i64 r10)]), (.bool ((((r9) == 0) && (((r10) == 0) && true)) && ((((decide (need4 < 0)) || (decide (need4 > 25))) || (decide (perMille5 < 0))) || (decide (perMille5 ≥ 1000))))), (.bool (!(((r9) == 0) && (((r10) == 0) && true)))), (.int .i64 r18), (.int .i64 r19), (.bool (decide ((IntKind.wrap .i64 (r18 * 1000)) ≤ (IntKind.wrap .i64 (r19 * perMille5))))), .undef] H20 (by kernel_rfl) ?_
      refine then_norm ?_
      refine w_cond (t := (decide ((IntKind.wrap .i64 (r18 * 1000)) ≤ (IntKind.wrap .i64 (r19 * perMille5))))) rfl (fun hc => ?_) (fun hc => ?_)
      · replace h := h.1 (is_dec.t hc)
        refine w_seq ?_
        refine w_run [0, 0, 1] ?_
        refine t_upd true 2 0 [(.int .i64 0), (.int .i64 0)] (.agg [(.int .i64 r9), (.int .i64 r10)]) [(.int .i64 r9), (.int .i64 r10)] [(.int .i64 r9), (.int .i64 r10)] H20 (by kernel_rfl) rfl (all_c rfl (all_c rfl all_n)) ⟨rfl, Nat.le_of_ble_eq_true (by kernel_rfl), rfl⟩ ?_
        refine t_done [(.agg [(.int .i64 base0), (.int .i64 base1)]), (.agg [(.int .i64 canary2), (.int .i64 canary3)]), (.int .i64 need4), (.int .i64 perMille5), (.int .i64 3), (.agg [(.int .i64 r9), (.int .i64 r10)]), (.agg [(.int .i64 base0), (.int .i64 base1)]), (.agg [(.int .i64 canary2), (.int .i64 canary3)]), (.agg [(.int .i64 r9), (.int .i64 r10)]), (.bool ((((r9) == 0) && (((r10) == 0) && true)) && ((((decide (need4 < 0)) || (decide (need4 > 25))) || (decide (perMille5 < 0))) || (decide (perMille5 ≥ 1000))))), (.bool (!(((r9) == 0) && (((r10) == 0) && true)))), (.int .i64 r18), (.int .i64 r19), (.bool (decide ((IntKind.wrap .i64 (r18 * 1000)) ≤ (IntKind.wrap .i64 (r19 * perMille5))))), .undef] H20 (by kernel_rfl) ?_
        refine then_norm ?_
        refine w_ret ?_
        refine block_ret ?_
        refine then_ret ?_
        exact body_ret (vs := [(.int .i64 3), (.agg [(.int .i64 r9), (.int .i64 r10)])]) _ (by kernel_rfl) rfl h
      · replace h := h.2 (is_dec.f hc)
        refine w_seq ?_
        refine w_run [0, 0, 0, 0, 0, 0, 0, 0] ?_
        refine t_done [(.agg [(.int .i64 base0), (.int .i64 base1)]), (.agg [(.int .i64 canary2), (.int .i64 canary3)]), (.int .i64 need4), (.int .i64 perMille5), (.int .i64 0), (.agg [(.int .i64 0), (.int .i64 0)]), (.agg [(.int .i64 base0), (.int .i64 base1)]), (.agg [(.int .i64 canary2), (.int .i64 canary3)]), (.agg [(.int .i64 r9), (.int .i64 r10)]), (.bool ((((r9) == 0) && (((r10) == 0) && true)) && ((((decide (need4 < 0)) || (decide (need4 > 25))) || (decide (perMille5 < 0))) || (decide (perMille5 ≥ 1000))))), (.bool (!(((r9) == 0) && (((r10) == 0) && true)))), (.int .i64 r18), (.int .i64 r19), (.bool (decide ((IntKind.wrap .i64 (r18 * 1000)) ≤ (IntKind.wrap .i64 (r19 * perMille5))))), (.bool (decide ((IntKind.wrap .i64 (canary2 + canary3)) < need4)))] H20 (by kernel_rfl) ?_
        refine then_norm ?_
        refine w_cond (t := (decide ((IntKind.wrap .i64 (canary2 + canary3)) < need4))) rfl (fun hc => ?_) (fun hc => ?_)
        · replace h := h.1 (is_dec.t hc)
          refine w_seq ?_
          refine w_run [0, 0, 1] ?_
          refine t_upd true 2 0 [(.int .i64 0), (.int .i64 0)] (.agg [(.int .i64 r9), (.int .i64 r10)]) [(.int .i64 r9), (.int .i64 r10)] [(.int .i64 r9), (.int .i64 r10)] H20 (by kernel_rfl) rfl (all_c rfl (all_c rfl all_n)) ⟨rfl, Nat.le_of_ble_eq_true (by kernel_rfl), rfl⟩ ?_
          refine t_done [(.agg [(.int .i64 base0), (.int .i64 base1)]), (.agg [(.int .i64 canary2), (.int .i64 canary3)]), (.int .i64 need4), (.int .i64 perMille5), (.int .i64 1), (.agg [(.int .i64 r9), (.int .i64 r10)]), (.agg [(.int .i64 base0), (.int .i64 base1)]), (.agg [(.int .i64 canary2), (.int .i64 canary3)]), (.agg [(.int .i64 r9), (.int .i64 r10)]), (.bool ((((r9) == 0) && (((r10) == 0) && true)) && ((((decide (need4 < 0)) || (decide (need4 > 25))) || (decide (perMille5 < 0))) || (decide (perMille5 ≥ 1000))))), (.bool (!(((r9) == 0) && (((r10) == 0) && true)))), (.int .i64 r18), (.int .i64 r19), (.bool (decide ((IntKind.wrap .i64 (r18 * 1000)) ≤ (IntKind.wrap .i64 (r19 * perMille5))))), (.bool (decide ((IntKind.wrap .i64 (canary2 + canary3)) < need4)))] H20 (by kernel_rfl) ?_
          refine then_norm ?_
          refine w_ret ?_
          refine block_ret ?_
          refine then_ret ?_
          exact body_ret (vs := [(.int .i64 1), (.agg [(.int .i64 r9), (.int .i64 r10)])]) _ (by kernel_rfl) rfl h
        · replace h := h.2 (is_dec.f hc)
          refine w_skip ?_
          refine block_norm ?_
          refine then_norm ?_
          refine w_seq ?_
          refine w_run [0, 0, 1] ?_
          refine t_upd true 2 0 [(.int .i64 0), (.int .i64 0)] (.agg [(.int .i64 r9), (.int .i64 r10)]) [(.int .i64 r9), (.int .i64 r10)] [(.int .i64 r9), (.int .i64 r10)] H20 (by kernel_rfl) rfl (all_c rfl (all_c rfl all_n)) ⟨rfl, Nat.le_of_ble_eq_true (by kernel_rfl), rfl⟩ ?_
          refine t_done [(.agg [(.int .i64 base0), (.int .i64 base1)]), (.agg [(.int .i64 canary2), (.int .i64 canary3)]), (.int .i64 need4), (.int .i64 perMille5), (.int .i64 2), (.agg [(.int .i64 r9), (.int .i64 r10)]), (.agg [(.int .i64 base0), (.int .i64 base1)]), (.agg [(.int .i64 canary2), (.int .i64 canary3)]), (.agg [(.int .i64 r9), (.int .i64 r10)]), (.bool ((((r9) == 0) && (((r10) == 0) && true)) && ((((decide (need4 < 0)) || (decide (need4 > 25))) || (decide (perMille5 < 0))) || (decide (perMille5 ≥ 1000))))), (.bool (!(((r9) == 0) && (((r10) == 0) && true)))), (.int .i64 r18), (.int .i64 r19), (.bool (decide ((IntKind.wrap .i64 (r18 * 1000)) ≤ (IntKind.wrap .i64 (r19 * perMille5))))), (.bool (decide ((IntKind.wrap .i64 (canary2 + canary3)) < need4)))] H20 (by kernel_rfl) ?_
          refine then_norm ?_
          refine w_ret ?_
          exact body_ret (vs := [(.int .i64 2), (.agg [(.int .i64 r9), (.int .i64 r10)])]) _ (by kernel_rfl) rfl h

def rf_canary_Validate : RFunc := ⟨1, 4, [.part 1 (some 2)],
 ((.seq (.ops [⟨.tomb 1 (.var 0), none, (some 2), true⟩, ⟨.tomb 1 (.k (.agg [.int .i64 0, .int .i64 0])), none, (some 1), true⟩])
 ((.seq ((.seq (.ops [⟨.field 0 none (.var 2), none, none, true⟩, ⟨.field 0 none (.var 2), none, none, true⟩, ⟨.bin .lss .no (.loc 1) (.k (.int .i64 0)), none, none, true⟩, ⟨.move (.loc 2), none, none, true⟩, ⟨.field 0 none (.var 2), none, none, true⟩, ⟨.field 1 none (.var 2), none, none, true⟩, ⟨.bin .lss .no (.loc 5) (.k (.int .i64 0)), none, none, true⟩, ⟨.pick (.loc 3) (.k (.bool true)) (.loc 6), none, none, true⟩, ⟨.move (.loc 7), none, none, true⟩, ⟨.field 0 none (.var 2), none, none, true⟩, ⟨.field 0 none (.var 2), none, none, true⟩, ⟨.bin .gtr .no (.loc 10) (.k (.int .i64 25)), none, none, true⟩, ⟨.pick (.loc 8) (.k (.bool true)) (.loc 11), none, none, true⟩, ⟨.move (.loc 12), none, none, true⟩, ⟨.field 0 none (.var 2), none, none, true⟩, ⟨.field 1 none (.var 2), none, none, true⟩, ⟨.bin .gtr .no (.loc 15) (.k (.int .i64 25)), none, none, true⟩, ⟨.pick (.loc 13) (.k (.bool true)) (.loc 16), none, none, true⟩, ⟨.move (.loc 17), none, none, true⟩, ⟨.field 0 none (.var 2), none, none, true⟩, ⟨.field 0 none (.var 2), none, none, true⟩, ⟨.field 0 none (.var 2), none, none, true⟩, ⟨.field 1 none (.var 2), none, none, true⟩, ⟨.bin .add .no (.loc 20) (.loc 22), none, none, true⟩, ⟨.bin .gtr .no (.loc 23) (.k (.int .i64 25)), none, none, true⟩, ⟨.pick (.loc 18) (.k (.bool true)) (.loc 24), none, (some 3), true⟩])
 (.cond (.var 3) ((.seq (.ops [⟨.build [.int .i64 0, .int .i64 0] [(0, 1, (.k (.int .i64 3))), (1, 1, (.k (.int .i64 (-1))))], none, none, true⟩, ⟨.upd 2 0 (.var 1) (.loc 0), none, (some 1), true⟩])
 (.ret))) (.skip))))
 ((.seq (.ops [⟨.build [.int .i64 0, .int .i64 0] [], none, none, true⟩, ⟨.upd 2 0 (.var 1) (.loc 0), none, (some 1), true⟩])
 (.ret)))))))⟩
theorem v_canary_Validate {F : Nat → Option RFunc} {me : Nat} (hF : F me = some (rf_canary_Validate )) {fl : Nat} {H : Heap} {Q : AV → Heap → Prop} (c0 : Int) (c1 : Int)
  (h : ∀ (H2 : Heap), Dead1 H 1 H2 → ∀ (H3 : Heap), Dead1 H2 1 H3 → ((((((((((c0 < 0) ∨ (c1 < 0))) ∨ (c0 > 25))) ∨ (c1 > 25))) ∨ ((IntKind.wrap .i64 (c0 + c1)) > 25))) → Q (.agg [(.int .i64 3), (.int .i64 (-1))]) H3) ∧ (¬(((((((((c0 < 0) ∨ (c1 < 0))) ∨ (c0 > 25))) ∨ (c1 > 25))) ∨ ((IntKind.wrap .i64 (c0 + c1)) > 25))) → Q (.agg [(.int .i64 0), (.int .i64 0)]) H3)) : Ret F fl me [(.agg [(.int .i64 c0), (.int .i64 c1)])] H Q := by
  refine ret_intro hF rfl ?_
  refine w_seq ?_
  refine w_run [1, 1] ?_
  obtain ⟨H2, hb⟩ : ∃ H', Dead1 H 1 H' := ⟨_, ⟨rfl⟩⟩
  replace h := h H2 hb
  refine t_tomb true 1 (.agg [(.int .i64 c0), (.int .i64 c1)]) [(.int .i64 c0), (.int .i64 c1)] H2 H (by kernel_rfl) rfl hb ?_
  obtain ⟨H3, hb⟩ : ∃ H', Dead1 H2 1 H' := ⟨_, ⟨rfl⟩⟩
  replace h := h H3 hb
  refine t_tomb true 1 (.agg [(.int .i64 0), (.int .i64 0)]) [(.int .i64 0), (.int .i64 0)] H3 H2 (by kernel_rfl) rfl hb ?_
  refine t_done [(.agg [(.int .i64 c0), (.int .i64 c1)]), (.agg [(.int .i64 0), (.int .i64 0)]), (.agg [(.int .i64 c0), (.int .i64 c1)]), .undef] H3 (by kernel_rfl) ?_
  refine then_norm ?_
  refine w_seq ?_
  refine w_seq ?_
  refine w_run [0, 0, 0, 0, 0, 0, 0, 0, 0, 0, 0, 0, 0, 0, 0, 0, 0, 0, 0, 0, 0, 0, 0, 0, 0, 0] ?_
  refine t_done [(.agg [(.int .i64 c0), (.int .i64 c1)]), (.agg [(.int .i64 0), (.int .i64 0)]), (.agg [(.int .i64 c0), (.int .i64 c1)]), (.bool (((((decide (c0 < 0)) || (decide (c1 < 0))) || (decide (c0 > 25))) || (decide (c1 > 25))) || (decide ((IntKind.wrap .i64 (c0 + c1)) > 25))))] H3 (by kernel_rfl) ?_
  refine then_norm ?_
  refine w_cond (t := (((((decide (c0 < 0)) || (decide (c1 < 0))) || (decide (c0 > 25))) || (decide (c1 > 25))) || (decide ((IntKind.wrap .i64 (c0 + c1)) > 25)))) rfl (fun hc => ?_) (fun hc => ?_)
  · replace h := h.1 ((is_or (is_or (is_or (is_or is_dec is_dec) is_dec) is_dec) is_dec).t hc)
    refine w_seq ?_
    refine w_run [1, 1] ?_
    refine t_build true [(.int .i64 0), (.int .i64 0)] [(0, 1, .loc 0), (1, 1, .loc 1)] [(.int .i64 3), (.int .i64 (-1))] [(.int .i64 3), (.int .i64 (-1))] H3 (by kernel_rfl) (fill_c (vs := [(.int .i64 3)]) (size := 1) rfl (by kernel_rfl) (by kernel_rfl) (fill_c (vs := [(.int .i64 (-1))]) (size := 1) rfl (by kernel_rfl) (by kernel_rfl) (by kernel_rfl))) ?_
    refine t_upd true 2 0 [(.int .i64 0), (.int .i64 0)] (.agg [(.int .i64 3), (.int .i64 (-1))]) [(.int .i64 3), (.int .i64 (-1))] [(.int .i64 3), (.int .i64 (-1))] H3 (by kernel_rfl) rfl (all_c rfl (all_c rfl all_n)) ⟨rfl, Nat.le_of_ble_eq_true (by kernel_rfl), rfl⟩ ?_
    refine t_done [(.agg [(.int .i64 c0), (.int .i64 c1)]), (.agg [(.int .i64 3), (.int .i64 (-1))]), (.agg [(.int .i64 c0), (.int .i64 c1)]), (.bool (((((decide (c0 < 0)) || (decide (c1 < 0))) || (decide (c0 > 25))) || (decide (c1 > 25))) || (decide ((IntKind.wrap .i64 (c0 + c1)) > 25))))] H3 (by kernel_rfl) ?_
    refine then_norm ?_
    refine w_ret ?_
    refine then_ret ?_
    exact body_ret (vs := [(.agg [(.int .i64 3), (.int .i64 (-1))])]) _ (by kernel_rfl) rfl h
  · replace h := h.2 ((is_or (is_or (is_or (is_or is_dec is_dec) is_dec) is_dec) is_dec).f hc)
    refine w_skip ?_
    refine then_norm ?_
    refine w_seq ?_
    refine w_run [1, 1] ?_
    refine t_build true [(.int .i64 0), (.int .i64 0)] [] [] [(.int .i64 0), (.int .i64 0)] H3 (by kernel_rfl) (by kernel_rfl) ?_
    refine t_upd true 2 0 [(.int .i64 0), (.int .i64 0)] (.agg [(.int .i64 0), (.int .i64 0)]) [(.int .i64 0), (.int .i64 0)] [(.int .i64 0), (.int .i64 0)] H3 (by kernel_rfl) rfl (all_c rfl (all_c rfl all_n)) ⟨rfl, Nat.le_of_ble_eq_true (by kernel_rfl), rfl⟩ ?_
    refine t_done [(.agg [(.int .i64 c0), (.int .i64 c1)]), (.agg [(.int .i64 0), (.int .i64 0)]), (.agg [(.int .i64 c0), (.int .i64 c1)]), (.bool (((((decide (c0 < 0)) || (decide (c1 < 0))) || (decide (c0 > 25))) || (decide (c1 > 25))) || (decide ((IntKind.wrap .i64 (c0 + c1)) > 25))))] H3 (by kernel_rfl) ?_
    refine then_norm ?_
    refine w_ret ?_
    exact body_ret (vs := [(.agg [(.int .i64 0), (.int .i64 0)])]) _ (by kernel_rfl) rfl h

def rf_canary_two (ncanary_Validate : Nat) : RFunc := ⟨2, 9, [.part 2 (some 2)],
 ((.seq (.ops [⟨.tomb 1 (.var 0), none, (some 3), true⟩, ⟨.tomb 1 (.var 1), none, (some 6), true⟩, ⟨.tomb 1 (.k (.agg [.int .i64 0, .int .i64 0])), none, (some 2), true⟩])
 ((.seq ((.seq (.ops [⟨.field 0 (some 2) (.var 3), none, none, true⟩, ⟨.callS ncanary_Validate [(.loc 0)], none, none, true⟩, ⟨.tomb 1 (.k (.agg [.int .i64 0, .int .i64 0])), none, (some 4), true⟩, ⟨.upd 2 0 (.loc 2) (.loc 1), none, (some 4), true⟩])
 ((.seq (.ops [⟨.field 0 (some 2) (.var 4), none, none, true⟩, ⟨.build [.int .i64 0, .int .i64 0] [], none, none, true⟩, ⟨.bin .neq (.agg [.int, .int]) (.loc 0) (.loc 1), none, (some 5), true⟩])
 (.cond (.var 5) ((.seq (.ops [⟨.field 0 (some 2) (.var 4), none, none, true⟩, ⟨.upd 2 0 (.var 2) (.loc 0), none, (some 2), true⟩])
 (.ret))) (.skip))))))
 ((.seq ((.seq (.ops [⟨.field 0 (some 2) (.var 6), none, none, true⟩, ⟨.callS ncanary_Validate [(.loc 0)], none, none, true⟩, ⟨.tomb 1 (.k (.agg [.int .i64 0, .int .i64 0])), none, (some 7), true⟩, ⟨.upd 2 0 (.loc 2) (.loc 1), none, (some 7), true⟩])
 ((.seq (.ops [⟨.field 0 (some 2) (.var 7), none, none, true⟩, ⟨.build [.int .i64 0, .int .i64 0] [], none, none, true⟩, ⟨.bin .neq (.agg [.int, .int]) (.loc 0) (.loc 1), none, (some 8), true⟩])
 (.cond (.var 8) ((.seq (.ops [⟨.field 0 none (.var 7), none, none, true⟩, ⟨.field 0 none (.var 7), none, none, true⟩, ⟨.build [.int .i64 0, .int .i64 0] [(0, 1, (.loc 1)), (1, 1, (.k (.int .i64 (-2))))], none, none, true⟩, ⟨.upd 2 0 (.var 2) (.loc 2), none, (some 2), true⟩])
 (.ret))) (.skip))))))
 ((.seq (.ops [⟨.build [.int .i64 0, .int .i64 0] [], none, none, true⟩, ⟨.upd 2 0 (.var 2) (.loc 0), none, (some 2), true⟩])
 (.ret)))))))))⟩
theorem v_canary_two {F : Nat → Option RFunc} {me ncanary_Validate : Nat} (hF : F me = some (rf_canary_two ncanary_Validate)) {fl : Nat} {H : Heap} {Q : AV → Heap → Prop} (base0 : Int) (base1 : Int) (canary2 : Int) (canary3 : Int)
  (h : ∀ (H4 : Heap), Dead1 H 1 H4 → ∀ (H5 : Heap), Dead1 H4 1 H5 → ∀ (H6 : Heap), Dead1 H5 1 H6 → Ret F fl ncanary_Validate [(.agg [(.int .i64 base0), (.int .i64 base1)])] H6 (fun v10 H9 => ∃ (r7 : Int) (r8 : Int), v10 = (.agg [(.int .i64 r7), (.int .i64 r8)]) ∧ ∀ (H11 : Heap), Dead1 H9 1 H11 → ((¬(((r7 = 0) ∧ (((r8 = 0) ∧ (True)))))) → Q (.agg [(.int .i64 r7), (.int .i64 r8)]) H11) ∧ (¬(¬(((r7 = 0) ∧ (((r8 = 0) ∧ (True)))))) → Ret F fl ncanary_Validate [(.agg [(.int .i64 canary2), (.int .i64 canary3)])] H11 (fun v15 H14 => ∃ (r12 : Int) (r13 : Int), v15 = (.agg [(.int .i64 r12), (.int .i64 r13)]) ∧ ∀ (H16 : Heap), Dead1 H14 1 H16 → ((¬(((r12 = 0) ∧ (((r13 = 0) ∧ (True)))))) → Q (.agg [(.int .i64 r12), (.int .i64 (-2))]) H16) ∧ (¬(¬(((r12 = 0) ∧ (((r13 = 0) ∧ (True)))))) → Q (.agg [(.int .i64 0), (.int .i64 0)]) H16))))) : Ret F fl me [(.agg [(.int .i64 base0), (.int .i64 base1)]), (.agg [(.int .i64 canary2), (.int .i64 canary3)])] H Q := by
  refine ret_intro hF rfl ?_
  refine w_seq ?_
  refine w_run [1, 1, 1] ?_
  obtain ⟨H4, hb⟩ : ∃ H', Dead1 H 1 H' := ⟨_, ⟨rfl⟩⟩
  replace h := h H4 hb
  refine t_tomb true 1 (.agg [(.int .i64 base0), (.int .i64 base1)]) [(.int .i64 base0), (.int .i64 base1)] H4 H (by kernel_rfl) rfl hb ?_
  obtain ⟨H5, hb⟩ : ∃ H', Dead1 H4 1 H' := ⟨_, ⟨rfl⟩⟩
  replace h := h H5 hb
  refine t_tomb true 1 (.agg [(.int .i64 canary2), (.int .i64 canary3)]) [(.int .i64 canary2), (.int .i64 canary3)] H5 H4 (by kernel_rfl) rfl hb ?_
  obtain ⟨H6, hb⟩ : ∃ H', Dead1 H5 1 H' := ⟨_, ⟨rfl⟩⟩
  replace h := h H6 hb
  refine t_tomb true 1 (.agg [(.int .i64 0), (.int .i64 0)]) [(.int .i64 0), (.int .i64 0)] H6 H5 (by kernel_rfl) rfl hb ?_
  refine t_done [(.agg [(.int .i64 base0), (.int .i64 base1)]), (.agg [(.int .i64 canary2), (.int .i64 canary3)]), (.agg [(.int .i64 0), (.int .i64 0)]), (.agg [(.int .i64 base0), (.int .i64 base1)]), .undef, .undef, (.agg [(.int .i64 canary2), (.int .i64 canary3)]), .undef, .undef] H6 (by kernel_rfl) ?_
  refine then_norm ?_
  refine w_seq ?_
  refine w_seq ?_
  refine w_run [0, 1, 1, 1] ?_
  refine t_call true ncanary_Validate [(.agg [(.int .i64 base0), (.int .i64 base1)])] H6 (by kernel_rfl) h ?_
  clear h
  rintro _ H9 ⟨r7, r8, rfl, h⟩
  obtain ⟨H11, hb⟩ : ∃ H', Dead1 H9 1 H' := ⟨_, ⟨rfl⟩⟩
  replace h := h H11 hb
  refine t_tomb true 1 (.agg [(.int .i64 0), (.int .i64 0)]) [(.int .i64 0), (.int .i64 0)] H11 H9 (by kernel_rfl) rfl hb ?_
  refine t_upd true 2 0 [(.int .i64 0), (.int .i64 0)] (.agg [(.int .i64 r7), (.int .i64 r8)]) [(.int .i64 r7), (.int .i64 r8)] [(.int .i64 r7), (.int .i64 r8)] H11 (by kernel_rfl) rfl (all_c rfl (all_c rfl all_n)) ⟨rfl, Nat.le_of_ble_eq_true (by kernel_rfl), rfl⟩ ?_
  refine t_done [(.agg [(.int .i64 base0), (.int .i64 base1)]), (.agg [(.int .i64 canary2), (.int .i64 canary3)]), (.agg [(.int .i64 0), (.int .i64 0)]), (.agg [(.int .i64 base0), (.int .i64 base1)]), (.agg [(.int .i64 r7), (.int .i64 r8)]), .undef, (.agg [(.int .i64 canary2), (.int .i64 canary3)]), .undef, .undef] H11 (by kernel_rfl) ?_
  refine then_norm ?_
  refine w_seq ?_
  refine w_run [0, 1, 0] ?_
  refine t_build true [(.int .i64 0), (.int .i64 0)] [] [] [(.int .i64 0), (.int .i64 0)] H11 (by kernel_rfl) (by kernel_rfl) ?_
  refine t_done [(.agg [(.int .i64 base0), (.int .i64 base1)]), (.agg [(.int .i64 canary2), (.int .i64 canary3)]), (.agg [(.int .i64 0), (.int .i64 0)]), (.agg [(.int .i64 base0), (.int .i64 base1)]), (.agg [(.int .i64 r7), (.int .i64 r8)]), (.bool (!(((r7) == 0) && (((r8) == 0) && true)))), (.agg [(.int .i64 canary2), (.int .i64 canary3)]), .undef, .undef] H11 (by kernel_rfl) ?_
  refine then_norm ?_
  refine w_cond (t := (!(((r7) == 0) && (((r8) == 0) && true)))) rfl (fun hc => ?_) (fun hc => ?_)
  · replace h := h.1 ((is_not (is_and is_eq (is_and is_eq is_true))).t hc)
    refine w_seq ?_
    refine w_run [0, 1] ?_
    refine t_upd true 2 0 [(.int .i64 0), (.int .i64 0)] (.agg [(.int .i64 r7), (.int .i64 r8)]) [(.int .i64 r7), (.int .i64 r8)] [(.int .i64 r7), (.int .i64 r8)] H11 (by kernel_rfl) rfl (all_c rfl (all_c rfl all_n)) ⟨rfl, Nat.le_of_ble_eq_true (by kernel_rfl), rfl⟩ ?_
    refine t_done [(.agg [(.int .i64 base0), (.int .i64 base1)]), (.agg [(.int .i64 canary2), (.int .i64 canary3)]), (.agg [(.int .i64 r7), (.int .i64 r8)]), (.agg [(.int .i64 base0), (.int .i64 base1)]), (.agg [(.int .i64 r7), (.int .i64 r8)]), (.bool (!(((r7) == 0) && (((r8) == 0) && true)))), (.agg [(.int .i64 canary2), (.int .i64 canary3)]), .undef, .undef] H11 (by kernel_rfl) ?_
    refine then_norm ?_
    refine w_ret ?_
    refine then_ret ?_
    exact body_ret (vs := [(.agg [(.int .i64 r7), (.int .i64 r8)])]) _ (by kernel_rfl) rfl h
  · replace h := h.2 ((is_not (is_and is_eq (is_and is_eq is_true))).f hc)
    refine w_skip ?_
    refine then_norm ?_
    refine w_seq ?_
    refine w_seq ?_
    refine w_run [0, 1, 1, 1] ?_
    refine t_call true ncanary_Validate [(.agg [(.int .i64 canary2), (.int .i64 canary3)])] H11 (by kernel_rfl) h ?_
    clear h
    rintro _ H14 ⟨r12, r13, rfl, h⟩
    obtain ⟨H16, hb⟩ : ∃ H', Dead1 H14 1 H' := ⟨_, ⟨rfl⟩⟩
    replace h := h H16 hb
    refine t_tomb true 1 (.agg [(.int .i64 0), (.int .i64 0)]) [(.int .i64 0), (.int .i64 0)] H16 H14 (by kernel_rfl) rfl hb ?_
    refine t_upd true 2 0 [(.int .i64 0), (.int .i64 0)] (.agg [(.int .i64 r12), (.int .i64 r13)]) [(.int .i64 r12), (.int .i64 r13)] [(.int .i64 r12), (.int .i64 r13)] H16 (by kernel_rfl) rfl (all_c rfl (all_c rfl all_n)) ⟨rfl, Nat.le_of_ble_eq_true (by kernel_rfl), rfl⟩ ?_
    refine t_done [(.agg [(.int .i64 base0), (.int .i64 base1)]), (.agg [(.int .i64 canary2), (.int .i64 canary3)]), (.agg [(.int .i64 0), (.int .i64 0)]), (.agg [(.int .i64 base0), (.int .i64 base1)]), (.agg [(.int .i64 r7), (.int .i64 r8)]), (.bool (!(((r7) == 0) && (((r8) == 0) && true)))), (.agg [(.int .i64 canary2), (.int .i64 canary3)]), (.agg [(.int .i64 r12), (.int .i64 r13)]), .undef] H16 (by kernel_rfl) ?_
    refine then_norm ?_
    refine w_seq ?_
    refine w_run [0, 1, 0] ?_
    refine t_build true [(.int .i64 0), (.int .i64 0)] [] [] [(.int .i64 0), (.int .i64 0)] H16 (by kernel_rfl) (by kernel_rfl) ?_
    refine t_done [(.agg [(.int .i64 base0), (.int .i64 base1)]), (.agg [(.int .i64 canary2), (.int .i64 canary3)]), (.agg [(.int .i64 0), (.int .i64 0)]), (.agg [(.int .i64 base0), (.int .i64 base1)]), (.agg [(.int .i64 r7), (.int .i64 r8)]), (.bool (!(((r7) == 0) && (((r8) == 0) && true)))), (.agg [(.int .i64 canary2), (.int .i64 canary3)]), (.agg [(.int .i64 r12), (.int .i64 r13)]), (.bool (!(((r12) == 0) && (((r13) == 0) && true))))] H16 (by kernel_rfl) ?_
    refine then_norm ?_
    refine w_cond (t := (!(((r12) == 0) && (((r13) == 0) && true)))) rfl (fun hc => ?_) (fun hc => ?_)
    · replace h := h.1 ((is_not (is_and is_eq (is_and is_eq is_true))).t hc)
      refine w_seq ?_
      refine w_run [0, 0, 1, 1] ?_
      refine t_build true [(.int .i64 0), (.int .i64 0)] [(0, 1, .loc 0), (1, 1, .loc 1)] [(.int .i64 r12), (.int .i64 (-2))] [(.int .i64 r12), (.int .i64 (-2))] H16 (by kernel_rfl) (fill_c (vs := [(.int .i64 r12)]) (size := 1) rfl (by kernel_rfl) (by kernel_rfl) (fill_c (vs := [(.int .i64 (-2))]) (size := 1) rfl (by kernel_rfl) (by kernel_rfl) (by kernel_rfl))) ?_
      refine t_upd true 2 0 [(.int .i64 0), (.int .i64 0)] (.agg [(.int .i64 r12), (.int .i64 (-2))]) [(.int .i64 r12), (.int .i64 (-2))] [(.int .i64 r12), (.int .i64 (-2))] H16 (by kernel_rfl) rfl (all_c rfl (all_c rfl all_n)) ⟨rfl, Nat.le_of_ble_eq_true (by kernel_rfl), rfl⟩ ?_
      refine t_done [(.agg [(.int .i64 base0), (.int .i64 base1)]), (.agg [(.int .i64 canary2), (.int .i64 canary3)]), (.agg [(.int .i64 r12), (.int .i64 (-2))]), (.agg [(.int .i64 base0), (.int .i64 base1)]), (.agg [(.int .i64 r7), (.int .i64 r8)]), (.bool (!(((r7) == 0) && (((r8) == 0) && true)))), (.agg [(.int .i64 canary2), (.int .i64 canary3)]), (.agg [(.int .i64 r12), (.int .i64 r13)]), (.bool (!(((r12) == 0) && (((r13) == 0) && true))))] H16 (by kernel_rfl) ?_
      refine then_norm ?_
      refine w_ret ?_
      refine then_ret ?_
      exact body_ret (vs := [(.agg [(.int .i64 r12), (.int .i64 (-2))])]) _ (by kernel_rfl) rfl h
    · replace h := h.2 ((is_not (is_and is_eq (is_and is_eq is_true))).f hc)
      refine w_skip ?_
      refine then_norm ?_
      refine w_seq ?_
      refine w_run [1, 1] ?_
      refine t_build true [(.int .i64 0), (.int .i64 0)] [] [] [(.int .i64 0), (.int .i64 0)] H16 (by kernel_rfl) (by kernel_rfl) ?_
      refine t_upd true 2 0 [(.int .i64 0), (.int .i64 0)] (.agg [(.int .i64 0), (.int .i64 0)]) [(.int .i64 0), (.int .i64 0)] [(.int .i64 0), (.int .i64 0)] H16 (by kernel_rfl) rfl (all_c rfl (all_c rfl all_n)) ⟨rfl, Nat.le_of_ble_eq_true (by kernel_rfl), rfl⟩ ?_
      refine t_done [(.agg [(.int .i64 base0), (.int .i64 base1)]), (.agg [(.int .i64 canary2), (.int .i64 canary3)]), (.agg [(.int .i64 0), (.int .i64 0)]), (.agg [(.int .i64 base0), (.int .i64 base1)]), (.agg [(.int .i64 r7), (.int .i64 r8)]), (.bool (!(((r7) == 0) && (((r8) == 0) && true)))), (.agg [(.int .i64 canary2), (.int .i64 canary3)]), (.agg [(.int .i64 r12), (.int .i64 r13)]), (.bool (!(((r12) == 0) && (((r13) == 0) && true))))] H16 (by kernel_rfl) ?_
      refine then_norm ?_
      refine w_ret ?_
      exact body_ret (vs := [(.agg [(.int .i64 0), (.int .i64 0)])]) _ (by kernel_rfl) rfl h

def rf_canary_tail (ncanary_row : Nat) : RFunc := ⟨2, 13, [.var 2, .var 3],
 ((.seq (.ops [⟨.tomb 1 (.var 0), none, (some 5), true⟩, ⟨.tomb 1 (.var 1), none, (some 4), true⟩, ⟨.move (.k (.int .i64 0)), none, (some 2), true⟩, ⟨.move (.k (.int .i64 0)), none, (some 3), true⟩])
 ((.seq (.ops [⟨.field 0 none (.var 4), none, none, true⟩, ⟨.field 0 none (.var 4), none, none, true⟩, ⟨.field 0 none (.var 4), none, none, true⟩, ⟨.field 1 none (.var 4), none, none, true⟩, ⟨.bin .add .no (.loc 1) (.loc 3), none, none, true⟩, ⟨.move (.loc 4), none, (some 7), true⟩])
 ((.seq (.ops [⟨.field 0 none (.var 5), none, none, false⟩, ⟨.field 0 none (.var 5), none, none, false⟩, ⟨.field 0 none (.var 4), none, none, false⟩, ⟨.field 0 none (.var 4), none, none, false⟩, ⟨.bin .add .no (.loc 1) (.loc 3), none, none, false⟩, ⟨.callS ncanary_row [(.loc 4)], none, none, false⟩, ⟨.field 0 none (.var 5), none, none, false⟩, ⟨.field 1 none (.var 5), none, none, false⟩, ⟨.field 0 none (.var 4), none, none, false⟩, ⟨.field 1 none (.var 4), none, none, false⟩, ⟨.bin .add .no (.loc 7) (.loc 9), none, none, false⟩, ⟨.callS ncanary_row [(.loc 10)], none, none, true⟩, ⟨.move (.loc 5), none, (some 10), true⟩, ⟨.move (.loc 11), none, (some 8), true⟩])
 ((.seq (.ops [⟨.move (.k (.int .i64 0)), none, (some 12), true⟩])
 ((.seq ((.seq (.ops [⟨.field 0 none (.var 4), none, none, true⟩, ⟨.field 1 none (.var 4), none, none, true⟩, ⟨.move (.loc 1), none, (some 6), true⟩])
 (.block 0 (.loop ((.seq ((.seq (.ops [⟨.move (.var 6), none, none, true⟩, ⟨.move (.var 7), none, none, true⟩, ⟨.move (.var 8), none, none, true⟩, ⟨.len (.loc 2), none, none, true⟩, ⟨.bin .sub .no (.loc 3) (.k (.int .i64 1)), none, none, true⟩, ⟨.min (.loc 1) [(.loc 4)], none, none, true⟩, ⟨.bin .leq .no (.loc 0) (.loc 5), none, (some 9), true⟩])
 (.cond (.var 9) (.skip) (.exit 0))))
 ((.seq (.block 1 ((.seq (.ops [⟨.move (.var 7), none, none, true⟩, ⟨.move (.var 6), none, none, true⟩, ⟨.bin .sub .no (.loc 0) (.loc 1), none, none, true⟩, ⟨.move (.var 10), none, none, true⟩, ⟨.len (.loc 3), none, none, true⟩, ⟨.bin .lss .no (.loc 2) (.loc 4), none, (some 11), true⟩])
 (.cond (.var 11) (.ops [⟨.move (.var 12), none, none, false⟩, ⟨.move (.var 8), none, none, false⟩, ⟨.move (.var 6), none, none, false⟩, ⟨.indexAddr 1 (.loc 1) (.loc 2), none, none, false⟩, ⟨.load none (.loc 3), none, none, false⟩, ⟨.move (.var 10), none, none, false⟩, ⟨.move (.var 7), none, none, false⟩, ⟨.move (.var 6), none, none, false⟩, ⟨.bin .sub .no (.loc 6) (.loc 7), none, none, false⟩, ⟨.indexAddr 1 (.loc 5) (.loc 8), none, none, false⟩, ⟨.load none (.loc 9), none, none, false⟩, ⟨.bin .mul .no (.loc 4) (.loc 10), none, none, true⟩, ⟨.bin .add .no (.loc 0) (.loc 11), none, none, true⟩, ⟨.move (.loc 12), none, (some 12), true⟩]) (.skip)))))
 (.ops [⟨.move (.var 6), none, none, true⟩, ⟨.bin .add .no (.loc 0) (.k (.int .i64 1)), none, none, true⟩, ⟨.move (.loc 1), none, (some 6), true⟩])))))))))
 ((.seq (.ops [⟨.move (.var 12), none, none, false⟩, ⟨.move (.var 10), none, none, true⟩, ⟨.len (.loc 1), none, none, true⟩, ⟨.move (.var 8), none, none, true⟩, ⟨.len (.loc 3), none, none, true⟩, ⟨.bin .add .no (.loc 2) (.loc 4), none, none, true⟩, ⟨.bin .sub .no (.loc 5) (.k (.int .i64 2)), none, none, true⟩, ⟨.callS ncanary_row [(.loc 6)], none, none, true⟩, ⟨.move (.var 7), none, none, false⟩, ⟨.indexAddr 1 (.loc 7) (.loc 8), none, none, true⟩, ⟨.load none (.loc 9), none, none, true⟩, ⟨.move (.loc 0), none, (some 2), false⟩, ⟨.move (.loc 10), none, (some 3), true⟩])
 (.ret)))))))))))))⟩
theorem v_canary_tail {F : Nat → Option RFunc} {me ncanary_row : Nat} (hF : F me = some (rf_canary_tail ncanary_row)) {fl : Nat} {H : Heap} {Q : AV → Heap → Prop} (base0 : Int) (base1 : Int) (canary2 : Int) (canary3 : Int)
  (h : ∀ (H4 : Heap), Dead1 H 1 H4 → ∀ (H5 : Heap), Dead1 H4 1 H5 → Ret F H5.length ncanary_row [(.int .i64 (IntKind.wrap .i64 (base0 + canary2)))] H5 (fun r6 H7 => Ret F fl ncanary_row [(.int .i64 (IntKind.wrap .i64 (base1 + canary3)))] H7 (fun r9 H10 => ∃ (J12 : Nat → Int → Int → Prop) (k13 : Nat), J12 k13 canary3 0 ∧ (∀ (m14 : Nat) (k15 : Int) (ways18 : Int), J12 m14 k15 ways18 → ∃ len19 : Nat, lenA r9 = some len19 ∧ ((k15 ≤ (imin (IntKind.wrap .i64 (canary2 + canary3)) (IntKind.wrap .i64 ((len19 : Int) - 1)))) → ∃ len20 : Nat, lenA r6 = some len20 ∧ (((IntKind.wrap .i64 ((IntKind.wrap .i64 (canary2 + canary3)) - k15)) < (len20 : Int)) → ∃ (e21 : Int), getA H10 1 none r9 k15 0 = some (.int .i64 e21) ∧ ∃ (e23 : Int), getA H10 1 none r6 (IntKind.wrap .i64 ((IntKind.wrap .i64 (canary2 + canary3)) - k15)) 0 = some (.int .i64 e23) ∧ ∃ m25 : Nat, m25 < m14 ∧ J12 m25 (IntKind.wrap .i64 (k15 + 1)) (IntKind.wrap .i64 (ways18 + (IntKind.wrap .i64 (e21 * e23))))) ∧ (¬((IntKind.wrap .i64 ((IntKind.wrap .i64 (canary2 + canary3)) - k15)) < (len20 : Int)) → ∃ m26 : Nat, m26 < m14 ∧ J12 m26 (IntKind.wrap .i64 (k15 + 1)) ways18)) ∧ (¬(k15 ≤ (imin (IntKind.wrap .i64 (canary2 + canary3)) (IntKind.wrap .i64 ((len19 : Int) - 1)))) → ∃ len27 : Nat, lenA r6 = some len27 ∧ ∃ len28 : Nat, lenA r9 = some len28 ∧ Ret F fl ncanary_row [(.int .i64 (IntKind.wrap .i64 ((IntKind.wrap .i64 ((len27 : Int) + (len28 : Int))) - 2)))] H10 (fun r29 H30 => ∃ (e32 : Int), getA H30 1 none r29 (IntKind.wrap .i64 (canary2 + canary3)) 0 = some (.int .i64 e32) ∧ Q (.tuple [(.int .i64 ways18), (.int .i64 e32)]) H30)))))) : Ret F fl me [(.agg [(.int .i64 base0), (.int .i64 base1)]), (.agg [(.int .i64 canary2), (.int .i64 canary3)])] H Q := by
  refine ret_intro hF rfl ?_
  refine w_seq ?_
  refine w_run [1, 1, 0, 0] ?_
  obtain ⟨H4, hb⟩ : ∃ H', Dead1 H 1 H' := ⟨_, ⟨rfl⟩⟩
  replace h := h H4 hb
  refine t_tomb true 1 (.agg [(.int .i64 base0), (.int .i64 base1)]) [(.int .i64 base0), (.int .i64 base1)] H4 H (by kernel_rfl) rfl hb ?_
  obtain ⟨H5, hb⟩ : ∃ H', Dead1 H4 1 H' := ⟨_, ⟨rfl⟩⟩
  replace h := h H5 hb
  refine t_tomb true 1 (.agg [(.int .i64 canary2), (.int .i64 canary3)]) [(.int .i64 canary2), (.int .i64 canary3)] H5 H4 (by kernel_rfl) rfl hb ?_
  refine t_done [(.agg [(.int .i64 base0), (.int .i64 base1)]), (.agg [(.int .i64 canary2), (.int .i64 canary3)]), (.int .i64 0), (.int .i64 0), (.agg [(.int .i64 canary2), (.int .i64 canary3)]), (.agg [(.int .i64 base0), (.int .i64 base1)]), .undef, .undef, .undef, .undef, .undef, .undef, .undef] H5 (by kernel_rfl) ?_
  refine then_norm ?_
  refine w_seq ?_
  refine w_run [0, 0, 0, 0, 0, 0] ?_
  refine t_done [(.agg [(.int .i64 base0), (.int .i64 base1)]), (.agg [(.int .i64 canary2), (.int .i64 canary3)]), (.int .i64 0), (.int .i64 0), (.agg [(.int .i64 canary2), (.int .i64 canary3)]), (.agg [(.int .i64 base0), (.int .i64 base1)]), .undef, (.int .i64 (IntKind.wrap .i64 (canary2 + canary3))), .undef, .undef, .undef, .undef, .undef] H5 (by kernel_rfl) ?_
  refine then_norm ?_
  refine w_seq ?_
  refine w_run [0, 0, 0, 0, 0, 1, 0, 0, 0, 0, 0, 1, 0, 0] ?_
  refine t_call false ncanary_row [(.int .i64 (IntKind.wrap .i64 (base0 + canary2)))] H5 (by kernel_rfl) h ?_
  clear h
  rintro r6 H7 h
  refine t_call true ncanary_row [(.int .i64 (IntKind.wrap .i64 (base1 + canary3)))] H7 (by kernel_rfl) h ?_
  clear h
  rintro r9 H10 h
  refine t_done [(.agg [(.int .i64 base0), (.int .i64 base1)]), (.agg [(.int .i64 canary2), (.int .i64 canary3)]), (.int .i64 0), (.int .i64 0), (.agg [(.int .i64 canary2), (.int .i64 canary3)]), (.agg [(.int .i64 base0), (.int .i64 base1)]), .undef, (.int .i64 (IntKind.wrap .i64 (canary2 + canary3))), r9, .undef, r6, .undef, .undef] H10 (by kernel_rfl) ?_
  refine then_norm ?_
  refine w_seq ?_
  refine w_run [0] ?_
  refine t_done [(.agg [(.int .i64 base0), (.int .i64 base1)]), (.agg [(.int .i64 canary2), (.int .i64 canary3)]), (.int .i64 0), (.int .i64 0), (.agg [(.int .i64 canary2), (.int .i64 canary3)]), (.agg [(.int .i64 base0), (.int .i64 base1)]), .undef, (.int .i64 (IntKind.wrap .i64 (canary2 + canary3))), r9, .undef, r6, .undef, (.int .i64 0)] H10 (by kernel_rfl) ?_
  refine then_norm ?_
  refine w_seq ?_
  refine w_seq ?_
  refine w_run [0, 0, 0] ?_
  refine t_done [(.agg [(.int .i64 base0), (.int .i64 base1)]), (.agg [(.int .i64 canary2), (.int .i64 canary3)]), (.int .i64 0), (.int .i64 0), (.agg [(.int .i64 canary2), (.int .i64 canary3)]), (.agg [(.int .i64 base0), (.int .i64 base1)]), (.int .i64 canary3), (.int .i64 (IntKind.wrap .i64 (canary2 + canary3))), r9, .undef, r6, .undef, (.int .i64 0)] H10 (by kernel_rfl) ?_
  refine then_norm ?_
  refine w_block ?_
  obtain ⟨J12, k13, h0, h⟩ := h
  refine w_loop (I := fun mI EI HI => ∃ (k15 : Int) (d16 : AV) (d17 : AV) (ways18 : Int), EI = [(.agg [(.int .i64 base0), (.int .i64 base1)]), (.agg [(.int .i64 canary2), (.int .i64 canary3)]), (.int .i64 0), (.int .i64 0), (.agg [(.int .i64 canary2), (.int .i64 canary3)]), (.agg [(.int .i64 base0), (.int .i64 base1)]), (.int .i64 k15), (.int .i64 (IntKind.wrap .i64 (canary2 + canary3))), r9, d16, r6, d17, (.int .i64 ways18)] ∧ H10 = HI ∧ J12 mI k15 ways18) ?_ k13 ⟨_, _, _, _, rfl, rfl, h0⟩
  clear h0
  rintro m14 EI HI ⟨k15, d16, d17, ways18, rfl, rfl, hJ⟩
  replace h := h m14 k15 ways18  hJ
  clear hJ
  refine w_seq ?_
  refine w_seq ?_
  refine w_run [0, 0, 0, 1, 0, 0, 0] ?_
  obtain ⟨len19, hl, h⟩ := h
  refine t_len true r9 len19 H10 (by kernel_rfl) hl ?_
  refine t_done [(.agg [(.int .i64 base0), (.int .i64 base1)]), (.agg [(.int .i64 canary2), (.int .i64 canary3)]), (.int .i64 0), (.int .i64 0), (.agg [(.int .i64 canary2), (.int .i64 canary3)]), (.agg [(.int .i64 base0), (.int .i64 base1)]), (.int .i64 k15), (.int .i64 (IntKind.wrap .i64 (canary2 + canary3))), r9, (.bool (decide (k15 ≤ (imin (IntKind.wrap .i64 (canary2 + canary3)) (IntKind.wrap .i64 ((len19 : Int) - 1)))))), r6, d17, (.int .i64 ways18)] H10 (by kernel_rfl) ?_
  refine then_norm ?_
  refine w_cond (t := (decide (k15 ≤ (imin (IntKind.wrap .i64 (canary2 + canary3)) (IntKind.wrap .i64 ((len19 : Int) - 1)))))) rfl (fun hc => ?_) (fun hc => ?_)
  · replace h := h.1 (is_dec.t hc)
    refine w_skip ?_
    refine then_norm ?_
    refine w_seq ?_
    refine w_block ?_
    refine w_seq ?_
    refine w_run [0, 0, 0, 0, 1, 0] ?_
    obtain ⟨len20, hl, h⟩ := h
    refine t_len true r6 len20 H10 (by kernel_rfl) hl ?_
    refine t_done [(.agg [(.int .i64 base0), (.int .i64 base1)]), (.agg [(.int .i64 canary2), (.int .i64 canary3)]), (.int .i64 0), (.int .i64 0), (.agg [(.int .i64 canary2), (.int .i64 canary3)]), (.agg [(.int .i64 base0), (.int .i64 base1)]), (.int .i64 k15), (.int .i64 (IntKind.wrap .i64 (canary2 + canary3))), r9, (.bool (decide (k15 ≤ (imin (IntKind.wrap .i64 (canary2 + canary3)) (IntKind.wrap .i64 ((len19 : Int) - 1)))))), r6, (.bool (decide ((IntKind.wrap .i64 ((IntKind.wrap .i64 (canary2 + canary3)) - k15)) < (len20 : Int)))), (.int .i64 ways18)] H10 (by kernel_rfl) ?_
    refine then_norm ?_
    refine w_cond (t := (decide ((IntKind.wrap .i64 ((IntKind.wrap .i64 (canary2 + canary3)) - k15)) < (len20 : Int)))) rfl (fun hc => ?_) (fun hc => ?_)
    · replace h := h.1 (is_dec.t hc)
      refine w_run [0, 0, 0, 1, 1, 0, 0, 0, 0, 1, 1, 0, 0, 0] ?_
      obtain ⟨e21, hg22, h⟩ := h
      refine t_idxG false 1 r9 .i64 k15 H10 (by kernel_rfl) hg22 ?_
      refine t_loadG false none 1 r9 k15 0 (.int .i64 e21) H10 (by kernel_rfl) hg22 ?_
      obtain ⟨e23, hg24, h⟩ := h
      refine t_idxG false 1 r6 .i64 (IntKind.wrap .i64 ((IntKind.wrap .i64 (canary2 + canary3)) - k15)) H10 (by kernel_rfl) hg24 ?_
      refine t_loadG false none 1 r6 (IntKind.wrap .i64 ((IntKind.wrap .i64 (canary2 + canary3)) - k15)) 0 (.int .i64 e23) H10 (by kernel_rfl) hg24 ?_
      refine t_done [(.agg [(.int .i64 base0), (.int .i64 base1)]), (.agg [(.int .i64 canary2), (.int .i64 canary3)]), (.int .i64 0), (.int .i64 0), (.agg [(.int .i64 canary2), (.int .i64 canary3)]), (.agg [(.int .i64 base0), (.int .i64 base1)]), (.int .i64 k15), (.int .i64 (IntKind.wrap .i64 (canary2 + canary3))), r9, (.bool (decide (k15 ≤ (imin (IntKind.wrap .i64 (canary2 + canary3)) (IntKind.wrap .i64 ((len19 : Int) - 1)))))), r6, (.bool (decide ((IntKind.wrap .i64 ((IntKind.wrap .i64 (canary2 + canary3)) - k15)) < (len20 : Int)))), (.int .i64 (IntKind.wrap .i64 (ways18 + (IntKind.wrap .i64 (e21 * e23)))))] H10 (by kernel_rfl) ?_
      refine block_norm ?_
      refine then_norm ?_
      refine w_run [0, 0, 0] ?_
      refine t_done [(.agg [(.int .i64 base0), (.int .i64 base1)]), (.agg [(.int .i64 canary2), (.int .i64 canary3)]), (.int .i64 0), (.int .i64 0), (.agg [(.int .i64 canary2), (.int .i64 canary3)]), (.agg [(.int .i64 base0), (.int .i64 base1)]), (.int .i64 (IntKind.wrap .i64 (k15 + 1))), (.int .i64 (IntKind.wrap .i64 (canary2 + canary3))), r9, (.bool (decide (k15 ≤ (imin (IntKind.wrap .i64 (canary2 + canary3)) (IntKind.wrap .i64 ((len19 : Int) - 1)))))), r6, (.bool (decide ((IntKind.wrap .i64 ((IntKind.wrap .i64 (canary2 + canary3)) - k15)) < (len20 : Int)))), (.int .i64 (IntKind.wrap .i64 (ways18 + (IntKind.wrap .i64 (e21 * e23)))))] H10 (by kernel_rfl) ?_
      obtain ⟨m', hm, h⟩ := h
      refine loop_norm ⟨m', hm, _, _, _, _, rfl, rfl, h⟩
    · replace h := h.2 (is_dec.f hc)
      refine w_skip ?_
      refine block_norm ?_
      refine then_norm ?_
      refine w_run [0, 0, 0] ?_
      refine t_done [(.agg [(.int .i64 base0), (.int .i64 base1)]), (.agg [(.int .i64 canary2), (.int .i64 canary3)]), (.int .i64 0), (.int .i64 0), (.agg [(.int .i64 canary2), (.int .i64 canary3)]), (.agg [(.int .i64 base0), (.int .i64 base1)]), (.int .i64 (IntKind.wrap .i64 (k15 + 1))), (.int .i64 (IntKind.wrap .i64 (canary2 + canary3))), r9, (.bool (decide (k15 ≤ (imin (IntKind.wrap .i64 (canary2 + canary3)) (IntKind.wrap .i64 ((len19 : Int) - 1)))))), r6, (.bool (decide ((IntKind.wrap .i64 ((IntKind.wrap .i64 (canary2 + canary3)) - k15)) < (len20 : Int)))), (.int .i64 ways18)] H10 (by kernel_rfl) ?_
      obtain ⟨m', hm, h⟩ := h
      refine loop_norm ⟨m', hm, _, _, _, _, rfl, rfl, h⟩
  · replace h := h.2 (is_dec.f hc)
    refine w_exit ?_
    refine then_exit ?_
    refine loop_exit ?_
    refine block_exit ?_
    refine then_norm ?_
    refine w_seq ?_
    refine w_run [0, 0, 1, 0, 1, 0, 0, 1, 0, 1, 1, 0, 0] ?_
    obtain ⟨len27, hl, h⟩ := h
    refine t_len true r6 len27 H10 (by kernel_rfl) hl ?_
    obtain ⟨len28, hl, h⟩ := h
    refine t_len true r9 len28 H10 (by kernel_rfl) hl ?_
    refine t_call true ncanary_row [(.int .i64 (IntKind.wrap .i64 ((IntKind.wrap .i64 ((len27 : Int) + (len28 : Int))) - 2)))] H10 (by kernel_rfl) h ?_
    clear h
    rintro r29 H30 h
    obtain ⟨e32, hg33, h⟩ := h
    refine t_idxG true 1 r29 .i64 (IntKind.wrap .i64 (canary2 + canary3)) H30 (by kernel_rfl) hg33 ?_
    refine t_loadG true none 1 r29 (IntKind.wrap .i64 (canary2 + canary3)) 0 (.int .i64 e32) H30 (by kernel_rfl) hg33 ?_
    refine t_done [(.agg [(.int .i64 base0), (.int .i64 base1)]), (.agg [(.int .i64 canary2), (.int .i64 canary3)]), (.int .i64 ways18), (.int .i64 e32), (.agg [(.int .i64 canary2), (.int .i64 canary3)]), (.agg [(.int .i64 base0), (.int .i64 base1)]), (.int .i64 k15), (.int .i64 (IntKind.wrap .i64 (canary2 + canary3))), r9, (.bool (decide (k15 ≤ (imin (IntKind.wrap .i64 (canary2 + canary3)) (IntKind.wrap .i64 ((len19 : Int) - 1)))))), r6, d17, (.int .i64 ways18)] H30 (by kernel_rfl) ?_
    refine then_norm ?_
    refine w_ret ?_
    exact body_ret (vs := [(.int .i64 ways18), (.int .i64 e32)]) _ (by kernel_rfl) rfl h

def rf_canary_row : RFunc := ⟨1, 7, [.var 1],
 ((.seq (.ops [⟨.move (.k (.empty)), none, (some 1), true⟩])
 ((.seq (.ops [⟨.move (.var 0), none, none, true⟩, ⟨.bin .add .no (.loc 0) (.k (.int .i64 1)), none, none, true⟩, ⟨.makeSlice 1 8 [.int .i64 0] (.loc 1) (.loc 1), none, none, true⟩, ⟨.move (.loc 2), none, (some 2), true⟩])
 ((.seq (.ops [⟨.move (.var 2), none, none, true⟩, ⟨.indexAddr 1 (.loc 0) (.k (.int .i64 0)), none, none, true⟩, ⟨.store 1 (.loc 1) (.k (.int .i64 1)) [], none, none, true⟩])
 ((.seq ((.seq (.ops [⟨.move (.var 0), none, (some 4), true⟩, ⟨.move (.k (.int .i64 0)), none, (some 3), true⟩])
 (.block 0 (.loop ((.seq (.ops [⟨.bin .lss .no (.var 3) (.var 4), none, (some 5), true⟩])
 ((.seq (.cond (.var 5) (.skip) (.exit 0))
 ((.seq (.block 1 ((.seq (.ops [⟨.move (.var 3), none, none, true⟩, ⟨.move (.loc 0), none, (some 6), true⟩])
 (.ops [⟨.move (.var 2), none, none, true⟩, ⟨.move (.var 6), none, none, true⟩, ⟨.bin .add .no (.loc 1) (.k (.int .i64 1)), none, none, true⟩, ⟨.move (.var 2), none, none, true⟩, ⟨.move (.var 6), none, none, true⟩, ⟨.indexAddr 1 (.loc 3) (.loc 4), none, none, true⟩, ⟨.load none (.loc 5), none, none, true⟩, ⟨.move (.var 0), none, none, true⟩, ⟨.move (.var 6), none, none, true⟩, ⟨.bin .sub .no (.loc 7) (.loc 8), none, none, true⟩, ⟨.bin .mul .no (.loc 6) (.loc 9), none, none, true⟩, ⟨.move (.var 6), none, none, true⟩, ⟨.bin .add .no (.loc 11) (.k (.int .i64 1)), none, none, true⟩, ⟨.bin .quo .no (.loc 10) (.loc 12), none, none, true⟩, ⟨.indexAddr 1 (.loc 0) (.loc 2), none, none, true⟩, ⟨.store 1 (.loc 14) (.loc 13) [], none, none, true⟩]))))
 (.ops [⟨.bin .add .no (.var 3) (.k (.int .i64 1)), none, none, true⟩, ⟨.move (.loc 0), none, (some 3), true⟩])))))))))))
 ((.seq (.ops [⟨.move (.var 2), none, none, true⟩, ⟨.move (.loc 0), none, (some 1), true⟩])
 (.ret)))))))))))⟩
theorem v_canary_row {F : Nat → Option RFunc} {me : Nat} (hF : F me = some (rf_canary_row )) {fl : Nat} {H : Heap} {Q : AV → Heap → Prop} (n0 : Int)
  (h : (0 ≤ (IntKind.wrap .i64 (n0 + 1)) ∧ (IntKind.wrap .i64 (n0 + 1)) ≤ (IntKind.wrap .i64 (n0 + 1)) ∧ (8 : Int) * (IntKind.wrap .i64 (n0 + 1)) ≤ 2 ^ 47 ∧ (IntKind.wrap .i64 (n0 + 1)) < 2 ^ 62) ∧ ∀ (b1 : Nat) (H2 : Heap), NewB H 1 (zeros (Int.toNat (IntKind.wrap .i64 (n0 + 1))) [(.int .i64 0)]) b1 H2 → ∃ b3 o4 : Nat, ptrA 1 (.slice b1 0 (Int.toNat (IntKind.wrap .i64 (n0 + 1))) (some (Int.toNat (IntKind.wrap .i64 (n0 + 1))))) 0 = some (b3, o4) ∧ ∃ H5 : Heap, putA fl H2 b3 o4 1 (.int .i64 1) = some H5 ∧ ∃ (J6 : Nat → Int → Heap → Prop) (k7 : Nat), J6 k7 0 H5 ∧ (∀ (m8 : Nat) (v9 : Int) (H12 : Heap), J6 m8 v9 H12 → ((v9 < n0) → ∃ (e13 : Int), getA H12 1 none (.slice b1 0 (Int.toNat (IntKind.wrap .i64 (n0 + 1))) (some (Int.toNat (IntKind.wrap .i64 (n0 + 1))))) v9 0 = some (.int .i64 e13) ∧ (IntKind.wrap .i64 (v9 + 1)) ≠ 0 ∧ ∃ b15 o16 : Nat, ptrA 1 (.slice b1 0 (Int.toNat (IntKind.wrap .i64 (n0 + 1))) (some (Int.toNat (IntKind.wrap .i64 (n0 + 1))))) (IntKind.wrap .i64 (v9 + 1)) = some (b15, o16) ∧ ∃ H17 : Heap, putA fl H12 b15 o16 1 (.int .i64 (IntKind.wrap .i64 (Int.tdiv (IntKind.wrap .i64 (e13 * (IntKind.wrap .i64 (n0 - v9)))) (IntKind.wrap .i64 (v9 + 1))))) = some H17 ∧ ∃ m18 : Nat, m18 < m8 ∧ J6 m18 (IntKind.wrap .i64 (v9 + 1)) H17) ∧ (¬(v9 < n0) → Q (.slice b1 0 (Int.toNat (IntKind.wrap .i64 (n0 + 1))) (some (Int.toNat (IntKind.wrap .i64 (n0 + 1))))) H12))) : Ret F fl me [(.int .i64 n0)] H Q := by
  refine ret_intro hF rfl ?_
  refine w_seq ?_
  refine w_run [0] ?_
  refine t_done [(.int .i64 n0), .empty, .undef, .undef, .undef, .undef, .undef] H (by kernel_rfl) ?_
  refine then_norm ?_
  refine w_seq ?_
  refine w_run [0, 0, 1, 0] ?_
  obtain ⟨hc, h⟩ := h
  obtain ⟨b1, H2, hb⟩ : ∃ b H', NewB H 1 (zeros (Int.toNat (IntKind.wrap .i64 (n0 + 1))) [(.int .i64 0)]) b H' := ⟨_, _, rfl, rfl⟩
  replace h := h b1 H2 hb
  refine t_make true 1 8 [(.int .i64 0)] (IntKind.wrap .i64 (n0 + 1)) (IntKind.wrap .i64 (n0 + 1)) b1 H2 H (by kernel_rfl) hc hb ?_
  refine t_done [(.int .i64 n0), .empty, (.slice b1 0 (Int.toNat (IntKind.wrap .i64 (n0 + 1))) (some (Int.toNat (IntKind.wrap .i64 (n0 + 1))))), .undef, .undef, .undef, .undef] H2 (by kernel_rfl) ?_
  refine then_norm ?_
  refine w_seq ?_
  refine w_run [0, 1, 1] ?_
  obtain ⟨b3, o4, hp, h⟩ := h
  refine t_idx true 1 (.slice b1 0 (Int.toNat (IntKind.wrap .i64 (n0 + 1))) (some (Int.toNat (IntKind.wrap .i64 (n0 + 1))))) .i64 0 b3 o4 H2 (by kernel_rfl) hp ?_
  obtain ⟨H5, hp, h⟩ := h
  refine t_store true 1 b3 o4 (.int .i64 1) H5 H2 (by kernel_rfl) hp ?_
  refine t_done [(.int .i64 n0), .empty, (.slice b1 0 (Int.toNat (IntKind.wrap .i64 (n0 + 1))) (some (Int.toNat (IntKind.wrap .i64 (n0 + 1))))), .undef, .undef, .undef, .undef] H5 (by kernel_rfl) ?_
  refine then_norm ?_
  refine w_seq ?_
  refine w_seq ?_
  refine w_run [0, 0] ?_
  refine t_done [(.int .i64 n0), .empty, (.slice b1 0 (Int.toNat (IntKind.wrap .i64 (n0 + 1))) (some (Int.toNat (IntKind.wrap .i64 (n0 + 1))))), (.int .i64 0), (.int .i64 n0), .undef, .undef] H5 (by kernel_rfl) ?_
  refine then_norm ?_
  refine w_block ?_
  obtain ⟨J6, k7, h0, h⟩ := h
  refine w_loop (I := fun mI EI HI => ∃ (v9 : Int) (d10 : AV) (d11 : AV), EI = [(.int .i64 n0), .empty, (.slice b1 0 (Int.toNat (IntKind.wrap .i64 (n0 + 1))) (some (Int.toNat (IntKind.wrap .i64 (n0 + 1))))), (.int .i64 v9), (.int .i64 n0), d10, d11] ∧ J6 mI v9 HI) ?_ k7 ⟨_, _, _, rfl, h0⟩
  clear h0
  rintro m8 EI H12 ⟨v9, d10, d11, rfl, hJ⟩
  replace h := h m8 v9 H12 hJ
  clear hJ
  refine w_seq ?_
  refine w_run [0] ?_
  refine t_done [(.int .i64 n0), .empty, (.slice b1 0 (Int.toNat (IntKind.wrap .i64 (n0 + 1))) (some (Int.toNat (IntKind.wrap .i64 (n0 + 1))))), (.int .i64 v9), (.int .i64 n0), (.bool (decide (v9 < n0))), d11] H12 (by kernel_rfl) ?_
  refine then_norm ?_
  refine w_seq ?_
  refine w_cond (t := (decide (v9 < n0))) rfl (fun hc => ?_) (fun hc => ?_)
  · replace h := h.1 (is_dec.t hc)
    refine w_skip ?_
    refine then_norm ?_
    refine w_seq ?_
    refine w_block ?_
    refine w_seq ?_
    refine w_run [0, 0] ?_
    refine t_done [(.int .i64 n0), .empty, (.slice b1 0 (Int.toNat (IntKind.wrap .i64 (n0 + 1))) (some (Int.toNat (IntKind.wrap .i64 (n0 + 1))))), (.int .i64 v9), (.int .i64 n0), (.bool (decide (v9 < n0))), (.int .i64 v9)] H12 (by kernel_rfl) ?_
    refine then_norm ?_
    refine w_run [0, 0, 0, 0, 0, 1, 1, 0, 0, 0, 0, 0, 0, 1, 1, 1] ?_
    obtain ⟨e13, hg14, h⟩ := h
    refine t_idxG true 1 (.slice b1 0 (Int.toNat (IntKind.wrap .i64 (n0 + 1))) (some (Int.toNat (IntKind.wrap .i64 (n0 + 1))))) .i64 v9 H12 (by kernel_rfl) hg14 ?_
    refine t_loadG true none 1 (.slice b1 0 (Int.toNat (IntKind.wrap .i64 (n0 + 1))) (some (Int.toNat (IntKind.wrap .i64 (n0 + 1))))) v9 0 (.int .i64 e13) H12 (by kernel_rfl) hg14 ?_
    obtain ⟨hq, h⟩ := h
    refine t_quo true .no .i64 (IntKind.wrap .i64 (e13 * (IntKind.wrap .i64 (n0 - v9)))) (IntKind.wrap .i64 (v9 + 1)) H12 (by kernel_rfl) hq ?_
    obtain ⟨b15, o16, hp, h⟩ := h
    refine t_idx true 1 (.slice b1 0 (Int.toNat (IntKind.wrap .i64 (n0 + 1))) (some (Int.toNat (IntKind.wrap .i64 (n0 + 1))))) .i64 (IntKind.wrap .i64 (v9 + 1)) b15 o16 H12 (by kernel_rfl) hp ?_
    obtain ⟨H17, hp, h⟩ := h
    refine t_store true 1 b15 o16 (.int .i64 (IntKind.wrap .i64 (Int.tdiv (IntKind.wrap .i64 (e13 * (IntKind.wrap .i64 (n0 - v9)))) (IntKind.wrap .i64 (v9 + 1))))) H17 H12 (by kernel_rfl) hp ?_
    refine t_done [(.int .i64 n0), .empty, (.slice b1 0 (Int.toNat (IntKind.wrap .i64 (n0 + 1))) (some (Int.toNat (IntKind.wrap .i64 (n0 + 1))))), (.int .i64 v9), (.int .i64 n0), (.bool (decide (v9 < n0))), (.int .i64 v9)] H17 (by kernel_rfl) ?_
    refine block_norm ?_
    refine then_norm ?_
    refine w_run [0, 0] ?_
    refine t_done [(.int .i64 n0), .empty, (.slice b1 0 (Int.toNat (IntKind.wrap .i64 (n0 + 1))) (some (Int.toNat (IntKind.wrap .i64 (n0 + 1))))), (.int .i64 (IntKind.wrap .i64 (v9 + 1))), (.int .i64 n0), (.bool (decide (v9 < n0))), (.int .i64 v9)] H17 (by kernel_rfl) ?_
    obtain ⟨m', hm, h⟩ := h
    refine loop_norm ⟨m', hm, _, _, _, rfl, h⟩
  · replace h := h.2 (is_dec.f hc)
    refine w_exit ?_
    refine then_exit ?_
    refine loop_exit ?_
    refine block_exit ?_
    refine then_norm ?_
    refine w_seq ?_
    refine w_run [0, 0] ?_
    refine t_done [(.int .i64 n0), (.slice b1 0 (Int.toNat (IntKind.wrap .i64 (n0 + 1))) (some (Int.toNat (IntKind.wrap .i64 (n0 + 1))))), (.slice b1 0 (Int.toNat (IntKind.wrap .i64 (n0 + 1))) (some (Int.toNat (IntKind.wrap .i64 (n0 + 1))))), (.int .i64 v9), (.int .i64 n0), (.bool (decide (v9 < n0))), d11] H12 (by kernel_rfl) ?_
    refine then_norm ?_
    refine w_ret ?_
    exact body_ret (vs := [(.slice b1 0 (Int.toNat (IntKind.wrap .i64 (n0 + 1))) (some (Int.toNat (IntKind.wrap .i64 (n0 + 1)))))]) _ (by kernel_rfl) rfl h

end Go.RM

