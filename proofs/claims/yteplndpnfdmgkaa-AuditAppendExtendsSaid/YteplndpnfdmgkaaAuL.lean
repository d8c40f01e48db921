import Derived.Test.YteplndpnfdmgkaaRmOpt3
/-
  Functions of the program as the abstract machine runs them, and what must be shown of a run: printed by RmPrint.
-/
namespace Go.RM
set_option linter.unusedVariables false
set_option maxRecDepth 4000
def rf_LauditExample (naudit_Append naudit_Query naudit_Checkpoint naudit_Fork nFEqualInts naudit_Includes naudit_Validate : Nat) : RFunc := ⟨0, 14, [.var 0],
 ((.seq (.ops [⟨.move (.k (.bool false)), none, (some 0), true⟩])
 ((.seq (.ops [⟨.callS naudit_Append [(.k (.empty)), (.k (.int .i64 3)), (.k (.int .i64 1)), (.k (.int .i64 9))], none, none, true⟩, ⟨.move (.loc 0), none, none, true⟩, ⟨.extract (.loc 1) 0, none, none, true⟩, ⟨.extract (.loc 1) 1, none, none, true⟩, ⟨.tomb 1 (.k (.agg [.int .i64 0, .int .i64 0])), none, (some 3), true⟩, ⟨.move (.loc 2), none, (some 1), true⟩, ⟨.upd 2 0 (.loc 4) (.loc 3), none, (some 3), true⟩])
 ((.seq (.ops [⟨.move (.var 1), none, none, true⟩, ⟨.callS naudit_Append [(.loc 0), (.k (.int .i64 4)), (.k (.int .i64 2)), (.k (.int .i64 9))], none, none, true⟩, ⟨.move (.loc 1), none, none, true⟩, ⟨.extract (.loc 2) 0, none, none, true⟩, ⟨.extract (.loc 2) 1, none, none, true⟩, ⟨.tomb 1 (.k (.agg [.int .i64 0, .int .i64 0])), none, (some 4), true⟩, ⟨.move (.loc 3), none, (some 2), true⟩, ⟨.upd 2 0 (.loc 5) (.loc 4), none, (some 4), true⟩])
 ((.seq (.ops [⟨.move (.var 2), none, none, true⟩, ⟨.callS naudit_Query [(.loc 0), (.k (.int .i64 2)), (.k (.int .i64 0)), (.k (.int .i64 5))], none, none, true⟩, ⟨.move (.loc 1), none, none, true⟩, ⟨.extract (.loc 2) 0, none, none, true⟩, ⟨.extract (.loc 2) 1, none, none, true⟩, ⟨.tomb 1 (.k (.agg [.int .i64 0, .int .i64 0])), none, (some 5), true⟩, ⟨.move (.loc 3), none, (some 9), true⟩, ⟨.upd 2 0 (.loc 5) (.loc 4), none, (some 5), true⟩])
 ((.seq (.ops [⟨.move (.var 1), none, none, true⟩, ⟨.callS naudit_Checkpoint [(.loc 0)], none, none, true⟩, ⟨.move (.loc 1), none, none, true⟩, ⟨.extract (.loc 2) 0, none, none, true⟩, ⟨.extract (.loc 2) 1, none, none, true⟩, ⟨.tomb 1 (.k (.agg [.int .i64 0, .int .i64 0])), none, (some 6), true⟩, ⟨.move (.loc 3), none, (some 11), true⟩, ⟨.upd 2 0 (.loc 5) (.loc 4), none, (some 6), true⟩])
 ((.seq (.ops [⟨.move (.var 1), none, none, true⟩, ⟨.move (.var 2), none, none, true⟩, ⟨.callS naudit_Fork [(.loc 0), (.loc 1)], none, none, true⟩, ⟨.move (.loc 2), none, none, true⟩, ⟨.extract (.loc 3) 0, none, none, true⟩, ⟨.extract (.loc 3) 1, none, none, true⟩, ⟨.tomb 1 (.k (.agg [.int .i64 0, .int .i64 0])), none, (some 7), true⟩, ⟨.move (.loc 4), none, (some 8), true⟩, ⟨.upd 2 0 (.loc 6) (.loc 5), none, (some 7), true⟩])
 ((.seq ((.seq (.ops [⟨.field 0 none (.var 3), none, none, true⟩, ⟨.field 0 none (.var 3), none, none, true⟩, ⟨.bin .neq .no (.loc 1) (.k (.int .i64 0)), none, none, true⟩, ⟨.move (.loc 2), none, none, true⟩, ⟨.field 0 none (.var 4), none, none, true⟩, ⟨.field 0 none (.var 4), none, none, true⟩, ⟨.bin .neq .no (.loc 5) (.k (.int .i64 0)), none, none, true⟩, ⟨.pick (.loc 3) (.k (.bool true)) (.loc 6), none, none, true⟩, ⟨.move (.loc 7), none, none, true⟩, ⟨.field 0 none (.var 5), none, none, true⟩, ⟨.field 0 none (.var 5), none, none, true⟩, ⟨.bin .neq .no (.loc 10) (.k (.int .i64 0)), none, none, true⟩, ⟨.pick (.loc 8) (.k (.bool true)) (.loc 11), none, none, true⟩, ⟨.move (.loc 12), none, none, true⟩, ⟨.field 0 none (.var 6), none, none, true⟩, ⟨.field 0 none (.var 6), none, none, true⟩, ⟨.bin .neq .no (.loc 15) (.k (.int .i64 0)), none, none, true⟩, ⟨.pick (.loc 13) (.k (.bool true)) (.loc 16), none, none, true⟩, ⟨.move (.loc 17), none, none, true⟩, ⟨.field 0 none (.var 7), none, none, true⟩, ⟨.field 0 none (.var 7), none, none, true⟩, ⟨.bin .neq .no (.loc 20) (.k (.int .i64 0)), none, none, true⟩, ⟨.pick (.loc 18) (.k (.bool true)) (.loc 21), none, none, true⟩, ⟨.move (.loc 22), none, none, true⟩, ⟨.move (.var 1), none, none, true⟩, ⟨.len (.loc 24), none, none, true⟩, ⟨.bin .neq .no (.loc 25) (.k (.int .i64 1)), none, none, true⟩, ⟨.pick (.loc 23) (.k (.bool true)) (.loc 26), none, none, true⟩, ⟨.move (.loc 27), none, none, true⟩, ⟨.move (.var 2), none, none, true⟩, ⟨.len (.loc 29), none, none, true⟩, ⟨.bin .neq .no (.loc 30) (.k (.int .i64 2)), none, none, true⟩, ⟨.pick (.loc 28) (.k (.bool true)) (.loc 31), none, none, true⟩, ⟨.move (.loc 32), none, none, true⟩, ⟨.move (.var 8), none, none, true⟩, ⟨.bin .neq .no (.loc 34) (.k (.int .i64 1)), none, none, true⟩, ⟨.pick (.loc 33) (.k (.bool true)) (.loc 35), none, none, true⟩, ⟨.move (.loc 36), none, none, true⟩, ⟨.move (.var 9), none, none, true⟩, ⟨.buildSlice 1 [.int .i64 0] [(0, 1, (.k (.int .i64 1)))] 1, (some (37, false)), none, true⟩, ⟨.callS nFEqualInts [(.loc 38), (.loc 39)], (some (37, false)), none, true⟩, ⟨.un .not (.loc 40), (some (37, false)), none, true⟩, ⟨.pick (.loc 37) (.k (.bool true)) (.loc 41), none, (some 10), true⟩])
 (.cond (.var 10) ((.seq (.ops [⟨.move (.k (.bool false)), none, (some 0), true⟩])
 (.ret))) (.skip))))
 ((.seq (.ops [⟨.move (.var 11), none, none, true⟩, ⟨.move (.var 1), none, none, true⟩, ⟨.indexAddr 4 (.loc 1) (.k (.int .i64 0)), none, none, true⟩, ⟨.load (some 4) (.loc 2), none, none, true⟩, ⟨.callS naudit_Includes [(.loc 0), (.k (.int .i64 1)), (.k (.int .i64 0)), (.k (.int .i64 0)), (.loc 3), (.k (.empty))], none, none, true⟩, ⟨.move (.loc 4), none, none, true⟩, ⟨.extract (.loc 5) 0, none, none, true⟩, ⟨.extract (.loc 5) 1, none, none, true⟩, ⟨.tomb 1 (.k (.agg [.int .i64 0, .int .i64 0])), none, (some 12), true⟩, ⟨.move (.loc 6), none, (some 13), true⟩, ⟨.upd 2 0 (.loc 8) (.loc 7), none, (some 12), true⟩])
 ((.seq (.ops [⟨.field 0 none (.var 12), none, none, true⟩, ⟨.field 0 none (.var 12), none, none, true⟩, ⟨.bin .eql .no (.loc 1) (.k (.int .i64 0)), none, none, true⟩, ⟨.move (.loc 2), none, none, true⟩, ⟨.move (.var 13), none, none, true⟩, ⟨.pick (.loc 3) (.loc 4) (.k (.bool false)), none, none, true⟩, ⟨.move (.loc 5), none, none, true⟩, ⟨.move (.var 2), none, none, true⟩, ⟨.callS naudit_Validate [(.loc 7)], (some (6, true)), none, true⟩, ⟨.field 0 none (.loc 8), (some (6, true)), none, true⟩, ⟨.bin .eql .no (.loc 9) (.k (.int .i64 0)), (some (6, true)), none, true⟩, ⟨.pick (.loc 6) (.loc 10) (.k (.bool false)), none, none, true⟩, ⟨.move (.loc 11), none, (some 0), true⟩])
 (.ret))))))))))))))))))), none⟩
theorem v_LauditExample {F : Nat → Option RFunc} {me naudit_Append naudit_Query naudit_Checkpoint naudit_Fork nFEqualInts naudit_Includes naudit_Validate : Nat} (hF : F me = some (rf_LauditExample naudit_Append naudit_Query naudit_Checkpoint naudit_Fork nFEqualInts naudit_Includes naudit_Validate)) {fl : Nat} {H : Heap} {Q : AV → Heap → Prop} 
  (h : Ret F fl naudit_Append [.empty, (.int .i64 3), (.int .i64 1), (.int .i64 9)] H (fun v4 H3 => ∃ (r0 : AV) (r1 : Int) (r2 : Int), v4 = (.tuple [r0, (.agg [(.int .i64 r1), (.int .i64 r2)])]) ∧ ∀ (H5 : Heap), Dead1 H3 1 H5 → Ret F fl naudit_Append [r0, (.int .i64 4), (.int .i64 2), (.int .i64 9)] H5 (fun v10 H9 => ∃ (r6 : AV) (r7 : Int) (r8 : Int), v10 = (.tuple [r6, (.agg [(.int .i64 r7), (.int .i64 r8)])]) ∧ ∀ (H11 : Heap), Dead1 H9 1 H11 → Ret F fl naudit_Query [r6, (.int .i64 2), (.int .i64 0), (.int .i64 5)] H11 (fun v16 H15 => ∃ (r12 : AV) (r13 : Int) (r14 : Int), v16 = (.tuple [r12, (.agg [(.int .i64 r13), (.int .i64 r14)])]) ∧ ∀ (H17 : Heap), Dead1 H15 1 H17 → Ret F fl naudit_Checkpoint [r0] H17 (fun v22 H21 => ∃ (r18 : Int) (r19 : Int) (r20 : Int), v22 = (.tuple [(.int .i64 r18), (.agg [(.int .i64 r19), (.int .i64 r20)])]) ∧ ∀ (H23 : Heap), Dead1 H21 1 H23 → Ret F fl naudit_Fork [r0, r6] H23 (fun v28 H27 => ∃ (r24 : Int) (r25 : Int) (r26 : Int), v28 = (.tuple [(.int .i64 r24), (.agg [(.int .i64 r25), (.int .i64 r26)])]) ∧ ∀ (H29 : Heap), Dead1 H27 1 H29 → ∃ len30 : Nat, lenA r0 = some len30 ∧ ∃ len31 : Nat, lenA r6 = some len31 ∧ ((((((((((((((((r1 ≠ 0) ∨ (r7 ≠ 0))) ∨ (r13 ≠ 0))) ∨ (r19 ≠ 0))) ∨ (r25 ≠ 0))) ∨ ((len30 : Int) ≠ 1))) ∨ ((len31 : Int) ≠ 2))) ∨ (r24 ≠ 1))) → Q (.bool false) H29) ∧ (¬(((((((((((((((r1 ≠ 0) ∨ (r7 ≠ 0))) ∨ (r13 ≠ 0))) ∨ (r19 ≠ 0))) ∨ (r25 ≠ 0))) ∨ ((len30 : Int) ≠ 1))) ∨ ((len31 : Int) ≠ 2))) ∨ (r24 ≠ 1))) → ∀ (b32 : Nat) (H33 : Heap), NewB H29 1 [(.int .i64 1)] b32 H33 → Ret F fl nFEqualInts [r12, (.slice b32 0 1 (some 1))] H33 (fun v36 H35 => ∃ (r34 : Bool), v36 = (.bool r34) ∧ ((¬(r34 = true)) → Q (.bool false) H35) ∧ (¬(¬(r34 = true)) → ∃ (e37 : Int) (e38 : Int) (e39 : Int) (e40 : Int), getA H35 4 (some 4) r0 0 0 = some (.agg [(.int .i64 e37), (.int .i64 e38), (.int .i64 e39), (.int .i64 e40)]) ∧ Ret F fl naudit_Includes [(.int .i64 r18), (.int .i64 1), (.int .i64 0), (.int .i64 0), (.agg [(.int .i64 e37), (.int .i64 e38), (.int .i64 e39), (.int .i64 e40)]), .empty] H35 (fun v46 H45 => ∃ (r42 : Bool) (r43 : Int) (r44 : Int), v46 = (.tuple [(.bool r42), (.agg [(.int .i64 r43), (.int .i64 r44)])]) ∧ ∀ (H47 : Heap), Dead1 H45 1 H47 → ((((r43 = 0) ∧ (r42 = true))) → Ret F fl naudit_Validate [r6] H47 (fun v51 H50 => ∃ (r48 : Int) (r49 : Int), v51 = (.agg [(.int .i64 r48), (.int .i64 r49)]) ∧ Q (.bool ((r48) == 0)) H50)) ∧ (¬(((r43 = 0) ∧ (r42 = true))) → Q (.bool false) H47))))))))))) : Ret F fl me [] H Q := by
  refine ret_intro hF rfl ?_
  refine w_seq ?_
  refine w_run [0] ?_
  refine t_done [(.bool false), .undef, .undef, .undef, .undef, .undef, .undef, .undef, .undef, .undef, .undef, .undef, .undef, .undef] H (by kernel_rfl) ?_
  refine then_norm ?_
  refine w_seq ?_
  refine w_run [1, 0, 0, 0, 1, 0, 1] ?_
  refine t_call true naudit_Append [.empty, (.int .i64 3), (.int .i64 1), (.int .i64 9)] H (by kernel_rfl) h ?_
  clear h
  rintro _ H3 ⟨r0, r1, r2, rfl, h⟩
  obtain ⟨H5, hb⟩ : ∃ H', Dead1 H3 1 H' := ⟨_, ⟨rfl⟩⟩
  replace h := h H5 hb
  refine t_tomb true 1 (.agg [(.int .i64 0), (.int .i64 0)]) [(.int .i64 0), (.int .i64 0)] H5 H3 (by kernel_rfl) rfl hb ?_
  refine t_upd true 2 0 [(.int .i64 0), (.int .i64 0)] (.agg [(.int .i64 r1), (.int .i64 r2)]) [(.int .i64 r1), (.int .i64 r2)] [(.int .i64 r1), (.int .i64 r2)] H5 (by kernel_rfl) rfl (all_c rfl (all_c rfl all_n)) ⟨rfl, Nat.le_of_ble_eq_true (by kernel_rfl), rfl⟩ ?_
  refine t_done [(.bool false), r0, .undef, (.agg [(.int .i64 r1), (.int .i64 r2)]), .undef, .undef, .undef, .undef, .undef, .undef, .undef, .undef, .undef, .undef] H5 (by kernel_rfl) ?_
  refine then_norm ?_
  refine w_seq ?_
  refine w_run [0, 1, 0, 0, 0, 1, 0, 1] ?_
  refine t_call true naudit_Append [r0, (.int .i64 4), (.int .i64 2), (.int .i64 9)] H5 (by kernel_rfl) h ?_
  clear h
  rintro _ H9 ⟨r6, r7, r8, rfl, h⟩
  obtain ⟨H11, hb⟩ : ∃ H', Dead1 H9 1 H' := ⟨_, ⟨rfl⟩⟩
  replace h := h H11 hb
  refine t_tomb true 1 (.agg [(.int .i64 0), (.int .i64 0)]) [(.int .i64 0), (.int .i64 0)] H11 H9 (by kernel_rfl) rfl hb ?_
  refine t_upd true 2 0 [(.int .i64 0), (.int .i64 0)] (.agg [(.int .i64 r7), (.int .i64 r8)]) [(.int .i64 r7), (.int .i64 r8)] [(.int .i64 r7), (.int .i64 r8)] H11 (by kernel_rfl) rfl (all_c rfl (all_c rfl all_n)) ⟨rfl, Nat.le_of_ble_eq_true (by kernel_rfl), rfl⟩ ?_
  refine t_done [(.bool false), r0, r6, (.agg [(.int .i64 r1), (.int .i64 r2)]), (.agg [(.int .i64 r7), (.int .i64 r8)]), .undef, .undef, .undef, .undef, .undef, .undef, .undef, .undef, .undef] H11 (by kernel_rfl) ?_
  refine then_norm ?_
  refine w_seq ?_
  refine w_run [0, 1, 0, 0, 0, 1, 0, 1] ?_
  refine t_call true naudit_Query [r6, (.int .i64 2), (.int .i64 0), (.int .i64 5)] H11 (by kernel_rfl) h ?_
  clear h
  rintro _ H15 ⟨r12, r13, r14, rfl, h⟩
  obtain ⟨H17, hb⟩ : ∃ H', Dead1 H15 1 H' := ⟨_, ⟨rfl⟩⟩
  replace h := h H17 hb
  refine t_tomb true 1 (.agg [(.int .i64 0), (.int .i64 0)]) [(.int .i64 0), (.int .i64 0)] H17 H15 (by kernel_rfl) rfl hb ?_
  refine t_upd true 2 0 [(.int .i64 0), (.int .i64 0)] (.agg [(.int .i64 r13), (.int .i64 r14)]) [(.int .i64 r13), (.int .i64 r14)] [(.int .i64 r13), (.int .i64 r14)] H17 (by kernel_rfl) rfl (all_c rfl (all_c rfl all_n)) ⟨rfl, Nat.le_of_ble_eq_true (by kernel_rfl), rfl⟩ ?_
  refine t_done [(.bool false), r0, r6, (.agg [(.int .i64 r1), (.int .i64 r2)]), (.agg [(.int .i64 r7), (.int .i64 r8)]), (.agg [(.int .i64 r13), (.int .i64 r14)]), .undef, .undef, .undef, r12, .undef, .undef, .undef, .undef] H17 (by kernel_rfl) ?_
  refine then_norm ?_
  refine w_seq ?_
  refine w_run [0, 1, 0, 0, 0, 1, 0, 1] ?_
  refine t_call true naudit_Checkpoint [r0] H17 (by kernel_rfl) h ?_
  clear h
  rintro _ H21 ⟨r18, r19, r20, rfl, h⟩
  obtain ⟨H23, hb⟩ : ∃ H', Dead1 H21 1 H' := ⟨_, ⟨rfl⟩⟩
  replace h := h H23 hb
  refine t_tomb true 1 (.agg [(.int .i64 0), (.int .i64 0)]) [(.int .i64 0), (.int .i64 0)] H23 H21 (by kernel_rfl) rfl hb ?_
  refine t_upd true 2 0 [(.int .i64 0), (.int .i64 0)] (.agg [(.int .i64 r19), (.int .i64 r20)]) [(.int .i64 r19), (.int .i64 r20)] [(.int .i64 r19), (.int .i64 r20)] H23 (by kernel_rfl) rfl (all_c rfl (all_c rfl all_n)) ⟨rfl, Nat.le_of_ble_eq_true (by kernel_rfl), rfl⟩ ?_
  refine t_done [(.bool false), r0, r6, (.agg [(.int .i64 r1), (.int .i64 r2)]), (.agg [(.int .i64 r7), (.int .i64 r8)]), (.agg [(.int .i64 r13), (.int .i64 r14)]), (.agg [(.int .i64 r19), (.int .i64 r20)]), .undef, .undef, r12, .undef, (.int .i64 r18), .undef, .undef] H23 (by kernel_rfl) ?_
  refine then_norm ?_
  refine w_seq ?_
  refine w_run [0, 0, 1, 0, 0, 0, 1, 0, 1] ?_
  refine t_call true naudit_Fork [r0, r6] H23 (by kernel_rfl) h ?_
  clear h
  rintro _ H27 ⟨r24, r25, r26, rfl, h⟩
  obtain ⟨H29, hb⟩ : ∃ H', Dead1 H27 1 H' := ⟨_, ⟨rfl⟩⟩
  replace h := h H29 hb
  refine t_tomb true 1 (.agg [(.int .i64 0), (.int .i64 0)]) [(.int .i64 0), (.int .i64 0)] H29 H27 (by kernel_rfl) rfl hb ?_
  refine t_upd true 2 0 [(.int .i64 0), (.int .i64 0)] (.agg [(.int .i64 r25), (.int .i64 r26)]) [(.int .i64 r25), (.int .i64 r26)] [(.int .i64 r25), (.int .i64 r26)] H29 (by kernel_rfl) rfl (all_c rfl (all_c rfl all_n)) ⟨rfl, Nat.le_of_ble_eq_true (by kernel_rfl), rfl⟩ ?_
  refine t_done [(.bool false), r0, r6, (.agg [(.int .i64 r1), (.int .i64 r2)]), (.agg [(.int .i64 r7), (.int .i64 r8)]), (.agg [(.int .i64 r13), (.int .i64 r14)]), (.agg [(.int .i64 r19), (.int .i64 r20)]), (.agg [(.int .i64 r25), (.int .i64 r26)]), (.int .i64 r24), r12, .undef, (.int .i64 r18), .undef, .undef] H29 (by kernel_rfl) ?_
  refine then_norm ?_
  refine w_seq ?_
  refine w_seq ?_
  refine w_run [0, 0, 0, 0, 0, 0, 0, 0, 0, 0, 0, 0, 0, 0, 0, 0, 0, 0, 0, 0, 0, 0, 0, 0, 0, 1, 0, 0, 0, 0, 1, 0, 0, 0, 0, 0, 0, 0, 0, 3, 3, 2, 0] ?_
  obtain ⟨len30, hl, h⟩ := h
  refine t_len true r0 len30 H29 (by kernel_rfl) hl ?_
  obtain ⟨len31, hl, h⟩ := h
  refine t_len true r6 len31 H29 (by kernel_rfl) hl ?_
  refine t_gd (((((((((r1) != 0) || ((r7) != 0)) || ((r13) != 0)) || ((r19) != 0)) || ((r25) != 0)) || (((len30 : Int)) != 1)) || (((len31 : Int)) != 2)) || ((r24) != 1)) false (by kernel_rfl) (fun hc => ?_) (fun hc => ?_)
  · replace h := h.2 ((is_or (is_or (is_or (is_or (is_or (is_or (is_or is_ne is_ne) is_ne) is_ne) is_ne) is_ne) is_ne) is_ne).f hc)
    obtain ⟨b32, H33, hb⟩ : ∃ b H', NewB H29 1 [(.int .i64 1)] b H' := ⟨_, _, rfl, rfl⟩
    replace h := h b32 H33 hb
    refine t_bs true 1 [(.int .i64 0)] [(0, 1, .loc 0)] 1 [(.int .i64 1)] [(.int .i64 1)] b32 H33 H29 (by kernel_rfl) (fill_c (vs := [(.int .i64 1)]) (size := 1) rfl (by kernel_rfl) (by kernel_rfl) (by kernel_rfl)) hb ?_
    refine t_gd false false (by kernel_rfl) (fun _ => ?_) (fun hn => by cases hn)
    refine t_call true nFEqualInts [r12, (.slice b32 0 1 (some 1))] H33 (by kernel_rfl) h ?_
    clear h
    rintro _ H35 ⟨r34, rfl, h⟩
    refine t_gd false false (by kernel_rfl) (fun _ => ?_) (fun hn => by cases hn)
    refine t_done [(.bool false), r0, r6, (.agg [(.int .i64 r1), (.int .i64 r2)]), (.agg [(.int .i64 r7), (.int .i64 r8)]), (.agg [(.int .i64 r13), (.int .i64 r14)]), (.agg [(.int .i64 r19), (.int .i64 r20)]), (.agg [(.int .i64 r25), (.int .i64 r26)]), (.int .i64 r24), r12, (.bool (!r34)), (.int .i64 r18), .undef, .undef] H35 (by kernel_rfl) ?_
    refine then_norm ?_
    refine w_cond (t := (!r34)) rfl (fun hc => ?_) (fun hc => ?_)
    · replace h := h.1 ((is_not is_raw).t hc)
      refine w_seq ?_
      refine w_run [0] ?_
      refine t_done [(.bool false), r0, r6, (.agg [(.int .i64 r1), (.int .i64 r2)]), (.agg [(.int .i64 r7), (.int .i64 r8)]), (.agg [(.int .i64 r13), (.int .i64 r14)]), (.agg [(.int .i64 r19), (.int .i64 r20)]), (.agg [(.int .i64 r25), (.int .i64 r26)]), (.int .i64 r24), r12, (.bool (!r34)), (.int .i64 r18), .undef, .undef] H35 (by kernel_rfl) ?_
      refine then_norm ?_
      refine w_ret ?_
      refine then_ret ?_
      exact body_ret (vs := [(.bool false)]) _ (by kernel_rfl) rfl h
    · replace h := h.2 ((is_not is_raw).f hc)
      refine w_skip ?_
      refine then_norm ?_
      refine w_seq ?_
      refine w_run [0, 0, 1, 1, 1, 0, 0, 0, 1, 0, 1] ?_
      obtain ⟨e37, e38, e39, e40, hg41, h⟩ := h
      refine t_idxG true 4 r0 .i64 0 H35 (by kernel_rfl) hg41 ?_
      refine t_loadG true (some 4) 4 r0 0 0 (.agg [(.int .i64 e37), (.int .i64 e38), (.int .i64 e39), (.int .i64 e40)]) H35 (by kernel_rfl) hg41 ?_
      refine t_call true naudit_Includes [(.int .i64 r18), (.int .i64 1), (.int .i64 0), (.int .i64 0), (.agg [(.int .i64 e37), (.int .i64 e38), (.int .i64 e39), (.int .i64 e40)]), .empty] H35 (by kernel_rfl) h ?_
      clear h
      rintro _ H45 ⟨r42, r43, r44, rfl, h⟩
      obtain ⟨H47, hb⟩ : ∃ H', Dead1 H45 1 H' := ⟨_, ⟨rfl⟩⟩
      replace h := h H47 hb
      refine t_tomb true 1 (.agg [(.int .i64 0), (.int .i64 0)]) [(.int .i64 0), (.int .i64 0)] H47 H45 (by kernel_rfl) rfl hb ?_
      refine t_upd true 2 0 [(.int .i64 0), (.int .i64 0)] (.agg [(.int .i64 r43), (.int .i64 r44)]) [(.int .i64 r43), (.int .i64 r44)] [(.int .i64 r43), (.int .i64 r44)] H47 (by kernel_rfl) rfl (all_c rfl (all_c rfl all_n)) ⟨rfl, Nat.le_of_ble_eq_true (by kernel_rfl), rfl⟩ ?_
      refine t_done [(.bool false), r0, r6, (.agg [(.int .i64 r1), (.int .i64 r2)]), (.agg [(.int .i64 r7), (.int .i64 r8)]), (.agg [(.int .i64 r13), (.int .i64 r14)]), (.agg [(.int .i64 r19), (.int .i64 r20)]), (.agg [(.int .i64 r25), (.int .i64 r26)]), (.int .i64 r24), r12, (.bool (!r34)), (.int .i64 r18), (.agg [(.int .i64 r43), (.int .i64 r44)]), (.bool r42)] H47 (by kernel_rfl) ?_
      refine then_norm ?_
      refine w_seq ?_
      refine w_run [0, 0, 0, 0, 0, 0, 0, 0, 3, 2, 2, 0, 0] ?_
      refine t_gd (((r43) == 0) && r42) true (by kernel_rfl) (fun hc => ?_) (fun hc => ?_)
      · replace h := h.1 ((is_and is_eq is_raw).t hc)
        refine t_call true naudit_Validate [r6] H47 (by kernel_rfl) h ?_
        clear h
        rintro _ H50 ⟨r48, r49, rfl, h⟩
        refine t_gd true true (by kernel_rfl) (fun _ => ?_) (fun hn => by cases hn)
        refine t_gd true true (by kernel_rfl) (fun _ => ?_) (fun hn => by cases hn)
        refine t_done [(.bool ((r48) == 0)), r0, r6, (.agg [(.int .i64 r1), (.int .i64 r2)]), (.agg [(.int .i64 r7), (.int .i64 r8)]), (.agg [(.int .i64 r13), (.int .i64 r14)]), (.agg [(.int .i64 r19), (.int .i64 r20)]), (.agg [(.int .i64 r25), (.int .i64 r26)]), (.int .i64 r24), r12, (.bool (!r34)), (.int .i64 r18), (.agg [(.int .i64 r43), (.int .i64 r44)]), (.bool r42)] H50 (by kernel_rfl) ?_
        refine then_norm ?_
        refine w_ret ?_
        exact body_ret (vs := [(.bool ((r48) == 0))]) _ (by kernel_rfl) rfl h
      · replace h := h.2 ((is_and is_eq is_raw).f hc)
        refine t_gd false true (by kernel_rfl) (fun hn => by cases hn) (fun _ => ?_)
        refine t_gd false true (by kernel_rfl) (fun hn => by cases hn) (fun _ => ?_)
        refine t_done [(.bool false), r0, r6, (.agg [(.int .i64 r1), (.int .i64 r2)]), (.agg [(.int .i64 r7), (.int .i64 r8)]), (.agg [(.int .i64 r13), (.int .i64 r14)]), (.agg [(.int .i64 r19), (.int .i64 r20)]), (.agg [(.int .i64 r25), (.int .i64 r26)]), (.int .i64 r24), r12, (.bool (!r34)), (.int .i64 r18), (.agg [(.int .i64 r43), (.int .i64 r44)]), (.bool r42)] H47 (by kernel_rfl) ?_
        refine then_norm ?_
        refine w_ret ?_
        exact body_ret (vs := [(.bool false)]) _ (by kernel_rfl) rfl h
  · replace h := h.1 ((is_or (is_or (is_or (is_or (is_or (is_or (is_or is_ne is_ne) is_ne) is_ne) is_ne) is_ne) is_ne) is_ne).t hc)
    refine t_gd true false (by kernel_rfl) (fun hn => by cases hn) (fun _ => ?_)
    refine t_gd true false (by kernel_rfl) (fun hn => by cases hn) (fun _ => ?_)
    refine t_done [(.bool false), r0, r6, (.agg [(.int .i64 r1), (.int .i64 r2)]), (.agg [(.int .i64 r7), (.int .i64 r8)]), (.agg [(.int .i64 r13), (.int .i64 r14)]), (.agg [(.int .i64 r19), (.int .i64 r20)]), (.agg [(.int .i64 r25), (.int .i64 r26)]), (.int .i64 r24), r12, (.bool true), (.int .i64 r18), .undef, .undef] H29 (by kernel_rfl) ?_
    refine then_norm ?_
    refine w_cond (t := true) rfl (fun _ => ?_) (fun hc => by cases hc)
    refine w_seq ?_
    refine w_run [0] ?_
    refine t_done [(.bool false), r0, r6, (.agg [(.int .i64 r1), (.int .i64 r2)]), (.agg [(.int .i64 r7), (.int .i64 r8)]), (.agg [(.int .i64 r13), (.int .i64 r14)]), (.agg [(.int .i64 r19), (.int .i64 r20)]), (.agg [(.int .i64 r25), (.int .i64 r26)]), (.int .i64 r24), r12, (.bool true), (.int .i64 r18), .undef, .undef] H29 (by kernel_rfl) ?_
    refine then_norm ?_
    refine w_ret ?_
    refine then_ret ?_
    exact body_ret (vs := [(.bool false)]) _ (by kernel_rfl) rfl h

def rf_LAuditFunctionsMatchSpec (nFLogFault naudit_Append naudit_Query naudit_Fork nLauditExample naudit_Validate nFRecordValid nFFault nFChain nFEqualRecords nFEqualInts : Nat) : RFunc := ⟨5, 36, [.var 5],
 ((.seq (.ops [⟨.tomb 1 (.var 2), none, (some 6), true⟩, ⟨.move (.k (.bool false)), none, (some 5), true⟩])
 ((.seq (.ops [⟨.move (.var 0), none, none, true⟩, ⟨.callS nFLogFault [(.loc 0)], none, none, true⟩, ⟨.tomb 1 (.k (.agg [.int .i64 0, .int .i64 0])), none, (some 7), true⟩, ⟨.upd 2 0 (.loc 2) (.loc 1), none, (some 7), true⟩])
 ((.seq (.ops [⟨.move (.var 0), none, none, true⟩, ⟨.field 0 none (.var 6), none, none, true⟩, ⟨.field 0 none (.var 6), none, none, true⟩, ⟨.field 0 none (.var 6), none, none, true⟩, ⟨.field 1 none (.var 6), none, none, true⟩, ⟨.field 0 none (.var 6), none, none, true⟩, ⟨.field 2 none (.var 6), none, none, true⟩, ⟨.callS naudit_Append [(.loc 0), (.loc 2), (.loc 4), (.loc 6)], none, none, true⟩, ⟨.move (.loc 7), none, none, true⟩, ⟨.extract (.loc 8) 0, none, none, true⟩, ⟨.extract (.loc 8) 1, none, none, true⟩, ⟨.tomb 1 (.k (.agg [.int .i64 0, .int .i64 0])), none, (some 10), true⟩, ⟨.move (.loc 9), none, (some 13), true⟩, ⟨.upd 2 0 (.loc 11) (.loc 10), none, (some 10), true⟩])
 ((.seq (.ops [⟨.move (.var 0), none, none, true⟩, ⟨.move (.var 3), none, none, true⟩, ⟨.field 0 none (.var 6), none, none, true⟩, ⟨.field 0 none (.var 6), none, none, true⟩, ⟨.move (.var 4), none, none, true⟩, ⟨.callS naudit_Query [(.loc 0), (.loc 1), (.loc 3), (.loc 4)], none, none, true⟩, ⟨.move (.loc 5), none, none, true⟩, ⟨.extract (.loc 6) 0, none, none, true⟩, ⟨.extract (.loc 6) 1, none, none, true⟩, ⟨.tomb 1 (.k (.agg [.int .i64 0, .int .i64 0])), none, (some 11), true⟩, ⟨.move (.loc 7), none, (some 14), true⟩, ⟨.upd 2 0 (.loc 9) (.loc 8), none, (some 11), true⟩])
 ((.seq (.ops [⟨.move (.var 0), none, none, true⟩, ⟨.move (.var 1), none, none, true⟩, ⟨.callS naudit_Fork [(.loc 0), (.loc 1)], none, none, true⟩, ⟨.move (.loc 2), none, none, true⟩, ⟨.extract (.loc 3) 0, none, none, true⟩, ⟨.extract (.loc 3) 1, none, none, true⟩, ⟨.tomb 1 (.k (.agg [.int .i64 0, .int .i64 0])), none, (some 12), true⟩, ⟨.move (.loc 4), none, (some 15), true⟩, ⟨.upd 2 0 (.loc 6) (.loc 5), none, (some 12), true⟩])
 ((.seq ((.seq (.ops [⟨.callS nLauditExample [], none, none, true⟩, ⟨.un .not (.loc 0), none, none, true⟩, ⟨.move (.loc 1), none, none, true⟩, ⟨.move (.var 0), none, none, false⟩, ⟨.callS naudit_Validate [(.loc 3)], (some (2, false)), none, false⟩, ⟨.field 0 (some 2) (.var 7), none, none, false⟩, ⟨.bin .neq (.agg [.int, .int]) (.loc 4) (.loc 5), (some (2, false)), none, true⟩, ⟨.pick (.loc 2) (.k (.bool true)) (.loc 6), none, (some 8), true⟩])
 (.cond (.var 8) ((.seq (.ops [⟨.move (.k (.bool false)), none, (some 5), true⟩])
 (.ret))) (.skip))))
 ((.seq ((.seq (.ops [⟨.field 0 none (.var 7), none, none, true⟩, ⟨.field 0 none (.var 7), none, none, true⟩, ⟨.bin .neq .no (.loc 1) (.k (.int .i64 0)), none, (some 9), true⟩])
 (.cond (.var 9) ((.seq (.ops [⟨.field 0 (some 2) (.var 10), none, none, true⟩, ⟨.field 0 (some 2) (.var 7), none, none, true⟩, ⟨.bin .eql (.agg [.int, .int]) (.loc 0) (.loc 1), none, none, true⟩, ⟨.move (.loc 2), none, none, true⟩, ⟨.field 0 (some 2) (.var 11), none, none, true⟩, ⟨.field 0 (some 2) (.var 7), none, none, true⟩, ⟨.bin .eql (.agg [.int, .int]) (.loc 4) (.loc 5), none, none, true⟩, ⟨.pick (.loc 3) (.loc 6) (.k (.bool false)), none, none, true⟩, ⟨.move (.loc 7), none, none, true⟩, ⟨.field 0 (some 2) (.var 12), none, none, true⟩, ⟨.field 0 (some 2) (.var 7), none, none, true⟩, ⟨.bin .eql (.agg [.int, .int]) (.loc 9) (.loc 10), none, none, true⟩, ⟨.pick (.loc 8) (.loc 11) (.k (.bool false)), none, none, true⟩, ⟨.move (.loc 12), none, none, true⟩, ⟨.move (.var 13), none, none, true⟩, ⟨.len (.loc 14), none, none, true⟩, ⟨.bin .eql .no (.loc 15) (.k (.int .i64 0)), none, none, true⟩, ⟨.pick (.loc 13) (.loc 16) (.k (.bool false)), none, none, true⟩, ⟨.move (.loc 17), none, none, true⟩, ⟨.move (.var 14), none, none, true⟩, ⟨.len (.loc 19), none, none, true⟩, ⟨.bin .eql .no (.loc 20) (.k (.int .i64 0)), none, none, true⟩, ⟨.pick (.loc 18) (.loc 21) (.k (.bool false)), none, none, true⟩, ⟨.move (.loc 22), none, none, true⟩, ⟨.move (.var 15), none, none, true⟩, ⟨.bin .eql .no (.loc 24) (.k (.int .i64 0)), none, none, true⟩, ⟨.pick (.loc 23) (.loc 25) (.k (.bool false)), none, none, true⟩, ⟨.move (.loc 26), none, (some 5), true⟩])
 (.ret))) (.skip))))
 ((.seq (.ops [⟨.tomb 1 (.k (.agg [.int .i64 0, .int .i64 0, .int .i64 0, .int .i64 0])), none, (some 17), true⟩])
 ((.seq ((.seq (.ops [⟨.move (.var 0), none, none, true⟩, ⟨.len (.loc 0), none, none, true⟩, ⟨.bin .gtr .no (.loc 1) (.k (.int .i64 0)), none, (some 16), true⟩])
 (.cond (.var 16) (.ops [⟨.move (.var 0), none, none, true⟩, ⟨.move (.var 0), none, none, true⟩, ⟨.len (.loc 1), none, none, true⟩, ⟨.bin .sub .no (.loc 2) (.k (.int .i64 1)), none, none, true⟩, ⟨.indexAddr 4 (.loc 0) (.loc 3), none, none, true⟩, ⟨.load (some 4) (.loc 4), none, none, true⟩, ⟨.upd 4 0 (.var 17) (.loc 5), none, (some 17), true⟩]) (.skip))))
 ((.seq (.ops [⟨.field 0 none (.var 6), none, none, true⟩, ⟨.field 0 none (.var 6), none, none, true⟩, ⟨.field 0 none (.var 6), none, none, true⟩, ⟨.field 1 none (.var 6), none, none, true⟩, ⟨.field 0 none (.var 6), none, none, true⟩, ⟨.field 2 none (.var 6), none, none, true⟩, ⟨.build [.int .i64 0, .int .i64 0, .int .i64 0, .int .i64 0] [(0, 1, (.loc 1)), (1, 1, (.loc 3)), (2, 1, (.loc 5))], none, none, true⟩, ⟨.tomb 1 (.k (.agg [.int .i64 0, .int .i64 0, .int .i64 0, .int .i64 0])), none, (some 18), true⟩, ⟨.upd 4 0 (.loc 7) (.loc 6), none, (some 18), true⟩])
 ((.seq (.ops [⟨.build [.int .i64 0, .int .i64 0] [], none, none, true⟩, ⟨.tomb 1 (.k (.agg [.int .i64 0, .int .i64 0])), none, (some 20), true⟩, ⟨.upd 2 0 (.loc 1) (.loc 0), none, (some 20), true⟩])
 ((.seq ((.seq (.ops [⟨.field 0 (some 4) (.var 18), none, none, true⟩, ⟨.callS nFRecordValid [(.loc 0)], none, none, true⟩, ⟨.un .not (.loc 1), none, (some 19), true⟩])
 (.cond (.var 19) (.ops [⟨.callS nFFault [(.k (.int .i64 3)), (.k (.int .i64 (-2)))], none, none, true⟩, ⟨.upd 2 0 (.var 20) (.loc 0), none, (some 20), true⟩]) ((.seq (.ops [⟨.field 0 none (.var 18), none, none, true⟩, ⟨.field 0 none (.var 18), none, none, true⟩, ⟨.field 0 none (.var 17), none, none, true⟩, ⟨.field 0 none (.var 17), none, none, true⟩, ⟨.bin .lss .no (.loc 1) (.loc 3), none, (some 21), true⟩])
 (.cond (.var 21) (.ops [⟨.callS nFFault [(.k (.int .i64 16)), (.k (.int .i64 (-2)))], none, none, true⟩, ⟨.upd 2 0 (.var 20) (.loc 0), none, (some 20), true⟩]) ((.seq (.ops [⟨.move (.var 0), none, none, true⟩, ⟨.len (.loc 0), none, none, true⟩, ⟨.bin .eql .no (.loc 1) (.k (.int .i64 40)), none, (some 22), true⟩])
 (.cond (.var 22) (.ops [⟨.callS nFFault [(.k (.int .i64 14)), (.k (.int .i64 (-2)))], none, none, true⟩, ⟨.upd 2 0 (.var 20) (.loc 0), none, (some 20), true⟩]) (.skip))))))))))
 ((.seq ((.seq (.ops [⟨.field 0 none (.var 20), none, none, true⟩, ⟨.field 0 none (.var 20), none, none, true⟩, ⟨.bin .neq .no (.loc 1) (.k (.int .i64 0)), none, (some 23), true⟩])
 (.cond (.var 23) ((.seq (.ops [⟨.field 0 (some 2) (.var 10), none, none, true⟩, ⟨.field 0 (some 2) (.var 20), none, none, true⟩, ⟨.bin .neq (.agg [.int, .int]) (.loc 0) (.loc 1), none, none, true⟩, ⟨.move (.loc 2), none, none, true⟩, ⟨.move (.var 13), none, none, true⟩, ⟨.len (.loc 4), none, none, true⟩, ⟨.bin .gtr .no (.loc 5) (.k (.int .i64 0)), none, none, true⟩, ⟨.pick (.loc 3) (.k (.bool true)) (.loc 6), none, (some 24), true⟩])
 (.cond (.var 24) ((.seq (.ops [⟨.move (.k (.bool false)), none, (some 5), true⟩])
 (.ret))) (.skip)))) ((.seq (.ops [⟨.field 0 none (.var 17), none, none, true⟩, ⟨.field 3 none (.var 17), none, none, true⟩, ⟨.field 0 (some 4) (.var 18), none, none, true⟩, ⟨.callS nFChain [(.loc 1), (.loc 2)], none, none, true⟩, ⟨.field 0 none (.var 18), none, none, true⟩, ⟨.upd 1 3 (.var 18) (.loc 3), none, (some 18), true⟩])
 ((.seq (.ops [⟨.field 0 none (.var 10), none, none, true⟩, ⟨.field 0 none (.var 10), none, none, true⟩, ⟨.bin .neq .no (.loc 1) (.k (.int .i64 0)), none, none, true⟩, ⟨.move (.loc 2), none, none, true⟩, ⟨.move (.var 13), none, none, false⟩, ⟨.move (.var 0), none, none, false⟩, ⟨.append 4 32 (.k (.empty)) (.loc 5), (some (3, false)), none, false⟩, ⟨.field 0 (some 4) (.var 18), none, none, false⟩, ⟨.buildSlice 4 [.int .i64 0, .int .i64 0, .int .i64 0, .int .i64 0] [(0, 4, (.loc 7))] 1, (some (3, false)), none, false⟩, ⟨.append 4 32 (.loc 6) (.loc 8), (some (3, false)), none, true⟩, ⟨.callS nFEqualRecords [(.loc 4), (.loc 9)], (some (3, false)), none, true⟩, ⟨.un .not (.loc 10), (some (3, false)), none, true⟩, ⟨.pick (.loc 3) (.k (.bool true)) (.loc 11), none, (some 25), true⟩])
 (.cond (.var 25) ((.seq (.ops [⟨.move (.k (.bool false)), none, (some 5), true⟩])
 (.ret))) (.skip)))))))))
 ((.seq ((.seq (.ops [⟨.move (.var 3), none, none, true⟩, ⟨.bin .lss .no (.loc 0) (.k (.int .i64 (-1))), none, none, true⟩, ⟨.move (.loc 1), none, none, true⟩, ⟨.move (.var 3), none, none, true⟩, ⟨.bin .gtr .no (.loc 3) (.k (.int .i64 7)), none, none, true⟩, ⟨.pick (.loc 2) (.k (.bool true)) (.loc 4), none, (some 26), true⟩])
 (.cond (.var 26) ((.seq (.ops [⟨.field 0 (some 2) (.var 11), none, none, false⟩, ⟨.callS nFFault [(.k (.int .i64 3)), (.k (.int .i64 (-2)))], none, none, false⟩, ⟨.bin .neq (.agg [.int, .int]) (.loc 0) (.loc 1), none, none, true⟩, ⟨.move (.loc 2), none, none, true⟩, ⟨.move (.var 14), none, none, true⟩, ⟨.len (.loc 4), none, none, true⟩, ⟨.bin .gtr .no (.loc 5) (.k (.int .i64 0)), none, none, true⟩, ⟨.pick (.loc 3) (.k (.bool true)) (.loc 6), none, (some 27), true⟩])
 (.cond (.var 27) ((.seq (.ops [⟨.move (.k (.bool false)), none, (some 5), true⟩])
 (.ret))) (.skip)))) ((.seq (.ops [⟨.move (.k (.empty)), none, (some 31), true⟩])
 ((.seq ((.seq (.ops [⟨.move (.k (.int .i64 0)), none, (some 28), true⟩])
 (.block 0 (.loop ((.seq ((.seq (.ops [⟨.move (.var 28), none, none, true⟩, ⟨.move (.var 0), none, none, true⟩, ⟨.len (.loc 1), none, none, true⟩, ⟨.bin .lss .no (.loc 0) (.loc 2), none, (some 29), true⟩])
 (.cond (.var 29) (.skip) (.exit 0))))
 ((.seq (.block 1 ((.seq (.ops [⟨.move (.var 0), none, none, false⟩, ⟨.move (.var 28), none, none, false⟩, ⟨.indexAddr 4 (.loc 0) (.loc 1), none, none, false⟩, ⟨.fieldAddr 0 (.loc 2), none, none, false⟩, ⟨.load none (.loc 3), none, none, false⟩, ⟨.field 0 none (.var 6), none, none, false⟩, ⟨.field 0 none (.var 6), none, none, false⟩, ⟨.bin .geq .no (.loc 4) (.loc 6), none, none, true⟩, ⟨.move (.loc 7), none, none, true⟩, ⟨.move (.var 0), (some (8, true)), none, true⟩, ⟨.move (.var 28), (some (8, true)), none, true⟩, ⟨.indexAddr 4 (.loc 9) (.loc 10), (some (8, true)), none, true⟩, ⟨.fieldAddr 0 (.loc 11), (some (8, true)), none, true⟩, ⟨.load none (.loc 12), (some (8, true)), none, true⟩, ⟨.move (.var 4), (some (8, true)), none, false⟩, ⟨.bin .leq .no (.loc 13) (.loc 14), (some (8, true)), none, true⟩, ⟨.pick (.loc 8) (.loc 15) (.k (.bool false)), none, none, true⟩, ⟨.move (.loc 16), none, none, true⟩, ⟨.move (.var 3), (some (17, true)), none, true⟩, ⟨.bin .lss .no (.loc 18) (.k (.int .i64 0)), (some (17, true)), none, true⟩, ⟨.move (.loc 19), (some (17, true)), none, true⟩, ⟨.move (.var 0), (some (20, false)), none, true⟩, ⟨.move (.var 28), (some (20, false)), none, true⟩, ⟨.indexAddr 4 (.loc 21) (.loc 22), (some (20, false)), none, true⟩, ⟨.fieldAddr 1 (.loc 23), (some (20, false)), none, true⟩, ⟨.load none (.loc 24), (some (20, false)), none, true⟩, ⟨.move (.var 3), (some (20, false)), none, false⟩, ⟨.bin .eql .no (.loc 25) (.loc 26), (some (20, false)), none, true⟩, ⟨.pick (.loc 20) (.k (.bool true)) (.loc 27), (some (17, true)), none, true⟩, ⟨.pick (.loc 17) (.loc 28) (.k (.bool false)), none, (some 30), true⟩])
 (.cond (.var 30) (.ops [⟨.move (.var 31), none, none, true⟩, ⟨.move (.var 28), none, none, true⟩, ⟨.buildSlice 1 [.int .i64 0] [(0, 1, (.loc 1))] 1, none, none, true⟩, ⟨.append 1 8 (.loc 0) (.loc 2), none, none, true⟩, ⟨.move (.loc 3), none, (some 31), true⟩]) (.skip)))))
 (.ops [⟨.move (.var 28), none, none, true⟩, ⟨.bin .add .no (.loc 0) (.k (.int .i64 1)), none, none, true⟩, ⟨.move (.loc 1), none, (some 28), true⟩])))))))))
 ((.seq (.ops [⟨.field 0 none (.var 11), none, none, true⟩, ⟨.field 0 none (.var 11), none, none, true⟩, ⟨.bin .neq .no (.loc 1) (.k (.int .i64 0)), none, none, true⟩, ⟨.move (.loc 2), none, none, true⟩, ⟨.move (.var 14), none, none, true⟩, ⟨.move (.var 31), none, none, true⟩, ⟨.callS nFEqualInts [(.loc 4), (.loc 5)], (some (3, false)), none, true⟩, ⟨.un .not (.loc 6), (some (3, false)), none, true⟩, ⟨.pick (.loc 3) (.k (.bool true)) (.loc 7), none, (some 32), true⟩])
 (.cond (.var 32) ((.seq (.ops [⟨.move (.k (.bool false)), none, (some 5), true⟩])
 (.ret))) (.skip)))))))))))
 ((.seq ((.seq (.ops [⟨.move (.var 1), none, none, true⟩, ⟨.callS nFLogFault [(.loc 0)], none, none, true⟩, ⟨.field 0 none (.loc 1), none, none, true⟩, ⟨.bin .neq .no (.loc 2) (.k (.int .i64 0)), none, (some 33), true⟩])
 (.cond (.var 33) ((.seq (.ops [⟨.field 0 (some 2) (.var 12), none, none, false⟩, ⟨.move (.var 1), none, none, false⟩, ⟨.callS nFLogFault [(.loc 1)], none, none, false⟩, ⟨.field 0 none (.loc 2), none, none, false⟩, ⟨.callS nFFault [(.loc 3), (.k (.int .i64 (-2)))], none, none, false⟩, ⟨.bin .eql (.agg [.int, .int]) (.loc 0) (.loc 4), none, none, true⟩, ⟨.move (.loc 5), none, none, true⟩, ⟨.move (.var 15), none, none, true⟩, ⟨.bin .eql .no (.loc 7) (.k (.int .i64 0)), none, none, true⟩, ⟨.pick (.loc 6) (.loc 8) (.k (.bool false)), none, none, true⟩, ⟨.move (.loc 9), none, (some 5), true⟩])
 (.ret))) (.skip))))
 ((.seq (.ops [⟨.move (.k (.int .i64 0)), none, (some 34), true⟩])
 ((.seq (.block 2 (.loop ((.seq ((.seq (.ops [⟨.move (.var 34), none, none, true⟩, ⟨.move (.var 0), none, none, true⟩, ⟨.len (.loc 1), none, none, true⟩, ⟨.bin .lss .no (.loc 0) (.loc 2), none, none, true⟩, ⟨.move (.loc 3), none, none, true⟩, ⟨.move (.var 34), none, none, true⟩, ⟨.move (.var 1), none, none, true⟩, ⟨.len (.loc 6), none, none, true⟩, ⟨.bin .lss .no (.loc 5) (.loc 7), none, none, true⟩, ⟨.pick (.loc 4) (.loc 8) (.k (.bool false)), none, none, true⟩, ⟨.move (.loc 9), none, none, true⟩, ⟨.move (.var 0), none, none, false⟩, ⟨.move (.var 34), none, none, false⟩, ⟨.indexAddr 4 (.loc 11) (.loc 12), (some (10, true)), none, false⟩, ⟨.load (some 4) (.loc 13), (some (10, true)), none, false⟩, ⟨.move (.var 1), none, none, false⟩, ⟨.move (.var 34), none, none, false⟩, ⟨.indexAddr 4 (.loc 15) (.loc 16), (some (10, true)), none, false⟩, ⟨.load (some 4) (.loc 17), (some (10, true)), none, false⟩, ⟨.bin .eql (.agg [.int, .int, .int, .int]) (.loc 14) (.loc 18), (some (10, true)), none, true⟩, ⟨.pick (.loc 10) (.loc 19) (.k (.bool false)), none, (some 35), true⟩])
 (.cond (.var 35) (.skip) (.exit 2))))
 (.block 3 (.ops [⟨.move (.var 34), none, none, true⟩, ⟨.bin .add .no (.loc 0) (.k (.int .i64 1)), none, none, true⟩, ⟨.move (.loc 1), none, (some 34), true⟩]))))))
 ((.seq (.ops [⟨.field 0 none (.var 12), none, none, true⟩, ⟨.field 0 none (.var 12), none, none, true⟩, ⟨.bin .eql .no (.loc 1) (.k (.int .i64 0)), none, none, true⟩, ⟨.move (.loc 2), none, none, true⟩, ⟨.move (.var 15), none, none, true⟩, ⟨.move (.var 34), none, none, true⟩, ⟨.bin .eql .no (.loc 4) (.loc 5), none, none, true⟩, ⟨.pick (.loc 3) (.loc 6) (.k (.bool false)), none, none, true⟩, ⟨.move (.loc 7), none, (some 5), true⟩])
 (.ret))))))))))))))))))))))))))))))))))))), none⟩
def rf_LAuditAppendExtends (naudit_Append naudit_Fork naudit_Query nLauditExample naudit_Validate nFHas : Nat) : RFunc := ⟨4, 13, [.var 4],
 ((.seq (.ops [⟨.move (.k (.bool false)), none, (some 4), true⟩])
 ((.seq (.ops [⟨.move (.var 0), none, none, true⟩, ⟨.move (.var 1), none, none, true⟩, ⟨.move (.var 2), none, none, true⟩, ⟨.move (.var 3), none, none, true⟩, ⟨.callS naudit_Append [(.loc 0), (.loc 1), (.loc 2), (.loc 3)], none, none, true⟩, ⟨.move (.loc 4), none, none, true⟩, ⟨.extract (.loc 5) 0, none, none, true⟩, ⟨.extract (.loc 5) 1, none, none, true⟩, ⟨.tomb 1 (.k (.agg [.int .i64 0, .int .i64 0])), none, (some 7), true⟩, ⟨.move (.loc 6), none, (some 5), true⟩, ⟨.upd 2 0 (.loc 8) (.loc 7), none, (some 7), true⟩])
 ((.seq (.ops [⟨.move (.var 0), none, none, true⟩, ⟨.move (.var 5), none, none, true⟩, ⟨.callS naudit_Fork [(.loc 0), (.loc 1)], none, none, true⟩, ⟨.move (.loc 2), none, none, true⟩, ⟨.extract (.loc 3) 0, none, none, true⟩, ⟨.extract (.loc 3) 1, none, none, true⟩, ⟨.tomb 1 (.k (.agg [.int .i64 0, .int .i64 0])), none, (some 9), true⟩, ⟨.move (.loc 4), none, (some 10), true⟩, ⟨.upd 2 0 (.loc 6) (.loc 5), none, (some 9), true⟩])
 ((.seq (.ops [⟨.move (.var 5), none, none, true⟩, ⟨.move (.var 2), none, none, true⟩, ⟨.move (.var 1), none, none, true⟩, ⟨.move (.var 1), none, none, true⟩, ⟨.callS naudit_Query [(.loc 0), (.loc 1), (.loc 2), (.loc 3)], none, none, true⟩, ⟨.move (.loc 4), none, none, true⟩, ⟨.extract (.loc 5) 0, none, none, true⟩, ⟨.extract (.loc 5) 1, none, none, true⟩, ⟨.tomb 1 (.k (.agg [.int .i64 0, .int .i64 0])), none, (some 11), true⟩, ⟨.move (.loc 6), none, (some 12), true⟩, ⟨.upd 2 0 (.loc 8) (.loc 7), none, (some 11), true⟩])
 ((.seq ((.seq (.ops [⟨.callS nLauditExample [], none, none, true⟩, ⟨.un .not (.loc 0), none, (some 6), true⟩])
 (.cond (.var 6) ((.seq (.ops [⟨.move (.k (.bool false)), none, (some 4), true⟩])
 (.ret))) (.skip))))
 ((.seq ((.seq (.ops [⟨.field 0 none (.var 7), none, none, true⟩, ⟨.field 0 none (.var 7), none, none, true⟩, ⟨.bin .neq .no (.loc 1) (.k (.int .i64 0)), none, (some 8), true⟩])
 (.cond (.var 8) ((.seq (.ops [⟨.move (.k (.bool true)), none, (some 4), true⟩])
 (.ret))) (.skip))))
 ((.seq (.ops [⟨.move (.var 5), none, none, true⟩, ⟨.callS naudit_Validate [(.loc 0)], none, none, true⟩, ⟨.field 0 none (.loc 1), none, none, true⟩, ⟨.bin .eql .no (.loc 2) (.k (.int .i64 0)), none, none, true⟩, ⟨.move (.loc 3), none, none, true⟩, ⟨.field 0 none (.var 9), none, none, true⟩, ⟨.field 0 none (.var 9), none, none, true⟩, ⟨.bin .eql .no (.loc 6) (.k (.int .i64 0)), none, none, true⟩, ⟨.pick (.loc 4) (.loc 7) (.k (.bool false)), none, none, true⟩, ⟨.move (.loc 8), none, none, true⟩, ⟨.move (.var 10), none, none, true⟩, ⟨.move (.var 0), none, none, true⟩, ⟨.len (.loc 11), none, none, true⟩, ⟨.bin .eql .no (.loc 10) (.loc 12), none, none, true⟩, ⟨.pick (.loc 9) (.loc 13) (.k (.bool false)), none, none, true⟩, ⟨.move (.loc 14), none, none, true⟩, ⟨.move (.var 5), none, none, true⟩, ⟨.len (.loc 16), none, none, true⟩, ⟨.move (.var 0), none, none, true⟩, ⟨.len (.loc 18), none, none, true⟩, ⟨.bin .add .no (.loc 19) (.k (.int .i64 1)), none, none, true⟩, ⟨.bin .eql .no (.loc 17) (.loc 20), none, none, true⟩, ⟨.pick (.loc 15) (.loc 21) (.k (.bool false)), none, none, true⟩, ⟨.move (.loc 22), none, none, true⟩, ⟨.field 0 none (.var 11), none, none, true⟩, ⟨.field 0 none (.var 11), none, none, true⟩, ⟨.bin .eql .no (.loc 25) (.k (.int .i64 0)), none, none, true⟩, ⟨.pick (.loc 23) (.loc 26) (.k (.bool false)), none, none, true⟩, ⟨.move (.loc 27), none, none, true⟩, ⟨.move (.var 12), none, none, true⟩, ⟨.move (.var 0), none, none, true⟩, ⟨.len (.loc 30), none, none, true⟩, ⟨.callS nFHas [(.loc 29), (.loc 31)], (some (28, true)), none, true⟩, ⟨.pick (.loc 28) (.loc 32) (.k (.bool false)), none, none, true⟩, ⟨.move (.loc 33), none, (some 4), true⟩])
 (.ret))))))))))))))), none⟩
theorem v_LAuditAppendExtends {F : Nat → Option RFunc} {me naudit_Append naudit_Fork naudit_Query nLauditExample naudit_Validate nFHas : Nat} (hF : F me = some (rf_LAuditAppendExtends naudit_Append naudit_Fork naudit_Query nLauditExample naudit_Validate nFHas)) {fl : Nat} {H : Heap} {Q : AV → Heap → Prop} (l0 : AV) (time1 : Int) (user2 : Int) (action3 : Int)
  (h : Ret F fl naudit_Append [l0, (.int .i64 time1), (.int .i64 user2), (.int .i64 action3)] H (fun v8 H7 => ∃ (r4 : AV) (r5 : Int) (r6 : Int), v8 = (.tuple [r4, (.agg [(.int .i64 r5), (.int .i64 r6)])]) ∧ ∀ (H9 : Heap), Dead1 H7 1 H9 → Ret F fl naudit_Fork [l0, r4] H9 (fun v14 H13 => ∃ (r10 : Int) (r11 : Int) (r12 : Int), v14 = (.tuple [(.int .i64 r10), (.agg [(.int .i64 r11), (.int .i64 r12)])]) ∧ ∀ (H15 : Heap), Dead1 H13 1 H15 → Ret F fl naudit_Query [r4, (.int .i64 user2), (.int .i64 time1), (.int .i64 time1)] H15 (fun v20 H19 => ∃ (r16 : AV) (r17 : Int) (r18 : Int), v20 = (.tuple [r16, (.agg [(.int .i64 r17), (.int .i64 r18)])]) ∧ ∀ (H21 : Heap), Dead1 H19 1 H21 → Ret F fl nLauditExample [] H21 (fun v24 H23 => ∃ (r22 : Bool), v24 = (.bool r22) ∧ ((¬(r22 = true)) → Q (.bool false) H23) ∧ (¬(¬(r22 = true)) → ((r5 ≠ 0) → Q (.bool true) H23) ∧ (¬(r5 ≠ 0) → Ret F fl naudit_Validate [r4] H23 (fun v28 H27 => ∃ (r25 : Int) (r26 : Int), v28 = (.agg [(.int .i64 r25), (.int .i64 r26)]) ∧ ∃ len29 : Nat, lenA l0 = some len29 ∧ ∃ len30 : Nat, lenA r4 = some len30 ∧ ∃ len31 : Nat, lenA l0 = some len31 ∧ ∃ len32 : Nat, lenA l0 = some len32 ∧ ((((((((((r25 = 0) ∧ (r11 = 0))) ∧ (r10 = (len29 : Int)))) ∧ ((len30 : Int) = (IntKind.wrap .i64 ((len31 : Int) + 1))))) ∧ (r17 = 0))) → Ret F fl nFHas [r16, (.int .i64 (len32 : Int))] H27 (fun v35 H34 => ∃ (r33 : Bool), v35 = (.bool r33) ∧ Q (.bool r33) H34)) ∧ (¬(((((((((r25 = 0) ∧ (r11 = 0))) ∧ (r10 = (len29 : Int)))) ∧ ((len30 : Int) = (IntKind.wrap .i64 ((len31 : Int) + 1))))) ∧ (r17 = 0))) → Q (.bool false) H27))))))))) : Ret F fl me [l0, (.int .i64 time1), (.int .i64 user2), (.int .i64 action3)] H Q := by
  refine ret_intro hF rfl ?_
  refine w_seq ?_
  refine w_run [0] ?_
  refine t_done [l0, (.int .i64 time1), (.int .i64 user2), (.int .i64 action3), (.bool false), .undef, .undef, .undef, .undef, .undef, .undef, .undef, .undef] H (by kernel_rfl) ?_
  refine then_norm ?_
  refine w_seq ?_
  refine w_run [0, 0, 0, 0, 1, 0, 0, 0, 1, 0, 1] ?_
  refine t_call true naudit_Append [l0, (.int .i64 time1), (.int .i64 user2), (.int .i64 action3)] H (by kernel_rfl) h ?_
  clear h
  rintro _ H7 ⟨r4, r5, r6, rfl, h⟩
  obtain ⟨H9, hb⟩ : ∃ H', Dead1 H7 1 H' := ⟨_, ⟨rfl⟩⟩
  replace h := h H9 hb
  refine t_tomb true 1 (.agg [(.int .i64 0), (.int .i64 0)]) [(.int .i64 0), (.int .i64 0)] H9 H7 (by kernel_rfl) rfl hb ?_
  refine t_upd true 2 0 [(.int .i64 0), (.int .i64 0)] (.agg [(.int .i64 r5), (.int .i64 r6)]) [(.int .i64 r5), (.int .i64 r6)] [(.int .i64 r5), (.int .i64 r6)] H9 (by kernel_rfl) rfl (all_c rfl (all_c rfl all_n)) ⟨rfl, Nat.le_of_ble_eq_true (by kernel_rfl), rfl⟩ ?_
  refine t_done [l0, (.int .i64 time1), (.int .i64 user2), (.int .i64 action3), (.bool false), r4, .undef, (.agg [(.int .i64 r5), (.int .i64 r6)]), .undef, .undef, .undef, .undef, .undef] H9 (by kernel_rfl) ?_
  refine then_norm ?_
  refine w_seq ?_
  refine w_run [0, 0, 1, 0, 0, 0, 1, 0, 1] ?_
  refine t_call true naudit_Fork [l0, r4] H9 (by kernel_rfl) h ?_
  clear h
  rintro _ H13 ⟨r10, r11, r12, rfl, h⟩
  obtain ⟨H15, hb⟩ : ∃ H', Dead1 H13 1 H' := ⟨_, ⟨rfl⟩⟩
  replace h := h H15 hb
  refine t_tomb true 1 (.agg [(.int .i64 0), (.int .i64 0)]) [(.int .i64 0), (.int .i64 0)] H15 H13 (by kernel_rfl) rfl hb ?_
  refine t_upd true 2 0 [(.int .i64 0), (.int .i64 0)] (.agg [(.int .i64 r11), (.int .i64 r12)]) [(.int .i64 r11), (.int .i64 r12)] [(.int .i64 r11), (.int .i64 r12)] H15 (by kernel_rfl) rfl (all_c rfl (all_c rfl all_n)) ⟨rfl, Nat.le_of_ble_eq_true (by kernel_rfl), rfl⟩ ?_
  refine t_done [l0, (.int .i64 time1), (.int .i64 user2), (.int .i64 action3), (.bool false), r4, .undef, (.agg [(.int .i64 r5), (.int .i64 r6)]), .undef, (.agg [(.int .i64 r11), (.int .i64 r12)]), (.int .i64 r10), .undef, .undef] H15 (by kernel_rfl) ?_
  refine then_norm ?_
  refine w_seq ?_
  refine w_run [0, 0, 0, 0, 1, 0, 0, 0, 1, 0, 1] ?_
  refine t_call true naudit_Query [r4, (.int .i64 user2), (.int .i64 time1), (.int .i64 time1)] H15 (by kernel_rfl) h ?_
  clear h
  rintro _ H19 ⟨r16, r17, r18, rfl, h⟩
  obtain ⟨H21, hb⟩ : ∃ H', Dead1 H19 1 H' := ⟨_, ⟨rfl⟩⟩
  replace h := h H21 hb
  refine t_tomb true 1 (.agg [(.int .i64 0), (.int .i64 0)]) [(.int .i64 0), (.int .i64 0)] H21 H19 (by kernel_rfl) rfl hb ?_
  refine t_upd true 2 0 [(.int .i64 0), (.int .i64 0)] (.agg [(.int .i64 r17), (.int .i64 r18)]) [(.int .i64 r17), (.int .i64 r18)] [(.int .i64 r17), (.int .i64 r18)] H21 (by kernel_rfl) rfl (all_c rfl (all_c rfl all_n)) ⟨rfl, Nat.le_of_ble_eq_true (by kernel_rfl), rfl⟩ ?_
  refine t_done [l0, (.int .i64 time1), (.int .i64 user2), (.int .i64 action3), (.bool false), r4, .undef, (.agg [(.int .i64 r5), (.int .i64 r6)]), .undef, (.agg [(.int .i64 r11), (.int .i64 r12)]), (.int .i64 r10), (.agg [(.int .i64 r17), (.int .i64 r18)]), r16] H21 (by kernel_rfl) ?_
  refine then_norm ?_
  refine w_seq ?_
  refine w_seq ?_
  refine w_run [1, 0] ?_
  refine t_call true nLauditExample [] H21 (by kernel_rfl) h ?_
  clear h
  rintro _ H23 ⟨r22, rfl, h⟩
  refine t_done [l0, (.int .i64 time1), (.int .i64 user2), (.int .i64 action3), (.bool false), r4, (.bool (!r22)), (.agg [(.int .i64 r5), (.int .i64 r6)]), .undef, (.agg [(.int .i64 r11), (.int .i64 r12)]), (.int .i64 r10), (.agg [(.int .i64 r17), (.int .i64 r18)]), r16] H23 (by kernel_rfl) ?_
  refine then_norm ?_
  refine w_cond (t := (!r22)) rfl (fun hc => ?_) (fun hc => ?_)
  · replace h := h.1 ((is_not is_raw).t hc)
    refine w_seq ?_
    refine w_run [0] ?_
    refine t_done [l0, (.int .i64 time1), (.int .i64 user2), (.int .i64 action3), (.bool false), r4, (.bool (!r22)), (.agg [(.int .i64 r5), (.int .i64 r6)]), .undef, (.agg [(.int .i64 r11), (.int .i64 r12)]), (.int .i64 r10), (.agg [(.int .i64 r17), (.int .i64 r18)]), r16] H23 (by kernel_rfl) ?_
    refine then_norm ?_
    refine w_ret ?_
    refine then_ret ?_
    exact body_ret (vs := [(.bool false)]) _ (by kernel_rfl) rfl h
  · replace h := h.2 ((is_not is_raw).f hc)
    refine w_skip ?_
    refine then_norm ?_
    refine w_seq ?_
    refine w_seq ?_
    refine w_run [0, 0, 0] ?_
    refine t_done [l0, (.int .i64 time1), (.int .i64 user2), (.int .i64 action3), (.bool false), r4, (.bool (!r22)), (.agg [(.int .i64 r5), (.int .i64 r6)]), (.bool ((r5) != 0)), (.agg [(.int .i64 r11), (.int .i64 r12)]), (.int .i64 r10), (.agg [(.int .i64 r17), (.int .i64 r18)]), r16] H23 (by kernel_rfl) ?_
    refine then_norm ?_
    refine w_cond (t := ((r5) != 0)) rfl (fun hc => ?_) (fun hc => ?_)
    · replace h := h.1 (is_ne.t hc)
      refine w_seq ?_
      refine w_run [0] ?_
      refine t_done [l0, (.int .i64 time1), (.int .i64 user2), (.int .i64 action3), (.bool true), r4, (.bool (!r22)), (.agg [(.int .i64 r5), (.int .i64 r6)]), (.bool ((r5) != 0)), (.agg [(.int .i64 r11), (.int .i64 r12)]), (.int .i64 r10), (.agg [(.int .i64 r17), (.int .i64 r18)]), r16] H23 (by kernel_rfl) ?_
      refine then_norm ?_
      refine w_ret ?_
      refine then_ret ?_
      exact body_ret (vs := [(.bool true)]) _ (by kernel_rfl) rfl h
    · replace h := h.2 (is_ne.f hc)
      refine w_skip ?_
      refine then_norm ?_
      refine w_seq ?_
      refine w_run [0, 1, 0, 0, 0, 0, 0, 0, 0, 0, 0, 0, 1, 0, 0, 0, 0, 1, 0, 1, 0, 0, 0, 0, 0, 0, 0, 0, 0, 0, 0, 1, 3, 0, 0] ?_
      refine t_call true naudit_Validate [r4] H23 (by kernel_rfl) h ?_
      clear h
      rintro _ H27 ⟨r25, r26, rfl, h⟩
      obtain ⟨len29, hl, h⟩ := h
      refine t_len true l0 len29 H27 (by kernel_rfl) hl ?_
      obtain ⟨len30, hl, h⟩ := h
      refine t_len true r4 len30 H27 (by kernel_rfl) hl ?_
      obtain ⟨len31, hl, h⟩ := h
      refine t_len true l0 len31 H27 (by kernel_rfl) hl ?_
      obtain ⟨len32, hl, h⟩ := h
      refine t_len true l0 len32 H27 (by kernel_rfl) hl ?_
      refine t_gd ((((((r25) == 0) && ((r11) == 0)) && ((r10) == (len29 : Int))) && (((len30 : Int)) == (IntKind.wrap .i64 ((len31 : Int) + 1)))) && ((r17) == 0)) true (by kernel_rfl) (fun hc => ?_) (fun hc => ?_)
      · replace h := h.1 ((is_and (is_and (is_and (is_and is_eq is_eq) is_eq) is_eq) is_eq).t hc)
        refine t_call true nFHas [r16, (.int .i64 (len32 : Int))] H27 (by kernel_rfl) h ?_
        clear h
        rintro _ H34 ⟨r33, rfl, h⟩
        refine t_done [l0, (.int .i64 time1), (.int .i64 user2), (.int .i64 action3), (.bool r33), r4, (.bool (!r22)), (.agg [(.int .i64 r5), (.int .i64 r6)]), (.bool ((r5) != 0)), (.agg [(.int .i64 r11), (.int .i64 r12)]), (.int .i64 r10), (.agg [(.int .i64 r17), (.int .i64 r18)]), r16] H34 (by kernel_rfl) ?_
        refine then_norm ?_
        refine w_ret ?_
        exact body_ret (vs := [(.bool r33)]) _ (by kernel_rfl) rfl h
      · replace h := h.2 ((is_and (is_and (is_and (is_and is_eq is_eq) is_eq) is_eq) is_eq).f hc)
        refine t_done [l0, (.int .i64 time1), (.int .i64 user2), (.int .i64 action3), (.bool false), r4, (.bool (!r22)), (.agg [(.int .i64 r5), (.int .i64 r6)]), (.bool ((r5) != 0)), (.agg [(.int .i64 r11), (.int .i64 r12)]), (.int .i64 r10), (.agg [(.int .i64 r17), (.int .i64 r18)]), r16] H27 (by kernel_rfl) ?_
        refine then_norm ?_
        refine w_ret ?_
        exact body_ret (vs := [(.bool false)]) _ (by kernel_rfl) rfl h

end Go.RM

