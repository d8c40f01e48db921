import Derived.Test.YteplndpnfdmgkaaRmOpt3
/-
  Functions of the program as the abstract machine runs them, and what must be shown of a run: printed by RmPrint.
-/
namespace Go.RM
set_option linter.unusedVariables false
set_option maxRecDepth 4000
def rf_LauditExample (naudit_Append naudit_Query naudit_Checkpoint naudit_Fork nFEqualInts naudit_Includes naudit_Validate : Nat) : RFunc := ⟨0, 14, [.var 0],
 ((.seq (.ops [⟨.move (.k (.bool false)), none, (some 0), true⟩])
 ((.seq (.ops [⟨.callS naudit_Append [(.k (.empty)), (.k (.int .i64 3)), (.k (.int .i64 1)), (.k (.int .i64 9))], none, none, true⟩, ⟨.move (.loc 0), none, none, true⟩, ⟨.extract (.loc 1) 0, none, none, true⟩, ⟨.extract (.loc 1) 1, none, none, true⟩, ⟨.tomb 1 (.k (.agg [.int .i64 0, .int .i64 0])), none, (some 3), true⟩, ⟨.move (.loc 2), none, (some 1), true⟩, ⟨.upd 2 0 (.loc 4) (.loc 3), none, (some 3), true⟩])
 ((.seq (.ops [⟨.move (.var 1), none, none, true⟩, ⟨.callS naudit_Append [(.loc 0), (.k (.int .i64 4)), (.k (.int .i64 2)), (.k (.int .i64 9))], none, none, true⟩, ⟨.move (.loc 1), none, none, true⟩, ⟨.extract (.loc 2) 0, none, none, true⟩, ⟨.extract (.loc 2) 1, none, none, true⟩, ⟨.tomb 1 (.k (.agg [.int .i64 0, .int .i64 0])), none, (some 4), true⟩, ⟨.move (.loc 3), none, (some 2), true⟩, ⟨.upd 2 0 (.loc 5) (.loc 4), none, (some 4), true⟩])
 ((.seq (.ops [⟨.move (.var 2), none, none, true⟩, ⟨.callS naudit_Query [(.loc 0), (.k (.int .i64 2)), (.k (.int .i64 0)), (.k (.int .i64 5))], none, none, true⟩, ⟨.move (.loc 1), none, none, true⟩, ⟨.extract (.loc 2) 0, none, none, true⟩, ⟨.extract (.loc 2) 1, none, none, true⟩, ⟨.tomb 1 (.k (.agg [.int .i64 0, .int .i64 0])), none, (some 5), true⟩, ⟨.move (.loc 3), none, (some 9), true⟩, ⟨.upd 2 0 (.loc 5) (.loc 4), none, (some 5), true⟩])
 ((.seq (.ops [⟨.move (.var 1), none, none, true⟩, ⟨.callS naudit_Checkpoint [(.loc 0)], none, none, true⟩, ⟨.move (.loc 1), none, none, true⟩, ⟨.extract (.loc 2) 0, none, none, true⟩, ⟨.extract (.loc 2) 1, none, none, true⟩, ⟨.tomb 1 (.k (.agg [.int .i64 0, .int .i64 0])), none, (some 6), true⟩, ⟨.move (.loc 3), none, (some 11), true⟩, ⟨.upd 2 0 (.loc 5) (.loc 4), none, (some 6), true⟩])
 ((.seq (.ops [⟨.move (.var 1), none, none, true⟩, ⟨.move (.var 2), none, none, true⟩, ⟨.callS naudit_Fork [(.loc 0), (.loc 1)], none, none, true⟩, ⟨.move (.loc 2), none, none, true⟩, ⟨.extract (.loc 3) 0, none, none, true⟩, ⟨.extract (.loc 3) 1, none, none, true⟩, ⟨.tomb 1 (.k (.agg [.int .i64 0, .int .i64 0])), none, (some 7), true⟩, ⟨.move (.loc 4), none, (some 8), true⟩, ⟨.upd 2 0 (.loc 6) (.loc 5), none, (some 7), true⟩])
 ((.seq ((.seq (.ops [⟨.field 0 none (.var 3), none, none, true⟩, ⟨.field 0 none (.var 3), none, none, true⟩, ⟨.bin .neq .no (.loc 1) (.k (.int .i64 0)), none, none, true⟩, ⟨.move (.loc 2), none, none, true⟩, ⟨.field 0 none (.var 4), none, none, true⟩, ⟨.field 0 none (.var 4), none, none, true⟩, ⟨.bin .neq .no (.loc 5) (.k (.int .i64 0)), none, none, true⟩, ⟨.pick (.loc 3) (.k (.bool true)) (.loc 6), none, none, true⟩, ⟨.move (.loc 7), none, none, true⟩, ⟨.field 0 none (.var 5), none, none, true⟩, ⟨.field 0 none (.var 5), none, none, true⟩, ⟨.bin .neq .no (.loc 10) (.k (.int .i64 0)), none, none, true⟩, ⟨.pick (.loc 8) (.k (.bool true)) (.loc 11), none, none, true⟩, ⟨.move (.loc 12), none, none, true⟩, ⟨.field 0 none (.var 6), none, none, true⟩, ⟨.field 0 none (.var 6), none, none, true⟩, ⟨.bin .neq .no (.loc 15) (.k (.int .i64 0)), none, none, true⟩, ⟨.pick (.loc 13) (.k (.bool true)) (.loc 16), none, none, true⟩, ⟨.move (.loc 17), none, none, true⟩, ⟨.field 0 none (.var 7), none, none, true⟩, ⟨.field 0 none (.var 7), none, none, true⟩, ⟨.bin .neq .no (.loc 20) (.k (.int .i64 0)), none, none, true⟩, ⟨.pick (.loc 18) (.k (.bool true)) (.loc 21), none, none, true⟩, ⟨.move (.loc 22), none, none, true⟩, ⟨.move (.var 1), none, none, true⟩, ⟨.len (.loc 24), none, none, true⟩, ⟨.bin .neq .no (.loc 25) (.k (.int .i64 1)), none, none, true⟩, ⟨.pick (.loc 23) (.k (.bool true)) (.loc 26), none, none, true⟩, ⟨.move (.loc 27), none, none, true⟩, ⟨.move (.var 2), none, none, true⟩, ⟨.len (.loc 29), none, none, true⟩, ⟨.bin .neq .no (.loc 30) (.k (.int .i64 2)), none, none, true⟩, ⟨.pick (.loc 28) (.k (.bool true)) (.loc 31), none, none, true⟩, ⟨.move (.loc 32), none, none, true⟩, ⟨.move (.var 8), none, none, true⟩, ⟨.bin .neq .no (.loc 34) (.k (.int .i64 1)), none, none, true⟩, ⟨.pick (.loc 33) (.k (.bool true)) (.loc 35), none, none, true⟩, ⟨.move (.loc 36), none, none, true⟩, ⟨.move (.var 9), none, none, true⟩, ⟨.buildSlice 1 [.int .i64 0] [(0, 1, (.k (.int .i64 1)))] 1, (some (37, false)), none, true⟩, ⟨.callS nFEqualInts [(.loc 38), (.loc 39)], (some (37, false)), none, true⟩, ⟨.un .not (.loc 40), (some (37, false)), none, true⟩, ⟨.pick (.loc 37) (.k (.bool true)) (.loc 41), none, (some 10), true⟩])
 (.cond (.var 10) ((.seq (.ops [⟨.move (.k (.bool false)), none, (some 0), true⟩])
 (.ret))) (.skip))))
 ((.seq (.ops [⟨.move (.var 11), none, none, true⟩, ⟨.move (.var 1), none, none, true⟩, ⟨.indexAddr 4 (.loc 1) (.k (.int .i64 0)), none, none, true⟩, ⟨.load (some 4) (.loc 2), none, none, true⟩, ⟨.callS naudit_Includes [(.loc 0), (.k (.int .i64 1)), (.k (.int .i64 0)), (.k (.int .i64 0)), (.loc 3), (.k (.empty))], none, none, true⟩, ⟨.move (.loc 4), none, none, true⟩, ⟨.extract (.loc 5) 0, none, none, true⟩, ⟨.extract (.loc 5) 1, none, none, true⟩, ⟨.tomb 1 (.k (.agg [.int .i64 0, .int .i64 0])), none, (some 12), true⟩, ⟨.move (.loc 6), none, (some 13), true⟩, ⟨.upd 2 0 (.loc 8) (.loc 7), none, (some 12), true⟩])
 ((.seq (.ops [⟨.field 0 none (.var 12), none, none, true⟩, ⟨.field 0 none (.var 12), none, none, true⟩, ⟨.bin .eql .no (.loc 1) (.k (.int .i64 0)), none, none, true⟩, ⟨.move (.loc 2), none, none, true⟩, ⟨.move (.var 13), none, none, true⟩, ⟨.pick (.loc 3) (.loc 4) (.k (.bool false)), none, none, true⟩, ⟨.move (.loc 5), none, none, true⟩, ⟨.move (.var 2), none, none, true⟩, ⟨.callS naudit_Validate [(.loc 7)], (some (6, true)), none, true⟩, ⟨.field 0 none (.loc 8), (some (6, true)), none, true⟩, ⟨.bin .eql .no (.loc 9) (.k (.int .i64 0)), (some (6, true)), none, true⟩, ⟨.pick (.loc 6) (.loc 10) (.k (.bool false)), none, none, true⟩, ⟨.move (.loc 11), none, (some 0), true⟩])
 (.ret))))))))))))))))))), none⟩
theorem v_LauditExample {F : Nat → Option RFunc} {me naudit_Append naudit_Query naudit_Checkpoint naudit_Fork nFEqualInts naudit_Includes naudit_Validate : Nat} (hF : F me = some (rf_LauditExample naudit_Append naudit_Query naudit_Checkpoint naudit_Fork nFEqualInts naudit_Includes naudit_Validate)) {fl : Nat} {H : Heap} {Q : AV → Heap → Prop} 
  (h : Ret F fl naudit_Append [.empty, (.int .i64 3), (.int .i64 1), (.int .i64 9)] H (fun v4 H3 => ∃ (r0 : AV) (r1 : Int) (r2 : Int), v4 = (.tuple [r0, (.agg [(.int .i64 r1), (.int .i64 r2)])]) ∧ ∀ (H5 : Heap), Dead1 H3 1 H5 → Ret F fl naudit_Append [r0, (.int .i64 4), (.int .i64 2), (.int .i64 9)] H5 (fun v10 H9 => ∃ (r6 : AV) (r7 : Int) (r8 : Int), v10 = (.tuple [r6, (.agg [(.int .i64 r7), (.int .i64 r8)])]) ∧ ∀ (H11 : Heap), Dead1 H9 1 H11 → Ret F fl naudit_Query [r6, (.int .i64 2), (.int .i64 0), (.int .i64 5)] H11 (fun v16 H15 => ∃ (r12 : AV) (r13 : Int) (r14 : Int), v16 = (.tuple [r12, (.agg [(.int .i64 r13), (.int .i64 r14)])]) ∧ ∀ (H17 : Heap), Dead1 H15 1 H17 → Ret F fl naudit_Checkpoint [r0] H17 (fun v22 H21 => ∃ (r18 : Int) (r19 : Int) (r20 : Int), v22 = (.tuple [(.int .i64 r18), (.agg [(.int .i64 r19), (.int .i64 r20)])]) ∧ ∀ (H23 : Heap), Dead1 H21 1 H23 → Ret F fl naudit_Fork [r0, r6] H23 (fun v28 H27 => ∃ (r24 : Int) (r25 : Int) (r26 : Int), v28 = (.tuple [(.int .i64 r24), (.agg [(.int .i64 r25), (.int .i64 r26)])]) ∧ ∀ (H29 : Heap), Dead1 H27 1 H29 → ∃ len30 : Nat, lenA r0 = some len30 ∧ ∃ len31 : Nat, lenA r6 = some len31 ∧ ((((((((((((((((r1 ≠ 0) ∨ (r7 ≠ 0))) ∨ (r13 ≠ 0))) ∨ (r19 ≠ 0))) ∨ (r25 ≠ 0))) ∨ ((len30 : Int) ≠ 1))) ∨ ((len31 : Int) ≠ 2))) ∨ (r24 ≠ 1))) → Q (.bool false) H29) ∧ (¬(((((((((((((((r1 ≠ 0) ∨ (r7 ≠ 0))) ∨ (r13 ≠ 0))) ∨ (r19 ≠ 0))) ∨ (r25 ≠ 0))) ∨ ((len30 : Int) ≠ 1))) ∨ ((len31 : Int) ≠ 2))) ∨ (r24 ≠ 1))) → ∀ (b32 : Nat) (H33 : Heap), NewB H29 1 [(.int .i64 1)] b32 H33 → Ret F fl nFEqualInts [r12, (.slice b32 0 1 (some 1))] H33 (fun v36 H35 => ∃ (r34 : Bool), v36 = (.bool r34) ∧ ((¬(r34 = true)) → Q (.bool false) H35) ∧ (¬(¬(r34 = true)) → ∃ (e37 : Int) (e38 : Int) (e39 : Int) (e40 : Int), getA H35 4 (some 4) r0 0 0 = some (.agg [(.int .i64 e37), (.int .i64 e38), (.int .i64 e39), (.int .i64 e40)]) ∧ Ret F fl naudit_Includes [(.int .i64 r18), (.int .i64 1), (.int .i64 0), (.int .i64 0), (.agg [(.int .i64 e37), (.int .i64 e38), (.int .i64 e39), (.int .i64 e40)]), .empty] H35 (fun v46 H45 => ∃ (r42 : Bool) (r43 : Int) (r44 : Int), v46 = (.tuple [(.bool r42), (.agg [(.int .i64 r43), (.int .i64 r44)])]) ∧ ∀ (H47 : Heap), Dead1 H45 1 H47 → ((((r43 = 0) ∧ (r42 = true))) → Ret F fl naudit_Validate [r6] H47 (fun v51 H50 => ∃ (r48 : Int) (r49 : Int), v51 = (.agg [(.int .i64 r48), (.int .i64 r49)]) ∧ Q (.bool ((r48) == 0)) H50)) ∧ (¬(((r43 = 0) ∧ (r42 = true))) → Q (.bool false) H47))))))))))) : Ret F fl me [] H Q := by
  refine ret_intro hF rfl ?_
  refine w_seq ?_
  refine w_run [0] ?_
  refine t_done [(.bool false), .undef, .undef, .undef, .undef, .undef, .undef, .undef, .undef, .undef, .undef, .undef, .undef, .undef] H (by kernel_rfl) ?_
  refine then_norm ?_
  refine w_seq ?_
  refine w_run [1, 0, 0, 0, 1, 0, 1] ?_
  refine t_call true naudit_Append [.empty, (.int .i64 3), (.int .i64 1), (.int .i64 9)] H (by kernel_rfl) h ?_
  clear h
  rintro _ H3 ⟨r0, r1, r2, rfl, h⟩
  obtain ⟨H5, hb⟩ : ∃ H', Dead1 H3 1 H' := ⟨_, ⟨rfl⟩⟩
  replace h := h H5 hb
  refine t_tomb true 1 (.agg [(.int .i64 0), (.int .i64 0)]) [(.int .i64 0), (.int .i64 0)] H5 H3 (by kernel_rfl) rfl hb ?_
  refine t_upd true 2 0 [(.int .i64 0), (.int .i64 0)] (.agg [(.int .i64 r1), (.int .i64 r2)]) [(.int .i64 r1), (.int .i64 r2)] [(.int .i64 r1), (.int .i64 r2)] H5 (by kernel_rfl) rfl (all_c rfl (all_c rfl all_n)) ⟨rfl, Nat.le_of_ble_eq_true (by kernel_rfl), rfl⟩ ?_
  refine t_done [(.bool false), r0, .undef, (.agg [(.int .i64 r1), (.int .i64 r2)]), .undef, .undef, .undef, .undef, .undef, .undef, .undef, .undef, .undef, .undef] H5 (by kernel_rfl) ?_
  refine then_norm ?_
  refine w_seq ?_
  refine w_run [0, 1, 0, 0, 0, 1, 0, 1] ?_
  refine t_call true naudit_Append [r0, (.int .i64 4), (.int .i64 2), (.int .i64 9)] H5 (by kernel_rfl) h ?_
  clear h
  rintro _ H9 ⟨r6, r7, r8, rfl, h⟩
  obtain ⟨H11, hb⟩ : ∃ H', Dead1 H9 1 H' := ⟨_, ⟨rfl⟩⟩
  replace h := h H11 hb
  refine t_tomb true 1 (.agg [(.int .i64 0), (.int .i64 0)]) [(.int .i64 0), (.int .i64 0)] H11 H9 (by kernel_rfl) rfl hb ?_
  refine t_upd true 2 0 [(.int .i64 0), (.int .i64 0)] (.agg [(.int .i64 r7), (.int .i64 r8)]) [(.int .i64 r7), (.int .i64 r8)] [(.int .i64 r7), (.int .i64 r8)] H11 (by kernel_rfl) rfl (all_c rfl (all_c rfl all_n)) ⟨rfl, Nat.le_of_ble_eq_true (by kernel_rfl), rfl⟩ ?_
  refine t_done [(.bool false), r0, r6, (.agg [(.int .i64 r1), (.int .i64 r2)]), (.agg [(.int .i64 r7), (.int .i64 r8)]), .undef, .undef, .undef, .undef, .undef, .undef, .undef, .undef, .undef] H11 (by kernel_rfl) ?_
  refine then_norm ?_
  refine w_seq ?_
  refine w_run [0, 1, 0, 0, 0, 1, 0, 1] ?_
  refine t_call true naudit_Query [r6, (.int .i64 2), (.int .i64 0), (.int .i64 5)] H11 (by kernel_rfl) h ?_
  clear h
  rintro _ H15 ⟨r12, r13, r14, rfl, h⟩
  obtain ⟨H17, hb⟩ : ∃ H', Dead1 H15 1 H' := ⟨_, ⟨rfl⟩⟩
  replace h := h H17 hb
  refine t_tomb true 1 (.agg [(.int .i64 0), (.int .i64 0)]) [(.int .i64 0), (.int .i64 0)] H17 H15 (by kernel_rfl) rfl hb ?_
  refine t_upd true 2 0 [(.int .i64 0), (.int .i64 0)] (.agg [(.int .i64 r13), (.int .i64 r14)]) [(.int .i64 r13), (.int .i64 r14)] [(.int .i64 r13), (.int .i64 r14)] H17 (by kernel_rfl) rfl (all_c rfl (all_c rfl all_n)) ⟨rfl, Nat.le_of_ble_eq_true (by kernel_rfl), rfl⟩ ?_
  refine t_done [(.bool false), r0, r6, (.agg [(.int .i64 r1), (.int .i64 r2)]), (.agg [(.int .i64 r7), (.int .i64 r8)]), (.agg [(.int .i64 r13), (.int .i64 r14)]), .undef, .undef, .undef, r12, .undef, .undef, .undef, .undef] H17 (by kernel_rfl) ?_
  refine then_norm ?_
  refine w_seq ?_
  refine w_run [0, 1, 0, 0, 0, 1, 0, 1] ?_
  refine t_call true naudit_Checkpoint [r0] H17 (by kernel_rfl) h ?_
  clear h
  rintro _ H21 ⟨r18, r19, r20, rfl, h⟩
  obtain ⟨H23, hb⟩ : ∃ H', Dead1 H21 1 H' := ⟨_, ⟨rfl⟩⟩
  replace h := h H23 hb
  refine t_tomb true 1 (.agg [(.int .i64 0), (.int .i64 0)]) [(.int .i64 0), (.int .i64 0)] H23 H21 (by kernel_rfl) rfl hb ?_
  refine t_upd true 2 0 [(.int .i64 0), (.int .i64 0)] (.agg [(.int .i64 r19), (.int .i64 r20)]) [(.int .i64 r19), (.int .i64 r20)] [(.int .i64 r19), (.int .i64 r20)] H23 (by kernel_rfl) rfl (all_c rfl (all_c rfl all_n)) ⟨rfl, Nat.le_of_ble_eq_true (by kernel_rfl), rfl⟩ ?_
  refine t_done [(.bool false), r0, r6, (.agg [(.int .i64 r1), (.int .i64 r2)]), (.agg [(.int .i64 r7), (.int .i64 r8)]), (.agg [(.int .i64 r13), (.int .i64 r14)]), (.agg [(.int .i64 r19), (.int .i64 r20)]), .undef, .undef, r12, .undef, (.int .i64 r18), .undef, .undef] H23 (by kernel_rfl) ?_
  refine then_norm ?_
  refine w_seq ?_
  refine w_run [0, 0, 1, 0, 0, 0, 1, 0, 1] ?_
  refine t_call true naudit_Fork [r0, r6] H23 (by kernel_rfl) h ?_
  clear h
  rintro _ H27 ⟨r24, r25, r26, rfl, h⟩
  obtain ⟨H29, hb⟩ : ∃ H', Dead1 H27 1 H' := ⟨_, ⟨rfl⟩⟩
  replace h := h H29 hb
  refine t_tomb true 1 (.agg [(.int .i64 0), (.int .i64 0)]) [(.int .i64 0), (.int .i64 0)] H29 H27 (by kernel_rfl) rfl hb ?_
  refine t_upd true 2 0 [(.int .i64 0), (.int .i64 0)] (.agg [(.int .i64 r25), (.int .i64 r26)]) [(.int .i64 r25), (.int .i64 r26)] [(.int .i64 r25), (.int .i64 r26)] H29 (by kernel_rfl) rfl (all_c rfl (all_c rfl all_n)) ⟨rfl, Nat.le_of_ble_eq_true (by kernel_rfl), rfl⟩ ?_
  refine t_done [(.bool false), r0, r6, (.agg [(.int .i64 r1), (.int .i64 r2)]), (.agg [(.int .i64 r7), (.int .i64 r8)]), (.agg [(.int .i64 r13), (.int .i64 r14)]), (.agg [(.int .i64 r19), (.int .i64 r20)]), (.agg [(.int .i64 r25), (.int .i64 r26)]), (.int .i64 r24), r12, .undef, (.int .i64 r18), .undef, .undef] H29 (by kernel_rfl) ?_
  refine then_norm ?_
  refine w_seq ?_
  refine w_seq ?_
  refine w_run [0, 0, 0, 0, 0, 0, 0, 0, 0, 0, 0, 0, 0, 0, 0, 0, 0, 0, 0, 0, 0, 0, 0, 0, 0, 1, 0, 0, 0, 0, 1, 0, 0, 0, 0, 0, 0, 0, 0, 3, 3, 2, 0] ?_
  obtain ⟨len30, hl, h⟩ := h
  refine t_len true r0 len30 H29 (by kernel_rfl) hl ?_
  obtain ⟨len31, hl, h⟩ := h
  refine t_len true r6 len31 H29 (by kernel_rfl) hl ?_
  refine t_gd (((((((((r1) != 0) || ((r7) != 0)) || ((r13) != 0)) || ((r19) != 0)) || ((r25) != 0)) || (((len30 : Int)) != 1)) || (((len31 : Int)) != 2)) || ((r24) != 1)) false (by kernel_rfl) (fun hc => ?_) (fun hc => ?_)
  · replace h := h.2 ((is_or (is_or (is_or (is_or (is_or (is_or (is_or is_ne is_ne) is_ne) is_ne) is_ne) is_ne) is_ne) is_ne).f hc)
    obtain ⟨b32, H33, hb⟩ : ∃ b H', NewB H29 1 [(.int .i64 1)] b H' := ⟨_, _, rfl, rfl⟩
    replace h := h b32 H33 hb
    refine t_bs true 1 [(.int .i64 0)] [(0, 1, .loc 0)] 1 [(.int .i64 1)] [(.int .i64 1)] b32 H33 H29 (by kernel_rfl) (fill_c (vs := [(.int .i64 1)]) (size := 1) rfl (by kernel_rfl) (by kernel_rfl) (by kernel_rfl)) hb ?_
    refine t_gd false false (by kernel_rfl) (fun _ => ?_) (fun hn => by cases hn)
    refine t_call true nFEqualInts [r12, (.slice b32 0 1 (some 1))] H33 (by kernel_rfl) h ?_
    clear h
    rintro _ H35 ⟨r34, rfl, h⟩
    refine t_gd false false (by kernel_rfl) (fun _ => ?_) (fun hn => by cases hn)
    refine t_done [(.bool false), r0, r6, (.agg [(.int .i64 r1), (.int .i64 r2)]), (.agg [(.int .i64 r7), (.int .i64 r8)]), (.agg [(.int .i64 r13), (.int .i64 r14)]), (.agg [(.int .i64 r19), (.int .i64 r20)]), (.agg [(.int .i64 r25), (.int .i64 r26)]), (.int .i64 r24), r12, (.bool (!r34)), (.int .i64 r18), .undef, .undef] H35 (by kernel_rfl) ?_
    refine then_norm ?_
    refine w_cond (t := (!r34)) rfl (fun hc => ?_) (fun hc => ?_)
    · replace h := h.1 ((is_not is_raw).t hc)
      refine w_seq ?_
      refine w_run [0] ?_
      refine t_done [(.bool false), r0, r6, (.agg [(.int .i64 r1), (.int .i64 r2)]), (.agg [(.int .i64 r7), (.int .i64 r8)]), (.agg [(.int .i64 r13), (.int .i64 r14)]), (.agg [(.int .i64 r19), (.int .i64 r20)]), (.agg [(.int .i64 r25), (.int .i64 r26)]), (.int .i64 r24), r12, (.bool (!r34)), (.int .i64 r18), .undef, .undef] H35 (by kernel_rfl) ?_
      refine then_norm ?_
      refine w_ret ?_
      refine then_ret ?_
      exact body_ret (vs := [(.bool false)]) _ (by kernel_rfl) rfl h
    · replace h := h.2 ((is_not is_raw).f hc)
      refine w_skip ?_
      refine then_norm ?_
      refine w_seq ?_
      refine w_run [0, 0, 1, 1, 1, 0, 0, 0, 1, 0, 1] ?_
      obtain ⟨e37, e38, e39, e40, hg41, h⟩ := h
      refine t_idxG true 4 r0 .i64 0 H35 (by kernel_rfl) hg41 ?_
      refine t_loadG true (some 4) 4 r0 0 0 (.agg [(.int .i64 e37), (.int .i64 e38), (.int .i64 e39), (.int .i64 e40)]) H35 (by kernel_rfl) hg41 ?_
      refine t_call true naudit_Includes [(.int .i64 r18), (.int .i64 1), (.int .i64 0), (.int .i64 0), (.agg [(.int .i64 e37), (.int .i64 e38), (.int .i64 e39), (.int .i64 e40)]), .empty] H35 (by kernel_rfl) h ?_
      clear h
      rintro _ H45 ⟨r42, r43, r44, rfl, h⟩
      obtain ⟨H47, hb⟩ : ∃ H', Dead1 H45 1 H' := ⟨_, ⟨rfl⟩⟩
      replace h := h H47 hb
      refine t_tomb true 1 (.agg [(.int .i64 0), (.int .i64 0)]) [(.int .i64 0), (.int .i64 0)] H47 H45 (by kernel_rfl) rfl hb ?_
      refine t_upd true 2 0 [(.int .i64 0), (.int .i64 0)] (.agg [(.int .i64 r43), (.int .i64 r44)]) [(.int .i64 r43), (.int .i64 r44)] [(.int .i64 r43), (.int .i64 r44)] H47 (by kernel_rfl) rfl (all_c rfl (all_c rfl all_n)) ⟨rfl, Nat.le_of_ble_eq_true (by kernel_rfl), rfl⟩ ?_
      refine t_done [(.bool false), r0, r6, (.agg [(.int .i64 r1), (.int .i64 r2)]), (.agg [(.int .i64 r7), (.int .i64 r8)]), (.agg [(.int .i64 r13), (.int .i64 r14)]), (.agg [(.int .i64 r19), (.int .i64 r20)]), (.agg [(.int .i64 r25), (.int .i64 r26)]), (.int .i64 r24), r12, (.bool (!r34)), (.int .i64 r18), (.agg [(.int .i64 r43), (.int .i64 r44)]), (.bool r42)] H47 (by kernel_rfl) ?_
      refine then_norm ?_
      refine w_seq ?_
      refine w_run [0, 0, 0, 0, 0, 0, 0, 0, 3, 2, 2, 0, 0] ?_
      refine t_gd (((r43) == 0) && r42) true (by kernel_rfl) (fun hc => ?_) (fun hc => ?_)
      · replace h := h.1 ((is_and is_eq is_raw).t hc)
        refine t_call true naudit_Validate [r6] H47 (by kernel_rfl) h ?_
        clear h
        rintro _ H50 ⟨r48, r49, rfl, h⟩
        refine t_gd true true (by kernel_rfl) (fun _ => ?_) (fun hn => by cases hn)
        refine t_gd true true (by kernel_rfl) (fun _ => ?_) (fun hn => by cases hn)
        refine t_done [(.bool ((r48) == 0)), r0, r6, (.agg [(.int .i64 r1), (.int .i64 r2)]), (.agg [(.int .i64 r7), (.int .i64 r8)]), (.agg [(.int .i64 r13), (.int .i64 r14)]), (.agg [(.int .i64 r19), (.int .i64 r20)]), (.agg [(.int .i64 r25), (.int .i64 r26)]), (.int .i64 r24), r12, (.bool (!r34)), (.int .i64 r18), (.agg [(.int .i64 r43), (.int .i64 r44)]), (.bool r42)] H50 (by kernel_rfl) ?_
        refine then_norm ?_
        refine w_ret ?_
        exact body_ret (vs := [(.bool ((r48) == 0))]) _ (by kernel_rfl) rfl h
      · replace h := h.2 ((is_and is_eq is_raw).f hc)
        refine t_gd false true (by kernel_rfl) (fun hn => by cases hn) (fun _ => ?_)
        refine t_gd false true (by kernel_rfl) (fun hn => by cases hn) (fun _ => ?_)
        refine t_done [(.bool false), r0, r6, (.agg [(.int .i64 r1), (.int .i64 r2)]), (.agg [(.int .i64 r7), (.int .i64 r8)]), (.agg [(.int .i64 r13), (.int .i64 r14)]), (.agg [(.int .i64 r19), (.int .i64 r20)]), (.agg [(.int .i64 r25), (.int .i64 r26)]), (.int .i64 r24), r12, (.bool (!r34)), (.int .i64 r18), (.agg [(.int .i64 r43), (.int .i64 r44)]), (.bool r42)] H47 (by kernel_rfl) ?_
        refine then_norm ?_
        refine w_ret ?_
        exact body_ret (vs := [(.bool false)]) _ (by kernel_rfl) rfl h
  · replace h := h.1 ((is_or (is_or (is_or (is_or (is_or (is_or (is_or is_ne is_ne) is_ne) is_ne) is_ne) is_ne) is_ne) is_ne).t hc)
    refine t_gd true false (by kernel_rfl) (fun hn => by cases hn) (fun _ => ?_)
    refine t_gd true false (by kernel_rfl) (fun hn => by cases hn) (fun _ => ?_)
    refine t_done [(.bool false), r0, r6, (.agg [(.int .i64 r1), (.int .i64 r2)]), (.agg [(.int .i64 r7), (.int .i64 r8)]), (.agg [(.int .i64 r13), (.int .i64 r14)]), (.agg [(.int .i64 r19), (.int .i64 r20)]), (.agg [(.int .i64 r25), (.int .i64 r26)]), (.int .i64 r24), r12, (.bool true), (.int .i64 r18), .undef, .undef] H29 (by kernel_rfl) ?_
    refine then_norm ?_
    refine w_cond (t := true) rfl (fun _ => ?_) (fun hc => by cases hc)
    refine w_seq ?_
    refine w_run [0] ?_
    refine t_done [(.bool false), r0, r6, (.agg [(.int .i64 r1), (.int .i64 r2)]), (.agg [(.int .i64 r7), (.int .i64 r8)]), (.agg [(.int .i64 r13), (.int .i64 r14)]), (.agg [(.int .i64 r19), (.int .i64 r20)]), (.agg [(.int .i64 r25), (.int .i64 r26)]), (.int .i64 r24), r12, (.bool true), (.int .i64 r18), .undef, .undef] H29 (by kernel_rfl) ?_
    refine then_norm ?_
    refine w_ret ?_
    refine then_ret ?_
    exact body_ret (vs := [(.bool false)]) _ (by kernel_rfl) rfl h

def rf_LAuditFunctionsMatchSpec (nFLogFault naudit_Append naudit_Query naudit_Fork nLauditExample naudit_Validate nFRecordValid nFFault nFChain nFEqualRecords nFEqualInts : Nat) : RFunc := ⟨5, 36, [.var 5],
 ((.seq (.ops [⟨.tomb 1 (.var 2), none, (some 6), true⟩, ⟨.move (.k (.bool false)), none, (some 5), true⟩])
 ((.seq (.ops [⟨.move (.var 0), none, none, true⟩, ⟨.callS nFLogFault [(.loc 0)], none, none, true⟩, ⟨.tomb 1 (.k (.agg [.int .i64 0, .int .i64 0])), none, (some 7), true⟩, ⟨.upd 2 0 (.loc 2) (.loc 1), none, (some 7), true⟩])
 ((.seq (.ops [⟨.move (.var 0), none, none, true⟩, ⟨.field 0 none (.var 6), none, none, true⟩, ⟨.field 0 none (.var 6), none, none, true⟩, ⟨.field 0 none (.var 6), none, none, true⟩, ⟨.field 1 none (.var 6), none, none, true⟩, ⟨.field 0 none (.var 6), none, none, true⟩, ⟨.field 2 none (.var 6), none, none, true⟩, ⟨.callS naudit_Append [(.loc 0), (.loc 2), (.loc 4), (.loc 6)], none, none, true⟩, ⟨.move (.loc 7), none, none, true⟩, ⟨.extract (.loc 8) 0, none, none, true⟩, ⟨.extract (.loc 8) 1, none, none, true⟩, ⟨.tomb 1 (.k (.agg [.int .i64 0, .int .i64 0])), none, (some 10), true⟩, ⟨.move (.loc 9), none, (some 13), true⟩, ⟨.upd 2 0 (.loc 11) (.loc 10), none, (some 10), true⟩])
 ((.seq (.ops [⟨.move (.var 0), none, none, true⟩, ⟨.move (.var 3), none, none, true⟩, ⟨.field 0 none (.var 6), none, none, true⟩, ⟨.field 0 none (.var 6), none, none, true⟩, ⟨.move (.var 4), none, none, true⟩, ⟨.callS naudit_Query [(.loc 0), (.loc 1), (.loc 3), (.loc 4)], none, none, true⟩, ⟨.move (.loc 5), none, none, true⟩, ⟨.extract (.loc 6) 0, none, none, true⟩, ⟨.extract (.loc 6) 1, none, none, true⟩, ⟨.tomb 1 (.k (.agg [.int .i64 0, .int .i64 0])), none, (some 11), true⟩, ⟨.move (.loc 7), none, (some 14), true⟩, ⟨.upd 2 0 (.loc 9) (.loc 8), none, (some 11), true⟩])
 ((.seq (.ops [⟨.move (.var 0), none, none, true⟩, ⟨.move (.var 1), none, none, true⟩, ⟨.callS naudit_Fork [(.loc 0), (.loc 1)], none, none, true⟩, ⟨.move (.loc 2), none, none, true⟩, ⟨.extract (.loc 3) 0, none, none, true⟩, ⟨.extract (.loc 3) 1, none, none, true⟩, ⟨.tomb 1 (.k (.agg [.int .i64 0, .int .i64 0])), none, (some 12), true⟩, ⟨.move (.loc 4), none, (some 15), true⟩, ⟨.upd 2 0 (.loc 6) (.loc 5), none, (some 12), true⟩])
 ((.seq ((.seq (.ops [⟨.callS nLauditExample [], none, none, true⟩, ⟨.un .not (.loc 0), none, none, true⟩, ⟨.move (.loc 1), none, none, true⟩, ⟨.move (.var 0), none, none, false⟩, ⟨.callS naudit_Validate [(.loc 3)], (some (2, false)), none, false⟩, ⟨.field 0 (some 2) (.var 7), none, none, false⟩, ⟨.bin .neq (.agg [.int, .int]) (.loc 4) (.loc 5), (some (2, false)), none, true⟩, ⟨.pick (.loc 2) (.k (.bool true)) (.loc 6), none, (some 8), true⟩])
 (.cond (.var 8) ((.seq (.ops [⟨.move (.k (.bool false)), none, (some 5), true⟩])
 (.ret))) (.skip))))
 ((.seq ((.seq (.ops [⟨.field 0 none (.var 7), none, none, true⟩, ⟨.field 0 none (.var 7), none, none, true⟩, ⟨.bin .neq .no (.loc 1) (.k (.int .i64 0)), none, (some 9), true⟩])
 (.cond (.var 9) ((.seq (.ops [⟨.field 0 (some 2) (.var 10), none, none, true⟩, ⟨.field 0 (some 2) (.var 7), none, none, true⟩, ⟨.bin .eql (.agg [.int, .int]) (.loc 0) (.loc 1), none, none, true⟩, ⟨.move (.loc 2), none, none, true⟩, ⟨.field 0 (some 2) (.var 11), none, none, true⟩, ⟨.field 0 (some 2) (.var 7), none, none, true⟩, ⟨.bin .eql (.agg [.int, .int]) (.loc 4) (.loc 5), none, none, true⟩, ⟨.pick (.loc 3) (.loc 6) (.k (.bool false)), none, none, true⟩, ⟨.move (.loc 7), none, none, true⟩, ⟨.field 0 (some 2) (.var 12), none, none, true⟩, ⟨.field 0 (some 2) (.var 7), none, none, true⟩, ⟨.bin .eql (.agg [.int, .int]) (.loc 9) (.loc 10), none, none, true⟩, ⟨.pick (.loc 8) (.loc 11) (.k (.bool false)), none, none, true⟩, ⟨.move (.loc 12), none, none, true⟩, ⟨.move (.var 13), none, none, true⟩, ⟨.len (.loc 14), none, none, true⟩, ⟨.bin .eql .no (.loc 15) (.k (.int .i64 0)), none, none, true⟩, ⟨.pick (.loc 13) (.loc 16) (.k (.bool false)), none, none, true⟩, ⟨.move (.loc 17), none, none, true⟩, ⟨.move (.var 14), none, none, true⟩, ⟨.len (.loc 19), none, none, true⟩, ⟨.bin .eql .no (.loc 20) (.k (.int .i64 0)), none, none, true⟩, ⟨.pick (.loc 18) (.loc 21) (.k (.bool false)), none, none, true⟩, ⟨.move (.loc 22), none, none, true⟩, ⟨.move (.var 15), none, none, true⟩, ⟨.bin .eql .no (.loc 24) (.k (.int .i64 0)), none, none, true⟩, ⟨.pick (.loc 23) (.loc 25) (.k (.bool false)), none, none, true⟩, ⟨.move (.loc 26), none, (some 5), true⟩])
 (.ret))) (.skip))))
 ((.seq (.ops [⟨.tomb 1 (.k (.agg [.int .i64 0, .int .i64 0, .int .i64 0, .int .i64 0])), none, (some 17), true⟩])
 ((.seq ((.seq (.ops [⟨.move (.var 0), none, none, true⟩, ⟨.len (.loc 0), none, none, true⟩, ⟨.bin .gtr .no (.loc 1) (.k (.int .i64 0)), none, (some 16), true⟩])
 (.cond (.var 16) (.ops [⟨.move (.var 0), none, none, true⟩, ⟨.move (.var 0), none, none, true⟩, ⟨.len (.loc 1), none, none, true⟩, ⟨.bin .sub .no (.loc 2) (.k (.int .i64 1)), none, none, true⟩, ⟨.indexAddr 4 (.loc 0) (.loc 3), none, none, true⟩, ⟨.load (some 4) (.loc 4), none, none, true⟩, ⟨.upd 4 0 (.var 17) (.loc 5), none, (some 17), true⟩]) (.skip))))
 ((.seq (.ops [⟨.field 0 none (.var 6), none, none, true⟩, ⟨.field 0 none (.var 6), none, none, true⟩, ⟨.field 0 none (.var 6), none, none, true⟩, ⟨.field 1 none (.var 6), none, none, true⟩, ⟨.field 0 none (.var 6), none, none, true⟩, ⟨.field 2 none (.var 6), none, none, true⟩, ⟨.build [.int .i64 0, .int .i64 0, .int .i64 0, .int .i64 0] [(0, 1, (.loc 1)), (1, 1, (.loc 3)), (2, 1, (.loc 5))], none, none, true⟩, ⟨.tomb 1 (.k (.agg [.int .i64 0, .int .i64 0, .int .i64 0, .int .i64 0])), none, (some 18), true⟩, ⟨.upd 4 0 (.loc 7) (.loc 6), none, (some 18), true⟩])
 ((.seq (.ops [⟨.build [.int .i64 0, .int .i64 0] [], none, none, true⟩, ⟨.tomb 1 (.k (.agg [.int .i64 0, .int .i64 0])), none, (some 20), true⟩, ⟨.upd 2 0 (.loc 1) (.loc 0), none, (some 20), true⟩])
 ((.seq ((.seq (.ops [⟨.field 0 (some 4) (.var 18), none, none, true⟩, ⟨.callS nFRecordValid [(.loc 0)], none, none, true⟩, ⟨.un .not (.loc 1), none, (some 19), true⟩])
 (.cond (.var 19) (.ops [⟨.callS nFFault [(.k (.int .i64 3)), (.k (.int .i64 (-2)))], none, none, true⟩, ⟨.upd 2 0 (.var 20) (.loc 0), none, (some 20), true⟩]) ((.seq (.ops [⟨.field 0 none (.var 18), none, none, true⟩, ⟨.field 0 none (.var 18), none, none, true⟩, ⟨.field 0 none (.var 17), none, none, true⟩, ⟨.field 0 none (.var 17), none, none, true⟩, ⟨.bin .lss .no (.loc 1) (.loc 3), none, (some 21), true⟩])
 (.cond (.var 21) (.ops [⟨.callS nFFault [(.k (.int .i64 16)), (.k (.int .i64 (-2)))], none, none, true⟩, ⟨.upd 2 0 (.var 20) (.loc 0), none, (some 20), true⟩]) ((.seq (.ops [⟨.move (.var 0), none, none, true⟩, ⟨.len (.loc 0), none, none, true⟩, ⟨.bin .eql .no (.loc 1) (.k (.int .i64 40)), none, (some 22), true⟩])
 (.cond (.var 22) (.ops [⟨.callS nFFault [(.k (.int .i64 14)), (.k (.int .i64 (-2)))], none, none, true⟩, ⟨.upd 2 0 (.var 20) (.loc 0), none, (some 20), true⟩]) (.skip))))))))))
 ((.seq ((.seq (.ops [⟨.field 0 none (.var 20), none, none, true⟩, ⟨.field 0 none (.var 20), none, none, true⟩, ⟨.bin .neq .no (.loc 1) (.k (.int .i64 0)), none, (some 23), true⟩])
 (.cond (.var 23) ((.seq (.ops [⟨.field 0 (some 2) (.var 10), none, none, true⟩, ⟨.field 0 (some 2) (.var 20), none, none, true⟩, ⟨.bin .neq (.agg [.int, .int]) (.loc 0) (.loc 1), none, none, true⟩, ⟨.move (.loc 2), none, none, true⟩, ⟨.move (.var 13), none, none, true⟩, ⟨.len (.loc 4), none, none, true⟩, ⟨.bin .gtr .no (.loc 5) (.k (.int .i64 0)), none, none, true⟩, ⟨.pick (.loc 3) (.k (.bool true)) (.loc 6), none, (some 24), true⟩])
 (.cond (.var 24) ((.seq (.ops [⟨.move (.k (.bool false)), none, (some 5), true⟩])
 (.ret))) (.skip)))) ((.seq (.ops [⟨.field 0 none (.var 17), none, none, true⟩, ⟨.field 3 none (.var 17), none, none, true⟩, ⟨.field 0 (some 4) (.var 18), none, none, true⟩, ⟨.callS nFChain [(.loc 1), (.loc 2)], none, none, true⟩, ⟨.field 0 none (.var 18), none, none, true⟩, ⟨.upd 1 3 (.var 18) (.loc 3), none, (some 18), true⟩])
 ((.seq (.ops [⟨.field 0 none (.var 10), none, none, true⟩, ⟨.field 0 none (.var 10), none, none, true⟩, ⟨.bin .neq .no (.loc 1) (.k (.int .i64 0)), none, none, true⟩, ⟨.move (.loc 2), none, none, true⟩, ⟨.move (.var 13), none, none, false⟩, ⟨.move (.var 0), none, none, false⟩, ⟨.append 4 32 (.k (.empty)) (.loc 5), (some (3, false)), none, false⟩, ⟨.field 0 (some 4) (.var 18), none, none, false⟩, ⟨.buildSlice 4 [.int .i64 0, .int .i64 0, .int .i64 0, .int .i64 0] [(0, 4, (.loc 7))] 1, (some (3, false)), none, false⟩, ⟨.append 4 32 (.loc 6) (.loc 8), (some (3, false)), none, true⟩, ⟨.callS nFEqualRecords [(.loc 4), (.loc 9)], (some (3, false)), none, true⟩, ⟨.un .not (.loc 10), (some (3, false)), none, true⟩, ⟨.pick (.loc 3) (.k (.bool true)) (.loc 11), none, (some 25), true⟩])
 (.cond (.var 25) ((.seq (.ops [⟨.move (.k (.bool false)), none, (some 5), true⟩])
 (.ret))) (.skip)))))))))
 ((.seq ((.seq (.ops [⟨.move (.var 3), none, none, true⟩, ⟨.bin .lss .no (.loc 0) (.k (.int .i64 (-1))), none, none, true⟩, ⟨.move (.loc 1), none, none, true⟩, ⟨.move (.var 3), none, none, true⟩, ⟨.bin .gtr .no (.loc 3) (.k (.int .i64 7)), none, none, true⟩, ⟨.pick (.loc 2) (.k (.bool true)) (.loc 4), none, (some 26), true⟩])
 (.cond (.var 26) ((.seq (.ops [⟨.field 0 (some 2) (.var 11), none, none, false⟩, ⟨.callS nFFault [(.k (.int .i64 3)), (.k (.int .i64 (-2)))], none, none, false⟩, ⟨.bin .neq (.agg [.int, .int]) (.loc 0) (.loc 1), none, none, true⟩, ⟨.move (.loc 2), none, none, true⟩, ⟨.move (.var 14), none, none, true⟩, ⟨.len (.loc 4), none, none, true⟩, ⟨.bin .gtr .no (.loc 5) (.k (.int .i64 0)), none, none, true⟩, ⟨.pick (.loc 3) (.k (.bool true)) (.loc 6), none, (some 27), true⟩])
 (.cond (.var 27) ((.seq (.ops [⟨.move (.k (.bool false)), none, (some 5), true⟩])
 (.ret))) (.skip)))) ((.seq (.ops [⟨.move (.k (.empty)), none, (some 31), true⟩])
 ((.seq ((.seq (.ops [⟨.move (.k (.int .i64 0)), none, (some 28), true⟩])
 (.block 0 (.loop ((.seq ((.seq (.ops [⟨.move (.var 28), none, none, true⟩, ⟨.move (.var 0), none, none, true⟩, ⟨.len (.loc 1), none, none, true⟩, ⟨.bin .lss .no (.loc 0) (.loc 2), none, (some 29), true⟩])
 (.cond (.var 29) (.skip) (.exit 0))))
 ((.seq (.block 1 ((.seq (.ops [⟨.move (.var 0), none, none, false⟩, ⟨.move (.var 28), none, none, false⟩, ⟨.indexAddr 4 (.loc 0) (.loc 1), none, none, false⟩, ⟨.fieldAddr 0 (.loc 2), none, none, false⟩, ⟨.load none (.loc 3), none, none, false⟩, ⟨.field 0 none (.var 6), none, none, false⟩, ⟨.field 0 none (.var 6), none, none, false⟩, ⟨.bin .geq .no (.loc 4) (.loc 6), none, none, true⟩, ⟨.move (.loc 7), none, none, true⟩, ⟨.move (.var 0), (some (8, true)), none, true⟩, ⟨.move (.var 28), (some (8, true)), none, true⟩, ⟨.indexAddr 4 (.loc 9) (.loc 10), (some (8, true)), none, true⟩, ⟨.fieldAddr 0 (.loc 11), (some (8, true)), none, true⟩, ⟨.load none (.loc 12), (some (8, true)), none, true⟩, ⟨.move (.var 4), (some (8, true)), none, false⟩, ⟨.bin .leq .no (.loc 13) (.loc 14), (some (8, true)), none, true⟩, ⟨.pick (.loc 8) (.loc 15) (.k (.bool false)), none, none, true⟩, ⟨.move (.loc 16), none, none, true⟩, ⟨.move (.var 3), (some (17, true)), none, true⟩, ⟨.bin .lss .no (.loc 18) (.k (.int .i64 0)), (some (17, true)), none, true⟩, ⟨.move (.loc 19), (some (17, true)), none, true⟩, ⟨.move (.var 0), (some (20, false)), none, true⟩, ⟨.move (.var 28), (some (20, false)), none, true⟩, ⟨.indexAddr 4 (.loc 21) (.loc 22), (some (20, false)), none, true⟩, ⟨.fieldAddr 1 (.loc 23), (some (20, false)), none, true⟩, ⟨.load none (.loc 24), (some (20, false)), none, true⟩, ⟨.move (.var 3), (some (20, false)), none, false⟩, ⟨.bin .eql .no (.loc 25) (.loc 26), (some (20, false)), none, true⟩, ⟨.pick (.loc 20) (.k (.bool true)) (.loc 27), (some (17, true)), none, true⟩, ⟨.pick (.loc 17) (.loc 28) (.k (.bool false)), none, (some 30), true⟩])
 (.cond (.var 30) (.ops [⟨.move (.var 31), none, none, true⟩, ⟨.move (.var 28), none, none, true⟩, ⟨.buildSlice 1 [.int .i64 0] [(0, 1, (.loc 1))] 1, none, none, true⟩, ⟨.append 1 8 (.loc 0) (.loc 2), none, none, true⟩, ⟨.move (.loc 3), none, (some 31), true⟩]) (.skip)))))
 (.ops [⟨.move (.var 28), none, none, true⟩, ⟨.bin .add .no (.loc 0) (.k (.int .i64 1)), none, none, true⟩, ⟨.move (.loc 1), none, (some 28), true⟩])))))))))
 ((.seq (.ops [⟨.field 0 none (.var 11), none, none, true⟩, ⟨.field 0 none (.var 11), none, none, true⟩, ⟨.bin .neq .no (.loc 1) (.k (.int .i64 0)), none, none, true⟩, ⟨.move (.loc 2), none, none, true⟩, ⟨.move (.var 14), none, none, true⟩, ⟨.move (.var 31), none, none, true⟩, ⟨.callS nFEqualInts [(.loc 4), (.loc 5)], (some (3, false)), none, true⟩, ⟨.un .not (.loc 6), (some (3, false)), none, true⟩, ⟨.pick (.loc 3) (.k (.bool true)) (.loc 7), none, (some 32), true⟩])
 (.cond (.var 32) ((.seq (.ops [⟨.move (.k (.bool false)), none, (some 5), true⟩])
 (.ret))) (.skip)))))))))))
 ((.seq ((.seq (.ops [⟨.move (.var 1), none, none, true⟩, ⟨.callS nFLogFault [(.loc 0)], none, none, true⟩, ⟨.field 0 none (.loc 1), none, none, true⟩, ⟨.bin .neq .no (.loc 2) (.k (.int .i64 0)), none, (some 33), true⟩])
 (.cond (.var 33) ((.seq (.ops [⟨.field 0 (some 2) (.var 12), none, none, false⟩, ⟨.move (.var 1), none, none, false⟩, ⟨.callS nFLogFault [(.loc 1)], none, none, false⟩, ⟨.field 0 none (.loc 2), none, none, false⟩, ⟨.callS nFFault [(.loc 3), (.k (.int .i64 (-2)))], none, none, false⟩, ⟨.bin .eql (.agg [.int, .int]) (.loc 0) (.loc 4), none, none, true⟩, ⟨.move (.loc 5), none, none, true⟩, ⟨.move (.var 15), none, none, true⟩, ⟨.bin .eql .no (.loc 7) (.k (.int .i64 0)), none, none, true⟩, ⟨.pick (.loc 6) (.loc 8) (.k (.bool false)), none, none, true⟩, ⟨.move (.loc 9), none, (some 5), true⟩])
 (.ret))) (.skip))))
 ((.seq (.ops [⟨.move (.k (.int .i64 0)), none, (some 34), true⟩])
 ((.seq (.block 2 (.loop ((.seq ((.seq (.ops [⟨.move (.var 34), none, none, true⟩, ⟨.move (.var 0), none, none, true⟩, ⟨.len (.loc 1), none, none, true⟩, ⟨.bin .lss .no (.loc 0) (.loc 2), none, none, true⟩, ⟨.move (.loc 3), none, none, true⟩, ⟨.move (.var 34), none, none, true⟩, ⟨.move (.var 1), none, none, true⟩, ⟨.len (.loc 6), none, none, true⟩, ⟨.bin .lss .no (.loc 5) (.loc 7), none, none, true⟩, ⟨.pick (.loc 4) (.loc 8) (.k (.bool false)), none, none, true⟩, ⟨.move (.loc 9), none, none, true⟩, ⟨.move (.var 0), none, none, false⟩, ⟨.move (.var 34), none, none, false⟩, ⟨.indexAddr 4 (.loc 11) (.loc 12), (some (10, true)), none, false⟩, ⟨.load (some 4) (.loc 13), (some (10, true)), none, false⟩, ⟨.move (.var 1), none, none, false⟩, ⟨.move (.var 34), none, none, false⟩, ⟨.indexAddr 4 (.loc 15) (.loc 16), (some (10, true)), none, false⟩, ⟨.load (some 4) (.loc 17), (some (10, true)), none, false⟩, ⟨.bin .eql (.agg [.int, .int, .int, .int]) (.loc 14) (.loc 18), (some (10, true)), none, true⟩, ⟨.pick (.loc 10) (.loc 19) (.k (.bool false)), none, (some 35), true⟩])
 (.cond (.var 35) (.skip) (.exit 2))))
 (.block 3 (.ops [⟨.move (.var 34), none, none, true⟩, ⟨.bin .add .no (.loc 0) (.k (.int .i64 1)), none, none, true⟩, ⟨.move (.loc 1), none, (some 34), true⟩]))))))
 ((.seq (.ops [⟨.field 0 none (.var 12), none, none, true⟩, ⟨.field 0 none (.var 12), none, none, true⟩, ⟨.bin .eql .no (.loc 1) (.k (.int .i64 0)), none, none, true⟩, ⟨.move (.loc 2), none, none, true⟩, ⟨.move (.var 15), none, none, true⟩, ⟨.move (.var 34), none, none, true⟩, ⟨.bin .eql .no (.loc 4) (.loc 5), none, none, true⟩, ⟨.pick (.loc 3) (.loc 6) (.k (.bool false)), none, none, true⟩, ⟨.move (.loc 7), none, (some 5), true⟩])
 (.ret))))))))))))))))))))))))))))))))))))), none⟩
theorem v_LAuditFunctionsMatchSpec {F : Nat → Option RFunc} {me nFLogFault naudit_Append naudit_Query naudit_Fork nLauditExample naudit_Validate nFRecordValid nFFault nFChain nFEqualRecords nFEqualInts : Nat} (hF : F me = some (rf_LAuditFunctionsMatchSpec nFLogFault naudit_Append naudit_Query naudit_Fork nLauditExample naudit_Validate nFRecordValid nFFault nFChain nFEqualRecords nFEqualInts)) {fl : Nat} {H : Heap} {Q : AV → Heap → Prop} (l0 : AV) (other1 : AV) (r2 : Int) (r3 : Int) (r4 : Int) (r5 : Int) (user6 : Int) (to7 : Int)
  (h : ∀ (H8 : Heap), Dead1 H 1 H8 → Ret F fl nFLogFault [l0] H8 (fun v12 H11 => ∃ (r9 : Int) (r10 : Int), v12 = (.agg [(.int .i64 r9), (.int .i64 r10)]) ∧ ∀ (H13 : Heap), Dead1 H11 1 H13 → Ret F fl naudit_Append [l0, (.int .i64 r2), (.int .i64 r3), (.int .i64 r4)] H13 (fun v18 H17 => ∃ (r14 : AV) (r15 : Int) (r16 : Int), v18 = (.tuple [r14, (.agg [(.int .i64 r15), (.int .i64 r16)])]) ∧ ∀ (H19 : Heap), Dead1 H17 1 H19 → Ret F fl naudit_Query [l0, (.int .i64 user6), (.int .i64 r2), (.int .i64 to7)] H19 (fun v24 H23 => ∃ (r20 : AV) (r21 : Int) (r22 : Int), v24 = (.tuple [r20, (.agg [(.int .i64 r21), (.int .i64 r22)])]) ∧ ∀ (H25 : Heap), Dead1 H23 1 H25 → Ret F fl naudit_Fork [l0, other1] H25 (fun v30 H29 => ∃ (r26 : Int) (r27 : Int) (r28 : Int), v30 = (.tuple [(.int .i64 r26), (.agg [(.int .i64 r27), (.int .i64 r28)])]) ∧ ∀ (H31 : Heap), Dead1 H29 1 H31 → Ret F fl nLauditExample [] H31 (fun v34 H33 => ∃ (r32 : Bool), v34 = (.bool r32) ∧ ((¬(r32 = true)) → Q (.bool false) H33) ∧ (¬(¬(r32 = true)) → Ret F H33.length naudit_Validate [l0] H33 (fun v38 H37 => ∃ (r35 : Int) (r36 : Int), v38 = (.agg [(.int .i64 r35), (.int .i64 r36)]) ∧ ((¬(((r35 = r9) ∧ (((r36 = r10) ∧ (True)))))) → Q (.bool false) H37) ∧ (¬(¬(((r35 = r9) ∧ (((r36 = r10) ∧ (True)))))) → ((r9 ≠ 0) → ∃ len39 : Nat, lenA r14 = some len39 ∧ ∃ len40 : Nat, lenA r20 = some len40 ∧ Q (.bool ((((((((r15) == r9) && (((r16) == r10) && true)) && (((r21) == r9) && (((r22) == r10) && true))) && (((r27) == r9) && (((r28) == r10) && true))) && (((len39 : Int)) == 0)) && (((len40 : Int)) == 0)) && ((r26) == 0))) H37) ∧ (¬(r9 ≠ 0) → ∀ (H41 : Heap), Dead1 H37 1 H41 → ∃ (R42 : Int → Int → Int → Int → Prop), (∃ len48 : Nat, lenA l0 = some len48 ∧ (((len48 : Int) > 0) → ∃ len49 : Nat, lenA l0 = some len49 ∧ ∃ (e50 : Int) (e51 : Int) (e52 : Int) (e53 : Int), getA H41 4 (some 4) l0 (IntKind.wrap .i64 ((len49 : Int) - 1)) 0 = some (.agg [(.int .i64 e50), (.int .i64 e51), (.int .i64 e52), (.int .i64 e53)]) ∧ R42 e50 e51 e52 e53) ∧ (¬((len48 : Int) > 0) → R42 0 0 0 0)) ∧ (∀ (last44 : Int) (last45 : Int) (last46 : Int) (last47 : Int), R42 last44 last45 last46 last47 → ∀ (H55 : Heap), Dead1 H41 1 H55 → ∀ (H56 : Heap), Dead1 H55 1 H56 → ∃ (R57 : Int → Int → Heap → Prop), (Ret F fl nFRecordValid [(.agg [(.int .i64 r2), (.int .i64 r3), (.int .i64 r4), (.int .i64 0)])] H56 (fun v66 H65 => ∃ (r64 : Bool), v66 = (.bool r64) ∧ ((¬(r64 = true)) → Ret F fl nFFault [(.int .i64 3), (.int .i64 (-2))] H65 (fun v70 H69 => ∃ (r67 : Int) (r68 : Int), v70 = (.agg [(.int .i64 r67), (.int .i64 r68)]) ∧ R57 r67 r68 H69)) ∧ (¬(¬(r64 = true)) → ((r2 < last44) → Ret F fl nFFault [(.int .i64 16), (.int .i64 (-2))] H65 (fun v74 H73 => ∃ (r71 : Int) (r72 : Int), v74 = (.agg [(.int .i64 r71), (.int .i64 r72)]) ∧ R57 r71 r72 H73)) ∧ (¬(r2 < last44) → ∃ len75 : Nat, lenA l0 = some len75 ∧ (((len75 : Int) = 40) → Ret F fl nFFault [(.int .i64 14), (.int .i64 (-2))] H65 (fun v79 H78 => ∃ (r76 : Int) (r77 : Int), v79 = (.agg [(.int .i64 r76), (.int .i64 r77)]) ∧ R57 r76 r77 H78)) ∧ (¬((len75 : Int) = 40) → R57 0 0 H65))))) ∧ (∀ (w59 : Int) (w60 : Int) (H63 : Heap), R57 w59 w60 H63 → ∃ (R80 : Heap → Prop), (((w59 ≠ 0) → ∃ len87 : Nat, lenA r14 = some len87 ∧ ((((¬(((r15 = w59) ∧ (((r16 = w60) ∧ (True)))))) ∨ ((len87 : Int) > 0))) → Q (.bool false) H63) ∧ (¬(((¬(((r15 = w59) ∧ (((r16 = w60) ∧ (True)))))) ∨ ((len87 : Int) > 0))) → R80 H63)) ∧ (¬(w59 ≠ 0) → Ret F fl nFChain [(.int .i64 last47), (.agg [(.int .i64 r2), (.int .i64 r3), (.int .i64 r4), (.int .i64 0)])] H63 (fun v90 H89 => ∃ (r88 : Int), v90 = (.int .i64 r88) ∧ ((r15 ≠ 0) → Q (.bool false) H89) ∧ (¬(r15 ≠ 0) → ∃ (a91 : AV) (H92 : Heap), appA fl false 4 32 H89 .empty l0 = some (a91, H92) ∧ ∀ (b93 : Nat) (H94 : Heap), NewB H92 4 [(.int .i64 r2), (.int .i64 r3), (.int .i64 r4), (.int .i64 r88)] b93 H94 → ∃ (a95 : AV) (H96 : Heap), appA fl true 4 32 H94 a91 (.slice b93 0 1 (some 1)) = some (a95, H96) ∧ Ret F fl nFEqualRecords [r14, a95] H96 (fun v99 H98 => ∃ (r97 : Bool), v99 = (.bool r97) ∧ ((¬(r97 = true)) → Q (.bool false) H98) ∧ (¬(¬(r97 = true)) → R80 H98)))))) ∧ (∀ (H86 : Heap), R80 H86 → ∃ (R100 : Heap → Prop), (((((user6 < (-1)) ∨ (user6 > 7))) → Ret F H86.length nFFault [(.int .i64 3), (.int .i64 (-2))] H86 (fun v113 H112 => ∃ (r110 : Int) (r111 : Int), v113 = (.agg [(.int .i64 r110), (.int .i64 r111)]) ∧ ∃ len114 : Nat, lenA r20 = some len114 ∧ ((((¬(((r21 = r110) ∧ (((r22 = r111) ∧ (True)))))) ∨ ((len114 : Int) > 0))) → Q (.bool false) H112) ∧ (¬(((¬(((r21 = r110) ∧ (((r22 = r111) ∧ (True)))))) ∨ ((len114 : Int) > 0))) → R100 H112))) ∧ (¬(((user6 < (-1)) ∨ (user6 > 7))) → ∃ (J115 : Nat → Int → AV → Heap → Prop) (k116 : Nat), J115 k116 0 .empty H86 ∧ (∀ (m117 : Nat) (i118 : Int) (want121 : AV) (H122 : Heap), J115 m117 i118 want121 H122 → ∃ len123 : Nat, lenA l0 = some len123 ∧ ((i118 < (len123 : Int)) → ∃ (e124 : Int), getA H122 4 none l0 i118 0 = some (.int .i64 e124) ∧ ((e124 ≥ r2) → ∃ (e126 : Int), getA H122 4 none l0 i118 0 = some (.int .i64 e126) ∧ ((e126 ≤ to7) → ((user6 < 0) → ∀ (b136 : Nat) (H137 : Heap), NewB H122 1 [(.int .i64 i118)] b136 H137 → ∃ (a138 : AV) (H139 : Heap), appA fl true 1 8 H137 want121 (.slice b136 0 1 (some 1)) = some (a138, H139) ∧ ∃ m140 : Nat, m140 < m117 ∧ J115 m140 (IntKind.wrap .i64 (i118 + 1)) a138 H139) ∧ (¬(user6 < 0) → ∃ (e128 : Int), getA H122 4 none l0 i118 1 = some (.int .i64 e128) ∧ ((e128 = user6) → ∀ (b130 : Nat) (H131 : Heap), NewB H122 1 [(.int .i64 i118)] b130 H131 → ∃ (a132 : AV) (H133 : Heap), appA fl true 1 8 H131 want121 (.slice b130 0 1 (some 1)) = some (a132, H133) ∧ ∃ m134 : Nat, m134 < m117 ∧ J115 m134 (IntKind.wrap .i64 (i118 + 1)) a132 H133) ∧ (¬(e128 = user6) → ∃ m135 : Nat, m135 < m117 ∧ J115 m135 (IntKind.wrap .i64 (i118 + 1)) want121 H122))) ∧ (¬(e126 ≤ to7) → ∃ m141 : Nat, m141 < m117 ∧ J115 m141 (IntKind.wrap .i64 (i118 + 1)) want121 H122)) ∧ (¬(e124 ≥ r2) → ∃ m142 : Nat, m142 < m117 ∧ J115 m142 (IntKind.wrap .i64 (i118 + 1)) want121 H122)) ∧ (¬(i118 < (len123 : Int)) → ((r21 ≠ 0) → Q (.bool false) H122) ∧ (¬(r21 ≠ 0) → Ret F fl nFEqualInts [r20, want121] H122 (fun v145 H144 => ∃ (r143 : Bool), v145 = (.bool r143) ∧ ((¬(r143 = true)) → Q (.bool false) H144) ∧ (¬(¬(r143 = true)) → R100 H144))))))) ∧ (∀ (H109 : Heap), R100 H109 → Ret F fl nFLogFault [other1] H109 (fun v149 H148 => ∃ (r146 : Int) (r147 : Int), v149 = (.agg [(.int .i64 r146), (.int .i64 r147)]) ∧ ((r146 ≠ 0) → Ret F H148.length nFLogFault [other1] H148 (fun v153 H152 => ∃ (r150 : Int) (r151 : Int), v153 = (.agg [(.int .i64 r150), (.int .i64 r151)]) ∧ Ret F H152.length nFFault [(.int .i64 r150), (.int .i64 (-2))] H152 (fun v157 H156 => ∃ (r154 : Int) (r155 : Int), v157 = (.agg [(.int .i64 r154), (.int .i64 r155)]) ∧ Q (.bool ((((r27) == r154) && (((r28) == r155) && true)) && ((r26) == 0))) H156))) ∧ (¬(r146 ≠ 0) → ∃ (J158 : Nat → Int → Prop) (k159 : Nat), J158 k159 0 ∧ (∀ (m160 : Nat) (want161 : Int), J158 m160 want161 → ∃ len163 : Nat, lenA l0 = some len163 ∧ ∃ len164 : Nat, lenA other1 = some len164 ∧ ((((want161 < (len163 : Int)) ∧ (want161 < (len164 : Int)))) → ∃ (e165 : Int) (e166 : Int) (e167 : Int) (e168 : Int), getA H148 4 (some 4) l0 want161 0 = some (.agg [(.int .i64 e165), (.int .i64 e166), (.int .i64 e167), (.int .i64 e168)]) ∧ ∃ (e170 : Int) (e171 : Int) (e172 : Int) (e173 : Int), getA H148 4 (some 4) other1 want161 0 = some (.agg [(.int .i64 e170), (.int .i64 e171), (.int .i64 e172), (.int .i64 e173)]) ∧ ((((e165 = e170) ∧ (((e166 = e171) ∧ (((e167 = e172) ∧ (((e168 = e173) ∧ (True))))))))) → ∃ m175 : Nat, m175 < m160 ∧ J158 m175 (IntKind.wrap .i64 (want161 + 1))) ∧ (¬(((e165 = e170) ∧ (((e166 = e171) ∧ (((e167 = e172) ∧ (((e168 = e173) ∧ (True))))))))) → Q (.bool (((r27) == 0) && ((r26) == want161))) H148)) ∧ (¬(((want161 < (len163 : Int)) ∧ (want161 < (len164 : Int)))) → Q (.bool (((r27) == 0) && ((r26) == want161))) H148)))))))))))))))))) : Ret F fl me [l0, other1, (.agg [(.int .i64 r2), (.int .i64 r3), (.int .i64 r4), (.int .i64 r5)]), (.int .i64 user6), (.int .i64 to7)] H Q := by
  refine ret_intro hF rfl ?_
  refine w_seq ?_
  refine w_run [1, 0] ?_
  obtain ⟨H8, hb⟩ : ∃ H', Dead1 H 1 H' := ⟨_, ⟨rfl⟩⟩
  replace h := h H8 hb
  refine t_tomb true 1 (.agg [(.int .i64 r2), (.int .i64 r3), (.int .i64 r4), (.int .i64 r5)]) [(.int .i64 r2), (.int .i64 r3), (.int .i64 r4), (.int .i64 r5)] H8 H (by kernel_rfl) rfl hb ?_
  refine t_done [l0, other1, (.agg [(.int .i64 r2), (.int .i64 r3), (.int .i64 r4), (.int .i64 r5)]), (.int .i64 user6), (.int .i64 to7), (.bool false), (.agg [(.int .i64 r2), (.int .i64 r3), (.int .i64 r4), (.int .i64 r5)]), .undef, .undef, .undef, .undef, .undef, .undef, .undef, .undef, .undef, .undef, .undef, .undef, .undef, .undef, .undef, .undef, .undef, .undef, .undef, .undef, .undef, .undef, .undef, .undef, .undef, .undef, .undef, .undef, .undef] H8 (by kernel_rfl) ?_
  refine then_norm ?_
  refine w_seq ?_
  refine w_run [0, 1, 1, 1] ?_
  refine t_call true nFLogFault [l0] H8 (by kernel_rfl) h ?_
  clear h
  rintro _ H11 ⟨r9, r10, rfl, h⟩
  obtain ⟨H13, hb⟩ : ∃ H', Dead1 H11 1 H' := ⟨_, ⟨rfl⟩⟩
  replace h := h H13 hb
  refine t_tomb true 1 (.agg [(.int .i64 0), (.int .i64 0)]) [(.int .i64 0), (.int .i64 0)] H13 H11 (by kernel_rfl) rfl hb ?_
  refine t_upd true 2 0 [(.int .i64 0), (.int .i64 0)] (.agg [(.int .i64 r9), (.int .i64 r10)]) [(.int .i64 r9), (.int .i64 r10)] [(.int .i64 r9), (.int .i64 r10)] H13 (by kernel_rfl) rfl (all_c rfl (all_c rfl all_n)) ⟨rfl, Nat.le_of_ble_eq_true (by kernel_rfl), rfl⟩ ?_
  refine t_done [l0, other1, (.agg [(.int .i64 r2), (.int .i64 r3), (.int .i64 r4), (.int .i64 r5)]), (.int .i64 user6), (.int .i64 to7), (.bool false), (.agg [(.int .i64 r2), (.int .i64 r3), (.int .i64 r4), (.int .i64 r5)]), (.agg [(.int .i64 r9), (.int .i64 r10)]), .undef, .undef, .undef, .undef, .undef, .undef, .undef, .undef, .undef, .undef, .undef, .undef, .undef, .undef, .undef, .undef, .undef, .undef, .undef, .undef, .undef, .undef, .undef, .undef, .undef, .undef, .undef, .undef] H13 (by kernel_rfl) ?_
  refine then_norm ?_
  refine w_seq ?_
  refine w_run [0, 0, 0, 0, 0, 0, 0, 1, 0, 0, 0, 1, 0, 1] ?_
  refine t_call true naudit_Append [l0, (.int .i64 r2), (.int .i64 r3), (.int .i64 r4)] H13 (by kernel_rfl) h ?_
  clear h
  rintro _ H17 ⟨r14, r15, r16, rfl, h⟩
  obtain ⟨H19, hb⟩ : ∃ H', Dead1 H17 1 H' := ⟨_, ⟨rfl⟩⟩
  replace h := h H19 hb
  refine t_tomb true 1 (.agg [(.int .i64 0), (.int .i64 0)]) [(.int .i64 0), (.int .i64 0)] H19 H17 (by kernel_rfl) rfl hb ?_
  refine t_upd true 2 0 [(.int .i64 0), (.int .i64 0)] (.agg [(.int .i64 r15), (.int .i64 r16)]) [(.int .i64 r15), (.int .i64 r16)] [(.int .i64 r15), (.int .i64 r16)] H19 (by kernel_rfl) rfl (all_c rfl (all_c rfl all_n)) ⟨rfl, Nat.le_of_ble_eq_true (by kernel_rfl), rfl⟩ ?_
  refine t_done [l0, other1, (.agg [(.int .i64 r2), (.int .i64 r3), (.int .i64 r4), (.int .i64 r5)]), (.int .i64 user6), (.int .i64 to7), (.bool false), (.agg [(.int .i64 r2), (.int .i64 r3), (.int .i64 r4), (.int .i64 r5)]), (.agg [(.int .i64 r9), (.int .i64 r10)]), .undef, .undef, (.agg [(.int .i64 r15), (.int .i64 r16)]), .undef, .undef, r14, .undef, .undef, .undef, .undef, .undef, .undef, .undef, .undef, .undef, .undef, .undef, .undef, .undef, .undef, .undef, .undef, .undef, .undef, .undef, .undef, .undef, .undef] H19 (by kernel_rfl) ?_
  refine then_norm ?_
  refine w_seq ?_
  refine w_run [0, 0, 0, 0, 0, 1, 0, 0, 0, 1, 0, 1] ?_
  refine t_call true naudit_Query [l0, (.int .i64 user6), (.int .i64 r2), (.int .i64 to7)] H19 (by kernel_rfl) h ?_
  clear h
  rintro _ H23 ⟨r20, r21, r22, rfl, h⟩
  obtain ⟨H25, hb⟩ : ∃ H', Dead1 H23 1 H' := ⟨_, ⟨rfl⟩⟩
  replace h := h H25 hb
  refine t_tomb true 1 (.agg [(.int .i64 0), (.int .i64 0)]) [(.int .i64 0), (.int .i64 0)] H25 H23 (by kernel_rfl) rfl hb ?_
  refine t_upd true 2 0 [(.int .i64 0), (.int .i64 0)] (.agg [(.int .i64 r21), (.int .i64 r22)]) [(.int .i64 r21), (.int .i64 r22)] [(.int .i64 r21), (.int .i64 r22)] H25 (by kernel_rfl) rfl (all_c rfl (all_c rfl all_n)) ⟨rfl, Nat.le_of_ble_eq_true (by kernel_rfl), rfl⟩ ?_
  refine t_done [l0, other1, (.agg [(.int .i64 r2), (.int .i64 r3), (.int .i64 r4), (.int .i64 r5)]), (.int .i64 user6), (.int .i64 to7), (.bool false), (.agg [(.int .i64 r2), (.int .i64 r3), (.int .i64 r4), (.int .i64 r5)]), (.agg [(.int .i64 r9), (.int .i64 r10)]), .undef, .undef, (.agg [(.int .i64 r15), (.int .i64 r16)]), (.agg [(.int .i64 r21), (.int .i64 r22)]), .undef, r14, r20, .undef, .undef, .undef, .undef, .undef, .undef, .undef, .undef, .undef, .undef, .undef, .undef, .undef, .undef, .undef, .undef, .undef, .undef, .undef, .undef, .undef] H25 (by kernel_rfl) ?_
  refine then_norm ?_
  refine w_seq ?_
  refine w_run [0, 0, 1, 0, 0, 0, 1, 0, 1] ?_
  refine t_call true naudit_Fork [l0, other1] H25 (by kernel_rfl) h ?_
  clear h
  rintro _ H29 ⟨r26, r27, r28, rfl, h⟩
  obtain ⟨H31, hb⟩ : ∃ H', Dead1 H29 1 H' := ⟨_, ⟨rfl⟩⟩
  replace h := h H31 hb
  refine t_tomb true 1 (.agg [(.int .i64 0), (.int .i64 0)]) [(.int .i64 0), (.int .i64 0)] H31 H29 (by kernel_rfl) rfl hb ?_
  refine t_upd true 2 0 [(.int .i64 0), (.int .i64 0)] (.agg [(.int .i64 r27), (.int .i64 r28)]) [(.int .i64 r27), (.int .i64 r28)] [(.int .i64 r27), (.int .i64 r28)] H31 (by kernel_rfl) rfl (all_c rfl (all_c rfl all_n)) ⟨rfl, Nat.le_of_ble_eq_true (by kernel_rfl), rfl⟩ ?_
  refine t_done [l0, other1, (.agg [(.int .i64 r2), (.int .i64 r3), (.int .i64 r4), (.int .i64 r5)]), (.int .i64 user6), (.int .i64 to7), (.bool false), (.agg [(.int .i64 r2), (.int .i64 r3), (.int .i64 r4), (.int .i64 r5)]), (.agg [(.int .i64 r9), (.int .i64 r10)]), .undef, .undef, (.agg [(.int .i64 r15), (.int .i64 r16)]), (.agg [(.int .i64 r21), (.int .i64 r22)]), (.agg [(.int .i64 r27), (.int .i64 r28)]), r14, r20, (.int .i64 r26), .undef, .undef, .undef, .undef, .undef, .undef, .undef, .undef, .undef, .undef, .undef, .undef, .undef, .undef, .undef, .undef, .undef, .undef, .undef, .undef] H31 (by kernel_rfl) ?_
  refine then_norm ?_
  refine w_seq ?_
  refine w_seq ?_
  refine w_run [1, 0, 0, 0, 3, 0, 2, 0] ?_
  refine t_call true nLauditExample [] H31 (by kernel_rfl) h ?_
  clear h
  rintro _ H33 ⟨r32, rfl, h⟩
  refine t_gd (!r32) false (by kernel_rfl) (fun hc => ?_) (fun hc => ?_)
  · replace h := h.2 ((is_not is_raw).f hc)
    refine t_call false naudit_Validate [l0] H33 (by kernel_rfl) h ?_
    clear h
    rintro _ H37 ⟨r35, r36, rfl, h⟩
    refine t_gd false false (by kernel_rfl) (fun _ => ?_) (fun hn => by cases hn)
    refine t_done [l0, other1, (.agg [(.int .i64 r2), (.int .i64 r3), (.int .i64 r4), (.int .i64 r5)]), (.int .i64 user6), (.int .i64 to7), (.bool false), (.agg [(.int .i64 r2), (.int .i64 r3), (.int .i64 r4), (.int .i64 r5)]), (.agg [(.int .i64 r9), (.int .i64 r10)]), (.bool (!(((r35) == r9) && (((r36) == r10) && true)))), .undef, (.agg [(.int .i64 r15), (.int .i64 r16)]), (.agg [(.int .i64 r21), (.int .i64 r22)]), (.agg [(.int .i64 r27), (.int .i64 r28)]), r14, r20, (.int .i64 r26), .undef, .undef, .undef, .undef, .undef, .undef, .undef, .undef, .undef, .undef, .undef, .undef, .undef, .undef, .undef, .undef, .undef, .undef, .undef, .undef] H37 (by kernel_rfl) ?_
    refine then_norm ?_
    refine w_cond (t := (!(((r35) == r9) && (((r36) == r10) && true)))) rfl (fun hc => ?_) (fun hc => ?_)
    · replace h := h.1 ((is_not (is_and is_eq (is_and is_eq is_true))).t hc)
      refine w_seq ?_
      refine w_run [0] ?_
      refine t_done [l0, other1, (.agg [(.int .i64 r2), (.int .i64 r3), (.int .i64 r4), (.int .i64 r5)]), (.int .i64 user6), (.int .i64 to7), (.bool false), (.agg [(.int .i64 r2), (.int .i64 r3), (.int .i64 r4), (.int .i64 r5)]), (.agg [(.int .i64 r9), (.int .i64 r10)]), (.bool (!(((r35) == r9) && (((r36) == r10) && true)))), .undef, (.agg [(.int .i64 r15), (.int .i64 r16)]), (.agg [(.int .i64 r21), (.int .i64 r22)]), (.agg [(.int .i64 r27), (.int .i64 r28)]), r14, r20, (.int .i64 r26), .undef, .undef, .undef, .undef, .undef, .undef, .undef, .undef, .undef, .undef, .undef, .undef, .undef, .undef, .undef, .undef, .undef, .undef, .undef, .undef] H37 (by kernel_rfl) ?_
      refine then_norm ?_
      refine w_ret ?_
      refine then_ret ?_
      exact body_ret (vs := [(.bool false)]) _ (by kernel_rfl) rfl h
    · replace h := h.2 ((is_not (is_and is_eq (is_and is_eq is_true))).f hc)
      refine w_skip ?_
      refine then_norm ?_
      refine w_seq ?_
      refine w_seq ?_
      refine w_run [0, 0, 0] ?_
      refine t_done [l0, other1, (.agg [(.int .i64 r2), (.int .i64 r3), (.int .i64 r4), (.int .i64 r5)]), (.int .i64 user6), (.int .i64 to7), (.bool false), (.agg [(.int .i64 r2), (.int .i64 r3), (.int .i64 r4), (.int .i64 r5)]), (.agg [(.int .i64 r9), (.int .i64 r10)]), (.bool (!(((r35) == r9) && (((r36) == r10) && true)))), (.bool ((r9) != 0)), (.agg [(.int .i64 r15), (.int .i64 r16)]), (.agg [(.int .i64 r21), (.int .i64 r22)]), (.agg [(.int .i64 r27), (.int .i64 r28)]), r14, r20, (.int .i64 r26), .undef, .undef, .undef, .undef, .undef, .undef, .undef, .undef, .undef, .undef, .undef, .undef, .undef, .undef, .undef, .undef, .undef, .undef, .undef, .undef] H37 (by kernel_rfl) ?_
      refine then_norm ?_
      refine w_cond (t := ((r9) != 0)) rfl (fun hc => ?_) (fun hc => ?_)
      · replace h := h.1 (is_ne.t hc)
        refine w_seq ?_
        refine w_run [0, 0, 0, 0, 0, 0, 0, 0, 0, 0, 0, 0, 0, 0, 0, 1, 0, 0, 0, 0, 1, 0, 0, 0, 0, 0, 0, 0] ?_
        obtain ⟨len39, hl, h⟩ := h
        refine t_len true r14 len39 H37 (by kernel_rfl) hl ?_
        obtain ⟨len40, hl, h⟩ := h
        refine t_len true r20 len40 H37 (by kernel_rfl) hl ?_
        refine t_done [l0, other1, (.agg [(.int .i64 r2), (.int .i64 r3), (.int .i64 r4), (.int .i64 r5)]), (.int .i64 user6), (.int .i64 to7), (.bool ((((((((r15) == r9) && (((r16) == r10) && true)) && (((r21) == r9) && (((r22) == r10) && true))) && (((r27) == r9) && (((r28) == r10) && true))) && (((len39 : Int)) == 0)) && (((len40 : Int)) == 0)) && ((r26) == 0))), (.agg [(.int .i64 r2), (.int .i64 r3), (.int .i64 r4), (.int .i64 r5)]), (.agg [(.int .i64 r9), (.int .i64 r10)]), (.bool (!(((r35) == r9) && (((r36) == r10) && true)))), (.bool ((r9) != 0)), (.agg [(.int .i64 r15), (.int .i64 r16)]), (.agg [(.int .i64 r21), (.int .i64 r22)]), (.agg [(.int .i64 r27), (.int .i64 r28)]), r14, r20, (.int .i64 r26), .undef, .undef, .undef, .undef, .undef, .undef, .undef, .undef, .undef, .undef, .undef, .undef, .undef, .undef, .undef, .undef, .undef, .undef, .undef, .undef] H37 (by kernel_rfl) ?_
        refine then_norm ?_
        refine w_ret ?_
        refine then_ret ?_
        exact body_ret (vs := [(.bool ((((((((r15) == r9) && (((r16) == r10) && true)) && (((r21) == r9) && (((r22) == r10) && true))) && (((r27) == r9) && (((r28) == r10) && true))) && (((len39 : Int)) == 0)) && (((len40 : Int)) == 0)) && ((r26) == 0)))]) _ (by kernel_rfl) rfl h
      · replace h := h.2 (is_ne.f hc)
        refine w_skip ?_
        refine then_norm ?_
        refine w_seq ?_
        refine w_run [1] ?_
        obtain ⟨H41, hb⟩ : ∃ H', Dead1 H37 1 H' := ⟨_, ⟨rfl⟩⟩
        replace h := h H41 hb
        refine t_tomb true 1 (.agg [(.int .i64 0), (.int .i64 0), (.int .i64 0), (.int .i64 0)]) [(.int .i64 0), (.int .i64 0), (.int .i64 0), (.int .i64 0)] H41 H37 (by kernel_rfl) rfl hb ?_
        refine t_done [l0, other1, (.agg [(.int .i64 r2), (.int .i64 r3), (.int .i64 r4), (.int .i64 r5)]), (.int .i64 user6), (.int .i64 to7), (.bool false), (.agg [(.int .i64 r2), (.int .i64 r3), (.int .i64 r4), (.int .i64 r5)]), (.agg [(.int .i64 r9), (.int .i64 r10)]), (.bool (!(((r35) == r9) && (((r36) == r10) && true)))), (.bool ((r9) != 0)), (.agg [(.int .i64 r15), (.int .i64 r16)]), (.agg [(.int .i64 r21), (.int .i64 r22)]), (.agg [(.int .i64 r27), (.int .i64 r28)]), r14, r20, (.int .i64 r26), .undef, (.agg [(.int .i64 0), (.int .i64 0), (.int .i64 0), (.int .i64 0)]), .undef, .undef, .undef, .undef, .undef, .undef, .undef, .undef, .undef, .undef, .undef, .undef, .undef, .undef, .undef, .undef, .undef, .undef] H41 (by kernel_rfl) ?_
        refine then_norm ?_
        refine w_seq ?_
        obtain ⟨R42, h, hK⟩ := h
        refine w_join (fun EI HI => ∃ (d43 : AV) (last44 : Int) (last45 : Int) (last46 : Int) (last47 : Int), EI = [l0, other1, (.agg [(.int .i64 r2), (.int .i64 r3), (.int .i64 r4), (.int .i64 r5)]), (.int .i64 user6), (.int .i64 to7), (.bool false), (.agg [(.int .i64 r2), (.int .i64 r3), (.int .i64 r4), (.int .i64 r5)]), (.agg [(.int .i64 r9), (.int .i64 r10)]), (.bool (!(((r35) == r9) && (((r36) == r10) && true)))), (.bool ((r9) != 0)), (.agg [(.int .i64 r15), (.int .i64 r16)]), (.agg [(.int .i64 r21), (.int .i64 r22)]), (.agg [(.int .i64 r27), (.int .i64 r28)]), r14, r20, (.int .i64 r26), d43, (.agg [(.int .i64 last44), (.int .i64 last45), (.int .i64 last46), (.int .i64 last47)]), .undef, .undef, .undef, .undef, .undef, .undef, .undef, .undef, .undef, .undef, .undef, .undef, .undef, .undef, .undef, .undef, .undef, .undef] ∧ H41 = HI ∧ R42 last44 last45 last46 last47) ?_ ?_
        · clear hK
          refine w_seq ?_
          refine w_run [0, 1, 0] ?_
          obtain ⟨len48, hl, h⟩ := h
          refine t_len true l0 len48 H41 (by kernel_rfl) hl ?_
          refine t_done [l0, other1, (.agg [(.int .i64 r2), (.int .i64 r3), (.int .i64 r4), (.int .i64 r5)]), (.int .i64 user6), (.int .i64 to7), (.bool false), (.agg [(.int .i64 r2), (.int .i64 r3), (.int .i64 r4), (.int .i64 r5)]), (.agg [(.int .i64 r9), (.int .i64 r10)]), (.bool (!(((r35) == r9) && (((r36) == r10) && true)))), (.bool ((r9) != 0)), (.agg [(.int .i64 r15), (.int .i64 r16)]), (.agg [(.int .i64 r21), (.int .i64 r22)]), (.agg [(.int .i64 r27), (.int .i64 r28)]), r14, r20, (.int .i64 r26), (.bool (decide ((len48 : Int) > 0))), (.agg [(.int .i64 0), (.int .i64 0), (.int .i64 0), (.int .i64 0)]), .undef, .undef, .undef, .undef, .undef, .undef, .undef, .undef, .undef, .undef, .undef, .undef, .undef, .undef, .undef, .undef, .undef, .undef] H41 (by kernel_rfl) ?_
          refine then_norm ?_
          refine w_cond (t := (decide ((len48 : Int) > 0))) rfl (fun hc => ?_) (fun hc => ?_)
          · replace h := h.1 (is_dec.t hc)
            refine w_run [0, 0, 1, 0, 1, 1, 1] ?_
            obtain ⟨len49, hl, h⟩ := h
            refine t_len true l0 len49 H41 (by kernel_rfl) hl ?_
            obtain ⟨e50, e51, e52, e53, hg54, h⟩ := h
            refine t_idxG true 4 l0 .i64 (IntKind.wrap .i64 ((len49 : Int) - 1)) H41 (by kernel_rfl) hg54 ?_
            refine t_loadG true (some 4) 4 l0 (IntKind.wrap .i64 ((len49 : Int) - 1)) 0 (.agg [(.int .i64 e50), (.int .i64 e51), (.int .i64 e52), (.int .i64 e53)]) H41 (by kernel_rfl) hg54 ?_
            refine t_upd true 4 0 [(.int .i64 0), (.int .i64 0), (.int .i64 0), (.int .i64 0)] (.agg [(.int .i64 e50), (.int .i64 e51), (.int .i64 e52), (.int .i64 e53)]) [(.int .i64 e50), (.int .i64 e51), (.int .i64 e52), (.int .i64 e53)] [(.int .i64 e50), (.int .i64 e51), (.int .i64 e52), (.int .i64 e53)] H41 (by kernel_rfl) rfl (all_c rfl (all_c rfl (all_c rfl (all_c rfl all_n)))) ⟨rfl, Nat.le_of_ble_eq_true (by kernel_rfl), rfl⟩ ?_
            refine t_done [l0, other1, (.agg [(.int .i64 r2), (.int .i64 r3), (.int .i64 r4), (.int .i64 r5)]), (.int .i64 user6), (.int .i64 to7), (.bool false), (.agg [(.int .i64 r2), (.int .i64 r3), (.int .i64 r4), (.int .i64 r5)]), (.agg [(.int .i64 r9), (.int .i64 r10)]), (.bool (!(((r35) == r9) && (((r36) == r10) && true)))), (.bool ((r9) != 0)), (.agg [(.int .i64 r15), (.int .i64 r16)]), (.agg [(.int .i64 r21), (.int .i64 r22)]), (.agg [(.int .i64 r27), (.int .i64 r28)]), r14, r20, (.int .i64 r26), (.bool (decide ((len48 : Int) > 0))), (.agg [(.int .i64 e50), (.int .i64 e51), (.int .i64 e52), (.int .i64 e53)]), .undef, .undef, .undef, .undef, .undef, .undef, .undef, .undef, .undef, .undef, .undef, .undef, .undef, .undef, .undef, .undef, .undef, .undef] H41 (by kernel_rfl) ?_
            refine join_norm ⟨_, _, _, _, _, rfl, rfl, h⟩
          · replace h := h.2 (is_dec.f hc)
            refine w_skip ?_
            refine join_norm ⟨_, _, _, _, _, rfl, rfl, h⟩
        · clear h
          rintro EI HI ⟨d43, last44, last45, last46, last47, rfl, rfl, hJ⟩
          have h := hK last44 last45 last46 last47 hJ
          clear hJ hK
          refine then_norm ?_
          refine w_seq ?_
          refine w_run [0, 0, 0, 0, 0, 0, 1, 1, 1] ?_
          refine t_build true [(.int .i64 0), (.int .i64 0), (.int .i64 0), (.int .i64 0)] [(0, 1, .loc 0), (1, 1, .loc 1), (2, 1, .loc 2)] [(.int .i64 r2), (.int .i64 r3), (.int .i64 r4)] [(.int .i64 r2), (.int .i64 r3), (.int .i64 r4), (.int .i64 0)] H41 (by kernel_rfl) (fill_c (vs := [(.int .i64 r2)]) (size := 1) rfl (by kernel_rfl) (by kernel_rfl) (fill_c (vs := [(.int .i64 r3)]) (size := 1) rfl (by kernel_rfl) (by kernel_rfl) (fill_c (vs := [(.int .i64 r4)]) (size := 1) rfl (by kernel_rfl) (by kernel_rfl) (by kernel_rfl)))) ?_
          obtain ⟨H55, hb⟩ : ∃ H', Dead1 H41 1 H' := ⟨_, ⟨rfl⟩⟩
          replace h := h H55 hb
          refine t_tomb true 1 (.agg [(.int .i64 0), (.int .i64 0), (.int .i64 0), (.int .i64 0)]) [(.int .i64 0), (.int .i64 0), (.int .i64 0), (.int .i64 0)] H55 H41 (by kernel_rfl) rfl hb ?_
          refine t_upd true 4 0 [(.int .i64 0), (.int .i64 0), (.int .i64 0), (.int .i64 0)] (.agg [(.int .i64 r2), (.int .i64 r3), (.int .i64 r4), (.int .i64 0)]) [(.int .i64 r2), (.int .i64 r3), (.int .i64 r4), (.int .i64 0)] [(.int .i64 r2), (.int .i64 r3), (.int .i64 r4), (.int .i64 0)] H55 (by kernel_rfl) rfl (all_c rfl (all_c rfl (all_c rfl (all_c rfl all_n)))) ⟨rfl, Nat.le_of_ble_eq_true (by kernel_rfl), rfl⟩ ?_
          refine t_done [l0, other1, (.agg [(.int .i64 r2), (.int .i64 r3), (.int .i64 r4), (.int .i64 r5)]), (.int .i64 user6), (.int .i64 to7), (.bool false), (.agg [(.int .i64 r2), (.int .i64 r3), (.int .i64 r4), (.int .i64 r5)]), (.agg [(.int .i64 r9), (.int .i64 r10)]), (.bool (!(((r35) == r9) && (((r36) == r10) && true)))), (.bool ((r9) != 0)), (.agg [(.int .i64 r15), (.int .i64 r16)]), (.agg [(.int .i64 r21), (.int .i64 r22)]), (.agg [(.int .i64 r27), (.int .i64 r28)]), r14, r20, (.int .i64 r26), d43, (.agg [(.int .i64 last44), (.int .i64 last45), (.int .i64 last46), (.int .i64 last47)]), (.agg [(.int .i64 r2), (.int .i64 r3), (.int .i64 r4), (.int .i64 0)]), .undef, .undef, .undef, .undef, .undef, .undef, .undef, .undef, .undef, .undef, .undef, .undef, .undef, .undef, .undef, .undef, .undef] H55 (by kernel_rfl) ?_
          refine then_norm ?_
          refine w_seq ?_
          refine w_run [1, 1, 1] ?_
          refine t_build true [(.int .i64 0), (.int .i64 0)] [] [] [(.int .i64 0), (.int .i64 0)] H55 (by kernel_rfl) (by kernel_rfl) ?_
          obtain ⟨H56, hb⟩ : ∃ H', Dead1 H55 1 H' := ⟨_, ⟨rfl⟩⟩
          replace h := h H56 hb
          refine t_tomb true 1 (.agg [(.int .i64 0), (.int .i64 0)]) [(.int .i64 0), (.int .i64 0)] H56 H55 (by kernel_rfl) rfl hb ?_
          refine t_upd true 2 0 [(.int .i64 0), (.int .i64 0)] (.agg [(.int .i64 0), (.int .i64 0)]) [(.int .i64 0), (.int .i64 0)] [(.int .i64 0), (.int .i64 0)] H56 (by kernel_rfl) rfl (all_c rfl (all_c rfl all_n)) ⟨rfl, Nat.le_of_ble_eq_true (by kernel_rfl), rfl⟩ ?_
          refine t_done [l0, other1, (.agg [(.int .i64 r2), (.int .i64 r3), (.int .i64 r4), (.int .i64 r5)]), (.int .i64 user6), (.int .i64 to7), (.bool false), (.agg [(.int .i64 r2), (.int .i64 r3), (.int .i64 r4), (.int .i64 r5)]), (.agg [(.int .i64 r9), (.int .i64 r10)]), (.bool (!(((r35) == r9) && (((r36) == r10) && true)))), (.bool ((r9) != 0)), (.agg [(.int .i64 r15), (.int .i64 r16)]), (.agg [(.int .i64 r21), (.int .i64 r22)]), (.agg [(.int .i64 r27), (.int .i64 r28)]), r14, r20, (.int .i64 r26), d43, (.agg [(.int .i64 last44), (.int .i64 last45), (.int .i64 last46), (.int .i64 last47)]), (.agg [(.int .i64 r2), (.int .i64 r3), (.int .i64 r4), (.int .i64 0)]), .undef, (.agg [(.int .i64 0), (.int .i64 0)]), .undef, .undef, .undef, .undef, .undef, .undef, .undef, .undef, .undef, .undef, .undef, .undef, .undef, .undef, .undef] H56 (by kernel_rfl) ?_
          refine then_norm ?_
          refine w_seq ?_
          obtain ⟨R57, h, hK⟩ := h
          refine w_join (fun EI HI => ∃ (d58 : AV) (w59 : Int) (w60 : Int) (d61 : AV) (d62 : AV), EI = [l0, other1, (.agg [(.int .i64 r2), (.int .i64 r3), (.int .i64 r4), (.int .i64 r5)]), (.int .i64 user6), (.int .i64 to7), (.bool false), (.agg [(.int .i64 r2), (.int .i64 r3), (.int .i64 r4), (.int .i64 r5)]), (.agg [(.int .i64 r9), (.int .i64 r10)]), (.bool (!(((r35) == r9) && (((r36) == r10) && true)))), (.bool ((r9) != 0)), (.agg [(.int .i64 r15), (.int .i64 r16)]), (.agg [(.int .i64 r21), (.int .i64 r22)]), (.agg [(.int .i64 r27), (.int .i64 r28)]), r14, r20, (.int .i64 r26), d43, (.agg [(.int .i64 last44), (.int .i64 last45), (.int .i64 last46), (.int .i64 last47)]), (.agg [(.int .i64 r2), (.int .i64 r3), (.int .i64 r4), (.int .i64 0)]), d58, (.agg [(.int .i64 w59), (.int .i64 w60)]), d61, d62, .undef, .undef, .undef, .undef, .undef, .undef, .undef, .undef, .undef, .undef, .undef, .undef, .undef] ∧ R57 w59 w60 HI) ?_ ?_
          · clear hK
            refine w_seq ?_
            refine w_run [0, 1, 0] ?_
            refine t_call true nFRecordValid [(.agg [(.int .i64 r2), (.int .i64 r3), (.int .i64 r4), (.int .i64 0)])] H56 (by kernel_rfl) h ?_
            clear h
            rintro _ H65 ⟨r64, rfl, h⟩
            refine t_done [l0, other1, (.agg [(.int .i64 r2), (.int .i64 r3), (.int .i64 r4), (.int .i64 r5)]), (.int .i64 user6), (.int .i64 to7), (.bool false), (.agg [(.int .i64 r2), (.int .i64 r3), (.int .i64 r4), (.int .i64 r5)]), (.agg [(.int .i64 r9), (.int .i64 r10)]), (.bool (!(((r35) == r9) && (((r36) == r10) && true)))), (.bool ((r9) != 0)), (.agg [(.int .i64 r15), (.int .i64 r16)]), (.agg [(.int .i64 r21), (.int .i64 r22)]), (.agg [(.int .i64 r27), (.int .i64 r28)]), r14, r20, (.int .i64 r26), d43, (.agg [(.int .i64 last44), (.int .i64 last45), (.int .i64 last46), (.int .i64 last47)]), (.agg [(.int .i64 r2), (.int .i64 r3), (.int .i64 r4), (.int .i64 0)]), (.bool (!r64)), (.agg [(.int .i64 0), (.int .i64 0)]), .undef, .undef, .undef, .undef, .undef, .undef, .undef, .undef, .undef, .undef, .undef, .undef, .undef, .undef, .undef] H65 (by kernel_rfl) ?_
            refine then_norm ?_
            refine w_cond (t := (!r64)) rfl (fun hc => ?_) (fun hc => ?_)
            · replace h := h.1 ((is_not is_raw).t hc)
              refine w_run [1, 1] ?_
              refine t_call true nFFault [(.int .i64 3), (.int .i64 (-2))] H65 (by kernel_rfl) h ?_
              clear h
              rintro _ H69 ⟨r67, r68, rfl, h⟩
              refine t_upd true 2 0 [(.int .i64 0), (.int .i64 0)] (.agg [(.int .i64 r67), (.int .i64 r68)]) [(.int .i64 r67), (.int .i64 r68)] [(.int .i64 r67), (.int .i64 r68)] H69 (by kernel_rfl) rfl (all_c rfl (all_c rfl all_n)) ⟨rfl, Nat.le_of_ble_eq_true (by kernel_rfl), rfl⟩ ?_
              refine t_done [l0, other1, (.agg [(.int .i64 r2), (.int .i64 r3), (.int .i64 r4), (.int .i64 r5)]), (.int .i64 user6), (.int .i64 to7), (.bool false), (.agg [(.int .i64 r2), (.int .i64 r3), (.int .i64 r4), (.int .i64 r5)]), (.agg [(.int .i64 r9), (.int .i64 r10)]), (.bool (!(((r35) == r9) && (((r36) == r10) && true)))), (.bool ((r9) != 0)), (.agg [(.int .i64 r15), (.int .i64 r16)]), (.agg [(.int .i64 r21), (.int .i64 r22)]), (.agg [(.int .i64 r27), (.int .i64 r28)]), r14, r20, (.int .i64 r26), d43, (.agg [(.int .i64 last44), (.int .i64 last45), (.int .i64 last46), (.int .i64 last47)]), (.agg [(.int .i64 r2), (.int .i64 r3), (.int .i64 r4), (.int .i64 0)]), (.bool (!r64)), (.agg [(.int .i64 r67), (.int .i64 r68)]), .undef, .undef, .undef, .undef, .undef, .undef, .undef, .undef, .undef, .undef, .undef, .undef, .undef, .undef, .undef] H69 (by kernel_rfl) ?_
              refine join_norm ⟨_, _, _, _, _, rfl, h⟩
            · replace h := h.2 ((is_not is_raw).f hc)
              refine w_seq ?_
              refine w_run [0, 0, 0, 0, 0] ?_
              refine t_done [l0, other1, (.agg [(.int .i64 r2), (.int .i64 r3), (.int .i64 r4), (.int .i64 r5)]), (.int .i64 user6), (.int .i64 to7), (.bool false), (.agg [(.int .i64 r2), (.int .i64 r3), (.int .i64 r4), (.int .i64 r5)]), (.agg [(.int .i64 r9), (.int .i64 r10)]), (.bool (!(((r35) == r9) && (((r36) == r10) && true)))), (.bool ((r9) != 0)), (.agg [(.int .i64 r15), (.int .i64 r16)]), (.agg [(.int .i64 r21), (.int .i64 r22)]), (.agg [(.int .i64 r27), (.int .i64 r28)]), r14, r20, (.int .i64 r26), d43, (.agg [(.int .i64 last44), (.int .i64 last45), (.int .i64 last46), (.int .i64 last47)]), (.agg [(.int .i64 r2), (.int .i64 r3), (.int .i64 r4), (.int .i64 0)]), (.bool (!r64)), (.agg [(.int .i64 0), (.int .i64 0)]), (.bool (decide (r2 < last44))), .undef, .undef, .undef, .undef, .undef, .undef, .undef, .undef, .undef, .undef, .undef, .undef, .undef, .undef] H65 (by kernel_rfl) ?_
              refine then_norm ?_
              refine w_cond (t := (decide (r2 < last44))) rfl (fun hc => ?_) (fun hc => ?_)
              · replace h := h.1 (is_dec.t hc)
                refine w_run [1, 1] ?_
                refine t_call true nFFault [(.int .i64 16), (.int .i64 (-2))] H65 (by kernel_rfl) h ?_
                clear h
                rintro _ H73 ⟨r71, r72, rfl, h⟩
                refine t_upd true 2 0 [(.int .i64 0), (.int .i64 0)] (.agg [(.int .i64 r71), (.int .i64 r72)]) [(.int .i64 r71), (.int .i64 r72)] [(.int .i64 r71), (.int .i64 r72)] H73 (by kernel_rfl) rfl (all_c rfl (all_c rfl all_n)) ⟨rfl, Nat.le_of_ble_eq_true (by kernel_rfl), rfl⟩ ?_
                refine t_done [l0, other1, (.agg [(.int .i64 r2), (.int .i64 r3), (.int .i64 r4), (.int .i64 r5)]), (.int .i64 user6), (.int .i64 to7), (.bool false), (.agg [(.int .i64 r2), (.int .i64 r3), (.int .i64 r4), (.int .i64 r5)]), (.agg [(.int .i64 r9), (.int .i64 r10)]), (.bool (!(((r35) == r9) && (((r36) == r10) && true)))), (.bool ((r9) != 0)), (.agg [(.int .i64 r15), (.int .i64 r16)]), (.agg [(.int .i64 r21), (.int .i64 r22)]), (.agg [(.int .i64 r27), (.int .i64 r28)]), r14, r20, (.int .i64 r26), d43, (.agg [(.int .i64 last44), (.int .i64 last45), (.int .i64 last46), (.int .i64 last47)]), (.agg [(.int .i64 r2), (.int .i64 r3), (.int .i64 r4), (.int .i64 0)]), (.bool (!r64)), (.agg [(.int .i64 r71), (.int .i64 r72)]), (.bool (decide (r2 < last44))), .undef, .undef, .undef, .undef, .undef, .undef, .undef, .undef, .undef, .undef, .undef, .undef, .undef, .undef] H73 (by kernel_rfl) ?_
                refine join_norm ⟨_, _, _, _, _, rfl, h⟩
              · replace h := h.2 (is_dec.f hc)
                refine w_seq ?_
                refine w_run [0, 1, 0] ?_
                obtain ⟨len75, hl, h⟩ := h
                refine t_len true l0 len75 H65 (by kernel_rfl) hl ?_
                refine t_done [l0, other1, (.agg [(.int .i64 r2), (.int .i64 r3), (.int .i64 r4), (.int .i64 r5)]), (.int .i64 user6), (.int .i64 to7), (.bool false), (.agg [(.int .i64 r2), (.int .i64 r3), (.int .i64 r4), (.int .i64 r5)]), (.agg [(.int .i64 r9), (.int .i64 r10)]), (.bool (!(((r35) == r9) && (((r36) == r10) && true)))), (.bool ((r9) != 0)), (.agg [(.int .i64 r15), (.int .i64 r16)]), (.agg [(.int .i64 r21), (.int .i64 r22)]), (.agg [(.int .i64 r27), (.int .i64 r28)]), r14, r20, (.int .i64 r26), d43, (.agg [(.int .i64 last44), (.int .i64 last45), (.int .i64 last46), (.int .i64 last47)]), (.agg [(.int .i64 r2), (.int .i64 r3), (.int .i64 r4), (.int .i64 0)]), (.bool (!r64)), (.agg [(.int .i64 0), (.int .i64 0)]), (.bool (decide (r2 < last44))), (.bool (((len75 : Int)) == 40)), .undef, .undef, .undef, .undef, .undef, .undef, .undef, .undef, .undef, .undef, .undef, .undef, .undef] H65 (by kernel_rfl) ?_
                refine then_norm ?_
                refine w_cond (t := (((len75 : Int)) == 40)) rfl (fun hc => ?_) (fun hc => ?_)
                · replace h := h.1 (is_eq.t hc)
                  refine w_run [1, 1] ?_
                  refine t_call true nFFault [(.int .i64 14), (.int .i64 (-2))] H65 (by kernel_rfl) h ?_
                  clear h
                  rintro _ H78 ⟨r76, r77, rfl, h⟩
                  refine t_upd true 2 0 [(.int .i64 0), (.int .i64 0)] (.agg [(.int .i64 r76), (.int .i64 r77)]) [(.int .i64 r76), (.int .i64 r77)] [(.int .i64 r76), (.int .i64 r77)] H78 (by kernel_rfl) rfl (all_c rfl (all_c rfl all_n)) ⟨rfl, Nat.le_of_ble_eq_true (by kernel_rfl), rfl⟩ ?_
                  refine t_done [l0, other1, (.agg [(.int .i64 r2), (.int .i64 r3), (.int .i64 r4), (.int .i64 r5)]), (.int .i64 user6), (.int .i64 to7), (.bool false), (.agg [(.int .i64 r2), (.int .i64 r3), (.int .i64 r4), (.int .i64 r5)]), (.agg [(.int .i64 r9), (.int .i64 r10)]), (.bool (!(((r35) == r9) && (((r36) == r10) && true)))), (.bool ((r9) != 0)), (.agg [(.int .i64 r15), (.int .i64 r16)]), (.agg [(.int .i64 r21), (.int .i64 r22)]), (.agg [(.int .i64 r27), (.int .i64 r28)]), r14, r20, (.int .i64 r26), d43, (.agg [(.int .i64 last44), (.int .i64 last45), (.int .i64 last46), (.int .i64 last47)]), (.agg [(.int .i64 r2), (.int .i64 r3), (.int .i64 r4), (.int .i64 0)]), (.bool (!r64)), (.agg [(.int .i64 r76), (.int .i64 r77)]), (.bool (decide (r2 < last44))), (.bool (((len75 : Int)) == 40)), .undef, .undef, .undef, .undef, .undef, .undef, .undef, .undef, .undef, .undef, .undef, .undef, .undef] H78 (by kernel_rfl) ?_
                  refine join_norm ⟨_, _, _, _, _, rfl, h⟩
                · replace h := h.2 (is_eq.f hc)
                  refine w_skip ?_
                  refine join_norm ⟨_, _, _, _, _, rfl, h⟩
          · clear h
            rintro EI H63 ⟨d58, w59, w60, d61, d62, rfl, hJ⟩
            have h := hK w59 w60 H63 hJ
            clear hJ hK
            refine then_norm ?_
            refine w_seq ?_
            obtain ⟨R80, h, hK⟩ := h
            refine w_join (fun EI HI => ∃ (d81 : AV) (d82 : AV) (d83 : AV) (d84 : AV) (d85 : AV), EI = [l0, other1, (.agg [(.int .i64 r2), (.int .i64 r3), (.int .i64 r4), (.int .i64 r5)]), (.int .i64 user6), (.int .i64 to7), d81, (.agg [(.int .i64 r2), (.int .i64 r3), (.int .i64 r4), (.int .i64 r5)]), (.agg [(.int .i64 r9), (.int .i64 r10)]), (.bool (!(((r35) == r9) && (((r36) == r10) && true)))), (.bool ((r9) != 0)), (.agg [(.int .i64 r15), (.int .i64 r16)]), (.agg [(.int .i64 r21), (.int .i64 r22)]), (.agg [(.int .i64 r27), (.int .i64 r28)]), r14, r20, (.int .i64 r26), d43, (.agg [(.int .i64 last44), (.int .i64 last45), (.int .i64 last46), (.int .i64 last47)]), d82, d58, (.agg [(.int .i64 w59), (.int .i64 w60)]), d61, d62, d83, d84, d85, .undef, .undef, .undef, .undef, .undef, .undef, .undef, .undef, .undef, .undef] ∧ R80  HI) ?_ ?_
            · clear hK
              refine w_seq ?_
              refine w_run [0, 0, 0] ?_
              refine t_done [l0, other1, (.agg [(.int .i64 r2), (.int .i64 r3), (.int .i64 r4), (.int .i64 r5)]), (.int .i64 user6), (.int .i64 to7), (.bool false), (.agg [(.int .i64 r2), (.int .i64 r3), (.int .i64 r4), (.int .i64 r5)]), (.agg [(.int .i64 r9), (.int .i64 r10)]), (.bool (!(((r35) == r9) && (((r36) == r10) && true)))), (.bool ((r9) != 0)), (.agg [(.int .i64 r15), (.int .i64 r16)]), (.agg [(.int .i64 r21), (.int .i64 r22)]), (.agg [(.int .i64 r27), (.int .i64 r28)]), r14, r20, (.int .i64 r26), d43, (.agg [(.int .i64 last44), (.int .i64 last45), (.int .i64 last46), (.int .i64 last47)]), (.agg [(.int .i64 r2), (.int .i64 r3), (.int .i64 r4), (.int .i64 0)]), d58, (.agg [(.int .i64 w59), (.int .i64 w60)]), d61, d62, (.bool ((w59) != 0)), .undef, .undef, .undef, .undef, .undef, .undef, .undef, .undef, .undef, .undef, .undef, .undef] H63 (by kernel_rfl) ?_
              refine then_norm ?_
              refine w_cond (t := ((w59) != 0)) rfl (fun hc => ?_) (fun hc => ?_)
              · replace h := h.1 (is_ne.t hc)
                refine w_seq ?_
                refine w_run [0, 0, 0, 0, 0, 1, 0, 0] ?_
                obtain ⟨len87, hl, h⟩ := h
                refine t_len true r14 len87 H63 (by kernel_rfl) hl ?_
                refine t_done [l0, other1, (.agg [(.int .i64 r2), (.int .i64 r3), (.int .i64 r4), (.int .i64 r5)]), (.int .i64 user6), (.int .i64 to7), (.bool false), (.agg [(.int .i64 r2), (.int .i64 r3), (.int .i64 r4), (.int .i64 r5)]), (.agg [(.int .i64 r9), (.int .i64 r10)]), (.bool (!(((r35) == r9) && (((r36) == r10) && true)))), (.bool ((r9) != 0)), (.agg [(.int .i64 r15), (.int .i64 r16)]), (.agg [(.int .i64 r21), (.int .i64 r22)]), (.agg [(.int .i64 r27), (.int .i64 r28)]), r14, r20, (.int .i64 r26), d43, (.agg [(.int .i64 last44), (.int .i64 last45), (.int .i64 last46), (.int .i64 last47)]), (.agg [(.int .i64 r2), (.int .i64 r3), (.int .i64 r4), (.int .i64 0)]), d58, (.agg [(.int .i64 w59), (.int .i64 w60)]), d61, d62, (.bool ((w59) != 0)), (.bool ((!(((r15) == w59) && (((r16) == w60) && true))) || (decide ((len87 : Int) > 0)))), .undef, .undef, .undef, .undef, .undef, .undef, .undef, .undef, .undef, .undef, .undef] H63 (by kernel_rfl) ?_
                refine then_norm ?_
                refine w_cond (t := ((!(((r15) == w59) && (((r16) == w60) && true))) || (decide ((len87 : Int) > 0)))) rfl (fun hc => ?_) (fun hc => ?_)
                · replace h := h.1 ((is_or (is_not (is_and is_eq (is_and is_eq is_true))) is_dec).t hc)
                  refine w_seq ?_
                  refine w_run [0] ?_
                  refine t_done [l0, other1, (.agg [(.int .i64 r2), (.int .i64 r3), (.int .i64 r4), (.int .i64 r5)]), (.int .i64 user6), (.int .i64 to7), (.bool false), (.agg [(.int .i64 r2), (.int .i64 r3), (.int .i64 r4), (.int .i64 r5)]), (.agg [(.int .i64 r9), (.int .i64 r10)]), (.bool (!(((r35) == r9) && (((r36) == r10) && true)))), (.bool ((r9) != 0)), (.agg [(.int .i64 r15), (.int .i64 r16)]), (.agg [(.int .i64 r21), (.int .i64 r22)]), (.agg [(.int .i64 r27), (.int .i64 r28)]), r14, r20, (.int .i64 r26), d43, (.agg [(.int .i64 last44), (.int .i64 last45), (.int .i64 last46), (.int .i64 last47)]), (.agg [(.int .i64 r2), (.int .i64 r3), (.int .i64 r4), (.int .i64 0)]), d58, (.agg [(.int .i64 w59), (.int .i64 w60)]), d61, d62, (.bool ((w59) != 0)), (.bool ((!(((r15) == w59) && (((r16) == w60) && true))) || (decide ((len87 : Int) > 0)))), .undef, .undef, .undef, .undef, .undef, .undef, .undef, .undef, .undef, .undef, .undef] H63 (by kernel_rfl) ?_
                  refine then_norm ?_
                  refine w_ret ?_
                  refine join_ret ?_
                  refine then_ret ?_
                  exact body_ret (vs := [(.bool false)]) _ (by kernel_rfl) rfl h
                · replace h := h.2 ((is_or (is_not (is_and is_eq (is_and is_eq is_true))) is_dec).f hc)
                  refine w_skip ?_
                  refine join_norm ⟨_, _, _, _, _, rfl, h⟩
              · replace h := h.2 (is_ne.f hc)
                refine w_seq ?_
                refine w_run [0, 0, 0, 1, 0, 1] ?_
                refine t_call true nFChain [(.int .i64 last47), (.agg [(.int .i64 r2), (.int .i64 r3), (.int .i64 r4), (.int .i64 0)])] H63 (by kernel_rfl) h ?_
                clear h
                rintro _ H89 ⟨r88, rfl, h⟩
                refine t_upd true 1 3 [(.int .i64 r2), (.int .i64 r3), (.int .i64 r4), (.int .i64 0)] (.int .i64 r88) [(.int .i64 r88)] [(.int .i64 r2), (.int .i64 r3), (.int .i64 r4), (.int .i64 r88)] H89 (by kernel_rfl) rfl (all_c rfl all_n) ⟨rfl, Nat.le_of_ble_eq_true (by kernel_rfl), rfl⟩ ?_
                refine t_done [l0, other1, (.agg [(.int .i64 r2), (.int .i64 r3), (.int .i64 r4), (.int .i64 r5)]), (.int .i64 user6), (.int .i64 to7), (.bool false), (.agg [(.int .i64 r2), (.int .i64 r3), (.int .i64 r4), (.int .i64 r5)]), (.agg [(.int .i64 r9), (.int .i64 r10)]), (.bool (!(((r35) == r9) && (((r36) == r10) && true)))), (.bool ((r9) != 0)), (.agg [(.int .i64 r15), (.int .i64 r16)]), (.agg [(.int .i64 r21), (.int .i64 r22)]), (.agg [(.int .i64 r27), (.int .i64 r28)]), r14, r20, (.int .i64 r26), d43, (.agg [(.int .i64 last44), (.int .i64 last45), (.int .i64 last46), (.int .i64 last47)]), (.agg [(.int .i64 r2), (.int .i64 r3), (.int .i64 r4), (.int .i64 r88)]), d58, (.agg [(.int .i64 w59), (.int .i64 w60)]), d61, d62, (.bool ((w59) != 0)), .undef, .undef, .undef, .undef, .undef, .undef, .undef, .undef, .undef, .undef, .undef, .undef] H89 (by kernel_rfl) ?_
                refine then_norm ?_
                refine w_seq ?_
                refine w_run [0, 0, 0, 0, 0, 0, 3, 0, 3, 3, 3, 2, 0] ?_
                refine t_gd ((r15) != 0) false (by kernel_rfl) (fun hc => ?_) (fun hc => ?_)
                · replace h := h.2 (is_ne.f hc)
                  obtain ⟨a91, H92, ha, h⟩ := h
                  refine t_app false 4 32 .empty l0 a91 H92 H89 (by kernel_rfl) ha ?_
                  refine t_gd false false (by kernel_rfl) (fun _ => ?_) (fun hn => by cases hn)
                  obtain ⟨b93, H94, hb⟩ : ∃ b H', NewB H92 4 [(.int .i64 r2), (.int .i64 r3), (.int .i64 r4), (.int .i64 r88)] b H' := ⟨_, _, rfl, rfl⟩
                  replace h := h b93 H94 hb
                  refine t_bs false 4 [(.int .i64 0), (.int .i64 0), (.int .i64 0), (.int .i64 0)] [(0, 4, .loc 0)] 1 [(.agg [(.int .i64 r2), (.int .i64 r3), (.int .i64 r4), (.int .i64 r88)])] [(.int .i64 r2), (.int .i64 r3), (.int .i64 r4), (.int .i64 r88)] b93 H94 H92 (by kernel_rfl) (fill_c (vs := [(.int .i64 r2), (.int .i64 r3), (.int .i64 r4), (.int .i64 r88)]) (size := 4) rfl (by kernel_rfl) (by kernel_rfl) (by kernel_rfl)) hb ?_
                  refine t_gd false false (by kernel_rfl) (fun _ => ?_) (fun hn => by cases hn)
                  obtain ⟨a95, H96, ha, h⟩ := h
                  refine t_app true 4 32 a91 (.slice b93 0 1 (some 1)) a95 H96 H94 (by kernel_rfl) ha ?_
                  refine t_gd false false (by kernel_rfl) (fun _ => ?_) (fun hn => by cases hn)
                  refine t_call true nFEqualRecords [r14, a95] H96 (by kernel_rfl) h ?_
                  clear h
                  rintro _ H98 ⟨r97, rfl, h⟩
                  refine t_gd false false (by kernel_rfl) (fun _ => ?_) (fun hn => by cases hn)
                  refine t_done [l0, other1, (.agg [(.int .i64 r2), (.int .i64 r3), (.int .i64 r4), (.int .i64 r5)]), (.int .i64 user6), (.int .i64 to7), (.bool false), (.agg [(.int .i64 r2), (.int .i64 r3), (.int .i64 r4), (.int .i64 r5)]), (.agg [(.int .i64 r9), (.int .i64 r10)]), (.bool (!(((r35) == r9) && (((r36) == r10) && true)))), (.bool ((r9) != 0)), (.agg [(.int .i64 r15), (.int .i64 r16)]), (.agg [(.int .i64 r21), (.int .i64 r22)]), (.agg [(.int .i64 r27), (.int .i64 r28)]), r14, r20, (.int .i64 r26), d43, (.agg [(.int .i64 last44), (.int .i64 last45), (.int .i64 last46), (.int .i64 last47)]), (.agg [(.int .i64 r2), (.int .i64 r3), (.int .i64 r4), (.int .i64 r88)]), d58, (.agg [(.int .i64 w59), (.int .i64 w60)]), d61, d62, (.bool ((w59) != 0)), .undef, (.bool (!r97)), .undef, .undef, .undef, .undef, .undef, .undef, .undef, .undef, .undef, .undef] H98 (by kernel_rfl) ?_
                  refine then_norm ?_
                  refine w_cond (t := (!r97)) rfl (fun hc => ?_) (fun hc => ?_)
                  · replace h := h.1 ((is_not is_raw).t hc)
                    refine w_seq ?_
                    refine w_run [0] ?_
                    refine t_done [l0, other1, (.agg [(.int .i64 r2), (.int .i64 r3), (.int .i64 r4), (.int .i64 r5)]), (.int .i64 user6), (.int .i64 to7), (.bool false), (.agg [(.int .i64 r2), (.int .i64 r3), (.int .i64 r4), (.int .i64 r5)]), (.agg [(.int .i64 r9), (.int .i64 r10)]), (.bool (!(((r35) == r9) && (((r36) == r10) && true)))), (.bool ((r9) != 0)), (.agg [(.int .i64 r15), (.int .i64 r16)]), (.agg [(.int .i64 r21), (.int .i64 r22)]), (.agg [(.int .i64 r27), (.int .i64 r28)]), r14, r20, (.int .i64 r26), d43, (.agg [(.int .i64 last44), (.int .i64 last45), (.int .i64 last46), (.int .i64 last47)]), (.agg [(.int .i64 r2), (.int .i64 r3), (.int .i64 r4), (.int .i64 r88)]), d58, (.agg [(.int .i64 w59), (.int .i64 w60)]), d61, d62, (.bool ((w59) != 0)), .undef, (.bool (!r97)), .undef, .undef, .undef, .undef, .undef, .undef, .undef, .undef, .undef, .undef] H98 (by kernel_rfl) ?_
                    refine then_norm ?_
                    refine w_ret ?_
                    refine join_ret ?_
                    refine then_ret ?_
                    exact body_ret (vs := [(.bool false)]) _ (by kernel_rfl) rfl h
                  · replace h := h.2 ((is_not is_raw).f hc)
                    refine w_skip ?_
                    refine join_norm ⟨_, _, _, _, _, rfl, h⟩
                · replace h := h.1 (is_ne.t hc)
                  refine t_gd true false (by kernel_rfl) (fun hn => by cases hn) (fun _ => ?_)
                  refine t_gd true false (by kernel_rfl) (fun hn => by cases hn) (fun _ => ?_)
                  refine t_gd true false (by kernel_rfl) (fun hn => by cases hn) (fun _ => ?_)
                  refine t_gd true false (by kernel_rfl) (fun hn => by cases hn) (fun _ => ?_)
                  refine t_done [l0, other1, (.agg [(.int .i64 r2), (.int .i64 r3), (.int .i64 r4), (.int .i64 r5)]), (.int .i64 user6), (.int .i64 to7), (.bool false), (.agg [(.int .i64 r2), (.int .i64 r3), (.int .i64 r4), (.int .i64 r5)]), (.agg [(.int .i64 r9), (.int .i64 r10)]), (.bool (!(((r35) == r9) && (((r36) == r10) && true)))), (.bool ((r9) != 0)), (.agg [(.int .i64 r15), (.int .i64 r16)]), (.agg [(.int .i64 r21), (.int .i64 r22)]), (.agg [(.int .i64 r27), (.int .i64 r28)]), r14, r20, (.int .i64 r26), d43, (.agg [(.int .i64 last44), (.int .i64 last45), (.int .i64 last46), (.int .i64 last47)]), (.agg [(.int .i64 r2), (.int .i64 r3), (.int .i64 r4), (.int .i64 r88)]), d58, (.agg [(.int .i64 w59), (.int .i64 w60)]), d61, d62, (.bool ((w59) != 0)), .undef, (.bool true), .undef, .undef, .undef, .undef, .undef, .undef, .undef, .undef, .undef, .undef] H89 (by kernel_rfl) ?_
                  refine then_norm ?_
                  refine w_cond (t := true) rfl (fun _ => ?_) (fun hc => by cases hc)
                  refine w_seq ?_
                  refine w_run [0] ?_
                  refine t_done [l0, other1, (.agg [(.int .i64 r2), (.int .i64 r3), (.int .i64 r4), (.int .i64 r5)]), (.int .i64 user6), (.int .i64 to7), (.bool false), (.agg [(.int .i64 r2), (.int .i64 r3), (.int .i64 r4), (.int .i64 r5)]), (.agg [(.int .i64 r9), (.int .i64 r10)]), (.bool (!(((r35) == r9) && (((r36) == r10) && true)))), (.bool ((r9) != 0)), (.agg [(.int .i64 r15), (.int .i64 r16)]), (.agg [(.int .i64 r21), (.int .i64 r22)]), (.agg [(.int .i64 r27), (.int .i64 r28)]), r14, r20, (.int .i64 r26), d43, (.agg [(.int .i64 last44), (.int .i64 last45), (.int .i64 last46), (.int .i64 last47)]), (.agg [(.int .i64 r2), (.int .i64 r3), (.int .i64 r4), (.int .i64 r88)]), d58, (.agg [(.int .i64 w59), (.int .i64 w60)]), d61, d62, (.bool ((w59) != 0)), .undef, (.bool true), .undef, .undef, .undef, .undef, .undef, .undef, .undef, .undef, .undef, .undef] H89 (by kernel_rfl) ?_
                  refine then_norm ?_
                  refine w_ret ?_
                  refine join_ret ?_
                  refine then_ret ?_
                  exact body_ret (vs := [(.bool false)]) _ (by kernel_rfl) rfl h
            · clear h
              rintro EI H86 ⟨d81, d82, d83, d84, d85, rfl, hJ⟩
              have h := hK H86 hJ
              clear hJ hK
              refine then_norm ?_
              refine w_seq ?_
              obtain ⟨R100, h, hK⟩ := h
              refine w_join (fun EI HI => ∃ (d101 : AV) (d102 : AV) (d103 : AV) (d104 : AV) (d105 : AV) (d106 : AV) (d107 : AV) (d108 : AV), EI = [l0, other1, (.agg [(.int .i64 r2), (.int .i64 r3), (.int .i64 r4), (.int .i64 r5)]), (.int .i64 user6), (.int .i64 to7), d101, (.agg [(.int .i64 r2), (.int .i64 r3), (.int .i64 r4), (.int .i64 r5)]), (.agg [(.int .i64 r9), (.int .i64 r10)]), (.bool (!(((r35) == r9) && (((r36) == r10) && true)))), (.bool ((r9) != 0)), (.agg [(.int .i64 r15), (.int .i64 r16)]), (.agg [(.int .i64 r21), (.int .i64 r22)]), (.agg [(.int .i64 r27), (.int .i64 r28)]), r14, r20, (.int .i64 r26), d43, (.agg [(.int .i64 last44), (.int .i64 last45), (.int .i64 last46), (.int .i64 last47)]), d82, d58, (.agg [(.int .i64 w59), (.int .i64 w60)]), d61, d62, d83, d84, d85, d102, d103, d104, d105, d106, d107, d108, .undef, .undef, .undef] ∧ R100  HI) ?_ ?_
              · clear hK
                refine w_seq ?_
                refine w_run [0, 0, 0, 0, 0, 0] ?_
                refine t_done [l0, other1, (.agg [(.int .i64 r2), (.int .i64 r3), (.int .i64 r4), (.int .i64 r5)]), (.int .i64 user6), (.int .i64 to7), d81, (.agg [(.int .i64 r2), (.int .i64 r3), (.int .i64 r4), (.int .i64 r5)]), (.agg [(.int .i64 r9), (.int .i64 r10)]), (.bool (!(((r35) == r9) && (((r36) == r10) && true)))), (.bool ((r9) != 0)), (.agg [(.int .i64 r15), (.int .i64 r16)]), (.agg [(.int .i64 r21), (.int .i64 r22)]), (.agg [(.int .i64 r27), (.int .i64 r28)]), r14, r20, (.int .i64 r26), d43, (.agg [(.int .i64 last44), (.int .i64 last45), (.int .i64 last46), (.int .i64 last47)]), d82, d58, (.agg [(.int .i64 w59), (.int .i64 w60)]), d61, d62, d83, d84, d85, (.bool ((decide (user6 < (-1))) || (decide (user6 > 7)))), .undef, .undef, .undef, .undef, .undef, .undef, .undef, .undef, .undef] H86 (by kernel_rfl) ?_
                refine then_norm ?_
                refine w_cond (t := ((decide (user6 < (-1))) || (decide (user6 > 7)))) rfl (fun hc => ?_) (fun hc => ?_)
                · replace h := h.1 ((is_or is_dec is_dec).t hc)
                  refine w_seq ?_
                  refine w_run [0, 1, 0, 0, 0, 1, 0, 0] ?_
                  refine t_call false nFFault [(.int .i64 3), (.int .i64 (-2))] H86 (by kernel_rfl) h ?_
                  clear h
                  rintro _ H112 ⟨r110, r111, rfl, h⟩
                  obtain ⟨len114, hl, h⟩ := h
                  refine t_len true r20 len114 H112 (by kernel_rfl) hl ?_
                  refine t_done [l0, other1, (.agg [(.int .i64 r2), (.int .i64 r3), (.int .i64 r4), (.int .i64 r5)]), (.int .i64 user6), (.int .i64 to7), d81, (.agg [(.int .i64 r2), (.int .i64 r3), (.int .i64 r4), (.int .i64 r5)]), (.agg [(.int .i64 r9), (.int .i64 r10)]), (.bool (!(((r35) == r9) && (((r36) == r10) && true)))), (.bool ((r9) != 0)), (.agg [(.int .i64 r15), (.int .i64 r16)]), (.agg [(.int .i64 r21), (.int .i64 r22)]), (.agg [(.int .i64 r27), (.int .i64 r28)]), r14, r20, (.int .i64 r26), d43, (.agg [(.int .i64 last44), (.int .i64 last45), (.int .i64 last46), (.int .i64 last47)]), d82, d58, (.agg [(.int .i64 w59), (.int .i64 w60)]), d61, d62, d83, d84, d85, (.bool ((decide (user6 < (-1))) || (decide (user6 > 7)))), (.bool ((!(((r21) == r110) && (((r22) == r111) && true))) || (decide ((len114 : Int) > 0)))), .undef, .undef, .undef, .undef, .undef, .undef, .undef, .undef] H112 (by kernel_rfl) ?_
                  refine then_norm ?_
                  refine w_cond (t := ((!(((r21) == r110) && (((r22) == r111) && true))) || (decide ((len114 : Int) > 0)))) rfl (fun hc => ?_) (fun hc => ?_)
                  · replace h := h.1 ((is_or (is_not (is_and is_eq (is_and is_eq is_true))) is_dec).t hc)
                    refine w_seq ?_
                    refine w_run [0] ?_
                    refine t_done [l0, other1, (.agg [(.int .i64 r2), (.int .i64 r3), (.int .i64 r4), (.int .i64 r5)]), (.int .i64 user6), (.int .i64 to7), (.bool false), (.agg [(.int .i64 r2), (.int .i64 r3), (.int .i64 r4), (.int .i64 r5)]), (.agg [(.int .i64 r9), (.int .i64 r10)]), (.bool (!(((r35) == r9) && (((r36) == r10) && true)))), (.bool ((r9) != 0)), (.agg [(.int .i64 r15), (.int .i64 r16)]), (.agg [(.int .i64 r21), (.int .i64 r22)]), (.agg [(.int .i64 r27), (.int .i64 r28)]), r14, r20, (.int .i64 r26), d43, (.agg [(.int .i64 last44), (.int .i64 last45), (.int .i64 last46), (.int .i64 last47)]), d82, d58, (.agg [(.int .i64 w59), (.int .i64 w60)]), d61, d62, d83, d84, d85, (.bool ((decide (user6 < (-1))) || (decide (user6 > 7)))), (.bool ((!(((r21) == r110) && (((r22) == r111) && true))) || (decide ((len114 : Int) > 0)))), .undef, .undef, .undef, .undef, .undef, .undef, .undef, .undef] H112 (by kernel_rfl) ?_
                    refine then_norm ?_
                    refine w_ret ?_
                    refine join_ret ?_
                    refine then_ret ?_
                    exact body_ret (vs := [(.bool false)]) _ (by kernel_rfl) rfl h
                  · replace h := h.2 ((is_or (is_not (is_and is_eq (is_and is_eq is_true))) is_dec).f hc)
                    refine w_skip ?_
                    refine join_norm ⟨_, _, _, _, _, _, _, _, rfl, h⟩
                · replace h := h.2 ((is_or is_dec is_dec).f hc)
                  refine w_seq ?_
                  refine w_run [0] ?_
                  refine t_done [l0, other1, (.agg [(.int .i64 r2), (.int .i64 r3), (.int .i64 r4), (.int .i64 r5)]), (.int .i64 user6), (.int .i64 to7), d81, (.agg [(.int .i64 r2), (.int .i64 r3), (.int .i64 r4), (.int .i64 r5)]), (.agg [(.int .i64 r9), (.int .i64 r10)]), (.bool (!(((r35) == r9) && (((r36) == r10) && true)))), (.bool ((r9) != 0)), (.agg [(.int .i64 r15), (.int .i64 r16)]), (.agg [(.int .i64 r21), (.int .i64 r22)]), (.agg [(.int .i64 r27), (.int .i64 r28)]), r14, r20, (.int .i64 r26), d43, (.agg [(.int .i64 last44), (.int .i64 last45), (.int .i64 last46), (.int .i64 last47)]), d82, d58, (.agg [(.int .i64 w59), (.int .i64 w60)]), d61, d62, d83, d84, d85, (.bool ((decide (user6 < (-1))) || (decide (user6 > 7)))), .undef, .undef, .undef, .undef, .empty, .undef, .undef, .undef, .undef] H86 (by kernel_rfl) ?_
                  refine then_norm ?_
                  refine w_seq ?_
                  refine w_seq ?_
                  refine w_run [0] ?_
                  refine t_done [l0, other1, (.agg [(.int .i64 r2), (.int .i64 r3), (.int .i64 r4), (.int .i64 r5)]), (.int .i64 user6), (.int .i64 to7), d81, (.agg [(.int .i64 r2), (.int .i64 r3), (.int .i64 r4), (.int .i64 r5)]), (.agg [(.int .i64 r9), (.int .i64 r10)]), (.bool (!(((r35) == r9) && (((r36) == r10) && true)))), (.bool ((r9) != 0)), (.agg [(.int .i64 r15), (.int .i64 r16)]), (.agg [(.int .i64 r21), (.int .i64 r22)]), (.agg [(.int .i64 r27), (.int .i64 r28)]), r14, r20, (.int .i64 r26), d43, (.agg [(.int .i64 last44), (.int .i64 last45), (.int .i64 last46), (.int .i64 last47)]), d82, d58, (.agg [(.int .i64 w59), (.int .i64 w60)]), d61, d62, d83, d84, d85, (.bool ((decide (user6 < (-1))) || (decide (user6 > 7)))), .undef, (.int .i64 0), .undef, .undef, .empty, .undef, .undef, .undef, .undef] H86 (by kernel_rfl) ?_
                  refine then_norm ?_
                  refine w_block ?_
                  obtain ⟨J115, k116, h0, h⟩ := h
                  refine w_loop (I := fun mI EI HI => ∃ (i118 : Int) (d119 : AV) (d120 : AV) (want121 : AV), EI = [l0, other1, (.agg [(.int .i64 r2), (.int .i64 r3), (.int .i64 r4), (.int .i64 r5)]), (.int .i64 user6), (.int .i64 to7), d81, (.agg [(.int .i64 r2), (.int .i64 r3), (.int .i64 r4), (.int .i64 r5)]), (.agg [(.int .i64 r9), (.int .i64 r10)]), (.bool (!(((r35) == r9) && (((r36) == r10) && true)))), (.bool ((r9) != 0)), (.agg [(.int .i64 r15), (.int .i64 r16)]), (.agg [(.int .i64 r21), (.int .i64 r22)]), (.agg [(.int .i64 r27), (.int .i64 r28)]), r14, r20, (.int .i64 r26), d43, (.agg [(.int .i64 last44), (.int .i64 last45), (.int .i64 last46), (.int .i64 last47)]), d82, d58, (.agg [(.int .i64 w59), (.int .i64 w60)]), d61, d62, d83, d84, d85, (.bool ((decide (user6 < (-1))) || (decide (user6 > 7)))), .undef, (.int .i64 i118), d119, d120, want121, .undef, .undef, .undef, .undef] ∧ J115 mI i118 want121 HI) ?_ k116 ⟨_, _, _, _, rfl, h0⟩
                  clear h0
                  rintro m117 EI H122 ⟨i118, d119, d120, want121, rfl, hJ⟩
                  replace h := h m117 i118 want121 H122 hJ
                  clear hJ
                  refine w_seq ?_
                  refine w_seq ?_
                  refine w_run [0, 0, 1, 0] ?_
                  obtain ⟨len123, hl, h⟩ := h
                  refine t_len true l0 len123 H122 (by kernel_rfl) hl ?_
                  refine t_done [l0, other1, (.agg [(.int .i64 r2), (.int .i64 r3), (.int .i64 r4), (.int .i64 r5)]), (.int .i64 user6), (.int .i64 to7), d81, (.agg [(.int .i64 r2), (.int .i64 r3), (.int .i64 r4), (.int .i64 r5)]), (.agg [(.int .i64 r9), (.int .i64 r10)]), (.bool (!(((r35) == r9) && (((r36) == r10) && true)))), (.bool ((r9) != 0)), (.agg [(.int .i64 r15), (.int .i64 r16)]), (.agg [(.int .i64 r21), (.int .i64 r22)]), (.agg [(.int .i64 r27), (.int .i64 r28)]), r14, r20, (.int .i64 r26), d43, (.agg [(.int .i64 last44), (.int .i64 last45), (.int .i64 last46), (.int .i64 last47)]), d82, d58, (.agg [(.int .i64 w59), (.int .i64 w60)]), d61, d62, d83, d84, d85, (.bool ((decide (user6 < (-1))) || (decide (user6 > 7)))), .undef, (.int .i64 i118), (.bool (decide (i118 < (len123 : Int)))), d120, want121, .undef, .undef, .undef, .undef] H122 (by kernel_rfl) ?_
                  refine then_norm ?_
                  refine w_cond (t := (decide (i118 < (len123 : Int)))) rfl (fun hc => ?_) (fun hc => ?_)
                  · replace h := h.1 (is_dec.t hc)
                    refine w_skip ?_
                    refine then_norm ?_
                    refine w_seq ?_
                    refine w_block ?_
                    refine w_seq ?_
                    refine w_run [0, 0, 1, 1, 1, 0, 0, 0, 0, 2, 2, 3, 3, 3, 2, 2, 0, 0, 2, 2, 2, 2, 2, 3, 3, 3, 2, 2, 2, 0] ?_
                    obtain ⟨e124, hg125, h⟩ := h
                    refine t_idxG false 4 l0 .i64 i118 H122 (by kernel_rfl) hg125 ?_
                    refine t_fldG false 0 4 l0 i118 0 H122 (by kernel_rfl) hg125 ?_
                    refine t_loadG false none 4 l0 i118 0 (.int .i64 e124) H122 (by kernel_rfl) hg125 ?_
                    refine t_gd (decide (e124 ≥ r2)) true (by kernel_rfl) (fun hc => ?_) (fun hc => ?_)
                    · replace h := h.1 (is_dec.t hc)
                      refine t_gd true true (by kernel_rfl) (fun _ => ?_) (fun hn => by cases hn)
                      refine t_gd true true (by kernel_rfl) (fun _ => ?_) (fun hn => by cases hn)
                      obtain ⟨e126, hg127, h⟩ := h
                      refine t_idxG true 4 l0 .i64 i118 H122 (by kernel_rfl) hg127 ?_
                      refine t_gd true true (by kernel_rfl) (fun _ => ?_) (fun hn => by cases hn)
                      refine t_fldG true 0 4 l0 i118 0 H122 (by kernel_rfl) hg127 ?_
                      refine t_gd true true (by kernel_rfl) (fun _ => ?_) (fun hn => by cases hn)
                      refine t_loadG true none 4 l0 i118 0 (.int .i64 e126) H122 (by kernel_rfl) hg127 ?_
                      refine t_gd true true (by kernel_rfl) (fun _ => ?_) (fun hn => by cases hn)
                      refine t_gd true true (by kernel_rfl) (fun _ => ?_) (fun hn => by cases hn)
                      refine t_gd (decide (e126 ≤ to7)) true (by kernel_rfl) (fun hc => ?_) (fun hc => ?_)
                      · replace h := h.1 (is_dec.t hc)
                        refine t_gd true true (by kernel_rfl) (fun _ => ?_) (fun hn => by cases hn)
                        refine t_gd true true (by kernel_rfl) (fun _ => ?_) (fun hn => by cases hn)
                        refine t_gd (decide (user6 < 0)) false (by kernel_rfl) (fun hc => ?_) (fun hc => ?_)
                        · replace h := h.2 (is_dec.f hc)
                          refine t_gd false false (by kernel_rfl) (fun _ => ?_) (fun hn => by cases hn)
                          refine t_gd false false (by kernel_rfl) (fun _ => ?_) (fun hn => by cases hn)
                          obtain ⟨e128, hg129, h⟩ := h
                          refine t_idxG true 4 l0 .i64 i118 H122 (by kernel_rfl) hg129 ?_
                          refine t_gd false false (by kernel_rfl) (fun _ => ?_) (fun hn => by cases hn)
                          refine t_fldG true 1 4 l0 i118 0 H122 (by kernel_rfl) hg129 ?_
                          refine t_gd false false (by kernel_rfl) (fun _ => ?_) (fun hn => by cases hn)
                          refine t_loadG true none 4 l0 i118 1 (.int .i64 e128) H122 (by kernel_rfl) hg129 ?_
                          refine t_gd false false (by kernel_rfl) (fun _ => ?_) (fun hn => by cases hn)
                          refine t_gd false false (by kernel_rfl) (fun _ => ?_) (fun hn => by cases hn)
                          refine t_gd true true (by kernel_rfl) (fun _ => ?_) (fun hn => by cases hn)
                          refine t_done [l0, other1, (.agg [(.int .i64 r2), (.int .i64 r3), (.int .i64 r4), (.int .i64 r5)]), (.int .i64 user6), (.int .i64 to7), d81, (.agg [(.int .i64 r2), (.int .i64 r3), (.int .i64 r4), (.int .i64 r5)]), (.agg [(.int .i64 r9), (.int .i64 r10)]), (.bool (!(((r35) == r9) && (((r36) == r10) && true)))), (.bool ((r9) != 0)), (.agg [(.int .i64 r15), (.int .i64 r16)]), (.agg [(.int .i64 r21), (.int .i64 r22)]), (.agg [(.int .i64 r27), (.int .i64 r28)]), r14, r20, (.int .i64 r26), d43, (.agg [(.int .i64 last44), (.int .i64 last45), (.int .i64 last46), (.int .i64 last47)]), d82, d58, (.agg [(.int .i64 w59), (.int .i64 w60)]), d61, d62, d83, d84, d85, (.bool ((decide (user6 < (-1))) || (decide (user6 > 7)))), .undef, (.int .i64 i118), (.bool (decide (i118 < (len123 : Int)))), (.bool ((e128) == user6)), want121, .undef, .undef, .undef, .undef] H122 (by kernel_rfl) ?_
                          refine then_norm ?_
                          refine w_cond (t := ((e128) == user6)) rfl (fun hc => ?_) (fun hc => ?_)
                          · replace h := h.1 (is_eq.t hc)
                            refine w_run [0, 0, 1, 1, 0] ?_
                            obtain ⟨b130, H131, hb⟩ : ∃ b H', NewB H122 1 [(.int .i64 i118)] b H' := ⟨_, _, rfl, rfl⟩
                            replace h := h b130 H131 hb
                            refine t_bs true 1 [(.int .i64 0)] [(0, 1, .loc 0)] 1 [(.int .i64 i118)] [(.int .i64 i118)] b130 H131 H122 (by kernel_rfl) (fill_c (vs := [(.int .i64 i118)]) (size := 1) rfl (by kernel_rfl) (by kernel_rfl) (by kernel_rfl)) hb ?_
                            obtain ⟨a132, H133, ha, h⟩ := h
                            refine t_app true 1 8 want121 (.slice b130 0 1 (some 1)) a132 H133 H131 (by kernel_rfl) ha ?_
                            refine t_done [l0, other1, (.agg [(.int .i64 r2), (.int .i64 r3), (.int .i64 r4), (.int .i64 r5)]), (.int .i64 user6), (.int .i64 to7), d81, (.agg [(.int .i64 r2), (.int .i64 r3), (.int .i64 r4), (.int .i64 r5)]), (.agg [(.int .i64 r9), (.int .i64 r10)]), (.bool (!(((r35) == r9) && (((r36) == r10) && true)))), (.bool ((r9) != 0)), (.agg [(.int .i64 r15), (.int .i64 r16)]), (.agg [(.int .i64 r21), (.int .i64 r22)]), (.agg [(.int .i64 r27), (.int .i64 r28)]), r14, r20, (.int .i64 r26), d43, (.agg [(.int .i64 last44), (.int .i64 last45), (.int .i64 last46), (.int .i64 last47)]), d82, d58, (.agg [(.int .i64 w59), (.int .i64 w60)]), d61, d62, d83, d84, d85, (.bool ((decide (user6 < (-1))) || (decide (user6 > 7)))), .undef, (.int .i64 i118), (.bool (decide (i118 < (len123 : Int)))), (.bool ((e128) == user6)), a132, .undef, .undef, .undef, .undef] H133 (by kernel_rfl) ?_
                            refine block_norm ?_
                            refine then_norm ?_
                            refine w_run [0, 0, 0] ?_
                            refine t_done [l0, other1, (.agg [(.int .i64 r2), (.int .i64 r3), (.int .i64 r4), (.int .i64 r5)]), (.int .i64 user6), (.int .i64 to7), d81, (.agg [(.int .i64 r2), (.int .i64 r3), (.int .i64 r4), (.int .i64 r5)]), (.agg [(.int .i64 r9), (.int .i64 r10)]), (.bool (!(((r35) == r9) && (((r36) == r10) && true)))), (.bool ((r9) != 0)), (.agg [(.int .i64 r15), (.int .i64 r16)]), (.agg [(.int .i64 r21), (.int .i64 r22)]), (.agg [(.int .i64 r27), (.int .i64 r28)]), r14, r20, (.int .i64 r26), d43, (.agg [(.int .i64 last44), (.int .i64 last45), (.int .i64 last46), (.int .i64 last47)]), d82, d58, (.agg [(.int .i64 w59), (.int .i64 w60)]), d61, d62, d83, d84, d85, (.bool ((decide (user6 < (-1))) || (decide (user6 > 7)))), .undef, (.int .i64 (IntKind.wrap .i64 (i118 + 1))), (.bool (decide (i118 < (len123 : Int)))), (.bool ((e128) == user6)), a132, .undef, .undef, .undef, .undef] H133 (by kernel_rfl) ?_
                            obtain ⟨m', hm, h⟩ := h
                            refine loop_norm ⟨m', hm, _, _, _, _, rfl, h⟩
                          · replace h := h.2 (is_eq.f hc)
                            refine w_skip ?_
                            refine block_norm ?_
                            refine then_norm ?_
                            refine w_run [0, 0, 0] ?_
                            refine t_done [l0, other1, (.agg [(.int .i64 r2), (.int .i64 r3), (.int .i64 r4), (.int .i64 r5)]), (.int .i64 user6), (.int .i64 to7), d81, (.agg [(.int .i64 r2), (.int .i64 r3), (.int .i64 r4), (.int .i64 r5)]), (.agg [(.int .i64 r9), (.int .i64 r10)]), (.bool (!(((r35) == r9) && (((r36) == r10) && true)))), (.bool ((r9) != 0)), (.agg [(.int .i64 r15), (.int .i64 r16)]), (.agg [(.int .i64 r21), (.int .i64 r22)]), (.agg [(.int .i64 r27), (.int .i64 r28)]), r14, r20, (.int .i64 r26), d43, (.agg [(.int .i64 last44), (.int .i64 last45), (.int .i64 last46), (.int .i64 last47)]), d82, d58, (.agg [(.int .i64 w59), (.int .i64 w60)]), d61, d62, d83, d84, d85, (.bool ((decide (user6 < (-1))) || (decide (user6 > 7)))), .undef, (.int .i64 (IntKind.wrap .i64 (i118 + 1))), (.bool (decide (i118 < (len123 : Int)))), (.bool ((e128) == user6)), want121, .undef, .undef, .undef, .undef] H122 (by kernel_rfl) ?_
                            obtain ⟨m', hm, h⟩ := h
                            refine loop_norm ⟨m', hm, _, _, _, _, rfl, h⟩
                        · replace h := h.1 (is_dec.t hc)
                          refine t_gd true false (by kernel_rfl) (fun hn => by cases hn) (fun _ => ?_)
                          refine t_gd true false (by kernel_rfl) (fun hn => by cases hn) (fun _ => ?_)
                          refine t_gd true false (by kernel_rfl) (fun hn => by cases hn) (fun _ => ?_)
                          refine t_gd true false (by kernel_rfl) (fun hn => by cases hn) (fun _ => ?_)
                          refine t_gd true false (by kernel_rfl) (fun hn => by cases hn) (fun _ => ?_)
                          refine t_gd true false (by kernel_rfl) (fun hn => by cases hn) (fun _ => ?_)
                          refine t_gd true true (by kernel_rfl) (fun _ => ?_) (fun hn => by cases hn)
                          refine t_done [l0, other1, (.agg [(.int .i64 r2), (.int .i64 r3), (.int .i64 r4), (.int .i64 r5)]), (.int .i64 user6), (.int .i64 to7), d81, (.agg [(.int .i64 r2), (.int .i64 r3), (.int .i64 r4), (.int .i64 r5)]), (.agg [(.int .i64 r9), (.int .i64 r10)]), (.bool (!(((r35) == r9) && (((r36) == r10) && true)))), (.bool ((r9) != 0)), (.agg [(.int .i64 r15), (.int .i64 r16)]), (.agg [(.int .i64 r21), (.int .i64 r22)]), (.agg [(.int .i64 r27), (.int .i64 r28)]), r14, r20, (.int .i64 r26), d43, (.agg [(.int .i64 last44), (.int .i64 last45), (.int .i64 last46), (.int .i64 last47)]), d82, d58, (.agg [(.int .i64 w59), (.int .i64 w60)]), d61, d62, d83, d84, d85, (.bool ((decide (user6 < (-1))) || (decide (user6 > 7)))), .undef, (.int .i64 i118), (.bool (decide (i118 < (len123 : Int)))), (.bool true), want121, .undef, .undef, .undef, .undef] H122 (by kernel_rfl) ?_
                          refine then_norm ?_
                          refine w_cond (t := true) rfl (fun _ => ?_) (fun hc => by cases hc)
                          refine w_run [0, 0, 1, 1, 0] ?_
                          obtain ⟨b136, H137, hb⟩ : ∃ b H', NewB H122 1 [(.int .i64 i118)] b H' := ⟨_, _, rfl, rfl⟩
                          replace h := h b136 H137 hb
                          refine t_bs true 1 [(.int .i64 0)] [(0, 1, .loc 0)] 1 [(.int .i64 i118)] [(.int .i64 i118)] b136 H137 H122 (by kernel_rfl) (fill_c (vs := [(.int .i64 i118)]) (size := 1) rfl (by kernel_rfl) (by kernel_rfl) (by kernel_rfl)) hb ?_
                          obtain ⟨a138, H139, ha, h⟩ := h
                          refine t_app true 1 8 want121 (.slice b136 0 1 (some 1)) a138 H139 H137 (by kernel_rfl) ha ?_
                          refine t_done [l0, other1, (.agg [(.int .i64 r2), (.int .i64 r3), (.int .i64 r4), (.int .i64 r5)]), (.int .i64 user6), (.int .i64 to7), d81, (.agg [(.int .i64 r2), (.int .i64 r3), (.int .i64 r4), (.int .i64 r5)]), (.agg [(.int .i64 r9), (.int .i64 r10)]), (.bool (!(((r35) == r9) && (((r36) == r10) && true)))), (.bool ((r9) != 0)), (.agg [(.int .i64 r15), (.int .i64 r16)]), (.agg [(.int .i64 r21), (.int .i64 r22)]), (.agg [(.int .i64 r27), (.int .i64 r28)]), r14, r20, (.int .i64 r26), d43, (.agg [(.int .i64 last44), (.int .i64 last45), (.int .i64 last46), (.int .i64 last47)]), d82, d58, (.agg [(.int .i64 w59), (.int .i64 w60)]), d61, d62, d83, d84, d85, (.bool ((decide (user6 < (-1))) || (decide (user6 > 7)))), .undef, (.int .i64 i118), (.bool (decide (i118 < (len123 : Int)))), (.bool true), a138, .undef, .undef, .undef, .undef] H139 (by kernel_rfl) ?_
                          refine block_norm ?_
                          refine then_norm ?_
                          refine w_run [0, 0, 0] ?_
                          refine t_done [l0, other1, (.agg [(.int .i64 r2), (.int .i64 r3), (.int .i64 r4), (.int .i64 r5)]), (.int .i64 user6), (.int .i64 to7), d81, (.agg [(.int .i64 r2), (.int .i64 r3), (.int .i64 r4), (.int .i64 r5)]), (.agg [(.int .i64 r9), (.int .i64 r10)]), (.bool (!(((r35) == r9) && (((r36) == r10) && true)))), (.bool ((r9) != 0)), (.agg [(.int .i64 r15), (.int .i64 r16)]), (.agg [(.int .i64 r21), (.int .i64 r22)]), (.agg [(.int .i64 r27), (.int .i64 r28)]), r14, r20, (.int .i64 r26), d43, (.agg [(.int .i64 last44), (.int .i64 last45), (.int .i64 last46), (.int .i64 last47)]), d82, d58, (.agg [(.int .i64 w59), (.int .i64 w60)]), d61, d62, d83, d84, d85, (.bool ((decide (user6 < (-1))) || (decide (user6 > 7)))), .undef, (.int .i64 (IntKind.wrap .i64 (i118 + 1))), (.bool (decide (i118 < (len123 : Int)))), (.bool true), a138, .undef, .undef, .undef, .undef] H139 (by kernel_rfl) ?_
                          obtain ⟨m', hm, h⟩ := h
                          refine loop_norm ⟨m', hm, _, _, _, _, rfl, h⟩
                      · replace h := h.2 (is_dec.f hc)
                        refine t_gd false true (by kernel_rfl) (fun hn => by cases hn) (fun _ => ?_)
                        refine t_gd false true (by kernel_rfl) (fun hn => by cases hn) (fun _ => ?_)
                        refine t_gdU false (by kernel_rfl) ?_
                        refine t_gdU false (by kernel_rfl) ?_
                        refine t_gdU false (by kernel_rfl) ?_
                        refine t_gdU false (by kernel_rfl) ?_
                        refine t_gdU false (by kernel_rfl) ?_
                        refine t_gdU false (by kernel_rfl) ?_
                        refine t_gdU false (by kernel_rfl) ?_
                        refine t_gd false true (by kernel_rfl) (fun hn => by cases hn) (fun _ => ?_)
                        refine t_done [l0, other1, (.agg [(.int .i64 r2), (.int .i64 r3), (.int .i64 r4), (.int .i64 r5)]), (.int .i64 user6), (.int .i64 to7), d81, (.agg [(.int .i64 r2), (.int .i64 r3), (.int .i64 r4), (.int .i64 r5)]), (.agg [(.int .i64 r9), (.int .i64 r10)]), (.bool (!(((r35) == r9) && (((r36) == r10) && true)))), (.bool ((r9) != 0)), (.agg [(.int .i64 r15), (.int .i64 r16)]), (.agg [(.int .i64 r21), (.int .i64 r22)]), (.agg [(.int .i64 r27), (.int .i64 r28)]), r14, r20, (.int .i64 r26), d43, (.agg [(.int .i64 last44), (.int .i64 last45), (.int .i64 last46), (.int .i64 last47)]), d82, d58, (.agg [(.int .i64 w59), (.int .i64 w60)]), d61, d62, d83, d84, d85, (.bool ((decide (user6 < (-1))) || (decide (user6 > 7)))), .undef, (.int .i64 i118), (.bool (decide (i118 < (len123 : Int)))), (.bool false), want121, .undef, .undef, .undef, .undef] H122 (by kernel_rfl) ?_
                        refine then_norm ?_
                        refine w_cond (t := false) rfl (fun hc => by cases hc) (fun _ => ?_)
                        refine w_skip ?_
                        refine block_norm ?_
                        refine then_norm ?_
                        refine w_run [0, 0, 0] ?_
                        refine t_done [l0, other1, (.agg [(.int .i64 r2), (.int .i64 r3), (.int .i64 r4), (.int .i64 r5)]), (.int .i64 user6), (.int .i64 to7), d81, (.agg [(.int .i64 r2), (.int .i64 r3), (.int .i64 r4), (.int .i64 r5)]), (.agg [(.int .i64 r9), (.int .i64 r10)]), (.bool (!(((r35) == r9) && (((r36) == r10) && true)))), (.bool ((r9) != 0)), (.agg [(.int .i64 r15), (.int .i64 r16)]), (.agg [(.int .i64 r21), (.int .i64 r22)]), (.agg [(.int .i64 r27), (.int .i64 r28)]), r14, r20, (.int .i64 r26), d43, (.agg [(.int .i64 last44), (.int .i64 last45), (.int .i64 last46), (.int .i64 last47)]), d82, d58, (.agg [(.int .i64 w59), (.int .i64 w60)]), d61, d62, d83, d84, d85, (.bool ((decide (user6 < (-1))) || (decide (user6 > 7)))), .undef, (.int .i64 (IntKind.wrap .i64 (i118 + 1))), (.bool (decide (i118 < (len123 : Int)))), (.bool false), want121, .undef, .undef, .undef, .undef] H122 (by kernel_rfl) ?_
                        obtain ⟨m', hm, h⟩ := h
                        refine loop_norm ⟨m', hm, _, _, _, _, rfl, h⟩
                    · replace h := h.2 (is_dec.f hc)
                      refine t_gd false true (by kernel_rfl) (fun hn => by cases hn) (fun _ => ?_)
                      refine t_gd false true (by kernel_rfl) (fun hn => by cases hn) (fun _ => ?_)
                      refine t_gd false true (by kernel_rfl) (fun hn => by cases hn) (fun _ => ?_)
                      refine t_gd false true (by kernel_rfl) (fun hn => by cases hn) (fun _ => ?_)
                      refine t_gd false true (by kernel_rfl) (fun hn => by cases hn) (fun _ => ?_)
                      refine t_gd false true (by kernel_rfl) (fun hn => by cases hn) (fun _ => ?_)
                      refine t_gd false true (by kernel_rfl) (fun hn => by cases hn) (fun _ => ?_)
                      refine t_gd false true (by kernel_rfl) (fun hn => by cases hn) (fun _ => ?_)
                      refine t_gd false true (by kernel_rfl) (fun hn => by cases hn) (fun _ => ?_)
                      refine t_gdU false (by kernel_rfl) ?_
                      refine t_gdU false (by kernel_rfl) ?_
                      refine t_gdU false (by kernel_rfl) ?_
                      refine t_gdU false (by kernel_rfl) ?_
                      refine t_gdU false (by kernel_rfl) ?_
                      refine t_gdU false (by kernel_rfl) ?_
                      refine t_gdU false (by kernel_rfl) ?_
                      refine t_gd false true (by kernel_rfl) (fun hn => by cases hn) (fun _ => ?_)
                      refine t_done [l0, other1, (.agg [(.int .i64 r2), (.int .i64 r3), (.int .i64 r4), (.int .i64 r5)]), (.int .i64 user6), (.int .i64 to7), d81, (.agg [(.int .i64 r2), (.int .i64 r3), (.int .i64 r4), (.int .i64 r5)]), (.agg [(.int .i64 r9), (.int .i64 r10)]), (.bool (!(((r35) == r9) && (((r36) == r10) && true)))), (.bool ((r9) != 0)), (.agg [(.int .i64 r15), (.int .i64 r16)]), (.agg [(.int .i64 r21), (.int .i64 r22)]), (.agg [(.int .i64 r27), (.int .i64 r28)]), r14, r20, (.int .i64 r26), d43, (.agg [(.int .i64 last44), (.int .i64 last45), (.int .i64 last46), (.int .i64 last47)]), d82, d58, (.agg [(.int .i64 w59), (.int .i64 w60)]), d61, d62, d83, d84, d85, (.bool ((decide (user6 < (-1))) || (decide (user6 > 7)))), .undef, (.int .i64 i118), (.bool (decide (i118 < (len123 : Int)))), (.bool false), want121, .undef, .undef, .undef, .undef] H122 (by kernel_rfl) ?_
                      refine then_norm ?_
                      refine w_cond (t := false) rfl (fun hc => by cases hc) (fun _ => ?_)
                      refine w_skip ?_
                      refine block_norm ?_
                      refine then_norm ?_
                      refine w_run [0, 0, 0] ?_
                      refine t_done [l0, other1, (.agg [(.int .i64 r2), (.int .i64 r3), (.int .i64 r4), (.int .i64 r5)]), (.int .i64 user6), (.int .i64 to7), d81, (.agg [(.int .i64 r2), (.int .i64 r3), (.int .i64 r4), (.int .i64 r5)]), (.agg [(.int .i64 r9), (.int .i64 r10)]), (.bool (!(((r35) == r9) && (((r36) == r10) && true)))), (.bool ((r9) != 0)), (.agg [(.int .i64 r15), (.int .i64 r16)]), (.agg [(.int .i64 r21), (.int .i64 r22)]), (.agg [(.int .i64 r27), (.int .i64 r28)]), r14, r20, (.int .i64 r26), d43, (.agg [(.int .i64 last44), (.int .i64 last45), (.int .i64 last46), (.int .i64 last47)]), d82, d58, (.agg [(.int .i64 w59), (.int .i64 w60)]), d61, d62, d83, d84, d85, (.bool ((decide (user6 < (-1))) || (decide (user6 > 7)))), .undef, (.int .i64 (IntKind.wrap .i64 (i118 + 1))), (.bool (decide (i118 < (len123 : Int)))), (.bool false), want121, .undef, .undef, .undef, .undef] H122 (by kernel_rfl) ?_
                      obtain ⟨m', hm, h⟩ := h
                      refine loop_norm ⟨m', hm, _, _, _, _, rfl, h⟩
                  · replace h := h.2 (is_dec.f hc)
                    refine w_exit ?_
                    refine then_exit ?_
                    refine loop_exit ?_
                    refine block_exit ?_
                    refine then_norm ?_
                    refine w_seq ?_
                    refine w_run [0, 0, 0, 0, 0, 0, 3, 2, 0] ?_
                    refine t_gd ((r21) != 0) false (by kernel_rfl) (fun hc => ?_) (fun hc => ?_)
                    · replace h := h.2 (is_ne.f hc)
                      refine t_call true nFEqualInts [r20, want121] H122 (by kernel_rfl) h ?_
                      clear h
                      rintro _ H144 ⟨r143, rfl, h⟩
                      refine t_gd false false (by kernel_rfl) (fun _ => ?_) (fun hn => by cases hn)
                      refine t_done [l0, other1, (.agg [(.int .i64 r2), (.int .i64 r3), (.int .i64 r4), (.int .i64 r5)]), (.int .i64 user6), (.int .i64 to7), d81, (.agg [(.int .i64 r2), (.int .i64 r3), (.int .i64 r4), (.int .i64 r5)]), (.agg [(.int .i64 r9), (.int .i64 r10)]), (.bool (!(((r35) == r9) && (((r36) == r10) && true)))), (.bool ((r9) != 0)), (.agg [(.int .i64 r15), (.int .i64 r16)]), (.agg [(.int .i64 r21), (.int .i64 r22)]), (.agg [(.int .i64 r27), (.int .i64 r28)]), r14, r20, (.int .i64 r26), d43, (.agg [(.int .i64 last44), (.int .i64 last45), (.int .i64 last46), (.int .i64 last47)]), d82, d58, (.agg [(.int .i64 w59), (.int .i64 w60)]), d61, d62, d83, d84, d85, (.bool ((decide (user6 < (-1))) || (decide (user6 > 7)))), .undef, (.int .i64 i118), (.bool (decide (i118 < (len123 : Int)))), d120, want121, (.bool (!r143)), .undef, .undef, .undef] H144 (by kernel_rfl) ?_
                      refine then_norm ?_
                      refine w_cond (t := (!r143)) rfl (fun hc => ?_) (fun hc => ?_)
                      · replace h := h.1 ((is_not is_raw).t hc)
                        refine w_seq ?_
                        refine w_run [0] ?_
                        refine t_done [l0, other1, (.agg [(.int .i64 r2), (.int .i64 r3), (.int .i64 r4), (.int .i64 r5)]), (.int .i64 user6), (.int .i64 to7), (.bool false), (.agg [(.int .i64 r2), (.int .i64 r3), (.int .i64 r4), (.int .i64 r5)]), (.agg [(.int .i64 r9), (.int .i64 r10)]), (.bool (!(((r35) == r9) && (((r36) == r10) && true)))), (.bool ((r9) != 0)), (.agg [(.int .i64 r15), (.int .i64 r16)]), (.agg [(.int .i64 r21), (.int .i64 r22)]), (.agg [(.int .i64 r27), (.int .i64 r28)]), r14, r20, (.int .i64 r26), d43, (.agg [(.int .i64 last44), (.int .i64 last45), (.int .i64 last46), (.int .i64 last47)]), d82, d58, (.agg [(.int .i64 w59), (.int .i64 w60)]), d61, d62, d83, d84, d85, (.bool ((decide (user6 < (-1))) || (decide (user6 > 7)))), .undef, (.int .i64 i118), (.bool (decide (i118 < (len123 : Int)))), d120, want121, (.bool (!r143)), .undef, .undef, .undef] H144 (by kernel_rfl) ?_
                        refine then_norm ?_
                        refine w_ret ?_
                        refine join_ret ?_
                        refine then_ret ?_
                        exact body_ret (vs := [(.bool false)]) _ (by kernel_rfl) rfl h
                      · replace h := h.2 ((is_not is_raw).f hc)
                        refine w_skip ?_
                        refine join_norm ⟨_, _, _, _, _, _, _, _, rfl, h⟩
                    · replace h := h.1 (is_ne.t hc)
                      refine t_gd true false (by kernel_rfl) (fun hn => by cases hn) (fun _ => ?_)
                      refine t_done [l0, other1, (.agg [(.int .i64 r2), (.int .i64 r3), (.int .i64 r4), (.int .i64 r5)]), (.int .i64 user6), (.int .i64 to7), d81, (.agg [(.int .i64 r2), (.int .i64 r3), (.int .i64 r4), (.int .i64 r5)]), (.agg [(.int .i64 r9), (.int .i64 r10)]), (.bool (!(((r35) == r9) && (((r36) == r10) && true)))), (.bool ((r9) != 0)), (.agg [(.int .i64 r15), (.int .i64 r16)]), (.agg [(.int .i64 r21), (.int .i64 r22)]), (.agg [(.int .i64 r27), (.int .i64 r28)]), r14, r20, (.int .i64 r26), d43, (.agg [(.int .i64 last44), (.int .i64 last45), (.int .i64 last46), (.int .i64 last47)]), d82, d58, (.agg [(.int .i64 w59), (.int .i64 w60)]), d61, d62, d83, d84, d85, (.bool ((decide (user6 < (-1))) || (decide (user6 > 7)))), .undef, (.int .i64 i118), (.bool (decide (i118 < (len123 : Int)))), d120, want121, (.bool true), .undef, .undef, .undef] H122 (by kernel_rfl) ?_
                      refine then_norm ?_
                      refine w_cond (t := true) rfl (fun _ => ?_) (fun hc => by cases hc)
                      refine w_seq ?_
                      refine w_run [0] ?_
                      refine t_done [l0, other1, (.agg [(.int .i64 r2), (.int .i64 r3), (.int .i64 r4), (.int .i64 r5)]), (.int .i64 user6), (.int .i64 to7), (.bool false), (.agg [(.int .i64 r2), (.int .i64 r3), (.int .i64 r4), (.int .i64 r5)]), (.agg [(.int .i64 r9), (.int .i64 r10)]), (.bool (!(((r35) == r9) && (((r36) == r10) && true)))), (.bool ((r9) != 0)), (.agg [(.int .i64 r15), (.int .i64 r16)]), (.agg [(.int .i64 r21), (.int .i64 r22)]), (.agg [(.int .i64 r27), (.int .i64 r28)]), r14, r20, (.int .i64 r26), d43, (.agg [(.int .i64 last44), (.int .i64 last45), (.int .i64 last46), (.int .i64 last47)]), d82, d58, (.agg [(.int .i64 w59), (.int .i64 w60)]), d61, d62, d83, d84, d85, (.bool ((decide (user6 < (-1))) || (decide (user6 > 7)))), .undef, (.int .i64 i118), (.bool (decide (i118 < (len123 : Int)))), d120, want121, (.bool true), .undef, .undef, .undef] H122 (by kernel_rfl) ?_
                      refine then_norm ?_
                      refine w_ret ?_
                      refine join_ret ?_
                      refine then_ret ?_
                      exact body_ret (vs := [(.bool false)]) _ (by kernel_rfl) rfl h
              · clear h
                rintro EI H109 ⟨d101, d102, d103, d104, d105, d106, d107, d108, rfl, hJ⟩
                have h := hK H109 hJ
                clear hJ hK
                refine then_norm ?_
                refine w_seq ?_
                refine w_seq ?_
                refine w_run [0, 1, 0, 0] ?_
                refine t_call true nFLogFault [other1] H109 (by kernel_rfl) h ?_
                clear h
                rintro _ H148 ⟨r146, r147, rfl, h⟩
                refine t_done [l0, other1, (.agg [(.int .i64 r2), (.int .i64 r3), (.int .i64 r4), (.int .i64 r5)]), (.int .i64 user6), (.int .i64 to7), d101, (.agg [(.int .i64 r2), (.int .i64 r3), (.int .i64 r4), (.int .i64 r5)]), (.agg [(.int .i64 r9), (.int .i64 r10)]), (.bool (!(((r35) == r9) && (((r36) == r10) && true)))), (.bool ((r9) != 0)), (.agg [(.int .i64 r15), (.int .i64 r16)]), (.agg [(.int .i64 r21), (.int .i64 r22)]), (.agg [(.int .i64 r27), (.int .i64 r28)]), r14, r20, (.int .i64 r26), d43, (.agg [(.int .i64 last44), (.int .i64 last45), (.int .i64 last46), (.int .i64 last47)]), d82, d58, (.agg [(.int .i64 w59), (.int .i64 w60)]), d61, d62, d83, d84, d85, d102, d103, d104, d105, d106, d107, d108, (.bool ((r146) != 0)), .undef, .undef] H148 (by kernel_rfl) ?_
                refine then_norm ?_
                refine w_cond (t := ((r146) != 0)) rfl (fun hc => ?_) (fun hc => ?_)
                · replace h := h.1 (is_ne.t hc)
                  refine w_seq ?_
                  refine w_run [0, 0, 1, 0, 1, 0, 0, 0, 0, 0, 0] ?_
                  refine t_call false nFLogFault [other1] H148 (by kernel_rfl) h ?_
                  clear h
                  rintro _ H152 ⟨r150, r151, rfl, h⟩
                  refine t_call false nFFault [(.int .i64 r150), (.int .i64 (-2))] H152 (by kernel_rfl) h ?_
                  clear h
                  rintro _ H156 ⟨r154, r155, rfl, h⟩
                  refine t_done [l0, other1, (.agg [(.int .i64 r2), (.int .i64 r3), (.int .i64 r4), (.int .i64 r5)]), (.int .i64 user6), (.int .i64 to7), (.bool ((((r27) == r154) && (((r28) == r155) && true)) && ((r26) == 0))), (.agg [(.int .i64 r2), (.int .i64 r3), (.int .i64 r4), (.int .i64 r5)]), (.agg [(.int .i64 r9), (.int .i64 r10)]), (.bool (!(((r35) == r9) && (((r36) == r10) && true)))), (.bool ((r9) != 0)), (.agg [(.int .i64 r15), (.int .i64 r16)]), (.agg [(.int .i64 r21), (.int .i64 r22)]), (.agg [(.int .i64 r27), (.int .i64 r28)]), r14, r20, (.int .i64 r26), d43, (.agg [(.int .i64 last44), (.int .i64 last45), (.int .i64 last46), (.int .i64 last47)]), d82, d58, (.agg [(.int .i64 w59), (.int .i64 w60)]), d61, d62, d83, d84, d85, d102, d103, d104, d105, d106, d107, d108, (.bool ((r146) != 0)), .undef, .undef] H156 (by kernel_rfl) ?_
                  refine then_norm ?_
                  refine w_ret ?_
                  refine then_ret ?_
                  exact body_ret (vs := [(.bool ((((r27) == r154) && (((r28) == r155) && true)) && ((r26) == 0)))]) _ (by kernel_rfl) rfl h
                · replace h := h.2 (is_ne.f hc)
                  refine w_skip ?_
                  refine then_norm ?_
                  refine w_seq ?_
                  refine w_run [0] ?_
                  refine t_done [l0, other1, (.agg [(.int .i64 r2), (.int .i64 r3), (.int .i64 r4), (.int .i64 r5)]), (.int .i64 user6), (.int .i64 to7), d101, (.agg [(.int .i64 r2), (.int .i64 r3), (.int .i64 r4), (.int .i64 r5)]), (.agg [(.int .i64 r9), (.int .i64 r10)]), (.bool (!(((r35) == r9) && (((r36) == r10) && true)))), (.bool ((r9) != 0)), (.agg [(.int .i64 r15), (.int .i64 r16)]), (.agg [(.int .i64 r21), (.int .i64 r22)]), (.agg [(.int .i64 r27), (.int .i64 r28)]), r14, r20, (.int .i64 r26), d43, (.agg [(.int .i64 last44), (.int .i64 last45), (.int .i64 last46), (.int .i64 last47)]), d82, d58, (.agg [(.int .i64 w59), (.int .i64 w60)]), d61, d62, d83, d84, d85, d102, d103, d104, d105, d106, d107, d108, (.bool ((r146) != 0)), (.int .i64 0), .undef] H148 (by kernel_rfl) ?_
                  refine then_norm ?_
                  refine w_seq ?_
                  refine w_block ?_
                  obtain ⟨J158, k159, h0, h⟩ := h
                  refine w_loop (I := fun mI EI HI => ∃ (want161 : Int) (d162 : AV), EI = [l0, other1, (.agg [(.int .i64 r2), (.int .i64 r3), (.int .i64 r4), (.int .i64 r5)]), (.int .i64 user6), (.int .i64 to7), d101, (.agg [(.int .i64 r2), (.int .i64 r3), (.int .i64 r4), (.int .i64 r5)]), (.agg [(.int .i64 r9), (.int .i64 r10)]), (.bool (!(((r35) == r9) && (((r36) == r10) && true)))), (.bool ((r9) != 0)), (.agg [(.int .i64 r15), (.int .i64 r16)]), (.agg [(.int .i64 r21), (.int .i64 r22)]), (.agg [(.int .i64 r27), (.int .i64 r28)]), r14, r20, (.int .i64 r26), d43, (.agg [(.int .i64 last44), (.int .i64 last45), (.int .i64 last46), (.int .i64 last47)]), d82, d58, (.agg [(.int .i64 w59), (.int .i64 w60)]), d61, d62, d83, d84, d85, d102, d103, d104, d105, d106, d107, d108, (.bool ((r146) != 0)), (.int .i64 want161), d162] ∧ H148 = HI ∧ J158 mI want161) ?_ k159 ⟨_, _, rfl, rfl, h0⟩
                  clear h0
                  rintro m160 EI HI ⟨want161, d162, rfl, rfl, hJ⟩
                  replace h := h m160 want161  hJ
                  clear hJ
                  refine w_seq ?_
                  refine w_seq ?_
                  refine w_run [0, 0, 1, 0, 0, 0, 0, 1, 0, 0, 0, 0, 0, 3, 3, 0, 0, 3, 3, 2, 0] ?_
                  obtain ⟨len163, hl, h⟩ := h
                  refine t_len true l0 len163 H148 (by kernel_rfl) hl ?_
                  obtain ⟨len164, hl, h⟩ := h
                  refine t_len true other1 len164 H148 (by kernel_rfl) hl ?_
                  refine t_gd ((decide (want161 < (len163 : Int))) && (decide (want161 < (len164 : Int)))) true (by kernel_rfl) (fun hc => ?_) (fun hc => ?_)
                  · replace h := h.1 ((is_and is_dec is_dec).t hc)
                    obtain ⟨e165, e166, e167, e168, hg169, h⟩ := h
                    refine t_idxG false 4 l0 .i64 want161 H148 (by kernel_rfl) hg169 ?_
                    refine t_gd true true (by kernel_rfl) (fun _ => ?_) (fun hn => by cases hn)
                    refine t_loadG false (some 4) 4 l0 want161 0 (.agg [(.int .i64 e165), (.int .i64 e166), (.int .i64 e167), (.int .i64 e168)]) H148 (by kernel_rfl) hg169 ?_
                    refine t_gd true true (by kernel_rfl) (fun _ => ?_) (fun hn => by cases hn)
                    obtain ⟨e170, e171, e172, e173, hg174, h⟩ := h
                    refine t_idxG false 4 other1 .i64 want161 H148 (by kernel_rfl) hg174 ?_
                    refine t_gd true true (by kernel_rfl) (fun _ => ?_) (fun hn => by cases hn)
                    refine t_loadG false (some 4) 4 other1 want161 0 (.agg [(.int .i64 e170), (.int .i64 e171), (.int .i64 e172), (.int .i64 e173)]) H148 (by kernel_rfl) hg174 ?_
                    refine t_gd true true (by kernel_rfl) (fun _ => ?_) (fun hn => by cases hn)
                    refine t_done [l0, other1, (.agg [(.int .i64 r2), (.int .i64 r3), (.int .i64 r4), (.int .i64 r5)]), (.int .i64 user6), (.int .i64 to7), d101, (.agg [(.int .i64 r2), (.int .i64 r3), (.int .i64 r4), (.int .i64 r5)]), (.agg [(.int .i64 r9), (.int .i64 r10)]), (.bool (!(((r35) == r9) && (((r36) == r10) && true)))), (.bool ((r9) != 0)), (.agg [(.int .i64 r15), (.int .i64 r16)]), (.agg [(.int .i64 r21), (.int .i64 r22)]), (.agg [(.int .i64 r27), (.int .i64 r28)]), r14, r20, (.int .i64 r26), d43, (.agg [(.int .i64 last44), (.int .i64 last45), (.int .i64 last46), (.int .i64 last47)]), d82, d58, (.agg [(.int .i64 w59), (.int .i64 w60)]), d61, d62, d83, d84, d85, d102, d103, d104, d105, d106, d107, d108, (.bool ((r146) != 0)), (.int .i64 want161), (.bool (((e165) == e170) && (((e166) == e171) && (((e167) == e172) && (((e168) == e173) && true)))))] H148 (by kernel_rfl) ?_
                    refine then_norm ?_
                    refine w_cond (t := (((e165) == e170) && (((e166) == e171) && (((e167) == e172) && (((e168) == e173) && true))))) rfl (fun hc => ?_) (fun hc => ?_)
                    · replace h := h.1 ((is_and is_eq (is_and is_eq (is_and is_eq (is_and is_eq is_true)))).t hc)
                      refine w_skip ?_
                      refine then_norm ?_
                      refine w_block ?_
                      refine w_run [0, 0, 0] ?_
                      refine t_done [l0, other1, (.agg [(.int .i64 r2), (.int .i64 r3), (.int .i64 r4), (.int .i64 r5)]), (.int .i64 user6), (.int .i64 to7), d101, (.agg [(.int .i64 r2), (.int .i64 r3), (.int .i64 r4), (.int .i64 r5)]), (.agg [(.int .i64 r9), (.int .i64 r10)]), (.bool (!(((r35) == r9) && (((r36) == r10) && true)))), (.bool ((r9) != 0)), (.agg [(.int .i64 r15), (.int .i64 r16)]), (.agg [(.int .i64 r21), (.int .i64 r22)]), (.agg [(.int .i64 r27), (.int .i64 r28)]), r14, r20, (.int .i64 r26), d43, (.agg [(.int .i64 last44), (.int .i64 last45), (.int .i64 last46), (.int .i64 last47)]), d82, d58, (.agg [(.int .i64 w59), (.int .i64 w60)]), d61, d62, d83, d84, d85, d102, d103, d104, d105, d106, d107, d108, (.bool ((r146) != 0)), (.int .i64 (IntKind.wrap .i64 (want161 + 1))), (.bool (((e165) == e170) && (((e166) == e171) && (((e167) == e172) && (((e168) == e173) && true)))))] H148 (by kernel_rfl) ?_
                      refine block_norm ?_
                      obtain ⟨m', hm, h⟩ := h
                      refine loop_norm ⟨m', hm, _, _, rfl, rfl, h⟩
                    · replace h := h.2 ((is_and is_eq (is_and is_eq (is_and is_eq (is_and is_eq is_true)))).f hc)
                      refine w_exit ?_
                      refine then_exit ?_
                      refine loop_exit ?_
                      refine block_exit ?_
                      refine then_norm ?_
                      refine w_seq ?_
                      refine w_run [0, 0, 0, 0, 0, 0, 0, 0, 0] ?_
                      refine t_done [l0, other1, (.agg [(.int .i64 r2), (.int .i64 r3), (.int .i64 r4), (.int .i64 r5)]), (.int .i64 user6), (.int .i64 to7), (.bool (((r27) == 0) && ((r26) == want161))), (.agg [(.int .i64 r2), (.int .i64 r3), (.int .i64 r4), (.int .i64 r5)]), (.agg [(.int .i64 r9), (.int .i64 r10)]), (.bool (!(((r35) == r9) && (((r36) == r10) && true)))), (.bool ((r9) != 0)), (.agg [(.int .i64 r15), (.int .i64 r16)]), (.agg [(.int .i64 r21), (.int .i64 r22)]), (.agg [(.int .i64 r27), (.int .i64 r28)]), r14, r20, (.int .i64 r26), d43, (.agg [(.int .i64 last44), (.int .i64 last45), (.int .i64 last46), (.int .i64 last47)]), d82, d58, (.agg [(.int .i64 w59), (.int .i64 w60)]), d61, d62, d83, d84, d85, d102, d103, d104, d105, d106, d107, d108, (.bool ((r146) != 0)), (.int .i64 want161), (.bool (((e165) == e170) && (((e166) == e171) && (((e167) == e172) && (((e168) == e173) && true)))))] H148 (by kernel_rfl) ?_
                      refine then_norm ?_
                      refine w_ret ?_
                      exact body_ret (vs := [(.bool (((r27) == 0) && ((r26) == want161)))]) _ (by kernel_rfl) rfl h
                  · replace h := h.2 ((is_and is_dec is_dec).f hc)
                    refine t_gd false true (by kernel_rfl) (fun hn => by cases hn) (fun _ => ?_)
                    refine t_gd false true (by kernel_rfl) (fun hn => by cases hn) (fun _ => ?_)
                    refine t_gd false true (by kernel_rfl) (fun hn => by cases hn) (fun _ => ?_)
                    refine t_gd false true (by kernel_rfl) (fun hn => by cases hn) (fun _ => ?_)
                    refine t_done [l0, other1, (.agg [(.int .i64 r2), (.int .i64 r3), (.int .i64 r4), (.int .i64 r5)]), (.int .i64 user6), (.int .i64 to7), d101, (.agg [(.int .i64 r2), (.int .i64 r3), (.int .i64 r4), (.int .i64 r5)]), (.agg [(.int .i64 r9), (.int .i64 r10)]), (.bool (!(((r35) == r9) && (((r36) == r10) && true)))), (.bool ((r9) != 0)), (.agg [(.int .i64 r15), (.int .i64 r16)]), (.agg [(.int .i64 r21), (.int .i64 r22)]), (.agg [(.int .i64 r27), (.int .i64 r28)]), r14, r20, (.int .i64 r26), d43, (.agg [(.int .i64 last44), (.int .i64 last45), (.int .i64 last46), (.int .i64 last47)]), d82, d58, (.agg [(.int .i64 w59), (.int .i64 w60)]), d61, d62, d83, d84, d85, d102, d103, d104, d105, d106, d107, d108, (.bool ((r146) != 0)), (.int .i64 want161), (.bool false)] H148 (by kernel_rfl) ?_
                    refine then_norm ?_
                    refine w_cond (t := false) rfl (fun hc => by cases hc) (fun _ => ?_)
                    refine w_exit ?_
                    refine then_exit ?_
                    refine loop_exit ?_
                    refine block_exit ?_
                    refine then_norm ?_
                    refine w_seq ?_
                    refine w_run [0, 0, 0, 0, 0, 0, 0, 0, 0] ?_
                    refine t_done [l0, other1, (.agg [(.int .i64 r2), (.int .i64 r3), (.int .i64 r4), (.int .i64 r5)]), (.int .i64 user6), (.int .i64 to7), (.bool (((r27) == 0) && ((r26) == want161))), (.agg [(.int .i64 r2), (.int .i64 r3), (.int .i64 r4), (.int .i64 r5)]), (.agg [(.int .i64 r9), (.int .i64 r10)]), (.bool (!(((r35) == r9) && (((r36) == r10) && true)))), (.bool ((r9) != 0)), (.agg [(.int .i64 r15), (.int .i64 r16)]), (.agg [(.int .i64 r21), (.int .i64 r22)]), (.agg [(.int .i64 r27), (.int .i64 r28)]), r14, r20, (.int .i64 r26), d43, (.agg [(.int .i64 last44), (.int .i64 last45), (.int .i64 last46), (.int .i64 last47)]), d82, d58, (.agg [(.int .i64 w59), (.int .i64 w60)]), d61, d62, d83, d84, d85, d102, d103, d104, d105, d106, d107, d108, (.bool ((r146) != 0)), (.int .i64 want161), (.bool false)] H148 (by kernel_rfl) ?_
                    refine then_norm ?_
                    refine w_ret ?_
                    exact body_ret (vs := [(.bool (((r27) == 0) && ((r26) == want161)))]) _ (by kernel_rfl) rfl h
  · replace h := h.1 ((is_not is_raw).t hc)
    refine t_gd true false (by kernel_rfl) (fun hn => by cases hn) (fun _ => ?_)
    refine t_done [l0, other1, (.agg [(.int .i64 r2), (.int .i64 r3), (.int .i64 r4), (.int .i64 r5)]), (.int .i64 user6), (.int .i64 to7), (.bool false), (.agg [(.int .i64 r2), (.int .i64 r3), (.int .i64 r4), (.int .i64 r5)]), (.agg [(.int .i64 r9), (.int .i64 r10)]), (.bool true), .undef, (.agg [(.int .i64 r15), (.int .i64 r16)]), (.agg [(.int .i64 r21), (.int .i64 r22)]), (.agg [(.int .i64 r27), (.int .i64 r28)]), r14, r20, (.int .i64 r26), .undef, .undef, .undef, .undef, .undef, .undef, .undef, .undef, .undef, .undef, .undef, .undef, .undef, .undef, .undef, .undef, .undef, .undef, .undef, .undef] H33 (by kernel_rfl) ?_
    refine then_norm ?_
    refine w_cond (t := true) rfl (fun _ => ?_) (fun hc => by cases hc)
    refine w_seq ?_
    refine w_run [0] ?_
    refine t_done [l0, other1, (.agg [(.int .i64 r2), (.int .i64 r3), (.int .i64 r4), (.int .i64 r5)]), (.int .i64 user6), (.int .i64 to7), (.bool false), (.agg [(.int .i64 r2), (.int .i64 r3), (.int .i64 r4), (.int .i64 r5)]), (.agg [(.int .i64 r9), (.int .i64 r10)]), (.bool true), .undef, (.agg [(.int .i64 r15), (.int .i64 r16)]), (.agg [(.int .i64 r21), (.int .i64 r22)]), (.agg [(.int .i64 r27), (.int .i64 r28)]), r14, r20, (.int .i64 r26), .undef, .undef, .undef, .undef, .undef, .undef, .undef, .undef, .undef, .undef, .undef, .undef, .undef, .undef, .undef, .undef, .undef, .undef, .undef, .undef] H33 (by kernel_rfl) ?_
    refine then_norm ?_
    refine w_ret ?_
    refine then_ret ?_
    exact body_ret (vs := [(.bool false)]) _ (by kernel_rfl) rfl h

def rf_LAuditAppendExtends (naudit_Append naudit_Fork naudit_Query nLauditExample naudit_Validate nFHas : Nat) : RFunc := ⟨4, 13, [.var 4],
 ((.seq (.ops [⟨.move (.k (.bool false)), none, (some 4), true⟩])
 ((.seq (.ops [⟨.move (.var 0), none, none, true⟩, ⟨.move (.var 1), none, none, true⟩, ⟨.move (.var 2), none, none, true⟩, ⟨.move (.var 3), none, none, true⟩, ⟨.callS naudit_Append [(.loc 0), (.loc 1), (.loc 2), (.loc 3)], none, none, true⟩, ⟨.move (.loc 4), none, none, true⟩, ⟨.extract (.loc 5) 0, none, none, true⟩, ⟨.extract (.loc 5) 1, none, none, true⟩, ⟨.tomb 1 (.k (.agg [.int .i64 0, .int .i64 0])), none, (some 7), true⟩, ⟨.move (.loc 6), none, (some 5), true⟩, ⟨.upd 2 0 (.loc 8) (.loc 7), none, (some 7), true⟩])
 ((.seq (.ops [⟨.move (.var 0), none, none, true⟩, ⟨.move (.var 5), none, none, true⟩, ⟨.callS naudit_Fork [(.loc 0), (.loc 1)], none, none, true⟩, ⟨.move (.loc 2), none, none, true⟩, ⟨.extract (.loc 3) 0, none, none, true⟩, ⟨.extract (.loc 3) 1, none, none, true⟩, ⟨.tomb 1 (.k (.agg [.int .i64 0, .int .i64 0])), none, (some 9), true⟩, ⟨.move (.loc 4), none, (some 10), true⟩, ⟨.upd 2 0 (.loc 6) (.loc 5), none, (some 9), true⟩])
 ((.seq (.ops [⟨.move (.var 5), none, none, true⟩, ⟨.move (.var 2), none, none, true⟩, ⟨.move (.var 1), none, none, true⟩, ⟨.move (.var 1), none, none, true⟩, ⟨.callS naudit_Query [(.loc 0), (.loc 1), (.loc 2), (.loc 3)], none, none, true⟩, ⟨.move (.loc 4), none, none, true⟩, ⟨.extract (.loc 5) 0, none, none, true⟩, ⟨.extract (.loc 5) 1, none, none, true⟩, ⟨.tomb 1 (.k (.agg [.int .i64 0, .int .i64 0])), none, (some 11), true⟩, ⟨.move (.loc 6), none, (some 12), true⟩, ⟨.upd 2 0 (.loc 8) (.loc 7), none, (some 11), true⟩])
 ((.seq ((.seq (.ops [⟨.callS nLauditExample [], none, none, true⟩, ⟨.un .not (.loc 0), none, (some 6), true⟩])
 (.cond (.var 6) ((.seq (.ops [⟨.move (.k (.bool false)), none, (some 4), true⟩])
 (.ret))) (.skip))))
 ((.seq ((.seq (.ops [⟨.field 0 none (.var 7), none, none, true⟩, ⟨.field 0 none (.var 7), none, none, true⟩, ⟨.bin .neq .no (.loc 1) (.k (.int .i64 0)), none, (some 8), true⟩])
 (.cond (.var 8) ((.seq (.ops [⟨.move (.k (.bool true)), none, (some 4), true⟩])
 (.ret))) (.skip))))
 ((.seq (.ops [⟨.move (.var 5), none, none, true⟩, ⟨.callS naudit_Validate [(.loc 0)], none, none, true⟩, ⟨.field 0 none (.loc 1), none, none, true⟩, ⟨.bin .eql .no (.loc 2) (.k (.int .i64 0)), none, none, true⟩, ⟨.move (.loc 3), none, none, true⟩, ⟨.field 0 none (.var 9), none, none, true⟩, ⟨.field 0 none (.var 9), none, none, true⟩, ⟨.bin .eql .no (.loc 6) (.k (.int .i64 0)), none, none, true⟩, ⟨.pick (.loc 4) (.loc 7) (.k (.bool false)), none, none, true⟩, ⟨.move (.loc 8), none, none, true⟩, ⟨.move (.var 10), none, none, true⟩, ⟨.move (.var 0), none, none, true⟩, ⟨.len (.loc 11), none, none, true⟩, ⟨.bin .eql .no (.loc 10) (.loc 12), none, none, true⟩, ⟨.pick (.loc 9) (.loc 13) (.k (.bool false)), none, none, true⟩, ⟨.move (.loc 14), none, none, true⟩, ⟨.move (.var 5), none, none, true⟩, ⟨.len (.loc 16), none, none, true⟩, ⟨.move (.var 0), none, none, true⟩, ⟨.len (.loc 18), none, none, true⟩, ⟨.bin .add .no (.loc 19) (.k (.int .i64 1)), none, none, true⟩, ⟨.bin .eql .no (.loc 17) (.loc 20), none, none, true⟩, ⟨.pick (.loc 15) (.loc 21) (.k (.bool false)), none, none, true⟩, ⟨.move (.loc 22), none, none, true⟩, ⟨.field 0 none (.var 11), none, none, true⟩, ⟨.field 0 none (.var 11), none, none, true⟩, ⟨.bin .eql .no (.loc 25) (.k (.int .i64 0)), none, none, true⟩, ⟨.pick (.loc 23) (.loc 26) (.k (.bool false)), none, none, true⟩, ⟨.move (.loc 27), none, none, true⟩, ⟨.move (.var 12), none, none, true⟩, ⟨.move (.var 0), none, none, true⟩, ⟨.len (.loc 30), none, none, true⟩, ⟨.callS nFHas [(.loc 29), (.loc 31)], (some (28, true)), none, true⟩, ⟨.pick (.loc 28) (.loc 32) (.k (.bool false)), none, none, true⟩, ⟨.move (.loc 33), none, (some 4), true⟩])
 (.ret))))))))))))))), none⟩
end Go.RM

