import Derived.Test.YtpjbnjgckbhohaaRmWp
/-
  Functions of the program as the abstract machine runs them, and what must be shown of a run: printed by RmPrint.
-/
namespace Go.RM
set_option linter.unusedVariables false
set_option maxRecDepth 4000
def rf_LspeculateExample (nspeculate_Chance nspeculate_Plan nspeculate_Decide nspeculate_Next nspeculate_Useful nFEqualRuns nFEqualInts : Nat) : RFunc := ⟨0, 15, [.var 0],
 ((.seq (.ops [⟨.move (.k (.bool false)), none, (some 0), true⟩])
 ((.seq (.ops [⟨.buildSlice 1 [.int .i64 0] [(0, 1, (.k (.int .i64 50))), (1, 1, (.k (.int .i64 90)))] 2, none, none, true⟩, ⟨.buildSlice 1 [.int .i64 0] [(0, 1, (.k (.int .i64 0)))] 1, none, none, true⟩, ⟨.build [.int .i64 0, .empty] [(0, 1, (.k (.int .i64 1))), (1, 1, (.loc 1))], none, none, true⟩, ⟨.callS nspeculate_Chance [(.loc 0), (.loc 2)], none, none, true⟩, ⟨.move (.loc 3), none, none, true⟩, ⟨.extract (.loc 4) 0, none, none, true⟩, ⟨.extract (.loc 4) 1, none, none, true⟩, ⟨.tomb 1 (.k (.agg [.int .i64 0, .int .i64 0])), none, (some 3), true⟩, ⟨.move (.loc 5), none, (some 2), true⟩, ⟨.upd 2 0 (.loc 7) (.loc 6), none, (some 3), true⟩])
 ((.seq (.ops [⟨.buildSlice 1 [.int .i64 0] [(0, 1, (.k (.int .i64 100))), (1, 1, (.k (.int .i64 100)))] 2, none, none, true⟩, ⟨.callS nspeculate_Plan [(.loc 0), (.k (.int .i64 2))], none, none, true⟩, ⟨.move (.loc 1), none, none, true⟩, ⟨.extract (.loc 2) 0, none, none, true⟩, ⟨.extract (.loc 2) 1, none, none, true⟩, ⟨.tomb 1 (.k (.agg [.int .i64 0, .int .i64 0])), none, (some 4), true⟩, ⟨.move (.loc 3), none, (some 9), true⟩, ⟨.upd 2 0 (.loc 5) (.loc 4), none, (some 4), true⟩])
 ((.seq (.ops [⟨.build [.int .i64 0, .empty] [(0, 1, (.k (.int .i64 0)))], none, none, true⟩, ⟨.build [.int .i64 0, .empty, .bool false] [(0, 2, (.loc 0))], none, none, true⟩, ⟨.build [.int .i64 0, .empty] [(0, 1, (.k (.int .i64 1)))], none, none, true⟩, ⟨.build [.int .i64 0, .empty, .bool false] [(0, 2, (.loc 2)), (2, 1, (.k (.bool true)))], none, none, true⟩, ⟨.buildSlice 3 [.int .i64 0, .empty, .bool false] [(0, 3, (.loc 1)), (3, 3, (.loc 3))] 2, none, none, true⟩, ⟨.move (.loc 4), none, (some 1), true⟩])
 ((.seq (.ops [⟨.move (.var 1), none, none, true⟩, ⟨.callS nspeculate_Decide [(.k (.int .i64 2)), (.loc 0)], none, none, true⟩, ⟨.move (.loc 1), none, none, true⟩, ⟨.extract (.loc 2) 0, none, none, true⟩, ⟨.extract (.loc 2) 1, none, none, true⟩, ⟨.extract (.loc 2) 2, none, none, true⟩, ⟨.tomb 1 (.k (.agg [.int .i64 0, .int .i64 0])), none, (some 5), true⟩, ⟨.move (.loc 3), none, (some 10), true⟩, ⟨.move (.loc 4), none, (some 11), true⟩, ⟨.upd 2 0 (.loc 6) (.loc 5), none, (some 5), true⟩])
 ((.seq (.ops [⟨.move (.var 1), none, none, true⟩, ⟨.slice 3 (.loc 0) none (some (.k (.int .i64 1))) none, none, none, true⟩, ⟨.callS nspeculate_Next [(.k (.int .i64 2)), (.loc 1)], none, none, true⟩, ⟨.move (.loc 2), none, none, true⟩, ⟨.extract (.loc 3) 0, none, none, true⟩, ⟨.extract (.loc 3) 1, none, none, true⟩, ⟨.tomb 1 (.k (.agg [.int .i64 0, .empty])), none, (some 12), true⟩, ⟨.tomb 1 (.k (.agg [.int .i64 0, .int .i64 0])), none, (some 6), true⟩, ⟨.upd 2 0 (.loc 6) (.loc 4), none, (some 12), true⟩, ⟨.upd 2 0 (.loc 7) (.loc 5), none, (some 6), true⟩])
 ((.seq (.ops [⟨.move (.var 1), none, none, true⟩, ⟨.slice 3 (.loc 0) none (some (.k (.int .i64 1))) none, none, none, true⟩, ⟨.buildSlice 1 [.int .i64 0] [(0, 1, (.k (.int .i64 0)))] 1, none, none, true⟩, ⟨.build [.int .i64 0, .empty] [(0, 1, (.k (.int .i64 1))), (1, 1, (.loc 2))], none, none, true⟩, ⟨.callS nspeculate_Useful [(.k (.int .i64 2)), (.loc 1), (.loc 3)], none, none, true⟩, ⟨.move (.loc 4), none, none, true⟩, ⟨.extract (.loc 5) 0, none, none, true⟩, ⟨.extract (.loc 5) 1, none, none, true⟩, ⟨.tomb 1 (.k (.agg [.int .i64 0, .int .i64 0])), none, (some 7), true⟩, ⟨.move (.loc 6), none, (some 13), true⟩, ⟨.upd 2 0 (.loc 8) (.loc 7), none, (some 7), true⟩])
 ((.seq (.ops [⟨.move (.var 1), none, none, true⟩, ⟨.slice 3 (.loc 0) none (some (.k (.int .i64 1))) none, none, none, true⟩, ⟨.build [.int .i64 0, .empty] [(0, 1, (.k (.int .i64 1)))], none, none, true⟩, ⟨.callS nspeculate_Useful [(.k (.int .i64 2)), (.loc 1), (.loc 2)], none, none, true⟩, ⟨.move (.loc 3), none, none, true⟩, ⟨.extract (.loc 4) 0, none, none, true⟩, ⟨.extract (.loc 4) 1, none, none, true⟩, ⟨.tomb 1 (.k (.agg [.int .i64 0, .int .i64 0])), none, (some 8), true⟩, ⟨.move (.loc 5), none, (some 14), true⟩, ⟨.upd 2 0 (.loc 7) (.loc 6), none, (some 8), true⟩])
 ((.seq (.ops [⟨.move (.var 2), none, none, true⟩, ⟨.bin .eql .no (.loc 0) (.k (.int .i64 5000)), none, none, true⟩, ⟨.move (.loc 1), none, none, true⟩, ⟨.field 0 none (.var 3), none, none, true⟩, ⟨.field 0 none (.var 3), none, none, true⟩, ⟨.bin .eql .no (.loc 4) (.k (.int .i64 0)), none, none, true⟩, ⟨.pick (.loc 2) (.loc 5) (.k (.bool false)), none, none, true⟩, ⟨.move (.loc 6), none, none, true⟩, ⟨.field 0 none (.var 4), none, none, true⟩, ⟨.field 0 none (.var 4), none, none, true⟩, ⟨.bin .eql .no (.loc 9) (.k (.int .i64 0)), none, none, true⟩, ⟨.pick (.loc 7) (.loc 10) (.k (.bool false)), none, none, true⟩, ⟨.move (.loc 11), none, none, true⟩, ⟨.field 0 none (.var 5), none, none, true⟩, ⟨.field 0 none (.var 5), none, none, true⟩, ⟨.bin .eql .no (.loc 14) (.k (.int .i64 0)), none, none, true⟩, ⟨.pick (.loc 12) (.loc 15) (.k (.bool false)), none, none, true⟩, ⟨.move (.loc 16), none, none, true⟩, ⟨.field 0 none (.var 6), none, none, true⟩, ⟨.field 0 none (.var 6), none, none, true⟩, ⟨.bin .eql .no (.loc 19) (.k (.int .i64 0)), none, none, true⟩, ⟨.pick (.loc 17) (.loc 20) (.k (.bool false)), none, none, true⟩, ⟨.move (.loc 21), none, none, true⟩, ⟨.field 0 none (.var 7), none, none, true⟩, ⟨.field 0 none (.var 7), none, none, true⟩, ⟨.bin .eql .no (.loc 24) (.k (.int .i64 0)), none, none, true⟩, ⟨.pick (.loc 22) (.loc 25) (.k (.bool false)), none, none, true⟩, ⟨.move (.loc 26), none, none, true⟩, ⟨.field 0 none (.var 8), none, none, true⟩, ⟨.field 0 none (.var 8), none, none, true⟩, ⟨.bin .eql .no (.loc 29) (.k (.int .i64 0)), none, none, true⟩, ⟨.pick (.loc 27) (.loc 30) (.k (.bool false)), none, none, true⟩, ⟨.move (.loc 31), none, none, true⟩, ⟨.move (.var 9), none, none, true⟩, ⟨.len (.loc 33), none, none, true⟩, ⟨.bin .eql .no (.loc 34) (.k (.int .i64 2)), none, none, true⟩, ⟨.pick (.loc 32) (.loc 35) (.k (.bool false)), none, none, true⟩, ⟨.move (.loc 36), none, none, true⟩, ⟨.move (.var 9), none, none, true⟩, ⟨.indexAddr 2 (.loc 38) (.k (.int .i64 1)), (some (37, true)), none, true⟩, ⟨.load (some 2) (.loc 39), (some (37, true)), none, true⟩, ⟨.buildSlice 1 [.int .i64 0] [(0, 1, (.k (.int .i64 0)))] 1, (some (37, true)), none, true⟩, ⟨.build [.int .i64 0, .empty] [(0, 1, (.k (.int .i64 1))), (1, 1, (.loc 41))], (some (37, true)), none, true⟩, ⟨.callS nFEqualRuns [(.loc 40), (.loc 42)], (some (37, true)), none, true⟩, ⟨.pick (.loc 37) (.loc 43) (.k (.bool false)), none, none, true⟩, ⟨.move (.loc 44), none, none, true⟩, ⟨.move (.var 10), none, none, true⟩, ⟨.buildSlice 1 [.int .i64 0] [(0, 1, (.k (.int .i64 1)))] 1, (some (45, true)), none, true⟩, ⟨.callS nFEqualInts [(.loc 46), (.loc 47)], (some (45, true)), none, true⟩, ⟨.pick (.loc 45) (.loc 48) (.k (.bool false)), none, none, true⟩, ⟨.move (.loc 49), none, none, true⟩, ⟨.move (.var 11), none, none, true⟩, ⟨.buildSlice 1 [.int .i64 0] [(0, 1, (.k (.int .i64 0)))] 1, (some (50, true)), none, true⟩, ⟨.callS nFEqualInts [(.loc 51), (.loc 52)], (some (50, true)), none, true⟩, ⟨.pick (.loc 50) (.loc 53) (.k (.bool false)), none, none, true⟩, ⟨.move (.loc 54), none, none, true⟩, ⟨.field 0 (some 2) (.var 12), none, none, true⟩, ⟨.build [.int .i64 0, .empty] [(0, 1, (.k (.int .i64 1)))], none, none, true⟩, ⟨.callS nFEqualRuns [(.loc 56), (.loc 57)], (some (55, true)), none, true⟩, ⟨.pick (.loc 55) (.loc 58) (.k (.bool false)), none, none, true⟩, ⟨.move (.loc 59), none, none, true⟩, ⟨.move (.var 13), none, none, true⟩, ⟨.un .not (.loc 61), none, none, true⟩, ⟨.pick (.loc 60) (.loc 62) (.k (.bool false)), none, none, true⟩, ⟨.move (.loc 63), none, none, true⟩, ⟨.move (.var 14), none, none, true⟩, ⟨.pick (.loc 64) (.loc 65) (.k (.bool false)), none, none, true⟩, ⟨.move (.loc 66), none, (some 0), true⟩])
 (.ret))))))))))))))))))), none⟩
theorem v_LspeculateExample {F : Nat → Option RFunc} {me nspeculate_Chance nspeculate_Plan nspeculate_Decide nspeculate_Next nspeculate_Useful nFEqualRuns nFEqualInts : Nat} (hF : F me = some (rf_LspeculateExample nspeculate_Chance nspeculate_Plan nspeculate_Decide nspeculate_Next nspeculate_Useful nFEqualRuns nFEqualInts)) {fl : Nat} {H : Heap} {Q : AV → Heap → Prop} 
  (h : ∀ (b0 : Nat) (H1 : Heap), NewB H 1 [(.int .i64 50), (.int .i64 90)] b0 H1 → ∀ (b2 : Nat) (H3 : Heap), NewB H1 1 [(.int .i64 0)] b2 H3 → Ret F fl nspeculate_Chance [(.slice b0 0 2 (some 2)), (.agg [(.int .i64 1), (.slice b2 0 1 (some 1))])] H3 (fun v8 H7 => ∃ (r4 : Int) (r5 : Int) (r6 : Int), v8 = (.tuple [(.int .i64 r4), (.agg [(.int .i64 r5), (.int .i64 r6)])]) ∧ ∀ (H9 : Heap), Dead1 H7 1 H9 → ∀ (b10 : Nat) (H11 : Heap), NewB H9 1 [(.int .i64 100), (.int .i64 100)] b10 H11 → Ret F fl nspeculate_Plan [(.slice b10 0 2 (some 2)), (.int .i64 2)] H11 (fun v16 H15 => ∃ (r12 : AV) (r13 : Int) (r14 : Int), v16 = (.tuple [r12, (.agg [(.int .i64 r13), (.int .i64 r14)])]) ∧ ∀ (H17 : Heap), Dead1 H15 1 H17 → ∀ (b18 : Nat) (H19 : Heap), NewB H17 3 [(.int .i64 0), .empty, (.bool false), (.int .i64 1), .empty, (.bool true)] b18 H19 → Ret F fl nspeculate_Decide [(.int .i64 2), (.slice b18 0 2 (some 2))] H19 (fun v25 H24 => ∃ (r20 : AV) (r21 : AV) (r22 : Int) (r23 : Int), v25 = (.tuple [r20, r21, (.agg [(.int .i64 r22), (.int .i64 r23)])]) ∧ ∀ (H26 : Heap), Dead1 H24 1 H26 → ∃ s27 : AV, rslice H26 3 (.slice b18 0 2 (some 2)) none (some (.int .i64 1)) none = some s27 ∧ Ret F fl nspeculate_Next [(.int .i64 2), s27] H26 (fun v33 H32 => ∃ (r28 : Int) (r29 : AV) (r30 : Int) (r31 : Int), v33 = (.tuple [(.agg [(.int .i64 r28), r29]), (.agg [(.int .i64 r30), (.int .i64 r31)])]) ∧ ∀ (H34 : Heap), Dead1 H32 1 H34 → ∀ (H35 : Heap), Dead1 H34 1 H35 → Scal r29 ∧ ∃ s37 : AV, rslice H35 3 (.slice b18 0 2 (some 2)) none (some (.int .i64 1)) none = some s37 ∧ ∀ (b38 : Nat) (H39 : Heap), NewB H35 1 [(.int .i64 0)] b38 H39 → Ret F fl nspeculate_Useful [(.int .i64 2), s37, (.agg [(.int .i64 1), (.slice b38 0 1 (some 1))])] H39 (fun v44 H43 => ∃ (r40 : Bool) (r41 : Int) (r42 : Int), v44 = (.tuple [(.bool r40), (.agg [(.int .i64 r41), (.int .i64 r42)])]) ∧ ∀ (H45 : Heap), Dead1 H43 1 H45 → ∃ s46 : AV, rslice H45 3 (.slice b18 0 2 (some 2)) none (some (.int .i64 1)) none = some s46 ∧ Ret F fl nspeculate_Useful [(.int .i64 2), s46, (.agg [(.int .i64 1), .empty])] H45 (fun v51 H50 => ∃ (r47 : Bool) (r48 : Int) (r49 : Int), v51 = (.tuple [(.bool r47), (.agg [(.int .i64 r48), (.int .i64 r49)])]) ∧ ∀ (H52 : Heap), Dead1 H50 1 H52 → ∃ len53 : Nat, lenA r12 = some len53 ∧ ((((((((((((((((r4 = 5000) ∧ (r5 = 0))) ∧ (r13 = 0))) ∧ (r22 = 0))) ∧ (r30 = 0))) ∧ (r41 = 0))) ∧ (r48 = 0))) ∧ ((len53 : Int) = 2))) → ∃ (e54 : Int) (e55 : AV), getA H52 2 (some 2) r12 1 0 = some (.agg [(.int .i64 e54), e55]) ∧ ∀ (b57 : Nat) (H58 : Heap), NewB H52 1 [(.int .i64 0)] b57 H58 → Ret F fl nFEqualRuns [(.agg [(.int .i64 e54), e55]), (.agg [(.int .i64 1), (.slice b57 0 1 (some 1))])] H58 (fun v61 H60 => ∃ (r59 : Bool), v61 = (.bool r59) ∧ ((r59 = true) → ∀ (b62 : Nat) (H63 : Heap), NewB H60 1 [(.int .i64 1)] b62 H63 → Ret F fl nFEqualInts [r20, (.slice b62 0 1 (some 1))] H63 (fun v66 H65 => ∃ (r64 : Bool), v66 = (.bool r64) ∧ ((r64 = true) → ∀ (b67 : Nat) (H68 : Heap), NewB H65 1 [(.int .i64 0)] b67 H68 → Ret F fl nFEqualInts [r21, (.slice b67 0 1 (some 1))] H68 (fun v71 H70 => ∃ (r69 : Bool), v71 = (.bool r69) ∧ ((r69 = true) → Ret F fl nFEqualRuns [(.agg [(.int .i64 r28), r29]), (.agg [(.int .i64 1), .empty])] H70 (fun v74 H73 => ∃ (r72 : Bool), v74 = (.bool r72) ∧ Q (.bool ((r72 && (!r40)) && r47)) H73)) ∧ (¬(r69 = true) → Q (.bool false) H70))) ∧ (¬(r64 = true) → Q (.bool false) H65))) ∧ (¬(r59 = true) → Q (.bool false) H60))) ∧ (¬(((((((((((((((r4 = 5000) ∧ (r5 = 0))) ∧ (r13 = 0))) ∧ (r22 = 0))) ∧ (r30 = 0))) ∧ (r41 = 0))) ∧ (r48 = 0))) ∧ ((len53 : Int) = 2))) → Q (.bool false) H52)))))))) : Ret F fl me [] H Q := by
  refine ret_intro hF rfl ?_
  refine w_seq ?_
  refine w_run [0] ?_
  refine t_done [(.bool false), .undef, .undef, .undef, .undef, .undef, .undef, .undef, .undef, .undef, .undef, .undef, .undef, .undef, .undef] H (by kernel_rfl) ?_
  refine then_norm ?_
  refine w_seq ?_
  refine w_run [1, 1, 1, 1, 0, 0, 0, 1, 0, 1] ?_
  obtain ⟨b0, H1, hb⟩ : ∃ b H', NewB H 1 [(.int .i64 50), (.int .i64 90)] b H' := ⟨_, _, rfl, rfl⟩
  replace h := h b0 H1 hb
  refine t_bs true 1 [(.int .i64 0)] [(0, 1, .loc 0), (1, 1, .loc 1)] 2 [(.int .i64 50), (.int .i64 90)] [(.int .i64 50), (.int .i64 90)] b0 H1 H (by kernel_rfl) (fill_c (vs := [(.int .i64 50)]) (size := 1) rfl (by kernel_rfl) (by kernel_rfl) (fill_c (vs := [(.int .i64 90)]) (size := 1) rfl (by kernel_rfl) (by kernel_rfl) (by kernel_rfl))) hb ?_
  obtain ⟨b2, H3, hb⟩ : ∃ b H', NewB H1 1 [(.int .i64 0)] b H' := ⟨_, _, rfl, rfl⟩
  replace h := h b2 H3 hb
  refine t_bs true 1 [(.int .i64 0)] [(0, 1, .loc 0)] 1 [(.int .i64 0)] [(.int .i64 0)] b2 H3 H1 (by kernel_rfl) (fill_c (vs := [(.int .i64 0)]) (size := 1) rfl (by kernel_rfl) (by kernel_rfl) (by kernel_rfl)) hb ?_
  refine t_build true [(.int .i64 0), .empty] [(0, 1, .loc 0), (1, 1, .loc 1)] [(.int .i64 1), (.slice b2 0 1 (some 1))] [(.int .i64 1), (.slice b2 0 1 (some 1))] H3 (by kernel_rfl) (fill_c (vs := [(.int .i64 1)]) (size := 1) rfl (by kernel_rfl) (by kernel_rfl) (fill_c (vs := [(.slice b2 0 1 (some 1))]) (size := 1) rfl (by kernel_rfl) (by kernel_rfl) (by kernel_rfl))) ?_
  refine t_call true nspeculate_Chance [(.slice b0 0 2 (some 2)), (.agg [(.int .i64 1), (.slice b2 0 1 (some 1))])] H3 (by kernel_rfl) h ?_
  clear h
  rintro _ H7 ⟨r4, r5, r6, rfl, h⟩
  obtain ⟨H9, hb⟩ : ∃ H', Dead1 H7 1 H' := ⟨_, ⟨rfl⟩⟩
  replace h := h H9 hb
  refine t_tomb true 1 (.agg [(.int .i64 0), (.int .i64 0)]) [(.int .i64 0), (.int .i64 0)] H9 H7 (by kernel_rfl) rfl hb ?_
  refine t_upd true 2 0 [(.int .i64 0), (.int .i64 0)] (.agg [(.int .i64 r5), (.int .i64 r6)]) [(.int .i64 r5), (.int .i64 r6)] [(.int .i64 r5), (.int .i64 r6)] H9 (by kernel_rfl) rfl (all_c rfl (all_c rfl all_n)) ⟨rfl, Nat.le_of_ble_eq_true (by kernel_rfl), rfl⟩ ?_
  refine t_done [(.bool false), .undef, (.int .i64 r4), (.agg [(.int .i64 r5), (.int .i64 r6)]), .undef, .undef, .undef, .undef, .undef, .undef, .undef, .undef, .undef, .undef, .undef] H9 (by kernel_rfl) ?_
  refine then_norm ?_
  refine w_seq ?_
  refine w_run [1, 1, 0, 0, 0, 1, 0, 1] ?_
  obtain ⟨b10, H11, hb⟩ : ∃ b H', NewB H9 1 [(.int .i64 100), (.int .i64 100)] b H' := ⟨_, _, rfl, rfl⟩
  replace h := h b10 H11 hb
  refine t_bs true 1 [(.int .i64 0)] [(0, 1, .loc 0), (1, 1, .loc 1)] 2 [(.int .i64 100), (.int .i64 100)] [(.int .i64 100), (.int .i64 100)] b10 H11 H9 (by kernel_rfl) (fill_c (vs := [(.int .i64 100)]) (size := 1) rfl (by kernel_rfl) (by kernel_rfl) (fill_c (vs := [(.int .i64 100)]) (size := 1) rfl (by kernel_rfl) (by kernel_rfl) (by kernel_rfl))) hb ?_
  refine t_call true nspeculate_Plan [(.slice b10 0 2 (some 2)), (.int .i64 2)] H11 (by kernel_rfl) h ?_
  clear h
  rintro _ H15 ⟨r12, r13, r14, rfl, h⟩
  obtain ⟨H17, hb⟩ : ∃ H', Dead1 H15 1 H' := ⟨_, ⟨rfl⟩⟩
  replace h := h H17 hb
  refine t_tomb true 1 (.agg [(.int .i64 0), (.int .i64 0)]) [(.int .i64 0), (.int .i64 0)] H17 H15 (by kernel_rfl) rfl hb ?_
  refine t_upd true 2 0 [(.int .i64 0), (.int .i64 0)] (.agg [(.int .i64 r13), (.int .i64 r14)]) [(.int .i64 r13), (.int .i64 r14)] [(.int .i64 r13), (.int .i64 r14)] H17 (by kernel_rfl) rfl (all_c rfl (all_c rfl all_n)) ⟨rfl, Nat.le_of_ble_eq_true (by kernel_rfl), rfl⟩ ?_
  refine t_done [(.bool false), .undef, (.int .i64 r4), (.agg [(.int .i64 r5), (.int .i64 r6)]), (.agg [(.int .i64 r13), (.int .i64 r14)]), .undef, .undef, .undef, .undef, r12, .undef, .undef, .undef, .undef, .undef] H17 (by kernel_rfl) ?_
  refine then_norm ?_
  refine w_seq ?_
  refine w_run [1, 1, 1, 1, 1, 0] ?_
  refine t_build true [(.int .i64 0), .empty] [(0, 1, .loc 0)] [(.int .i64 0)] [(.int .i64 0), .empty] H17 (by kernel_rfl) (fill_c (vs := [(.int .i64 0)]) (size := 1) rfl (by kernel_rfl) (by kernel_rfl) (by kernel_rfl)) ?_
  refine t_build true [(.int .i64 0), .empty, (.bool false)] [(0, 2, .loc 0)] [(.agg [(.int .i64 0), .empty])] [(.int .i64 0), .empty, (.bool false)] H17 (by kernel_rfl) (fill_c (vs := [(.int .i64 0), .empty]) (size := 2) rfl (by kernel_rfl) (by kernel_rfl) (by kernel_rfl)) ?_
  refine t_build true [(.int .i64 0), .empty] [(0, 1, .loc 0)] [(.int .i64 1)] [(.int .i64 1), .empty] H17 (by kernel_rfl) (fill_c (vs := [(.int .i64 1)]) (size := 1) rfl (by kernel_rfl) (by kernel_rfl) (by kernel_rfl)) ?_
  refine t_build true [(.int .i64 0), .empty, (.bool false)] [(0, 2, .loc 0), (2, 1, .loc 1)] [(.agg [(.int .i64 1), .empty]), (.bool true)] [(.int .i64 1), .empty, (.bool true)] H17 (by kernel_rfl) (fill_c (vs := [(.int .i64 1), .empty]) (size := 2) rfl (by kernel_rfl) (by kernel_rfl) (fill_c (vs := [(.bool true)]) (size := 1) rfl (by kernel_rfl) (by kernel_rfl) (by kernel_rfl))) ?_
  obtain ⟨b18, H19, hb⟩ : ∃ b H', NewB H17 3 [(.int .i64 0), .empty, (.bool false), (.int .i64 1), .empty, (.bool true)] b H' := ⟨_, _, rfl, rfl⟩
  replace h := h b18 H19 hb
  refine t_bs true 3 [(.int .i64 0), .empty, (.bool false)] [(0, 3, .loc 0), (3, 3, .loc 1)] 2 [(.agg [(.int .i64 0), .empty, (.bool false)]), (.agg [(.int .i64 1), .empty, (.bool true)])] [(.int .i64 0), .empty, (.bool false), (.int .i64 1), .empty, (.bool true)] b18 H19 H17 (by kernel_rfl) (fill_c (vs := [(.int .i64 0), .empty, (.bool false)]) (size := 3) rfl (by kernel_rfl) (by kernel_rfl) (fill_c (vs := [(.int .i64 1), .empty, (.bool true)]) (size := 3) rfl (by kernel_rfl) (by kernel_rfl) (by kernel_rfl))) hb ?_
  refine t_done [(.bool false), (.slice b18 0 2 (some 2)), (.int .i64 r4), (.agg [(.int .i64 r5), (.int .i64 r6)]), (.agg [(.int .i64 r13), (.int .i64 r14)]), .undef, .undef, .undef, .undef, r12, .undef, .undef, .undef, .undef, .undef] H19 (by kernel_rfl) ?_
  refine then_norm ?_
  refine w_seq ?_
  refine w_run [0, 1, 0, 0, 0, 0, 1, 0, 0, 1] ?_
  refine t_call true nspeculate_Decide [(.int .i64 2), (.slice b18 0 2 (some 2))] H19 (by kernel_rfl) h ?_
  clear h
  rintro _ H24 ⟨r20, r21, r22, r23, rfl, h⟩
  obtain ⟨H26, hb⟩ : ∃ H', Dead1 H24 1 H' := ⟨_, ⟨rfl⟩⟩
  replace h := h H26 hb
  refine t_tomb true 1 (.agg [(.int .i64 0), (.int .i64 0)]) [(.int .i64 0), (.int .i64 0)] H26 H24 (by kernel_rfl) rfl hb ?_
  refine t_upd true 2 0 [(.int .i64 0), (.int .i64 0)] (.agg [(.int .i64 r22), (.int .i64 r23)]) [(.int .i64 r22), (.int .i64 r23)] [(.int .i64 r22), (.int .i64 r23)] H26 (by kernel_rfl) rfl (all_c rfl (all_c rfl all_n)) ⟨rfl, Nat.le_of_ble_eq_true (by kernel_rfl), rfl⟩ ?_
  refine t_done [(.bool false), (.slice b18 0 2 (some 2)), (.int .i64 r4), (.agg [(.int .i64 r5), (.int .i64 r6)]), (.agg [(.int .i64 r13), (.int .i64 r14)]), (.agg [(.int .i64 r22), (.int .i64 r23)]), .undef, .undef, .undef, r12, r20, r21, .undef, .undef, .undef] H26 (by kernel_rfl) ?_
  refine then_norm ?_
  refine w_seq ?_
  refine w_run [0, 1, 1, 0, 0, 0, 1, 1, 1, 1] ?_
  obtain ⟨s27, hs, h⟩ := h
  refine t_slcH true 3 (.slice b18 0 2 (some 2)) (.int .i64 1) s27 H26 (by kernel_rfl) hs ?_
  refine t_call true nspeculate_Next [(.int .i64 2), s27] H26 (by kernel_rfl) h ?_
  clear h
  rintro _ H32 ⟨r28, r29, r30, r31, rfl, h⟩
  obtain ⟨H34, hb⟩ : ∃ H', Dead1 H32 1 H' := ⟨_, ⟨rfl⟩⟩
  replace h := h H34 hb
  refine t_tomb true 1 (.agg [(.int .i64 0), .empty]) [(.int .i64 0), .empty] H34 H32 (by kernel_rfl) rfl hb ?_
  obtain ⟨H35, hb⟩ : ∃ H', Dead1 H34 1 H' := ⟨_, ⟨rfl⟩⟩
  replace h := h H35 hb
  refine t_tomb true 1 (.agg [(.int .i64 0), (.int .i64 0)]) [(.int .i64 0), (.int .i64 0)] H35 H34 (by kernel_rfl) rfl hb ?_
  obtain ⟨hs36, h⟩ := h
  refine t_upd true 2 0 [(.int .i64 0), .empty] (.agg [(.int .i64 r28), r29]) [(.int .i64 r28), r29] [(.int .i64 r28), r29] H35 (by kernel_rfl) rfl (all_c rfl (all_c hs36.2 all_n)) ⟨rfl, Nat.le_of_ble_eq_true (by kernel_rfl), rfl⟩ ?_
  refine t_upd true 2 0 [(.int .i64 0), (.int .i64 0)] (.agg [(.int .i64 r30), (.int .i64 r31)]) [(.int .i64 r30), (.int .i64 r31)] [(.int .i64 r30), (.int .i64 r31)] H35 (by kernel_rfl) rfl (all_c rfl (all_c rfl all_n)) ⟨rfl, Nat.le_of_ble_eq_true (by kernel_rfl), rfl⟩ ?_
  refine t_done [(.bool false), (.slice b18 0 2 (some 2)), (.int .i64 r4), (.agg [(.int .i64 r5), (.int .i64 r6)]), (.agg [(.int .i64 r13), (.int .i64 r14)]), (.agg [(.int .i64 r22), (.int .i64 r23)]), (.agg [(.int .i64 r30), (.int .i64 r31)]), .undef, .undef, r12, r20, r21, (.agg [(.int .i64 r28), r29]), .undef, .undef] H35 (by kernel_rfl) ?_
  refine then_norm ?_
  refine w_seq ?_
  refine w_run [0, 1, 1, 1, 1, 0, 0, 0, 1, 0, 1] ?_
  obtain ⟨s37, hs, h⟩ := h
  refine t_slcH true 3 (.slice b18 0 2 (some 2)) (.int .i64 1) s37 H35 (by kernel_rfl) hs ?_
  obtain ⟨b38, H39, hb⟩ : ∃ b H', NewB H35 1 [(.int .i64 0)] b H' := ⟨_, _, rfl, rfl⟩
  replace h := h b38 H39 hb
  refine t_bs true 1 [(.int .i64 0)] [(0, 1, .loc 0)] 1 [(.int .i64 0)] [(.int .i64 0)] b38 H39 H35 (by kernel_rfl) (fill_c (vs := [(.int .i64 0)]) (size := 1) rfl (by kernel_rfl) (by kernel_rfl) (by kernel_rfl)) hb ?_
  refine t_build true [(.int .i64 0), .empty] [(0, 1, .loc 0), (1, 1, .loc 1)] [(.int .i64 1), (.slice b38 0 1 (some 1))] [(.int .i64 1), (.slice b38 0 1 (some 1))] H39 (by kernel_rfl) (fill_c (vs := [(.int .i64 1)]) (size := 1) rfl (by kernel_rfl) (by kernel_rfl) (fill_c (vs := [(.slice b38 0 1 (some 1))]) (size := 1) rfl (by kernel_rfl) (by kernel_rfl) (by kernel_rfl))) ?_
  refine t_call true nspeculate_Useful [(.int .i64 2), s37, (.agg [(.int .i64 1), (.slice b38 0 1 (some 1))])] H39 (by kernel_rfl) h ?_
  clear h
  rintro _ H43 ⟨r40, r41, r42, rfl, h⟩
  obtain ⟨H45, hb⟩ : ∃ H', Dead1 H43 1 H' := ⟨_, ⟨rfl⟩⟩
  replace h := h H45 hb
  refine t_tomb true 1 (.agg [(.int .i64 0), (.int .i64 0)]) [(.int .i64 0), (.int .i64 0)] H45 H43 (by kernel_rfl) rfl hb ?_
  refine t_upd true 2 0 [(.int .i64 0), (.int .i64 0)] (.agg [(.int .i64 r41), (.int .i64 r42)]) [(.int .i64 r41), (.int .i64 r42)] [(.int .i64 r41), (.int .i64 r42)] H45 (by kernel_rfl) rfl (all_c rfl (all_c rfl all_n)) ⟨rfl, Nat.le_of_ble_eq_true (by kernel_rfl), rfl⟩ ?_
  refine t_done [(.bool false), (.slice b18 0 2 (some 2)), (.int .i64 r4), (.agg [(.int .i64 r5), (.int .i64 r6)]), (.agg [(.int .i64 r13), (.int .i64 r14)]), (.agg [(.int .i64 r22), (.int .i64 r23)]), (.agg [(.int .i64 r30), (.int .i64 r31)]), (.agg [(.int .i64 r41), (.int .i64 r42)]), .undef, r12, r20, r21, (.agg [(.int .i64 r28), r29]), (.bool r40), .undef] H45 (by kernel_rfl) ?_
  refine then_norm ?_
  refine w_seq ?_
  refine w_run [0, 1, 1, 1, 0, 0, 0, 1, 0, 1] ?_
  obtain ⟨s46, hs, h⟩ := h
  refine t_slcH true 3 (.slice b18 0 2 (some 2)) (.int .i64 1) s46 H45 (by kernel_rfl) hs ?_
  refine t_build true [(.int .i64 0), .empty] [(0, 1, .loc 0)] [(.int .i64 1)] [(.int .i64 1), .empty] H45 (by kernel_rfl) (fill_c (vs := [(.int .i64 1)]) (size := 1) rfl (by kernel_rfl) (by kernel_rfl) (by kernel_rfl)) ?_
  refine t_call true nspeculate_Useful [(.int .i64 2), s46, (.agg [(.int .i64 1), .empty])] H45 (by kernel_rfl) h ?_
  clear h
  rintro _ H50 ⟨r47, r48, r49, rfl, h⟩
  obtain ⟨H52, hb⟩ : ∃ H', Dead1 H50 1 H' := ⟨_, ⟨rfl⟩⟩
  replace h := h H52 hb
  refine t_tomb true 1 (.agg [(.int .i64 0), (.int .i64 0)]) [(.int .i64 0), (.int .i64 0)] H52 H50 (by kernel_rfl) rfl hb ?_
  refine t_upd true 2 0 [(.int .i64 0), (.int .i64 0)] (.agg [(.int .i64 r48), (.int .i64 r49)]) [(.int .i64 r48), (.int .i64 r49)] [(.int .i64 r48), (.int .i64 r49)] H52 (by kernel_rfl) rfl (all_c rfl (all_c rfl all_n)) ⟨rfl, Nat.le_of_ble_eq_true (by kernel_rfl), rfl⟩ ?_
  refine t_done [(.bool false), (.slice b18 0 2 (some 2)), (.int .i64 r4), (.agg [(.int .i64 r5), (.int .i64 r6)]), (.agg [(.int .i64 r13), (.int .i64 r14)]), (.agg [(.int .i64 r22), (.int .i64 r23)]), (.agg [(.int .i64 r30), (.int .i64 r31)]), (.agg [(.int .i64 r41), (.int .i64 r42)]), (.agg [(.int .i64 r48), (.int .i64 r49)]), r12, r20, r21, (.agg [(.int .i64 r28), r29]), (.bool r40), (.bool r47)] H52 (by kernel_rfl) ?_
  refine then_norm ?_
  refine w_seq ?_
  refine w_run [0, 0, 0, 0, 0, 0, 0, 0, 0, 0, 0, 0, 0, 0, 0, 0, 0, 0, 0, 0, 0, 0, 0, 0, 0, 0, 0, 0, 0, 0, 0, 0, 0, 0, 1, 0, 0, 0, 0, 3, 3, 3, 3, 3, 0, 0, 0, 3, 3, 0, 0, 0, 3, 3, 0, 0, 0, 1, 3, 0, 0, 0, 0, 0, 0, 0, 0, 0] ?_
  obtain ⟨len53, hl, h⟩ := h
  refine t_len true r12 len53 H52 (by kernel_rfl) hl ?_
  refine t_gd (((((((((r4) == 5000) && ((r5) == 0)) && ((r13) == 0)) && ((r22) == 0)) && ((r30) == 0)) && ((r41) == 0)) && ((r48) == 0)) && (((len53 : Int)) == 2)) true (by kernel_rfl) (fun hc => ?_) (fun hc => ?_)
  · replace h := h.1 ((is_and (is_and (is_and (is_and (is_and (is_and (is_and is_eq is_eq) is_eq) is_eq) is_eq) is_eq) is_eq) is_eq).t hc)
    obtain ⟨e54, e55, hg56, h⟩ := h
    refine t_idxG true 2 r12 .i64 1 H52 (by kernel_rfl) hg56 ?_
    refine t_gd true true (by kernel_rfl) (fun _ => ?_) (fun hn => by cases hn)
    refine t_loadG true (some 2) 2 r12 1 0 (.agg [(.int .i64 e54), e55]) H52 (by kernel_rfl) hg56 ?_
    refine t_gd true true (by kernel_rfl) (fun _ => ?_) (fun hn => by cases hn)
    obtain ⟨b57, H58, hb⟩ : ∃ b H', NewB H52 1 [(.int .i64 0)] b H' := ⟨_, _, rfl, rfl⟩
    replace h := h b57 H58 hb
    refine t_bs true 1 [(.int .i64 0)] [(0, 1, .loc 0)] 1 [(.int .i64 0)] [(.int .i64 0)] b57 H58 H52 (by kernel_rfl) (fill_c (vs := [(.int .i64 0)]) (size := 1) rfl (by kernel_rfl) (by kernel_rfl) (by kernel_rfl)) hb ?_
    refine t_gd true true (by kernel_rfl) (fun _ => ?_) (fun hn => by cases hn)
    refine t_build true [(.int .i64 0), .empty] [(0, 1, .loc 0), (1, 1, .loc 1)] [(.int .i64 1), (.slice b57 0 1 (some 1))] [(.int .i64 1), (.slice b57 0 1 (some 1))] H58 (by kernel_rfl) (fill_c (vs := [(.int .i64 1)]) (size := 1) rfl (by kernel_rfl) (by kernel_rfl) (fill_c (vs := [(.slice b57 0 1 (some 1))]) (size := 1) rfl (by kernel_rfl) (by kernel_rfl) (by kernel_rfl))) ?_
    refine t_gd true true (by kernel_rfl) (fun _ => ?_) (fun hn => by cases hn)
    refine t_call true nFEqualRuns [(.agg [(.int .i64 e54), e55]), (.agg [(.int .i64 1), (.slice b57 0 1 (some 1))])] H58 (by kernel_rfl) h ?_
    clear h
    rintro _ H60 ⟨r59, rfl, h⟩
    refine t_gd r59 true (by kernel_rfl) (fun hc => ?_) (fun hc => ?_)
    · replace h := h.1 (is_raw.t hc)
      obtain ⟨b62, H63, hb⟩ : ∃ b H', NewB H60 1 [(.int .i64 1)] b H' := ⟨_, _, rfl, rfl⟩
      replace h := h b62 H63 hb
      refine t_bs true 1 [(.int .i64 0)] [(0, 1, .loc 0)] 1 [(.int .i64 1)] [(.int .i64 1)] b62 H63 H60 (by kernel_rfl) (fill_c (vs := [(.int .i64 1)]) (size := 1) rfl (by kernel_rfl) (by kernel_rfl) (by kernel_rfl)) hb ?_
      refine t_gd true true (by kernel_rfl) (fun _ => ?_) (fun hn => by cases hn)
      refine t_call true nFEqualInts [r20, (.slice b62 0 1 (some 1))] H63 (by kernel_rfl) h ?_
      clear h
      rintro _ H65 ⟨r64, rfl, h⟩
      refine t_gd r64 true (by kernel_rfl) (fun hc => ?_) (fun hc => ?_)
      · replace h := h.1 (is_raw.t hc)
        obtain ⟨b67, H68, hb⟩ : ∃ b H', NewB H65 1 [(.int .i64 0)] b H' := ⟨_, _, rfl, rfl⟩
        replace h := h b67 H68 hb
        refine t_bs true 1 [(.int .i64 0)] [(0, 1, .loc 0)] 1 [(.int .i64 0)] [(.int .i64 0)] b67 H68 H65 (by kernel_rfl) (fill_c (vs := [(.int .i64 0)]) (size := 1) rfl (by kernel_rfl) (by kernel_rfl) (by kernel_rfl)) hb ?_
        refine t_gd true true (by kernel_rfl) (fun _ => ?_) (fun hn => by cases hn)
        refine t_call true nFEqualInts [r21, (.slice b67 0 1 (some 1))] H68 (by kernel_rfl) h ?_
        clear h
        rintro _ H70 ⟨r69, rfl, h⟩
        refine t_build true [(.int .i64 0), .empty] [(0, 1, .loc 0)] [(.int .i64 1)] [(.int .i64 1), .empty] H70 (by kernel_rfl) (fill_c (vs := [(.int .i64 1)]) (size := 1) rfl (by kernel_rfl) (by kernel_rfl) (by kernel_rfl)) ?_
        refine t_gd r69 true (by kernel_rfl) (fun hc => ?_) (fun hc => ?_)
        · replace h := h.1 (is_raw.t hc)
          refine t_call true nFEqualRuns [(.agg [(.int .i64 r28), r29]), (.agg [(.int .i64 1), .empty])] H70 (by kernel_rfl) h ?_
          clear h
          rintro _ H73 ⟨r72, rfl, h⟩
          refine t_done [(.bool ((r72 && (!r40)) && r47)), (.slice b18 0 2 (some 2)), (.int .i64 r4), (.agg [(.int .i64 r5), (.int .i64 r6)]), (.agg [(.int .i64 r13), (.int .i64 r14)]), (.agg [(.int .i64 r22), (.int .i64 r23)]), (.agg [(.int .i64 r30), (.int .i64 r31)]), (.agg [(.int .i64 r41), (.int .i64 r42)]), (.agg [(.int .i64 r48), (.int .i64 r49)]), r12, r20, r21, (.agg [(.int .i64 r28), r29]), (.bool r40), (.bool r47)] H73 (by kernel_rfl) ?_
          refine then_norm ?_
          refine w_ret ?_
          exact body_ret (vs := [(.bool ((r72 && (!r40)) && r47))]) _ (by kernel_rfl) rfl h
        · replace h := h.2 (is_raw.f hc)
          refine t_done [(.bool false), (.slice b18 0 2 (some 2)), (.int .i64 r4), (.agg [(.int .i64 r5), (.int .i64 r6)]), (.agg [(.int .i64 r13), (.int .i64 r14)]), (.agg [(.int .i64 r22), (.int .i64 r23)]), (.agg [(.int .i64 r30), (.int .i64 r31)]), (.agg [(.int .i64 r41), (.int .i64 r42)]), (.agg [(.int .i64 r48), (.int .i64 r49)]), r12, r20, r21, (.agg [(.int .i64 r28), r29]), (.bool r40), (.bool r47)] H70 (by kernel_rfl) ?_
          refine then_norm ?_
          refine w_ret ?_
          exact body_ret (vs := [(.bool false)]) _ (by kernel_rfl) rfl h
      · replace h := h.2 (is_raw.f hc)
        refine t_gd false true (by kernel_rfl) (fun hn => by cases hn) (fun _ => ?_)
        refine t_build true [(.int .i64 0), .empty] [(0, 1, .loc 0)] [(.int .i64 1)] [(.int .i64 1), .empty] H65 (by kernel_rfl) (fill_c (vs := [(.int .i64 1)]) (size := 1) rfl (by kernel_rfl) (by kernel_rfl) (by kernel_rfl)) ?_
        refine t_gd false true (by kernel_rfl) (fun hn => by cases hn) (fun _ => ?_)
        refine t_done [(.bool false), (.slice b18 0 2 (some 2)), (.int .i64 r4), (.agg [(.int .i64 r5), (.int .i64 r6)]), (.agg [(.int .i64 r13), (.int .i64 r14)]), (.agg [(.int .i64 r22), (.int .i64 r23)]), (.agg [(.int .i64 r30), (.int .i64 r31)]), (.agg [(.int .i64 r41), (.int .i64 r42)]), (.agg [(.int .i64 r48), (.int .i64 r49)]), r12, r20, r21, (.agg [(.int .i64 r28), r29]), (.bool r40), (.bool r47)] H65 (by kernel_rfl) ?_
        refine then_norm ?_
        refine w_ret ?_
        exact body_ret (vs := [(.bool false)]) _ (by kernel_rfl) rfl h
    · replace h := h.2 (is_raw.f hc)
      refine t_gd false true (by kernel_rfl) (fun hn => by cases hn) (fun _ => ?_)
      refine t_gd false true (by kernel_rfl) (fun hn => by cases hn) (fun _ => ?_)
      refine t_gd false true (by kernel_rfl) (fun hn => by cases hn) (fun _ => ?_)
      refine t_build true [(.int .i64 0), .empty] [(0, 1, .loc 0)] [(.int .i64 1)] [(.int .i64 1), .empty] H60 (by kernel_rfl) (fill_c (vs := [(.int .i64 1)]) (size := 1) rfl (by kernel_rfl) (by kernel_rfl) (by kernel_rfl)) ?_
      refine t_gd false true (by kernel_rfl) (fun hn => by cases hn) (fun _ => ?_)
      refine t_done [(.bool false), (.slice b18 0 2 (some 2)), (.int .i64 r4), (.agg [(.int .i64 r5), (.int .i64 r6)]), (.agg [(.int .i64 r13), (.int .i64 r14)]), (.agg [(.int .i64 r22), (.int .i64 r23)]), (.agg [(.int .i64 r30), (.int .i64 r31)]), (.agg [(.int .i64 r41), (.int .i64 r42)]), (.agg [(.int .i64 r48), (.int .i64 r49)]), r12, r20, r21, (.agg [(.int .i64 r28), r29]), (.bool r40), (.bool r47)] H60 (by kernel_rfl) ?_
      refine then_norm ?_
      refine w_ret ?_
      exact body_ret (vs := [(.bool false)]) _ (by kernel_rfl) rfl h
  · replace h := h.2 ((is_and (is_and (is_and (is_and (is_and (is_and (is_and is_eq is_eq) is_eq) is_eq) is_eq) is_eq) is_eq) is_eq).f hc)
    refine t_gd false true (by kernel_rfl) (fun hn => by cases hn) (fun _ => ?_)
    refine t_gd false true (by kernel_rfl) (fun hn => by cases hn) (fun _ => ?_)
    refine t_gd false true (by kernel_rfl) (fun hn => by cases hn) (fun _ => ?_)
    refine t_gd false true (by kernel_rfl) (fun hn => by cases hn) (fun _ => ?_)
    refine t_gd false true (by kernel_rfl) (fun hn => by cases hn) (fun _ => ?_)
    refine t_gd false true (by kernel_rfl) (fun hn => by cases hn) (fun _ => ?_)
    refine t_gd false true (by kernel_rfl) (fun hn => by cases hn) (fun _ => ?_)
    refine t_gd false true (by kernel_rfl) (fun hn => by cases hn) (fun _ => ?_)
    refine t_build true [(.int .i64 0), .empty] [(0, 1, .loc 0)] [(.int .i64 1)] [(.int .i64 1), .empty] H52 (by kernel_rfl) (fill_c (vs := [(.int .i64 1)]) (size := 1) rfl (by kernel_rfl) (by kernel_rfl) (by kernel_rfl)) ?_
    refine t_gd false true (by kernel_rfl) (fun hn => by cases hn) (fun _ => ?_)
    refine t_done [(.bool false), (.slice b18 0 2 (some 2)), (.int .i64 r4), (.agg [(.int .i64 r5), (.int .i64 r6)]), (.agg [(.int .i64 r13), (.int .i64 r14)]), (.agg [(.int .i64 r22), (.int .i64 r23)]), (.agg [(.int .i64 r30), (.int .i64 r31)]), (.agg [(.int .i64 r41), (.int .i64 r42)]), (.agg [(.int .i64 r48), (.int .i64 r49)]), r12, r20, r21, (.agg [(.int .i64 r28), r29]), (.bool r40), (.bool r47)] H52 (by kernel_rfl) ?_
    refine then_norm ?_
    refine w_ret ?_
    exact body_ret (vs := [(.bool false)]) _ (by kernel_rfl) rfl h

def rf_LSpeculatePlanMatchesSpec (nspeculate_Chance nspeculate_Plan nLspeculateExample nFPercentsFault nFRunCode nFFault nFChance nFRunOf nFBefore : Nat) : RFunc := ⟨3, 29, [.var 3],
 ((.seq (.ops [⟨.tomb 1 (.var 1), none, (some 4), true⟩, ⟨.move (.k (.bool false)), none, (some 3), true⟩])
 ((.seq (.ops [⟨.move (.var 0), none, none, true⟩, ⟨.field 0 (some 2) (.var 4), none, none, true⟩, ⟨.callS nspeculate_Chance [(.loc 0), (.loc 1)], none, none, true⟩, ⟨.move (.loc 2), none, none, true⟩, ⟨.extract (.loc 3) 0, none, none, true⟩, ⟨.extract (.loc 3) 1, none, none, true⟩, ⟨.tomb 1 (.k (.agg [.int .i64 0, .int .i64 0])), none, (some 10), true⟩, ⟨.move (.loc 4), none, (some 11), true⟩, ⟨.upd 2 0 (.loc 6) (.loc 5), none, (some 10), true⟩])
 ((.seq (.ops [⟨.move (.var 0), none, none, true⟩, ⟨.move (.var 2), none, none, true⟩, ⟨.callS nspeculate_Plan [(.loc 0), (.loc 1)], none, none, true⟩, ⟨.move (.loc 2), none, none, true⟩, ⟨.extract (.loc 3) 0, none, none, true⟩, ⟨.extract (.loc 3) 1, none, none, true⟩, ⟨.tomb 1 (.k (.agg [.int .i64 0, .int .i64 0])), none, (some 14), true⟩, ⟨.move (.loc 4), none, (some 15), true⟩, ⟨.upd 2 0 (.loc 6) (.loc 5), none, (some 14), true⟩])
 ((.seq ((.seq (.ops [⟨.callS nLspeculateExample [], none, none, true⟩, ⟨.un .not (.loc 0), none, (some 5), true⟩])
 (.cond (.var 5) ((.seq (.ops [⟨.move (.k (.bool false)), none, (some 3), true⟩])
 (.ret))) (.skip))))
 ((.seq (.ops [⟨.move (.var 0), none, none, true⟩, ⟨.callS nFPercentsFault [(.loc 0)], none, none, true⟩, ⟨.tomb 1 (.k (.agg [.int .i64 0, .int .i64 0])), none, (some 6), true⟩, ⟨.upd 2 0 (.loc 2) (.loc 1), none, (some 6), true⟩])
 ((.seq (.ops [⟨.field 0 (some 2) (.var 6), none, none, true⟩, ⟨.tomb 1 (.k (.agg [.int .i64 0, .int .i64 0])), none, (some 8), true⟩, ⟨.upd 2 0 (.loc 1) (.loc 0), none, (some 8), true⟩])
 ((.seq ((.seq (.ops [⟨.field 0 none (.var 6), none, none, true⟩, ⟨.field 0 none (.var 6), none, none, true⟩, ⟨.bin .eql .no (.loc 1) (.k (.int .i64 0)), none, none, true⟩, ⟨.move (.loc 2), none, none, true⟩, ⟨.move (.var 0), none, none, true⟩, ⟨.len (.loc 4), none, none, true⟩, ⟨.field 0 (some 2) (.var 4), none, none, true⟩, ⟨.callS nFRunCode [(.loc 5), (.loc 6)], (some (3, true)), none, true⟩, ⟨.bin .neq .no (.loc 7) (.k (.int .i64 0)), (some (3, true)), none, true⟩, ⟨.pick (.loc 3) (.loc 8) (.k (.bool false)), none, (some 7), true⟩])
 (.cond (.var 7) (.ops [⟨.move (.var 0), none, none, true⟩, ⟨.len (.loc 0), none, none, true⟩, ⟨.field 0 (some 2) (.var 4), none, none, true⟩, ⟨.callS nFRunCode [(.loc 1), (.loc 2)], none, none, true⟩, ⟨.callS nFFault [(.loc 3), (.k (.int .i64 (-2)))], none, none, true⟩, ⟨.upd 2 0 (.var 6) (.loc 4), none, (some 6), true⟩]) (.skip))))
 ((.seq ((.seq (.ops [⟨.field 0 none (.var 8), none, none, true⟩, ⟨.field 0 none (.var 8), none, none, true⟩, ⟨.bin .eql .no (.loc 1) (.k (.int .i64 0)), none, none, true⟩, ⟨.move (.loc 2), none, none, true⟩, ⟨.move (.var 2), none, none, true⟩, ⟨.bin .lss .no (.loc 4) (.k (.int .i64 0)), none, none, true⟩, ⟨.move (.loc 5), none, none, true⟩, ⟨.move (.var 2), none, none, true⟩, ⟨.bin .gtr .no (.loc 7) (.k (.int .i64 16)), none, none, true⟩, ⟨.pick (.loc 6) (.k (.bool true)) (.loc 8), none, none, true⟩, ⟨.pick (.loc 3) (.loc 9) (.k (.bool false)), none, (some 9), true⟩])
 (.cond (.var 9) (.ops [⟨.callS nFFault [(.k (.int .i64 3)), (.k (.int .i64 (-2)))], none, none, true⟩, ⟨.upd 2 0 (.var 8) (.loc 0), none, (some 8), true⟩]) (.skip))))
 ((.seq ((.seq (.ops [⟨.field 0 none (.var 6), none, none, true⟩, ⟨.field 0 none (.var 6), none, none, true⟩, ⟨.bin .neq .no (.loc 1) (.k (.int .i64 0)), none, none, true⟩, ⟨.move (.loc 2), none, none, true⟩, ⟨.field 0 (some 2) (.var 10), (some (3, true)), none, true⟩, ⟨.field 0 (some 2) (.var 6), (some (3, true)), none, true⟩, ⟨.bin .neq (.agg [.int, .int]) (.loc 4) (.loc 5), (some (3, true)), none, true⟩, ⟨.move (.loc 6), (some (3, true)), none, true⟩, ⟨.move (.var 11), (some (7, false)), none, true⟩, ⟨.bin .neq .no (.loc 8) (.k (.int .i64 0)), (some (7, false)), none, true⟩, ⟨.pick (.loc 7) (.k (.bool true)) (.loc 9), (some (3, true)), none, true⟩, ⟨.pick (.loc 3) (.loc 10) (.k (.bool false)), none, none, true⟩, ⟨.move (.loc 11), none, none, true⟩, ⟨.field 0 none (.var 6), (some (12, false)), none, true⟩, ⟨.field 0 none (.var 6), (some (12, false)), none, true⟩, ⟨.bin .eql .no (.loc 14) (.k (.int .i64 0)), (some (12, false)), none, true⟩, ⟨.move (.loc 15), (some (12, false)), none, true⟩, ⟨.field 0 none (.var 10), (some (16, true)), none, true⟩, ⟨.field 0 none (.var 10), (some (16, true)), none, true⟩, ⟨.bin .neq .no (.loc 18) (.k (.int .i64 0)), (some (16, true)), none, true⟩, ⟨.move (.loc 19), (some (16, true)), none, true⟩, ⟨.move (.var 11), (some (20, false)), none, true⟩, ⟨.move (.var 0), (some (20, false)), none, true⟩, ⟨.field 0 (some 2) (.var 4), (some (20, false)), none, true⟩, ⟨.callS nFChance [(.loc 22), (.loc 23)], (some (20, false)), none, true⟩, ⟨.bin .neq .no (.loc 21) (.loc 24), (some (20, false)), none, true⟩, ⟨.pick (.loc 20) (.k (.bool true)) (.loc 25), (some (16, true)), none, true⟩, ⟨.pick (.loc 16) (.loc 26) (.k (.bool false)), (some (12, false)), none, true⟩, ⟨.pick (.loc 12) (.k (.bool true)) (.loc 27), none, (some 12), true⟩])
 (.cond (.var 12) ((.seq (.ops [⟨.move (.k (.bool false)), none, (some 3), true⟩])
 (.ret))) (.skip))))
 ((.seq ((.seq (.ops [⟨.field 0 none (.var 8), none, none, true⟩, ⟨.field 0 none (.var 8), none, none, true⟩, ⟨.bin .neq .no (.loc 1) (.k (.int .i64 0)), none, (some 13), true⟩])
 (.cond (.var 13) ((.seq (.ops [⟨.field 0 (some 2) (.var 14), none, none, true⟩, ⟨.field 0 (some 2) (.var 8), none, none, true⟩, ⟨.bin .eql (.agg [.int, .int]) (.loc 0) (.loc 1), none, none, true⟩, ⟨.move (.loc 2), none, none, true⟩, ⟨.move (.var 15), none, none, true⟩, ⟨.len (.loc 4), none, none, true⟩, ⟨.bin .eql .no (.loc 5) (.k (.int .i64 0)), none, none, true⟩, ⟨.pick (.loc 3) (.loc 6) (.k (.bool false)), none, none, true⟩, ⟨.move (.loc 7), none, (some 3), true⟩])
 (.ret))) (.skip))))
 ((.seq ((.seq (.ops [⟨.field 0 none (.var 14), none, none, true⟩, ⟨.field 0 none (.var 14), none, none, true⟩, ⟨.bin .neq .no (.loc 1) (.k (.int .i64 0)), none, none, true⟩, ⟨.move (.loc 2), none, none, true⟩, ⟨.move (.var 15), none, none, true⟩, ⟨.len (.loc 4), none, none, true⟩, ⟨.move (.var 2), none, none, true⟩, ⟨.bin .gtr .no (.loc 5) (.loc 6), none, none, true⟩, ⟨.pick (.loc 3) (.k (.bool true)) (.loc 7), none, (some 16), true⟩])
 (.cond (.var 16) ((.seq (.ops [⟨.move (.k (.bool false)), none, (some 3), true⟩])
 (.ret))) (.skip))))
 ((.seq (.ops [⟨.move (.k (.int .i64 0)), none, (some 23), true⟩])
 ((.seq (.ops [⟨.move (.k (.int .i64 0)), none, (some 25), true⟩])
 ((.seq ((.seq (.ops [⟨.move (.k (.int .i64 0)), none, (some 17), true⟩])
 (.block 0 (.loop ((.seq ((.seq (.ops [⟨.move (.var 17), none, none, true⟩, ⟨.move (.var 0), none, none, true⟩, ⟨.len (.loc 1), none, none, true⟩, ⟨.bin .lss .no (.loc 0) (.loc 2), none, (some 18), true⟩])
 (.cond (.var 18) (.skip) (.exit 0))))
 ((.seq (.block 1 ((.seq (.ops [⟨.move (.k (.int .i64 0)), none, (some 19), true⟩])
 (.block 2 (.loop ((.seq ((.seq (.ops [⟨.move (.var 19), none, none, true⟩, ⟨.move (.var 17), none, none, true⟩, ⟨.bin .shl .no (.k (.int .i64 1)) (.loc 1), none, none, true⟩, ⟨.bin .lss .no (.loc 0) (.loc 2), none, (some 20), true⟩])
 (.cond (.var 20) (.skip) (.exit 2))))
 ((.seq (.block 3 ((.seq (.ops [⟨.move (.var 17), none, none, true⟩, ⟨.move (.var 19), none, none, true⟩, ⟨.callS nFRunOf [(.loc 0), (.loc 1)], none, none, true⟩, ⟨.tomb 1 (.k (.agg [.int .i64 0, .empty])), none, (some 21), true⟩, ⟨.upd 2 0 (.loc 3) (.loc 2), none, (some 21), true⟩])
 ((.seq ((.seq (.ops [⟨.move (.var 0), none, none, true⟩, ⟨.field 0 (some 2) (.var 21), none, none, true⟩, ⟨.callS nFChance [(.loc 0), (.loc 1)], none, none, true⟩, ⟨.bin .eql .no (.loc 2) (.k (.int .i64 0)), none, (some 22), true⟩])
 (.cond (.var 22) (.exit 3) (.skip))))
 ((.seq (.ops [⟨.move (.var 23), none, none, true⟩, ⟨.bin .add .no (.loc 0) (.k (.int .i64 1)), none, none, true⟩, ⟨.move (.loc 1), none, (some 23), true⟩])
 ((.seq (.ops [⟨.move (.var 15), none, none, true⟩, ⟨.len (.loc 0), none, none, true⟩, ⟨.bin .gtr .no (.loc 1) (.k (.int .i64 0)), none, none, true⟩, ⟨.move (.loc 2), none, none, true⟩, ⟨.move (.var 0), none, none, false⟩, ⟨.field 0 (some 2) (.var 21), none, none, false⟩, ⟨.move (.var 15), none, none, false⟩, ⟨.move (.var 15), none, none, false⟩, ⟨.len (.loc 7), none, none, false⟩, ⟨.bin .sub .no (.loc 8) (.k (.int .i64 1)), none, none, false⟩, ⟨.indexAddr 2 (.loc 6) (.loc 9), (some (3, true)), none, false⟩, ⟨.load (some 2) (.loc 10), (some (3, true)), none, false⟩, ⟨.callS nFBefore [(.loc 4), (.loc 5), (.loc 11)], (some (3, true)), none, true⟩, ⟨.pick (.loc 3) (.loc 12) (.k (.bool false)), none, (some 24), true⟩])
 (.cond (.var 24) (.ops [⟨.move (.var 25), none, none, true⟩, ⟨.bin .add .no (.loc 0) (.k (.int .i64 1)), none, none, true⟩, ⟨.move (.loc 1), none, (some 25), true⟩]) (.skip)))))))))))
 (.ops [⟨.move (.var 19), none, none, true⟩, ⟨.bin .add .no (.loc 0) (.k (.int .i64 1)), none, none, true⟩, ⟨.move (.loc 1), none, (some 19), true⟩]))))))))))
 (.ops [⟨.move (.var 17), none, none, true⟩, ⟨.bin .add .no (.loc 0) (.k (.int .i64 1)), none, none, true⟩, ⟨.move (.loc 1), none, (some 17), true⟩])))))))))
 ((.seq ((.seq (.ops [⟨.move (.k (.int .i64 0)), none, (some 26), true⟩])
 (.block 4 (.loop ((.seq ((.seq (.ops [⟨.move (.var 26), none, none, true⟩, ⟨.move (.var 15), none, none, true⟩, ⟨.len (.loc 1), none, none, true⟩, ⟨.bin .lss .no (.loc 0) (.loc 2), none, (some 27), true⟩])
 (.cond (.var 27) (.skip) (.exit 4))))
 ((.seq (.block 5 ((.seq (.ops [⟨.move (.var 0), none, none, false⟩, ⟨.len (.loc 0), none, none, false⟩, ⟨.move (.var 15), none, none, true⟩, ⟨.move (.var 26), none, none, true⟩, ⟨.indexAddr 2 (.loc 2) (.loc 3), none, none, true⟩, ⟨.load (some 2) (.loc 4), none, none, true⟩, ⟨.callS nFRunCode [(.loc 1), (.loc 5)], none, none, true⟩, ⟨.bin .neq .no (.loc 6) (.k (.int .i64 0)), none, none, true⟩, ⟨.move (.loc 7), none, none, true⟩, ⟨.move (.var 0), (some (8, false)), none, false⟩, ⟨.move (.var 15), (some (8, false)), none, true⟩, ⟨.move (.var 26), (some (8, false)), none, true⟩, ⟨.indexAddr 2 (.loc 10) (.loc 11), (some (8, false)), none, true⟩, ⟨.load (some 2) (.loc 12), (some (8, false)), none, true⟩, ⟨.callS nFChance [(.loc 9), (.loc 13)], (some (8, false)), none, true⟩, ⟨.bin .eql .no (.loc 14) (.k (.int .i64 0)), (some (8, false)), none, true⟩, ⟨.pick (.loc 8) (.k (.bool true)) (.loc 15), none, none, true⟩, ⟨.move (.loc 16), none, none, true⟩, ⟨.move (.var 26), (some (17, false)), none, true⟩, ⟨.bin .gtr .no (.loc 18) (.k (.int .i64 0)), (some (17, false)), none, true⟩, ⟨.move (.loc 19), (some (17, false)), none, true⟩, ⟨.move (.var 0), (some (20, true)), none, false⟩, ⟨.move (.var 15), (some (20, true)), none, false⟩, ⟨.move (.var 26), (some (20, true)), none, false⟩, ⟨.bin .sub .no (.loc 23) (.k (.int .i64 1)), (some (20, true)), none, false⟩, ⟨.indexAddr 2 (.loc 22) (.loc 24), (some (20, true)), none, false⟩, ⟨.load (some 2) (.loc 25), (some (20, true)), none, false⟩, ⟨.move (.var 15), (some (20, true)), none, false⟩, ⟨.move (.var 26), (some (20, true)), none, false⟩, ⟨.indexAddr 2 (.loc 27) (.loc 28), (some (20, true)), none, false⟩, ⟨.load (some 2) (.loc 29), (some (20, true)), none, false⟩, ⟨.callS nFBefore [(.loc 21), (.loc 26), (.loc 30)], (some (20, true)), none, true⟩, ⟨.un .not (.loc 31), (some (20, true)), none, true⟩, ⟨.pick (.loc 20) (.loc 32) (.k (.bool false)), (some (17, false)), none, true⟩, ⟨.pick (.loc 17) (.k (.bool true)) (.loc 33), none, (some 28), true⟩])
 (.cond (.var 28) ((.seq (.ops [⟨.move (.k (.bool false)), none, (some 3), true⟩])
 (.ret))) (.skip)))))
 (.ops [⟨.move (.var 26), none, none, true⟩, ⟨.bin .add .no (.loc 0) (.k (.int .i64 1)), none, none, true⟩, ⟨.move (.loc 1), none, (some 26), true⟩])))))))))
 ((.seq (.ops [⟨.move (.var 15), none, none, true⟩, ⟨.len (.loc 0), none, none, true⟩, ⟨.move (.var 2), none, none, true⟩, ⟨.move (.var 23), none, none, true⟩, ⟨.min (.loc 2) [(.loc 3)], none, none, true⟩, ⟨.bin .eql .no (.loc 1) (.loc 4), none, none, true⟩, ⟨.move (.loc 5), none, none, true⟩, ⟨.move (.var 15), none, none, true⟩, ⟨.len (.loc 7), none, none, true⟩, ⟨.bin .eql .no (.loc 8) (.k (.int .i64 0)), none, none, true⟩, ⟨.move (.loc 9), none, none, true⟩, ⟨.move (.var 25), none, none, true⟩, ⟨.move (.var 15), none, none, true⟩, ⟨.len (.loc 12), none, none, true⟩, ⟨.bin .sub .no (.loc 13) (.k (.int .i64 1)), none, none, true⟩, ⟨.bin .eql .no (.loc 11) (.loc 14), none, none, true⟩, ⟨.pick (.loc 10) (.k (.bool true)) (.loc 15), none, none, true⟩, ⟨.pick (.loc 6) (.loc 16) (.k (.bool false)), none, none, true⟩, ⟨.move (.loc 17), none, (some 3), true⟩])
 (.ret))))))))))))))))))))))))))))))))), none⟩
theorem v_LSpeculatePlanMatchesSpec {F : Nat → Option RFunc} {me nspeculate_Chance nspeculate_Plan nLspeculateExample nFPercentsFault nFRunCode nFFault nFChance nFRunOf nFBefore : Nat} (hF : F me = some (rf_LSpeculatePlanMatchesSpec nspeculate_Chance nspeculate_Plan nLspeculateExample nFPercentsFault nFRunCode nFFault nFChance nFRunOf nFBefore)) {fl : Nat} {H : Heap} {Q : AV → Heap → Prop} (percents0 : AV) (r1 : Int) (r2 : AV) (budget3 : Int)
  (h : ∀ (H4 : Heap), Dead1 H 1 H4 → Ret F fl nspeculate_Chance [percents0, (.agg [(.int .i64 r1), r2])] H4 (fun v9 H8 => ∃ (r5 : Int) (r6 : Int) (r7 : Int), v9 = (.tuple [(.int .i64 r5), (.agg [(.int .i64 r6), (.int .i64 r7)])]) ∧ ∀ (H10 : Heap), Dead1 H8 1 H10 → Ret F fl nspeculate_Plan [percents0, (.int .i64 budget3)] H10 (fun v15 H14 => ∃ (r11 : AV) (r12 : Int) (r13 : Int), v15 = (.tuple [r11, (.agg [(.int .i64 r12), (.int .i64 r13)])]) ∧ ∀ (H16 : Heap), Dead1 H14 1 H16 → Ret F fl nLspeculateExample [] H16 (fun v19 H18 => ∃ (r17 : Bool), v19 = (.bool r17) ∧ ((¬(r17 = true)) → Q (.bool false) H18) ∧ (¬(¬(r17 = true)) → Ret F fl nFPercentsFault [percents0] H18 (fun v23 H22 => ∃ (r20 : Int) (r21 : Int), v23 = (.agg [(.int .i64 r20), (.int .i64 r21)]) ∧ ∀ (H24 : Heap), Dead1 H22 1 H24 → ∀ (H25 : Heap), Dead1 H24 1 H25 → ∃ (R26 : Int → Int → Heap → Prop), (∃ len31 : Nat, lenA percents0 = some len31 ∧ ((r20 = 0) → Ret F fl nFRunCode [(.int .i64 (len31 : Int)), (.agg [(.int .i64 r1), r2])] H25 (fun v34 H33 => ∃ (r32 : Int), v34 = (.int .i64 r32) ∧ ((r32 ≠ 0) → ∃ len35 : Nat, lenA percents0 = some len35 ∧ Ret F fl nFRunCode [(.int .i64 (len35 : Int)), (.agg [(.int .i64 r1), r2])] H33 (fun v38 H37 => ∃ (r36 : Int), v38 = (.int .i64 r36) ∧ Ret F fl nFFault [(.int .i64 r36), (.int .i64 (-2))] H37 (fun v42 H41 => ∃ (r39 : Int) (r40 : Int), v42 = (.agg [(.int .i64 r39), (.int .i64 r40)]) ∧ R26 r39 r40 H41))) ∧ (¬(r32 ≠ 0) → R26 r20 r21 H33))) ∧ (¬(r20 = 0) → R26 r20 r21 H25)) ∧ (∀ (v27 : Int) (v28 : Int) (H30 : Heap), R26 v27 v28 H30 → ∃ (R43 : Int → Int → Heap → Prop), (((((r20 = 0) ∧ (((budget3 < 0) ∨ (budget3 > 16))))) → Ret F fl nFFault [(.int .i64 3), (.int .i64 (-2))] H30 (fun v51 H50 => ∃ (r48 : Int) (r49 : Int), v51 = (.agg [(.int .i64 r48), (.int .i64 r49)]) ∧ R43 r48 r49 H50)) ∧ (¬(((r20 = 0) ∧ (((budget3 < 0) ∨ (budget3 > 16))))) → R43 r20 r21 H30)) ∧ (∀ (w44 : Int) (w45 : Int) (H47 : Heap), R43 w44 w45 H47 → ∃ (R52 : Heap → Prop), (((v27 ≠ 0) → ((¬(((r6 = v27) ∧ (((r7 = v28) ∧ (True)))))) → Q (.bool false) H47) ∧ (¬(¬(((r6 = v27) ∧ (((r7 = v28) ∧ (True)))))) → ((r5 ≠ 0) → Q (.bool false) H47) ∧ (¬(r5 ≠ 0) → ((v27 = 0) → ((r6 ≠ 0) → Q (.bool false) H47) ∧ (¬(r6 ≠ 0) → Ret F fl nFChance [percents0, (.agg [(.int .i64 r1), r2])] H47 (fun v58 H57 => ∃ (r56 : Int), v58 = (.int .i64 r56) ∧ ((r5 ≠ r56) → Q (.bool false) H57) ∧ (¬(r5 ≠ r56) → R52 H57)))) ∧ (¬(v27 = 0) → R52 H47)))) ∧ (¬(v27 ≠ 0) → ((v27 = 0) → ((r6 ≠ 0) → Q (.bool false) H47) ∧ (¬(r6 ≠ 0) → Ret F fl nFChance [percents0, (.agg [(.int .i64 r1), r2])] H47 (fun v61 H60 => ∃ (r59 : Int), v61 = (.int .i64 r59) ∧ ((r5 ≠ r59) → Q (.bool false) H60) ∧ (¬(r5 ≠ r59) → R52 H60)))) ∧ (¬(v27 = 0) → R52 H47))) ∧ (∀ (H55 : Heap), R52 H55 → ((w44 ≠ 0) → ∃ len62 : Nat, lenA r11 = some len62 ∧ Q (.bool ((((r12) == w44) && (((r13) == w45) && true)) && (((len62 : Int)) == 0))) H55) ∧ (¬(w44 ≠ 0) → ∃ len63 : Nat, lenA r11 = some len63 ∧ ((((r12 ≠ 0) ∨ ((len63 : Int) > budget3))) → Q (.bool false) H55) ∧ (¬(((r12 ≠ 0) ∨ ((len63 : Int) > budget3))) → ∃ (J64 : Nat → Int → Int → Int → Heap → Prop) (k65 : Nat), J64 k65 0 0 0 H55 ∧ (∀ (m66 : Nat) (last67 : Int) (positive73 : Int) (better75 : Int) (H76 : Heap), J64 m66 last67 positive73 better75 H76 → ∃ len77 : Nat, lenA percents0 = some len77 ∧ ((last67 < (len77 : Int)) → ∃ (J78 : Nat → Int → Int → Int → Heap → Prop) (k79 : Nat), J78 k79 0 positive73 better75 H76 ∧ (∀ (m80 : Nat) (weight81 : Int) (positive85 : Int) (better87 : Int) (H88 : Heap), J78 m80 weight81 positive85 better87 H88 → 0 ≤ last67 ∧ ((weight81 < (IntKind.wrap .i64 (1 * 2 ^ (Min.min (Int.toNat last67) (IntKind.bits .i64))))) → Ret F fl nFRunOf [(.int .i64 last67), (.int .i64 weight81)] H88 (fun v92 H91 => ∃ (r89 : Int) (r90 : AV), v92 = (.agg [(.int .i64 r89), r90]) ∧ ∀ (H93 : Heap), Dead1 H91 1 H93 → Scal r90 ∧ Ret F fl nFChance [percents0, (.agg [(.int .i64 r89), r90])] H93 (fun v97 H96 => ∃ (r95 : Int), v97 = (.int .i64 r95) ∧ ((r95 = 0) → ∃ m98 : Nat, m98 < m80 ∧ J78 m98 (IntKind.wrap .i64 (weight81 + 1)) positive85 better87 H96) ∧ (¬(r95 = 0) → ∃ len99 : Nat, lenA r11 = some len99 ∧ ∃ len100 : Nat, lenA r11 = some len100 ∧ (((len99 : Int) > 0) → ∃ (e101 : Int) (e102 : AV), getA H96 2 (some 2) r11 (IntKind.wrap .i64 ((len100 : Int) - 1)) 0 = some (.agg [(.int .i64 e101), e102]) ∧ Ret F fl nFBefore [percents0, (.agg [(.int .i64 r89), r90]), (.agg [(.int .i64 e101), e102])] H96 (fun v106 H105 => ∃ (r104 : Bool), v106 = (.bool r104) ∧ ((r104 = true) → ∃ m107 : Nat, m107 < m80 ∧ J78 m107 (IntKind.wrap .i64 (weight81 + 1)) (IntKind.wrap .i64 (positive85 + 1)) (IntKind.wrap .i64 (better87 + 1)) H105) ∧ (¬(r104 = true) → ∃ m108 : Nat, m108 < m80 ∧ J78 m108 (IntKind.wrap .i64 (weight81 + 1)) (IntKind.wrap .i64 (positive85 + 1)) better87 H105))) ∧ (¬((len99 : Int) > 0) → ∃ m109 : Nat, m109 < m80 ∧ J78 m109 (IntKind.wrap .i64 (weight81 + 1)) (IntKind.wrap .i64 (positive85 + 1)) better87 H96))))) ∧ (¬(weight81 < (IntKind.wrap .i64 (1 * 2 ^ (Min.min (Int.toNat last67) (IntKind.bits .i64))))) → ∃ m110 : Nat, m110 < m66 ∧ J64 m110 (IntKind.wrap .i64 (last67 + 1)) positive85 better87 H88))) ∧ (¬(last67 < (len77 : Int)) → ∃ (J111 : Nat → Int → Heap → Prop) (k112 : Nat), J111 k112 0 H76 ∧ (∀ (m113 : Nat) (i115 : Int) (H118 : Heap), J111 m113 i115 H118 → ∃ len119 : Nat, lenA r11 = some len119 ∧ ((i115 < (len119 : Int)) → ∃ len120 : Nat, lenA percents0 = some len120 ∧ ∃ (e121 : Int) (e122 : AV), getA H118 2 (some 2) r11 i115 0 = some (.agg [(.int .i64 e121), e122]) ∧ Ret F fl nFRunCode [(.int .i64 (len120 : Int)), (.agg [(.int .i64 e121), e122])] H118 (fun v126 H125 => ∃ (r124 : Int), v126 = (.int .i64 r124) ∧ ((r124 ≠ 0) → Q (.bool false) H125) ∧ (¬(r124 ≠ 0) → ∃ (e127 : Int) (e128 : AV), getA H125 2 (some 2) r11 i115 0 = some (.agg [(.int .i64 e127), e128]) ∧ Ret F fl nFChance [percents0, (.agg [(.int .i64 e127), e128])] H125 (fun v132 H131 => ∃ (r130 : Int), v132 = (.int .i64 r130) ∧ ((r130 = 0) → Q (.bool false) H131) ∧ (¬(r130 = 0) → ((i115 > 0) → ∃ (e133 : Int) (e134 : AV), getA H131 2 (some 2) r11 (IntKind.wrap .i64 (i115 - 1)) 0 = some (.agg [(.int .i64 e133), e134]) ∧ ∃ (e136 : Int) (e137 : AV), getA H131 2 (some 2) r11 i115 0 = some (.agg [(.int .i64 e136), e137]) ∧ Ret F fl nFBefore [percents0, (.agg [(.int .i64 e133), e134]), (.agg [(.int .i64 e136), e137])] H131 (fun v141 H140 => ∃ (r139 : Bool), v141 = (.bool r139) ∧ ((¬(r139 = true)) → Q (.bool false) H140) ∧ (¬(¬(r139 = true)) → ∃ m142 : Nat, m142 < m113 ∧ J111 m142 (IntKind.wrap .i64 (i115 + 1)) H140))) ∧ (¬(i115 > 0) → ∃ m143 : Nat, m143 < m113 ∧ J111 m143 (IntKind.wrap .i64 (i115 + 1)) H131)))))) ∧ (¬(i115 < (len119 : Int)) → ∃ len144 : Nat, lenA r11 = some len144 ∧ ∃ len145 : Nat, lenA r11 = some len145 ∧ ∃ len146 : Nat, lenA r11 = some len146 ∧ Q (.bool ((((len144 : Int)) == (imin budget3 positive73)) && ((((len145 : Int)) == 0) || ((better75) == (IntKind.wrap .i64 ((len146 : Int) - 1)))))) H118))))))))))))))) : Ret F fl me [percents0, (.agg [(.int .i64 r1), r2]), (.int .i64 budget3)] H Q := by
  refine ret_intro hF rfl ?_
  refine w_seq ?_
  refine w_run [1, 0] ?_
  obtain ⟨H4, hb⟩ : ∃ H', Dead1 H 1 H' := ⟨_, ⟨rfl⟩⟩
  replace h := h H4 hb
  refine t_tomb true 1 (.agg [(.int .i64 r1), r2]) [(.int .i64 r1), r2] H4 H (by kernel_rfl) rfl hb ?_
  refine t_done [percents0, (.agg [(.int .i64 r1), r2]), (.int .i64 budget3), (.bool false), (.agg [(.int .i64 r1), r2]), .undef, .undef, .undef, .undef, .undef, .undef, .undef, .undef, .undef, .undef, .undef, .undef, .undef, .undef, .undef, .undef, .undef, .undef, .undef, .undef, .undef, .undef, .undef, .undef] H4 (by kernel_rfl) ?_
  refine then_norm ?_
  refine w_seq ?_
  refine w_run [0, 0, 1, 0, 0, 0, 1, 0, 1] ?_
  refine t_call true nspeculate_Chance [percents0, (.agg [(.int .i64 r1), r2])] H4 (by kernel_rfl) h ?_
  clear h
  rintro _ H8 ⟨r5, r6, r7, rfl, h⟩
  obtain ⟨H10, hb⟩ : ∃ H', Dead1 H8 1 H' := ⟨_, ⟨rfl⟩⟩
  replace h := h H10 hb
  refine t_tomb true 1 (.agg [(.int .i64 0), (.int .i64 0)]) [(.int .i64 0), (.int .i64 0)] H10 H8 (by kernel_rfl) rfl hb ?_
  refine t_upd true 2 0 [(.int .i64 0), (.int .i64 0)] (.agg [(.int .i64 r6), (.int .i64 r7)]) [(.int .i64 r6), (.int .i64 r7)] [(.int .i64 r6), (.int .i64 r7)] H10 (by kernel_rfl) rfl (all_c rfl (all_c rfl all_n)) ⟨rfl, Nat.le_of_ble_eq_true (by kernel_rfl), rfl⟩ ?_
  refine t_done [percents0, (.agg [(.int .i64 r1), r2]), (.int .i64 budget3), (.bool false), (.agg [(.int .i64 r1), r2]), .undef, .undef, .undef, .undef, .undef, (.agg [(.int .i64 r6), (.int .i64 r7)]), (.int .i64 r5), .undef, .undef, .undef, .undef, .undef, .undef, .undef, .undef, .undef, .undef, .undef, .undef, .undef, .undef, .undef, .undef, .undef] H10 (by kernel_rfl) ?_
  refine then_norm ?_
  refine w_seq ?_
  refine w_run [0, 0, 1, 0, 0, 0, 1, 0, 1] ?_
  refine t_call true nspeculate_Plan [percents0, (.int .i64 budget3)] H10 (by kernel_rfl) h ?_
  clear h
  rintro _ H14 ⟨r11, r12, r13, rfl, h⟩
  obtain ⟨H16, hb⟩ : ∃ H', Dead1 H14 1 H' := ⟨_, ⟨rfl⟩⟩
  replace h := h H16 hb
  refine t_tomb true 1 (.agg [(.int .i64 0), (.int .i64 0)]) [(.int .i64 0), (.int .i64 0)] H16 H14 (by kernel_rfl) rfl hb ?_
  refine t_upd true 2 0 [(.int .i64 0), (.int .i64 0)] (.agg [(.int .i64 r12), (.int .i64 r13)]) [(.int .i64 r12), (.int .i64 r13)] [(.int .i64 r12), (.int .i64 r13)] H16 (by kernel_rfl) rfl (all_c rfl (all_c rfl all_n)) ⟨rfl, Nat.le_of_ble_eq_true (by kernel_rfl), rfl⟩ ?_
  refine t_done [percents0, (.agg [(.int .i64 r1), r2]), (.int .i64 budget3), (.bool false), (.agg [(.int .i64 r1), r2]), .undef, .undef, .undef, .undef, .undef, (.agg [(.int .i64 r6), (.int .i64 r7)]), (.int .i64 r5), .undef, .undef, (.agg [(.int .i64 r12), (.int .i64 r13)]), r11, .undef, .undef, .undef, .undef, .undef, .undef, .undef, .undef, .undef, .undef, .undef, .undef, .undef] H16 (by kernel_rfl) ?_
  refine then_norm ?_
  refine w_seq ?_
  refine w_seq ?_
  refine w_run [1, 0] ?_
  refine t_call true nLspeculateExample [] H16 (by kernel_rfl) h ?_
  clear h
  rintro _ H18 ⟨r17, rfl, h⟩
  refine t_done [percents0, (.agg [(.int .i64 r1), r2]), (.int .i64 budget3), (.bool false), (.agg [(.int .i64 r1), r2]), (.bool (!r17)), .undef, .undef, .undef, .undef, (.agg [(.int .i64 r6), (.int .i64 r7)]), (.int .i64 r5), .undef, .undef, (.agg [(.int .i64 r12), (.int .i64 r13)]), r11, .undef, .undef, .undef, .undef, .undef, .undef, .undef, .undef, .undef, .undef, .undef, .undef, .undef] H18 (by kernel_rfl) ?_
  refine then_norm ?_
  refine w_cond (t := (!r17)) rfl (fun hc => ?_) (fun hc => ?_)
  · replace h := h.1 ((is_not is_raw).t hc)
    refine w_seq ?_
    refine w_run [0] ?_
    refine t_done [percents0, (.agg [(.int .i64 r1), r2]), (.int .i64 budget3), (.bool false), (.agg [(.int .i64 r1), r2]), (.bool (!r17)), .undef, .undef, .undef, .undef, (.agg [(.int .i64 r6), (.int .i64 r7)]), (.int .i64 r5), .undef, .undef, (.agg [(.int .i64 r12), (.int .i64 r13)]), r11, .undef, .undef, .undef, .undef, .undef, .undef, .undef, .undef, .undef, .undef, .undef, .undef, .undef] H18 (by kernel_rfl) ?_
    refine then_norm ?_
    refine w_ret ?_
    refine then_ret ?_
    exact body_ret (vs := [(.bool false)]) _ (by kernel_rfl) rfl h
  · replace h := h.2 ((is_not is_raw).f hc)
    refine w_skip ?_
    refine then_norm ?_
    refine w_seq ?_
    refine w_run [0, 1, 1, 1] ?_
    refine t_call true nFPercentsFault [percents0] H18 (by kernel_rfl) h ?_
    clear h
    rintro _ H22 ⟨r20, r21, rfl, h⟩
    obtain ⟨H24, hb⟩ : ∃ H', Dead1 H22 1 H' := ⟨_, ⟨rfl⟩⟩
    replace h := h H24 hb
    refine t_tomb true 1 (.agg [(.int .i64 0), (.int .i64 0)]) [(.int .i64 0), (.int .i64 0)] H24 H22 (by kernel_rfl) rfl hb ?_
    refine t_upd true 2 0 [(.int .i64 0), (.int .i64 0)] (.agg [(.int .i64 r20), (.int .i64 r21)]) [(.int .i64 r20), (.int .i64 r21)] [(.int .i64 r20), (.int .i64 r21)] H24 (by kernel_rfl) rfl (all_c rfl (all_c rfl all_n)) ⟨rfl, Nat.le_of_ble_eq_true (by kernel_rfl), rfl⟩ ?_
    refine t_done [percents0, (.agg [(.int .i64 r1), r2]), (.int .i64 budget3), (.bool false), (.agg [(.int .i64 r1), r2]), (.bool (!r17)), (.agg [(.int .i64 r20), (.int .i64 r21)]), .undef, .undef, .undef, (.agg [(.int .i64 r6), (.int .i64 r7)]), (.int .i64 r5), .undef, .undef, (.agg [(.int .i64 r12), (.int .i64 r13)]), r11, .undef, .undef, .undef, .undef, .undef, .undef, .undef, .undef, .undef, .undef, .undef, .undef, .undef] H24 (by kernel_rfl) ?_
    refine then_norm ?_
    refine w_seq ?_
    refine w_run [0, 1, 1] ?_
    obtain ⟨H25, hb⟩ : ∃ H', Dead1 H24 1 H' := ⟨_, ⟨rfl⟩⟩
    replace h := h H25 hb
    refine t_tomb true 1 (.agg [(.int .i64 0), (.int .i64 0)]) [(.int .i64 0), (.int .i64 0)] H25 H24 (by kernel_rfl) rfl hb ?_
    refine t_upd true 2 0 [(.int .i64 0), (.int .i64 0)] (.agg [(.int .i64 r20), (.int .i64 r21)]) [(.int .i64 r20), (.int .i64 r21)] [(.int .i64 r20), (.int .i64 r21)] H25 (by kernel_rfl) rfl (all_c rfl (all_c rfl all_n)) ⟨rfl, Nat.le_of_ble_eq_true (by kernel_rfl), rfl⟩ ?_
    refine t_done [percents0, (.agg [(.int .i64 r1), r2]), (.int .i64 budget3), (.bool false), (.agg [(.int .i64 r1), r2]), (.bool (!r17)), (.agg [(.int .i64 r20), (.int .i64 r21)]), .undef, (.agg [(.int .i64 r20), (.int .i64 r21)]), .undef, (.agg [(.int .i64 r6), (.int .i64 r7)]), (.int .i64 r5), .undef, .undef, (.agg [(.int .i64 r12), (.int .i64 r13)]), r11, .undef, .undef, .undef, .undef, .undef, .undef, .undef, .undef, .undef, .undef, .undef, .undef, .undef] H25 (by kernel_rfl) ?_
    refine then_norm ?_
    refine w_seq ?_
    obtain ⟨R26, h, hK⟩ := h
    refine w_join (fun EI HI => ∃ (v27 : Int) (v28 : Int) (d29 : AV), EI = [percents0, (.agg [(.int .i64 r1), r2]), (.int .i64 budget3), (.bool false), (.agg [(.int .i64 r1), r2]), (.bool (!r17)), (.agg [(.int .i64 v27), (.int .i64 v28)]), d29, (.agg [(.int .i64 r20), (.int .i64 r21)]), .undef, (.agg [(.int .i64 r6), (.int .i64 r7)]), (.int .i64 r5), .undef, .undef, (.agg [(.int .i64 r12), (.int .i64 r13)]), r11, .undef, .undef, .undef, .undef, .undef, .undef, .undef, .undef, .undef, .undef, .undef, .undef, .undef] ∧ R26 v27 v28 HI) ?_ ?_
    · clear hK
      refine w_seq ?_
      refine w_run [0, 0, 0, 0, 0, 1, 0, 3, 2, 0] ?_
      obtain ⟨len31, hl, h⟩ := h
      refine t_len true percents0 len31 H25 (by kernel_rfl) hl ?_
      refine t_gd ((r20) == 0) true (by kernel_rfl) (fun hc => ?_) (fun hc => ?_)
      · replace h := h.1 (is_eq.t hc)
        refine t_call true nFRunCode [(.int .i64 (len31 : Int)), (.agg [(.int .i64 r1), r2])] H25 (by kernel_rfl) h ?_
        clear h
        rintro _ H33 ⟨r32, rfl, h⟩
        refine t_gd true true (by kernel_rfl) (fun _ => ?_) (fun hn => by cases hn)
        refine t_done [percents0, (.agg [(.int .i64 r1), r2]), (.int .i64 budget3), (.bool false), (.agg [(.int .i64 r1), r2]), (.bool (!r17)), (.agg [(.int .i64 r20), (.int .i64 r21)]), (.bool ((r32) != 0)), (.agg [(.int .i64 r20), (.int .i64 r21)]), .undef, (.agg [(.int .i64 r6), (.int .i64 r7)]), (.int .i64 r5), .undef, .undef, (.agg [(.int .i64 r12), (.int .i64 r13)]), r11, .undef, .undef, .undef, .undef, .undef, .undef, .undef, .undef, .undef, .undef, .undef, .undef, .undef] H33 (by kernel_rfl) ?_
        refine then_norm ?_
        refine w_cond (t := ((r32) != 0)) rfl (fun hc => ?_) (fun hc => ?_)
        · replace h := h.1 (is_ne.t hc)
          refine w_run [0, 1, 0, 1, 1, 1] ?_
          obtain ⟨len35, hl, h⟩ := h
          refine t_len true percents0 len35 H33 (by kernel_rfl) hl ?_
          refine t_call true nFRunCode [(.int .i64 (len35 : Int)), (.agg [(.int .i64 r1), r2])] H33 (by kernel_rfl) h ?_
          clear h
          rintro _ H37 ⟨r36, rfl, h⟩
          refine t_call true nFFault [(.int .i64 r36), (.int .i64 (-2))] H37 (by kernel_rfl) h ?_
          clear h
          rintro _ H41 ⟨r39, r40, rfl, h⟩
          refine t_upd true 2 0 [(.int .i64 r20), (.int .i64 r21)] (.agg [(.int .i64 r39), (.int .i64 r40)]) [(.int .i64 r39), (.int .i64 r40)] [(.int .i64 r39), (.int .i64 r40)] H41 (by kernel_rfl) rfl (all_c rfl (all_c rfl all_n)) ⟨rfl, Nat.le_of_ble_eq_true (by kernel_rfl), rfl⟩ ?_
          refine t_done [percents0, (.agg [(.int .i64 r1), r2]), (.int .i64 budget3), (.bool false), (.agg [(.int .i64 r1), r2]), (.bool (!r17)), (.agg [(.int .i64 r39), (.int .i64 r40)]), (.bool ((r32) != 0)), (.agg [(.int .i64 r20), (.int .i64 r21)]), .undef, (.agg [(.int .i64 r6), (.int .i64 r7)]), (.int .i64 r5), .undef, .undef, (.agg [(.int .i64 r12), (.int .i64 r13)]), r11, .undef, .undef, .undef, .undef, .undef, .undef, .undef, .undef, .undef, .undef, .undef, .undef, .undef] H41 (by kernel_rfl) ?_
          refine join_norm ⟨_, _, _, rfl, h⟩
        · replace h := h.2 (is_ne.f hc)
          refine w_skip ?_
          refine join_norm ⟨_, _, _, rfl, h⟩
      · replace h := h.2 (is_eq.f hc)
        refine t_gd false true (by kernel_rfl) (fun hn => by cases hn) (fun _ => ?_)
        refine t_done [percents0, (.agg [(.int .i64 r1), r2]), (.int .i64 budget3), (.bool false), (.agg [(.int .i64 r1), r2]), (.bool (!r17)), (.agg [(.int .i64 r20), (.int .i64 r21)]), (.bool false), (.agg [(.int .i64 r20), (.int .i64 r21)]), .undef, (.agg [(.int .i64 r6), (.int .i64 r7)]), (.int .i64 r5), .undef, .undef, (.agg [(.int .i64 r12), (.int .i64 r13)]), r11, .undef, .undef, .undef, .undef, .undef, .undef, .undef, .undef, .undef, .undef, .undef, .undef, .undef] H25 (by kernel_rfl) ?_
        refine then_norm ?_
        refine w_cond (t := false) rfl (fun hc => by cases hc) (fun _ => ?_)
        refine w_skip ?_
        refine join_norm ⟨_, _, _, rfl, h⟩
    · clear h
      rintro EI H30 ⟨v27, v28, d29, rfl, hJ⟩
      have h := hK v27 v28 H30 hJ
      clear hJ hK
      refine then_norm ?_
      refine w_seq ?_
      obtain ⟨R43, h, hK⟩ := h
      refine w_join (fun EI HI => ∃ (w44 : Int) (w45 : Int) (d46 : AV), EI = [percents0, (.agg [(.int .i64 r1), r2]), (.int .i64 budget3), (.bool false), (.agg [(.int .i64 r1), r2]), (.bool (!r17)), (.agg [(.int .i64 v27), (.int .i64 v28)]), d29, (.agg [(.int .i64 w44), (.int .i64 w45)]), d46, (.agg [(.int .i64 r6), (.int .i64 r7)]), (.int .i64 r5), .undef, .undef, (.agg [(.int .i64 r12), (.int .i64 r13)]), r11, .undef, .undef, .undef, .undef, .undef, .undef, .undef, .undef, .undef, .undef, .undef, .undef, .undef] ∧ R43 w44 w45 HI) ?_ ?_
      · clear hK
        refine w_seq ?_
        refine w_run [0, 0, 0, 0, 0, 0, 0, 0, 0, 0, 0] ?_
        refine t_done [percents0, (.agg [(.int .i64 r1), r2]), (.int .i64 budget3), (.bool false), (.agg [(.int .i64 r1), r2]), (.bool (!r17)), (.agg [(.int .i64 v27), (.int .i64 v28)]), d29, (.agg [(.int .i64 r20), (.int .i64 r21)]), (.bool (((r20) == 0) && ((decide (budget3 < 0)) || (decide (budget3 > 16))))), (.agg [(.int .i64 r6), (.int .i64 r7)]), (.int .i64 r5), .undef, .undef, (.agg [(.int .i64 r12), (.int .i64 r13)]), r11, .undef, .undef, .undef, .undef, .undef, .undef, .undef, .undef, .undef, .undef, .undef, .undef, .undef] H30 (by kernel_rfl) ?_
        refine then_norm ?_
        refine w_cond (t := (((r20) == 0) && ((decide (budget3 < 0)) || (decide (budget3 > 16))))) rfl (fun hc => ?_) (fun hc => ?_)
        · replace h := h.1 ((is_and is_eq (is_or is_dec is_dec)).t hc)
          refine w_run [1, 1] ?_
          refine t_call true nFFault [(.int .i64 3), (.int .i64 (-2))] H30 (by kernel_rfl) h ?_
          clear h
          rintro _ H50 ⟨r48, r49, rfl, h⟩
          refine t_upd true 2 0 [(.int .i64 r20), (.int .i64 r21)] (.agg [(.int .i64 r48), (.int .i64 r49)]) [(.int .i64 r48), (.int .i64 r49)] [(.int .i64 r48), (.int .i64 r49)] H50 (by kernel_rfl) rfl (all_c rfl (all_c rfl all_n)) ⟨rfl, Nat.le_of_ble_eq_true (by kernel_rfl), rfl⟩ ?_
          refine t_done [percents0, (.agg [(.int .i64 r1), r2]), (.int .i64 budget3), (.bool false), (.agg [(.int .i64 r1), r2]), (.bool (!r17)), (.agg [(.int .i64 v27), (.int .i64 v28)]), d29, (.agg [(.int .i64 r48), (.int .i64 r49)]), (.bool (((r20) == 0) && ((decide (budget3 < 0)) || (decide (budget3 > 16))))), (.agg [(.int .i64 r6), (.int .i64 r7)]), (.int .i64 r5), .undef, .undef, (.agg [(.int .i64 r12), (.int .i64 r13)]), r11, .undef, .undef, .undef, .undef, .undef, .undef, .undef, .undef, .undef, .undef, .undef, .undef, .undef] H50 (by kernel_rfl) ?_
          refine join_norm ⟨_, _, _, rfl, h⟩
        · replace h := h.2 ((is_and is_eq (is_or is_dec is_dec)).f hc)
          refine w_skip ?_
          refine join_norm ⟨_, _, _, rfl, h⟩
      · clear h
        rintro EI H47 ⟨w44, w45, d46, rfl, hJ⟩
        have h := hK w44 w45 H47 hJ
        clear hJ hK
        refine then_norm ?_
        refine w_seq ?_
        obtain ⟨R52, h, hK⟩ := h
        refine w_join (fun EI HI => ∃ (d53 : AV) (d54 : AV), EI = [percents0, (.agg [(.int .i64 r1), r2]), (.int .i64 budget3), d53, (.agg [(.int .i64 r1), r2]), (.bool (!r17)), (.agg [(.int .i64 v27), (.int .i64 v28)]), d29, (.agg [(.int .i64 w44), (.int .i64 w45)]), d46, (.agg [(.int .i64 r6), (.int .i64 r7)]), (.int .i64 r5), d54, .undef, (.agg [(.int .i64 r12), (.int .i64 r13)]), r11, .undef, .undef, .undef, .undef, .undef, .undef, .undef, .undef, .undef, .undef, .undef, .undef, .undef] ∧ R52  HI) ?_ ?_
        · clear hK
          refine w_seq ?_
          refine w_run [0, 0, 0, 0, 2, 2, 2, 2, 2, 2, 2, 0, 0, 2, 2, 2, 2, 2, 2, 2, 2, 2, 2, 2, 3, 2, 2, 2, 0] ?_
          refine t_gd ((v27) != 0) true (by kernel_rfl) (fun hc => ?_) (fun hc => ?_)
          · replace h := h.1 (is_ne.t hc)
            refine t_gd true true (by kernel_rfl) (fun _ => ?_) (fun hn => by cases hn)
            refine t_gd true true (by kernel_rfl) (fun _ => ?_) (fun hn => by cases hn)
            refine t_gd true true (by kernel_rfl) (fun _ => ?_) (fun hn => by cases hn)
            refine t_gd (!(((r6) == v27) && (((r7) == v28) && true))) false (by kernel_rfl) (fun hc => ?_) (fun hc => ?_)
            · replace h := h.2 ((is_not (is_and is_eq (is_and is_eq is_true))).f hc)
              refine t_gd false false (by kernel_rfl) (fun _ => ?_) (fun hn => by cases hn)
              refine t_gd true true (by kernel_rfl) (fun _ => ?_) (fun hn => by cases hn)
              refine t_gd ((r5) != 0) false (by kernel_rfl) (fun hc => ?_) (fun hc => ?_)
              · replace h := h.2 (is_ne.f hc)
                refine t_gd false false (by kernel_rfl) (fun _ => ?_) (fun hn => by cases hn)
                refine t_gd false false (by kernel_rfl) (fun _ => ?_) (fun hn => by cases hn)
                refine t_gd false false (by kernel_rfl) (fun _ => ?_) (fun hn => by cases hn)
                refine t_gd ((v27) == 0) true (by kernel_rfl) (fun hc => ?_) (fun hc => ?_)
                · replace h := h.1 (is_eq.t hc)
                  refine t_gd true true (by kernel_rfl) (fun _ => ?_) (fun hn => by cases hn)
                  refine t_gd true true (by kernel_rfl) (fun _ => ?_) (fun hn => by cases hn)
                  refine t_gd true true (by kernel_rfl) (fun _ => ?_) (fun hn => by cases hn)
                  refine t_gd ((r6) != 0) false (by kernel_rfl) (fun hc => ?_) (fun hc => ?_)
                  · replace h := h.2 (is_ne.f hc)
                    refine t_gd false false (by kernel_rfl) (fun _ => ?_) (fun hn => by cases hn)
                    refine t_gd false false (by kernel_rfl) (fun _ => ?_) (fun hn => by cases hn)
                    refine t_gd false false (by kernel_rfl) (fun _ => ?_) (fun hn => by cases hn)
                    refine t_call true nFChance [percents0, (.agg [(.int .i64 r1), r2])] H47 (by kernel_rfl) h ?_
                    clear h
                    rintro _ H57 ⟨r56, rfl, h⟩
                    refine t_gd false false (by kernel_rfl) (fun _ => ?_) (fun hn => by cases hn)
                    refine t_gd true true (by kernel_rfl) (fun _ => ?_) (fun hn => by cases hn)
                    refine t_gd false false (by kernel_rfl) (fun _ => ?_) (fun hn => by cases hn)
                    refine t_done [percents0, (.agg [(.int .i64 r1), r2]), (.int .i64 budget3), (.bool false), (.agg [(.int .i64 r1), r2]), (.bool (!r17)), (.agg [(.int .i64 v27), (.int .i64 v28)]), d29, (.agg [(.int .i64 w44), (.int .i64 w45)]), d46, (.agg [(.int .i64 r6), (.int .i64 r7)]), (.int .i64 r5), (.bool ((r5) != r56)), .undef, (.agg [(.int .i64 r12), (.int .i64 r13)]), r11, .undef, .undef, .undef, .undef, .undef, .undef, .undef, .undef, .undef, .undef, .undef, .undef, .undef] H57 (by kernel_rfl) ?_
                    refine then_norm ?_
                    refine w_cond (t := ((r5) != r56)) rfl (fun hc => ?_) (fun hc => ?_)
                    · replace h := h.1 (is_ne.t hc)
                      refine w_seq ?_
                      refine w_run [0] ?_
                      refine t_done [percents0, (.agg [(.int .i64 r1), r2]), (.int .i64 budget3), (.bool false), (.agg [(.int .i64 r1), r2]), (.bool (!r17)), (.agg [(.int .i64 v27), (.int .i64 v28)]), d29, (.agg [(.int .i64 w44), (.int .i64 w45)]), d46, (.agg [(.int .i64 r6), (.int .i64 r7)]), (.int .i64 r5), (.bool ((r5) != r56)), .undef, (.agg [(.int .i64 r12), (.int .i64 r13)]), r11, .undef, .undef, .undef, .undef, .undef, .undef, .undef, .undef, .undef, .undef, .undef, .undef, .undef] H57 (by kernel_rfl) ?_
                      refine then_norm ?_
                      refine w_ret ?_
                      refine join_ret ?_
                      refine then_ret ?_
                      exact body_ret (vs := [(.bool false)]) _ (by kernel_rfl) rfl h
                    · replace h := h.2 (is_ne.f hc)
                      refine w_skip ?_
                      refine join_norm ⟨_, _, rfl, h⟩
                  · replace h := h.1 (is_ne.t hc)
                    refine t_gd true false (by kernel_rfl) (fun hn => by cases hn) (fun _ => ?_)
                    refine t_gd true false (by kernel_rfl) (fun hn => by cases hn) (fun _ => ?_)
                    refine t_gd true false (by kernel_rfl) (fun hn => by cases hn) (fun _ => ?_)
                    refine t_gd true false (by kernel_rfl) (fun hn => by cases hn) (fun _ => ?_)
                    refine t_gd true true (by kernel_rfl) (fun _ => ?_) (fun hn => by cases hn)
                    refine t_gd false false (by kernel_rfl) (fun _ => ?_) (fun hn => by cases hn)
                    refine t_done [percents0, (.agg [(.int .i64 r1), r2]), (.int .i64 budget3), (.bool false), (.agg [(.int .i64 r1), r2]), (.bool (!r17)), (.agg [(.int .i64 v27), (.int .i64 v28)]), d29, (.agg [(.int .i64 w44), (.int .i64 w45)]), d46, (.agg [(.int .i64 r6), (.int .i64 r7)]), (.int .i64 r5), (.bool true), .undef, (.agg [(.int .i64 r12), (.int .i64 r13)]), r11, .undef, .undef, .undef, .undef, .undef, .undef, .undef, .undef, .undef, .undef, .undef, .undef, .undef] H47 (by kernel_rfl) ?_
                    refine then_norm ?_
                    refine w_cond (t := true) rfl (fun _ => ?_) (fun hc => by cases hc)
                    refine w_seq ?_
                    refine w_run [0] ?_
                    refine t_done [percents0, (.agg [(.int .i64 r1), r2]), (.int .i64 budget3), (.bool false), (.agg [(.int .i64 r1), r2]), (.bool (!r17)), (.agg [(.int .i64 v27), (.int .i64 v28)]), d29, (.agg [(.int .i64 w44), (.int .i64 w45)]), d46, (.agg [(.int .i64 r6), (.int .i64 r7)]), (.int .i64 r5), (.bool true), .undef, (.agg [(.int .i64 r12), (.int .i64 r13)]), r11, .undef, .undef, .undef, .undef, .undef, .undef, .undef, .undef, .undef, .undef, .undef, .undef, .undef] H47 (by kernel_rfl) ?_
                    refine then_norm ?_
                    refine w_ret ?_
                    refine join_ret ?_
                    refine then_ret ?_
                    exact body_ret (vs := [(.bool false)]) _ (by kernel_rfl) rfl h
                · replace h := h.2 (is_eq.f hc)
                  refine t_gd false true (by kernel_rfl) (fun hn => by cases hn) (fun _ => ?_)
                  refine t_gd false true (by kernel_rfl) (fun hn => by cases hn) (fun _ => ?_)
                  refine t_gd false true (by kernel_rfl) (fun hn => by cases hn) (fun _ => ?_)
                  refine t_gdU false (by kernel_rfl) ?_
                  refine t_gdU false (by kernel_rfl) ?_
                  refine t_gdU false (by kernel_rfl) ?_
                  refine t_gdU false (by kernel_rfl) ?_
                  refine t_gdU false (by kernel_rfl) ?_
                  refine t_gd false true (by kernel_rfl) (fun hn => by cases hn) (fun _ => ?_)
                  refine t_gd false false (by kernel_rfl) (fun _ => ?_) (fun hn => by cases hn)
                  refine t_done [percents0, (.agg [(.int .i64 r1), r2]), (.int .i64 budget3), (.bool false), (.agg [(.int .i64 r1), r2]), (.bool (!r17)), (.agg [(.int .i64 v27), (.int .i64 v28)]), d29, (.agg [(.int .i64 w44), (.int .i64 w45)]), d46, (.agg [(.int .i64 r6), (.int .i64 r7)]), (.int .i64 r5), (.bool false), .undef, (.agg [(.int .i64 r12), (.int .i64 r13)]), r11, .undef, .undef, .undef, .undef, .undef, .undef, .undef, .undef, .undef, .undef, .undef, .undef, .undef] H47 (by kernel_rfl) ?_
                  refine then_norm ?_
                  refine w_cond (t := false) rfl (fun hc => by cases hc) (fun _ => ?_)
                  refine w_skip ?_
                  refine join_norm ⟨_, _, rfl, h⟩
              · replace h := h.1 (is_ne.t hc)
                refine t_gd true false (by kernel_rfl) (fun hn => by cases hn) (fun _ => ?_)
                refine t_gd true false (by kernel_rfl) (fun hn => by cases hn) (fun _ => ?_)
                refine t_gd true false (by kernel_rfl) (fun hn => by cases hn) (fun _ => ?_)
                refine t_gdU true (by kernel_rfl) ?_
                refine t_gdU true (by kernel_rfl) ?_
                refine t_gdU true (by kernel_rfl) ?_
                refine t_gdU true (by kernel_rfl) ?_
                refine t_gdU false (by kernel_rfl) ?_
                refine t_gdU false (by kernel_rfl) ?_
                refine t_gdU false (by kernel_rfl) ?_
                refine t_gdU false (by kernel_rfl) ?_
                refine t_gdU false (by kernel_rfl) ?_
                refine t_gdU true (by kernel_rfl) ?_
                refine t_gd true false (by kernel_rfl) (fun hn => by cases hn) (fun _ => ?_)
                refine t_done [percents0, (.agg [(.int .i64 r1), r2]), (.int .i64 budget3), (.bool false), (.agg [(.int .i64 r1), r2]), (.bool (!r17)), (.agg [(.int .i64 v27), (.int .i64 v28)]), d29, (.agg [(.int .i64 w44), (.int .i64 w45)]), d46, (.agg [(.int .i64 r6), (.int .i64 r7)]), (.int .i64 r5), (.bool true), .undef, (.agg [(.int .i64 r12), (.int .i64 r13)]), r11, .undef, .undef, .undef, .undef, .undef, .undef, .undef, .undef, .undef, .undef, .undef, .undef, .undef] H47 (by kernel_rfl) ?_
                refine then_norm ?_
                refine w_cond (t := true) rfl (fun _ => ?_) (fun hc => by cases hc)
                refine w_seq ?_
                refine w_run [0] ?_
                refine t_done [percents0, (.agg [(.int .i64 r1), r2]), (.int .i64 budget3), (.bool false), (.agg [(.int .i64 r1), r2]), (.bool (!r17)), (.agg [(.int .i64 v27), (.int .i64 v28)]), d29, (.agg [(.int .i64 w44), (.int .i64 w45)]), d46, (.agg [(.int .i64 r6), (.int .i64 r7)]), (.int .i64 r5), (.bool true), .undef, (.agg [(.int .i64 r12), (.int .i64 r13)]), r11, .undef, .undef, .undef, .undef, .undef, .undef, .undef, .undef, .undef, .undef, .undef, .undef, .undef] H47 (by kernel_rfl) ?_
                refine then_norm ?_
                refine w_ret ?_
                refine join_ret ?_
                refine then_ret ?_
                exact body_ret (vs := [(.bool false)]) _ (by kernel_rfl) rfl h
            · replace h := h.1 ((is_not (is_and is_eq (is_and is_eq is_true))).t hc)
              refine t_gd true false (by kernel_rfl) (fun hn => by cases hn) (fun _ => ?_)
              refine t_gd true true (by kernel_rfl) (fun _ => ?_) (fun hn => by cases hn)
              refine t_gd true false (by kernel_rfl) (fun hn => by cases hn) (fun _ => ?_)
              refine t_gd true false (by kernel_rfl) (fun hn => by cases hn) (fun _ => ?_)
              refine t_gd true false (by kernel_rfl) (fun hn => by cases hn) (fun _ => ?_)
              refine t_gd true false (by kernel_rfl) (fun hn => by cases hn) (fun _ => ?_)
              refine t_gdU true (by kernel_rfl) ?_
              refine t_gdU true (by kernel_rfl) ?_
              refine t_gdU true (by kernel_rfl) ?_
              refine t_gdU true (by kernel_rfl) ?_
              refine t_gdU false (by kernel_rfl) ?_
              refine t_gdU false (by kernel_rfl) ?_
              refine t_gdU false (by kernel_rfl) ?_
              refine t_gdU false (by kernel_rfl) ?_
              refine t_gdU false (by kernel_rfl) ?_
              refine t_gdU true (by kernel_rfl) ?_
              refine t_gd true false (by kernel_rfl) (fun hn => by cases hn) (fun _ => ?_)
              refine t_done [percents0, (.agg [(.int .i64 r1), r2]), (.int .i64 budget3), (.bool false), (.agg [(.int .i64 r1), r2]), (.bool (!r17)), (.agg [(.int .i64 v27), (.int .i64 v28)]), d29, (.agg [(.int .i64 w44), (.int .i64 w45)]), d46, (.agg [(.int .i64 r6), (.int .i64 r7)]), (.int .i64 r5), (.bool true), .undef, (.agg [(.int .i64 r12), (.int .i64 r13)]), r11, .undef, .undef, .undef, .undef, .undef, .undef, .undef, .undef, .undef, .undef, .undef, .undef, .undef] H47 (by kernel_rfl) ?_
              refine then_norm ?_
              refine w_cond (t := true) rfl (fun _ => ?_) (fun hc => by cases hc)
              refine w_seq ?_
              refine w_run [0] ?_
              refine t_done [percents0, (.agg [(.int .i64 r1), r2]), (.int .i64 budget3), (.bool false), (.agg [(.int .i64 r1), r2]), (.bool (!r17)), (.agg [(.int .i64 v27), (.int .i64 v28)]), d29, (.agg [(.int .i64 w44), (.int .i64 w45)]), d46, (.agg [(.int .i64 r6), (.int .i64 r7)]), (.int .i64 r5), (.bool true), .undef, (.agg [(.int .i64 r12), (.int .i64 r13)]), r11, .undef, .undef, .undef, .undef, .undef, .undef, .undef, .undef, .undef, .undef, .undef, .undef, .undef] H47 (by kernel_rfl) ?_
              refine then_norm ?_
              refine w_ret ?_
              refine join_ret ?_
              refine then_ret ?_
              exact body_ret (vs := [(.bool false)]) _ (by kernel_rfl) rfl h
          · replace h := h.2 (is_ne.f hc)
            refine t_gd false true (by kernel_rfl) (fun hn => by cases hn) (fun _ => ?_)
            refine t_gd false true (by kernel_rfl) (fun hn => by cases hn) (fun _ => ?_)
            refine t_gd false true (by kernel_rfl) (fun hn => by cases hn) (fun _ => ?_)
            refine t_gdU false (by kernel_rfl) ?_
            refine t_gdU false (by kernel_rfl) ?_
            refine t_gd false true (by kernel_rfl) (fun hn => by cases hn) (fun _ => ?_)
            refine t_gd false false (by kernel_rfl) (fun _ => ?_) (fun hn => by cases hn)
            refine t_gd false false (by kernel_rfl) (fun _ => ?_) (fun hn => by cases hn)
            refine t_gd false false (by kernel_rfl) (fun _ => ?_) (fun hn => by cases hn)
            refine t_gd false false (by kernel_rfl) (fun _ => ?_) (fun hn => by cases hn)
            refine t_gd ((v27) == 0) true (by kernel_rfl) (fun hc => ?_) (fun hc => ?_)
            · replace h := h.1 (is_eq.t hc)
              refine t_gd true true (by kernel_rfl) (fun _ => ?_) (fun hn => by cases hn)
              refine t_gd true true (by kernel_rfl) (fun _ => ?_) (fun hn => by cases hn)
              refine t_gd true true (by kernel_rfl) (fun _ => ?_) (fun hn => by cases hn)
              refine t_gd ((r6) != 0) false (by kernel_rfl) (fun hc => ?_) (fun hc => ?_)
              · replace h := h.2 (is_ne.f hc)
                refine t_gd false false (by kernel_rfl) (fun _ => ?_) (fun hn => by cases hn)
                refine t_gd false false (by kernel_rfl) (fun _ => ?_) (fun hn => by cases hn)
                refine t_gd false false (by kernel_rfl) (fun _ => ?_) (fun hn => by cases hn)
                refine t_call true nFChance [percents0, (.agg [(.int .i64 r1), r2])] H47 (by kernel_rfl) h ?_
                clear h
                rintro _ H60 ⟨r59, rfl, h⟩
                refine t_gd false false (by kernel_rfl) (fun _ => ?_) (fun hn => by cases hn)
                refine t_gd true true (by kernel_rfl) (fun _ => ?_) (fun hn => by cases hn)
                refine t_gd false false (by kernel_rfl) (fun _ => ?_) (fun hn => by cases hn)
                refine t_done [percents0, (.agg [(.int .i64 r1), r2]), (.int .i64 budget3), (.bool false), (.agg [(.int .i64 r1), r2]), (.bool (!r17)), (.agg [(.int .i64 v27), (.int .i64 v28)]), d29, (.agg [(.int .i64 w44), (.int .i64 w45)]), d46, (.agg [(.int .i64 r6), (.int .i64 r7)]), (.int .i64 r5), (.bool ((r5) != r59)), .undef, (.agg [(.int .i64 r12), (.int .i64 r13)]), r11, .undef, .undef, .undef, .undef, .undef, .undef, .undef, .undef, .undef, .undef, .undef, .undef, .undef] H60 (by kernel_rfl) ?_
                refine then_norm ?_
                refine w_cond (t := ((r5) != r59)) rfl (fun hc => ?_) (fun hc => ?_)
                · replace h := h.1 (is_ne.t hc)
                  refine w_seq ?_
                  refine w_run [0] ?_
                  refine t_done [percents0, (.agg [(.int .i64 r1), r2]), (.int .i64 budget3), (.bool false), (.agg [(.int .i64 r1), r2]), (.bool (!r17)), (.agg [(.int .i64 v27), (.int .i64 v28)]), d29, (.agg [(.int .i64 w44), (.int .i64 w45)]), d46, (.agg [(.int .i64 r6), (.int .i64 r7)]), (.int .i64 r5), (.bool ((r5) != r59)), .undef, (.agg [(.int .i64 r12), (.int .i64 r13)]), r11, .undef, .undef, .undef, .undef, .undef, .undef, .undef, .undef, .undef, .undef, .undef, .undef, .undef] H60 (by kernel_rfl) ?_
                  refine then_norm ?_
                  refine w_ret ?_
                  refine join_ret ?_
                  refine then_ret ?_
                  exact body_ret (vs := [(.bool false)]) _ (by kernel_rfl) rfl h
                · replace h := h.2 (is_ne.f hc)
                  refine w_skip ?_
                  refine join_norm ⟨_, _, rfl, h⟩
              · replace h := h.1 (is_ne.t hc)
                refine t_gd true false (by kernel_rfl) (fun hn => by cases hn) (fun _ => ?_)
                refine t_gd true false (by kernel_rfl) (fun hn => by cases hn) (fun _ => ?_)
                refine t_gd true false (by kernel_rfl) (fun hn => by cases hn) (fun _ => ?_)
                refine t_gd true false (by kernel_rfl) (fun hn => by cases hn) (fun _ => ?_)
                refine t_gd true true (by kernel_rfl) (fun _ => ?_) (fun hn => by cases hn)
                refine t_gd false false (by kernel_rfl) (fun _ => ?_) (fun hn => by cases hn)
                refine t_done [percents0, (.agg [(.int .i64 r1), r2]), (.int .i64 budget3), (.bool false), (.agg [(.int .i64 r1), r2]), (.bool (!r17)), (.agg [(.int .i64 v27), (.int .i64 v28)]), d29, (.agg [(.int .i64 w44), (.int .i64 w45)]), d46, (.agg [(.int .i64 r6), (.int .i64 r7)]), (.int .i64 r5), (.bool true), .undef, (.agg [(.int .i64 r12), (.int .i64 r13)]), r11, .undef, .undef, .undef, .undef, .undef, .undef, .undef, .undef, .undef, .undef, .undef, .undef, .undef] H47 (by kernel_rfl) ?_
                refine then_norm ?_
                refine w_cond (t := true) rfl (fun _ => ?_) (fun hc => by cases hc)
                refine w_seq ?_
                refine w_run [0] ?_
                refine t_done [percents0, (.agg [(.int .i64 r1), r2]), (.int .i64 budget3), (.bool false), (.agg [(.int .i64 r1), r2]), (.bool (!r17)), (.agg [(.int .i64 v27), (.int .i64 v28)]), d29, (.agg [(.int .i64 w44), (.int .i64 w45)]), d46, (.agg [(.int .i64 r6), (.int .i64 r7)]), (.int .i64 r5), (.bool true), .undef, (.agg [(.int .i64 r12), (.int .i64 r13)]), r11, .undef, .undef, .undef, .undef, .undef, .undef, .undef, .undef, .undef, .undef, .undef, .undef, .undef] H47 (by kernel_rfl) ?_
                refine then_norm ?_
                refine w_ret ?_
                refine join_ret ?_
                refine then_ret ?_
                exact body_ret (vs := [(.bool false)]) _ (by kernel_rfl) rfl h
            · replace h := h.2 (is_eq.f hc)
              refine t_gd false true (by kernel_rfl) (fun hn => by cases hn) (fun _ => ?_)
              refine t_gd false true (by kernel_rfl) (fun hn => by cases hn) (fun _ => ?_)
              refine t_gd false true (by kernel_rfl) (fun hn => by cases hn) (fun _ => ?_)
              refine t_gdU false (by kernel_rfl) ?_
              refine t_gdU false (by kernel_rfl) ?_
              refine t_gdU false (by kernel_rfl) ?_
              refine t_gdU false (by kernel_rfl) ?_
              refine t_gdU false (by kernel_rfl) ?_
              refine t_gd false true (by kernel_rfl) (fun hn => by cases hn) (fun _ => ?_)
              refine t_gd false false (by kernel_rfl) (fun _ => ?_) (fun hn => by cases hn)
              refine t_done [percents0, (.agg [(.int .i64 r1), r2]), (.int .i64 budget3), (.bool false), (.agg [(.int .i64 r1), r2]), (.bool (!r17)), (.agg [(.int .i64 v27), (.int .i64 v28)]), d29, (.agg [(.int .i64 w44), (.int .i64 w45)]), d46, (.agg [(.int .i64 r6), (.int .i64 r7)]), (.int .i64 r5), (.bool false), .undef, (.agg [(.int .i64 r12), (.int .i64 r13)]), r11, .undef, .undef, .undef, .undef, .undef, .undef, .undef, .undef, .undef, .undef, .undef, .undef, .undef] H47 (by kernel_rfl) ?_
              refine then_norm ?_
              refine w_cond (t := false) rfl (fun hc => by cases hc) (fun _ => ?_)
              refine w_skip ?_
              refine join_norm ⟨_, _, rfl, h⟩
        · clear h
          rintro EI H55 ⟨d53, d54, rfl, hJ⟩
          have h := hK H55 hJ
          clear hJ hK
          refine then_norm ?_
          refine w_seq ?_
          refine w_seq ?_
          refine w_run [0, 0, 0] ?_
          refine t_done [percents0, (.agg [(.int .i64 r1), r2]), (.int .i64 budget3), d53, (.agg [(.int .i64 r1), r2]), (.bool (!r17)), (.agg [(.int .i64 v27), (.int .i64 v28)]), d29, (.agg [(.int .i64 w44), (.int .i64 w45)]), d46, (.agg [(.int .i64 r6), (.int .i64 r7)]), (.int .i64 r5), d54, (.bool ((w44) != 0)), (.agg [(.int .i64 r12), (.int .i64 r13)]), r11, .undef, .undef, .undef, .undef, .undef, .undef, .undef, .undef, .undef, .undef, .undef, .undef, .undef] H55 (by kernel_rfl) ?_
          refine then_norm ?_
          refine w_cond (t := ((w44) != 0)) rfl (fun hc => ?_) (fun hc => ?_)
          · replace h := h.1 (is_ne.t hc)
            refine w_seq ?_
            refine w_run [0, 0, 0, 0, 0, 1, 0, 0, 0] ?_
            obtain ⟨len62, hl, h⟩ := h
            refine t_len true r11 len62 H55 (by kernel_rfl) hl ?_
            refine t_done [percents0, (.agg [(.int .i64 r1), r2]), (.int .i64 budget3), (.bool ((((r12) == w44) && (((r13) == w45) && true)) && (((len62 : Int)) == 0))), (.agg [(.int .i64 r1), r2]), (.bool (!r17)), (.agg [(.int .i64 v27), (.int .i64 v28)]), d29, (.agg [(.int .i64 w44), (.int .i64 w45)]), d46, (.agg [(.int .i64 r6), (.int .i64 r7)]), (.int .i64 r5), d54, (.bool ((w44) != 0)), (.agg [(.int .i64 r12), (.int .i64 r13)]), r11, .undef, .undef, .undef, .undef, .undef, .undef, .undef, .undef, .undef, .undef, .undef, .undef, .undef] H55 (by kernel_rfl) ?_
            refine then_norm ?_
            refine w_ret ?_
            refine then_ret ?_
            exact body_ret (vs := [(.bool ((((r12) == w44) && (((r13) == w45) && true)) && (((len62 : Int)) == 0)))]) _ (by kernel_rfl) rfl h
          · replace h := h.2 (is_ne.f hc)
            refine w_skip ?_
            refine then_norm ?_
            refine w_seq ?_
            refine w_seq ?_
            refine w_run [0, 0, 0, 0, 0, 1, 0, 0, 0] ?_
            obtain ⟨len63, hl, h⟩ := h
            refine t_len true r11 len63 H55 (by kernel_rfl) hl ?_
            refine t_done [percents0, (.agg [(.int .i64 r1), r2]), (.int .i64 budget3), d53, (.agg [(.int .i64 r1), r2]), (.bool (!r17)), (.agg [(.int .i64 v27), (.int .i64 v28)]), d29, (.agg [(.int .i64 w44), (.int .i64 w45)]), d46, (.agg [(.int .i64 r6), (.int .i64 r7)]), (.int .i64 r5), d54, (.bool ((w44) != 0)), (.agg [(.int .i64 r12), (.int .i64 r13)]), r11, (.bool (((r12) != 0) || (decide ((len63 : Int) > budget3)))), .undef, .undef, .undef, .undef, .undef, .undef, .undef, .undef, .undef, .undef, .undef, .undef] H55 (by kernel_rfl) ?_
            refine then_norm ?_
            refine w_cond (t := (((r12) != 0) || (decide ((len63 : Int) > budget3)))) rfl (fun hc => ?_) (fun hc => ?_)
            · replace h := h.1 ((is_or is_ne is_dec).t hc)
              refine w_seq ?_
              refine w_run [0] ?_
              refine t_done [percents0, (.agg [(.int .i64 r1), r2]), (.int .i64 budget3), (.bool false), (.agg [(.int .i64 r1), r2]), (.bool (!r17)), (.agg [(.int .i64 v27), (.int .i64 v28)]), d29, (.agg [(.int .i64 w44), (.int .i64 w45)]), d46, (.agg [(.int .i64 r6), (.int .i64 r7)]), (.int .i64 r5), d54, (.bool ((w44) != 0)), (.agg [(.int .i64 r12), (.int .i64 r13)]), r11, (.bool (((r12) != 0) || (decide ((len63 : Int) > budget3)))), .undef, .undef, .undef, .undef, .undef, .undef, .undef, .undef, .undef, .undef, .undef, .undef] H55 (by kernel_rfl) ?_
              refine then_norm ?_
              refine w_ret ?_
              refine then_ret ?_
              exact body_ret (vs := [(.bool false)]) _ (by kernel_rfl) rfl h
            · replace h := h.2 ((is_or is_ne is_dec).f hc)
              refine w_skip ?_
              refine then_norm ?_
              refine w_seq ?_
              refine w_run [0] ?_
              refine t_done [percents0, (.agg [(.int .i64 r1), r2]), (.int .i64 budget3), d53, (.agg [(.int .i64 r1), r2]), (.bool (!r17)), (.agg [(.int .i64 v27), (.int .i64 v28)]), d29, (.agg [(.int .i64 w44), (.int .i64 w45)]), d46, (.agg [(.int .i64 r6), (.int .i64 r7)]), (.int .i64 r5), d54, (.bool ((w44) != 0)), (.agg [(.int .i64 r12), (.int .i64 r13)]), r11, (.bool (((r12) != 0) || (decide ((len63 : Int) > budget3)))), .undef, .undef, .undef, .undef, .undef, .undef, (.int .i64 0), .undef, .undef, .undef, .undef, .undef] H55 (by kernel_rfl) ?_
              refine then_norm ?_
              refine w_seq ?_
              refine w_run [0] ?_
              refine t_done [percents0, (.agg [(.int .i64 r1), r2]), (.int .i64 budget3), d53, (.agg [(.int .i64 r1), r2]), (.bool (!r17)), (.agg [(.int .i64 v27), (.int .i64 v28)]), d29, (.agg [(.int .i64 w44), (.int .i64 w45)]), d46, (.agg [(.int .i64 r6), (.int .i64 r7)]), (.int .i64 r5), d54, (.bool ((w44) != 0)), (.agg [(.int .i64 r12), (.int .i64 r13)]), r11, (.bool (((r12) != 0) || (decide ((len63 : Int) > budget3)))), .undef, .undef, .undef, .undef, .undef, .undef, (.int .i64 0), .undef, (.int .i64 0), .undef, .undef, .undef] H55 (by kernel_rfl) ?_
              refine then_norm ?_
              refine w_seq ?_
              refine w_seq ?_
              refine w_run [0] ?_
              refine t_done [percents0, (.agg [(.int .i64 r1), r2]), (.int .i64 budget3), d53, (.agg [(.int .i64 r1), r2]), (.bool (!r17)), (.agg [(.int .i64 v27), (.int .i64 v28)]), d29, (.agg [(.int .i64 w44), (.int .i64 w45)]), d46, (.agg [(.int .i64 r6), (.int .i64 r7)]), (.int .i64 r5), d54, (.bool ((w44) != 0)), (.agg [(.int .i64 r12), (.int .i64 r13)]), r11, (.bool (((r12) != 0) || (decide ((len63 : Int) > budget3)))), (.int .i64 0), .undef, .undef, .undef, .undef, .undef, (.int .i64 0), .undef, (.int .i64 0), .undef, .undef, .undef] H55 (by kernel_rfl) ?_
              refine then_norm ?_
              refine w_block ?_
              obtain ⟨J64, k65, h0, h⟩ := h
              refine w_loop (I := fun mI EI HI => ∃ (last67 : Int) (d68 : AV) (d69 : AV) (d70 : AV) (d71 : AV) (d72 : AV) (positive73 : Int) (d74 : AV) (better75 : Int), EI = [percents0, (.agg [(.int .i64 r1), r2]), (.int .i64 budget3), d53, (.agg [(.int .i64 r1), r2]), (.bool (!r17)), (.agg [(.int .i64 v27), (.int .i64 v28)]), d29, (.agg [(.int .i64 w44), (.int .i64 w45)]), d46, (.agg [(.int .i64 r6), (.int .i64 r7)]), (.int .i64 r5), d54, (.bool ((w44) != 0)), (.agg [(.int .i64 r12), (.int .i64 r13)]), r11, (.bool (((r12) != 0) || (decide ((len63 : Int) > budget3)))), (.int .i64 last67), d68, d69, d70, d71, d72, (.int .i64 positive73), d74, (.int .i64 better75), .undef, .undef, .undef] ∧ J64 mI last67 positive73 better75 HI) ?_ k65 ⟨_, _, _, _, _, _, _, _, _, rfl, h0⟩
              clear h0
              rintro m66 EI H76 ⟨last67, d68, d69, d70, d71, d72, positive73, d74, better75, rfl, hJ⟩
              replace h := h m66 last67 positive73 better75 H76 hJ
              clear hJ
              refine w_seq ?_
              refine w_seq ?_
              refine w_run [0, 0, 1, 0] ?_
              obtain ⟨len77, hl, h⟩ := h
              refine t_len true percents0 len77 H76 (by kernel_rfl) hl ?_
              refine t_done [percents0, (.agg [(.int .i64 r1), r2]), (.int .i64 budget3), d53, (.agg [(.int .i64 r1), r2]), (.bool (!r17)), (.agg [(.int .i64 v27), (.int .i64 v28)]), d29, (.agg [(.int .i64 w44), (.int .i64 w45)]), d46, (.agg [(.int .i64 r6), (.int .i64 r7)]), (.int .i64 r5), d54, (.bool ((w44) != 0)), (.agg [(.int .i64 r12), (.int .i64 r13)]), r11, (.bool (((r12) != 0) || (decide ((len63 : Int) > budget3)))), (.int .i64 last67), (.bool (decide (last67 < (len77 : Int)))), d69, d70, d71, d72, (.int .i64 positive73), d74, (.int .i64 better75), .undef, .undef, .undef] H76 (by kernel_rfl) ?_
              refine then_norm ?_
              refine w_cond (t := (decide (last67 < (len77 : Int)))) rfl (fun hc => ?_) (fun hc => ?_)
              · replace h := h.1 (is_dec.t hc)
                refine w_skip ?_
                refine then_norm ?_
                refine w_seq ?_
                refine w_block ?_
                refine w_seq ?_
                refine w_run [0] ?_
                refine t_done [percents0, (.agg [(.int .i64 r1), r2]), (.int .i64 budget3), d53, (.agg [(.int .i64 r1), r2]), (.bool (!r17)), (.agg [(.int .i64 v27), (.int .i64 v28)]), d29, (.agg [(.int .i64 w44), (.int .i64 w45)]), d46, (.agg [(.int .i64 r6), (.int .i64 r7)]), (.int .i64 r5), d54, (.bool ((w44) != 0)), (.agg [(.int .i64 r12), (.int .i64 r13)]), r11, (.bool (((r12) != 0) || (decide ((len63 : Int) > budget3)))), (.int .i64 last67), (.bool (decide (last67 < (len77 : Int)))), (.int .i64 0), d70, d71, d72, (.int .i64 positive73), d74, (.int .i64 better75), .undef, .undef, .undef] H76 (by kernel_rfl) ?_
                refine then_norm ?_
                refine w_block ?_
                obtain ⟨J78, k79, h0, h⟩ := h
                refine w_loop (I := fun mI EI HI => ∃ (weight81 : Int) (d82 : AV) (d83 : AV) (d84 : AV) (positive85 : Int) (d86 : AV) (better87 : Int), EI = [percents0, (.agg [(.int .i64 r1), r2]), (.int .i64 budget3), d53, (.agg [(.int .i64 r1), r2]), (.bool (!r17)), (.agg [(.int .i64 v27), (.int .i64 v28)]), d29, (.agg [(.int .i64 w44), (.int .i64 w45)]), d46, (.agg [(.int .i64 r6), (.int .i64 r7)]), (.int .i64 r5), d54, (.bool ((w44) != 0)), (.agg [(.int .i64 r12), (.int .i64 r13)]), r11, (.bool (((r12) != 0) || (decide ((len63 : Int) > budget3)))), (.int .i64 last67), (.bool (decide (last67 < (len77 : Int)))), (.int .i64 weight81), d82, d83, d84, (.int .i64 positive85), d86, (.int .i64 better87), .undef, .undef, .undef] ∧ J78 mI weight81 positive85 better87 HI) ?_ k79 ⟨_, _, _, _, _, _, _, rfl, h0⟩
                clear h0
                rintro m80 EI H88 ⟨weight81, d82, d83, d84, positive85, d86, better87, rfl, hJ⟩
                replace h := h m80 weight81 positive85 better87 H88 hJ
                clear hJ
                refine w_seq ?_
                refine w_seq ?_
                refine w_run [0, 0, 1, 0] ?_
                obtain ⟨hq, h⟩ := h
                refine t_shl true .no .i64 .i64 1 last67 H88 (by kernel_rfl) hq ?_
                refine t_done [percents0, (.agg [(.int .i64 r1), r2]), (.int .i64 budget3), d53, (.agg [(.int .i64 r1), r2]), (.bool (!r17)), (.agg [(.int .i64 v27), (.int .i64 v28)]), d29, (.agg [(.int .i64 w44), (.int .i64 w45)]), d46, (.agg [(.int .i64 r6), (.int .i64 r7)]), (.int .i64 r5), d54, (.bool ((w44) != 0)), (.agg [(.int .i64 r12), (.int .i64 r13)]), r11, (.bool (((r12) != 0) || (decide ((len63 : Int) > budget3)))), (.int .i64 last67), (.bool (decide (last67 < (len77 : Int)))), (.int .i64 weight81), (.bool (decide (weight81 < (IntKind.wrap .i64 (1 * 2 ^ (Min.min (Int.toNat last67) (IntKind.bits .i64))))))), d83, d84, (.int .i64 positive85), d86, (.int .i64 better87), .undef, .undef, .undef] H88 (by kernel_rfl) ?_
                refine then_norm ?_
                refine w_cond (t := (decide (weight81 < (IntKind.wrap .i64 (1 * 2 ^ (Min.min (Int.toNat last67) (IntKind.bits .i64))))))) rfl (fun hc => ?_) (fun hc => ?_)
                · replace h := h.1 (is_dec.t hc)
                  refine w_skip ?_
                  refine then_norm ?_
                  refine w_seq ?_
                  refine w_block ?_
                  refine w_seq ?_
                  refine w_run [0, 0, 1, 1, 1] ?_
                  refine t_call true nFRunOf [(.int .i64 last67), (.int .i64 weight81)] H88 (by kernel_rfl) h ?_
                  clear h
                  rintro _ H91 ⟨r89, r90, rfl, h⟩
                  obtain ⟨H93, hb⟩ : ∃ H', Dead1 H91 1 H' := ⟨_, ⟨rfl⟩⟩
                  replace h := h H93 hb
                  refine t_tomb true 1 (.agg [(.int .i64 0), .empty]) [(.int .i64 0), .empty] H93 H91 (by kernel_rfl) rfl hb ?_
                  obtain ⟨hs94, h⟩ := h
                  refine t_upd true 2 0 [(.int .i64 0), .empty] (.agg [(.int .i64 r89), r90]) [(.int .i64 r89), r90] [(.int .i64 r89), r90] H93 (by kernel_rfl) rfl (all_c rfl (all_c hs94.2 all_n)) ⟨rfl, Nat.le_of_ble_eq_true (by kernel_rfl), rfl⟩ ?_
                  refine t_done [percents0, (.agg [(.int .i64 r1), r2]), (.int .i64 budget3), d53, (.agg [(.int .i64 r1), r2]), (.bool (!r17)), (.agg [(.int .i64 v27), (.int .i64 v28)]), d29, (.agg [(.int .i64 w44), (.int .i64 w45)]), d46, (.agg [(.int .i64 r6), (.int .i64 r7)]), (.int .i64 r5), d54, (.bool ((w44) != 0)), (.agg [(.int .i64 r12), (.int .i64 r13)]), r11, (.bool (((r12) != 0) || (decide ((len63 : Int) > budget3)))), (.int .i64 last67), (.bool (decide (last67 < (len77 : Int)))), (.int .i64 weight81), (.bool (decide (weight81 < (IntKind.wrap .i64 (1 * 2 ^ (Min.min (Int.toNat last67) (IntKind.bits .i64))))))), (.agg [(.int .i64 r89), r90]), d84, (.int .i64 positive85), d86, (.int .i64 better87), .undef, .undef, .undef] H93 (by kernel_rfl) ?_
                  refine then_norm ?_
                  refine w_seq ?_
                  refine w_seq ?_
                  refine w_run [0, 0, 1, 0] ?_
                  refine t_call true nFChance [percents0, (.agg [(.int .i64 r89), r90])] H93 (by kernel_rfl) h ?_
                  clear h
                  rintro _ H96 ⟨r95, rfl, h⟩
                  refine t_done [percents0, (.agg [(.int .i64 r1), r2]), (.int .i64 budget3), d53, (.agg [(.int .i64 r1), r2]), (.bool (!r17)), (.agg [(.int .i64 v27), (.int .i64 v28)]), d29, (.agg [(.int .i64 w44), (.int .i64 w45)]), d46, (.agg [(.int .i64 r6), (.int .i64 r7)]), (.int .i64 r5), d54, (.bool ((w44) != 0)), (.agg [(.int .i64 r12), (.int .i64 r13)]), r11, (.bool (((r12) != 0) || (decide ((len63 : Int) > budget3)))), (.int .i64 last67), (.bool (decide (last67 < (len77 : Int)))), (.int .i64 weight81), (.bool (decide (weight81 < (IntKind.wrap .i64 (1 * 2 ^ (Min.min (Int.toNat last67) (IntKind.bits .i64))))))), (.agg [(.int .i64 r89), r90]), (.bool ((r95) == 0)), (.int .i64 positive85), d86, (.int .i64 better87), .undef, .undef, .undef] H96 (by kernel_rfl) ?_
                  refine then_norm ?_
                  refine w_cond (t := ((r95) == 0)) rfl (fun hc => ?_) (fun hc => ?_)
                  · replace h := h.1 (is_eq.t hc)
                    refine w_exit ?_
                    refine then_exit ?_
                    refine block_exit ?_
                    refine then_norm ?_
                    refine w_run [0, 0, 0] ?_
                    refine t_done [percents0, (.agg [(.int .i64 r1), r2]), (.int .i64 budget3), d53, (.agg [(.int .i64 r1), r2]), (.bool (!r17)), (.agg [(.int .i64 v27), (.int .i64 v28)]), d29, (.agg [(.int .i64 w44), (.int .i64 w45)]), d46, (.agg [(.int .i64 r6), (.int .i64 r7)]), (.int .i64 r5), d54, (.bool ((w44) != 0)), (.agg [(.int .i64 r12), (.int .i64 r13)]), r11, (.bool (((r12) != 0) || (decide ((len63 : Int) > budget3)))), (.int .i64 last67), (.bool (decide (last67 < (len77 : Int)))), (.int .i64 (IntKind.wrap .i64 (weight81 + 1))), (.bool (decide (weight81 < (IntKind.wrap .i64 (1 * 2 ^ (Min.min (Int.toNat last67) (IntKind.bits .i64))))))), (.agg [(.int .i64 r89), r90]), (.bool ((r95) == 0)), (.int .i64 positive85), d86, (.int .i64 better87), .undef, .undef, .undef] H96 (by kernel_rfl) ?_
                    obtain ⟨m', hm, h⟩ := h
                    refine loop_norm ⟨m', hm, _, _, _, _, _, _, _, rfl, h⟩
                  · replace h := h.2 (is_eq.f hc)
                    refine w_skip ?_
                    refine then_norm ?_
                    refine w_seq ?_
                    refine w_run [0, 0, 0] ?_
                    refine t_done [percents0, (.agg [(.int .i64 r1), r2]), (.int .i64 budget3), d53, (.agg [(.int .i64 r1), r2]), (.bool (!r17)), (.agg [(.int .i64 v27), (.int .i64 v28)]), d29, (.agg [(.int .i64 w44), (.int .i64 w45)]), d46, (.agg [(.int .i64 r6), (.int .i64 r7)]), (.int .i64 r5), d54, (.bool ((w44) != 0)), (.agg [(.int .i64 r12), (.int .i64 r13)]), r11, (.bool (((r12) != 0) || (decide ((len63 : Int) > budget3)))), (.int .i64 last67), (.bool (decide (last67 < (len77 : Int)))), (.int .i64 weight81), (.bool (decide (weight81 < (IntKind.wrap .i64 (1 * 2 ^ (Min.min (Int.toNat last67) (IntKind.bits .i64))))))), (.agg [(.int .i64 r89), r90]), (.bool ((r95) == 0)), (.int .i64 (IntKind.wrap .i64 (positive85 + 1))), d86, (.int .i64 better87), .undef, .undef, .undef] H96 (by kernel_rfl) ?_
                    refine then_norm ?_
                    refine w_seq ?_
                    refine w_run [0, 1, 0, 0, 0, 0, 0, 0, 1, 0, 3, 3, 3, 0] ?_
                    obtain ⟨len99, hl, h⟩ := h
                    refine t_len true r11 len99 H96 (by kernel_rfl) hl ?_
                    obtain ⟨len100, hl, h⟩ := h
                    refine t_len false r11 len100 H96 (by kernel_rfl) hl ?_
                    refine t_gd (decide ((len99 : Int) > 0)) true (by kernel_rfl) (fun hc => ?_) (fun hc => ?_)
                    · replace h := h.1 (is_dec.t hc)
                      obtain ⟨e101, e102, hg103, h⟩ := h
                      refine t_idxG false 2 r11 .i64 (IntKind.wrap .i64 ((len100 : Int) - 1)) H96 (by kernel_rfl) hg103 ?_
                      refine t_gd true true (by kernel_rfl) (fun _ => ?_) (fun hn => by cases hn)
                      refine t_loadG false (some 2) 2 r11 (IntKind.wrap .i64 ((len100 : Int) - 1)) 0 (.agg [(.int .i64 e101), e102]) H96 (by kernel_rfl) hg103 ?_
                      refine t_gd true true (by kernel_rfl) (fun _ => ?_) (fun hn => by cases hn)
                      refine t_call true nFBefore [percents0, (.agg [(.int .i64 r89), r90]), (.agg [(.int .i64 e101), e102])] H96 (by kernel_rfl) h ?_
                      clear h
                      rintro _ H105 ⟨r104, rfl, h⟩
                      refine t_done [percents0, (.agg [(.int .i64 r1), r2]), (.int .i64 budget3), d53, (.agg [(.int .i64 r1), r2]), (.bool (!r17)), (.agg [(.int .i64 v27), (.int .i64 v28)]), d29, (.agg [(.int .i64 w44), (.int .i64 w45)]), d46, (.agg [(.int .i64 r6), (.int .i64 r7)]), (.int .i64 r5), d54, (.bool ((w44) != 0)), (.agg [(.int .i64 r12), (.int .i64 r13)]), r11, (.bool (((r12) != 0) || (decide ((len63 : Int) > budget3)))), (.int .i64 last67), (.bool (decide (last67 < (len77 : Int)))), (.int .i64 weight81), (.bool (decide (weight81 < (IntKind.wrap .i64 (1 * 2 ^ (Min.min (Int.toNat last67) (IntKind.bits .i64))))))), (.agg [(.int .i64 r89), r90]), (.bool ((r95) == 0)), (.int .i64 (IntKind.wrap .i64 (positive85 + 1))), (.bool r104), (.int .i64 better87), .undef, .undef, .undef] H105 (by kernel_rfl) ?_
                      refine then_norm ?_
                      refine w_cond (t := r104) rfl (fun hc => ?_) (fun hc => ?_)
                      · replace h := h.1 (is_raw.t hc)
                        refine w_run [0, 0, 0] ?_
                        refine t_done [percents0, (.agg [(.int .i64 r1), r2]), (.int .i64 budget3), d53, (.agg [(.int .i64 r1), r2]), (.bool (!r17)), (.agg [(.int .i64 v27), (.int .i64 v28)]), d29, (.agg [(.int .i64 w44), (.int .i64 w45)]), d46, (.agg [(.int .i64 r6), (.int .i64 r7)]), (.int .i64 r5), d54, (.bool ((w44) != 0)), (.agg [(.int .i64 r12), (.int .i64 r13)]), r11, (.bool (((r12) != 0) || (decide ((len63 : Int) > budget3)))), (.int .i64 last67), (.bool (decide (last67 < (len77 : Int)))), (.int .i64 weight81), (.bool (decide (weight81 < (IntKind.wrap .i64 (1 * 2 ^ (Min.min (Int.toNat last67) (IntKind.bits .i64))))))), (.agg [(.int .i64 r89), r90]), (.bool ((r95) == 0)), (.int .i64 (IntKind.wrap .i64 (positive85 + 1))), (.bool r104), (.int .i64 (IntKind.wrap .i64 (better87 + 1))), .undef, .undef, .undef] H105 (by kernel_rfl) ?_
                        refine block_norm ?_
                        refine then_norm ?_
                        refine w_run [0, 0, 0] ?_
                        refine t_done [percents0, (.agg [(.int .i64 r1), r2]), (.int .i64 budget3), d53, (.agg [(.int .i64 r1), r2]), (.bool (!r17)), (.agg [(.int .i64 v27), (.int .i64 v28)]), d29, (.agg [(.int .i64 w44), (.int .i64 w45)]), d46, (.agg [(.int .i64 r6), (.int .i64 r7)]), (.int .i64 r5), d54, (.bool ((w44) != 0)), (.agg [(.int .i64 r12), (.int .i64 r13)]), r11, (.bool (((r12) != 0) || (decide ((len63 : Int) > budget3)))), (.int .i64 last67), (.bool (decide (last67 < (len77 : Int)))), (.int .i64 (IntKind.wrap .i64 (weight81 + 1))), (.bool (decide (weight81 < (IntKind.wrap .i64 (1 * 2 ^ (Min.min (Int.toNat last67) (IntKind.bits .i64))))))), (.agg [(.int .i64 r89), r90]), (.bool ((r95) == 0)), (.int .i64 (IntKind.wrap .i64 (positive85 + 1))), (.bool r104), (.int .i64 (IntKind.wrap .i64 (better87 + 1))), .undef, .undef, .undef] H105 (by kernel_rfl) ?_
                        obtain ⟨m', hm, h⟩ := h
                        refine loop_norm ⟨m', hm, _, _, _, _, _, _, _, rfl, h⟩
                      · replace h := h.2 (is_raw.f hc)
                        refine w_skip ?_
                        refine block_norm ?_
                        refine then_norm ?_
                        refine w_run [0, 0, 0] ?_
                        refine t_done [percents0, (.agg [(.int .i64 r1), r2]), (.int .i64 budget3), d53, (.agg [(.int .i64 r1), r2]), (.bool (!r17)), (.agg [(.int .i64 v27), (.int .i64 v28)]), d29, (.agg [(.int .i64 w44), (.int .i64 w45)]), d46, (.agg [(.int .i64 r6), (.int .i64 r7)]), (.int .i64 r5), d54, (.bool ((w44) != 0)), (.agg [(.int .i64 r12), (.int .i64 r13)]), r11, (.bool (((r12) != 0) || (decide ((len63 : Int) > budget3)))), (.int .i64 last67), (.bool (decide (last67 < (len77 : Int)))), (.int .i64 (IntKind.wrap .i64 (weight81 + 1))), (.bool (decide (weight81 < (IntKind.wrap .i64 (1 * 2 ^ (Min.min (Int.toNat last67) (IntKind.bits .i64))))))), (.agg [(.int .i64 r89), r90]), (.bool ((r95) == 0)), (.int .i64 (IntKind.wrap .i64 (positive85 + 1))), (.bool r104), (.int .i64 better87), .undef, .undef, .undef] H105 (by kernel_rfl) ?_
                        obtain ⟨m', hm, h⟩ := h
                        refine loop_norm ⟨m', hm, _, _, _, _, _, _, _, rfl, h⟩
                    · replace h := h.2 (is_dec.f hc)
                      refine t_gd false true (by kernel_rfl) (fun hn => by cases hn) (fun _ => ?_)
                      refine t_gd false true (by kernel_rfl) (fun hn => by cases hn) (fun _ => ?_)
                      refine t_done [percents0, (.agg [(.int .i64 r1), r2]), (.int .i64 budget3), d53, (.agg [(.int .i64 r1), r2]), (.bool (!r17)), (.agg [(.int .i64 v27), (.int .i64 v28)]), d29, (.agg [(.int .i64 w44), (.int .i64 w45)]), d46, (.agg [(.int .i64 r6), (.int .i64 r7)]), (.int .i64 r5), d54, (.bool ((w44) != 0)), (.agg [(.int .i64 r12), (.int .i64 r13)]), r11, (.bool (((r12) != 0) || (decide ((len63 : Int) > budget3)))), (.int .i64 last67), (.bool (decide (last67 < (len77 : Int)))), (.int .i64 weight81), (.bool (decide (weight81 < (IntKind.wrap .i64 (1 * 2 ^ (Min.min (Int.toNat last67) (IntKind.bits .i64))))))), (.agg [(.int .i64 r89), r90]), (.bool ((r95) == 0)), (.int .i64 (IntKind.wrap .i64 (positive85 + 1))), (.bool false), (.int .i64 better87), .undef, .undef, .undef] H96 (by kernel_rfl) ?_
                      refine then_norm ?_
                      refine w_cond (t := false) rfl (fun hc => by cases hc) (fun _ => ?_)
                      refine w_skip ?_
                      refine block_norm ?_
                      refine then_norm ?_
                      refine w_run [0, 0, 0] ?_
                      refine t_done [percents0, (.agg [(.int .i64 r1), r2]), (.int .i64 budget3), d53, (.agg [(.int .i64 r1), r2]), (.bool (!r17)), (.agg [(.int .i64 v27), (.int .i64 v28)]), d29, (.agg [(.int .i64 w44), (.int .i64 w45)]), d46, (.agg [(.int .i64 r6), (.int .i64 r7)]), (.int .i64 r5), d54, (.bool ((w44) != 0)), (.agg [(.int .i64 r12), (.int .i64 r13)]), r11, (.bool (((r12) != 0) || (decide ((len63 : Int) > budget3)))), (.int .i64 last67), (.bool (decide (last67 < (len77 : Int)))), (.int .i64 (IntKind.wrap .i64 (weight81 + 1))), (.bool (decide (weight81 < (IntKind.wrap .i64 (1 * 2 ^ (Min.min (Int.toNat last67) (IntKind.bits .i64))))))), (.agg [(.int .i64 r89), r90]), (.bool ((r95) == 0)), (.int .i64 (IntKind.wrap .i64 (positive85 + 1))), (.bool false), (.int .i64 better87), .undef, .undef, .undef] H96 (by kernel_rfl) ?_
                      obtain ⟨m', hm, h⟩ := h
                      refine loop_norm ⟨m', hm, _, _, _, _, _, _, _, rfl, h⟩
                · replace h := h.2 (is_dec.f hc)
                  refine w_exit ?_
                  refine then_exit ?_
                  refine loop_exit ?_
                  refine block_exit ?_
                  refine block_norm ?_
                  refine then_norm ?_
                  refine w_run [0, 0, 0] ?_
                  refine t_done [percents0, (.agg [(.int .i64 r1), r2]), (.int .i64 budget3), d53, (.agg [(.int .i64 r1), r2]), (.bool (!r17)), (.agg [(.int .i64 v27), (.int .i64 v28)]), d29, (.agg [(.int .i64 w44), (.int .i64 w45)]), d46, (.agg [(.int .i64 r6), (.int .i64 r7)]), (.int .i64 r5), d54, (.bool ((w44) != 0)), (.agg [(.int .i64 r12), (.int .i64 r13)]), r11, (.bool (((r12) != 0) || (decide ((len63 : Int) > budget3)))), (.int .i64 (IntKind.wrap .i64 (last67 + 1))), (.bool (decide (last67 < (len77 : Int)))), (.int .i64 weight81), (.bool (decide (weight81 < (IntKind.wrap .i64 (1 * 2 ^ (Min.min (Int.toNat last67) (IntKind.bits .i64))))))), d83, d84, (.int .i64 positive85), d86, (.int .i64 better87), .undef, .undef, .undef] H88 (by kernel_rfl) ?_
                  obtain ⟨m', hm, h⟩ := h
                  refine loop_norm ⟨m', hm, _, _, _, _, _, _, _, _, _, rfl, h⟩
              · replace h := h.2 (is_dec.f hc)
                refine w_exit ?_
                refine then_exit ?_
                refine loop_exit ?_
                refine block_exit ?_
                refine then_norm ?_
                refine w_seq ?_
                refine w_seq ?_
                refine w_run [0] ?_
                refine t_done [percents0, (.agg [(.int .i64 r1), r2]), (.int .i64 budget3), d53, (.agg [(.int .i64 r1), r2]), (.bool (!r17)), (.agg [(.int .i64 v27), (.int .i64 v28)]), d29, (.agg [(.int .i64 w44), (.int .i64 w45)]), d46, (.agg [(.int .i64 r6), (.int .i64 r7)]), (.int .i64 r5), d54, (.bool ((w44) != 0)), (.agg [(.int .i64 r12), (.int .i64 r13)]), r11, (.bool (((r12) != 0) || (decide ((len63 : Int) > budget3)))), (.int .i64 last67), (.bool (decide (last67 < (len77 : Int)))), d69, d70, d71, d72, (.int .i64 positive73), d74, (.int .i64 better75), (.int .i64 0), .undef, .undef] H76 (by kernel_rfl) ?_
                refine then_norm ?_
                refine w_block ?_
                obtain ⟨J111, k112, h0, h⟩ := h
                refine w_loop (I := fun mI EI HI => ∃ (d114 : AV) (i115 : Int) (d116 : AV) (d117 : AV), EI = [percents0, (.agg [(.int .i64 r1), r2]), (.int .i64 budget3), d114, (.agg [(.int .i64 r1), r2]), (.bool (!r17)), (.agg [(.int .i64 v27), (.int .i64 v28)]), d29, (.agg [(.int .i64 w44), (.int .i64 w45)]), d46, (.agg [(.int .i64 r6), (.int .i64 r7)]), (.int .i64 r5), d54, (.bool ((w44) != 0)), (.agg [(.int .i64 r12), (.int .i64 r13)]), r11, (.bool (((r12) != 0) || (decide ((len63 : Int) > budget3)))), (.int .i64 last67), (.bool (decide (last67 < (len77 : Int)))), d69, d70, d71, d72, (.int .i64 positive73), d74, (.int .i64 better75), (.int .i64 i115), d116, d117] ∧ J111 mI i115 HI) ?_ k112 ⟨_, _, _, _, rfl, h0⟩
                clear h0
                rintro m113 EI H118 ⟨d114, i115, d116, d117, rfl, hJ⟩
                replace h := h m113 i115 H118 hJ
                clear hJ
                refine w_seq ?_
                refine w_seq ?_
                refine w_run [0, 0, 1, 0] ?_
                obtain ⟨len119, hl, h⟩ := h
                refine t_len true r11 len119 H118 (by kernel_rfl) hl ?_
                refine t_done [percents0, (.agg [(.int .i64 r1), r2]), (.int .i64 budget3), d114, (.agg [(.int .i64 r1), r2]), (.bool (!r17)), (.agg [(.int .i64 v27), (.int .i64 v28)]), d29, (.agg [(.int .i64 w44), (.int .i64 w45)]), d46, (.agg [(.int .i64 r6), (.int .i64 r7)]), (.int .i64 r5), d54, (.bool ((w44) != 0)), (.agg [(.int .i64 r12), (.int .i64 r13)]), r11, (.bool (((r12) != 0) || (decide ((len63 : Int) > budget3)))), (.int .i64 last67), (.bool (decide (last67 < (len77 : Int)))), d69, d70, d71, d72, (.int .i64 positive73), d74, (.int .i64 better75), (.int .i64 i115), (.bool (decide (i115 < (len119 : Int)))), d117] H118 (by kernel_rfl) ?_
                refine then_norm ?_
                refine w_cond (t := (decide (i115 < (len119 : Int)))) rfl (fun hc => ?_) (fun hc => ?_)
                · replace h := h.1 (is_dec.t hc)
                  refine w_skip ?_
                  refine then_norm ?_
                  refine w_seq ?_
                  refine w_block ?_
                  refine w_seq ?_
                  refine w_run [0, 1, 0, 0, 1, 1, 1, 0, 0, 2, 2, 2, 3, 3, 3, 2, 0, 0, 2, 2, 2, 2, 2, 2, 2, 3, 3, 2, 2, 3, 3, 3, 2, 2, 0] ?_
                  obtain ⟨len120, hl, h⟩ := h
                  refine t_len false percents0 len120 H118 (by kernel_rfl) hl ?_
                  obtain ⟨e121, e122, hg123, h⟩ := h
                  refine t_idxG true 2 r11 .i64 i115 H118 (by kernel_rfl) hg123 ?_
                  refine t_loadG true (some 2) 2 r11 i115 0 (.agg [(.int .i64 e121), e122]) H118 (by kernel_rfl) hg123 ?_
                  refine t_call true nFRunCode [(.int .i64 (len120 : Int)), (.agg [(.int .i64 e121), e122])] H118 (by kernel_rfl) h ?_
                  clear h
                  rintro _ H125 ⟨r124, rfl, h⟩
                  refine t_gd ((r124) != 0) false (by kernel_rfl) (fun hc => ?_) (fun hc => ?_)
                  · replace h := h.2 (is_ne.f hc)
                    refine t_gd false false (by kernel_rfl) (fun _ => ?_) (fun hn => by cases hn)
                    refine t_gd false false (by kernel_rfl) (fun _ => ?_) (fun hn => by cases hn)
                    refine t_gd false false (by kernel_rfl) (fun _ => ?_) (fun hn => by cases hn)
                    obtain ⟨e127, e128, hg129, h⟩ := h
                    refine t_idxG true 2 r11 .i64 i115 H125 (by kernel_rfl) hg129 ?_
                    refine t_gd false false (by kernel_rfl) (fun _ => ?_) (fun hn => by cases hn)
                    refine t_loadG true (some 2) 2 r11 i115 0 (.agg [(.int .i64 e127), e128]) H125 (by kernel_rfl) hg129 ?_
                    refine t_gd false false (by kernel_rfl) (fun _ => ?_) (fun hn => by cases hn)
                    refine t_call true nFChance [percents0, (.agg [(.int .i64 e127), e128])] H125 (by kernel_rfl) h ?_
                    clear h
                    rintro _ H131 ⟨r130, rfl, h⟩
                    refine t_gd false false (by kernel_rfl) (fun _ => ?_) (fun hn => by cases hn)
                    refine t_gd ((r130) == 0) false (by kernel_rfl) (fun hc => ?_) (fun hc => ?_)
                    · replace h := h.2 (is_eq.f hc)
                      refine t_gd false false (by kernel_rfl) (fun _ => ?_) (fun hn => by cases hn)
                      refine t_gd false false (by kernel_rfl) (fun _ => ?_) (fun hn => by cases hn)
                      refine t_gd (decide (i115 > 0)) true (by kernel_rfl) (fun hc => ?_) (fun hc => ?_)
                      · replace h := h.1 (is_dec.t hc)
                        refine t_gd true true (by kernel_rfl) (fun _ => ?_) (fun hn => by cases hn)
                        refine t_gd true true (by kernel_rfl) (fun _ => ?_) (fun hn => by cases hn)
                        refine t_gd true true (by kernel_rfl) (fun _ => ?_) (fun hn => by cases hn)
                        refine t_gd true true (by kernel_rfl) (fun _ => ?_) (fun hn => by cases hn)
                        obtain ⟨e133, e134, hg135, h⟩ := h
                        refine t_idxG false 2 r11 .i64 (IntKind.wrap .i64 (i115 - 1)) H131 (by kernel_rfl) hg135 ?_
                        refine t_gd true true (by kernel_rfl) (fun _ => ?_) (fun hn => by cases hn)
                        refine t_loadG false (some 2) 2 r11 (IntKind.wrap .i64 (i115 - 1)) 0 (.agg [(.int .i64 e133), e134]) H131 (by kernel_rfl) hg135 ?_
                        refine t_gd true true (by kernel_rfl) (fun _ => ?_) (fun hn => by cases hn)
                        refine t_gd true true (by kernel_rfl) (fun _ => ?_) (fun hn => by cases hn)
                        refine t_gd true true (by kernel_rfl) (fun _ => ?_) (fun hn => by cases hn)
                        obtain ⟨e136, e137, hg138, h⟩ := h
                        refine t_idxG false 2 r11 .i64 i115 H131 (by kernel_rfl) hg138 ?_
                        refine t_gd true true (by kernel_rfl) (fun _ => ?_) (fun hn => by cases hn)
                        refine t_loadG false (some 2) 2 r11 i115 0 (.agg [(.int .i64 e136), e137]) H131 (by kernel_rfl) hg138 ?_
                        refine t_gd true true (by kernel_rfl) (fun _ => ?_) (fun hn => by cases hn)
                        refine t_call true nFBefore [percents0, (.agg [(.int .i64 e133), e134]), (.agg [(.int .i64 e136), e137])] H131 (by kernel_rfl) h ?_
                        clear h
                        rintro _ H140 ⟨r139, rfl, h⟩
                        refine t_gd true true (by kernel_rfl) (fun _ => ?_) (fun hn => by cases hn)
                        refine t_gd false false (by kernel_rfl) (fun _ => ?_) (fun hn => by cases hn)
                        refine t_done [percents0, (.agg [(.int .i64 r1), r2]), (.int .i64 budget3), d114, (.agg [(.int .i64 r1), r2]), (.bool (!r17)), (.agg [(.int .i64 v27), (.int .i64 v28)]), d29, (.agg [(.int .i64 w44), (.int .i64 w45)]), d46, (.agg [(.int .i64 r6), (.int .i64 r7)]), (.int .i64 r5), d54, (.bool ((w44) != 0)), (.agg [(.int .i64 r12), (.int .i64 r13)]), r11, (.bool (((r12) != 0) || (decide ((len63 : Int) > budget3)))), (.int .i64 last67), (.bool (decide (last67 < (len77 : Int)))), d69, d70, d71, d72, (.int .i64 positive73), d74, (.int .i64 better75), (.int .i64 i115), (.bool (decide (i115 < (len119 : Int)))), (.bool (!r139))] H140 (by kernel_rfl) ?_
                        refine then_norm ?_
                        refine w_cond (t := (!r139)) rfl (fun hc => ?_) (fun hc => ?_)
                        · replace h := h.1 ((is_not is_raw).t hc)
                          refine w_seq ?_
                          refine w_run [0] ?_
                          refine t_done [percents0, (.agg [(.int .i64 r1), r2]), (.int .i64 budget3), (.bool false), (.agg [(.int .i64 r1), r2]), (.bool (!r17)), (.agg [(.int .i64 v27), (.int .i64 v28)]), d29, (.agg [(.int .i64 w44), (.int .i64 w45)]), d46, (.agg [(.int .i64 r6), (.int .i64 r7)]), (.int .i64 r5), d54, (.bool ((w44) != 0)), (.agg [(.int .i64 r12), (.int .i64 r13)]), r11, (.bool (((r12) != 0) || (decide ((len63 : Int) > budget3)))), (.int .i64 last67), (.bool (decide (last67 < (len77 : Int)))), d69, d70, d71, d72, (.int .i64 positive73), d74, (.int .i64 better75), (.int .i64 i115), (.bool (decide (i115 < (len119 : Int)))), (.bool (!r139))] H140 (by kernel_rfl) ?_
                          refine then_norm ?_
                          refine w_ret ?_
                          refine block_ret ?_
                          refine then_ret ?_
                          refine loop_ret ?_
                          refine block_ret ?_
                          refine then_ret ?_
                          exact body_ret (vs := [(.bool false)]) _ (by kernel_rfl) rfl h
                        · replace h := h.2 ((is_not is_raw).f hc)
                          refine w_skip ?_
                          refine block_norm ?_
                          refine then_norm ?_
                          refine w_run [0, 0, 0] ?_
                          refine t_done [percents0, (.agg [(.int .i64 r1), r2]), (.int .i64 budget3), d114, (.agg [(.int .i64 r1), r2]), (.bool (!r17)), (.agg [(.int .i64 v27), (.int .i64 v28)]), d29, (.agg [(.int .i64 w44), (.int .i64 w45)]), d46, (.agg [(.int .i64 r6), (.int .i64 r7)]), (.int .i64 r5), d54, (.bool ((w44) != 0)), (.agg [(.int .i64 r12), (.int .i64 r13)]), r11, (.bool (((r12) != 0) || (decide ((len63 : Int) > budget3)))), (.int .i64 last67), (.bool (decide (last67 < (len77 : Int)))), d69, d70, d71, d72, (.int .i64 positive73), d74, (.int .i64 better75), (.int .i64 (IntKind.wrap .i64 (i115 + 1))), (.bool (decide (i115 < (len119 : Int)))), (.bool (!r139))] H140 (by kernel_rfl) ?_
                          obtain ⟨m', hm, h⟩ := h
                          refine loop_norm ⟨m', hm, _, _, _, _, rfl, h⟩
                      · replace h := h.2 (is_dec.f hc)
                        refine t_gd false true (by kernel_rfl) (fun hn => by cases hn) (fun _ => ?_)
                        refine t_gd false true (by kernel_rfl) (fun hn => by cases hn) (fun _ => ?_)
                        refine t_gd false true (by kernel_rfl) (fun hn => by cases hn) (fun _ => ?_)
                        refine t_gd false true (by kernel_rfl) (fun hn => by cases hn) (fun _ => ?_)
                        refine t_gd false true (by kernel_rfl) (fun hn => by cases hn) (fun _ => ?_)
                        refine t_gd false true (by kernel_rfl) (fun hn => by cases hn) (fun _ => ?_)
                        refine t_gd false true (by kernel_rfl) (fun hn => by cases hn) (fun _ => ?_)
                        refine t_gd false true (by kernel_rfl) (fun hn => by cases hn) (fun _ => ?_)
                        refine t_gd false true (by kernel_rfl) (fun hn => by cases hn) (fun _ => ?_)
                        refine t_gd false true (by kernel_rfl) (fun hn => by cases hn) (fun _ => ?_)
                        refine t_gd false true (by kernel_rfl) (fun hn => by cases hn) (fun _ => ?_)
                        refine t_gd false false (by kernel_rfl) (fun _ => ?_) (fun hn => by cases hn)
                        refine t_done [percents0, (.agg [(.int .i64 r1), r2]), (.int .i64 budget3), d114, (.agg [(.int .i64 r1), r2]), (.bool (!r17)), (.agg [(.int .i64 v27), (.int .i64 v28)]), d29, (.agg [(.int .i64 w44), (.int .i64 w45)]), d46, (.agg [(.int .i64 r6), (.int .i64 r7)]), (.int .i64 r5), d54, (.bool ((w44) != 0)), (.agg [(.int .i64 r12), (.int .i64 r13)]), r11, (.bool (((r12) != 0) || (decide ((len63 : Int) > budget3)))), (.int .i64 last67), (.bool (decide (last67 < (len77 : Int)))), d69, d70, d71, d72, (.int .i64 positive73), d74, (.int .i64 better75), (.int .i64 i115), (.bool (decide (i115 < (len119 : Int)))), (.bool false)] H131 (by kernel_rfl) ?_
                        refine then_norm ?_
                        refine w_cond (t := false) rfl (fun hc => by cases hc) (fun _ => ?_)
                        refine w_skip ?_
                        refine block_norm ?_
                        refine then_norm ?_
                        refine w_run [0, 0, 0] ?_
                        refine t_done [percents0, (.agg [(.int .i64 r1), r2]), (.int .i64 budget3), d114, (.agg [(.int .i64 r1), r2]), (.bool (!r17)), (.agg [(.int .i64 v27), (.int .i64 v28)]), d29, (.agg [(.int .i64 w44), (.int .i64 w45)]), d46, (.agg [(.int .i64 r6), (.int .i64 r7)]), (.int .i64 r5), d54, (.bool ((w44) != 0)), (.agg [(.int .i64 r12), (.int .i64 r13)]), r11, (.bool (((r12) != 0) || (decide ((len63 : Int) > budget3)))), (.int .i64 last67), (.bool (decide (last67 < (len77 : Int)))), d69, d70, d71, d72, (.int .i64 positive73), d74, (.int .i64 better75), (.int .i64 (IntKind.wrap .i64 (i115 + 1))), (.bool (decide (i115 < (len119 : Int)))), (.bool false)] H131 (by kernel_rfl) ?_
                        obtain ⟨m', hm, h⟩ := h
                        refine loop_norm ⟨m', hm, _, _, _, _, rfl, h⟩
                    · replace h := h.1 (is_eq.t hc)
                      refine t_gd true false (by kernel_rfl) (fun hn => by cases hn) (fun _ => ?_)
                      refine t_gd true false (by kernel_rfl) (fun hn => by cases hn) (fun _ => ?_)
                      refine t_gdU true (by kernel_rfl) ?_
                      refine t_gdU true (by kernel_rfl) ?_
                      refine t_gdU true (by kernel_rfl) ?_
                      refine t_gdU true (by kernel_rfl) ?_
                      refine t_gdU true (by kernel_rfl) ?_
                      refine t_gdU true (by kernel_rfl) ?_
                      refine t_gdU true (by kernel_rfl) ?_
                      refine t_gdU true (by kernel_rfl) ?_
                      refine t_gdU true (by kernel_rfl) ?_
                      refine t_gdU true (by kernel_rfl) ?_
                      refine t_gdU true (by kernel_rfl) ?_
                      refine t_gdU true (by kernel_rfl) ?_
                      refine t_gd true false (by kernel_rfl) (fun hn => by cases hn) (fun _ => ?_)
                      refine t_done [percents0, (.agg [(.int .i64 r1), r2]), (.int .i64 budget3), d114, (.agg [(.int .i64 r1), r2]), (.bool (!r17)), (.agg [(.int .i64 v27), (.int .i64 v28)]), d29, (.agg [(.int .i64 w44), (.int .i64 w45)]), d46, (.agg [(.int .i64 r6), (.int .i64 r7)]), (.int .i64 r5), d54, (.bool ((w44) != 0)), (.agg [(.int .i64 r12), (.int .i64 r13)]), r11, (.bool (((r12) != 0) || (decide ((len63 : Int) > budget3)))), (.int .i64 last67), (.bool (decide (last67 < (len77 : Int)))), d69, d70, d71, d72, (.int .i64 positive73), d74, (.int .i64 better75), (.int .i64 i115), (.bool (decide (i115 < (len119 : Int)))), (.bool true)] H131 (by kernel_rfl) ?_
                      refine then_norm ?_
                      refine w_cond (t := true) rfl (fun _ => ?_) (fun hc => by cases hc)
                      refine w_seq ?_
                      refine w_run [0] ?_
                      refine t_done [percents0, (.agg [(.int .i64 r1), r2]), (.int .i64 budget3), (.bool false), (.agg [(.int .i64 r1), r2]), (.bool (!r17)), (.agg [(.int .i64 v27), (.int .i64 v28)]), d29, (.agg [(.int .i64 w44), (.int .i64 w45)]), d46, (.agg [(.int .i64 r6), (.int .i64 r7)]), (.int .i64 r5), d54, (.bool ((w44) != 0)), (.agg [(.int .i64 r12), (.int .i64 r13)]), r11, (.bool (((r12) != 0) || (decide ((len63 : Int) > budget3)))), (.int .i64 last67), (.bool (decide (last67 < (len77 : Int)))), d69, d70, d71, d72, (.int .i64 positive73), d74, (.int .i64 better75), (.int .i64 i115), (.bool (decide (i115 < (len119 : Int)))), (.bool true)] H131 (by kernel_rfl) ?_
                      refine then_norm ?_
                      refine w_ret ?_
                      refine block_ret ?_
                      refine then_ret ?_
                      refine loop_ret ?_
                      refine block_ret ?_
                      refine then_ret ?_
                      exact body_ret (vs := [(.bool false)]) _ (by kernel_rfl) rfl h
                  · replace h := h.1 (is_ne.t hc)
                    refine t_gd true false (by kernel_rfl) (fun hn => by cases hn) (fun _ => ?_)
                    refine t_gd true false (by kernel_rfl) (fun hn => by cases hn) (fun _ => ?_)
                    refine t_gd true false (by kernel_rfl) (fun hn => by cases hn) (fun _ => ?_)
                    refine t_gd true false (by kernel_rfl) (fun hn => by cases hn) (fun _ => ?_)
                    refine t_gd true false (by kernel_rfl) (fun hn => by cases hn) (fun _ => ?_)
                    refine t_gd true false (by kernel_rfl) (fun hn => by cases hn) (fun _ => ?_)
                    refine t_gd true false (by kernel_rfl) (fun hn => by cases hn) (fun _ => ?_)
                    refine t_gd true false (by kernel_rfl) (fun hn => by cases hn) (fun _ => ?_)
                    refine t_gd true false (by kernel_rfl) (fun hn => by cases hn) (fun _ => ?_)
                    refine t_gdU true (by kernel_rfl) ?_
                    refine t_gdU true (by kernel_rfl) ?_
                    refine t_gdU true (by kernel_rfl) ?_
                    refine t_gdU true (by kernel_rfl) ?_
                    refine t_gdU true (by kernel_rfl) ?_
                    refine t_gdU true (by kernel_rfl) ?_
                    refine t_gdU true (by kernel_rfl) ?_
                    refine t_gdU true (by kernel_rfl) ?_
                    refine t_gdU true (by kernel_rfl) ?_
                    refine t_gdU true (by kernel_rfl) ?_
                    refine t_gdU true (by kernel_rfl) ?_
                    refine t_gdU true (by kernel_rfl) ?_
                    refine t_gd true false (by kernel_rfl) (fun hn => by cases hn) (fun _ => ?_)
                    refine t_done [percents0, (.agg [(.int .i64 r1), r2]), (.int .i64 budget3), d114, (.agg [(.int .i64 r1), r2]), (.bool (!r17)), (.agg [(.int .i64 v27), (.int .i64 v28)]), d29, (.agg [(.int .i64 w44), (.int .i64 w45)]), d46, (.agg [(.int .i64 r6), (.int .i64 r7)]), (.int .i64 r5), d54, (.bool ((w44) != 0)), (.agg [(.int .i64 r12), (.int .i64 r13)]), r11, (.bool (((r12) != 0) || (decide ((len63 : Int) > budget3)))), (.int .i64 last67), (.bool (decide (last67 < (len77 : Int)))), d69, d70, d71, d72, (.int .i64 positive73), d74, (.int .i64 better75), (.int .i64 i115), (.bool (decide (i115 < (len119 : Int)))), (.bool true)] H125 (by kernel_rfl) ?_
                    refine then_norm ?_
                    refine w_cond (t := true) rfl (fun _ => ?_) (fun hc => by cases hc)
                    refine w_seq ?_
                    refine w_run [0] ?_
                    refine t_done [percents0, (.agg [(.int .i64 r1), r2]), (.int .i64 budget3), (.bool false), (.agg [(.int .i64 r1), r2]), (.bool (!r17)), (.agg [(.int .i64 v27), (.int .i64 v28)]), d29, (.agg [(.int .i64 w44), (.int .i64 w45)]), d46, (.agg [(.int .i64 r6), (.int .i64 r7)]), (.int .i64 r5), d54, (.bool ((w44) != 0)), (.agg [(.int .i64 r12), (.int .i64 r13)]), r11, (.bool (((r12) != 0) || (decide ((len63 : Int) > budget3)))), (.int .i64 last67), (.bool (decide (last67 < (len77 : Int)))), d69, d70, d71, d72, (.int .i64 positive73), d74, (.int .i64 better75), (.int .i64 i115), (.bool (decide (i115 < (len119 : Int)))), (.bool true)] H125 (by kernel_rfl) ?_
                    refine then_norm ?_
                    refine w_ret ?_
                    refine block_ret ?_
                    refine then_ret ?_
                    refine loop_ret ?_
                    refine block_ret ?_
                    refine then_ret ?_
                    exact body_ret (vs := [(.bool false)]) _ (by kernel_rfl) rfl h
                · replace h := h.2 (is_dec.f hc)
                  refine w_exit ?_
                  refine then_exit ?_
                  refine loop_exit ?_
                  refine block_exit ?_
                  refine then_norm ?_
                  refine w_seq ?_
                  refine w_run [0, 1, 0, 0, 0, 0, 0, 0, 1, 0, 0, 0, 0, 1, 0, 0, 0, 0, 0] ?_
                  obtain ⟨len144, hl, h⟩ := h
                  refine t_len true r11 len144 H118 (by kernel_rfl) hl ?_
                  obtain ⟨len145, hl, h⟩ := h
                  refine t_len true r11 len145 H118 (by kernel_rfl) hl ?_
                  obtain ⟨len146, hl, h⟩ := h
                  refine t_len true r11 len146 H118 (by kernel_rfl) hl ?_
                  refine t_done [percents0, (.agg [(.int .i64 r1), r2]), (.int .i64 budget3), (.bool ((((len144 : Int)) == (imin budget3 positive73)) && ((((len145 : Int)) == 0) || ((better75) == (IntKind.wrap .i64 ((len146 : Int) - 1)))))), (.agg [(.int .i64 r1), r2]), (.bool (!r17)), (.agg [(.int .i64 v27), (.int .i64 v28)]), d29, (.agg [(.int .i64 w44), (.int .i64 w45)]), d46, (.agg [(.int .i64 r6), (.int .i64 r7)]), (.int .i64 r5), d54, (.bool ((w44) != 0)), (.agg [(.int .i64 r12), (.int .i64 r13)]), r11, (.bool (((r12) != 0) || (decide ((len63 : Int) > budget3)))), (.int .i64 last67), (.bool (decide (last67 < (len77 : Int)))), d69, d70, d71, d72, (.int .i64 positive73), d74, (.int .i64 better75), (.int .i64 i115), (.bool (decide (i115 < (len119 : Int)))), d117] H118 (by kernel_rfl) ?_
                  refine then_norm ?_
                  refine w_ret ?_
                  exact body_ret (vs := [(.bool ((((len144 : Int)) == (imin budget3 positive73)) && ((((len145 : Int)) == 0) || ((better75) == (IntKind.wrap .i64 ((len146 : Int) - 1))))))]) _ (by kernel_rfl) rfl h

end Go.RM

