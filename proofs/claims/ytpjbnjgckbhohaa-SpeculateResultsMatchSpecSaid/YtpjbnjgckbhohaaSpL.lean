import Derived.Test.YtpjbnjgckbhohaaRmWp
/-
  Functions of the program as the abstract machine runs them, and what must be shown of a run: printed by RmPrint.
-/
namespace Go.RM
set_option linter.unusedVariables false
set_option maxRecDepth 4000
def rf_LspeculateExample (nspeculate_Chance nspeculate_Plan nspeculate_Decide nspeculate_Next nspeculate_Useful nFEqualRuns nFEqualInts : Nat) : RFunc := ⟨0, 15, [.var 0],
 ((.seq (.ops [⟨.move (.k (.bool false)), none, (some 0), true⟩])
 ((.seq (.ops [⟨.buildSlice 1 [.int .i64 0] [(0, 1, (.k (.int .i64 50))), (1, 1, (.k (.int .i64 90)))] 2, none, none, true⟩, ⟨.buildSlice 1 [.int .i64 0] [(0, 1, (.k (.int .i64 0)))] 1, none, none, true⟩, ⟨.build [.int .i64 0, .empty] [(0, 1, (.k (.int .i64 1))), (1, 1, (.loc 1))], none, none, true⟩, ⟨.callS nspeculate_Chance [(.loc 0), (.loc 2)], none, none, true⟩, ⟨.move (.loc 3), none, none, true⟩, ⟨.extract (.loc 4) 0, none, none, true⟩, ⟨.extract (.loc 4) 1, none, none, true⟩, ⟨.tomb 1 (.k (.agg [.int .i64 0, .int .i64 0])), none, (some 3), true⟩, ⟨.move (.loc 5), none, (some 2), true⟩, ⟨.upd 2 0 (.loc 7) (.loc 6), none, (some 3), true⟩])
 ((.seq (.ops [⟨.buildSlice 1 [.int .i64 0] [(0, 1, (.k (.int .i64 100))), (1, 1, (.k (.int .i64 100)))] 2, none, none, true⟩, ⟨.callS nspeculate_Plan [(.loc 0), (.k (.int .i64 2))], none, none, true⟩, ⟨.move (.loc 1), none, none, true⟩, ⟨.extract (.loc 2) 0, none, none, true⟩, ⟨.extract (.loc 2) 1, none, none, true⟩, ⟨.tomb 1 (.k (.agg [.int .i64 0, .int .i64 0])), none, (some 4), true⟩, ⟨.move (.loc 3), none, (some 9), true⟩, ⟨.upd 2 0 (.loc 5) (.loc 4), none, (some 4), true⟩])
 ((.seq (.ops [⟨.build [.int .i64 0, .empty] [(0, 1, (.k (.int .i64 0)))], none, none, true⟩, ⟨.build [.int .i64 0, .empty, .bool false] [(0, 2, (.loc 0))], none, none, true⟩, ⟨.build [.int .i64 0, .empty] [(0, 1, (.k (.int .i64 1)))], none, none, true⟩, ⟨.build [.int .i64 0, .empty, .bool false] [(0, 2, (.loc 2)), (2, 1, (.k (.bool true)))], none, none, true⟩, ⟨.buildSlice 3 [.int .i64 0, .empty, .bool false] [(0, 3, (.loc 1)), (3, 3, (.loc 3))] 2, none, none, true⟩, ⟨.move (.loc 4), none, (some 1), true⟩])
 ((.seq (.ops [⟨.move (.var 1), none, none, true⟩, ⟨.callS nspeculate_Decide [(.k (.int .i64 2)), (.loc 0)], none, none, true⟩, ⟨.move (.loc 1), none, none, true⟩, ⟨.extract (.loc 2) 0, none, none, true⟩, ⟨.extract (.loc 2) 1, none, none, true⟩, ⟨.extract (.loc 2) 2, none, none, true⟩, ⟨.tomb 1 (.k (.agg [.int .i64 0, .int .i64 0])), none, (some 5), true⟩, ⟨.move (.loc 3), none, (some 10), true⟩, ⟨.move (.loc 4), none, (some 11), true⟩, ⟨.upd 2 0 (.loc 6) (.loc 5), none, (some 5), true⟩])
 ((.seq (.ops [⟨.move (.var 1), none, none, true⟩, ⟨.slice 3 (.loc 0) none (some (.k (.int .i64 1))) none, none, none, true⟩, ⟨.callS nspeculate_Next [(.k (.int .i64 2)), (.loc 1)], none, none, true⟩, ⟨.move (.loc 2), none, none, true⟩, ⟨.extract (.loc 3) 0, none, none, true⟩, ⟨.extract (.loc 3) 1, none, none, true⟩, ⟨.tomb 1 (.k (.agg [.int .i64 0, .empty])), none, (some 12), true⟩, ⟨.tomb 1 (.k (.agg [.int .i64 0, .int .i64 0])), none, (some 6), true⟩, ⟨.upd 2 0 (.loc 6) (.loc 4), none, (some 12), true⟩, ⟨.upd 2 0 (.loc 7) (.loc 5), none, (some 6), true⟩])
 ((.seq (.ops [⟨.move (.var 1), none, none, true⟩, ⟨.slice 3 (.loc 0) none (some (.k (.int .i64 1))) none, none, none, true⟩, ⟨.buildSlice 1 [.int .i64 0] [(0, 1, (.k (.int .i64 0)))] 1, none, none, true⟩, ⟨.build [.int .i64 0, .empty] [(0, 1, (.k (.int .i64 1))), (1, 1, (.loc 2))], none, none, true⟩, ⟨.callS nspeculate_Useful [(.k (.int .i64 2)), (.loc 1), (.loc 3)], none, none, true⟩, ⟨.move (.loc 4), none, none, true⟩, ⟨.extract (.loc 5) 0, none, none, true⟩, ⟨.extract (.loc 5) 1, none, none, true⟩, ⟨.tomb 1 (.k (.agg [.int .i64 0, .int .i64 0])), none, (some 7), true⟩, ⟨.move (.loc 6), none, (some 13), true⟩, ⟨.upd 2 0 (.loc 8) (.loc 7), none, (some 7), true⟩])
 ((.seq (.ops [⟨.move (.var 1), none, none, true⟩, ⟨.slice 3 (.loc 0) none (some (.k (.int .i64 1))) none, none, none, true⟩, ⟨.build [.int .i64 0, .empty] [(0, 1, (.k (.int .i64 1)))], none, none, true⟩, ⟨.callS nspeculate_Useful [(.k (.int .i64 2)), (.loc 1), (.loc 2)], none, none, true⟩, ⟨.move (.loc 3), none, none, true⟩, ⟨.extract (.loc 4) 0, none, none, true⟩, ⟨.extract (.loc 4) 1, none, none, true⟩, ⟨.tomb 1 (.k (.agg [.int .i64 0, .int .i64 0])), none, (some 8), true⟩, ⟨.move (.loc 5), none, (some 14), true⟩, ⟨.upd 2 0 (.loc 7) (.loc 6), none, (some 8), true⟩])
 ((.seq (.ops [⟨.move (.var 2), none, none, true⟩, ⟨.bin .eql .no (.loc 0) (.k (.int .i64 5000)), none, none, true⟩, ⟨.move (.loc 1), none, none, true⟩, ⟨.field 0 none (.var 3), none, none, true⟩, ⟨.field 0 none (.var 3), none, none, true⟩, ⟨.bin .eql .no (.loc 4) (.k (.int .i64 0)), none, none, true⟩, ⟨.pick (.loc 2) (.loc 5) (.k (.bool false)), none, none, true⟩, ⟨.move (.loc 6), none, none, true⟩, ⟨.field 0 none (.var 4), none, none, true⟩, ⟨.field 0 none (.var 4), none, none, true⟩, ⟨.bin .eql .no (.loc 9) (.k (.int .i64 0)), none, none, true⟩, ⟨.pick (.loc 7) (.loc 10) (.k (.bool false)), none, none, true⟩, ⟨.move (.loc 11), none, none, true⟩, ⟨.field 0 none (.var 5), none, none, true⟩, ⟨.field 0 none (.var 5), none, none, true⟩, ⟨.bin .eql .no (.loc 14) (.k (.int .i64 0)), none, none, true⟩, ⟨.pick (.loc 12) (.loc 15) (.k (.bool false)), none, none, true⟩, ⟨.move (.loc 16), none, none, true⟩, ⟨.field 0 none (.var 6), none, none, true⟩, ⟨.field 0 none (.var 6), none, none, true⟩, ⟨.bin .eql .no (.loc 19) (.k (.int .i64 0)), none, none, true⟩, ⟨.pick (.loc 17) (.loc 20) (.k (.bool false)), none, none, true⟩, ⟨.move (.loc 21), none, none, true⟩, ⟨.field 0 none (.var 7), none, none, true⟩, ⟨.field 0 none (.var 7), none, none, true⟩, ⟨.bin .eql .no (.loc 24) (.k (.int .i64 0)), none, none, true⟩, ⟨.pick (.loc 22) (.loc 25) (.k (.bool false)), none, none, true⟩, ⟨.move (.loc 26), none, none, true⟩, ⟨.field 0 none (.var 8), none, none, true⟩, ⟨.field 0 none (.var 8), none, none, true⟩, ⟨.bin .eql .no (.loc 29) (.k (.int .i64 0)), none, none, true⟩, ⟨.pick (.loc 27) (.loc 30) (.k (.bool false)), none, none, true⟩, ⟨.move (.loc 31), none, none, true⟩, ⟨.move (.var 9), none, none, true⟩, ⟨.len (.loc 33), none, none, true⟩, ⟨.bin .eql .no (.loc 34) (.k (.int .i64 2)), none, none, true⟩, ⟨.pick (.loc 32) (.loc 35) (.k (.bool false)), none, none, true⟩, ⟨.move (.loc 36), none, none, true⟩, ⟨.move (.var 9), none, none, true⟩, ⟨.indexAddr 2 (.loc 38) (.k (.int .i64 1)), (some (37, true)), none, true⟩, ⟨.load (some 2) (.loc 39), (some (37, true)), none, true⟩, ⟨.buildSlice 1 [.int .i64 0] [(0, 1, (.k (.int .i64 0)))] 1, (some (37, true)), none, true⟩, ⟨.build [.int .i64 0, .empty] [(0, 1, (.k (.int .i64 1))), (1, 1, (.loc 41))], (some (37, true)), none, true⟩, ⟨.callS nFEqualRuns [(.loc 40), (.loc 42)], (some (37, true)), none, true⟩, ⟨.pick (.loc 37) (.loc 43) (.k (.bool false)), none, none, true⟩, ⟨.move (.loc 44), none, none, true⟩, ⟨.move (.var 10), none, none, true⟩, ⟨.buildSlice 1 [.int .i64 0] [(0, 1, (.k (.int .i64 1)))] 1, (some (45, true)), none, true⟩, ⟨.callS nFEqualInts [(.loc 46), (.loc 47)], (some (45, true)), none, true⟩, ⟨.pick (.loc 45) (.loc 48) (.k (.bool false)), none, none, true⟩, ⟨.move (.loc 49), none, none, true⟩, ⟨.move (.var 11), none, none, true⟩, ⟨.buildSlice 1 [.int .i64 0] [(0, 1, (.k (.int .i64 0)))] 1, (some (50, true)), none, true⟩, ⟨.callS nFEqualInts [(.loc 51), (.loc 52)], (some (50, true)), none, true⟩, ⟨.pick (.loc 50) (.loc 53) (.k (.bool false)), none, none, true⟩, ⟨.move (.loc 54), none, none, true⟩, ⟨.field 0 (some 2) (.var 12), none, none, true⟩, ⟨.build [.int .i64 0, .empty] [(0, 1, (.k (.int .i64 1)))], none, none, true⟩, ⟨.callS nFEqualRuns [(.loc 56), (.loc 57)], (some (55, true)), none, true⟩, ⟨.pick (.loc 55) (.loc 58) (.k (.bool false)), none, none, true⟩, ⟨.move (.loc 59), none, none, true⟩, ⟨.move (.var 13), none, none, true⟩, ⟨.un .not (.loc 61), none, none, true⟩, ⟨.pick (.loc 60) (.loc 62) (.k (.bool false)), none, none, true⟩, ⟨.move (.loc 63), none, none, true⟩, ⟨.move (.var 14), none, none, true⟩, ⟨.pick (.loc 64) (.loc 65) (.k (.bool false)), none, none, true⟩, ⟨.move (.loc 66), none, (some 0), true⟩])
 (.ret))))))))))))))))))), none⟩
theorem v_LspeculateExample {F : Nat → Option RFunc} {me nspeculate_Chance nspeculate_Plan nspeculate_Decide nspeculate_Next nspeculate_Useful nFEqualRuns nFEqualInts : Nat} (hF : F me = some (rf_LspeculateExample nspeculate_Chance nspeculate_Plan nspeculate_Decide nspeculate_Next nspeculate_Useful nFEqualRuns nFEqualInts)) {fl : Nat} {H : Heap} {Q : AV → Heap → Prop} 
  (h : ∀ (b0 : Nat) (H1 : Heap), NewB H 1 [(.int .i64 50), (.int .i64 90)] b0 H1 → ∀ (b2 : Nat) (H3 : Heap), NewB H1 1 [(.int .i64 0)] b2 H3 → Ret F fl nspeculate_Chance [(.slice b0 0 2 (some 2)), (.agg [(.int .i64 1), (.slice b2 0 1 (some 1))])] H3 (fun v8 H7 => ∃ (r4 : Int) (r5 : Int) (r6 : Int), v8 = (.tuple [(.int .i64 r4), (.agg [(.int .i64 r5), (.int .i64 r6)])]) ∧ ∀ (H9 : Heap), Dead1 H7 1 H9 → ∀ (b10 : Nat) (H11 : Heap), NewB H9 1 [(.int .i64 100), (.int .i64 100)] b10 H11 → Ret F fl nspeculate_Plan [(.slice b10 0 2 (some 2)), (.int .i64 2)] H11 (fun v16 H15 => ∃ (r12 : AV) (r13 : Int) (r14 : Int), v16 = (.tuple [r12, (.agg [(.int .i64 r13), (.int .i64 r14)])]) ∧ ∀ (H17 : Heap), Dead1 H15 1 H17 → ∀ (b18 : Nat) (H19 : Heap), NewB H17 3 [(.int .i64 0), .empty, (.bool false), (.int .i64 1), .empty, (.bool true)] b18 H19 → Ret F fl nspeculate_Decide [(.int .i64 2), (.slice b18 0 2 (some 2))] H19 (fun v25 H24 => ∃ (r20 : AV) (r21 : AV) (r22 : Int) (r23 : Int), v25 = (.tuple [r20, r21, (.agg [(.int .i64 r22), (.int .i64 r23)])]) ∧ ∀ (H26 : Heap), Dead1 H24 1 H26 → ∃ s27 : AV, rslice H26 3 (.slice b18 0 2 (some 2)) none (some (.int .i64 1)) none = some s27 ∧ Ret F fl nspeculate_Next [(.int .i64 2), s27] H26 (fun v33 H32 => ∃ (r28 : Int) (r29 : AV) (r30 : Int) (r31 : Int), v33 = (.tuple [(.agg [(.int .i64 r28), r29]), (.agg [(.int .i64 r30), (.int .i64 r31)])]) ∧ ∀ (H34 : Heap), Dead1 H32 1 H34 → ∀ (H35 : Heap), Dead1 H34 1 H35 → Scal r29 ∧ ∃ s37 : AV, rslice H35 3 (.slice b18 0 2 (some 2)) none (some (.int .i64 1)) none = some s37 ∧ ∀ (b38 : Nat) (H39 : Heap), NewB H35 1 [(.int .i64 0)] b38 H39 → Ret F fl nspeculate_Useful [(.int .i64 2), s37, (.agg [(.int .i64 1), (.slice b38 0 1 (some 1))])] H39 (fun v44 H43 => ∃ (r40 : Bool) (r41 : Int) (r42 : Int), v44 = (.tuple [(.bool r40), (.agg [(.int .i64 r41), (.int .i64 r42)])]) ∧ ∀ (H45 : Heap), Dead1 H43 1 H45 → ∃ s46 : AV, rslice H45 3 (.slice b18 0 2 (some 2)) none (some (.int .i64 1)) none = some s46 ∧ Ret F fl nspeculate_Useful [(.int .i64 2), s46, (.agg [(.int .i64 1), .empty])] H45 (fun v51 H50 => ∃ (r47 : Bool) (r48 : Int) (r49 : Int), v51 = (.tuple [(.bool r47), (.agg [(.int .i64 r48), (.int .i64 r49)])]) ∧ ∀ (H52 : Heap), Dead1 H50 1 H52 → ∃ len53 : Nat, lenA r12 = some len53 ∧ ((((((((((((((((r4 = 5000) ∧ (r5 = 0))) ∧ (r13 = 0))) ∧ (r22 = 0))) ∧ (r30 = 0))) ∧ (r41 = 0))) ∧ (r48 = 0))) ∧ ((len53 : Int) = 2))) → ∃ (e54 : Int) (e55 : AV), getA H52 2 (some 2) r12 1 0 = some (.agg [(.int .i64 e54), e55]) ∧ ∀ (b57 : Nat) (H58 : Heap), NewB H52 1 [(.int .i64 0)] b57 H58 → Ret F fl nFEqualRuns [(.agg [(.int .i64 e54), e55]), (.agg [(.int .i64 1), (.slice b57 0 1 (some 1))])] H58 (fun v61 H60 => ∃ (r59 : Bool), v61 = (.bool r59) ∧ ((r59 = true) → ∀ (b62 : Nat) (H63 : Heap), NewB H60 1 [(.int .i64 1)] b62 H63 → Ret F fl nFEqualInts [r20, (.slice b62 0 1 (some 1))] H63 (fun v66 H65 => ∃ (r64 : Bool), v66 = (.bool r64) ∧ ((r64 = true) → ∀ (b67 : Nat) (H68 : Heap), NewB H65 1 [(.int .i64 0)] b67 H68 → Ret F fl nFEqualInts [r21, (.slice b67 0 1 (some 1))] H68 (fun v71 H70 => ∃ (r69 : Bool), v71 = (.bool r69) ∧ ((r69 = true) → Ret F fl nFEqualRuns [(.agg [(.int .i64 r28), r29]), (.agg [(.int .i64 1), .empty])] H70 (fun v74 H73 => ∃ (r72 : Bool), v74 = (.bool r72) ∧ Q (.bool ((r72 && (!r40)) && r47)) H73)) ∧ (¬(r69 = true) → Q (.bool false) H70))) ∧ (¬(r64 = true) → Q (.bool false) H65))) ∧ (¬(r59 = true) → Q (.bool false) H60))) ∧ (¬(((((((((((((((r4 = 5000) ∧ (r5 = 0))) ∧ (r13 = 0))) ∧ (r22 = 0))) ∧ (r30 = 0))) ∧ (r41 = 0))) ∧ (r48 = 0))) ∧ ((len53 : Int) = 2))) → Q (.bool false) H52)))))))) : Ret F fl me [] H Q := by
  refine ret_intro hF rfl ?_
  refine w_seq ?_
  refine w_run [0] ?_
  refine t_done [(.bool false), .undef, .undef, .undef, .undef, .undef, .undef, .undef, .undef, .undef, .undef, .undef, .undef, .undef, .undef] H (by kernel_rfl) ?_
  refine then_norm ?_
  refine w_seq ?_
  refine w_run [1, 1, 1, 1, 0, 0, 0, 1, 0, 1] ?_
  obtain ⟨b0, H1, hb⟩ : ∃ b H', NewB H 1 [(.int .i64 50), (.int .i64 90)] b H' := ⟨_, _, rfl, rfl⟩
  replace h := h b0 H1 hb
  refine t_bs true 1 [(.int .i64 0)] [(0, 1, .loc 0), (1, 1, .loc 1)] 2 [(.int .i64 50), (.int .i64 90)] [(.int .i64 50), (.int .i64 90)] b0 H1 H (by kernel_rfl) (fill_c (vs := [(.int .i64 50)]) (size := 1) rfl (by kernel_rfl) (by kernel_rfl) (fill_c (vs := [(.int .i64 90)]) (size := 1) rfl (by kernel_rfl) (by kernel_rfl) (by kernel_rfl))) hb ?_
  obtain ⟨b2, H3, hb⟩ : ∃ b H', NewB H1 1 [(.int .i64 0)] b H' := ⟨_, _, rfl, rfl⟩
  replace h := h b2 H3 hb
  refine t_bs true 1 [(.int .i64 0)] [(0, 1, .loc 0)] 1 [(.int .i64 0)] [(.int .i64 0)] b2 H3 H1 (by kernel_rfl) (fill_c (vs := [(.int .i64 0)]) (size := 1) rfl (by kernel_rfl) (by kernel_rfl) (by kernel_rfl)) hb ?_
  refine t_build true [(.int .i64 0), .empty] [(0, 1, .loc 0), (1, 1, .loc 1)] [(.int .i64 1), (.slice b2 0 1 (some 1))] [(.int .i64 1), (.slice b2 0 1 (some 1))] H3 (by kernel_rfl) (fill_c (vs := [(.int .i64 1)]) (size := 1) rfl (by kernel_rfl) (by kernel_rfl) (fill_c (vs := [(.slice b2 0 1 (some 1))]) (size := 1) rfl (by kernel_rfl) (by kernel_rfl) (by kernel_rfl))) ?_
  refine t_call true nspeculate_Chance [(.slice b0 0 2 (some 2)), (.agg [(.int .i64 1), (.slice b2 0 1 (some 1))])] H3 (by kernel_rfl) h ?_
  clear h
  rintro _ H7 ⟨r4, r5, r6, rfl, h⟩
  obtain ⟨H9, hb⟩ : ∃ H', Dead1 H7 1 H' := ⟨_, ⟨rfl⟩⟩
  replace h := h H9 hb
  refine t_tomb true 1 (.agg [(.int .i64 0), (.int .i64 0)]) [(.int .i64 0), (.int .i64 0)] H9 H7 (by kernel_rfl) rfl hb ?_
  refine t_upd true 2 0 [(.int .i64 0), (.int .i64 0)] (.agg [(.int .i64 r5), (.int .i64 r6)]) [(.int .i64 r5), (.int .i64 r6)] [(.int .i64 r5), (.int .i64 r6)] H9 (by kernel_rfl) rfl (all_c rfl (all_c rfl all_n)) ⟨rfl, Nat.le_of_ble_eq_true (by kernel_rfl), rfl⟩ ?_
  refine t_done [(.bool false), .undef, (.int .i64 r4), (.agg [(.int .i64 r5), (.int .i64 r6)]), .undef, .undef, .undef, .undef, .undef, .undef, .undef, .undef, .undef, .undef, .undef] H9 (by kernel_rfl) ?_
  refine then_norm ?_
  refine w_seq ?_
  refine w_run [1, 1, 0, 0, 0, 1, 0, 1] ?_
  obtain ⟨b10, H11, hb⟩ : ∃ b H', NewB H9 1 [(.int .i64 100), (.int .i64 100)] b H' := ⟨_, _, rfl, rfl⟩
  replace h := h b10 H11 hb
  refine t_bs true 1 [(.int .i64 0)] [(0, 1, .loc 0), (1, 1, .loc 1)] 2 [(.int .i64 100), (.int .i64 100)] [(.int .i64 100), (.int .i64 100)] b10 H11 H9 (by kernel_rfl) (fill_c (vs := [(.int .i64 100)]) (size := 1) rfl (by kernel_rfl) (by kernel_rfl) (fill_c (vs := [(.int .i64 100)]) (size := 1) rfl (by kernel_rfl) (by kernel_rfl) (by kernel_rfl))) hb ?_
  refine t_call true nspeculate_Plan [(.slice b10 0 2 (some 2)), (.int .i64 2)] H11 (by kernel_rfl) h ?_
  clear h
  rintro _ H15 ⟨r12, r13, r14, rfl, h⟩
  obtain ⟨H17, hb⟩ : ∃ H', Dead1 H15 1 H' := ⟨_, ⟨rfl⟩⟩
  replace h := h H17 hb
  refine t_tomb true 1 (.agg [(.int .i64 0), (.int .i64 0)]) [(.int .i64 0), (.int .i64 0)] H17 H15 (by kernel_rfl) rfl hb ?_
  refine t_upd true 2 0 [(.int .i64 0), (.int .i64 0)] (.agg [(.int .i64 r13), (.int .i64 r14)]) [(.int .i64 r13), (.int .i64 r14)] [(.int .i64 r13), (.int .i64 r14)] H17 (by kernel_rfl) rfl (all_c rfl (all_c rfl all_n)) ⟨rfl, Nat.le_of_ble_eq_true (by kernel_rfl), rfl⟩ ?_
  refine t_done [(.bool false), .undef, (.int .i64 r4), (.agg [(.int .i64 r5), (.int .i64 r6)]), (.agg [(.int .i64 r13), (.int .i64 r14)]), .undef, .undef, .undef, .undef, r12, .undef, .undef, .undef, .undef, .undef] H17 (by kernel_rfl) ?_
  refine then_norm ?_
  refine w_seq ?_
  refine w_run [1, 1, 1, 1, 1, 0] ?_
  refine t_build true [(.int .i64 0), .empty] [(0, 1, .loc 0)] [(.int .i64 0)] [(.int .i64 0), .empty] H17 (by kernel_rfl) (fill_c (vs := [(.int .i64 0)]) (size := 1) rfl (by kernel_rfl) (by kernel_rfl) (by kernel_rfl)) ?_
  refine t_build true [(.int .i64 0), .empty, (.bool false)] [(0, 2, .loc 0)] [(.agg [(.int .i64 0), .empty])] [(.int .i64 0), .empty, (.bool false)] H17 (by kernel_rfl) (fill_c (vs := [(.int .i64 0), .empty]) (size := 2) rfl (by kernel_rfl) (by kernel_rfl) (by kernel_rfl)) ?_
  refine t_build true [(.int .i64 0), .empty] [(0, 1, .loc 0)] [(.int .i64 1)] [(.int .i64 1), .empty] H17 (by kernel_rfl) (fill_c (vs := [(.int .i64 1)]) (size := 1) rfl (by kernel_rfl) (by kernel_rfl) (by kernel_rfl)) ?_
  refine t_build true [(.int .i64 0), .empty, (.bool false)] [(0, 2, .loc 0), (2, 1, .loc 1)] [(.agg [(.int .i64 1), .empty]), (.bool true)] [(.int .i64 1), .empty, (.bool true)] H17 (by kernel_rfl) (fill_c (vs := [(.int .i64 1), .empty]) (size := 2) rfl (by kernel_rfl) (by kernel_rfl) (fill_c (vs := [(.bool true)]) (size := 1) rfl (by kernel_rfl) (by kernel_rfl) (by kernel_rfl))) ?_
  obtain ⟨b18, H19, hb⟩ : ∃ b H', NewB H17 3 [(.int .i64 0), .empty, (.bool false), (.int .i64 1), .empty, (.bool true)] b H' := ⟨_, _, rfl, rfl⟩
  replace h := h b18 H19 hb
  refine t_bs true 3 [(.int .i64 0), .empty, (.bool false)] [(0, 3, .loc 0), (3, 3, .loc 1)] 2 [(.agg [(.int .i64 0), .empty, (.bool false)]), (.agg [(.int .i64 1), .empty, (.bool true)])] [(.int .i64 0), .empty, (.bool false), (.int .i64 1), .empty, (.bool true)] b18 H19 H17 (by kernel_rfl) (fill_c (vs := [(.int .i64 0), .empty, (.bool false)]) (size := 3) rfl (by kernel_rfl) (by kernel_rfl) (fill_c (vs := [(.int .i64 1), .empty, (.bool true)]) (size := 3) rfl (by kernel_rfl) (by kernel_rfl) (by kernel_rfl))) hb ?_
  refine t_done [(.bool false), (.slice b18 0 2 (some 2)), (.int .i64 r4), (.agg [(.int .i64 r5), (.int .i64 r6)]), (.agg [(.int .i64 r13), (.int .i64 r14)]), .undef, .undef, .undef, .undef, r12, .undef, .undef, .undef, .undef, .undef] H19 (by kernel_rfl) ?_
  refine then_norm ?_
  refine w_seq ?_
  refine w_run [0, 1, 0, 0, 0, 0, 1, 0, 0, 1] ?_
  refine t_call true nspeculate_Decide [(.int .i64 2), (.slice b18 0 2 (some 2))] H19 (by kernel_rfl) h ?_
  clear h
  rintro _ H24 ⟨r20, r21, r22, r23, rfl, h⟩
  obtain ⟨H26, hb⟩ : ∃ H', Dead1 H24 1 H' := ⟨_, ⟨rfl⟩⟩
  replace h := h H26 hb
  refine t_tomb true 1 (.agg [(.int .i64 0), (.int .i64 0)]) [(.int .i64 0), (.int .i64 0)] H26 H24 (by kernel_rfl) rfl hb ?_
  refine t_upd true 2 0 [(.int .i64 0), (.int .i64 0)] (.agg [(.int .i64 r22), (.int .i64 r23)]) [(.int .i64 r22), (.int .i64 r23)] [(.int .i64 r22), (.int .i64 r23)] H26 (by kernel_rfl) rfl (all_c rfl (all_c rfl all_n)) ⟨rfl, Nat.le_of_ble_eq_true (by kernel_rfl), rfl⟩ ?_
  refine t_done [(.bool false), (.slice b18 0 2 (some 2)), (.int .i64 r4), (.agg [(.int .i64 r5), (.int .i64 r6)]), (.agg [(.int .i64 r13), (.int .i64 r14)]), (.agg [(.int .i64 r22), (.int .i64 r23)]), .undef, .undef, .undef, r12, r20, r21, .undef, .undef, .undef] H26 (by kernel_rfl) ?_
  refine then_norm ?_
  refine w_seq ?_
  refine w_run [0, 1, 1, 0, 0, 0, 1, 1, 1, 1] ?_
  obtain ⟨s27, hs, h⟩ := h
  refine t_slcH true 3 (.slice b18 0 2 (some 2)) (.int .i64 1) s27 H26 (by kernel_rfl) hs ?_
  refine t_call true nspeculate_Next [(.int .i64 2), s27] H26 (by kernel_rfl) h ?_
  clear h
  rintro _ H32 ⟨r28, r29, r30, r31, rfl, h⟩
  obtain ⟨H34, hb⟩ : ∃ H', Dead1 H32 1 H' := ⟨_, ⟨rfl⟩⟩
  replace h := h H34 hb
  refine t_tomb true 1 (.agg [(.int .i64 0), .empty]) [(.int .i64 0), .empty] H34 H32 (by kernel_rfl) rfl hb ?_
  obtain ⟨H35, hb⟩ : ∃ H', Dead1 H34 1 H' := ⟨_, ⟨rfl⟩⟩
  replace h := h H35 hb
  refine t_tomb true 1 (.agg [(.int .i64 0), (.int .i64 0)]) [(.int .i64 0), (.int .i64 0)] H35 H34 (by kernel_rfl) rfl hb ?_
  obtain ⟨hs36, h⟩ := h
  refine t_upd true 2 0 [(.int .i64 0), .empty] (.agg [(.int .i64 r28), r29]) [(.int .i64 r28), r29] [(.int .i64 r28), r29] H35 (by kernel_rfl) rfl (all_c rfl (all_c hs36.2 all_n)) ⟨rfl, Nat.le_of_ble_eq_true (by kernel_rfl), rfl⟩ ?_
  refine t_upd true 2 0 [(.int .i64 0), (.int .i64 0)] (.agg [(.int .i64 r30), (.int .i64 r31)]) [(.int .i64 r30), (.int .i64 r31)] [(.int .i64 r30), (.int .i64 r31)] H35 (by kernel_rfl) rfl (all_c rfl (all_c rfl all_n)) ⟨rfl, Nat.le_of_ble_eq_true (by kernel_rfl), rfl⟩ ?_
  refine t_done [(.bool false), (.slice b18 0 2 (some 2)), (.int .i64 r4), (.agg [(.int .i64 r5), (.int .i64 r6)]), (.agg [(.int .i64 r13), (.int .i64 r14)]), (.agg [(.int .i64 r22), (.int .i64 r23)]), (.agg [(.int .i64 r30), (.int .i64 r31)]), .undef, .undef, r12, r20, r21, (.agg [(.int .i64 r28), r29]), .undef, .undef] H35 (by kernel_rfl) ?_
  refine then_norm ?_
  refine w_seq ?_
  refine w_run [0, 1, 1, 1, 1, 0, 0, 0, 1, 0, 1] ?_
  obtain ⟨s37, hs, h⟩ := h
  refine t_slcH true 3 (.slice b18 0 2 (some 2)) (.int .i64 1) s37 H35 (by kernel_rfl) hs ?_
  obtain ⟨b38, H39, hb⟩ : ∃ b H', NewB H35 1 [(.int .i64 0)] b H' := ⟨_, _, rfl, rfl⟩
  replace h := h b38 H39 hb
  refine t_bs true 1 [(.int .i64 0)] [(0, 1, .loc 0)] 1 [(.int .i64 0)] [(.int .i64 0)] b38 H39 H35 (by kernel_rfl) (fill_c (vs := [(.int .i64 0)]) (size := 1) rfl (by kernel_rfl) (by kernel_rfl) (by kernel_rfl)) hb ?_
  refine t_build true [(.int .i64 0), .empty] [(0, 1, .loc 0), (1, 1, .loc 1)] [(.int .i64 1), (.slice b38 0 1 (some 1))] [(.int .i64 1), (.slice b38 0 1 (some 1))] H39 (by kernel_rfl) (fill_c (vs := [(.int .i64 1)]) (size := 1) rfl (by kernel_rfl) (by kernel_rfl) (fill_c (vs := [(.slice b38 0 1 (some 1))]) (size := 1) rfl (by kernel_rfl) (by kernel_rfl) (by kernel_rfl))) ?_
  refine t_call true nspeculate_Useful [(.int .i64 2), s37, (.agg [(.int .i64 1), (.slice b38 0 1 (some 1))])] H39 (by kernel_rfl) h ?_
  clear h
  rintro _ H43 ⟨r40, r41, r42, rfl, h⟩
  obtain ⟨H45, hb⟩ : ∃ H', Dead1 H43 1 H' := ⟨_, ⟨rfl⟩⟩
  replace h := h H45 hb
  refine t_tomb true 1 (.agg [(.int .i64 0), (.int .i64 0)]) [(.int .i64 0), (.int .i64 0)] H45 H43 (by kernel_rfl) rfl hb ?_
  refine t_upd true 2 0 [(.int .i64 0), (.int .i64 0)] (.agg [(.int .i64 r41), (.int .i64 r42)]) [(.int .i64 r41), (.int .i64 r42)] [(.int .i64 r41), (.int .i64 r42)] H45 (by kernel_rfl) rfl (all_c rfl (all_c rfl all_n)) ⟨rfl, Nat.le_of_ble_eq_true (by kernel_rfl), rfl⟩ ?_
  refine t_done [(.bool false), (.slice b18 0 2 (some 2)), (.int .i64 r4), (.agg [(.int .i64 r5), (.int .i64 r6)]), (.agg [(.int .i64 r13), (.int .i64 r14)]), (.agg [(.int .i64 r22), (.int .i64 r23)]), (.agg [(.int .i64 r30), (.int .i64 r31)]), (.agg [(.int .i64 r41), (.int .i64 r42)]), .undef, r12, r20, r21, (.agg [(.int .i64 r28), r29]), (.bool r40), .undef] H45 (by kernel_rfl) ?_
  refine then_norm ?_
  refine w_seq ?_
  refine w_run [0, 1, 1, 1, 0, 0, 0, 1, 0, 1] ?_
  obtain ⟨s46, hs, h⟩ := h
  refine t_slcH true 3 (.slice b18 0 2 (some 2)) (.int .i64 1) s46 H45 (by kernel_rfl) hs ?_
  refine t_build true [(.int .i64 0), .empty] [(0, 1, .loc 0)] [(.int .i64 1)] [(.int .i64 1), .empty] H45 (by kernel_rfl) (fill_c (vs := [(.int .i64 1)]) (size := 1) rfl (by kernel_rfl) (by kernel_rfl) (by kernel_rfl)) ?_
  refine t_call true nspeculate_Useful [(.int .i64 2), s46, (.agg [(.int .i64 1), .empty])] H45 (by kernel_rfl) h ?_
  clear h
  rintro _ H50 ⟨r47, r48, r49, rfl, h⟩
  obtain ⟨H52, hb⟩ : ∃ H', Dead1 H50 1 H' := ⟨_, ⟨rfl⟩⟩
  replace h := h H52 hb
  refine t_tomb true 1 (.agg [(.int .i64 0), (.int .i64 0)]) [(.int .i64 0), (.int .i64 0)] H52 H50 (by kernel_rfl) rfl hb ?_
  refine t_upd true 2 0 [(.int .i64 0), (.int .i64 0)] (.agg [(.int .i64 r48), (.int .i64 r49)]) [(.int .i64 r48), (.int .i64 r49)] [(.int .i64 r48), (.int .i64 r49)] H52 (by kernel_rfl) rfl (all_c rfl (all_c rfl all_n)) ⟨rfl, Nat.le_of_ble_eq_true (by kernel_rfl), rfl⟩ ?_
  refine t_done [(.bool false), (.slice b18 0 2 (some 2)), (.int .i64 r4), (.agg [(.int .i64 r5), (.int .i64 r6)]), (.agg [(.int .i64 r13), (.int .i64 r14)]), (.agg [(.int .i64 r22), (.int .i64 r23)]), (.agg [(.int .i64 r30), (.int .i64 r31)]), (.agg [(.int .i64 r41), (.int .i64 r42)]), (.agg [(.int .i64 r48), (.int .i64 r49)]), r12, r20, r21, (.agg [(.int .i64 r28), r29]), (.bool r40), (.bool r47)] H52 (by kernel_rfl) ?_
  refine then_norm ?_
  refine w_seq ?_
  refine w_run [0, 0, 0, 0, 0, 0, 0, 0, 0, 0, 0, 0, 0, 0, 0, 0, 0, 0, 0, 0, 0, 0, 0, 0, 0, 0, 0, 0, 0, 0, 0, 0, 0, 0, 1, 0, 0, 0, 0, 3, 3, 3, 3, 3, 0, 0, 0, 3, 3, 0, 0, 0, 3, 3, 0, 0, 0, 1, 3, 0, 0, 0, 0, 0, 0, 0, 0, 0] ?_
  obtain ⟨len53, hl, h⟩ := h
  refine t_len true r12 len53 H52 (by kernel_rfl) hl ?_
  refine t_gd (((((((((r4) == 5000) && ((r5) == 0)) && ((r13) == 0)) && ((r22) == 0)) && ((r30) == 0)) && ((r41) == 0)) && ((r48) == 0)) && (((len53 : Int)) == 2)) true (by kernel_rfl) (fun hc => ?_) (fun hc => ?_)
  · replace h := h.1 ((is_and (is_and (is_and (is_and (is_and (is_and (is_and is_eq is_eq) is_eq) is_eq) is_eq) is_eq) is_eq) is_eq).t hc)
    obtain ⟨e54, e55, hg56, h⟩ := h
    refine t_idxG true 2 r12 .i64 1 H52 (by kernel_rfl) hg56 ?_
    refine t_gd true true (by kernel_rfl) (fun _ => ?_) (fun hn => by cases hn)
    refine t_loadG true (some 2) 2 r12 1 0 (.agg [(.int .i64 e54), e55]) H52 (by kernel_rfl) hg56 ?_
    refine t_gd true true (by kernel_rfl) (fun _ => ?_) (fun hn => by cases hn)
    obtain ⟨b57, H58, hb⟩ : ∃ b H', NewB H52 1 [(.int .i64 0)] b H' := ⟨_, _, rfl, rfl⟩
    replace h := h b57 H58 hb
    refine t_bs true 1 [(.int .i64 0)] [(0, 1, .loc 0)] 1 [(.int .i64 0)] [(.int .i64 0)] b57 H58 H52 (by kernel_rfl) (fill_c (vs := [(.int .i64 0)]) (size := 1) rfl (by kernel_rfl) (by kernel_rfl) (by kernel_rfl)) hb ?_
    refine t_gd true true (by kernel_rfl) (fun _ => ?_) (fun hn => by cases hn)
    refine t_build true [(.int .i64 0), .empty] [(0, 1, .loc 0), (1, 1, .loc 1)] [(.int .i64 1), (.slice b57 0 1 (some 1))] [(.int .i64 1), (.slice b57 0 1 (some 1))] H58 (by kernel_rfl) (fill_c (vs := [(.int .i64 1)]) (size := 1) rfl (by kernel_rfl) (by kernel_rfl) (fill_c (vs := [(.slice b57 0 1 (some 1))]) (size := 1) rfl (by kernel_rfl) (by kernel_rfl) (by kernel_rfl))) ?_
    refine t_gd true true (by kernel_rfl) (fun _ => ?_) (fun hn => by cases hn)
    refine t_call true nFEqualRuns [(.agg [(.int .i64 e54), e55]), (.agg [(.int .i64 1), (.slice b57 0 1 (some 1))])] H58 (by kernel_rfl) h ?_
    clear h
    rintro _ H60 ⟨r59, rfl, h⟩
    refine t_gd r59 true (by kernel_rfl) (fun hc => ?_) (fun hc => ?_)
    · replace h := h.1 (is_raw.t hc)
      obtain ⟨b62, H63, hb⟩ : ∃ b H', NewB H60 1 [(.int .i64 1)] b H' := ⟨_, _, rfl, rfl⟩
      replace h := h b62 H63 hb
      refine t_bs true 1 [(.int .i64 0)] [(0, 1, .loc 0)] 1 [(.int .i64 1)] [(.int .i64 1)] b62 H63 H60 (by kernel_rfl) (fill_c (vs := [(.int .i64 1)]) (size := 1) rfl (by kernel_rfl) (by kernel_rfl) (by kernel_rfl)) hb ?_
      refine t_gd true true (by kernel_rfl) (fun _ => ?_) (fun hn => by cases hn)
      refine t_call true nFEqualInts [r20, (.slice b62 0 1 (some 1))] H63 (by kernel_rfl) h ?_
      clear h
      rintro _ H65 ⟨r64, rfl, h⟩
      refine t_gd r64 true (by kernel_rfl) (fun hc => ?_) (fun hc => ?_)
      · replace h := h.1 (is_raw.t hc)
        obtain ⟨b67, H68, hb⟩ : ∃ b H', NewB H65 1 [(.int .i64 0)] b H' := ⟨_, _, rfl, rfl⟩
        replace h := h b67 H68 hb
        refine t_bs true 1 [(.int .i64 0)] [(0, 1, .loc 0)] 1 [(.int .i64 0)] [(.int .i64 0)] b67 H68 H65 (by kernel_rfl) (fill_c (vs := [(.int .i64 0)]) (size := 1) rfl (by kernel_rfl) (by kernel_rfl) (by kernel_rfl)) hb ?_
        refine t_gd true true (by kernel_rfl) (fun _ => ?_) (fun hn => by cases hn)
        refine t_call true nFEqualInts [r21, (.slice b67 0 1 (some 1))] H68 (by kernel_rfl) h ?_
        clear h
        rintro _ H70 ⟨r69, rfl, h⟩
        refine t_build true [(.int .i64 0), .empty] [(0, 1, .loc 0)] [(.int .i64 1)] [(.int .i64 1), .empty] H70 (by kernel_rfl) (fill_c (vs := [(.int .i64 1)]) (size := 1) rfl (by kernel_rfl) (by kernel_rfl) (by kernel_rfl)) ?_
        refine t_gd r69 true (by kernel_rfl) (fun hc => ?_) (fun hc => ?_)
        · replace h := h.1 (is_raw.t hc)
          refine t_call true nFEqualRuns [(.agg [(.int .i64 r28), r29]), (.agg [(.int .i64 1), .empty])] H70 (by kernel_rfl) h ?_
          clear h
          rintro _ H73 ⟨r72, rfl, h⟩
          refine t_done [(.bool ((r72 && (!r40)) && r47)), (.slice b18 0 2 (some 2)), (.int .i64 r4), (.agg [(.int .i64 r5), (.int .i64 r6)]), (.agg [(.int .i64 r13), (.int .i64 r14)]), (.agg [(.int .i64 r22), (.int .i64 r23)]), (.agg [(.int .i64 r30), (.int .i64 r31)]), (.agg [(.int .i64 r41), (.int .i64 r42)]), (.agg [(.int .i64 r48), (.int .i64 r49)]), r12, r20, r21, (.agg [(.int .i64 r28), r29]), (.bool r40), (.bool r47)] H73 (by kernel_rfl) ?_
          refine then_norm ?_
          refine w_ret ?_
          exact body_ret (vs := [(.bool ((r72 && (!r40)) && r47))]) _ (by kernel_rfl) rfl h
        · replace h := h.2 (is_raw.f hc)
          refine t_done [(.bool false), (.slice b18 0 2 (some 2)), (.int .i64 r4), (.agg [(.int .i64 r5), (.int .i64 r6)]), (.agg [(.int .i64 r13), (.int .i64 r14)]), (.agg [(.int .i64 r22), (.int .i64 r23)]), (.agg [(.int .i64 r30), (.int .i64 r31)]), (.agg [(.int .i64 r41), (.int .i64 r42)]), (.agg [(.int .i64 r48), (.int .i64 r49)]), r12, r20, r21, (.agg [(.int .i64 r28), r29]), (.bool r40), (.bool r47)] H70 (by kernel_rfl) ?_
          refine then_norm ?_
          refine w_ret ?_
          exact body_ret (vs := [(.bool false)]) _ (by kernel_rfl) rfl h
      · replace h := h.2 (is_raw.f hc)
        refine t_gd false true (by kernel_rfl) (fun hn => by cases hn) (fun _ => ?_)
        refine t_build true [(.int .i64 0), .empty] [(0, 1, .loc 0)] [(.int .i64 1)] [(.int .i64 1), .empty] H65 (by kernel_rfl) (fill_c (vs := [(.int .i64 1)]) (size := 1) rfl (by kernel_rfl) (by kernel_rfl) (by kernel_rfl)) ?_
        refine t_gd false true (by kernel_rfl) (fun hn => by cases hn) (fun _ => ?_)
        refine t_done [(.bool false), (.slice b18 0 2 (some 2)), (.int .i64 r4), (.agg [(.int .i64 r5), (.int .i64 r6)]), (.agg [(.int .i64 r13), (.int .i64 r14)]), (.agg [(.int .i64 r22), (.int .i64 r23)]), (.agg [(.int .i64 r30), (.int .i64 r31)]), (.agg [(.int .i64 r41), (.int .i64 r42)]), (.agg [(.int .i64 r48), (.int .i64 r49)]), r12, r20, r21, (.agg [(.int .i64 r28), r29]), (.bool r40), (.bool r47)] H65 (by kernel_rfl) ?_
        refine then_norm ?_
        refine w_ret ?_
        exact body_ret (vs := [(.bool false)]) _ (by kernel_rfl) rfl h
    · replace h := h.2 (is_raw.f hc)
      refine t_gd false true (by kernel_rfl) (fun hn => by cases hn) (fun _ => ?_)
      refine t_gd false true (by kernel_rfl) (fun hn => by cases hn) (fun _ => ?_)
      refine t_gd false true (by kernel_rfl) (fun hn => by cases hn) (fun _ => ?_)
      refine t_build true [(.int .i64 0), .empty] [(0, 1, .loc 0)] [(.int .i64 1)] [(.int .i64 1), .empty] H60 (by kernel_rfl) (fill_c (vs := [(.int .i64 1)]) (size := 1) rfl (by kernel_rfl) (by kernel_rfl) (by kernel_rfl)) ?_
      refine t_gd false true (by kernel_rfl) (fun hn => by cases hn) (fun _ => ?_)
      refine t_done [(.bool false), (.slice b18 0 2 (some 2)), (.int .i64 r4), (.agg [(.int .i64 r5), (.int .i64 r6)]), (.agg [(.int .i64 r13), (.int .i64 r14)]), (.agg [(.int .i64 r22), (.int .i64 r23)]), (.agg [(.int .i64 r30), (.int .i64 r31)]), (.agg [(.int .i64 r41), (.int .i64 r42)]), (.agg [(.int .i64 r48), (.int .i64 r49)]), r12, r20, r21, (.agg [(.int .i64 r28), r29]), (.bool r40), (.bool r47)] H60 (by kernel_rfl) ?_
      refine then_norm ?_
      refine w_ret ?_
      exact body_ret (vs := [(.bool false)]) _ (by kernel_rfl) rfl h
  · replace h := h.2 ((is_and (is_and (is_and (is_and (is_and (is_and (is_and is_eq is_eq) is_eq) is_eq) is_eq) is_eq) is_eq) is_eq).f hc)
    refine t_gd false true (by kernel_rfl) (fun hn => by cases hn) (fun _ => ?_)
    refine t_gd false true (by kernel_rfl) (fun hn => by cases hn) (fun _ => ?_)
    refine t_gd false true (by kernel_rfl) (fun hn => by cases hn) (fun _ => ?_)
    refine t_gd false true (by kernel_rfl) (fun hn => by cases hn) (fun _ => ?_)
    refine t_gd false true (by kernel_rfl) (fun hn => by cases hn) (fun _ => ?_)
    refine t_gd false true (by kernel_rfl) (fun hn => by cases hn) (fun _ => ?_)
    refine t_gd false true (by kernel_rfl) (fun hn => by cases hn) (fun _ => ?_)
    refine t_gd false true (by kernel_rfl) (fun hn => by cases hn) (fun _ => ?_)
    refine t_build true [(.int .i64 0), .empty] [(0, 1, .loc 0)] [(.int .i64 1)] [(.int .i64 1), .empty] H52 (by kernel_rfl) (fill_c (vs := [(.int .i64 1)]) (size := 1) rfl (by kernel_rfl) (by kernel_rfl) (by kernel_rfl)) ?_
    refine t_gd false true (by kernel_rfl) (fun hn => by cases hn) (fun _ => ?_)
    refine t_done [(.bool false), (.slice b18 0 2 (some 2)), (.int .i64 r4), (.agg [(.int .i64 r5), (.int .i64 r6)]), (.agg [(.int .i64 r13), (.int .i64 r14)]), (.agg [(.int .i64 r22), (.int .i64 r23)]), (.agg [(.int .i64 r30), (.int .i64 r31)]), (.agg [(.int .i64 r41), (.int .i64 r42)]), (.agg [(.int .i64 r48), (.int .i64 r49)]), r12, r20, r21, (.agg [(.int .i64 r28), r29]), (.bool r40), (.bool r47)] H52 (by kernel_rfl) ?_
    refine then_norm ?_
    refine w_ret ?_
    exact body_ret (vs := [(.bool false)]) _ (by kernel_rfl) rfl h

def rf_LSpeculateResultsMatchSpec (nspeculate_Decide nspeculate_Next nspeculate_Useful nLspeculateExample nFResultsFault nFEqualRuns nFDecide nFEqualInts nFFault nFRunCode nFUpto : Nat) : RFunc := ⟨3, 24, [.var 3],
 ((.seq (.ops [⟨.tomb 1 (.var 2), none, (some 4), true⟩, ⟨.move (.k (.bool false)), none, (some 3), true⟩])
 ((.seq (.ops [⟨.move (.var 0), none, none, true⟩, ⟨.move (.var 1), none, none, true⟩, ⟨.callS nspeculate_Decide [(.loc 0), (.loc 1)], none, none, true⟩, ⟨.move (.loc 2), none, none, true⟩, ⟨.extract (.loc 3) 0, none, none, true⟩, ⟨.extract (.loc 3) 1, none, none, true⟩, ⟨.extract (.loc 3) 2, none, none, true⟩, ⟨.tomb 1 (.k (.agg [.int .i64 0, .int .i64 0])), none, (some 8), true⟩, ⟨.move (.loc 4), none, (some 11), true⟩, ⟨.move (.loc 5), none, (some 12), true⟩, ⟨.upd 2 0 (.loc 7) (.loc 6), none, (some 8), true⟩])
 ((.seq (.ops [⟨.move (.var 0), none, none, true⟩, ⟨.move (.var 1), none, none, true⟩, ⟨.callS nspeculate_Next [(.loc 0), (.loc 1)], none, none, true⟩, ⟨.move (.loc 2), none, none, true⟩, ⟨.extract (.loc 3) 0, none, none, true⟩, ⟨.extract (.loc 3) 1, none, none, true⟩, ⟨.tomb 1 (.k (.agg [.int .i64 0, .empty])), none, (some 13), true⟩, ⟨.tomb 1 (.k (.agg [.int .i64 0, .int .i64 0])), none, (some 9), true⟩, ⟨.upd 2 0 (.loc 6) (.loc 4), none, (some 13), true⟩, ⟨.upd 2 0 (.loc 7) (.loc 5), none, (some 9), true⟩])
 ((.seq (.ops [⟨.move (.var 0), none, none, true⟩, ⟨.move (.var 1), none, none, true⟩, ⟨.field 0 (some 2) (.var 4), none, none, true⟩, ⟨.callS nspeculate_Useful [(.loc 0), (.loc 1), (.loc 2)], none, none, true⟩, ⟨.move (.loc 3), none, none, true⟩, ⟨.extract (.loc 4) 0, none, none, true⟩, ⟨.extract (.loc 4) 1, none, none, true⟩, ⟨.tomb 1 (.k (.agg [.int .i64 0, .int .i64 0])), none, (some 10), true⟩, ⟨.move (.loc 5), none, (some 15), true⟩, ⟨.upd 2 0 (.loc 7) (.loc 6), none, (some 10), true⟩])
 ((.seq (.ops [⟨.build [.int .i64 0, .empty] [], none, none, true⟩, ⟨.tomb 1 (.k (.agg [.int .i64 0, .empty])), none, (some 14), true⟩, ⟨.upd 2 0 (.loc 1) (.loc 0), none, (some 14), true⟩])
 ((.seq ((.seq (.ops [⟨.callS nLspeculateExample [], none, none, true⟩, ⟨.un .not (.loc 0), none, (some 5), true⟩])
 (.cond (.var 5) ((.seq (.ops [⟨.move (.k (.bool false)), none, (some 3), true⟩])
 (.ret))) (.skip))))
 ((.seq (.ops [⟨.move (.var 0), none, none, true⟩, ⟨.move (.var 1), none, none, true⟩, ⟨.callS nFResultsFault [(.loc 0), (.loc 1)], none, none, true⟩, ⟨.tomb 1 (.k (.agg [.int .i64 0, .int .i64 0])), none, (some 6), true⟩, ⟨.upd 2 0 (.loc 3) (.loc 2), none, (some 6), true⟩])
 ((.seq ((.seq (.ops [⟨.field 0 none (.var 6), none, none, true⟩, ⟨.field 0 none (.var 6), none, none, true⟩, ⟨.bin .neq .no (.loc 1) (.k (.int .i64 0)), none, (some 7), true⟩])
 (.cond (.var 7) ((.seq (.ops [⟨.field 0 (some 2) (.var 8), none, none, true⟩, ⟨.field 0 (some 2) (.var 6), none, none, true⟩, ⟨.bin .eql (.agg [.int, .int]) (.loc 0) (.loc 1), none, none, true⟩, ⟨.move (.loc 2), none, none, true⟩, ⟨.field 0 (some 2) (.var 9), none, none, true⟩, ⟨.field 0 (some 2) (.var 6), none, none, true⟩, ⟨.bin .eql (.agg [.int, .int]) (.loc 4) (.loc 5), none, none, true⟩, ⟨.pick (.loc 3) (.loc 6) (.k (.bool false)), none, none, true⟩, ⟨.move (.loc 7), none, none, true⟩, ⟨.field 0 (some 2) (.var 10), none, none, true⟩, ⟨.field 0 (some 2) (.var 6), none, none, true⟩, ⟨.bin .eql (.agg [.int, .int]) (.loc 9) (.loc 10), none, none, true⟩, ⟨.pick (.loc 8) (.loc 11) (.k (.bool false)), none, none, true⟩, ⟨.move (.loc 12), none, none, true⟩, ⟨.move (.var 11), none, none, true⟩, ⟨.len (.loc 14), none, none, true⟩, ⟨.bin .eql .no (.loc 15) (.k (.int .i64 0)), none, none, true⟩, ⟨.pick (.loc 13) (.loc 16) (.k (.bool false)), none, none, true⟩, ⟨.move (.loc 17), none, none, true⟩, ⟨.move (.var 12), none, none, true⟩, ⟨.len (.loc 19), none, none, true⟩, ⟨.bin .eql .no (.loc 20) (.k (.int .i64 0)), none, none, true⟩, ⟨.pick (.loc 18) (.loc 21) (.k (.bool false)), none, none, true⟩, ⟨.move (.loc 22), none, none, true⟩, ⟨.field 0 (some 2) (.var 13), none, none, true⟩, ⟨.field 0 (some 2) (.var 14), none, none, true⟩, ⟨.callS nFEqualRuns [(.loc 24), (.loc 25)], (some (23, true)), none, true⟩, ⟨.pick (.loc 23) (.loc 26) (.k (.bool false)), none, none, true⟩, ⟨.move (.loc 27), none, none, true⟩, ⟨.move (.var 15), none, none, true⟩, ⟨.un .not (.loc 29), none, none, true⟩, ⟨.pick (.loc 28) (.loc 30) (.k (.bool false)), none, none, true⟩, ⟨.move (.loc 31), none, (some 3), true⟩])
 (.ret))) (.skip))))
 ((.seq (.ops [⟨.move (.var 0), none, none, true⟩, ⟨.move (.var 1), none, none, true⟩, ⟨.callS nFDecide [(.loc 0), (.loc 1), (.k (.empty)), (.k (.empty))], none, none, true⟩, ⟨.move (.loc 2), none, none, true⟩, ⟨.extract (.loc 3) 0, none, none, true⟩, ⟨.extract (.loc 3) 1, none, none, true⟩, ⟨.move (.loc 4), none, (some 16), true⟩, ⟨.move (.loc 5), none, (some 17), true⟩])
 ((.seq ((.seq (.ops [⟨.field 0 none (.var 8), none, none, true⟩, ⟨.field 0 none (.var 8), none, none, true⟩, ⟨.bin .neq .no (.loc 1) (.k (.int .i64 0)), none, none, true⟩, ⟨.move (.loc 2), none, none, true⟩, ⟨.move (.var 11), none, none, true⟩, ⟨.move (.var 16), none, none, true⟩, ⟨.callS nFEqualInts [(.loc 4), (.loc 5)], (some (3, false)), none, true⟩, ⟨.un .not (.loc 6), (some (3, false)), none, true⟩, ⟨.pick (.loc 3) (.k (.bool true)) (.loc 7), none, none, true⟩, ⟨.move (.loc 8), none, none, true⟩, ⟨.move (.var 12), none, none, true⟩, ⟨.move (.var 17), none, none, true⟩, ⟨.callS nFEqualInts [(.loc 10), (.loc 11)], (some (9, false)), none, true⟩, ⟨.un .not (.loc 12), (some (9, false)), none, true⟩, ⟨.pick (.loc 9) (.k (.bool true)) (.loc 13), none, (some 18), true⟩])
 (.cond (.var 18) ((.seq (.ops [⟨.move (.k (.bool false)), none, (some 3), true⟩])
 (.ret))) (.skip))))
 ((.seq (.ops [⟨.move (.var 16), none, none, true⟩, ⟨.len (.loc 0), none, none, true⟩, ⟨.move (.var 17), none, none, true⟩, ⟨.len (.loc 2), none, none, true⟩, ⟨.bin .add .no (.loc 1) (.loc 3), none, none, true⟩, ⟨.move (.loc 4), none, (some 19), true⟩])
 ((.seq ((.seq (.ops [⟨.move (.var 19), none, none, true⟩, ⟨.move (.var 0), none, none, true⟩, ⟨.bin .eql .no (.loc 0) (.loc 1), none, (some 20), true⟩])
 (.cond (.var 20) ((.seq (.ops [⟨.field 0 (some 2) (.var 9), none, none, false⟩, ⟨.callS nFFault [(.k (.int .i64 6)), (.k (.int .i64 (-3)))], none, none, false⟩, ⟨.bin .neq (.agg [.int, .int]) (.loc 0) (.loc 1), none, none, true⟩, ⟨.move (.loc 2), none, none, true⟩, ⟨.field 0 (some 2) (.var 13), none, none, false⟩, ⟨.field 0 (some 2) (.var 14), none, none, false⟩, ⟨.callS nFEqualRuns [(.loc 4), (.loc 5)], (some (3, false)), none, true⟩, ⟨.un .not (.loc 6), (some (3, false)), none, true⟩, ⟨.pick (.loc 3) (.k (.bool true)) (.loc 7), none, (some 21), true⟩])
 (.cond (.var 21) ((.seq (.ops [⟨.move (.k (.bool false)), none, (some 3), true⟩])
 (.ret))) (.skip)))) ((.seq (.ops [⟨.field 0 none (.var 9), none, none, true⟩, ⟨.field 0 none (.var 9), none, none, true⟩, ⟨.bin .neq .no (.loc 1) (.k (.int .i64 0)), none, none, true⟩, ⟨.move (.loc 2), none, none, true⟩, ⟨.field 0 (some 2) (.var 13), none, none, true⟩, ⟨.move (.var 19), none, none, true⟩, ⟨.move (.var 16), none, none, true⟩, ⟨.build [.int .i64 0, .empty] [(0, 1, (.loc 5)), (1, 1, (.loc 6))], none, none, true⟩, ⟨.callS nFEqualRuns [(.loc 4), (.loc 7)], (some (3, false)), none, true⟩, ⟨.un .not (.loc 8), (some (3, false)), none, true⟩, ⟨.pick (.loc 3) (.k (.bool true)) (.loc 9), none, (some 22), true⟩])
 (.cond (.var 22) ((.seq (.ops [⟨.move (.k (.bool false)), none, (some 3), true⟩])
 (.ret))) (.skip)))))))
 ((.seq ((.seq (.ops [⟨.move (.var 0), none, none, true⟩, ⟨.field 0 (some 2) (.var 4), none, none, true⟩, ⟨.callS nFRunCode [(.loc 0), (.loc 1)], none, none, true⟩, ⟨.bin .neq .no (.loc 2) (.k (.int .i64 0)), none, (some 23), true⟩])
 (.cond (.var 23) ((.seq (.ops [⟨.field 0 (some 2) (.var 10), none, none, false⟩, ⟨.move (.var 0), none, none, false⟩, ⟨.field 0 (some 2) (.var 4), none, none, false⟩, ⟨.callS nFRunCode [(.loc 1), (.loc 2)], none, none, false⟩, ⟨.callS nFFault [(.loc 3), (.k (.int .i64 (-3)))], none, none, false⟩, ⟨.bin .eql (.agg [.int, .int]) (.loc 0) (.loc 4), none, none, true⟩, ⟨.move (.loc 5), none, none, true⟩, ⟨.move (.var 15), none, none, true⟩, ⟨.un .not (.loc 7), none, none, true⟩, ⟨.pick (.loc 6) (.loc 8) (.k (.bool false)), none, none, true⟩, ⟨.move (.loc 9), none, (some 3), true⟩])
 (.ret))) (.skip))))
 ((.seq (.ops [⟨.field 0 none (.var 10), none, none, true⟩, ⟨.field 0 none (.var 10), none, none, true⟩, ⟨.bin .eql .no (.loc 1) (.k (.int .i64 0)), none, none, true⟩, ⟨.move (.loc 2), none, none, true⟩, ⟨.move (.var 15), (some (3, true)), none, true⟩, ⟨.field 0 none (.var 4), (some (3, true)), none, true⟩, ⟨.field 0 none (.var 4), (some (3, true)), none, true⟩, ⟨.move (.var 19), (some (3, true)), none, true⟩, ⟨.bin .geq .no (.loc 6) (.loc 7), (some (3, true)), none, true⟩, ⟨.move (.loc 8), (some (3, true)), none, true⟩, ⟨.field 0 none (.var 4), (some (9, true)), none, true⟩, ⟨.field 1 none (.var 4), (some (9, true)), none, true⟩, ⟨.move (.var 19), (some (9, true)), none, true⟩, ⟨.callS nFUpto [(.loc 11), (.loc 12)], (some (9, true)), none, true⟩, ⟨.move (.var 16), (some (9, true)), none, true⟩, ⟨.callS nFEqualInts [(.loc 13), (.loc 14)], (some (9, true)), none, true⟩, ⟨.pick (.loc 9) (.loc 15) (.k (.bool false)), (some (3, true)), none, true⟩, ⟨.bin .eql .bool (.loc 4) (.loc 16), (some (3, true)), none, true⟩, ⟨.pick (.loc 3) (.loc 17) (.k (.bool false)), none, none, true⟩, ⟨.move (.loc 18), none, (some 3), true⟩])
 (.ret))))))))))))))))))))))))))))), none⟩
theorem v_LSpeculateResultsMatchSpec {F : Nat → Option RFunc} {me nspeculate_Decide nspeculate_Next nspeculate_Useful nLspeculateExample nFResultsFault nFEqualRuns nFDecide nFEqualInts nFFault nFRunCode nFUpto : Nat} (hF : F me = some (rf_LSpeculateResultsMatchSpec nspeculate_Decide nspeculate_Next nspeculate_Useful nLspeculateExample nFResultsFault nFEqualRuns nFDecide nFEqualInts nFFault nFRunCode nFUpto)) {fl : Nat} {H : Heap} {Q : AV → Heap → Prop} (n0 : Int) (l1 : AV) (r2 : Int) (r3 : AV)
  (h : ∀ (H4 : Heap), Dead1 H 1 H4 → Ret F fl nspeculate_Decide [(.int .i64 n0), l1] H4 (fun v10 H9 => ∃ (r5 : AV) (r6 : AV) (r7 : Int) (r8 : Int), v10 = (.tuple [r5, r6, (.agg [(.int .i64 r7), (.int .i64 r8)])]) ∧ ∀ (H11 : Heap), Dead1 H9 1 H11 → Ret F fl nspeculate_Next [(.int .i64 n0), l1] H11 (fun v17 H16 => ∃ (r12 : Int) (r13 : AV) (r14 : Int) (r15 : Int), v17 = (.tuple [(.agg [(.int .i64 r12), r13]), (.agg [(.int .i64 r14), (.int .i64 r15)])]) ∧ ∀ (H18 : Heap), Dead1 H16 1 H18 → ∀ (H19 : Heap), Dead1 H18 1 H19 → Scal r13 ∧ Ret F fl nspeculate_Useful [(.int .i64 n0), l1, (.agg [(.int .i64 r2), r3])] H19 (fun v25 H24 => ∃ (r21 : Bool) (r22 : Int) (r23 : Int), v25 = (.tuple [(.bool r21), (.agg [(.int .i64 r22), (.int .i64 r23)])]) ∧ ∀ (H26 : Heap), Dead1 H24 1 H26 → ∀ (H27 : Heap), Dead1 H26 1 H27 → Ret F fl nLspeculateExample [] H27 (fun v30 H29 => ∃ (r28 : Bool), v30 = (.bool r28) ∧ ((¬(r28 = true)) → Q (.bool false) H29) ∧ (¬(¬(r28 = true)) → Ret F fl nFResultsFault [(.int .i64 n0), l1] H29 (fun v34 H33 => ∃ (r31 : Int) (r32 : Int), v34 = (.agg [(.int .i64 r31), (.int .i64 r32)]) ∧ ∀ (H35 : Heap), Dead1 H33 1 H35 → ((r31 ≠ 0) → ∃ len36 : Nat, lenA r5 = some len36 ∧ ∃ len37 : Nat, lenA r6 = some len37 ∧ ((((((((((((r7 = r31) ∧ (((r8 = r32) ∧ (True))))) ∧ (((r14 = r31) ∧ (((r15 = r32) ∧ (True))))))) ∧ (((r22 = r31) ∧ (((r23 = r32) ∧ (True))))))) ∧ ((len36 : Int) = 0))) ∧ ((len37 : Int) = 0))) → Ret F fl nFEqualRuns [(.agg [(.int .i64 r12), r13]), (.agg [(.int .i64 0), .empty])] H35 (fun v40 H39 => ∃ (r38 : Bool), v40 = (.bool r38) ∧ Q (.bool (r38 && (!r21))) H39)) ∧ (¬(((((((((((r7 = r31) ∧ (((r8 = r32) ∧ (True))))) ∧ (((r14 = r31) ∧ (((r15 = r32) ∧ (True))))))) ∧ (((r22 = r31) ∧ (((r23 = r32) ∧ (True))))))) ∧ ((len36 : Int) = 0))) ∧ ((len37 : Int) = 0))) → Q (.bool false) H35)) ∧ (¬(r31 ≠ 0) → Ret F fl nFDecide [(.int .i64 n0), l1, .empty, .empty] H35 (fun v44 H43 => ∃ (r41 : AV) (r42 : AV), v44 = (.tuple [r41, r42]) ∧ ((r7 ≠ 0) → Q (.bool false) H43) ∧ (¬(r7 ≠ 0) → Ret F fl nFEqualInts [r5, r41] H43 (fun v47 H46 => ∃ (r45 : Bool), v47 = (.bool r45) ∧ ((¬(r45 = true)) → Q (.bool false) H46) ∧ (¬(¬(r45 = true)) → Ret F fl nFEqualInts [r6, r42] H46 (fun v50 H49 => ∃ (r48 : Bool), v50 = (.bool r48) ∧ ((¬(r48 = true)) → Q (.bool false) H49) ∧ (¬(¬(r48 = true)) → ∃ len51 : Nat, lenA r41 = some len51 ∧ ∃ len52 : Nat, lenA r42 = some len52 ∧ ∃ (R53 : Heap → Prop), ((((IntKind.wrap .i64 ((len51 : Int) + (len52 : Int))) = n0) → Ret F H49.length nFFault [(.int .i64 6), (.int .i64 (-3))] H49 (fun v62 H61 => ∃ (r59 : Int) (r60 : Int), v62 = (.agg [(.int .i64 r59), (.int .i64 r60)]) ∧ ((¬(((r14 = r59) ∧ (((r15 = r60) ∧ (True)))))) → Q (.bool false) H61) ∧ (¬(¬(((r14 = r59) ∧ (((r15 = r60) ∧ (True)))))) → Ret F fl nFEqualRuns [(.agg [(.int .i64 r12), r13]), (.agg [(.int .i64 0), .empty])] H61 (fun v65 H64 => ∃ (r63 : Bool), v65 = (.bool r63) ∧ ((¬(r63 = true)) → Q (.bool false) H64) ∧ (¬(¬(r63 = true)) → R53 H64))))) ∧ (¬((IntKind.wrap .i64 ((len51 : Int) + (len52 : Int))) = n0) → Scal r41 ∧ ((r14 ≠ 0) → Q (.bool false) H49) ∧ (¬(r14 ≠ 0) → Ret F fl nFEqualRuns [(.agg [(.int .i64 r12), r13]), (.agg [(.int .i64 (IntKind.wrap .i64 ((len51 : Int) + (len52 : Int)))), r41])] H49 (fun v69 H68 => ∃ (r67 : Bool), v69 = (.bool r67) ∧ ((¬(r67 = true)) → Q (.bool false) H68) ∧ (¬(¬(r67 = true)) → R53 H68))))) ∧ (∀ (H58 : Heap), R53 H58 → Ret F fl nFRunCode [(.int .i64 n0), (.agg [(.int .i64 r2), r3])] H58 (fun v72 H71 => ∃ (r70 : Int), v72 = (.int .i64 r70) ∧ ((r70 ≠ 0) → Ret F H71.length nFRunCode [(.int .i64 n0), (.agg [(.int .i64 r2), r3])] H71 (fun v75 H74 => ∃ (r73 : Int), v75 = (.int .i64 r73) ∧ Ret F H74.length nFFault [(.int .i64 r73), (.int .i64 (-3))] H74 (fun v79 H78 => ∃ (r76 : Int) (r77 : Int), v79 = (.agg [(.int .i64 r76), (.int .i64 r77)]) ∧ Q (.bool ((((r22) == r76) && (((r23) == r77) && true)) && (!r21))) H78))) ∧ (¬(r70 ≠ 0) → ((r22 = 0) → ((r2 ≥ (IntKind.wrap .i64 ((len51 : Int) + (len52 : Int)))) → Ret F fl nFUpto [r3, (.int .i64 (IntKind.wrap .i64 ((len51 : Int) + (len52 : Int))))] H71 (fun r80 H81 => Ret F fl nFEqualInts [r80, r41] H81 (fun v85 H84 => ∃ (r83 : Bool), v85 = (.bool r83) ∧ Q (.bool (r21 == r83)) H84))) ∧ (¬(r2 ≥ (IntKind.wrap .i64 ((len51 : Int) + (len52 : Int)))) → Q (.bool (r21 == false)) H71)) ∧ (¬(r22 = 0) → Q (.bool false) H71)))))))))))))))))) : Ret F fl me [(.int .i64 n0), l1, (.agg [(.int .i64 r2), r3])] H Q := by
  refine ret_intro hF rfl ?_
  refine w_seq ?_
  refine w_run [1, 0] ?_
  obtain ⟨H4, hb⟩ : ∃ H', Dead1 H 1 H' := ⟨_, ⟨rfl⟩⟩
  replace h := h H4 hb
  refine t_tomb true 1 (.agg [(.int .i64 r2), r3]) [(.int .i64 r2), r3] H4 H (by kernel_rfl) rfl hb ?_
  refine t_done [(.int .i64 n0), l1, (.agg [(.int .i64 r2), r3]), (.bool false), (.agg [(.int .i64 r2), r3]), .undef, .undef, .undef, .undef, .undef, .undef, .undef, .undef, .undef, .undef, .undef, .undef, .undef, .undef, .undef, .undef, .undef, .undef, .undef] H4 (by kernel_rfl) ?_
  refine then_norm ?_
  refine w_seq ?_
  refine w_run [0, 0, 1, 0, 0, 0, 0, 1, 0, 0, 1] ?_
  refine t_call true nspeculate_Decide [(.int .i64 n0), l1] H4 (by kernel_rfl) h ?_
  clear h
  rintro _ H9 ⟨r5, r6, r7, r8, rfl, h⟩
  obtain ⟨H11, hb⟩ : ∃ H', Dead1 H9 1 H' := ⟨_, ⟨rfl⟩⟩
  replace h := h H11 hb
  refine t_tomb true 1 (.agg [(.int .i64 0), (.int .i64 0)]) [(.int .i64 0), (.int .i64 0)] H11 H9 (by kernel_rfl) rfl hb ?_
  refine t_upd true 2 0 [(.int .i64 0), (.int .i64 0)] (.agg [(.int .i64 r7), (.int .i64 r8)]) [(.int .i64 r7), (.int .i64 r8)] [(.int .i64 r7), (.int .i64 r8)] H11 (by kernel_rfl) rfl (all_c rfl (all_c rfl all_n)) ⟨rfl, Nat.le_of_ble_eq_true (by kernel_rfl), rfl⟩ ?_
  refine t_done [(.int .i64 n0), l1, (.agg [(.int .i64 r2), r3]), (.bool false), (.agg [(.int .i64 r2), r3]), .undef, .undef, .undef, (.agg [(.int .i64 r7), (.int .i64 r8)]), .undef, .undef, r5, r6, .undef, .undef, .undef, .undef, .undef, .undef, .undef, .undef, .undef, .undef, .undef] H11 (by kernel_rfl) ?_
  refine then_norm ?_
  refine w_seq ?_
  refine w_run [0, 0, 1, 0, 0, 0, 1, 1, 1, 1] ?_
  refine t_call true nspeculate_Next [(.int .i64 n0), l1] H11 (by kernel_rfl) h ?_
  clear h
  rintro _ H16 ⟨r12, r13, r14, r15, rfl, h⟩
  obtain ⟨H18, hb⟩ : ∃ H', Dead1 H16 1 H' := ⟨_, ⟨rfl⟩⟩
  replace h := h H18 hb
  refine t_tomb true 1 (.agg [(.int .i64 0), .empty]) [(.int .i64 0), .empty] H18 H16 (by kernel_rfl) rfl hb ?_
  obtain ⟨H19, hb⟩ : ∃ H', Dead1 H18 1 H' := ⟨_, ⟨rfl⟩⟩
  replace h := h H19 hb
  refine t_tomb true 1 (.agg [(.int .i64 0), (.int .i64 0)]) [(.int .i64 0), (.int .i64 0)] H19 H18 (by kernel_rfl) rfl hb ?_
  obtain ⟨hs20, h⟩ := h
  refine t_upd true 2 0 [(.int .i64 0), .empty] (.agg [(.int .i64 r12), r13]) [(.int .i64 r12), r13] [(.int .i64 r12), r13] H19 (by kernel_rfl) rfl (all_c rfl (all_c hs20.2 all_n)) ⟨rfl, Nat.le_of_ble_eq_true (by kernel_rfl), rfl⟩ ?_
  refine t_upd true 2 0 [(.int .i64 0), (.int .i64 0)] (.agg [(.int .i64 r14), (.int .i64 r15)]) [(.int .i64 r14), (.int .i64 r15)] [(.int .i64 r14), (.int .i64 r15)] H19 (by kernel_rfl) rfl (all_c rfl (all_c rfl all_n)) ⟨rfl, Nat.le_of_ble_eq_true (by kernel_rfl), rfl⟩ ?_
  refine t_done [(.int .i64 n0), l1, (.agg [(.int .i64 r2), r3]), (.bool false), (.agg [(.int .i64 r2), r3]), .undef, .undef, .undef, (.agg [(.int .i64 r7), (.int .i64 r8)]), (.agg [(.int .i64 r14), (.int .i64 r15)]), .undef, r5, r6, (.agg [(.int .i64 r12), r13]), .undef, .undef, .undef, .undef, .undef, .undef, .undef, .undef, .undef, .undef] H19 (by kernel_rfl) ?_
  refine then_norm ?_
  refine w_seq ?_
  refine w_run [0, 0, 0, 1, 0, 0, 0, 1, 0, 1] ?_
  refine t_call true nspeculate_Useful [(.int .i64 n0), l1, (.agg [(.int .i64 r2), r3])] H19 (by kernel_rfl) h ?_
  clear h
  rintro _ H24 ⟨r21, r22, r23, rfl, h⟩
  obtain ⟨H26, hb⟩ : ∃ H', Dead1 H24 1 H' := ⟨_, ⟨rfl⟩⟩
  replace h := h H26 hb
  refine t_tomb true 1 (.agg [(.int .i64 0), (.int .i64 0)]) [(.int .i64 0), (.int .i64 0)] H26 H24 (by kernel_rfl) rfl hb ?_
  refine t_upd true 2 0 [(.int .i64 0), (.int .i64 0)] (.agg [(.int .i64 r22), (.int .i64 r23)]) [(.int .i64 r22), (.int .i64 r23)] [(.int .i64 r22), (.int .i64 r23)] H26 (by kernel_rfl) rfl (all_c rfl (all_c rfl all_n)) ⟨rfl, Nat.le_of_ble_eq_true (by kernel_rfl), rfl⟩ ?_
  refine t_done [(.int .i64 n0), l1, (.agg [(.int .i64 r2), r3]), (.bool false), (.agg [(.int .i64 r2), r3]), .undef, .undef, .undef, (.agg [(.int .i64 r7), (.int .i64 r8)]), (.agg [(.int .i64 r14), (.int .i64 r15)]), (.agg [(.int .i64 r22), (.int .i64 r23)]), r5, r6, (.agg [(.int .i64 r12), r13]), .undef, (.bool r21), .undef, .undef, .undef, .undef, .undef, .undef, .undef, .undef] H26 (by kernel_rfl) ?_
  refine then_norm ?_
  refine w_seq ?_
  refine w_run [1, 1, 1] ?_
  refine t_build true [(.int .i64 0), .empty] [] [] [(.int .i64 0), .empty] H26 (by kernel_rfl) (by kernel_rfl) ?_
  obtain ⟨H27, hb⟩ : ∃ H', Dead1 H26 1 H' := ⟨_, ⟨rfl⟩⟩
  replace h := h H27 hb
  refine t_tomb true 1 (.agg [(.int .i64 0), .empty]) [(.int .i64 0), .empty] H27 H26 (by kernel_rfl) rfl hb ?_
  refine t_upd true 2 0 [(.int .i64 0), .empty] (.agg [(.int .i64 0), .empty]) [(.int .i64 0), .empty] [(.int .i64 0), .empty] H27 (by kernel_rfl) rfl (all_c rfl (all_c rfl all_n)) ⟨rfl, Nat.le_of_ble_eq_true (by kernel_rfl), rfl⟩ ?_
  refine t_done [(.int .i64 n0), l1, (.agg [(.int .i64 r2), r3]), (.bool false), (.agg [(.int .i64 r2), r3]), .undef, .undef, .undef, (.agg [(.int .i64 r7), (.int .i64 r8)]), (.agg [(.int .i64 r14), (.int .i64 r15)]), (.agg [(.int .i64 r22), (.int .i64 r23)]), r5, r6, (.agg [(.int .i64 r12), r13]), (.agg [(.int .i64 0), .empty]), (.bool r21), .undef, .undef, .undef, .undef, .undef, .undef, .undef, .undef] H27 (by kernel_rfl) ?_
  refine then_norm ?_
  refine w_seq ?_
  refine w_seq ?_
  refine w_run [1, 0] ?_
  refine t_call true nLspeculateExample [] H27 (by kernel_rfl) h ?_
  clear h
  rintro _ H29 ⟨r28, rfl, h⟩
  refine t_done [(.int .i64 n0), l1, (.agg [(.int .i64 r2), r3]), (.bool false), (.agg [(.int .i64 r2), r3]), (.bool (!r28)), .undef, .undef, (.agg [(.int .i64 r7), (.int .i64 r8)]), (.agg [(.int .i64 r14), (.int .i64 r15)]), (.agg [(.int .i64 r22), (.int .i64 r23)]), r5, r6, (.agg [(.int .i64 r12), r13]), (.agg [(.int .i64 0), .empty]), (.bool r21), .undef, .undef, .undef, .undef, .undef, .undef, .undef, .undef] H29 (by kernel_rfl) ?_
  refine then_norm ?_
  refine w_cond (t := (!r28)) rfl (fun hc => ?_) (fun hc => ?_)
  · replace h := h.1 ((is_not is_raw).t hc)
    refine w_seq ?_
    refine w_run [0] ?_
    refine t_done [(.int .i64 n0), l1, (.agg [(.int .i64 r2), r3]), (.bool false), (.agg [(.int .i64 r2), r3]), (.bool (!r28)), .undef, .undef, (.agg [(.int .i64 r7), (.int .i64 r8)]), (.agg [(.int .i64 r14), (.int .i64 r15)]), (.agg [(.int .i64 r22), (.int .i64 r23)]), r5, r6, (.agg [(.int .i64 r12), r13]), (.agg [(.int .i64 0), .empty]), (.bool r21), .undef, .undef, .undef, .undef, .undef, .undef, .undef, .undef] H29 (by kernel_rfl) ?_
    refine then_norm ?_
    refine w_ret ?_
    refine then_ret ?_
    exact body_ret (vs := [(.bool false)]) _ (by kernel_rfl) rfl h
  · replace h := h.2 ((is_not is_raw).f hc)
    refine w_skip ?_
    refine then_norm ?_
    refine w_seq ?_
    refine w_run [0, 0, 1, 1, 1] ?_
    refine t_call true nFResultsFault [(.int .i64 n0), l1] H29 (by kernel_rfl) h ?_
    clear h
    rintro _ H33 ⟨r31, r32, rfl, h⟩
    obtain ⟨H35, hb⟩ : ∃ H', Dead1 H33 1 H' := ⟨_, ⟨rfl⟩⟩
    replace h := h H35 hb
    refine t_tomb true 1 (.agg [(.int .i64 0), (.int .i64 0)]) [(.int .i64 0), (.int .i64 0)] H35 H33 (by kernel_rfl) rfl hb ?_
    refine t_upd true 2 0 [(.int .i64 0), (.int .i64 0)] (.agg [(.int .i64 r31), (.int .i64 r32)]) [(.int .i64 r31), (.int .i64 r32)] [(.int .i64 r31), (.int .i64 r32)] H35 (by kernel_rfl) rfl (all_c rfl (all_c rfl all_n)) ⟨rfl, Nat.le_of_ble_eq_true (by kernel_rfl), rfl⟩ ?_
    refine t_done [(.int .i64 n0), l1, (.agg [(.int .i64 r2), r3]), (.bool false), (.agg [(.int .i64 r2), r3]), (.bool (!r28)), (.agg [(.int .i64 r31), (.int .i64 r32)]), .undef, (.agg [(.int .i64 r7), (.int .i64 r8)]), (.agg [(.int .i64 r14), (.int .i64 r15)]), (.agg [(.int .i64 r22), (.int .i64 r23)]), r5, r6, (.agg [(.int .i64 r12), r13]), (.agg [(.int .i64 0), .empty]), (.bool r21), .undef, .undef, .undef, .undef, .undef, .undef, .undef, .undef] H35 (by kernel_rfl) ?_
    refine then_norm ?_
    refine w_seq ?_
    refine w_seq ?_
    refine w_run [0, 0, 0] ?_
    refine t_done [(.int .i64 n0), l1, (.agg [(.int .i64 r2), r3]), (.bool false), (.agg [(.int .i64 r2), r3]), (.bool (!r28)), (.agg [(.int .i64 r31), (.int .i64 r32)]), (.bool ((r31) != 0)), (.agg [(.int .i64 r7), (.int .i64 r8)]), (.agg [(.int .i64 r14), (.int .i64 r15)]), (.agg [(.int .i64 r22), (.int .i64 r23)]), r5, r6, (.agg [(.int .i64 r12), r13]), (.agg [(.int .i64 0), .empty]), (.bool r21), .undef, .undef, .undef, .undef, .undef, .undef, .undef, .undef] H35 (by kernel_rfl) ?_
    refine then_norm ?_
    refine w_cond (t := ((r31) != 0)) rfl (fun hc => ?_) (fun hc => ?_)
    · replace h := h.1 (is_ne.t hc)
      refine w_seq ?_
      refine w_run [0, 0, 0, 0, 0, 0, 0, 0, 0, 0, 0, 0, 0, 0, 0, 1, 0, 0, 0, 0, 1, 0, 0, 0, 0, 0, 3, 0, 0, 0, 0, 0, 0] ?_
      obtain ⟨len36, hl, h⟩ := h
      refine t_len true r5 len36 H35 (by kernel_rfl) hl ?_
      obtain ⟨len37, hl, h⟩ := h
      refine t_len true r6 len37 H35 (by kernel_rfl) hl ?_
      refine t_gd (((((((r7) == r31) && (((r8) == r32) && true)) && (((r14) == r31) && (((r15) == r32) && true))) && (((r22) == r31) && (((r23) == r32) && true))) && (((len36 : Int)) == 0)) && (((len37 : Int)) == 0)) true (by kernel_rfl) (fun hc => ?_) (fun hc => ?_)
      · replace h := h.1 ((is_and (is_and (is_and (is_and (is_and is_eq (is_and is_eq is_true)) (is_and is_eq (is_and is_eq is_true))) (is_and is_eq (is_and is_eq is_true))) is_eq) is_eq).t hc)
        refine t_call true nFEqualRuns [(.agg [(.int .i64 r12), r13]), (.agg [(.int .i64 0), .empty])] H35 (by kernel_rfl) h ?_
        clear h
        rintro _ H39 ⟨r38, rfl, h⟩
        refine t_done [(.int .i64 n0), l1, (.agg [(.int .i64 r2), r3]), (.bool (r38 && (!r21))), (.agg [(.int .i64 r2), r3]), (.bool (!r28)), (.agg [(.int .i64 r31), (.int .i64 r32)]), (.bool ((r31) != 0)), (.agg [(.int .i64 r7), (.int .i64 r8)]), (.agg [(.int .i64 r14), (.int .i64 r15)]), (.agg [(.int .i64 r22), (.int .i64 r23)]), r5, r6, (.agg [(.int .i64 r12), r13]), (.agg [(.int .i64 0), .empty]), (.bool r21), .undef, .undef, .undef, .undef, .undef, .undef, .undef, .undef] H39 (by kernel_rfl) ?_
        refine then_norm ?_
        refine w_ret ?_
        refine then_ret ?_
        exact body_ret (vs := [(.bool (r38 && (!r21)))]) _ (by kernel_rfl) rfl h
      · replace h := h.2 ((is_and (is_and (is_and (is_and (is_and is_eq (is_and is_eq is_true)) (is_and is_eq (is_and is_eq is_true))) (is_and is_eq (is_and is_eq is_true))) is_eq) is_eq).f hc)
        refine t_done [(.int .i64 n0), l1, (.agg [(.int .i64 r2), r3]), (.bool false), (.agg [(.int .i64 r2), r3]), (.bool (!r28)), (.agg [(.int .i64 r31), (.int .i64 r32)]), (.bool ((r31) != 0)), (.agg [(.int .i64 r7), (.int .i64 r8)]), (.agg [(.int .i64 r14), (.int .i64 r15)]), (.agg [(.int .i64 r22), (.int .i64 r23)]), r5, r6, (.agg [(.int .i64 r12), r13]), (.agg [(.int .i64 0), .empty]), (.bool r21), .undef, .undef, .undef, .undef, .undef, .undef, .undef, .undef] H35 (by kernel_rfl) ?_
        refine then_norm ?_
        refine w_ret ?_
        refine then_ret ?_
        exact body_ret (vs := [(.bool false)]) _ (by kernel_rfl) rfl h
    · replace h := h.2 (is_ne.f hc)
      refine w_skip ?_
      refine then_norm ?_
      refine w_seq ?_
      refine w_run [0, 0, 1, 0, 0, 0, 0, 0] ?_
      refine t_call true nFDecide [(.int .i64 n0), l1, .empty, .empty] H35 (by kernel_rfl) h ?_
      clear h
      rintro _ H43 ⟨r41, r42, rfl, h⟩
      refine t_done [(.int .i64 n0), l1, (.agg [(.int .i64 r2), r3]), (.bool false), (.agg [(.int .i64 r2), r3]), (.bool (!r28)), (.agg [(.int .i64 r31), (.int .i64 r32)]), (.bool ((r31) != 0)), (.agg [(.int .i64 r7), (.int .i64 r8)]), (.agg [(.int .i64 r14), (.int .i64 r15)]), (.agg [(.int .i64 r22), (.int .i64 r23)]), r5, r6, (.agg [(.int .i64 r12), r13]), (.agg [(.int .i64 0), .empty]), (.bool r21), r41, r42, .undef, .undef, .undef, .undef, .undef, .undef] H43 (by kernel_rfl) ?_
      refine then_norm ?_
      refine w_seq ?_
      refine w_seq ?_
      refine w_run [0, 0, 0, 0, 0, 0, 3, 2, 0, 0, 0, 0, 3, 2, 0] ?_
      refine t_gd ((r7) != 0) false (by kernel_rfl) (fun hc => ?_) (fun hc => ?_)
      · replace h := h.2 (is_ne.f hc)
        refine t_call true nFEqualInts [r5, r41] H43 (by kernel_rfl) h ?_
        clear h
        rintro _ H46 ⟨r45, rfl, h⟩
        refine t_gd false false (by kernel_rfl) (fun _ => ?_) (fun hn => by cases hn)
        refine t_gd (!r45) false (by kernel_rfl) (fun hc => ?_) (fun hc => ?_)
        · replace h := h.2 ((is_not is_raw).f hc)
          refine t_call true nFEqualInts [r6, r42] H46 (by kernel_rfl) h ?_
          clear h
          rintro _ H49 ⟨r48, rfl, h⟩
          refine t_gd false false (by kernel_rfl) (fun _ => ?_) (fun hn => by cases hn)
          refine t_done [(.int .i64 n0), l1, (.agg [(.int .i64 r2), r3]), (.bool false), (.agg [(.int .i64 r2), r3]), (.bool (!r28)), (.agg [(.int .i64 r31), (.int .i64 r32)]), (.bool ((r31) != 0)), (.agg [(.int .i64 r7), (.int .i64 r8)]), (.agg [(.int .i64 r14), (.int .i64 r15)]), (.agg [(.int .i64 r22), (.int .i64 r23)]), r5, r6, (.agg [(.int .i64 r12), r13]), (.agg [(.int .i64 0), .empty]), (.bool r21), r41, r42, (.bool (!r48)), .undef, .undef, .undef, .undef, .undef] H49 (by kernel_rfl) ?_
          refine then_norm ?_
          refine w_cond (t := (!r48)) rfl (fun hc => ?_) (fun hc => ?_)
          · replace h := h.1 ((is_not is_raw).t hc)
            refine w_seq ?_
            refine w_run [0] ?_
            refine t_done [(.int .i64 n0), l1, (.agg [(.int .i64 r2), r3]), (.bool false), (.agg [(.int .i64 r2), r3]), (.bool (!r28)), (.agg [(.int .i64 r31), (.int .i64 r32)]), (.bool ((r31) != 0)), (.agg [(.int .i64 r7), (.int .i64 r8)]), (.agg [(.int .i64 r14), (.int .i64 r15)]), (.agg [(.int .i64 r22), (.int .i64 r23)]), r5, r6, (.agg [(.int .i64 r12), r13]), (.agg [(.int .i64 0), .empty]), (.bool r21), r41, r42, (.bool (!r48)), .undef, .undef, .undef, .undef, .undef] H49 (by kernel_rfl) ?_
            refine then_norm ?_
            refine w_ret ?_
            refine then_ret ?_
            exact body_ret (vs := [(.bool false)]) _ (by kernel_rfl) rfl h
          · replace h := h.2 ((is_not is_raw).f hc)
            refine w_skip ?_
            refine then_norm ?_
            refine w_seq ?_
            refine w_run [0, 1, 0, 1, 0, 0] ?_
            obtain ⟨len51, hl, h⟩ := h
            refine t_len true r41 len51 H49 (by kernel_rfl) hl ?_
            obtain ⟨len52, hl, h⟩ := h
            refine t_len true r42 len52 H49 (by kernel_rfl) hl ?_
            refine t_done [(.int .i64 n0), l1, (.agg [(.int .i64 r2), r3]), (.bool false), (.agg [(.int .i64 r2), r3]), (.bool (!r28)), (.agg [(.int .i64 r31), (.int .i64 r32)]), (.bool ((r31) != 0)), (.agg [(.int .i64 r7), (.int .i64 r8)]), (.agg [(.int .i64 r14), (.int .i64 r15)]), (.agg [(.int .i64 r22), (.int .i64 r23)]), r5, r6, (.agg [(.int .i64 r12), r13]), (.agg [(.int .i64 0), .empty]), (.bool r21), r41, r42, (.bool (!r48)), (.int .i64 (IntKind.wrap .i64 ((len51 : Int) + (len52 : Int)))), .undef, .undef, .undef, .undef] H49 (by kernel_rfl) ?_
            refine then_norm ?_
            refine w_seq ?_
            obtain ⟨R53, h, hK⟩ := h
            refine w_join (fun EI HI => ∃ (d54 : AV) (d55 : AV) (d56 : AV) (d57 : AV), EI = [(.int .i64 n0), l1, (.agg [(.int .i64 r2), r3]), d54, (.agg [(.int .i64 r2), r3]), (.bool (!r28)), (.agg [(.int .i64 r31), (.int .i64 r32)]), (.bool ((r31) != 0)), (.agg [(.int .i64 r7), (.int .i64 r8)]), (.agg [(.int .i64 r14), (.int .i64 r15)]), (.agg [(.int .i64 r22), (.int .i64 r23)]), r5, r6, (.agg [(.int .i64 r12), r13]), (.agg [(.int .i64 0), .empty]), (.bool r21), r41, r42, (.bool (!r48)), (.int .i64 (IntKind.wrap .i64 ((len51 : Int) + (len52 : Int)))), d55, d56, d57, .undef] ∧ R53  HI) ?_ ?_
            · clear hK
              refine w_seq ?_
              refine w_run [0, 0, 0] ?_
              refine t_done [(.int .i64 n0), l1, (.agg [(.int .i64 r2), r3]), (.bool false), (.agg [(.int .i64 r2), r3]), (.bool (!r28)), (.agg [(.int .i64 r31), (.int .i64 r32)]), (.bool ((r31) != 0)), (.agg [(.int .i64 r7), (.int .i64 r8)]), (.agg [(.int .i64 r14), (.int .i64 r15)]), (.agg [(.int .i64 r22), (.int .i64 r23)]), r5, r6, (.agg [(.int .i64 r12), r13]), (.agg [(.int .i64 0), .empty]), (.bool r21), r41, r42, (.bool (!r48)), (.int .i64 (IntKind.wrap .i64 ((len51 : Int) + (len52 : Int)))), (.bool (((IntKind.wrap .i64 ((len51 : Int) + (len52 : Int)))) == n0)), .undef, .undef, .undef] H49 (by kernel_rfl) ?_
              refine then_norm ?_
              refine w_cond (t := (((IntKind.wrap .i64 ((len51 : Int) + (len52 : Int)))) == n0)) rfl (fun hc => ?_) (fun hc => ?_)
              · replace h := h.1 (is_eq.t hc)
                refine w_seq ?_
                refine w_run [0, 1, 0, 0, 0, 0, 3, 2, 0] ?_
                refine t_call false nFFault [(.int .i64 6), (.int .i64 (-3))] H49 (by kernel_rfl) h ?_
                clear h
                rintro _ H61 ⟨r59, r60, rfl, h⟩
                refine t_gd (!(((r14) == r59) && (((r15) == r60) && true))) false (by kernel_rfl) (fun hc => ?_) (fun hc => ?_)
                · replace h := h.2 ((is_not (is_and is_eq (is_and is_eq is_true))).f hc)
                  refine t_call true nFEqualRuns [(.agg [(.int .i64 r12), r13]), (.agg [(.int .i64 0), .empty])] H61 (by kernel_rfl) h ?_
                  clear h
                  rintro _ H64 ⟨r63, rfl, h⟩
                  refine t_gd false false (by kernel_rfl) (fun _ => ?_) (fun hn => by cases hn)
                  refine t_done [(.int .i64 n0), l1, (.agg [(.int .i64 r2), r3]), (.bool false), (.agg [(.int .i64 r2), r3]), (.bool (!r28)), (.agg [(.int .i64 r31), (.int .i64 r32)]), (.bool ((r31) != 0)), (.agg [(.int .i64 r7), (.int .i64 r8)]), (.agg [(.int .i64 r14), (.int .i64 r15)]), (.agg [(.int .i64 r22), (.int .i64 r23)]), r5, r6, (.agg [(.int .i64 r12), r13]), (.agg [(.int .i64 0), .empty]), (.bool r21), r41, r42, (.bool (!r48)), (.int .i64 (IntKind.wrap .i64 ((len51 : Int) + (len52 : Int)))), (.bool (((IntKind.wrap .i64 ((len51 : Int) + (len52 : Int)))) == n0)), (.bool (!r63)), .undef, .undef] H64 (by kernel_rfl) ?_
                  refine then_norm ?_
                  refine w_cond (t := (!r63)) rfl (fun hc => ?_) (fun hc => ?_)
                  · replace h := h.1 ((is_not is_raw).t hc)
                    refine w_seq ?_
                    refine w_run [0] ?_
                    refine t_done [(.int .i64 n0), l1, (.agg [(.int .i64 r2), r3]), (.bool false), (.agg [(.int .i64 r2), r3]), (.bool (!r28)), (.agg [(.int .i64 r31), (.int .i64 r32)]), (.bool ((r31) != 0)), (.agg [(.int .i64 r7), (.int .i64 r8)]), (.agg [(.int .i64 r14), (.int .i64 r15)]), (.agg [(.int .i64 r22), (.int .i64 r23)]), r5, r6, (.agg [(.int .i64 r12), r13]), (.agg [(.int .i64 0), .empty]), (.bool r21), r41, r42, (.bool (!r48)), (.int .i64 (IntKind.wrap .i64 ((len51 : Int) + (len52 : Int)))), (.bool (((IntKind.wrap .i64 ((len51 : Int) + (len52 : Int)))) == n0)), (.bool (!r63)), .undef, .undef] H64 (by kernel_rfl) ?_
                    refine then_norm ?_
                    refine w_ret ?_
                    refine join_ret ?_
                    refine then_ret ?_
                    exact body_ret (vs := [(.bool false)]) _ (by kernel_rfl) rfl h
                  · replace h := h.2 ((is_not is_raw).f hc)
                    refine w_skip ?_
                    refine join_norm ⟨_, _, _, _, rfl, h⟩
                · replace h := h.1 ((is_not (is_and is_eq (is_and is_eq is_true))).t hc)
                  refine t_gd true false (by kernel_rfl) (fun hn => by cases hn) (fun _ => ?_)
                  refine t_done [(.int .i64 n0), l1, (.agg [(.int .i64 r2), r3]), (.bool false), (.agg [(.int .i64 r2), r3]), (.bool (!r28)), (.agg [(.int .i64 r31), (.int .i64 r32)]), (.bool ((r31) != 0)), (.agg [(.int .i64 r7), (.int .i64 r8)]), (.agg [(.int .i64 r14), (.int .i64 r15)]), (.agg [(.int .i64 r22), (.int .i64 r23)]), r5, r6, (.agg [(.int .i64 r12), r13]), (.agg [(.int .i64 0), .empty]), (.bool r21), r41, r42, (.bool (!r48)), (.int .i64 (IntKind.wrap .i64 ((len51 : Int) + (len52 : Int)))), (.bool (((IntKind.wrap .i64 ((len51 : Int) + (len52 : Int)))) == n0)), (.bool true), .undef, .undef] H61 (by kernel_rfl) ?_
                  refine then_norm ?_
                  refine w_cond (t := true) rfl (fun _ => ?_) (fun hc => by cases hc)
                  refine w_seq ?_
                  refine w_run [0] ?_
                  refine t_done [(.int .i64 n0), l1, (.agg [(.int .i64 r2), r3]), (.bool false), (.agg [(.int .i64 r2), r3]), (.bool (!r28)), (.agg [(.int .i64 r31), (.int .i64 r32)]), (.bool ((r31) != 0)), (.agg [(.int .i64 r7), (.int .i64 r8)]), (.agg [(.int .i64 r14), (.int .i64 r15)]), (.agg [(.int .i64 r22), (.int .i64 r23)]), r5, r6, (.agg [(.int .i64 r12), r13]), (.agg [(.int .i64 0), .empty]), (.bool r21), r41, r42, (.bool (!r48)), (.int .i64 (IntKind.wrap .i64 ((len51 : Int) + (len52 : Int)))), (.bool (((IntKind.wrap .i64 ((len51 : Int) + (len52 : Int)))) == n0)), (.bool true), .undef, .undef] H61 (by kernel_rfl) ?_
                  refine then_norm ?_
                  refine w_ret ?_
                  refine join_ret ?_
                  refine then_ret ?_
                  exact body_ret (vs := [(.bool false)]) _ (by kernel_rfl) rfl h
              · replace h := h.2 (is_eq.f hc)
                refine w_seq ?_
                refine w_run [0, 0, 0, 0, 0, 0, 0, 1, 3, 2, 0] ?_
                obtain ⟨hs66, h⟩ := h
                refine t_build true [(.int .i64 0), .empty] [(0, 1, .loc 0), (1, 1, .loc 1)] [(.int .i64 (IntKind.wrap .i64 ((len51 : Int) + (len52 : Int)))), r41] [(.int .i64 (IntKind.wrap .i64 ((len51 : Int) + (len52 : Int)))), r41] H49 (by kernel_rfl) (fill_c (vs := [(.int .i64 (IntKind.wrap .i64 ((len51 : Int) + (len52 : Int))))]) (size := 1) rfl (by kernel_rfl) (by kernel_rfl) (fill_c (vs := [r41]) (size := 1) hs66.1 (by kernel_rfl) (by kernel_rfl) (by kernel_rfl))) ?_
                refine t_gd ((r14) != 0) false (by kernel_rfl) (fun hc => ?_) (fun hc => ?_)
                · replace h := h.2 (is_ne.f hc)
                  refine t_call true nFEqualRuns [(.agg [(.int .i64 r12), r13]), (.agg [(.int .i64 (IntKind.wrap .i64 ((len51 : Int) + (len52 : Int)))), r41])] H49 (by kernel_rfl) h ?_
                  clear h
                  rintro _ H68 ⟨r67, rfl, h⟩
                  refine t_gd false false (by kernel_rfl) (fun _ => ?_) (fun hn => by cases hn)
                  refine t_done [(.int .i64 n0), l1, (.agg [(.int .i64 r2), r3]), (.bool false), (.agg [(.int .i64 r2), r3]), (.bool (!r28)), (.agg [(.int .i64 r31), (.int .i64 r32)]), (.bool ((r31) != 0)), (.agg [(.int .i64 r7), (.int .i64 r8)]), (.agg [(.int .i64 r14), (.int .i64 r15)]), (.agg [(.int .i64 r22), (.int .i64 r23)]), r5, r6, (.agg [(.int .i64 r12), r13]), (.agg [(.int .i64 0), .empty]), (.bool r21), r41, r42, (.bool (!r48)), (.int .i64 (IntKind.wrap .i64 ((len51 : Int) + (len52 : Int)))), (.bool (((IntKind.wrap .i64 ((len51 : Int) + (len52 : Int)))) == n0)), .undef, (.bool (!r67)), .undef] H68 (by kernel_rfl) ?_
                  refine then_norm ?_
                  refine w_cond (t := (!r67)) rfl (fun hc => ?_) (fun hc => ?_)
                  · replace h := h.1 ((is_not is_raw).t hc)
                    refine w_seq ?_
                    refine w_run [0] ?_
                    refine t_done [(.int .i64 n0), l1, (.agg [(.int .i64 r2), r3]), (.bool false), (.agg [(.int .i64 r2), r3]), (.bool (!r28)), (.agg [(.int .i64 r31), (.int .i64 r32)]), (.bool ((r31) != 0)), (.agg [(.int .i64 r7), (.int .i64 r8)]), (.agg [(.int .i64 r14), (.int .i64 r15)]), (.agg [(.int .i64 r22), (.int .i64 r23)]), r5, r6, (.agg [(.int .i64 r12), r13]), (.agg [(.int .i64 0), .empty]), (.bool r21), r41, r42, (.bool (!r48)), (.int .i64 (IntKind.wrap .i64 ((len51 : Int) + (len52 : Int)))), (.bool (((IntKind.wrap .i64 ((len51 : Int) + (len52 : Int)))) == n0)), .undef, (.bool (!r67)), .undef] H68 (by kernel_rfl) ?_
                    refine then_norm ?_
                    refine w_ret ?_
                    refine join_ret ?_
                    refine then_ret ?_
                    exact body_ret (vs := [(.bool false)]) _ (by kernel_rfl) rfl h
                  · replace h := h.2 ((is_not is_raw).f hc)
                    refine w_skip ?_
                    refine join_norm ⟨_, _, _, _, rfl, h⟩
                · replace h := h.1 (is_ne.t hc)
                  refine t_gd true false (by kernel_rfl) (fun hn => by cases hn) (fun _ => ?_)
                  refine t_done [(.int .i64 n0), l1, (.agg [(.int .i64 r2), r3]), (.bool false), (.agg [(.int .i64 r2), r3]), (.bool (!r28)), (.agg [(.int .i64 r31), (.int .i64 r32)]), (.bool ((r31) != 0)), (.agg [(.int .i64 r7), (.int .i64 r8)]), (.agg [(.int .i64 r14), (.int .i64 r15)]), (.agg [(.int .i64 r22), (.int .i64 r23)]), r5, r6, (.agg [(.int .i64 r12), r13]), (.agg [(.int .i64 0), .empty]), (.bool r21), r41, r42, (.bool (!r48)), (.int .i64 (IntKind.wrap .i64 ((len51 : Int) + (len52 : Int)))), (.bool (((IntKind.wrap .i64 ((len51 : Int) + (len52 : Int)))) == n0)), .undef, (.bool true), .undef] H49 (by kernel_rfl) ?_
                  refine then_norm ?_
                  refine w_cond (t := true) rfl (fun _ => ?_) (fun hc => by cases hc)
                  refine w_seq ?_
                  refine w_run [0] ?_
                  refine t_done [(.int .i64 n0), l1, (.agg [(.int .i64 r2), r3]), (.bool false), (.agg [(.int .i64 r2), r3]), (.bool (!r28)), (.agg [(.int .i64 r31), (.int .i64 r32)]), (.bool ((r31) != 0)), (.agg [(.int .i64 r7), (.int .i64 r8)]), (.agg [(.int .i64 r14), (.int .i64 r15)]), (.agg [(.int .i64 r22), (.int .i64 r23)]), r5, r6, (.agg [(.int .i64 r12), r13]), (.agg [(.int .i64 0), .empty]), (.bool r21), r41, r42, (.bool (!r48)), (.int .i64 (IntKind.wrap .i64 ((len51 : Int) + (len52 : Int)))), (.bool (((IntKind.wrap .i64 ((len51 : Int) + (len52 : Int)))) == n0)), .undef, (.bool true), .undef] H49 (by kernel_rfl) ?_
                  refine then_norm ?_
                  refine w_ret ?_
                  refine join_ret ?_
                  refine then_ret ?_
                  exact body_ret (vs := [(.bool false)]) _ (by kernel_rfl) rfl h
            · clear h
              rintro EI H58 ⟨d54, d55, d56, d57, rfl, hJ⟩
              have h := hK H58 hJ
              clear hJ hK
              refine then_norm ?_
              refine w_seq ?_
              refine w_seq ?_
              refine w_run [0, 0, 1, 0] ?_
              refine t_call true nFRunCode [(.int .i64 n0), (.agg [(.int .i64 r2), r3])] H58 (by kernel_rfl) h ?_
              clear h
              rintro _ H71 ⟨r70, rfl, h⟩
              refine t_done [(.int .i64 n0), l1, (.agg [(.int .i64 r2), r3]), d54, (.agg [(.int .i64 r2), r3]), (.bool (!r28)), (.agg [(.int .i64 r31), (.int .i64 r32)]), (.bool ((r31) != 0)), (.agg [(.int .i64 r7), (.int .i64 r8)]), (.agg [(.int .i64 r14), (.int .i64 r15)]), (.agg [(.int .i64 r22), (.int .i64 r23)]), r5, r6, (.agg [(.int .i64 r12), r13]), (.agg [(.int .i64 0), .empty]), (.bool r21), r41, r42, (.bool (!r48)), (.int .i64 (IntKind.wrap .i64 ((len51 : Int) + (len52 : Int)))), d55, d56, d57, (.bool ((r70) != 0))] H71 (by kernel_rfl) ?_
              refine then_norm ?_
              refine w_cond (t := ((r70) != 0)) rfl (fun hc => ?_) (fun hc => ?_)
              · replace h := h.1 (is_ne.t hc)
                refine w_seq ?_
                refine w_run [0, 0, 0, 1, 1, 0, 0, 0, 0, 0, 0] ?_
                refine t_call false nFRunCode [(.int .i64 n0), (.agg [(.int .i64 r2), r3])] H71 (by kernel_rfl) h ?_
                clear h
                rintro _ H74 ⟨r73, rfl, h⟩
                refine t_call false nFFault [(.int .i64 r73), (.int .i64 (-3))] H74 (by kernel_rfl) h ?_
                clear h
                rintro _ H78 ⟨r76, r77, rfl, h⟩
                refine t_done [(.int .i64 n0), l1, (.agg [(.int .i64 r2), r3]), (.bool ((((r22) == r76) && (((r23) == r77) && true)) && (!r21))), (.agg [(.int .i64 r2), r3]), (.bool (!r28)), (.agg [(.int .i64 r31), (.int .i64 r32)]), (.bool ((r31) != 0)), (.agg [(.int .i64 r7), (.int .i64 r8)]), (.agg [(.int .i64 r14), (.int .i64 r15)]), (.agg [(.int .i64 r22), (.int .i64 r23)]), r5, r6, (.agg [(.int .i64 r12), r13]), (.agg [(.int .i64 0), .empty]), (.bool r21), r41, r42, (.bool (!r48)), (.int .i64 (IntKind.wrap .i64 ((len51 : Int) + (len52 : Int)))), d55, d56, d57, (.bool ((r70) != 0))] H78 (by kernel_rfl) ?_
                refine then_norm ?_
                refine w_ret ?_
                refine then_ret ?_
                exact body_ret (vs := [(.bool ((((r22) == r76) && (((r23) == r77) && true)) && (!r21)))]) _ (by kernel_rfl) rfl h
              · replace h := h.2 (is_ne.f hc)
                refine w_skip ?_
                refine then_norm ?_
                refine w_seq ?_
                refine w_run [0, 0, 0, 0, 2, 2, 2, 2, 2, 2, 2, 2, 2, 3, 2, 3, 2, 2, 0, 0] ?_
                refine t_gd ((r22) == 0) true (by kernel_rfl) (fun hc => ?_) (fun hc => ?_)
                · replace h := h.1 (is_eq.t hc)
                  refine t_gd true true (by kernel_rfl) (fun _ => ?_) (fun hn => by cases hn)
                  refine t_gd true true (by kernel_rfl) (fun _ => ?_) (fun hn => by cases hn)
                  refine t_gd true true (by kernel_rfl) (fun _ => ?_) (fun hn => by cases hn)
                  refine t_gd true true (by kernel_rfl) (fun _ => ?_) (fun hn => by cases hn)
                  refine t_gd true true (by kernel_rfl) (fun _ => ?_) (fun hn => by cases hn)
                  refine t_gd (decide (r2 ≥ (IntKind.wrap .i64 ((len51 : Int) + (len52 : Int))))) true (by kernel_rfl) (fun hc => ?_) (fun hc => ?_)
                  · replace h := h.1 (is_dec.t hc)
                    refine t_gd true true (by kernel_rfl) (fun _ => ?_) (fun hn => by cases hn)
                    refine t_gd true true (by kernel_rfl) (fun _ => ?_) (fun hn => by cases hn)
                    refine t_gd true true (by kernel_rfl) (fun _ => ?_) (fun hn => by cases hn)
                    refine t_call true nFUpto [r3, (.int .i64 (IntKind.wrap .i64 ((len51 : Int) + (len52 : Int))))] H71 (by kernel_rfl) h ?_
                    clear h
                    rintro r80 H81 h
                    refine t_gd true true (by kernel_rfl) (fun _ => ?_) (fun hn => by cases hn)
                    refine t_gd true true (by kernel_rfl) (fun _ => ?_) (fun hn => by cases hn)
                    refine t_call true nFEqualInts [r80, r41] H81 (by kernel_rfl) h ?_
                    clear h
                    rintro _ H84 ⟨r83, rfl, h⟩
                    refine t_gd true true (by kernel_rfl) (fun _ => ?_) (fun hn => by cases hn)
                    refine t_gd true true (by kernel_rfl) (fun _ => ?_) (fun hn => by cases hn)
                    refine t_done [(.int .i64 n0), l1, (.agg [(.int .i64 r2), r3]), (.bool (r21 == r83)), (.agg [(.int .i64 r2), r3]), (.bool (!r28)), (.agg [(.int .i64 r31), (.int .i64 r32)]), (.bool ((r31) != 0)), (.agg [(.int .i64 r7), (.int .i64 r8)]), (.agg [(.int .i64 r14), (.int .i64 r15)]), (.agg [(.int .i64 r22), (.int .i64 r23)]), r5, r6, (.agg [(.int .i64 r12), r13]), (.agg [(.int .i64 0), .empty]), (.bool r21), r41, r42, (.bool (!r48)), (.int .i64 (IntKind.wrap .i64 ((len51 : Int) + (len52 : Int)))), d55, d56, d57, (.bool ((r70) != 0))] H84 (by kernel_rfl) ?_
                    refine then_norm ?_
                    refine w_ret ?_
                    exact body_ret (vs := [(.bool (r21 == r83))]) _ (by kernel_rfl) rfl h
                  · replace h := h.2 (is_dec.f hc)
                    refine t_gd false true (by kernel_rfl) (fun hn => by cases hn) (fun _ => ?_)
                    refine t_gd false true (by kernel_rfl) (fun hn => by cases hn) (fun _ => ?_)
                    refine t_gd false true (by kernel_rfl) (fun hn => by cases hn) (fun _ => ?_)
                    refine t_gd false true (by kernel_rfl) (fun hn => by cases hn) (fun _ => ?_)
                    refine t_gd false true (by kernel_rfl) (fun hn => by cases hn) (fun _ => ?_)
                    refine t_gd true true (by kernel_rfl) (fun _ => ?_) (fun hn => by cases hn)
                    refine t_gd true true (by kernel_rfl) (fun _ => ?_) (fun hn => by cases hn)
                    refine t_done [(.int .i64 n0), l1, (.agg [(.int .i64 r2), r3]), (.bool (r21 == false)), (.agg [(.int .i64 r2), r3]), (.bool (!r28)), (.agg [(.int .i64 r31), (.int .i64 r32)]), (.bool ((r31) != 0)), (.agg [(.int .i64 r7), (.int .i64 r8)]), (.agg [(.int .i64 r14), (.int .i64 r15)]), (.agg [(.int .i64 r22), (.int .i64 r23)]), r5, r6, (.agg [(.int .i64 r12), r13]), (.agg [(.int .i64 0), .empty]), (.bool r21), r41, r42, (.bool (!r48)), (.int .i64 (IntKind.wrap .i64 ((len51 : Int) + (len52 : Int)))), d55, d56, d57, (.bool ((r70) != 0))] H71 (by kernel_rfl) ?_
                    refine then_norm ?_
                    refine w_ret ?_
                    exact body_ret (vs := [(.bool (r21 == false))]) _ (by kernel_rfl) rfl h
                · replace h := h.2 (is_eq.f hc)
                  refine t_gd false true (by kernel_rfl) (fun hn => by cases hn) (fun _ => ?_)
                  refine t_gd false true (by kernel_rfl) (fun hn => by cases hn) (fun _ => ?_)
                  refine t_gd false true (by kernel_rfl) (fun hn => by cases hn) (fun _ => ?_)
                  refine t_gd false true (by kernel_rfl) (fun hn => by cases hn) (fun _ => ?_)
                  refine t_gd false true (by kernel_rfl) (fun hn => by cases hn) (fun _ => ?_)
                  refine t_gdU true (by kernel_rfl) ?_
                  refine t_gdU true (by kernel_rfl) ?_
                  refine t_gdU true (by kernel_rfl) ?_
                  refine t_gdU true (by kernel_rfl) ?_
                  refine t_gdU true (by kernel_rfl) ?_
                  refine t_gdU true (by kernel_rfl) ?_
                  refine t_gd false true (by kernel_rfl) (fun hn => by cases hn) (fun _ => ?_)
                  refine t_gd false true (by kernel_rfl) (fun hn => by cases hn) (fun _ => ?_)
                  refine t_done [(.int .i64 n0), l1, (.agg [(.int .i64 r2), r3]), (.bool false), (.agg [(.int .i64 r2), r3]), (.bool (!r28)), (.agg [(.int .i64 r31), (.int .i64 r32)]), (.bool ((r31) != 0)), (.agg [(.int .i64 r7), (.int .i64 r8)]), (.agg [(.int .i64 r14), (.int .i64 r15)]), (.agg [(.int .i64 r22), (.int .i64 r23)]), r5, r6, (.agg [(.int .i64 r12), r13]), (.agg [(.int .i64 0), .empty]), (.bool r21), r41, r42, (.bool (!r48)), (.int .i64 (IntKind.wrap .i64 ((len51 : Int) + (len52 : Int)))), d55, d56, d57, (.bool ((r70) != 0))] H71 (by kernel_rfl) ?_
                  refine then_norm ?_
                  refine w_ret ?_
                  exact body_ret (vs := [(.bool false)]) _ (by kernel_rfl) rfl h
        · replace h := h.1 ((is_not is_raw).t hc)
          refine t_gd true false (by kernel_rfl) (fun hn => by cases hn) (fun _ => ?_)
          refine t_done [(.int .i64 n0), l1, (.agg [(.int .i64 r2), r3]), (.bool false), (.agg [(.int .i64 r2), r3]), (.bool (!r28)), (.agg [(.int .i64 r31), (.int .i64 r32)]), (.bool ((r31) != 0)), (.agg [(.int .i64 r7), (.int .i64 r8)]), (.agg [(.int .i64 r14), (.int .i64 r15)]), (.agg [(.int .i64 r22), (.int .i64 r23)]), r5, r6, (.agg [(.int .i64 r12), r13]), (.agg [(.int .i64 0), .empty]), (.bool r21), r41, r42, (.bool true), .undef, .undef, .undef, .undef, .undef] H46 (by kernel_rfl) ?_
          refine then_norm ?_
          refine w_cond (t := true) rfl (fun _ => ?_) (fun hc => by cases hc)
          refine w_seq ?_
          refine w_run [0] ?_
          refine t_done [(.int .i64 n0), l1, (.agg [(.int .i64 r2), r3]), (.bool false), (.agg [(.int .i64 r2), r3]), (.bool (!r28)), (.agg [(.int .i64 r31), (.int .i64 r32)]), (.bool ((r31) != 0)), (.agg [(.int .i64 r7), (.int .i64 r8)]), (.agg [(.int .i64 r14), (.int .i64 r15)]), (.agg [(.int .i64 r22), (.int .i64 r23)]), r5, r6, (.agg [(.int .i64 r12), r13]), (.agg [(.int .i64 0), .empty]), (.bool r21), r41, r42, (.bool true), .undef, .undef, .undef, .undef, .undef] H46 (by kernel_rfl) ?_
          refine then_norm ?_
          refine w_ret ?_
          refine then_ret ?_
          exact body_ret (vs := [(.bool false)]) _ (by kernel_rfl) rfl h
      · replace h := h.1 (is_ne.t hc)
        refine t_gd true false (by kernel_rfl) (fun hn => by cases hn) (fun _ => ?_)
        refine t_gd true false (by kernel_rfl) (fun hn => by cases hn) (fun _ => ?_)
        refine t_gd true false (by kernel_rfl) (fun hn => by cases hn) (fun _ => ?_)
        refine t_done [(.int .i64 n0), l1, (.agg [(.int .i64 r2), r3]), (.bool false), (.agg [(.int .i64 r2), r3]), (.bool (!r28)), (.agg [(.int .i64 r31), (.int .i64 r32)]), (.bool ((r31) != 0)), (.agg [(.int .i64 r7), (.int .i64 r8)]), (.agg [(.int .i64 r14), (.int .i64 r15)]), (.agg [(.int .i64 r22), (.int .i64 r23)]), r5, r6, (.agg [(.int .i64 r12), r13]), (.agg [(.int .i64 0), .empty]), (.bool r21), r41, r42, (.bool true), .undef, .undef, .undef, .undef, .undef] H43 (by kernel_rfl) ?_
        refine then_norm ?_
        refine w_cond (t := true) rfl (fun _ => ?_) (fun hc => by cases hc)
        refine w_seq ?_
        refine w_run [0] ?_
        refine t_done [(.int .i64 n0), l1, (.agg [(.int .i64 r2), r3]), (.bool false), (.agg [(.int .i64 r2), r3]), (.bool (!r28)), (.agg [(.int .i64 r31), (.int .i64 r32)]), (.bool ((r31) != 0)), (.agg [(.int .i64 r7), (.int .i64 r8)]), (.agg [(.int .i64 r14), (.int .i64 r15)]), (.agg [(.int .i64 r22), (.int .i64 r23)]), r5, r6, (.agg [(.int .i64 r12), r13]), (.agg [(.int .i64 0), .empty]), (.bool r21), r41, r42, (.bool true), .undef, .undef, .undef, .undef, .undef] H43 (by kernel_rfl) ?_
        refine then_norm ?_
        refine w_ret ?_
        refine then_ret ?_
        exact body_ret (vs := [(.bool false)]) _ (by kernel_rfl) rfl h

end Go.RM

