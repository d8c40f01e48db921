/-
  Functions of the program as the abstract machine runs them, and what must be shown of a run: printed by RmPrint.
-/
import Derived.Test.YtknhokihjigpiaaRmVc
namespace Go.RM
set_option linter.unusedVariables false
set_option maxRecDepth 4000
-- LBatchbisectFunctionsMatchSpec
def rf_LBatchbisectFunctionsMatchSpec (nFCulpritsFault nbatchbisect_Fails nbatchbisect_First nbatchbisect_Minimal nbatchbisect_Greedy nLbisectExample nbatchbisect_Validate nFSetCode nFFault nFFailing nFLanded nFEqualInts nFFirstFailing : Nat) : RFunc := ⟨3, 36, [.var 3],
 ((.seq (.ops [⟨.move (.k (.bool false)), none, (some 3), true⟩])
 ((.seq (.ops [⟨.move (.var 0), none, none, true⟩, ⟨.move (.var 1), none, none, true⟩, ⟨.callS nFCulpritsFault [(.loc 0), (.loc 1)], none, none, true⟩, ⟨.tomb 1 (.k (.agg [.int .i64 0, .int .i64 0])), none, (some 4), true⟩, ⟨.upd 2 0 (.loc 3) (.loc 2), none, (some 4), true⟩])
 ((.seq (.ops [⟨.move (.var 0), none, none, true⟩, ⟨.move (.var 1), none, none, true⟩, ⟨.move (.var 2), none, none, true⟩, ⟨.callS nbatchbisect_Fails [(.loc 0), (.loc 1), (.loc 2)], none, none, true⟩, ⟨.move (.loc 3), none, none, true⟩, ⟨.extract (.loc 4) 0, none, none, true⟩, ⟨.extract (.loc 4) 1, none, none, true⟩, ⟨.tomb 1 (.k (.agg [.int .i64 0, .int .i64 0])), none, (some 7), true⟩, ⟨.move (.loc 5), none, (some 11), true⟩, ⟨.upd 2 0 (.loc 7) (.loc 6), none, (some 7), true⟩])
 ((.seq (.ops [⟨.move (.var 0), none, none, true⟩, ⟨.move (.var 1), none, none, true⟩, ⟨.callS nbatchbisect_First [(.loc 0), (.loc 1)], none, none, true⟩, ⟨.move (.loc 2), none, none, true⟩, ⟨.extract (.loc 3) 0, none, none, true⟩, ⟨.extract (.loc 3) 1, none, none, true⟩, ⟨.extract (.loc 3) 2, none, none, true⟩, ⟨.tomb 1 (.k (.agg [.int .i64 0, .int .i64 0])), none, (some 8), true⟩, ⟨.move (.loc 4), none, (some 12), true⟩, ⟨.move (.loc 5), none, (some 13), true⟩, ⟨.upd 2 0 (.loc 7) (.loc 6), none, (some 8), true⟩])
 ((.seq (.ops [⟨.move (.var 0), none, none, true⟩, ⟨.move (.var 1), none, none, true⟩, ⟨.callS nbatchbisect_Minimal [(.loc 0), (.loc 1)], none, none, true⟩, ⟨.move (.loc 2), none, none, true⟩, ⟨.extract (.loc 3) 0, none, none, true⟩, ⟨.extract (.loc 3) 1, none, none, true⟩, ⟨.tomb 1 (.k (.agg [.int .i64 0, .int .i64 0])), none, (some 9), true⟩, ⟨.move (.loc 4), none, (some 14), true⟩, ⟨.upd 2 0 (.loc 6) (.loc 5), none, (some 9), true⟩])
 ((.seq (.ops [⟨.move (.var 0), none, none, true⟩, ⟨.move (.var 1), none, none, true⟩, ⟨.callS nbatchbisect_Greedy [(.loc 0), (.loc 1)], none, none, true⟩, ⟨.move (.loc 2), none, none, true⟩, ⟨.extract (.loc 3) 0, none, none, true⟩, ⟨.extract (.loc 3) 1, none, none, true⟩, ⟨.tomb 1 (.k (.agg [.int .i64 0, .int .i64 0])), none, (some 10), true⟩, ⟨.move (.loc 4), none, (some 15), true⟩, ⟨.upd 2 0 (.loc 6) (.loc 5), none, (some 10), true⟩])
 ((.seq ((.seq (.ops [⟨.callS nLbisectExample [], none, none, true⟩, ⟨.un .not (.loc 0), none, none, true⟩, ⟨.move (.loc 1), none, none, true⟩, ⟨.move (.var 0), none, none, false⟩, ⟨.move (.var 1), none, none, false⟩, ⟨.callS nbatchbisect_Validate [(.loc 3), (.loc 4)], (some (2, false)), none, false⟩, ⟨.field 0 (some 2) (.var 4), none, none, false⟩, ⟨.bin .neq (.agg [.int, .int]) (.loc 5) (.loc 6), (some (2, false)), none, true⟩, ⟨.pick (.loc 2) (.k (.bool true)) (.loc 7), none, (some 5), true⟩])
 (.cond (.var 5) ((.seq (.ops [⟨.move (.k (.bool false)), none, (some 3), true⟩])
 (.ret))) (.skip))))
 ((.seq ((.seq (.ops [⟨.field 0 none (.var 4), none, none, true⟩, ⟨.field 0 none (.var 4), none, none, true⟩, ⟨.bin .neq .no (.loc 1) (.k (.int .i64 0)), none, (some 6), true⟩])
 (.cond (.var 6) ((.seq (.ops [⟨.field 0 (some 2) (.var 7), none, none, true⟩, ⟨.field 0 (some 2) (.var 4), none, none, true⟩, ⟨.bin .eql (.agg [.int, .int]) (.loc 0) (.loc 1), none, none, true⟩, ⟨.move (.loc 2), none, none, true⟩, ⟨.field 0 (some 2) (.var 8), none, none, true⟩, ⟨.field 0 (some 2) (.var 4), none, none, true⟩, ⟨.bin .eql (.agg [.int, .int]) (.loc 4) (.loc 5), none, none, true⟩, ⟨.pick (.loc 3) (.loc 6) (.k (.bool false)), none, none, true⟩, ⟨.move (.loc 7), none, none, true⟩, ⟨.field 0 (some 2) (.var 9), none, none, true⟩, ⟨.field 0 (some 2) (.var 4), none, none, true⟩, ⟨.bin .eql (.agg [.int, .int]) (.loc 9) (.loc 10), none, none, true⟩, ⟨.pick (.loc 8) (.loc 11) (.k (.bool false)), none, none, true⟩, ⟨.move (.loc 12), none, none, true⟩, ⟨.field 0 (some 2) (.var 10), none, none, true⟩, ⟨.field 0 (some 2) (.var 4), none, none, true⟩, ⟨.bin .eql (.agg [.int, .int]) (.loc 14) (.loc 15), none, none, true⟩, ⟨.pick (.loc 13) (.loc 16) (.k (.bool false)), none, none, true⟩, ⟨.move (.loc 17), none, none, true⟩, ⟨.move (.var 11), none, none, true⟩, ⟨.un .not (.loc 19), none, none, true⟩, ⟨.pick (.loc 18) (.loc 20) (.k (.bool false)), none, none, true⟩, ⟨.move (.loc 21), none, none, true⟩, ⟨.move (.var 12), none, none, true⟩, ⟨.bin .eql .no (.loc 23) (.k (.int .i64 0)), none, none, true⟩, ⟨.pick (.loc 22) (.loc 24) (.k (.bool false)), none, none, true⟩, ⟨.move (.loc 25), none, none, true⟩, ⟨.move (.var 13), none, none, true⟩, ⟨.len (.loc 27), none, none, true⟩, ⟨.bin .eql .no (.loc 28) (.k (.int .i64 0)), none, none, true⟩, ⟨.pick (.loc 26) (.loc 29) (.k (.bool false)), none, none, true⟩, ⟨.move (.loc 30), none, none, true⟩, ⟨.move (.var 14), none, none, true⟩, ⟨.len (.loc 32), none, none, true⟩, ⟨.bin .eql .no (.loc 33) (.k (.int .i64 0)), none, none, true⟩, ⟨.pick (.loc 31) (.loc 34) (.k (.bool false)), none, none, true⟩, ⟨.move (.loc 35), none, none, true⟩, ⟨.move (.var 15), none, none, true⟩, ⟨.len (.loc 37), none, none, true⟩, ⟨.bin .eql .no (.loc 38) (.k (.int .i64 0)), none, none, true⟩, ⟨.pick (.loc 36) (.loc 39) (.k (.bool false)), none, none, true⟩, ⟨.move (.loc 40), none, (some 3), true⟩])
 (.ret))) (.skip))))
 ((.seq ((.seq (.ops [⟨.move (.var 0), none, none, true⟩, ⟨.move (.var 2), none, none, true⟩, ⟨.callS nFSetCode [(.loc 0), (.loc 1)], none, none, true⟩, ⟨.bin .neq .no (.loc 2) (.k (.int .i64 0)), none, (some 16), true⟩])
 (.cond (.var 16) ((.seq (.ops [⟨.field 0 (some 2) (.var 7), none, none, false⟩, ⟨.move (.var 0), none, none, false⟩, ⟨.move (.var 2), none, none, false⟩, ⟨.callS nFSetCode [(.loc 1), (.loc 2)], none, none, false⟩, ⟨.callS nFFault [(.loc 3), (.k (.int .i64 (-2)))], none, none, false⟩, ⟨.bin .neq (.agg [.int, .int]) (.loc 0) (.loc 4), none, none, true⟩, ⟨.move (.loc 5), none, none, true⟩, ⟨.move (.var 11), none, none, true⟩, ⟨.pick (.loc 6) (.k (.bool true)) (.loc 7), none, (some 17), true⟩])
 (.cond (.var 17) ((.seq (.ops [⟨.move (.k (.bool false)), none, (some 3), true⟩])
 (.ret))) (.skip)))) ((.seq (.ops [⟨.field 0 none (.var 7), none, none, true⟩, ⟨.field 0 none (.var 7), none, none, true⟩, ⟨.bin .neq .no (.loc 1) (.k (.int .i64 0)), none, none, true⟩, ⟨.move (.loc 2), none, none, true⟩, ⟨.move (.var 11), none, none, true⟩, ⟨.move (.var 1), none, none, true⟩, ⟨.move (.var 2), none, none, true⟩, ⟨.callS nFFailing [(.loc 5), (.loc 6)], (some (3, false)), none, true⟩, ⟨.bin .neq .bool (.loc 4) (.loc 7), (some (3, false)), none, true⟩, ⟨.pick (.loc 3) (.k (.bool true)) (.loc 8), none, (some 18), true⟩])
 (.cond (.var 18) ((.seq (.ops [⟨.move (.k (.bool false)), none, (some 3), true⟩])
 (.ret))) (.skip)))))))
 ((.seq (.ops [⟨.move (.k (.empty)), none, (some 21), true⟩])
 ((.seq ((.seq (.ops [⟨.move (.k (.int .i64 0)), none, (some 19), true⟩])
 (.block 0 (.loop ((.seq ((.seq (.ops [⟨.move (.var 19), none, none, true⟩, ⟨.move (.var 0), none, none, true⟩, ⟨.bin .lss .no (.loc 0) (.loc 1), none, (some 20), true⟩])
 (.cond (.var 20) (.skip) (.exit 0))))
 ((.seq (.block 1 ((.seq (.ops [⟨.move (.var 1), none, none, true⟩, ⟨.move (.var 21), none, none, true⟩, ⟨.move (.var 19), none, none, true⟩, ⟨.callS nFLanded [(.loc 0), (.loc 1), (.loc 2)], none, (some 22), true⟩])
 (.cond (.var 22) (.ops [⟨.move (.var 21), none, none, true⟩, ⟨.move (.var 19), none, none, true⟩, ⟨.buildSlice 1 [.int .i64 0] [(0, 1, (.loc 1))] 1, none, none, true⟩, ⟨.append 1 8 (.loc 0) (.loc 2), none, none, true⟩, ⟨.move (.loc 3), none, (some 21), true⟩]) (.skip)))))
 (.ops [⟨.move (.var 19), none, none, true⟩, ⟨.bin .add .no (.loc 0) (.k (.int .i64 1)), none, none, true⟩, ⟨.move (.loc 1), none, (some 19), true⟩])))))))))
 ((.seq ((.seq (.ops [⟨.field 0 none (.var 10), none, none, true⟩, ⟨.field 0 none (.var 10), none, none, true⟩, ⟨.bin .neq .no (.loc 1) (.k (.int .i64 0)), none, none, true⟩, ⟨.move (.loc 2), none, none, true⟩, ⟨.move (.var 15), none, none, true⟩, ⟨.move (.var 21), none, none, true⟩, ⟨.callS nFEqualInts [(.loc 4), (.loc 5)], (some (3, false)), none, true⟩, ⟨.un .not (.loc 6), (some (3, false)), none, true⟩, ⟨.pick (.loc 3) (.k (.bool true)) (.loc 7), none, (some 23), true⟩])
 (.cond (.var 23) ((.seq (.ops [⟨.move (.k (.bool false)), none, (some 3), true⟩])
 (.ret))) (.skip))))
 ((.seq (.ops [⟨.move (.var 0), none, none, true⟩, ⟨.move (.var 1), none, none, true⟩, ⟨.callS nFFirstFailing [(.loc 0), (.loc 1), (.k (.empty))], none, none, true⟩, ⟨.move (.loc 2), none, (some 24), true⟩])
 ((.seq ((.seq (.ops [⟨.move (.var 24), none, none, true⟩, ⟨.bin .lss .no (.loc 0) (.k (.int .i64 0)), none, (some 25), true⟩])
 (.cond (.var 25) ((.seq (.ops [⟨.callS nFFault [(.k (.int .i64 6)), (.k (.int .i64 (-1)))], none, none, true⟩, ⟨.tomb 1 (.k (.agg [.int .i64 0, .int .i64 0])), none, (some 26), true⟩, ⟨.upd 2 0 (.loc 1) (.loc 0), none, (some 26), true⟩])
 ((.seq (.ops [⟨.field 0 (some 2) (.var 8), none, none, true⟩, ⟨.field 0 (some 2) (.var 26), none, none, true⟩, ⟨.bin .eql (.agg [.int, .int]) (.loc 0) (.loc 1), none, none, true⟩, ⟨.move (.loc 2), none, none, true⟩, ⟨.field 0 (some 2) (.var 9), none, none, true⟩, ⟨.field 0 (some 2) (.var 26), none, none, true⟩, ⟨.bin .eql (.agg [.int, .int]) (.loc 4) (.loc 5), none, none, true⟩, ⟨.pick (.loc 3) (.loc 6) (.k (.bool false)), none, none, true⟩, ⟨.move (.loc 7), none, none, true⟩, ⟨.move (.var 12), none, none, true⟩, ⟨.bin .eql .no (.loc 9) (.k (.int .i64 0)), none, none, true⟩, ⟨.pick (.loc 8) (.loc 10) (.k (.bool false)), none, none, true⟩, ⟨.move (.loc 11), none, none, true⟩, ⟨.move (.var 13), none, none, true⟩, ⟨.len (.loc 13), none, none, true⟩, ⟨.bin .eql .no (.loc 14) (.k (.int .i64 0)), none, none, true⟩, ⟨.pick (.loc 12) (.loc 15) (.k (.bool false)), none, none, true⟩, ⟨.move (.loc 16), none, none, true⟩, ⟨.move (.var 14), none, none, true⟩, ⟨.len (.loc 18), none, none, true⟩, ⟨.bin .eql .no (.loc 19) (.k (.int .i64 0)), none, none, true⟩, ⟨.pick (.loc 17) (.loc 20) (.k (.bool false)), none, none, true⟩, ⟨.move (.loc 21), none, (some 3), true⟩])
 (.ret))))) (.skip))))
 ((.seq (.ops [⟨.move (.var 0), none, none, true⟩, ⟨.buildSlice 1 [.int .i64 0] [(0, 1, (.loc 0))] 1, none, none, true⟩, ⟨.move (.loc 1), none, (some 30), true⟩])
 ((.seq (.ops [⟨.move (.k (.int .i64 0)), none, (some 28), true⟩])
 ((.seq (.ops [⟨.move (.var 0), none, none, true⟩, ⟨.move (.loc 0), none, (some 27), true⟩])
 ((.seq (.block 2 (.loop ((.seq ((.seq (.ops [⟨.move (.var 27), none, none, true⟩, ⟨.move (.var 28), none, none, true⟩, ⟨.bin .sub .no (.loc 0) (.loc 1), none, none, true⟩, ⟨.bin .gtr .no (.loc 2) (.k (.int .i64 1)), none, (some 29), true⟩])
 (.cond (.var 29) (.skip) (.exit 2))))
 (.block 3 ((.seq (.ops [⟨.move (.var 28), none, none, true⟩, ⟨.move (.var 27), none, none, true⟩, ⟨.bin .add .no (.loc 0) (.loc 1), none, none, true⟩, ⟨.bin .quo .no (.loc 2) (.k (.int .i64 2)), none, none, true⟩, ⟨.move (.loc 3), none, (some 31), true⟩])
 ((.seq (.ops [⟨.move (.var 30), none, none, true⟩, ⟨.move (.var 31), none, none, true⟩, ⟨.buildSlice 1 [.int .i64 0] [(0, 1, (.loc 1))] 1, none, none, true⟩, ⟨.append 1 8 (.loc 0) (.loc 2), none, none, true⟩, ⟨.move (.loc 3), none, (some 30), true⟩])
 ((.seq (.ops [⟨.move (.var 31), none, none, true⟩, ⟨.move (.var 24), none, none, true⟩, ⟨.bin .gtr .no (.loc 0) (.loc 1), none, (some 32), true⟩])
 (.cond (.var 32) (.ops [⟨.move (.var 31), none, none, true⟩, ⟨.move (.loc 0), none, (some 27), true⟩]) (.ops [⟨.move (.var 31), none, none, true⟩, ⟨.move (.loc 0), none, (some 28), true⟩])))))))))))))
 ((.seq ((.seq (.ops [⟨.field 0 none (.var 8), none, none, true⟩, ⟨.field 0 none (.var 8), none, none, true⟩, ⟨.bin .neq .no (.loc 1) (.k (.int .i64 0)), none, none, true⟩, ⟨.move (.loc 2), none, none, true⟩, ⟨.move (.var 12), none, none, true⟩, ⟨.move (.var 24), none, none, true⟩, ⟨.bin .neq .no (.loc 4) (.loc 5), none, none, true⟩, ⟨.pick (.loc 3) (.k (.bool true)) (.loc 6), none, none, true⟩, ⟨.move (.loc 7), none, none, true⟩, ⟨.move (.var 13), none, none, true⟩, ⟨.move (.var 30), none, none, true⟩, ⟨.callS nFEqualInts [(.loc 9), (.loc 10)], (some (8, false)), none, true⟩, ⟨.un .not (.loc 11), (some (8, false)), none, true⟩, ⟨.pick (.loc 8) (.k (.bool true)) (.loc 12), none, (some 33), true⟩])
 (.cond (.var 33) ((.seq (.ops [⟨.move (.k (.bool false)), none, (some 3), true⟩])
 (.ret))) (.skip))))
 ((.seq (.ops [⟨.move (.k (.empty)), none, (some 34), true⟩])
 ((.seq (.block 4 (.loop ((.seq ((.seq (.ops [⟨.move (.var 1), none, none, true⟩, ⟨.move (.var 34), none, none, true⟩, ⟨.callS nFFailing [(.loc 0), (.loc 1)], none, none, true⟩, ⟨.un .not (.loc 2), none, (some 35), true⟩])
 (.cond (.var 35) (.skip) (.exit 4))))
 (.block 5 (.ops [⟨.move (.var 0), none, none, true⟩, ⟨.move (.var 1), none, none, true⟩, ⟨.move (.var 34), none, none, true⟩, ⟨.callS nFFirstFailing [(.loc 0), (.loc 1), (.loc 2)], none, none, true⟩, ⟨.buildSlice 1 [.int .i64 0] [(0, 1, (.loc 3))] 1, none, none, true⟩, ⟨.move (.var 34), none, none, true⟩, ⟨.append 1 8 (.loc 4) (.loc 5), none, none, true⟩, ⟨.move (.loc 6), none, (some 34), true⟩]))))))
 ((.seq (.ops [⟨.field 0 none (.var 9), none, none, true⟩, ⟨.field 0 none (.var 9), none, none, true⟩, ⟨.bin .eql .no (.loc 1) (.k (.int .i64 0)), none, none, true⟩, ⟨.move (.loc 2), none, none, true⟩, ⟨.move (.var 14), none, none, true⟩, ⟨.move (.var 34), none, none, true⟩, ⟨.callS nFEqualInts [(.loc 4), (.loc 5)], (some (3, true)), none, true⟩, ⟨.pick (.loc 3) (.loc 6) (.k (.bool false)), none, none, true⟩, ⟨.move (.loc 7), none, (some 3), true⟩])
 (.ret)))))))))))))))))))))))))))))))))))))))))))))⟩
theorem v_LBatchbisectFunctionsMatchSpec {F : Nat → Option RFunc} {me nFCulpritsFault nbatchbisect_Fails nbatchbisect_First nbatchbisect_Minimal nbatchbisect_Greedy nLbisectExample nbatchbisect_Validate nFSetCode nFFault nFFailing nFLanded nFEqualInts nFFirstFailing : Nat} (hF : F me = some (rf_LBatchbisectFunctionsMatchSpec nFCulpritsFault nbatchbisect_Fails nbatchbisect_First nbatchbisect_Minimal nbatchbisect_Greedy nLbisectExample nbatchbisect_Validate nFSetCode nFFault nFFailing nFLanded nFEqualInts nFFirstFailing)) {fl : Nat} {H : Heap} {Q : AV → Heap → Prop} (n0 : Int) (culprits1 : AV) (set2 : AV)
  (h : Ret F fl nFCulpritsFault [(.int .i64 n0), culprits1] H (fun v6 H5 => ∃ (r3 : Int) (r4 : Int), v6 = (.agg [(.int .i64 r3), (.int .i64 r4)]) ∧ ∀ (H7 : Heap), Dead1 H5 1 H7 → Ret F fl nbatchbisect_Fails [(.int .i64 n0), culprits1, set2] H7 (fun v12 H11 => ∃ (r8 : Bool) (r9 : Int) (r10 : Int), v12 = (.tuple [(.bool r8), (.agg [(.int .i64 r9), (.int .i64 r10)])]) ∧ ∀ (H13 : Heap), Dead1 H11 1 H13 → Ret F fl nbatchbisect_First [(.int .i64 n0), culprits1] H13 (fun v19 H18 => ∃ (r14 : Int) (r15 : AV) (r16 : Int) (r17 : Int), v19 = (.tuple [(.int .i64 r14), r15, (.agg [(.int .i64 r16), (.int .i64 r17)])]) ∧ ∀ (H20 : Heap), Dead1 H18 1 H20 → Ret F fl nbatchbisect_Minimal [(.int .i64 n0), culprits1] H20 (fun v25 H24 => ∃ (r21 : AV) (r22 : Int) (r23 : Int), v25 = (.tuple [r21, (.agg [(.int .i64 r22), (.int .i64 r23)])]) ∧ ∀ (H26 : Heap), Dead1 H24 1 H26 → Ret F fl nbatchbisect_Greedy [(.int .i64 n0), culprits1] H26 (fun v31 H30 => ∃ (r27 : AV) (r28 : Int) (r29 : Int), v31 = (.tuple [r27, (.agg [(.int .i64 r28), (.int .i64 r29)])]) ∧ ∀ (H32 : Heap), Dead1 H30 1 H32 → Ret F fl nLbisectExample [] H32 (fun v35 H34 => ∃ (r33 : Bool), v35 = (.bool r33) ∧ ((¬(r33 = true)) → Q (.bool false) H34) ∧ (¬(¬(r33 = true)) → Ret F H34.length nbatchbisect_Validate [(.int .i64 n0), culprits1] H34 (fun v39 H38 => ∃ (r36 : Int) (r37 : Int), v39 = (.agg [(.int .i64 r36), (.int .i64 r37)]) ∧ ((¬(((r36 = r3) ∧ (((r37 = r4) ∧ (True)))))) → Q (.bool false) H38) ∧ (¬(¬(((r36 = r3) ∧ (((r37 = r4) ∧ (True)))))) → ((r3 ≠ 0) → ∃ len40 : Nat, lenA r15 = some len40 ∧ ∃ len41 : Nat, lenA r21 = some len41 ∧ ∃ len42 : Nat, lenA r27 = some len42 ∧ Q (.bool ((((((((((r9 == r3) && ((r10 == r4) && true)) && ((r16 == r3) && ((r17 == r4) && true))) && ((r22 == r3) && ((r23 == r4) && true))) && ((r28 == r3) && ((r29 == r4) && true))) && (!r8)) && (r14 == 0)) && ((len40 : Int) == 0)) && ((len41 : Int) == 0)) && ((len42 : Int) == 0))) H38) ∧ (¬(r3 ≠ 0) → ∃ (R43 : Heap → Prop), (Ret F fl nFSetCode [(.int .i64 n0), set2] H38 (fun v51 H50 => ∃ (r49 : Int), v51 = (.int .i64 r49) ∧ ((r49 ≠ 0) → Ret F H50.length nFSetCode [(.int .i64 n0), set2] H50 (fun v54 H53 => ∃ (r52 : Int), v54 = (.int .i64 r52) ∧ Ret F H53.length nFFault [(.int .i64 r52), (.int .i64 (-2))] H53 (fun v58 H57 => ∃ (r55 : Int) (r56 : Int), v58 = (.agg [(.int .i64 r55), (.int .i64 r56)]) ∧ ((((¬(((r9 = r55) ∧ (((r10 = r56) ∧ (True)))))) ∨ (r8 = true))) → Q (.bool false) H57) ∧ (¬(((¬(((r9 = r55) ∧ (((r10 = r56) ∧ (True)))))) ∨ (r8 = true))) → R43 H57)))) ∧ (¬(r49 ≠ 0) → ((r9 ≠ 0) → Q (.bool false) H50) ∧ (¬(r9 ≠ 0) → Ret F fl nFFailing [culprits1, set2] H50 (fun v61 H60 => ∃ (r59 : Bool), v61 = (.bool r59) ∧ ((¬(r8 = r59)) → Q (.bool false) H60) ∧ (¬(¬(r8 = r59)) → R43 H60)))))) ∧ (∀ (H48 : Heap), R43 H48 → ∃ (J62 : Nat → Int → AV → Heap → Prop) (k63 : Nat), J62 k63 0 .empty H48 ∧ (∀ (m64 : Nat) (i65 : Int) (greedy67 : AV) (H69 : Heap), J62 m64 i65 greedy67 H69 → ((i65 < n0) → Ret F fl nFLanded [culprits1, greedy67, (.int .i64 i65)] H69 (fun v72 H71 => ∃ (r70 : Bool), v72 = (.bool r70) ∧ ((r70 = true) → ∀ (b73 : Nat) (H74 : Heap), NewB H71 1 [(.int .i64 i65)] b73 H74 → ∃ (a75 : AV) (H76 : Heap), appA fl true 1 8 H74 greedy67 (.slice b73 0 1 (some 1)) = some (a75, H76) ∧ ∃ m77 : Nat, m77 < m64 ∧ J62 m77 (IntKind.wrap .i64 (i65 + 1)) a75 H76) ∧ (¬(r70 = true) → ∃ m78 : Nat, m78 < m64 ∧ J62 m78 (IntKind.wrap .i64 (i65 + 1)) greedy67 H71))) ∧ (¬(i65 < n0) → ((r28 ≠ 0) → Q (.bool false) H69) ∧ (¬(r28 ≠ 0) → Ret F fl nFEqualInts [r27, greedy67] H69 (fun v81 H80 => ∃ (r79 : Bool), v81 = (.bool r79) ∧ ((¬(r79 = true)) → Q (.bool false) H80) ∧ (¬(¬(r79 = true)) → Ret F fl nFFirstFailing [(.int .i64 n0), culprits1, .empty] H80 (fun v84 H83 => ∃ (r82 : Int), v84 = (.int .i64 r82) ∧ ((r82 < 0) → Ret F fl nFFault [(.int .i64 6), (.int .i64 (-1))] H83 (fun v88 H87 => ∃ (r85 : Int) (r86 : Int), v88 = (.agg [(.int .i64 r85), (.int .i64 r86)]) ∧ ∀ (H89 : Heap), Dead1 H87 1 H89 → ∃ len90 : Nat, lenA r15 = some len90 ∧ ∃ len91 : Nat, lenA r21 = some len91 ∧ Q (.bool ((((((r16 == r85) && ((r17 == r86) && true)) && ((r22 == r85) && ((r23 == r86) && true))) && (r14 == 0)) && ((len90 : Int) == 0)) && ((len91 : Int) == 0))) H89)) ∧ (¬(r82 < 0) → ∀ (b92 : Nat) (H93 : Heap), NewB H83 1 [(.int .i64 n0)] b92 H93 → ∃ (J94 : Nat → Int → Int → AV → Heap → Prop) (k95 : Nat), J94 k95 n0 0 (.slice b92 0 1 (some 1)) H93 ∧ (∀ (m96 : Nat) (high97 : Int) (low98 : Int) (ran100 : AV) (H103 : Heap), J94 m96 high97 low98 ran100 H103 → (((IntKind.wrap .i64 (high97 - low98)) > 1) → ∀ (b104 : Nat) (H105 : Heap), NewB H103 1 [(.int .i64 (IntKind.wrap .i64 (Int.tdiv (IntKind.wrap .i64 (low98 + high97)) 2)))] b104 H105 → ∃ (a106 : AV) (H107 : Heap), appA fl true 1 8 H105 ran100 (.slice b104 0 1 (some 1)) = some (a106, H107) ∧ (((IntKind.wrap .i64 (Int.tdiv (IntKind.wrap .i64 (low98 + high97)) 2)) > r82) → ∃ m108 : Nat, m108 < m96 ∧ J94 m108 (IntKind.wrap .i64 (Int.tdiv (IntKind.wrap .i64 (low98 + high97)) 2)) low98 a106 H107) ∧ (¬((IntKind.wrap .i64 (Int.tdiv (IntKind.wrap .i64 (low98 + high97)) 2)) > r82) → ∃ m109 : Nat, m109 < m96 ∧ J94 m109 high97 (IntKind.wrap .i64 (Int.tdiv (IntKind.wrap .i64 (low98 + high97)) 2)) a106 H107)) ∧ (¬((IntKind.wrap .i64 (high97 - low98)) > 1) → ((((r16 ≠ 0) ∨ (r14 ≠ r82))) → Q (.bool false) H103) ∧ (¬(((r16 ≠ 0) ∨ (r14 ≠ r82))) → Ret F fl nFEqualInts [r15, ran100] H103 (fun v112 H111 => ∃ (r110 : Bool), v112 = (.bool r110) ∧ ((¬(r110 = true)) → Q (.bool false) H111) ∧ (¬(¬(r110 = true)) → ∃ (J113 : Nat → AV → Heap → Prop) (k114 : Nat), J113 k114 .empty H111 ∧ (∀ (m115 : Nat) (found116 : AV) (H118 : Heap), J113 m115 found116 H118 → Ret F fl nFFailing [culprits1, found116] H118 (fun v121 H120 => ∃ (r119 : Bool), v121 = (.bool r119) ∧ ((¬(r119 = true)) → Ret F fl nFFirstFailing [(.int .i64 n0), culprits1, found116] H120 (fun v124 H123 => ∃ (r122 : Int), v124 = (.int .i64 r122) ∧ ∀ (b125 : Nat) (H126 : Heap), NewB H123 1 [(.int .i64 r122)] b125 H126 → ∃ (a127 : AV) (H128 : Heap), appA fl true 1 8 H126 (.slice b125 0 1 (some 1)) found116 = some (a127, H128) ∧ ∃ m129 : Nat, m129 < m115 ∧ J113 m129 a127 H128)) ∧ (¬(¬(r119 = true)) → ((r22 = 0) → Ret F fl nFEqualInts [r21, found116] H120 (fun v132 H131 => ∃ (r130 : Bool), v132 = (.bool r130) ∧ Q (.bool r130) H131)) ∧ (¬(r22 = 0) → Q (.bool false) H120)))))))))))))))))))))))))))) : Ret F fl me [(.int .i64 n0), culprits1, set2] H Q := by
  refine ret_intro hF rfl ?_
  refine w_seq ?_
  refine w_run [0] ?_
  refine t_done [(.int .i64 n0), culprits1, set2, (.bool false), .undef, .undef, .undef, .undef, .undef, .undef, .undef, .undef, .undef, .undef, .undef, .undef, .undef, .undef, .undef, .undef, .undef, .undef, .undef, .undef, .undef, .undef, .undef, .undef, .undef, .undef, .undef, .undef, .undef, .undef, .undef, .undef] H (by kernel_rfl) ?_
  refine then_norm ?_
  refine w_seq ?_
  refine w_run [0, 0, 1, 1, 1] ?_
  refine t_call true nFCulpritsFault [(.int .i64 n0), culprits1] H (by kernel_rfl) h ?_
  clear h
  rintro _ H5 ⟨r3, r4, rfl, h⟩
  obtain ⟨H7, hb⟩ : ∃ H', Dead1 H5 1 H' := ⟨_, ⟨rfl⟩⟩
  replace h := h H7 hb
  refine t_tomb true 1 (.agg [(.int .i64 0), (.int .i64 0)]) [(.int .i64 0), (.int .i64 0)] H7 H5 (by kernel_rfl) rfl hb ?_
  refine t_upd true 2 0 [(.int .i64 0), (.int .i64 0)] (.agg [(.int .i64 r3), (.int .i64 r4)]) [(.int .i64 r3), (.int .i64 r4)] [(.int .i64 r3), (.int .i64 r4)] H7 (by kernel_rfl) rfl (all_c rfl (all_c rfl all_n)) ⟨rfl, Nat.le_of_ble_eq_true (by kernel_rfl), rfl⟩ ?_
  refine t_done [(.int .i64 n0), culprits1, set2, (.bool false), (.agg [(.int .i64 r3), (.int .i64 r4)]), .undef, .undef, .undef, .undef, .undef, .undef, .undef, .undef, .undef, .undef, .undef, .undef, .undef, .undef, .undef, .undef, .undef, .undef, .undef, .undef, .undef, .undef, .undef, .undef, .undef, .undef, .undef, .undef, .undef, .undef, .undef] H7 (by kernel_rfl) ?_
  refine then_norm ?_
  refine w_seq ?_
  refine w_run [0, 0, 0, 1, 0, 0, 0, 1, 0, 1] ?_
  refine t_call true nbatchbisect_Fails [(.int .i64 n0), culprits1, set2] H7 (by kernel_rfl) h ?_
  clear h
  rintro _ H11 ⟨r8, r9, r10, rfl, h⟩
  obtain ⟨H13, hb⟩ : ∃ H', Dead1 H11 1 H' := ⟨_, ⟨rfl⟩⟩
  replace h := h H13 hb
  refine t_tomb true 1 (.agg [(.int .i64 0), (.int .i64 0)]) [(.int .i64 0), (.int .i64 0)] H13 H11 (by kernel_rfl) rfl hb ?_
  refine t_upd true 2 0 [(.int .i64 0), (.int .i64 0)] (.agg [(.int .i64 r9), (.int .i64 r10)]) [(.int .i64 r9), (.int .i64 r10)] [(.int .i64 r9), (.int .i64 r10)] H13 (by kernel_rfl) rfl (all_c rfl (all_c rfl all_n)) ⟨rfl, Nat.le_of_ble_eq_true (by kernel_rfl), rfl⟩ ?_
  refine t_done [(.int .i64 n0), culprits1, set2, (.bool false), (.agg [(.int .i64 r3), (.int .i64 r4)]), .undef, .undef, (.agg [(.int .i64 r9), (.int .i64 r10)]), .undef, .undef, .undef, (.bool r8), .undef, .undef, .undef, .undef, .undef, .undef, .undef, .undef, .undef, .undef, .undef, .undef, .undef, .undef, .undef, .undef, .undef, .undef, .undef, .undef, .undef, .undef, .undef, .undef] H13 (by kernel_rfl) ?_
  refine then_norm ?_
  refine w_seq ?_
  refine w_run [0, 0, 1, 0, 0, 0, 0, 1, 0, 0, 1] ?_
  refine t_call true nbatchbisect_First [(.int .i64 n0), culprits1] H13 (by kernel_rfl) h ?_
  clear h
  rintro _ H18 ⟨r14, r15, r16, r17, rfl, h⟩
  obtain ⟨H20, hb⟩ : ∃ H', Dead1 H18 1 H' := ⟨_, ⟨rfl⟩⟩
  replace h := h H20 hb
  refine t_tomb true 1 (.agg [(.int .i64 0), (.int .i64 0)]) [(.int .i64 0), (.int .i64 0)] H20 H18 (by kernel_rfl) rfl hb ?_
  refine t_upd true 2 0 [(.int .i64 0), (.int .i64 0)] (.agg [(.int .i64 r16), (.int .i64 r17)]) [(.int .i64 r16), (.int .i64 r17)] [(.int .i64 r16), (.int .i64 r17)] H20 (by kernel_rfl) rfl (all_c rfl (all_c rfl all_n)) ⟨rfl, Nat.le_of_ble_eq_true (by kernel_rfl), rfl⟩ ?_
  refine t_done [(.int .i64 n0), culprits1, set2, (.bool false), (.agg [(.int .i64 r3), (.int .i64 r4)]), .undef, .undef, (.agg [(.int .i64 r9), (.int .i64 r10)]), (.agg [(.int .i64 r16), (.int .i64 r17)]), .undef, .undef, (.bool r8), (.int .i64 r14), r15, .undef, .undef, .undef, .undef, .undef, .undef, .undef, .undef, .undef, .undef, .undef, .undef, .undef, .undef, .undef, .undef, .undef, .undef, .undef, .undef, .undef, .undef] H20 (by kernel_rfl) ?_
  refine then_norm ?_
  refine w_seq ?_
  refine w_run [0, 0, 1, 0, 0, 0, 1, 0, 1] ?_
  refine t_call true nbatchbisect_Minimal [(.int .i64 n0), culprits1] H20 (by kernel_rfl) h ?_
  clear h
  rintro _ H24 ⟨r21, r22, r23, rfl, h⟩
  obtain ⟨H26, hb⟩ : ∃ H', Dead1 H24 1 H' := ⟨_, ⟨rfl⟩⟩
  replace h := h H26 hb
  refine t_tomb true 1 (.agg [(.int .i64 0), (.int .i64 0)]) [(.int .i64 0), (.int .i64 0)] H26 H24 (by kernel_rfl) rfl hb ?_
  refine t_upd true 2 0 [(.int .i64 0), (.int .i64 0)] (.agg [(.int .i64 r22), (.int .i64 r23)]) [(.int .i64 r22), (.int .i64 r23)] [(.int .i64 r22), (.int .i64 r23)] H26 (by kernel_rfl) rfl (all_c rfl (all_c rfl all_n)) ⟨rfl, Nat.le_of_ble_eq_true (by kernel_rfl), rfl⟩ ?_
  refine t_done [(.int .i64 n0), culprits1, set2, (.bool false), (.agg [(.int .i64 r3), (.int .i64 r4)]), .undef, .undef, (.agg [(.int .i64 r9), (.int .i64 r10)]), (.agg [(.int .i64 r16), (.int .i64 r17)]), (.agg [(.int .i64 r22), (.int .i64 r23)]), .undef, (.bool r8), (.int .i64 r14), r15, r21, .undef, .undef, .undef, .undef, .undef, .undef, .undef, .undef, .undef, .undef, .undef, .undef, .undef, .undef, .undef, .undef, .undef, .undef, .undef, .undef, .undef] H26 (by kernel_rfl) ?_
  refine then_norm ?_
  refine w_seq ?_
  refine w_run [0, 0, 1, 0, 0, 0, 1, 0, 1] ?_
  refine t_call true nbatchbisect_Greedy [(.int .i64 n0), culprits1] H26 (by kernel_rfl) h ?_
  clear h
  rintro _ H30 ⟨r27, r28, r29, rfl, h⟩
  obtain ⟨H32, hb⟩ : ∃ H', Dead1 H30 1 H' := ⟨_, ⟨rfl⟩⟩
  replace h := h H32 hb
  refine t_tomb true 1 (.agg [(.int .i64 0), (.int .i64 0)]) [(.int .i64 0), (.int .i64 0)] H32 H30 (by kernel_rfl) rfl hb ?_
  refine t_upd true 2 0 [(.int .i64 0), (.int .i64 0)] (.agg [(.int .i64 r28), (.int .i64 r29)]) [(.int .i64 r28), (.int .i64 r29)] [(.int .i64 r28), (.int .i64 r29)] H32 (by kernel_rfl) rfl (all_c rfl (all_c rfl all_n)) ⟨rfl, Nat.le_of_ble_eq_true (by kernel_rfl), rfl⟩ ?_
  refine t_done [(.int .i64 n0), culprits1, set2, (.bool false), (.agg [(.int .i64 r3), (.int .i64 r4)]), .undef, .undef, (.agg [(.int .i64 r9), (.int .i64 r10)]), (.agg [(.int .i64 r16), (.int .i64 r17)]), (.agg [(.int .i64 r22), (.int .i64 r23)]), (.agg [(.int .i64 r28), (.int .i64 r29)]), (.bool r8), (.int .i64 r14), r15, r21, r27, .undef, .undef, .undef, .undef, .undef, .undef, .undef, .undef, .undef, .undef, .undef, .undef, .undef, .undef, .undef, .undef, .undef, .undef, .undef, .undef] H32 (by kernel_rfl) ?_
  refine then_norm ?_
  refine w_seq ?_
  refine w_seq ?_
  refine w_run [1, 0, 0, 0, 0, 3, 0, 2, 0] ?_
  refine t_call true nLbisectExample [] H32 (by kernel_rfl) h ?_
  clear h
  rintro _ H34 ⟨r33, rfl, h⟩
  refine t_gd (!r33) false (by kernel_rfl) (fun hc => ?_) (fun hc => ?_)
  · replace h := h.2 ((is_not is_raw).f hc)
    refine t_call false nbatchbisect_Validate [(.int .i64 n0), culprits1] H34 (by kernel_rfl) h ?_
    clear h
    rintro _ H38 ⟨r36, r37, rfl, h⟩
    refine t_gd false false (by kernel_rfl) (fun _ => ?_) (fun hn => by cases hn)
    refine t_done [(.int .i64 n0), culprits1, set2, (.bool false), (.agg [(.int .i64 r3), (.int .i64 r4)]), (.bool (!((r36 == r3) && ((r37 == r4) && true)))), .undef, (.agg [(.int .i64 r9), (.int .i64 r10)]), (.agg [(.int .i64 r16), (.int .i64 r17)]), (.agg [(.int .i64 r22), (.int .i64 r23)]), (.agg [(.int .i64 r28), (.int .i64 r29)]), (.bool r8), (.int .i64 r14), r15, r21, r27, .undef, .undef, .undef, .undef, .undef, .undef, .undef, .undef, .undef, .undef, .undef, .undef, .undef, .undef, .undef, .undef, .undef, .undef, .undef, .undef] H38 (by kernel_rfl) ?_
    refine then_norm ?_
    refine w_cond (t := (!((r36 == r3) && ((r37 == r4) && true)))) rfl (fun hc => ?_) (fun hc => ?_)
    · replace h := h.1 ((is_not (is_and is_eq (is_and is_eq is_true))).t hc)
      refine w_seq ?_
      refine w_run [0] ?_
      refine t_done [(.int .i64 n0), culprits1, set2, (.bool false), (.agg [(.int .i64 r3), (.int .i64 r4)]), (.bool (!((r36 == r3) && ((r37 == r4) && true)))), .undef, (.agg [(.int .i64 r9), (.int .i64 r10)]), (.agg [(.int .i64 r16), (.int .i64 r17)]), (.agg [(.int .i64 r22), (.int .i64 r23)]), (.agg [(.int .i64 r28), (.int .i64 r29)]), (.bool r8), (.int .i64 r14), r15, r21, r27, .undef, .undef, .undef, .undef, .undef, .undef, .undef, .undef, .undef, .undef, .undef, .undef, .undef, .undef, .undef, .undef, .undef, .undef, .undef, .undef] H38 (by kernel_rfl) ?_
      refine then_norm ?_
      refine w_ret ?_
      refine then_ret ?_
      exact body_ret (vs := [(.bool false)]) _ (by kernel_rfl) rfl h
    · replace h := h.2 ((is_not (is_and is_eq (is_and is_eq is_true))).f hc)
      refine w_skip ?_
      refine then_norm ?_
      refine w_seq ?_
      refine w_seq ?_
      refine w_run [0, 0, 0] ?_
      refine t_done [(.int .i64 n0), culprits1, set2, (.bool false), (.agg [(.int .i64 r3), (.int .i64 r4)]), (.bool (!((r36 == r3) && ((r37 == r4) && true)))), (.bool (r3 != 0)), (.agg [(.int .i64 r9), (.int .i64 r10)]), (.agg [(.int .i64 r16), (.int .i64 r17)]), (.agg [(.int .i64 r22), (.int .i64 r23)]), (.agg [(.int .i64 r28), (.int .i64 r29)]), (.bool r8), (.int .i64 r14), r15, r21, r27, .undef, .undef, .undef, .undef, .undef, .undef, .undef, .undef, .undef, .undef, .undef, .undef, .undef, .undef, .undef, .undef, .undef, .undef, .undef, .undef] H38 (by kernel_rfl) ?_
      refine then_norm ?_
      refine w_cond (t := (r3 != 0)) rfl (fun hc => ?_) (fun hc => ?_)
      · replace h := h.1 (is_ne.t hc)
        refine w_seq ?_
        refine w_run [0, 0, 0, 0, 0, 0, 0, 0, 0, 0, 0, 0, 0, 0, 0, 0, 0, 0, 0, 0, 0, 0, 0, 0, 0, 0, 0, 0, 1, 0, 0, 0, 0, 1, 0, 0, 0, 0, 1, 0, 0, 0] ?_
        obtain ⟨len40, hl, h⟩ := h
        refine t_len true r15 len40 H38 (by kernel_rfl) hl ?_
        obtain ⟨len41, hl, h⟩ := h
        refine t_len true r21 len41 H38 (by kernel_rfl) hl ?_
        obtain ⟨len42, hl, h⟩ := h
        refine t_len true r27 len42 H38 (by kernel_rfl) hl ?_
        refine t_done [(.int .i64 n0), culprits1, set2, (.bool ((((((((((r9 == r3) && ((r10 == r4) && true)) && ((r16 == r3) && ((r17 == r4) && true))) && ((r22 == r3) && ((r23 == r4) && true))) && ((r28 == r3) && ((r29 == r4) && true))) && (!r8)) && (r14 == 0)) && ((len40 : Int) == 0)) && ((len41 : Int) == 0)) && ((len42 : Int) == 0))), (.agg [(.int .i64 r3), (.int .i64 r4)]), (.bool (!((r36 == r3) && ((r37 == r4) && true)))), (.bool (r3 != 0)), (.agg [(.int .i64 r9), (.int .i64 r10)]), (.agg [(.int .i64 r16), (.int .i64 r17)]), (.agg [(.int .i64 r22), (.int .i64 r23)]), (.agg [(.int .i64 r28), (.int .i64 r29)]), (.bool r8), (.int .i64 r14), r15, r21, r27, .undef, .undef, .undef, .undef, .undef, .undef, .undef, .undef, .undef, .undef, .undef, .undef, .undef, .undef, .undef, .undef, .undef, .undef, .undef, .undef] H38 (by kernel_rfl) ?_
        refine then_norm ?_
        refine w_ret ?_
        refine then_ret ?_
        exact body_ret (vs := [(.bool ((((((((((r9 == r3) && ((r10 == r4) && true)) && ((r16 == r3) && ((r17 == r4) && true))) && ((r22 == r3) && ((r23 == r4) && true))) && ((r28 == r3) && ((r29 == r4) && true))) && (!r8)) && (r14 == 0)) && ((len40 : Int) == 0)) && ((len41 : Int) == 0)) && ((len42 : Int) == 0)))]) _ (by kernel_rfl) rfl h
      · replace h := h.2 (is_ne.f hc)
        refine w_skip ?_
        refine then_norm ?_
        refine w_seq ?_
        obtain ⟨R43, h, hK⟩ := h
        refine w_join (fun EI HI => ∃ (d44 : AV) (d45 : AV) (d46 : AV) (d47 : AV), EI = [(.int .i64 n0), culprits1, set2, d44, (.agg [(.int .i64 r3), (.int .i64 r4)]), (.bool (!((r36 == r3) && ((r37 == r4) && true)))), (.bool (r3 != 0)), (.agg [(.int .i64 r9), (.int .i64 r10)]), (.agg [(.int .i64 r16), (.int .i64 r17)]), (.agg [(.int .i64 r22), (.int .i64 r23)]), (.agg [(.int .i64 r28), (.int .i64 r29)]), (.bool r8), (.int .i64 r14), r15, r21, r27, d45, d46, d47, .undef, .undef, .undef, .undef, .undef, .undef, .undef, .undef, .undef, .undef, .undef, .undef, .undef, .undef, .undef, .undef, .undef] ∧ R43  HI) ?_ ?_
        · clear hK
          refine w_seq ?_
          refine w_run [0, 0, 1, 0] ?_
          refine t_call true nFSetCode [(.int .i64 n0), set2] H38 (by kernel_rfl) h ?_
          clear h
          rintro _ H50 ⟨r49, rfl, h⟩
          refine t_done [(.int .i64 n0), culprits1, set2, (.bool false), (.agg [(.int .i64 r3), (.int .i64 r4)]), (.bool (!((r36 == r3) && ((r37 == r4) && true)))), (.bool (r3 != 0)), (.agg [(.int .i64 r9), (.int .i64 r10)]), (.agg [(.int .i64 r16), (.int .i64 r17)]), (.agg [(.int .i64 r22), (.int .i64 r23)]), (.agg [(.int .i64 r28), (.int .i64 r29)]), (.bool r8), (.int .i64 r14), r15, r21, r27, (.bool (r49 != 0)), .undef, .undef, .undef, .undef, .undef, .undef, .undef, .undef, .undef, .undef, .undef, .undef, .undef, .undef, .undef, .undef, .undef, .undef, .undef] H50 (by kernel_rfl) ?_
          refine then_norm ?_
          refine w_cond (t := (r49 != 0)) rfl (fun hc => ?_) (fun hc => ?_)
          · replace h := h.1 (is_ne.t hc)
            refine w_seq ?_
            refine w_run [0, 0, 0, 1, 1, 0, 0, 0, 0] ?_
            refine t_call false nFSetCode [(.int .i64 n0), set2] H50 (by kernel_rfl) h ?_
            clear h
            rintro _ H53 ⟨r52, rfl, h⟩
            refine t_call false nFFault [(.int .i64 r52), (.int .i64 (-2))] H53 (by kernel_rfl) h ?_
            clear h
            rintro _ H57 ⟨r55, r56, rfl, h⟩
            refine t_done [(.int .i64 n0), culprits1, set2, (.bool false), (.agg [(.int .i64 r3), (.int .i64 r4)]), (.bool (!((r36 == r3) && ((r37 == r4) && true)))), (.bool (r3 != 0)), (.agg [(.int .i64 r9), (.int .i64 r10)]), (.agg [(.int .i64 r16), (.int .i64 r17)]), (.agg [(.int .i64 r22), (.int .i64 r23)]), (.agg [(.int .i64 r28), (.int .i64 r29)]), (.bool r8), (.int .i64 r14), r15, r21, r27, (.bool (r49 != 0)), (.bool ((!((r9 == r55) && ((r10 == r56) && true))) || r8)), .undef, .undef, .undef, .undef, .undef, .undef, .undef, .undef, .undef, .undef, .undef, .undef, .undef, .undef, .undef, .undef, .undef, .undef] H57 (by kernel_rfl) ?_
            refine then_norm ?_
            refine w_cond (t := ((!((r9 == r55) && ((r10 == r56) && true))) || r8)) rfl (fun hc => ?_) (fun hc => ?_)
            · replace h := h.1 ((is_or (is_not (is_and is_eq (is_and is_eq is_true))) is_raw).t hc)
              refine w_seq ?_
              refine w_run [0] ?_
              refine t_done [(.int .i64 n0), culprits1, set2, (.bool false), (.agg [(.int .i64 r3), (.int .i64 r4)]), (.bool (!((r36 == r3) && ((r37 == r4) && true)))), (.bool (r3 != 0)), (.agg [(.int .i64 r9), (.int .i64 r10)]), (.agg [(.int .i64 r16), (.int .i64 r17)]), (.agg [(.int .i64 r22), (.int .i64 r23)]), (.agg [(.int .i64 r28), (.int .i64 r29)]), (.bool r8), (.int .i64 r14), r15, r21, r27, (.bool (r49 != 0)), (.bool ((!((r9 == r55) && ((r10 == r56) && true))) || r8)), .undef, .undef, .undef, .undef, .undef, .undef, .undef, .undef, .undef, .undef, .undef, .undef, .undef, .undef, .undef, .undef, .undef, .undef] H57 (by kernel_rfl) ?_
              refine then_norm ?_
              refine w_ret ?_
              refine join_ret ?_
              refine then_ret ?_
              exact body_ret (vs := [(.bool false)]) _ (by kernel_rfl) rfl h
            · replace h := h.2 ((is_or (is_not (is_and is_eq (is_and is_eq is_true))) is_raw).f hc)
              refine w_skip ?_
              refine join_norm ⟨_, _, _, _, rfl, h⟩
          · replace h := h.2 (is_ne.f hc)
            refine w_seq ?_
            refine w_run [0, 0, 0, 0, 0, 0, 0, 3, 2, 0] ?_
            refine t_gd (r9 != 0) false (by kernel_rfl) (fun hc => ?_) (fun hc => ?_)
            · replace h := h.2 (is_ne.f hc)
              refine t_call true nFFailing [culprits1, set2] H50 (by kernel_rfl) h ?_
              clear h
              rintro _ H60 ⟨r59, rfl, h⟩
              refine t_gd false false (by kernel_rfl) (fun _ => ?_) (fun hn => by cases hn)
              refine t_done [(.int .i64 n0), culprits1, set2, (.bool false), (.agg [(.int .i64 r3), (.int .i64 r4)]), (.bool (!((r36 == r3) && ((r37 == r4) && true)))), (.bool (r3 != 0)), (.agg [(.int .i64 r9), (.int .i64 r10)]), (.agg [(.int .i64 r16), (.int .i64 r17)]), (.agg [(.int .i64 r22), (.int .i64 r23)]), (.agg [(.int .i64 r28), (.int .i64 r29)]), (.bool r8), (.int .i64 r14), r15, r21, r27, (.bool (r49 != 0)), .undef, (.bool (!(r8 == r59))), .undef, .undef, .undef, .undef, .undef, .undef, .undef, .undef, .undef, .undef, .undef, .undef, .undef, .undef, .undef, .undef, .undef] H60 (by kernel_rfl) ?_
              refine then_norm ?_
              refine w_cond (t := (!(r8 == r59))) rfl (fun hc => ?_) (fun hc => ?_)
              · replace h := h.1 ((is_not is_beq).t hc)
                refine w_seq ?_
                refine w_run [0] ?_
                refine t_done [(.int .i64 n0), culprits1, set2, (.bool false), (.agg [(.int .i64 r3), (.int .i64 r4)]), (.bool (!((r36 == r3) && ((r37 == r4) && true)))), (.bool (r3 != 0)), (.agg [(.int .i64 r9), (.int .i64 r10)]), (.agg [(.int .i64 r16), (.int .i64 r17)]), (.agg [(.int .i64 r22), (.int .i64 r23)]), (.agg [(.int .i64 r28), (.int .i64 r29)]), (.bool r8), (.int .i64 r14), r15, r21, r27, (.bool (r49 != 0)), .undef, (.bool (!(r8 == r59))), .undef, .undef, .undef, .undef, .undef, .undef, .undef, .undef, .undef, .undef, .undef, .undef, .undef, .undef, .undef, .undef, .undef] H60 (by kernel_rfl) ?_
                refine then_norm ?_
                refine w_ret ?_
                refine join_ret ?_
                refine then_ret ?_
                exact body_ret (vs := [(.bool false)]) _ (by kernel_rfl) rfl h
              · replace h := h.2 ((is_not is_beq).f hc)
                refine w_skip ?_
                refine join_norm ⟨_, _, _, _, rfl, h⟩
            · replace h := h.1 (is_ne.t hc)
              refine t_gd true false (by kernel_rfl) (fun hn => by cases hn) (fun _ => ?_)
              refine t_done [(.int .i64 n0), culprits1, set2, (.bool false), (.agg [(.int .i64 r3), (.int .i64 r4)]), (.bool (!((r36 == r3) && ((r37 == r4) && true)))), (.bool (r3 != 0)), (.agg [(.int .i64 r9), (.int .i64 r10)]), (.agg [(.int .i64 r16), (.int .i64 r17)]), (.agg [(.int .i64 r22), (.int .i64 r23)]), (.agg [(.int .i64 r28), (.int .i64 r29)]), (.bool r8), (.int .i64 r14), r15, r21, r27, (.bool (r49 != 0)), .undef, (.bool true), .undef, .undef, .undef, .undef, .undef, .undef, .undef, .undef, .undef, .undef, .undef, .undef, .undef, .undef, .undef, .undef, .undef] H50 (by kernel_rfl) ?_
              refine then_norm ?_
              refine w_cond (t := true) rfl (fun _ => ?_) (fun hc => by cases hc)
              refine w_seq ?_
              refine w_run [0] ?_
              refine t_done [(.int .i64 n0), culprits1, set2, (.bool false), (.agg [(.int .i64 r3), (.int .i64 r4)]), (.bool (!((r36 == r3) && ((r37 == r4) && true)))), (.bool (r3 != 0)), (.agg [(.int .i64 r9), (.int .i64 r10)]), (.agg [(.int .i64 r16), (.int .i64 r17)]), (.agg [(.int .i64 r22), (.int .i64 r23)]), (.agg [(.int .i64 r28), (.int .i64 r29)]), (.bool r8), (.int .i64 r14), r15, r21, r27, (.bool (r49 != 0)), .undef, (.bool true), .undef, .undef, .undef, .undef, .undef, .undef, .undef, .undef, .undef, .undef, .undef, .undef, .undef, .undef, .undef, .undef, .undef] H50 (by kernel_rfl) ?_
              refine then_norm ?_
              refine w_ret ?_
              refine join_ret ?_
              refine then_ret ?_
              exact body_ret (vs := [(.bool false)]) _ (by kernel_rfl) rfl h
        · clear h
          rintro EI H48 ⟨d44, d45, d46, d47, rfl, hJ⟩
          have h := hK H48 hJ
          clear hJ hK
          refine then_norm ?_
          refine w_seq ?_
          refine w_run [0] ?_
          refine t_done [(.int .i64 n0), culprits1, set2, d44, (.agg [(.int .i64 r3), (.int .i64 r4)]), (.bool (!((r36 == r3) && ((r37 == r4) && true)))), (.bool (r3 != 0)), (.agg [(.int .i64 r9), (.int .i64 r10)]), (.agg [(.int .i64 r16), (.int .i64 r17)]), (.agg [(.int .i64 r22), (.int .i64 r23)]), (.agg [(.int .i64 r28), (.int .i64 r29)]), (.bool r8), (.int .i64 r14), r15, r21, r27, d45, d46, d47, .undef, .undef, .empty, .undef, .undef, .undef, .undef, .undef, .undef, .undef, .undef, .undef, .undef, .undef, .undef, .undef, .undef] H48 (by kernel_rfl) ?_
          refine then_norm ?_
          refine w_seq ?_
          refine w_seq ?_
          refine w_run [0] ?_
          refine t_done [(.int .i64 n0), culprits1, set2, d44, (.agg [(.int .i64 r3), (.int .i64 r4)]), (.bool (!((r36 == r3) && ((r37 == r4) && true)))), (.bool (r3 != 0)), (.agg [(.int .i64 r9), (.int .i64 r10)]), (.agg [(.int .i64 r16), (.int .i64 r17)]), (.agg [(.int .i64 r22), (.int .i64 r23)]), (.agg [(.int .i64 r28), (.int .i64 r29)]), (.bool r8), (.int .i64 r14), r15, r21, r27, d45, d46, d47, (.int .i64 0), .undef, .empty, .undef, .undef, .undef, .undef, .undef, .undef, .undef, .undef, .undef, .undef, .undef, .undef, .undef, .undef] H48 (by kernel_rfl) ?_
          refine then_norm ?_
          refine w_block ?_
          obtain ⟨J62, k63, h0, h⟩ := h
          refine w_loop (I := fun mI EI HI => ∃ (i65 : Int) (d66 : AV) (greedy67 : AV) (d68 : AV), EI = [(.int .i64 n0), culprits1, set2, d44, (.agg [(.int .i64 r3), (.int .i64 r4)]), (.bool (!((r36 == r3) && ((r37 == r4) && true)))), (.bool (r3 != 0)), (.agg [(.int .i64 r9), (.int .i64 r10)]), (.agg [(.int .i64 r16), (.int .i64 r17)]), (.agg [(.int .i64 r22), (.int .i64 r23)]), (.agg [(.int .i64 r28), (.int .i64 r29)]), (.bool r8), (.int .i64 r14), r15, r21, r27, d45, d46, d47, (.int .i64 i65), d66, greedy67, d68, .undef, .undef, .undef, .undef, .undef, .undef, .undef, .undef, .undef, .undef, .undef, .undef, .undef] ∧ J62 mI i65 greedy67 HI) ?_ k63 ⟨_, _, _, _, rfl, h0⟩
          clear h0
          rintro m64 EI H69 ⟨i65, d66, greedy67, d68, rfl, hJ⟩
          replace h := h m64 i65 greedy67 H69 hJ
          clear hJ
          refine w_seq ?_
          refine w_seq ?_
          refine w_run [0, 0, 0] ?_
          refine t_done [(.int .i64 n0), culprits1, set2, d44, (.agg [(.int .i64 r3), (.int .i64 r4)]), (.bool (!((r36 == r3) && ((r37 == r4) && true)))), (.bool (r3 != 0)), (.agg [(.int .i64 r9), (.int .i64 r10)]), (.agg [(.int .i64 r16), (.int .i64 r17)]), (.agg [(.int .i64 r22), (.int .i64 r23)]), (.agg [(.int .i64 r28), (.int .i64 r29)]), (.bool r8), (.int .i64 r14), r15, r21, r27, d45, d46, d47, (.int .i64 i65), (.bool (decide (i65 < n0))), greedy67, d68, .undef, .undef, .undef, .undef, .undef, .undef, .undef, .undef, .undef, .undef, .undef, .undef, .undef] H69 (by kernel_rfl) ?_
          refine then_norm ?_
          refine w_cond (t := (decide (i65 < n0))) rfl (fun hc => ?_) (fun hc => ?_)
          · replace h := h.1 (is_dec.t hc)
            refine w_skip ?_
            refine then_norm ?_
            refine w_seq ?_
            refine w_block ?_
            refine w_seq ?_
            refine w_run [0, 0, 0, 1] ?_
            refine t_call true nFLanded [culprits1, greedy67, (.int .i64 i65)] H69 (by kernel_rfl) h ?_
            clear h
            rintro _ H71 ⟨r70, rfl, h⟩
            refine t_done [(.int .i64 n0), culprits1, set2, d44, (.agg [(.int .i64 r3), (.int .i64 r4)]), (.bool (!((r36 == r3) && ((r37 == r4) && true)))), (.bool (r3 != 0)), (.agg [(.int .i64 r9), (.int .i64 r10)]), (.agg [(.int .i64 r16), (.int .i64 r17)]), (.agg [(.int .i64 r22), (.int .i64 r23)]), (.agg [(.int .i64 r28), (.int .i64 r29)]), (.bool r8), (.int .i64 r14), r15, r21, r27, d45, d46, d47, (.int .i64 i65), (.bool (decide (i65 < n0))), greedy67, (.bool r70), .undef, .undef, .undef, .undef, .undef, .undef, .undef, .undef, .undef, .undef, .undef, .undef, .undef] H71 (by kernel_rfl) ?_
            refine then_norm ?_
            refine w_cond (t := r70) rfl (fun hc => ?_) (fun hc => ?_)
            · replace h := h.1 (is_raw.t hc)
              refine w_run [0, 0, 1, 1, 0] ?_
              obtain ⟨b73, H74, hb⟩ : ∃ b H', NewB H71 1 [(.int .i64 i65)] b H' := ⟨_, _, rfl, rfl⟩
              replace h := h b73 H74 hb
              refine t_bs true 1 [(.int .i64 0)] [(0, 1, .loc 0)] 1 [(.int .i64 i65)] [(.int .i64 i65)] b73 H74 H71 (by kernel_rfl) (fill_c (vs := [(.int .i64 i65)]) (size := 1) rfl (by kernel_rfl) (by kernel_rfl) (by kernel_rfl)) hb ?_
              obtain ⟨a75, H76, ha, h⟩ := h
              refine t_app true 1 8 greedy67 (.slice b73 0 1 (some 1)) a75 H76 H74 (by kernel_rfl) ha ?_
              refine t_done [(.int .i64 n0), culprits1, set2, d44, (.agg [(.int .i64 r3), (.int .i64 r4)]), (.bool (!((r36 == r3) && ((r37 == r4) && true)))), (.bool (r3 != 0)), (.agg [(.int .i64 r9), (.int .i64 r10)]), (.agg [(.int .i64 r16), (.int .i64 r17)]), (.agg [(.int .i64 r22), (.int .i64 r23)]), (.agg [(.int .i64 r28), (.int .i64 r29)]), (.bool r8), (.int .i64 r14), r15, r21, r27, d45, d46, d47, (.int .i64 i65), (.bool (decide (i65 < n0))), a75, (.bool r70), .undef, .undef, .undef, .undef, .undef, .undef, .undef, .undef, .undef, .undef, .undef, .undef, .undef] H76 (by kernel_rfl) ?_
              refine block_norm ?_
              refine then_norm ?_
              refine w_run [0, 0, 0] ?_
              refine t_done [(.int .i64 n0), culprits1, set2, d44, (.agg [(.int .i64 r3), (.int .i64 r4)]), (.bool (!((r36 == r3) && ((r37 == r4) && true)))), (.bool (r3 != 0)), (.agg [(.int .i64 r9), (.int .i64 r10)]), (.agg [(.int .i64 r16), (.int .i64 r17)]), (.agg [(.int .i64 r22), (.int .i64 r23)]), (.agg [(.int .i64 r28), (.int .i64 r29)]), (.bool r8), (.int .i64 r14), r15, r21, r27, d45, d46, d47, (.int .i64 (IntKind.wrap .i64 (i65 + 1))), (.bool (decide (i65 < n0))), a75, (.bool r70), .undef, .undef, .undef, .undef, .undef, .undef, .undef, .undef, .undef, .undef, .undef, .undef, .undef] H76 (by kernel_rfl) ?_
              obtain ⟨m', hm, h⟩ := h
              refine loop_norm ⟨m', hm, _, _, _, _, rfl, h⟩
            · replace h := h.2 (is_raw.f hc)
              refine w_skip ?_
              refine block_norm ?_
              refine then_norm ?_
              refine w_run [0, 0, 0] ?_
              refine t_done [(.int .i64 n0), culprits1, set2, d44, (.agg [(.int .i64 r3), (.int .i64 r4)]), (.bool (!((r36 == r3) && ((r37 == r4) && true)))), (.bool (r3 != 0)), (.agg [(.int .i64 r9), (.int .i64 r10)]), (.agg [(.int .i64 r16), (.int .i64 r17)]), (.agg [(.int .i64 r22), (.int .i64 r23)]), (.agg [(.int .i64 r28), (.int .i64 r29)]), (.bool r8), (.int .i64 r14), r15, r21, r27, d45, d46, d47, (.int .i64 (IntKind.wrap .i64 (i65 + 1))), (.bool (decide (i65 < n0))), greedy67, (.bool r70), .undef, .undef, .undef, .undef, .undef, .undef, .undef, .undef, .undef, .undef, .undef, .undef, .undef] H71 (by kernel_rfl) ?_
              obtain ⟨m', hm, h⟩ := h
              refine loop_norm ⟨m', hm, _, _, _, _, rfl, h⟩
          · replace h := h.2 (is_dec.f hc)
            refine w_exit ?_
            refine then_exit ?_
            refine loop_exit ?_
            refine block_exit ?_
            refine then_norm ?_
            refine w_seq ?_
            refine w_seq ?_
            refine w_run [0, 0, 0, 0, 0, 0, 3, 2, 0] ?_
            refine t_gd (r28 != 0) false (by kernel_rfl) (fun hc => ?_) (fun hc => ?_)
            · replace h := h.2 (is_ne.f hc)
              refine t_call true nFEqualInts [r27, greedy67] H69 (by kernel_rfl) h ?_
              clear h
              rintro _ H80 ⟨r79, rfl, h⟩
              refine t_gd false false (by kernel_rfl) (fun _ => ?_) (fun hn => by cases hn)
              refine t_done [(.int .i64 n0), culprits1, set2, d44, (.agg [(.int .i64 r3), (.int .i64 r4)]), (.bool (!((r36 == r3) && ((r37 == r4) && true)))), (.bool (r3 != 0)), (.agg [(.int .i64 r9), (.int .i64 r10)]), (.agg [(.int .i64 r16), (.int .i64 r17)]), (.agg [(.int .i64 r22), (.int .i64 r23)]), (.agg [(.int .i64 r28), (.int .i64 r29)]), (.bool r8), (.int .i64 r14), r15, r21, r27, d45, d46, d47, (.int .i64 i65), (.bool (decide (i65 < n0))), greedy67, d68, (.bool (!r79)), .undef, .undef, .undef, .undef, .undef, .undef, .undef, .undef, .undef, .undef, .undef, .undef] H80 (by kernel_rfl) ?_
              refine then_norm ?_
              refine w_cond (t := (!r79)) rfl (fun hc => ?_) (fun hc => ?_)
              · replace h := h.1 ((is_not is_raw).t hc)
                refine w_seq ?_
                refine w_run [0] ?_
                refine t_done [(.int .i64 n0), culprits1, set2, (.bool false), (.agg [(.int .i64 r3), (.int .i64 r4)]), (.bool (!((r36 == r3) && ((r37 == r4) && true)))), (.bool (r3 != 0)), (.agg [(.int .i64 r9), (.int .i64 r10)]), (.agg [(.int .i64 r16), (.int .i64 r17)]), (.agg [(.int .i64 r22), (.int .i64 r23)]), (.agg [(.int .i64 r28), (.int .i64 r29)]), (.bool r8), (.int .i64 r14), r15, r21, r27, d45, d46, d47, (.int .i64 i65), (.bool (decide (i65 < n0))), greedy67, d68, (.bool (!r79)), .undef, .undef, .undef, .undef, .undef, .undef, .undef, .undef, .undef, .undef, .undef, .undef] H80 (by kernel_rfl) ?_
                refine then_norm ?_
                refine w_ret ?_
                refine then_ret ?_
                exact body_ret (vs := [(.bool false)]) _ (by kernel_rfl) rfl h
              · replace h := h.2 ((is_not is_raw).f hc)
                refine w_skip ?_
                refine then_norm ?_
                refine w_seq ?_
                refine w_run [0, 0, 1, 0] ?_
                refine t_call true nFFirstFailing [(.int .i64 n0), culprits1, .empty] H80 (by kernel_rfl) h ?_
                clear h
                rintro _ H83 ⟨r82, rfl, h⟩
                refine t_done [(.int .i64 n0), culprits1, set2, d44, (.agg [(.int .i64 r3), (.int .i64 r4)]), (.bool (!((r36 == r3) && ((r37 == r4) && true)))), (.bool (r3 != 0)), (.agg [(.int .i64 r9), (.int .i64 r10)]), (.agg [(.int .i64 r16), (.int .i64 r17)]), (.agg [(.int .i64 r22), (.int .i64 r23)]), (.agg [(.int .i64 r28), (.int .i64 r29)]), (.bool r8), (.int .i64 r14), r15, r21, r27, d45, d46, d47, (.int .i64 i65), (.bool (decide (i65 < n0))), greedy67, d68, (.bool (!r79)), (.int .i64 r82), .undef, .undef, .undef, .undef, .undef, .undef, .undef, .undef, .undef, .undef, .undef] H83 (by kernel_rfl) ?_
                refine then_norm ?_
                refine w_seq ?_
                refine w_seq ?_
                refine w_run [0, 0] ?_
                refine t_done [(.int .i64 n0), culprits1, set2, d44, (.agg [(.int .i64 r3), (.int .i64 r4)]), (.bool (!((r36 == r3) && ((r37 == r4) && true)))), (.bool (r3 != 0)), (.agg [(.int .i64 r9), (.int .i64 r10)]), (.agg [(.int .i64 r16), (.int .i64 r17)]), (.agg [(.int .i64 r22), (.int .i64 r23)]), (.agg [(.int .i64 r28), (.int .i64 r29)]), (.bool r8), (.int .i64 r14), r15, r21, r27, d45, d46, d47, (.int .i64 i65), (.bool (decide (i65 < n0))), greedy67, d68, (.bool (!r79)), (.int .i64 r82), (.bool (decide (r82 < 0))), .undef, .undef, .undef, .undef, .undef, .undef, .undef, .undef, .undef, .undef] H83 (by kernel_rfl) ?_
                refine then_norm ?_
                refine w_cond (t := (decide (r82 < 0))) rfl (fun hc => ?_) (fun hc => ?_)
                · replace h := h.1 (is_dec.t hc)
                  refine w_seq ?_
                  refine w_run [1, 1, 1] ?_
                  refine t_call true nFFault [(.int .i64 6), (.int .i64 (-1))] H83 (by kernel_rfl) h ?_
                  clear h
                  rintro _ H87 ⟨r85, r86, rfl, h⟩
                  obtain ⟨H89, hb⟩ : ∃ H', Dead1 H87 1 H' := ⟨_, ⟨rfl⟩⟩
                  replace h := h H89 hb
                  refine t_tomb true 1 (.agg [(.int .i64 0), (.int .i64 0)]) [(.int .i64 0), (.int .i64 0)] H89 H87 (by kernel_rfl) rfl hb ?_
                  refine t_upd true 2 0 [(.int .i64 0), (.int .i64 0)] (.agg [(.int .i64 r85), (.int .i64 r86)]) [(.int .i64 r85), (.int .i64 r86)] [(.int .i64 r85), (.int .i64 r86)] H89 (by kernel_rfl) rfl (all_c rfl (all_c rfl all_n)) ⟨rfl, Nat.le_of_ble_eq_true (by kernel_rfl), rfl⟩ ?_
                  refine t_done [(.int .i64 n0), culprits1, set2, d44, (.agg [(.int .i64 r3), (.int .i64 r4)]), (.bool (!((r36 == r3) && ((r37 == r4) && true)))), (.bool (r3 != 0)), (.agg [(.int .i64 r9), (.int .i64 r10)]), (.agg [(.int .i64 r16), (.int .i64 r17)]), (.agg [(.int .i64 r22), (.int .i64 r23)]), (.agg [(.int .i64 r28), (.int .i64 r29)]), (.bool r8), (.int .i64 r14), r15, r21, r27, d45, d46, d47, (.int .i64 i65), (.bool (decide (i65 < n0))), greedy67, d68, (.bool (!r79)), (.int .i64 r82), (.bool (decide (r82 < 0))), (.agg [(.int .i64 r85), (.int .i64 r86)]), .undef, .undef, .undef, .undef, .undef, .undef, .undef, .undef, .undef] H89 (by kernel_rfl) ?_
                  refine then_norm ?_
                  refine w_seq ?_
                  refine w_run [0, 0, 0, 0, 0, 0, 0, 0, 0, 0, 0, 0, 0, 0, 1, 0, 0, 0, 0, 1, 0, 0, 0] ?_
                  obtain ⟨len90, hl, h⟩ := h
                  refine t_len true r15 len90 H89 (by kernel_rfl) hl ?_
                  obtain ⟨len91, hl, h⟩ := h
                  refine t_len true r21 len91 H89 (by kernel_rfl) hl ?_
                  refine t_done [(.int .i64 n0), culprits1, set2, (.bool ((((((r16 == r85) && ((r17 == r86) && true)) && ((r22 == r85) && ((r23 == r86) && true))) && (r14 == 0)) && ((len90 : Int) == 0)) && ((len91 : Int) == 0))), (.agg [(.int .i64 r3), (.int .i64 r4)]), (.bool (!((r36 == r3) && ((r37 == r4) && true)))), (.bool (r3 != 0)), (.agg [(.int .i64 r9), (.int .i64 r10)]), (.agg [(.int .i64 r16), (.int .i64 r17)]), (.agg [(.int .i64 r22), (.int .i64 r23)]), (.agg [(.int .i64 r28), (.int .i64 r29)]), (.bool r8), (.int .i64 r14), r15, r21, r27, d45, d46, d47, (.int .i64 i65), (.bool (decide (i65 < n0))), greedy67, d68, (.bool (!r79)), (.int .i64 r82), (.bool (decide (r82 < 0))), (.agg [(.int .i64 r85), (.int .i64 r86)]), .undef, .undef, .undef, .undef, .undef, .undef, .undef, .undef, .undef] H89 (by kernel_rfl) ?_
                  refine then_norm ?_
                  refine w_ret ?_
                  refine then_ret ?_
                  exact body_ret (vs := [(.bool ((((((r16 == r85) && ((r17 == r86) && true)) && ((r22 == r85) && ((r23 == r86) && true))) && (r14 == 0)) && ((len90 : Int) == 0)) && ((len91 : Int) == 0)))]) _ (by kernel_rfl) rfl h
                · replace h := h.2 (is_dec.f hc)
                  refine w_skip ?_
                  refine then_norm ?_
                  refine w_seq ?_
                  refine w_run [0, 1, 0] ?_
                  obtain ⟨b92, H93, hb⟩ : ∃ b H', NewB H83 1 [(.int .i64 n0)] b H' := ⟨_, _, rfl, rfl⟩
                  replace h := h b92 H93 hb
                  refine t_bs true 1 [(.int .i64 0)] [(0, 1, .loc 0)] 1 [(.int .i64 n0)] [(.int .i64 n0)] b92 H93 H83 (by kernel_rfl) (fill_c (vs := [(.int .i64 n0)]) (size := 1) rfl (by kernel_rfl) (by kernel_rfl) (by kernel_rfl)) hb ?_
                  refine t_done [(.int .i64 n0), culprits1, set2, d44, (.agg [(.int .i64 r3), (.int .i64 r4)]), (.bool (!((r36 == r3) && ((r37 == r4) && true)))), (.bool (r3 != 0)), (.agg [(.int .i64 r9), (.int .i64 r10)]), (.agg [(.int .i64 r16), (.int .i64 r17)]), (.agg [(.int .i64 r22), (.int .i64 r23)]), (.agg [(.int .i64 r28), (.int .i64 r29)]), (.bool r8), (.int .i64 r14), r15, r21, r27, d45, d46, d47, (.int .i64 i65), (.bool (decide (i65 < n0))), greedy67, d68, (.bool (!r79)), (.int .i64 r82), (.bool (decide (r82 < 0))), .undef, .undef, .undef, .undef, (.slice b92 0 1 (some 1)), .undef, .undef, .undef, .undef, .undef] H93 (by kernel_rfl) ?_
                  refine then_norm ?_
                  refine w_seq ?_
                  refine w_run [0] ?_
                  refine t_done [(.int .i64 n0), culprits1, set2, d44, (.agg [(.int .i64 r3), (.int .i64 r4)]), (.bool (!((r36 == r3) && ((r37 == r4) && true)))), (.bool (r3 != 0)), (.agg [(.int .i64 r9), (.int .i64 r10)]), (.agg [(.int .i64 r16), (.int .i64 r17)]), (.agg [(.int .i64 r22), (.int .i64 r23)]), (.agg [(.int .i64 r28), (.int .i64 r29)]), (.bool r8), (.int .i64 r14), r15, r21, r27, d45, d46, d47, (.int .i64 i65), (.bool (decide (i65 < n0))), greedy67, d68, (.bool (!r79)), (.int .i64 r82), (.bool (decide (r82 < 0))), .undef, .undef, (.int .i64 0), .undef, (.slice b92 0 1 (some 1)), .undef, .undef, .undef, .undef, .undef] H93 (by kernel_rfl) ?_
                  refine then_norm ?_
                  refine w_seq ?_
                  refine w_run [0, 0] ?_
                  refine t_done [(.int .i64 n0), culprits1, set2, d44, (.agg [(.int .i64 r3), (.int .i64 r4)]), (.bool (!((r36 == r3) && ((r37 == r4) && true)))), (.bool (r3 != 0)), (.agg [(.int .i64 r9), (.int .i64 r10)]), (.agg [(.int .i64 r16), (.int .i64 r17)]), (.agg [(.int .i64 r22), (.int .i64 r23)]), (.agg [(.int .i64 r28), (.int .i64 r29)]), (.bool r8), (.int .i64 r14), r15, r21, r27, d45, d46, d47, (.int .i64 i65), (.bool (decide (i65 < n0))), greedy67, d68, (.bool (!r79)), (.int .i64 r82), (.bool (decide (r82 < 0))), .undef, (.int .i64 n0), (.int .i64 0), .undef, (.slice b92 0 1 (some 1)), .undef, .undef, .undef, .undef, .undef] H93 (by kernel_rfl) ?_
                  refine then_norm ?_
                  refine w_seq ?_
                  refine w_block ?_
                  obtain ⟨J94, k95, h0, h⟩ := h
                  refine w_loop (I := fun mI EI HI => ∃ (high97 : Int) (low98 : Int) (d99 : AV) (ran100 : AV) (d101 : AV) (d102 : AV), EI = [(.int .i64 n0), culprits1, set2, d44, (.agg [(.int .i64 r3), (.int .i64 r4)]), (.bool (!((r36 == r3) && ((r37 == r4) && true)))), (.bool (r3 != 0)), (.agg [(.int .i64 r9), (.int .i64 r10)]), (.agg [(.int .i64 r16), (.int .i64 r17)]), (.agg [(.int .i64 r22), (.int .i64 r23)]), (.agg [(.int .i64 r28), (.int .i64 r29)]), (.bool r8), (.int .i64 r14), r15, r21, r27, d45, d46, d47, (.int .i64 i65), (.bool (decide (i65 < n0))), greedy67, d68, (.bool (!r79)), (.int .i64 r82), (.bool (decide (r82 < 0))), .undef, (.int .i64 high97), (.int .i64 low98), d99, ran100, d101, d102, .undef, .undef, .undef] ∧ J94 mI high97 low98 ran100 HI) ?_ k95 ⟨_, _, _, _, _, _, rfl, h0⟩
                  clear h0
                  rintro m96 EI H103 ⟨high97, low98, d99, ran100, d101, d102, rfl, hJ⟩
                  replace h := h m96 high97 low98 ran100 H103 hJ
                  clear hJ
                  refine w_seq ?_
                  refine w_seq ?_
                  refine w_run [0, 0, 0, 0] ?_
                  refine t_done [(.int .i64 n0), culprits1, set2, d44, (.agg [(.int .i64 r3), (.int .i64 r4)]), (.bool (!((r36 == r3) && ((r37 == r4) && true)))), (.bool (r3 != 0)), (.agg [(.int .i64 r9), (.int .i64 r10)]), (.agg [(.int .i64 r16), (.int .i64 r17)]), (.agg [(.int .i64 r22), (.int .i64 r23)]), (.agg [(.int .i64 r28), (.int .i64 r29)]), (.bool r8), (.int .i64 r14), r15, r21, r27, d45, d46, d47, (.int .i64 i65), (.bool (decide (i65 < n0))), greedy67, d68, (.bool (!r79)), (.int .i64 r82), (.bool (decide (r82 < 0))), .undef, (.int .i64 high97), (.int .i64 low98), (.bool (decide ((IntKind.wrap .i64 (high97 - low98)) > 1))), ran100, d101, d102, .undef, .undef, .undef] H103 (by kernel_rfl) ?_
                  refine then_norm ?_
                  refine w_cond (t := (decide ((IntKind.wrap .i64 (high97 - low98)) > 1))) rfl (fun hc => ?_) (fun hc => ?_)
                  · replace h := h.1 (is_dec.t hc)
                    refine w_skip ?_
                    refine then_norm ?_
                    refine w_block ?_
                    refine w_seq ?_
                    refine w_run [0, 0, 0, 1, 0] ?_
                    refine t_quo true .no .i64 (IntKind.wrap .i64 (low98 + high97)) 2 H103 (by kernel_rfl) (by decide) ?_
                    refine t_done [(.int .i64 n0), culprits1, set2, d44, (.agg [(.int .i64 r3), (.int .i64 r4)]), (.bool (!((r36 == r3) && ((r37 == r4) && true)))), (.bool (r3 != 0)), (.agg [(.int .i64 r9), (.int .i64 r10)]), (.agg [(.int .i64 r16), (.int .i64 r17)]), (.agg [(.int .i64 r22), (.int .i64 r23)]), (.agg [(.int .i64 r28), (.int .i64 r29)]), (.bool r8), (.int .i64 r14), r15, r21, r27, d45, d46, d47, (.int .i64 i65), (.bool (decide (i65 < n0))), greedy67, d68, (.bool (!r79)), (.int .i64 r82), (.bool (decide (r82 < 0))), .undef, (.int .i64 high97), (.int .i64 low98), (.bool (decide ((IntKind.wrap .i64 (high97 - low98)) > 1))), ran100, (.int .i64 (IntKind.wrap .i64 (Int.tdiv (IntKind.wrap .i64 (low98 + high97)) 2))), d102, .undef, .undef, .undef] H103 (by kernel_rfl) ?_
                    refine then_norm ?_
                    refine w_seq ?_
                    refine w_run [0, 0, 1, 1, 0] ?_
                    obtain ⟨b104, H105, hb⟩ : ∃ b H', NewB H103 1 [(.int .i64 (IntKind.wrap .i64 (Int.tdiv (IntKind.wrap .i64 (low98 + high97)) 2)))] b H' := ⟨_, _, rfl, rfl⟩
                    replace h := h b104 H105 hb
                    refine t_bs true 1 [(.int .i64 0)] [(0, 1, .loc 0)] 1 [(.int .i64 (IntKind.wrap .i64 (Int.tdiv (IntKind.wrap .i64 (low98 + high97)) 2)))] [(.int .i64 (IntKind.wrap .i64 (Int.tdiv (IntKind.wrap .i64 (low98 + high97)) 2)))] b104 H105 H103 (by kernel_rfl) (fill_c (vs := [(.int .i64 (IntKind.wrap .i64 (Int.tdiv (IntKind.wrap .i64 (low98 + high97)) 2)))]) (size := 1) rfl (by kernel_rfl) (by kernel_rfl) (by kernel_rfl)) hb ?_
                    obtain ⟨a106, H107, ha, h⟩ := h
                    refine t_app true 1 8 ran100 (.slice b104 0 1 (some 1)) a106 H107 H105 (by kernel_rfl) ha ?_
                    refine t_done [(.int .i64 n0), culprits1, set2, d44, (.agg [(.int .i64 r3), (.int .i64 r4)]), (.bool (!((r36 == r3) && ((r37 == r4) && true)))), (.bool (r3 != 0)), (.agg [(.int .i64 r9), (.int .i64 r10)]), (.agg [(.int .i64 r16), (.int .i64 r17)]), (.agg [(.int .i64 r22), (.int .i64 r23)]), (.agg [(.int .i64 r28), (.int .i64 r29)]), (.bool r8), (.int .i64 r14), r15, r21, r27, d45, d46, d47, (.int .i64 i65), (.bool (decide (i65 < n0))), greedy67, d68, (.bool (!r79)), (.int .i64 r82), (.bool (decide (r82 < 0))), .undef, (.int .i64 high97), (.int .i64 low98), (.bool (decide ((IntKind.wrap .i64 (high97 - low98)) > 1))), a106, (.int .i64 (IntKind.wrap .i64 (Int.tdiv (IntKind.wrap .i64 (low98 + high97)) 2))), d102, .undef, .undef, .undef] H107 (by kernel_rfl) ?_
                    refine then_norm ?_
                    refine w_seq ?_
                    refine w_run [0, 0, 0] ?_
                    refine t_done [(.int .i64 n0), culprits1, set2, d44, (.agg [(.int .i64 r3), (.int .i64 r4)]), (.bool (!((r36 == r3) && ((r37 == r4) && true)))), (.bool (r3 != 0)), (.agg [(.int .i64 r9), (.int .i64 r10)]), (.agg [(.int .i64 r16), (.int .i64 r17)]), (.agg [(.int .i64 r22), (.int .i64 r23)]), (.agg [(.int .i64 r28), (.int .i64 r29)]), (.bool r8), (.int .i64 r14), r15, r21, r27, d45, d46, d47, (.int .i64 i65), (.bool (decide (i65 < n0))), greedy67, d68, (.bool (!r79)), (.int .i64 r82), (.bool (decide (r82 < 0))), .undef, (.int .i64 high97), (.int .i64 low98), (.bool (decide ((IntKind.wrap .i64 (high97 - low98)) > 1))), a106, (.int .i64 (IntKind.wrap .i64 (Int.tdiv (IntKind.wrap .i64 (low98 + high97)) 2))), (.bool (decide ((IntKind.wrap .i64 (Int.tdiv (IntKind.wrap .i64 (low98 + high97)) 2)) > r82))), .undef, .undef, .undef] H107 (by kernel_rfl) ?_
                    refine then_norm ?_
                    refine w_cond (t := (decide ((IntKind.wrap .i64 (Int.tdiv (IntKind.wrap .i64 (low98 + high97)) 2)) > r82))) rfl (fun hc => ?_) (fun hc => ?_)
                    · replace h := h.1 (is_dec.t hc)
                      refine w_run [0, 0] ?_
                      refine t_done [(.int .i64 n0), culprits1, set2, d44, (.agg [(.int .i64 r3), (.int .i64 r4)]), (.bool (!((r36 == r3) && ((r37 == r4) && true)))), (.bool (r3 != 0)), (.agg [(.int .i64 r9), (.int .i64 r10)]), (.agg [(.int .i64 r16), (.int .i64 r17)]), (.agg [(.int .i64 r22), (.int .i64 r23)]), (.agg [(.int .i64 r28), (.int .i64 r29)]), (.bool r8), (.int .i64 r14), r15, r21, r27, d45, d46, d47, (.int .i64 i65), (.bool (decide (i65 < n0))), greedy67, d68, (.bool (!r79)), (.int .i64 r82), (.bool (decide (r82 < 0))), .undef, (.int .i64 (IntKind.wrap .i64 (Int.tdiv (IntKind.wrap .i64 (low98 + high97)) 2))), (.int .i64 low98), (.bool (decide ((IntKind.wrap .i64 (high97 - low98)) > 1))), a106, (.int .i64 (IntKind.wrap .i64 (Int.tdiv (IntKind.wrap .i64 (low98 + high97)) 2))), (.bool (decide ((IntKind.wrap .i64 (Int.tdiv (IntKind.wrap .i64 (low98 + high97)) 2)) > r82))), .undef, .undef, .undef] H107 (by kernel_rfl) ?_
                      refine block_norm ?_
                      obtain ⟨m', hm, h⟩ := h
                      refine loop_norm ⟨m', hm, _, _, _, _, _, _, rfl, h⟩
                    · replace h := h.2 (is_dec.f hc)
                      refine w_run [0, 0] ?_
                      refine t_done [(.int .i64 n0), culprits1, set2, d44, (.agg [(.int .i64 r3), (.int .i64 r4)]), (.bool (!((r36 == r3) && ((r37 == r4) && true)))), (.bool (r3 != 0)), (.agg [(.int .i64 r9), (.int .i64 r10)]), (.agg [(.int .i64 r16), (.int .i64 r17)]), (.agg [(.int .i64 r22), (.int .i64 r23)]), (.agg [(.int .i64 r28), (.int .i64 r29)]), (.bool r8), (.int .i64 r14), r15, r21, r27, d45, d46, d47, (.int .i64 i65), (.bool (decide (i65 < n0))), greedy67, d68, (.bool (!r79)), (.int .i64 r82), (.bool (decide (r82 < 0))), .undef, (.int .i64 high97), (.int .i64 (IntKind.wrap .i64 (Int.tdiv (IntKind.wrap .i64 (low98 + high97)) 2))), (.bool (decide ((IntKind.wrap .i64 (high97 - low98)) > 1))), a106, (.int .i64 (IntKind.wrap .i64 (Int.tdiv (IntKind.wrap .i64 (low98 + high97)) 2))), (.bool (decide ((IntKind.wrap .i64 (Int.tdiv (IntKind.wrap .i64 (low98 + high97)) 2)) > r82))), .undef, .undef, .undef] H107 (by kernel_rfl) ?_
                      refine block_norm ?_
                      obtain ⟨m', hm, h⟩ := h
                      refine loop_norm ⟨m', hm, _, _, _, _, _, _, rfl, h⟩
                  · replace h := h.2 (is_dec.f hc)
                    refine w_exit ?_
                    refine then_exit ?_
                    refine loop_exit ?_
                    refine block_exit ?_
                    refine then_norm ?_
                    refine w_seq ?_
                    refine w_seq ?_
                    refine w_run [0, 0, 0, 0, 0, 0, 0, 0, 0, 0, 0, 3, 2, 0] ?_
                    refine t_gd ((r16 != 0) || (r14 != r82)) false (by kernel_rfl) (fun hc => ?_) (fun hc => ?_)
                    · replace h := h.2 ((is_or is_ne is_ne).f hc)
                      refine t_call true nFEqualInts [r15, ran100] H103 (by kernel_rfl) h ?_
                      clear h
                      rintro _ H111 ⟨r110, rfl, h⟩
                      refine t_gd false false (by kernel_rfl) (fun _ => ?_) (fun hn => by cases hn)
                      refine t_done [(.int .i64 n0), culprits1, set2, d44, (.agg [(.int .i64 r3), (.int .i64 r4)]), (.bool (!((r36 == r3) && ((r37 == r4) && true)))), (.bool (r3 != 0)), (.agg [(.int .i64 r9), (.int .i64 r10)]), (.agg [(.int .i64 r16), (.int .i64 r17)]), (.agg [(.int .i64 r22), (.int .i64 r23)]), (.agg [(.int .i64 r28), (.int .i64 r29)]), (.bool r8), (.int .i64 r14), r15, r21, r27, d45, d46, d47, (.int .i64 i65), (.bool (decide (i65 < n0))), greedy67, d68, (.bool (!r79)), (.int .i64 r82), (.bool (decide (r82 < 0))), .undef, (.int .i64 high97), (.int .i64 low98), (.bool (decide ((IntKind.wrap .i64 (high97 - low98)) > 1))), ran100, d101, d102, (.bool (!r110)), .undef, .undef] H111 (by kernel_rfl) ?_
                      refine then_norm ?_
                      refine w_cond (t := (!r110)) rfl (fun hc => ?_) (fun hc => ?_)
                      · replace h := h.1 ((is_not is_raw).t hc)
                        refine w_seq ?_
                        refine w_run [0] ?_
                        refine t_done [(.int .i64 n0), culprits1, set2, (.bool false), (.agg [(.int .i64 r3), (.int .i64 r4)]), (.bool (!((r36 == r3) && ((r37 == r4) && true)))), (.bool (r3 != 0)), (.agg [(.int .i64 r9), (.int .i64 r10)]), (.agg [(.int .i64 r16), (.int .i64 r17)]), (.agg [(.int .i64 r22), (.int .i64 r23)]), (.agg [(.int .i64 r28), (.int .i64 r29)]), (.bool r8), (.int .i64 r14), r15, r21, r27, d45, d46, d47, (.int .i64 i65), (.bool (decide (i65 < n0))), greedy67, d68, (.bool (!r79)), (.int .i64 r82), (.bool (decide (r82 < 0))), .undef, (.int .i64 high97), (.int .i64 low98), (.bool (decide ((IntKind.wrap .i64 (high97 - low98)) > 1))), ran100, d101, d102, (.bool (!r110)), .undef, .undef] H111 (by kernel_rfl) ?_
                        refine then_norm ?_
                        refine w_ret ?_
                        refine then_ret ?_
                        exact body_ret (vs := [(.bool false)]) _ (by kernel_rfl) rfl h
                      · replace h := h.2 ((is_not is_raw).f hc)
                        refine w_skip ?_
                        refine then_norm ?_
                        refine w_seq ?_
                        refine w_run [0] ?_
                        refine t_done [(.int .i64 n0), culprits1, set2, d44, (.agg [(.int .i64 r3), (.int .i64 r4)]), (.bool (!((r36 == r3) && ((r37 == r4) && true)))), (.bool (r3 != 0)), (.agg [(.int .i64 r9), (.int .i64 r10)]), (.agg [(.int .i64 r16), (.int .i64 r17)]), (.agg [(.int .i64 r22), (.int .i64 r23)]), (.agg [(.int .i64 r28), (.int .i64 r29)]), (.bool r8), (.int .i64 r14), r15, r21, r27, d45, d46, d47, (.int .i64 i65), (.bool (decide (i65 < n0))), greedy67, d68, (.bool (!r79)), (.int .i64 r82), (.bool (decide (r82 < 0))), .undef, (.int .i64 high97), (.int .i64 low98), (.bool (decide ((IntKind.wrap .i64 (high97 - low98)) > 1))), ran100, d101, d102, (.bool (!r110)), .empty, .undef] H111 (by kernel_rfl) ?_
                        refine then_norm ?_
                        refine w_seq ?_
                        refine w_block ?_
                        obtain ⟨J113, k114, h0, h⟩ := h
                        refine w_loop (I := fun mI EI HI => ∃ (found116 : AV) (d117 : AV), EI = [(.int .i64 n0), culprits1, set2, d44, (.agg [(.int .i64 r3), (.int .i64 r4)]), (.bool (!((r36 == r3) && ((r37 == r4) && true)))), (.bool (r3 != 0)), (.agg [(.int .i64 r9), (.int .i64 r10)]), (.agg [(.int .i64 r16), (.int .i64 r17)]), (.agg [(.int .i64 r22), (.int .i64 r23)]), (.agg [(.int .i64 r28), (.int .i64 r29)]), (.bool r8), (.int .i64 r14), r15, r21, r27, d45, d46, d47, (.int .i64 i65), (.bool (decide (i65 < n0))), greedy67, d68, (.bool (!r79)), (.int .i64 r82), (.bool (decide (r82 < 0))), .undef, (.int .i64 high97), (.int .i64 low98), (.bool (decide ((IntKind.wrap .i64 (high97 - low98)) > 1))), ran100, d101, d102, (.bool (!r110)), found116, d117] ∧ J113 mI found116 HI) ?_ k114 ⟨_, _, rfl, h0⟩
                        clear h0
                        rintro m115 EI H118 ⟨found116, d117, rfl, hJ⟩
                        replace h := h m115 found116 H118 hJ
                        clear hJ
                        refine w_seq ?_
                        refine w_seq ?_
                        refine w_run [0, 0, 1, 0] ?_
                        refine t_call true nFFailing [culprits1, found116] H118 (by kernel_rfl) h ?_
                        clear h
                        rintro _ H120 ⟨r119, rfl, h⟩
                        refine t_done [(.int .i64 n0), culprits1, set2, d44, (.agg [(.int .i64 r3), (.int .i64 r4)]), (.bool (!((r36 == r3) && ((r37 == r4) && true)))), (.bool (r3 != 0)), (.agg [(.int .i64 r9), (.int .i64 r10)]), (.agg [(.int .i64 r16), (.int .i64 r17)]), (.agg [(.int .i64 r22), (.int .i64 r23)]), (.agg [(.int .i64 r28), (.int .i64 r29)]), (.bool r8), (.int .i64 r14), r15, r21, r27, d45, d46, d47, (.int .i64 i65), (.bool (decide (i65 < n0))), greedy67, d68, (.bool (!r79)), (.int .i64 r82), (.bool (decide (r82 < 0))), .undef, (.int .i64 high97), (.int .i64 low98), (.bool (decide ((IntKind.wrap .i64 (high97 - low98)) > 1))), ran100, d101, d102, (.bool (!r110)), found116, (.bool (!r119))] H120 (by kernel_rfl) ?_
                        refine then_norm ?_
                        refine w_cond (t := (!r119)) rfl (fun hc => ?_) (fun hc => ?_)
                        · replace h := h.1 ((is_not is_raw).t hc)
                          refine w_skip ?_
                          refine then_norm ?_
                          refine w_block ?_
                          refine w_run [0, 0, 0, 1, 1, 0, 1, 0] ?_
                          refine t_call true nFFirstFailing [(.int .i64 n0), culprits1, found116] H120 (by kernel_rfl) h ?_
                          clear h
                          rintro _ H123 ⟨r122, rfl, h⟩
                          obtain ⟨b125, H126, hb⟩ : ∃ b H', NewB H123 1 [(.int .i64 r122)] b H' := ⟨_, _, rfl, rfl⟩
                          replace h := h b125 H126 hb
                          refine t_bs true 1 [(.int .i64 0)] [(0, 1, .loc 0)] 1 [(.int .i64 r122)] [(.int .i64 r122)] b125 H126 H123 (by kernel_rfl) (fill_c (vs := [(.int .i64 r122)]) (size := 1) rfl (by kernel_rfl) (by kernel_rfl) (by kernel_rfl)) hb ?_
                          obtain ⟨a127, H128, ha, h⟩ := h
                          refine t_app true 1 8 (.slice b125 0 1 (some 1)) found116 a127 H128 H126 (by kernel_rfl) ha ?_
                          refine t_done [(.int .i64 n0), culprits1, set2, d44, (.agg [(.int .i64 r3), (.int .i64 r4)]), (.bool (!((r36 == r3) && ((r37 == r4) && true)))), (.bool (r3 != 0)), (.agg [(.int .i64 r9), (.int .i64 r10)]), (.agg [(.int .i64 r16), (.int .i64 r17)]), (.agg [(.int .i64 r22), (.int .i64 r23)]), (.agg [(.int .i64 r28), (.int .i64 r29)]), (.bool r8), (.int .i64 r14), r15, r21, r27, d45, d46, d47, (.int .i64 i65), (.bool (decide (i65 < n0))), greedy67, d68, (.bool (!r79)), (.int .i64 r82), (.bool (decide (r82 < 0))), .undef, (.int .i64 high97), (.int .i64 low98), (.bool (decide ((IntKind.wrap .i64 (high97 - low98)) > 1))), ran100, d101, d102, (.bool (!r110)), a127, (.bool (!r119))] H128 (by kernel_rfl) ?_
                          refine block_norm ?_
                          obtain ⟨m', hm, h⟩ := h
                          refine loop_norm ⟨m', hm, _, _, rfl, h⟩
                        · replace h := h.2 ((is_not is_raw).f hc)
                          refine w_exit ?_
                          refine then_exit ?_
                          refine loop_exit ?_
                          refine block_exit ?_
                          refine then_norm ?_
                          refine w_seq ?_
                          refine w_run [0, 0, 0, 0, 0, 0, 3, 0, 0] ?_
                          refine t_gd (r22 == 0) true (by kernel_rfl) (fun hc => ?_) (fun hc => ?_)
                          · replace h := h.1 (is_eq.t hc)
                            refine t_call true nFEqualInts [r21, found116] H120 (by kernel_rfl) h ?_
                            clear h
                            rintro _ H131 ⟨r130, rfl, h⟩
                            refine t_done [(.int .i64 n0), culprits1, set2, (.bool r130), (.agg [(.int .i64 r3), (.int .i64 r4)]), (.bool (!((r36 == r3) && ((r37 == r4) && true)))), (.bool (r3 != 0)), (.agg [(.int .i64 r9), (.int .i64 r10)]), (.agg [(.int .i64 r16), (.int .i64 r17)]), (.agg [(.int .i64 r22), (.int .i64 r23)]), (.agg [(.int .i64 r28), (.int .i64 r29)]), (.bool r8), (.int .i64 r14), r15, r21, r27, d45, d46, d47, (.int .i64 i65), (.bool (decide (i65 < n0))), greedy67, d68, (.bool (!r79)), (.int .i64 r82), (.bool (decide (r82 < 0))), .undef, (.int .i64 high97), (.int .i64 low98), (.bool (decide ((IntKind.wrap .i64 (high97 - low98)) > 1))), ran100, d101, d102, (.bool (!r110)), found116, (.bool (!r119))] H131 (by kernel_rfl) ?_
                            refine then_norm ?_
                            refine w_ret ?_
                            exact body_ret (vs := [(.bool r130)]) _ (by kernel_rfl) rfl h
                          · replace h := h.2 (is_eq.f hc)
                            refine t_done [(.int .i64 n0), culprits1, set2, (.bool false), (.agg [(.int .i64 r3), (.int .i64 r4)]), (.bool (!((r36 == r3) && ((r37 == r4) && true)))), (.bool (r3 != 0)), (.agg [(.int .i64 r9), (.int .i64 r10)]), (.agg [(.int .i64 r16), (.int .i64 r17)]), (.agg [(.int .i64 r22), (.int .i64 r23)]), (.agg [(.int .i64 r28), (.int .i64 r29)]), (.bool r8), (.int .i64 r14), r15, r21, r27, d45, d46, d47, (.int .i64 i65), (.bool (decide (i65 < n0))), greedy67, d68, (.bool (!r79)), (.int .i64 r82), (.bool (decide (r82 < 0))), .undef, (.int .i64 high97), (.int .i64 low98), (.bool (decide ((IntKind.wrap .i64 (high97 - low98)) > 1))), ran100, d101, d102, (.bool (!r110)), found116, (.bool (!r119))] H120 (by kernel_rfl) ?_
                            refine then_norm ?_
                            refine w_ret ?_
                            exact body_ret (vs := [(.bool false)]) _ (by kernel_rfl) rfl h
                    · replace h := h.1 ((is_or is_ne is_ne).t hc)
                      refine t_gd true false (by kernel_rfl) (fun hn => by cases hn) (fun _ => ?_)
                      refine t_done [(.int .i64 n0), culprits1, set2, d44, (.agg [(.int .i64 r3), (.int .i64 r4)]), (.bool (!((r36 == r3) && ((r37 == r4) && true)))), (.bool (r3 != 0)), (.agg [(.int .i64 r9), (.int .i64 r10)]), (.agg [(.int .i64 r16), (.int .i64 r17)]), (.agg [(.int .i64 r22), (.int .i64 r23)]), (.agg [(.int .i64 r28), (.int .i64 r29)]), (.bool r8), (.int .i64 r14), r15, r21, r27, d45, d46, d47, (.int .i64 i65), (.bool (decide (i65 < n0))), greedy67, d68, (.bool (!r79)), (.int .i64 r82), (.bool (decide (r82 < 0))), .undef, (.int .i64 high97), (.int .i64 low98), (.bool (decide ((IntKind.wrap .i64 (high97 - low98)) > 1))), ran100, d101, d102, (.bool true), .undef, .undef] H103 (by kernel_rfl) ?_
                      refine then_norm ?_
                      refine w_cond (t := true) rfl (fun _ => ?_) (fun hc => by cases hc)
                      refine w_seq ?_
                      refine w_run [0] ?_
                      refine t_done [(.int .i64 n0), culprits1, set2, (.bool false), (.agg [(.int .i64 r3), (.int .i64 r4)]), (.bool (!((r36 == r3) && ((r37 == r4) && true)))), (.bool (r3 != 0)), (.agg [(.int .i64 r9), (.int .i64 r10)]), (.agg [(.int .i64 r16), (.int .i64 r17)]), (.agg [(.int .i64 r22), (.int .i64 r23)]), (.agg [(.int .i64 r28), (.int .i64 r29)]), (.bool r8), (.int .i64 r14), r15, r21, r27, d45, d46, d47, (.int .i64 i65), (.bool (decide (i65 < n0))), greedy67, d68, (.bool (!r79)), (.int .i64 r82), (.bool (decide (r82 < 0))), .undef, (.int .i64 high97), (.int .i64 low98), (.bool (decide ((IntKind.wrap .i64 (high97 - low98)) > 1))), ran100, d101, d102, (.bool true), .undef, .undef] H103 (by kernel_rfl) ?_
                      refine then_norm ?_
                      refine w_ret ?_
                      refine then_ret ?_
                      exact body_ret (vs := [(.bool false)]) _ (by kernel_rfl) rfl h
            · replace h := h.1 (is_ne.t hc)
              refine t_gd true false (by kernel_rfl) (fun hn => by cases hn) (fun _ => ?_)
              refine t_done [(.int .i64 n0), culprits1, set2, d44, (.agg [(.int .i64 r3), (.int .i64 r4)]), (.bool (!((r36 == r3) && ((r37 == r4) && true)))), (.bool (r3 != 0)), (.agg [(.int .i64 r9), (.int .i64 r10)]), (.agg [(.int .i64 r16), (.int .i64 r17)]), (.agg [(.int .i64 r22), (.int .i64 r23)]), (.agg [(.int .i64 r28), (.int .i64 r29)]), (.bool r8), (.int .i64 r14), r15, r21, r27, d45, d46, d47, (.int .i64 i65), (.bool (decide (i65 < n0))), greedy67, d68, (.bool true), .undef, .undef, .undef, .undef, .undef, .undef, .undef, .undef, .undef, .undef, .undef, .undef] H69 (by kernel_rfl) ?_
              refine then_norm ?_
              refine w_cond (t := true) rfl (fun _ => ?_) (fun hc => by cases hc)
              refine w_seq ?_
              refine w_run [0] ?_
              refine t_done [(.int .i64 n0), culprits1, set2, (.bool false), (.agg [(.int .i64 r3), (.int .i64 r4)]), (.bool (!((r36 == r3) && ((r37 == r4) && true)))), (.bool (r3 != 0)), (.agg [(.int .i64 r9), (.int .i64 r10)]), (.agg [(.int .i64 r16), (.int .i64 r17)]), (.agg [(.int .i64 r22), (.int .i64 r23)]), (.agg [(.int .i64 r28), (.int .i64 r29)]), (.bool r8), (.int .i64 r14), r15, r21, r27, d45, d46, d47, (.int .i64 i65), (.bool (decide (i65 < n0))), greedy67, d68, (.bool true), .undef, .undef, .undef, .undef, .undef, .undef, .undef, .undef, .undef, .undef, .undef, .undef] H69 (by kernel_rfl) ?_
              refine then_norm ?_
              refine w_ret ?_
              refine then_ret ?_
              exact body_ret (vs := [(.bool false)]) _ (by kernel_rfl) rfl h
  · replace h := h.1 ((is_not is_raw).t hc)
    refine t_gd true false (by kernel_rfl) (fun hn => by cases hn) (fun _ => ?_)
    refine t_done [(.int .i64 n0), culprits1, set2, (.bool false), (.agg [(.int .i64 r3), (.int .i64 r4)]), (.bool true), .undef, (.agg [(.int .i64 r9), (.int .i64 r10)]), (.agg [(.int .i64 r16), (.int .i64 r17)]), (.agg [(.int .i64 r22), (.int .i64 r23)]), (.agg [(.int .i64 r28), (.int .i64 r29)]), (.bool r8), (.int .i64 r14), r15, r21, r27, .undef, .undef, .undef, .undef, .undef, .undef, .undef, .undef, .undef, .undef, .undef, .undef, .undef, .undef, .undef, .undef, .undef, .undef, .undef, .undef] H34 (by kernel_rfl) ?_
    refine then_norm ?_
    refine w_cond (t := true) rfl (fun _ => ?_) (fun hc => by cases hc)
    refine w_seq ?_
    refine w_run [0] ?_
    refine t_done [(.int .i64 n0), culprits1, set2, (.bool false), (.agg [(.int .i64 r3), (.int .i64 r4)]), (.bool true), .undef, (.agg [(.int .i64 r9), (.int .i64 r10)]), (.agg [(.int .i64 r16), (.int .i64 r17)]), (.agg [(.int .i64 r22), (.int .i64 r23)]), (.agg [(.int .i64 r28), (.int .i64 r29)]), (.bool r8), (.int .i64 r14), r15, r21, r27, .undef, .undef, .undef, .undef, .undef, .undef, .undef, .undef, .undef, .undef, .undef, .undef, .undef, .undef, .undef, .undef, .undef, .undef, .undef, .undef] H34 (by kernel_rfl) ?_
    refine then_norm ?_
    refine w_ret ?_
    refine then_ret ?_
    exact body_ret (vs := [(.bool false)]) _ (by kernel_rfl) rfl h

end Go.RM
