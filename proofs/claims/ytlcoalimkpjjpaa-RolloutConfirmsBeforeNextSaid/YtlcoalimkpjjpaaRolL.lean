import Derived.Test.YtlcoalimkpjjpaaRmVc
/-
  Functions of the program as the abstract machine runs them, and what must be shown of a run: printed by RmPrint.
-/
namespace Go.RM
set_option linter.unusedVariables false
set_option maxRecDepth 4000
def rf_LRolloutFunctionsMatchSpec (nrollout_Run nrollout_Versions nLrolloutExample nFFault nFCountsValid nFDeployment_Step nFDeployment_State nFEqualRings nFEqualInts : Nat) : RFunc := ⟨5, 29, [.var 5],
 ((.seq (.ops [⟨.tomb 1 (.var 1), none, (some 6), true⟩, ⟨.move (.k (.bool false)), none, (some 5), true⟩])
 ((.seq (.ops [⟨.move (.var 0), none, none, true⟩, ⟨.field 0 (some 2) (.var 6), none, none, true⟩, ⟨.move (.var 2), none, none, true⟩, ⟨.move (.var 3), none, none, true⟩, ⟨.move (.var 4), none, none, true⟩, ⟨.callS nrollout_Run [(.loc 0), (.loc 1), (.loc 2), (.loc 3), (.loc 4)], none, none, true⟩, ⟨.move (.loc 5), none, none, true⟩, ⟨.extract (.loc 6) 0, none, none, true⟩, ⟨.extract (.loc 6) 1, none, none, true⟩, ⟨.tomb 1 (.k (.agg [.int .i64 0, .int .i64 0])), none, (some 19), true⟩, ⟨.move (.loc 7), none, (some 21), true⟩, ⟨.upd 2 0 (.loc 9) (.loc 8), none, (some 19), true⟩])
 ((.seq (.ops [⟨.move (.var 0), none, none, true⟩, ⟨.field 0 (some 2) (.var 6), none, none, true⟩, ⟨.move (.var 2), none, none, true⟩, ⟨.move (.var 3), none, none, true⟩, ⟨.move (.var 4), none, none, true⟩, ⟨.callS nrollout_Versions [(.loc 0), (.loc 1), (.loc 2), (.loc 3), (.loc 4)], none, none, true⟩, ⟨.move (.loc 5), none, none, true⟩, ⟨.extract (.loc 6) 0, none, none, true⟩, ⟨.extract (.loc 6) 1, none, none, true⟩, ⟨.tomb 1 (.k (.agg [.int .i64 0, .int .i64 0])), none, (some 20), true⟩, ⟨.move (.loc 7), none, (some 22), true⟩, ⟨.upd 2 0 (.loc 9) (.loc 8), none, (some 20), true⟩])
 ((.seq ((.seq (.ops [⟨.callS nLrolloutExample [], none, none, true⟩, ⟨.un .not (.loc 0), none, (some 7), true⟩])
 (.cond (.var 7) ((.seq (.ops [⟨.move (.k (.bool false)), none, (some 5), true⟩])
 (.ret))) (.skip))))
 ((.seq (.ops [⟨.build [.int .i64 0, .int .i64 0] [], none, none, true⟩, ⟨.tomb 1 (.k (.agg [.int .i64 0, .int .i64 0])), none, (some 9), true⟩, ⟨.upd 2 0 (.loc 1) (.loc 0), none, (some 9), true⟩])
 ((.seq ((.seq (.ops [⟨.move (.var 0), none, none, true⟩, ⟨.bin .lss .no (.loc 0) (.k (.int .i64 1)), none, none, true⟩, ⟨.move (.loc 1), none, none, true⟩, ⟨.move (.var 0), none, none, true⟩, ⟨.bin .gtr .no (.loc 3) (.k (.int .i64 5)), none, none, true⟩, ⟨.pick (.loc 2) (.k (.bool true)) (.loc 4), none, (some 8), true⟩])
 (.cond (.var 8) (.ops [⟨.callS nFFault [(.k (.int .i64 3)), (.k (.int .i64 (-2)))], none, none, true⟩, ⟨.upd 2 0 (.var 9) (.loc 0), none, (some 9), true⟩]) ((.seq (.ops [⟨.field 0 (some 2) (.var 6), none, none, true⟩, ⟨.callS nFCountsValid [(.loc 0)], none, none, true⟩, ⟨.un .not (.loc 1), none, none, true⟩, ⟨.move (.loc 2), none, none, true⟩, ⟨.move (.var 2), none, none, true⟩, ⟨.bin .lss .no (.loc 4) (.k (.int .i64 0)), none, none, true⟩, ⟨.pick (.loc 3) (.k (.bool true)) (.loc 5), none, none, true⟩, ⟨.move (.loc 6), none, none, true⟩, ⟨.move (.var 2), none, none, true⟩, ⟨.bin .gtr .no (.loc 8) (.k (.int .i64 25)), none, none, true⟩, ⟨.pick (.loc 7) (.k (.bool true)) (.loc 9), none, none, true⟩, ⟨.move (.loc 10), none, none, true⟩, ⟨.move (.var 3), none, none, true⟩, ⟨.bin .lss .no (.loc 12) (.k (.int .i64 0)), none, none, true⟩, ⟨.pick (.loc 11) (.k (.bool true)) (.loc 13), none, none, true⟩, ⟨.move (.loc 14), none, none, true⟩, ⟨.move (.var 3), none, none, true⟩, ⟨.bin .geq .no (.loc 16) (.k (.int .i64 1000)), none, none, true⟩, ⟨.pick (.loc 15) (.k (.bool true)) (.loc 17), none, (some 10), true⟩])
 (.cond (.var 10) (.ops [⟨.callS nFFault [(.k (.int .i64 3)), (.k (.int .i64 (-3)))], none, none, true⟩, ⟨.upd 2 0 (.var 9) (.loc 0), none, (some 9), true⟩]) ((.seq (.ops [⟨.move (.var 4), none, none, true⟩, ⟨.len (.loc 0), none, none, true⟩, ⟨.bin .gtr .no (.loc 1) (.k (.int .i64 40)), none, (some 11), true⟩])
 (.cond (.var 11) (.ops [⟨.callS nFFault [(.k (.int .i64 2)), (.k (.int .i64 (-1)))], none, none, true⟩, ⟨.upd 2 0 (.var 9) (.loc 0), none, (some 9), true⟩]) (.skip))))))))))
 ((.seq (.ops [⟨.move (.var 0), none, none, true⟩, ⟨.field 0 (some 2) (.var 6), none, none, true⟩, ⟨.move (.var 2), none, none, true⟩, ⟨.move (.var 3), none, none, true⟩, ⟨.build [.int .i64 0, .int .i64 0, .int .i64 0, .int .i64 0, .int .i64 0, .empty, .empty, .empty] [(0, 1, (.loc 0)), (1, 2, (.loc 1)), (3, 1, (.loc 2)), (4, 1, (.loc 3))], none, none, true⟩, ⟨.tomb 1 (.k (.agg [.int .i64 0, .int .i64 0, .int .i64 0, .int .i64 0, .int .i64 0, .empty, .empty, .empty])), none, (some 14), true⟩, ⟨.upd 8 0 (.loc 5) (.loc 4), none, (some 14), true⟩])
 ((.seq ((.seq (.ops [⟨.move (.k (.int .i64 0)), none, (some 12), true⟩])
 (.block 0 (.loop ((.seq ((.seq (.ops [⟨.move (.var 12), none, none, true⟩, ⟨.move (.var 4), none, none, true⟩, ⟨.len (.loc 1), none, none, true⟩, ⟨.bin .lss .no (.loc 0) (.loc 2), none, none, true⟩, ⟨.move (.loc 3), none, none, true⟩, ⟨.field 0 none (.var 9), none, none, true⟩, ⟨.field 0 none (.var 9), none, none, true⟩, ⟨.bin .eql .no (.loc 6) (.k (.int .i64 0)), none, none, true⟩, ⟨.pick (.loc 4) (.loc 7) (.k (.bool false)), none, (some 13), true⟩])
 (.cond (.var 13) (.skip) (.exit 0))))
 ((.seq (.block 1 ((.seq (.ops [⟨.field 0 (some 8) (.var 14), none, none, false⟩, ⟨.move (.var 4), none, none, false⟩, ⟨.move (.var 12), none, none, false⟩, ⟨.indexAddr 5 (.loc 1) (.loc 2), none, none, false⟩, ⟨.load (some 5) (.loc 3), none, none, false⟩, ⟨.callS nFDeployment_Step [(.loc 0), (.loc 4)], none, none, false⟩, ⟨.move (.loc 5), none, none, false⟩, ⟨.extract (.loc 6) 0, none, none, false⟩, ⟨.extract (.loc 6) 1, none, none, false⟩, ⟨.tomb 1 (.k (.agg [.int .i64 0, .int .i64 0, .int .i64 0, .int .i64 0, .int .i64 0, .empty, .empty, .empty])), none, (some 15), false⟩, ⟨.upd 8 0 (.loc 9) (.loc 7), none, (some 15), true⟩, ⟨.move (.loc 8), none, (some 16), true⟩])
 ((.seq (.ops [⟨.field 0 (some 8) (.var 15), none, none, true⟩, ⟨.upd 8 0 (.var 14) (.loc 0), none, (some 14), true⟩])
 ((.seq (.ops [⟨.move (.var 16), none, none, true⟩, ⟨.bin .neq .no (.loc 0) (.k (.int .i64 0)), none, (some 17), true⟩])
 (.cond (.var 17) (.ops [⟨.move (.var 16), none, none, true⟩, ⟨.move (.var 12), none, none, true⟩, ⟨.callS nFFault [(.loc 0), (.loc 1)], none, none, true⟩, ⟨.upd 2 0 (.var 9) (.loc 2), none, (some 9), true⟩]) (.skip)))))))))
 (.ops [⟨.move (.var 12), none, none, true⟩, ⟨.bin .add .no (.loc 0) (.k (.int .i64 1)), none, none, true⟩, ⟨.move (.loc 1), none, (some 12), true⟩])))))))))
 ((.seq ((.seq (.ops [⟨.field 0 none (.var 9), none, none, true⟩, ⟨.field 0 none (.var 9), none, none, true⟩, ⟨.bin .neq .no (.loc 1) (.k (.int .i64 0)), none, (some 18), true⟩])
 (.cond (.var 18) ((.seq (.ops [⟨.field 0 (some 2) (.var 19), none, none, true⟩, ⟨.field 0 (some 2) (.var 9), none, none, true⟩, ⟨.bin .eql (.agg [.int, .int]) (.loc 0) (.loc 1), none, none, true⟩, ⟨.move (.loc 2), none, none, true⟩, ⟨.field 0 (some 2) (.var 20), none, none, true⟩, ⟨.field 0 (some 2) (.var 9), none, none, true⟩, ⟨.bin .eql (.agg [.int, .int]) (.loc 4) (.loc 5), none, none, true⟩, ⟨.pick (.loc 3) (.loc 6) (.k (.bool false)), none, none, true⟩, ⟨.move (.loc 7), none, none, true⟩, ⟨.move (.var 21), none, none, true⟩, ⟨.len (.loc 9), none, none, true⟩, ⟨.bin .eql .no (.loc 10) (.k (.int .i64 0)), none, none, true⟩, ⟨.pick (.loc 8) (.loc 11) (.k (.bool false)), none, none, true⟩, ⟨.move (.loc 12), none, none, true⟩, ⟨.move (.var 22), none, none, true⟩, ⟨.len (.loc 14), none, none, true⟩, ⟨.bin .eql .no (.loc 15) (.k (.int .i64 0)), none, none, true⟩, ⟨.pick (.loc 13) (.loc 16) (.k (.bool false)), none, none, true⟩, ⟨.move (.loc 17), none, (some 5), true⟩])
 (.ret))) (.skip))))
 ((.seq (.ops [⟨.move (.k (.empty)), none, (some 28), true⟩])
 ((.seq (.ops [⟨.field 0 (some 8) (.var 14), none, none, true⟩, ⟨.callS nFDeployment_State [(.loc 0)], none, none, true⟩, ⟨.move (.loc 1), none, (some 24), true⟩])
 ((.seq ((.seq (.ops [⟨.move (.k (.int .i64 0)), none, (some 23), true⟩])
 (.block 2 (.loop ((.seq ((.seq (.ops [⟨.move (.var 23), none, none, true⟩, ⟨.move (.var 24), none, none, true⟩, ⟨.len (.loc 1), none, none, true⟩, ⟨.bin .lss .no (.loc 0) (.loc 2), none, (some 25), true⟩])
 (.cond (.var 25) (.skip) (.exit 2))))
 ((.seq (.block 3 ((.seq (.ops [⟨.move (.var 24), none, none, true⟩, ⟨.move (.var 23), none, none, true⟩, ⟨.indexAddr 4 (.loc 0) (.loc 1), none, none, true⟩, ⟨.fieldAddr 1 (.loc 2), none, none, true⟩, ⟨.load none (.loc 3), none, none, true⟩, ⟨.move (.loc 4), none, (some 26), true⟩])
 ((.seq ((.seq (.ops [⟨.move (.var 26), none, none, true⟩, ⟨.bin .eql .no (.loc 0) (.k (.int .i64 0)), none, none, true⟩, ⟨.move (.loc 1), none, none, true⟩, ⟨.move (.var 24), none, none, true⟩, ⟨.move (.var 23), none, none, true⟩, ⟨.indexAddr 4 (.loc 3) (.loc 4), (some (2, true)), none, true⟩, ⟨.fieldAddr 0 (.loc 5), (some (2, true)), none, true⟩, ⟨.load none (.loc 6), (some (2, true)), none, true⟩, ⟨.len (.loc 7), (some (2, true)), none, true⟩, ⟨.bin .gtr .no (.loc 8) (.k (.int .i64 0)), (some (2, true)), none, true⟩, ⟨.pick (.loc 2) (.loc 9) (.k (.bool false)), none, (some 27), true⟩])
 (.cond (.var 27) (.ops [⟨.move (.var 24), none, none, false⟩, ⟨.move (.var 23), none, none, false⟩, ⟨.indexAddr 4 (.loc 0) (.loc 1), none, none, false⟩, ⟨.fieldAddr 0 (.loc 2), none, none, false⟩, ⟨.load none (.loc 3), none, none, false⟩, ⟨.move (.var 24), none, none, false⟩, ⟨.move (.var 23), none, none, false⟩, ⟨.indexAddr 4 (.loc 5) (.loc 6), none, none, false⟩, ⟨.fieldAddr 0 (.loc 7), none, none, false⟩, ⟨.load none (.loc 8), none, none, false⟩, ⟨.len (.loc 9), none, none, false⟩, ⟨.bin .sub .no (.loc 10) (.k (.int .i64 1)), none, none, false⟩, ⟨.indexAddr 1 (.loc 4) (.loc 11), none, none, true⟩, ⟨.load none (.loc 12), none, none, true⟩, ⟨.move (.loc 13), none, (some 26), true⟩]) (.skip))))
 (.ops [⟨.move (.var 28), none, none, true⟩, ⟨.move (.var 26), none, none, true⟩, ⟨.buildSlice 1 [.int .i64 0] [(0, 1, (.loc 1))] 1, none, none, true⟩, ⟨.append 1 8 (.loc 0) (.loc 2), none, none, true⟩, ⟨.move (.loc 3), none, (some 28), true⟩]))))))
 (.ops [⟨.move (.var 23), none, none, true⟩, ⟨.bin .add .no (.loc 0) (.k (.int .i64 1)), none, none, true⟩, ⟨.move (.loc 1), none, (some 23), true⟩])))))))))
 ((.seq (.ops [⟨.field 0 none (.var 19), none, none, true⟩, ⟨.field 0 none (.var 19), none, none, true⟩, ⟨.bin .eql .no (.loc 1) (.k (.int .i64 0)), none, none, true⟩, ⟨.move (.loc 2), none, none, true⟩, ⟨.field 0 none (.var 20), none, none, true⟩, ⟨.field 0 none (.var 20), none, none, true⟩, ⟨.bin .eql .no (.loc 5) (.k (.int .i64 0)), none, none, true⟩, ⟨.pick (.loc 3) (.loc 6) (.k (.bool false)), none, none, true⟩, ⟨.move (.loc 7), none, none, true⟩, ⟨.move (.var 21), none, none, true⟩, ⟨.move (.var 24), none, none, true⟩, ⟨.callS nFEqualRings [(.loc 9), (.loc 10)], (some (8, true)), none, true⟩, ⟨.pick (.loc 8) (.loc 11) (.k (.bool false)), none, none, true⟩, ⟨.move (.loc 12), none, none, true⟩, ⟨.move (.var 22), none, none, true⟩, ⟨.move (.var 28), none, none, true⟩, ⟨.callS nFEqualInts [(.loc 14), (.loc 15)], (some (13, true)), none, true⟩, ⟨.pick (.loc 13) (.loc 16) (.k (.bool false)), none, none, true⟩, ⟨.move (.loc 17), none, (some 5), true⟩])
 (.ret)))))))))))))))))))))))))))⟩
def rf_LRolloutConfirmsBeforeNext (nrollout_Run nLrolloutExample nFHas : Nat) : RFunc := ⟨5, 17, [.var 5],
 ((.seq (.ops [⟨.tomb 1 (.var 1), none, (some 6), true⟩, ⟨.move (.k (.bool false)), none, (some 5), true⟩])
 ((.seq (.ops [⟨.move (.var 0), none, none, true⟩, ⟨.field 0 (some 2) (.var 6), none, none, true⟩, ⟨.move (.var 2), none, none, true⟩, ⟨.move (.var 3), none, none, true⟩, ⟨.move (.var 4), none, none, true⟩, ⟨.callS nrollout_Run [(.loc 0), (.loc 1), (.loc 2), (.loc 3), (.loc 4)], none, none, true⟩, ⟨.move (.loc 5), none, none, true⟩, ⟨.extract (.loc 6) 0, none, none, true⟩, ⟨.extract (.loc 6) 1, none, none, true⟩, ⟨.tomb 1 (.k (.agg [.int .i64 0, .int .i64 0])), none, (some 8), true⟩, ⟨.move (.loc 7), none, (some 10), true⟩, ⟨.upd 2 0 (.loc 9) (.loc 8), none, (some 8), true⟩])
 ((.seq ((.seq (.ops [⟨.callS nLrolloutExample [], none, none, true⟩, ⟨.un .not (.loc 0), none, (some 7), true⟩])
 (.cond (.var 7) ((.seq (.ops [⟨.move (.k (.bool false)), none, (some 5), true⟩])
 (.ret))) (.skip))))
 ((.seq ((.seq (.ops [⟨.move (.k (.int .i64 0)), none, (some 9), true⟩])
 (.block 0 (.loop ((.seq ((.seq (.ops [⟨.field 0 none (.var 8), none, none, true⟩, ⟨.field 0 none (.var 8), none, none, true⟩, ⟨.bin .eql .no (.loc 1) (.k (.int .i64 0)), none, none, true⟩, ⟨.move (.loc 2), none, none, true⟩, ⟨.move (.var 9), none, none, true⟩, ⟨.move (.var 10), none, none, true⟩, ⟨.len (.loc 5), none, none, true⟩, ⟨.bin .lss .no (.loc 4) (.loc 6), none, none, true⟩, ⟨.pick (.loc 3) (.loc 7) (.k (.bool false)), none, (some 11), true⟩])
 (.cond (.var 11) (.skip) (.exit 0))))
 ((.seq (.block 1 ((.seq ((.seq (.ops [⟨.move (.k (.int .i64 0)), none, (some 12), true⟩])
 (.block 2 (.loop ((.seq ((.seq (.ops [⟨.move (.var 12), none, none, true⟩, ⟨.move (.var 10), none, none, true⟩, ⟨.move (.var 9), none, none, true⟩, ⟨.indexAddr 4 (.loc 1) (.loc 2), none, none, true⟩, ⟨.fieldAddr 0 (.loc 3), none, none, true⟩, ⟨.load none (.loc 4), none, none, true⟩, ⟨.len (.loc 5), none, none, true⟩, ⟨.bin .lss .no (.loc 0) (.loc 6), none, (some 13), true⟩])
 (.cond (.var 13) (.skip) (.exit 2))))
 ((.seq (.block 3 ((.seq (.ops [⟨.move (.var 12), none, none, true⟩, ⟨.bin .gtr .no (.loc 0) (.k (.int .i64 0)), none, none, true⟩, ⟨.move (.loc 1), none, none, true⟩, ⟨.move (.var 10), (some (2, true)), none, false⟩, ⟨.move (.var 9), (some (2, true)), none, false⟩, ⟨.indexAddr 4 (.loc 3) (.loc 4), (some (2, true)), none, false⟩, ⟨.fieldAddr 0 (.loc 5), (some (2, true)), none, false⟩, ⟨.load none (.loc 6), (some (2, true)), none, false⟩, ⟨.move (.var 12), (some (2, true)), none, false⟩, ⟨.indexAddr 1 (.loc 7) (.loc 8), (some (2, true)), none, false⟩, ⟨.load none (.loc 9), (some (2, true)), none, false⟩, ⟨.move (.var 10), (some (2, true)), none, false⟩, ⟨.move (.var 9), (some (2, true)), none, false⟩, ⟨.indexAddr 4 (.loc 11) (.loc 12), (some (2, true)), none, false⟩, ⟨.fieldAddr 0 (.loc 13), (some (2, true)), none, false⟩, ⟨.load none (.loc 14), (some (2, true)), none, false⟩, ⟨.move (.var 12), (some (2, true)), none, false⟩, ⟨.bin .sub .no (.loc 16) (.k (.int .i64 1)), (some (2, true)), none, false⟩, ⟨.indexAddr 1 (.loc 15) (.loc 17), (some (2, true)), none, false⟩, ⟨.load none (.loc 18), (some (2, true)), none, false⟩, ⟨.bin .leq .no (.loc 10) (.loc 19), (some (2, true)), none, true⟩, ⟨.pick (.loc 2) (.loc 20) (.k (.bool false)), none, none, true⟩, ⟨.move (.loc 21), none, none, true⟩, ⟨.move (.var 9), (some (22, false)), none, true⟩, ⟨.bin .gtr .no (.loc 23) (.k (.int .i64 0)), (some (22, false)), none, true⟩, ⟨.move (.loc 24), (some (22, false)), none, true⟩, ⟨.move (.var 10), (some (25, true)), none, false⟩, ⟨.move (.var 9), (some (25, true)), none, false⟩, ⟨.bin .sub .no (.loc 27) (.k (.int .i64 1)), (some (25, true)), none, false⟩, ⟨.indexAddr 4 (.loc 26) (.loc 28), (some (25, true)), none, false⟩, ⟨.fieldAddr 0 (.loc 29), (some (25, true)), none, false⟩, ⟨.load none (.loc 30), (some (25, true)), none, false⟩, ⟨.move (.var 10), (some (25, true)), none, false⟩, ⟨.move (.var 9), (some (25, true)), none, false⟩, ⟨.indexAddr 4 (.loc 32) (.loc 33), (some (25, true)), none, false⟩, ⟨.fieldAddr 0 (.loc 34), (some (25, true)), none, false⟩, ⟨.load none (.loc 35), (some (25, true)), none, false⟩, ⟨.move (.var 12), (some (25, true)), none, false⟩, ⟨.indexAddr 1 (.loc 36) (.loc 37), (some (25, true)), none, false⟩, ⟨.load none (.loc 38), (some (25, true)), none, false⟩, ⟨.callS nFHas [(.loc 31), (.loc 39)], (some (25, true)), none, true⟩, ⟨.un .not (.loc 40), (some (25, true)), none, true⟩, ⟨.pick (.loc 25) (.loc 41) (.k (.bool false)), (some (22, false)), none, true⟩, ⟨.pick (.loc 22) (.k (.bool true)) (.loc 42), none, (some 14), true⟩])
 (.cond (.var 14) ((.seq (.ops [⟨.move (.k (.bool false)), none, (some 5), true⟩])
 (.ret))) (.skip)))))
 (.ops [⟨.move (.var 12), none, none, true⟩, ⟨.bin .add .no (.loc 0) (.k (.int .i64 1)), none, none, true⟩, ⟨.move (.loc 1), none, (some 12), true⟩])))))))))
 ((.seq ((.seq (.ops [⟨.move (.var 10), none, none, true⟩, ⟨.move (.var 9), none, none, true⟩, ⟨.indexAddr 4 (.loc 0) (.loc 1), none, none, true⟩, ⟨.fieldAddr 1 (.loc 2), none, none, true⟩, ⟨.load none (.loc 3), none, none, true⟩, ⟨.bin .neq .no (.loc 4) (.k (.int .i64 0)), none, none, true⟩, ⟨.move (.loc 5), none, none, true⟩, ⟨.move (.var 10), (some (6, true)), none, false⟩, ⟨.move (.var 9), (some (6, true)), none, false⟩, ⟨.indexAddr 4 (.loc 7) (.loc 8), (some (6, true)), none, false⟩, ⟨.fieldAddr 0 (.loc 9), (some (6, true)), none, false⟩, ⟨.load none (.loc 10), (some (6, true)), none, false⟩, ⟨.move (.var 10), (some (6, true)), none, false⟩, ⟨.move (.var 9), (some (6, true)), none, false⟩, ⟨.indexAddr 4 (.loc 12) (.loc 13), (some (6, true)), none, false⟩, ⟨.fieldAddr 1 (.loc 14), (some (6, true)), none, false⟩, ⟨.load none (.loc 15), (some (6, true)), none, false⟩, ⟨.callS nFHas [(.loc 11), (.loc 16)], (some (6, true)), none, true⟩, ⟨.move (.loc 17), (some (6, true)), none, true⟩, ⟨.move (.var 9), (some (18, false)), none, true⟩, ⟨.bin .gtr .no (.loc 19) (.k (.int .i64 0)), (some (18, false)), none, true⟩, ⟨.move (.loc 20), (some (18, false)), none, true⟩, ⟨.move (.var 10), (some (21, true)), none, false⟩, ⟨.move (.var 9), (some (21, true)), none, false⟩, ⟨.bin .sub .no (.loc 23) (.k (.int .i64 1)), (some (21, true)), none, false⟩, ⟨.indexAddr 4 (.loc 22) (.loc 24), (some (21, true)), none, false⟩, ⟨.fieldAddr 0 (.loc 25), (some (21, true)), none, false⟩, ⟨.load none (.loc 26), (some (21, true)), none, false⟩, ⟨.move (.var 10), (some (21, true)), none, false⟩, ⟨.move (.var 9), (some (21, true)), none, false⟩, ⟨.indexAddr 4 (.loc 28) (.loc 29), (some (21, true)), none, false⟩, ⟨.fieldAddr 1 (.loc 30), (some (21, true)), none, false⟩, ⟨.load none (.loc 31), (some (21, true)), none, false⟩, ⟨.callS nFHas [(.loc 27), (.loc 32)], (some (21, true)), none, true⟩, ⟨.un .not (.loc 33), (some (21, true)), none, true⟩, ⟨.pick (.loc 21) (.loc 34) (.k (.bool false)), (some (18, false)), none, true⟩, ⟨.pick (.loc 18) (.k (.bool true)) (.loc 35), (some (6, true)), none, true⟩, ⟨.pick (.loc 6) (.loc 36) (.k (.bool false)), none, (some 15), true⟩])
 (.cond (.var 15) ((.seq (.ops [⟨.move (.k (.bool false)), none, (some 5), true⟩])
 (.ret))) (.skip))))
 ((.seq (.ops [⟨.move (.var 10), none, none, true⟩, ⟨.move (.var 9), none, none, true⟩, ⟨.indexAddr 4 (.loc 0) (.loc 1), none, none, true⟩, ⟨.fieldAddr 1 (.loc 2), none, none, true⟩, ⟨.load none (.loc 3), none, none, true⟩, ⟨.bin .eql .no (.loc 4) (.k (.int .i64 0)), none, none, true⟩, ⟨.move (.loc 5), none, none, true⟩, ⟨.move (.var 10), none, none, true⟩, ⟨.move (.var 9), none, none, true⟩, ⟨.indexAddr 4 (.loc 7) (.loc 8), (some (6, true)), none, true⟩, ⟨.fieldAddr 2 (.loc 9), (some (6, true)), none, true⟩, ⟨.fieldAddr 0 (.loc 10), (some (6, true)), none, true⟩, ⟨.load none (.loc 11), (some (6, true)), none, true⟩, ⟨.bin .neq .no (.loc 12) (.k (.int .i64 0)), (some (6, true)), none, true⟩, ⟨.move (.loc 13), (some (6, true)), none, true⟩, ⟨.move (.var 10), none, none, true⟩, ⟨.move (.var 9), none, none, true⟩, ⟨.indexAddr 4 (.loc 15) (.loc 16), (some (14, false)), none, true⟩, ⟨.fieldAddr 2 (.loc 17), (some (14, false)), none, true⟩, ⟨.fieldAddr 1 (.loc 18), (some (14, false)), none, true⟩, ⟨.load none (.loc 19), (some (14, false)), none, true⟩, ⟨.bin .neq .no (.loc 20) (.k (.int .i64 0)), (some (14, false)), none, true⟩, ⟨.pick (.loc 14) (.k (.bool true)) (.loc 21), (some (6, true)), none, true⟩, ⟨.pick (.loc 6) (.loc 22) (.k (.bool false)), none, (some 16), true⟩])
 (.cond (.var 16) ((.seq (.ops [⟨.move (.k (.bool false)), none, (some 5), true⟩])
 (.ret))) (.skip)))))))))
 (.ops [⟨.move (.var 9), none, none, true⟩, ⟨.bin .add .no (.loc 0) (.k (.int .i64 1)), none, none, true⟩, ⟨.move (.loc 1), none, (some 9), true⟩])))))))))
 ((.seq (.ops [⟨.move (.k (.bool true)), none, (some 5), true⟩])
 (.ret)))))))))))⟩
theorem v_LRolloutConfirmsBeforeNext {F : Nat → Option RFunc} {me nrollout_Run nLrolloutExample nFHas : Nat} (hF : F me = some (rf_LRolloutConfirmsBeforeNext nrollout_Run nLrolloutExample nFHas)) {fl : Nat} {H : Heap} {Q : AV → Heap → Prop} (rings0 : Int) (base1 : Int) (base2 : Int) (need3 : Int) (perMille4 : Int) (events5 : AV)
  (h : ∀ (H6 : Heap), Dead1 H 1 H6 → Ret F fl nrollout_Run [(.int .i64 rings0), (.agg [(.int .i64 base1), (.int .i64 base2)]), (.int .i64 need3), (.int .i64 perMille4), events5] H6 (fun v11 H10 => ∃ (r7 : AV) (r8 : Int) (r9 : Int), v11 = (.tuple [r7, (.agg [(.int .i64 r8), (.int .i64 r9)])]) ∧ ∀ (H12 : Heap), Dead1 H10 1 H12 → Ret F fl nLrolloutExample [] H12 (fun v15 H14 => ∃ (r13 : Bool), v15 = (.bool r13) ∧ ((¬(r13 = true)) → Q (.bool false) H14) ∧ (¬(¬(r13 = true)) → ∃ (J16 : Nat → Int → Heap → Prop) (k17 : Nat), J16 k17 0 H14 ∧ (∀ (m18 : Nat) (i20 : Int) (H27 : Heap), J16 m18 i20 H27 → ∃ len28 : Nat, lenA r7 = some len28 ∧ ((((r8 = 0) ∧ (i20 < (len28 : Int)))) → ∃ (J29 : Nat → Int → Heap → Prop) (k30 : Nat), J29 k30 0 H27 ∧ (∀ (m31 : Nat) (k33 : Int) (H36 : Heap), J29 m31 k33 H36 → ∃ (e37 : AV), getA H36 4 none r7 i20 0 = some e37 ∧ ∃ len39 : Nat, lenA e37 = some len39 ∧ ((k33 < (len39 : Int)) → ((k33 > 0) → ∃ (e40 : AV), getA H36 4 none r7 i20 0 = some e40 ∧ ∃ (e42 : Int), getA H36 1 none e40 k33 0 = some (.int .i64 e42) ∧ ∃ (e44 : AV), getA H36 4 none r7 i20 0 = some e44 ∧ ∃ (e46 : Int), getA H36 1 none e44 (IntKind.wrap .i64 (k33 - 1)) 0 = some (.int .i64 e46) ∧ ((e42 ≤ e46) → Q (.bool false) H36) ∧ (¬(e42 ≤ e46) → ((i20 > 0) → ∃ (e48 : AV), getA H36 4 none r7 (IntKind.wrap .i64 (i20 - 1)) 0 = some e48 ∧ ∃ (e50 : AV), getA H36 4 none r7 i20 0 = some e50 ∧ ∃ (e52 : Int), getA H36 1 none e50 k33 0 = some (.int .i64 e52) ∧ Ret F fl nFHas [e48, (.int .i64 e52)] H36 (fun v56 H55 => ∃ (r54 : Bool), v56 = (.bool r54) ∧ ((¬(r54 = true)) → Q (.bool false) H55) ∧ (¬(¬(r54 = true)) → ∃ m57 : Nat, m57 < m31 ∧ J29 m57 (IntKind.wrap .i64 (k33 + 1)) H55))) ∧ (¬(i20 > 0) → ∃ m58 : Nat, m58 < m31 ∧ J29 m58 (IntKind.wrap .i64 (k33 + 1)) H36))) ∧ (¬(k33 > 0) → ((i20 > 0) → ∃ (e59 : AV), getA H36 4 none r7 (IntKind.wrap .i64 (i20 - 1)) 0 = some e59 ∧ ∃ (e61 : AV), getA H36 4 none r7 i20 0 = some e61 ∧ ∃ (e63 : Int), getA H36 1 none e61 k33 0 = some (.int .i64 e63) ∧ Ret F fl nFHas [e59, (.int .i64 e63)] H36 (fun v67 H66 => ∃ (r65 : Bool), v67 = (.bool r65) ∧ ((¬(r65 = true)) → Q (.bool false) H66) ∧ (¬(¬(r65 = true)) → ∃ m68 : Nat, m68 < m31 ∧ J29 m68 (IntKind.wrap .i64 (k33 + 1)) H66))) ∧ (¬(i20 > 0) → ∃ m69 : Nat, m69 < m31 ∧ J29 m69 (IntKind.wrap .i64 (k33 + 1)) H36))) ∧ (¬(k33 < (len39 : Int)) → ∃ (e70 : Int), getA H36 4 none r7 i20 1 = some (.int .i64 e70) ∧ ((e70 ≠ 0) → ∃ (e72 : AV), getA H36 4 none r7 i20 0 = some e72 ∧ ∃ (e74 : Int), getA H36 4 none r7 i20 1 = some (.int .i64 e74) ∧ Ret F fl nFHas [e72, (.int .i64 e74)] H36 (fun v78 H77 => ∃ (r76 : Bool), v78 = (.bool r76) ∧ ((r76 = true) → Q (.bool false) H77) ∧ (¬(r76 = true) → ((i20 > 0) → ∃ (e79 : AV), getA H77 4 none r7 (IntKind.wrap .i64 (i20 - 1)) 0 = some e79 ∧ ∃ (e81 : Int), getA H77 4 none r7 i20 1 = some (.int .i64 e81) ∧ Ret F fl nFHas [e79, (.int .i64 e81)] H77 (fun v85 H84 => ∃ (r83 : Bool), v85 = (.bool r83) ∧ ((¬(r83 = true)) → Q (.bool false) H84) ∧ (¬(¬(r83 = true)) → ∃ (e86 : Int), getA H84 4 none r7 i20 1 = some (.int .i64 e86) ∧ ((e86 = 0) → ∃ (e88 : Int), getA H84 4 none r7 i20 2 = some (.int .i64 e88) ∧ ((e88 ≠ 0) → Q (.bool false) H84) ∧ (¬(e88 ≠ 0) → ∃ (e90 : Int), getA H84 4 none r7 i20 3 = some (.int .i64 e90) ∧ ((e90 ≠ 0) → Q (.bool false) H84) ∧ (¬(e90 ≠ 0) → ∃ m92 : Nat, m92 < m18 ∧ J16 m92 (IntKind.wrap .i64 (i20 + 1)) H84))) ∧ (¬(e86 = 0) → ∃ m93 : Nat, m93 < m18 ∧ J16 m93 (IntKind.wrap .i64 (i20 + 1)) H84)))) ∧ (¬(i20 > 0) → ∃ (e94 : Int), getA H77 4 none r7 i20 1 = some (.int .i64 e94) ∧ ((e94 = 0) → ∃ (e96 : Int), getA H77 4 none r7 i20 2 = some (.int .i64 e96) ∧ ((e96 ≠ 0) → Q (.bool false) H77) ∧ (¬(e96 ≠ 0) → ∃ (e98 : Int), getA H77 4 none r7 i20 3 = some (.int .i64 e98) ∧ ((e98 ≠ 0) → Q (.bool false) H77) ∧ (¬(e98 ≠ 0) → ∃ m100 : Nat, m100 < m18 ∧ J16 m100 (IntKind.wrap .i64 (i20 + 1)) H77))) ∧ (¬(e94 = 0) → ∃ m101 : Nat, m101 < m18 ∧ J16 m101 (IntKind.wrap .i64 (i20 + 1)) H77))))) ∧ (¬(e70 ≠ 0) → ∃ (e102 : Int), getA H36 4 none r7 i20 1 = some (.int .i64 e102) ∧ ((e102 = 0) → ∃ (e104 : Int), getA H36 4 none r7 i20 2 = some (.int .i64 e104) ∧ ((e104 ≠ 0) → Q (.bool false) H36) ∧ (¬(e104 ≠ 0) → ∃ (e106 : Int), getA H36 4 none r7 i20 3 = some (.int .i64 e106) ∧ ((e106 ≠ 0) → Q (.bool false) H36) ∧ (¬(e106 ≠ 0) → ∃ m108 : Nat, m108 < m18 ∧ J16 m108 (IntKind.wrap .i64 (i20 + 1)) H36))) ∧ (¬(e102 = 0) → ∃ m109 : Nat, m109 < m18 ∧ J16 m109 (IntKind.wrap .i64 (i20 + 1)) H36))))) ∧ (¬(((r8 = 0) ∧ (i20 < (len28 : Int)))) → Q (.bool true) H27)))))) : Ret F fl me [(.int .i64 rings0), (.agg [(.int .i64 base1), (.int .i64 base2)]), (.int .i64 need3), (.int .i64 perMille4), events5] H Q := by
  refine ret_intro hF rfl ?_
  refine w_seq ?_
  refine w_run [1, 0] ?_
  obtain ⟨H6, hb⟩ : ∃ H', Dead1 H 1 H' := ⟨_, ⟨rfl⟩⟩
  replace h := h H6 hb
  refine t_tomb true 1 (.agg [(.int .i64 base1), (.int .i64 base2)]) [(.int .i64 base1), (.int .i64 base2)] H6 H (by kernel_rfl) rfl hb ?_
  refine t_done [(.int .i64 rings0), (.agg [(.int .i64 base1), (.int .i64 base2)]), (.int .i64 need3), (.int .i64 perMille4), events5, (.bool false), (.agg [(.int .i64 base1), (.int .i64 base2)]), .undef, .undef, .undef, .undef, .undef, .undef, .undef, .undef, .undef, .undef] H6 (by kernel_rfl) ?_
  refine then_norm ?_
  refine w_seq ?_
  refine w_run [0, 0, 0, 0, 0, 1, 0, 0, 0, 1, 0, 1] ?_
  refine t_call true nrollout_Run [(.int .i64 rings0), (.agg [(.int .i64 base1), (.int .i64 base2)]), (.int .i64 need3), (.int .i64 perMille4), events5] H6 (by kernel_rfl) h ?_
  clear h
  rintro _ H10 ⟨r7, r8, r9, rfl, h⟩
  obtain ⟨H12, hb⟩ : ∃ H', Dead1 H10 1 H' := ⟨_, ⟨rfl⟩⟩
  replace h := h H12 hb
  refine t_tomb true 1 (.agg [(.int .i64 0), (.int .i64 0)]) [(.int .i64 0), (.int .i64 0)] H12 H10 (by kernel_rfl) rfl hb ?_
  refine t_upd true 2 0 [(.int .i64 0), (.int .i64 0)] (.agg [(.int .i64 r8), (.int .i64 r9)]) [(.int .i64 r8), (.int .i64 r9)] [(.int .i64 r8), (.int .i64 r9)] H12 (by kernel_rfl) rfl (all_c rfl (all_c rfl all_n)) ⟨rfl, Nat.le_of_ble_eq_true (by kernel_rfl), rfl⟩ ?_
  refine t_done [(.int .i64 rings0), (.agg [(.int .i64 base1), (.int .i64 base2)]), (.int .i64 need3), (.int .i64 perMille4), events5, (.bool false), (.agg [(.int .i64 base1), (.int .i64 base2)]), .undef, (.agg [(.int .i64 r8), (.int .i64 r9)]), .undef, r7, .undef, .undef, .undef, .undef, .undef, .undef] H12 (by kernel_rfl) ?_
  refine then_norm ?_
  refine w_seq ?_
  refine w_seq ?_
  refine w_run [1, 0] ?_
  refine t_call true nLrolloutExample [] H12 (by kernel_rfl) h ?_
  clear h
  rintro _ H14 ⟨r13, rfl, h⟩
  refine t_done [(.int .i64 rings0), (.agg [(.int .i64 base1), (.int .i64 base2)]), (.int .i64 need3), (.int .i64 perMille4), events5, (.bool false), (.agg [(.int .i64 base1), (.int .i64 base2)]), (.bool (!r13)), (.agg [(.int .i64 r8), (.int .i64 r9)]), .undef, r7, .undef, .undef, .undef, .undef, .undef, .undef] H14 (by kernel_rfl) ?_
  refine then_norm ?_
  refine w_cond (t := (!r13)) rfl (fun hc => ?_) (fun hc => ?_)
  · replace h := h.1 ((is_not is_raw).t hc)
    refine w_seq ?_
    refine w_run [0] ?_
    refine t_done [(.int .i64 rings0), (.agg [(.int .i64 base1), (.int .i64 base2)]), (.int .i64 need3), (.int .i64 perMille4), events5, (.bool false), (.agg [(.int .i64 base1), (.int .i64 base2)]), (.bool (!r13)), (.agg [(.int .i64 r8), (.int .i64 r9)]), .undef, r7, .undef, .undef, .undef, .undef, .undef, .undef] H14 (by kernel_rfl) ?_
    refine then_norm ?_
    refine w_ret ?_
    refine then_ret ?_
    exact body_ret (vs := [(.bool false)]) _ (by kernel_rfl) rfl h
  · replace h := h.2 ((is_not is_raw).f hc)
    refine w_skip ?_
    refine then_norm ?_
    refine w_seq ?_
    refine w_seq ?_
    refine w_run [0] ?_
    refine t_done [(.int .i64 rings0), (.agg [(.int .i64 base1), (.int .i64 base2)]), (.int .i64 need3), (.int .i64 perMille4), events5, (.bool false), (.agg [(.int .i64 base1), (.int .i64 base2)]), (.bool (!r13)), (.agg [(.int .i64 r8), (.int .i64 r9)]), (.int .i64 0), r7, .undef, .undef, .undef, .undef, .undef, .undef] H14 (by kernel_rfl) ?_
    refine then_norm ?_
    refine w_block ?_
    obtain ⟨J16, k17, h0, h⟩ := h
    refine w_loop (I := fun mI EI HI => ∃ (d19 : AV) (i20 : Int) (d21 : AV) (d22 : AV) (d23 : AV) (d24 : AV) (d25 : AV) (d26 : AV), EI = [(.int .i64 rings0), (.agg [(.int .i64 base1), (.int .i64 base2)]), (.int .i64 need3), (.int .i64 perMille4), events5, d19, (.agg [(.int .i64 base1), (.int .i64 base2)]), (.bool (!r13)), (.agg [(.int .i64 r8), (.int .i64 r9)]), (.int .i64 i20), r7, d21, d22, d23, d24, d25, d26] ∧ J16 mI i20 HI) ?_ k17 ⟨_, _, _, _, _, _, _, _, rfl, h0⟩
    clear h0
    rintro m18 EI H27 ⟨d19, i20, d21, d22, d23, d24, d25, d26, rfl, hJ⟩
    replace h := h m18 i20 H27 hJ
    clear hJ
    refine w_seq ?_
    refine w_seq ?_
    refine w_run [0, 0, 0, 0, 0, 0, 1, 0, 0] ?_
    obtain ⟨len28, hl, h⟩ := h
    refine t_len true r7 len28 H27 (by kernel_rfl) hl ?_
    refine t_done [(.int .i64 rings0), (.agg [(.int .i64 base1), (.int .i64 base2)]), (.int .i64 need3), (.int .i64 perMille4), events5, d19, (.agg [(.int .i64 base1), (.int .i64 base2)]), (.bool (!r13)), (.agg [(.int .i64 r8), (.int .i64 r9)]), (.int .i64 i20), r7, (.bool (((r8) == 0) && (decide (i20 < (len28 : Int))))), d22, d23, d24, d25, d26] H27 (by kernel_rfl) ?_
    refine then_norm ?_
    refine w_cond (t := (((r8) == 0) && (decide (i20 < (len28 : Int))))) rfl (fun hc => ?_) (fun hc => ?_)
    · replace h := h.1 ((is_and is_eq is_dec).t hc)
      refine w_skip ?_
      refine then_norm ?_
      refine w_seq ?_
      refine w_block ?_
      refine w_seq ?_
      refine w_seq ?_
      refine w_run [0] ?_
      refine t_done [(.int .i64 rings0), (.agg [(.int .i64 base1), (.int .i64 base2)]), (.int .i64 need3), (.int .i64 perMille4), events5, d19, (.agg [(.int .i64 base1), (.int .i64 base2)]), (.bool (!r13)), (.agg [(.int .i64 r8), (.int .i64 r9)]), (.int .i64 i20), r7, (.bool (((r8) == 0) && (decide (i20 < (len28 : Int))))), (.int .i64 0), d23, d24, d25, d26] H27 (by kernel_rfl) ?_
      refine then_norm ?_
      refine w_block ?_
      obtain ⟨J29, k30, h0, h⟩ := h
      refine w_loop (I := fun mI EI HI => ∃ (d32 : AV) (k33 : Int) (d34 : AV) (d35 : AV), EI = [(.int .i64 rings0), (.agg [(.int .i64 base1), (.int .i64 base2)]), (.int .i64 need3), (.int .i64 perMille4), events5, d32, (.agg [(.int .i64 base1), (.int .i64 base2)]), (.bool (!r13)), (.agg [(.int .i64 r8), (.int .i64 r9)]), (.int .i64 i20), r7, (.bool (((r8) == 0) && (decide (i20 < (len28 : Int))))), (.int .i64 k33), d34, d35, d25, d26] ∧ J29 mI k33 HI) ?_ k30 ⟨_, _, _, _, rfl, h0⟩
      clear h0
      rintro m31 EI H36 ⟨d32, k33, d34, d35, rfl, hJ⟩
      replace h := h m31 k33 H36 hJ
      clear hJ
      refine w_seq ?_
      refine w_seq ?_
      refine w_run [0, 0, 0, 1, 1, 1, 1, 0] ?_
      obtain ⟨e37, hg38, h⟩ := h
      refine t_idxG true 4 r7 .i64 i20 H36 (by kernel_rfl) hg38 ?_
      refine t_fldG true 0 4 r7 i20 0 H36 (by kernel_rfl) hg38 ?_
      refine t_loadG true none 4 r7 i20 0 e37 H36 (by kernel_rfl) hg38 ?_
      obtain ⟨len39, hl, h⟩ := h
      refine t_len true e37 len39 H36 (by kernel_rfl) hl ?_
      refine t_done [(.int .i64 rings0), (.agg [(.int .i64 base1), (.int .i64 base2)]), (.int .i64 need3), (.int .i64 perMille4), events5, d32, (.agg [(.int .i64 base1), (.int .i64 base2)]), (.bool (!r13)), (.agg [(.int .i64 r8), (.int .i64 r9)]), (.int .i64 i20), r7, (.bool (((r8) == 0) && (decide (i20 < (len28 : Int))))), (.int .i64 k33), (.bool (decide (k33 < (len39 : Int)))), d35, d25, d26] H36 (by kernel_rfl) ?_
      refine then_norm ?_
      refine w_cond (t := (decide (k33 < (len39 : Int)))) rfl (fun hc => ?_) (fun hc => ?_)
      · replace h := h.1 (is_dec.t hc)
        refine w_skip ?_
        refine then_norm ?_
        refine w_seq ?_
        refine w_block ?_
        refine w_seq ?_
        refine w_run [0, 0, 0, 2, 2, 3, 3, 3, 2, 3, 3, 2, 2, 3, 3, 3, 2, 2, 3, 3, 2, 0, 0, 2, 2, 2, 2, 2, 2, 3, 3, 3, 2, 2, 3, 3, 3, 2, 3, 3, 3, 2, 2, 0] ?_
        refine t_gd (decide (k33 > 0)) true (by kernel_rfl) (fun hc => ?_) (fun hc => ?_)
        · replace h := h.1 (is_dec.t hc)
          refine t_gd true true (by kernel_rfl) (fun _ => ?_) (fun hn => by cases hn)
          refine t_gd true true (by kernel_rfl) (fun _ => ?_) (fun hn => by cases hn)
          obtain ⟨e40, hg41, h⟩ := h
          refine t_idxG false 4 r7 .i64 i20 H36 (by kernel_rfl) hg41 ?_
          refine t_gd true true (by kernel_rfl) (fun _ => ?_) (fun hn => by cases hn)
          refine t_fldG false 0 4 r7 i20 0 H36 (by kernel_rfl) hg41 ?_
          refine t_gd true true (by kernel_rfl) (fun _ => ?_) (fun hn => by cases hn)
          refine t_loadG false none 4 r7 i20 0 e40 H36 (by kernel_rfl) hg41 ?_
          refine t_gd true true (by kernel_rfl) (fun _ => ?_) (fun hn => by cases hn)
          refine t_gd true true (by kernel_rfl) (fun _ => ?_) (fun hn => by cases hn)
          obtain ⟨e42, hg43, h⟩ := h
          refine t_idxG false 1 e40 .i64 k33 H36 (by kernel_rfl) hg43 ?_
          refine t_gd true true (by kernel_rfl) (fun _ => ?_) (fun hn => by cases hn)
          refine t_loadG false none 1 e40 k33 0 (.int .i64 e42) H36 (by kernel_rfl) hg43 ?_
          refine t_gd true true (by kernel_rfl) (fun _ => ?_) (fun hn => by cases hn)
          refine t_gd true true (by kernel_rfl) (fun _ => ?_) (fun hn => by cases hn)
          refine t_gd true true (by kernel_rfl) (fun _ => ?_) (fun hn => by cases hn)
          obtain ⟨e44, hg45, h⟩ := h
          refine t_idxG false 4 r7 .i64 i20 H36 (by kernel_rfl) hg45 ?_
          refine t_gd true true (by kernel_rfl) (fun _ => ?_) (fun hn => by cases hn)
          refine t_fldG false 0 4 r7 i20 0 H36 (by kernel_rfl) hg45 ?_
          refine t_gd true true (by kernel_rfl) (fun _ => ?_) (fun hn => by cases hn)
          refine t_loadG false none 4 r7 i20 0 e44 H36 (by kernel_rfl) hg45 ?_
          refine t_gd true true (by kernel_rfl) (fun _ => ?_) (fun hn => by cases hn)
          refine t_gd true true (by kernel_rfl) (fun _ => ?_) (fun hn => by cases hn)
          refine t_gd true true (by kernel_rfl) (fun _ => ?_) (fun hn => by cases hn)
          obtain ⟨e46, hg47, h⟩ := h
          refine t_idxG false 1 e44 .i64 (IntKind.wrap .i64 (k33 - 1)) H36 (by kernel_rfl) hg47 ?_
          refine t_gd true true (by kernel_rfl) (fun _ => ?_) (fun hn => by cases hn)
          refine t_loadG false none 1 e44 (IntKind.wrap .i64 (k33 - 1)) 0 (.int .i64 e46) H36 (by kernel_rfl) hg47 ?_
          refine t_gd true true (by kernel_rfl) (fun _ => ?_) (fun hn => by cases hn)
          refine t_gd (decide (e42 ≤ e46)) false (by kernel_rfl) (fun hc => ?_) (fun hc => ?_)
          · replace h := h.2 (is_dec.f hc)
            refine t_gd false false (by kernel_rfl) (fun _ => ?_) (fun hn => by cases hn)
            refine t_gd false false (by kernel_rfl) (fun _ => ?_) (fun hn => by cases hn)
            refine t_gd (decide (i20 > 0)) true (by kernel_rfl) (fun hc => ?_) (fun hc => ?_)
            · replace h := h.1 (is_dec.t hc)
              refine t_gd true true (by kernel_rfl) (fun _ => ?_) (fun hn => by cases hn)
              refine t_gd true true (by kernel_rfl) (fun _ => ?_) (fun hn => by cases hn)
              refine t_gd true true (by kernel_rfl) (fun _ => ?_) (fun hn => by cases hn)
              obtain ⟨e48, hg49, h⟩ := h
              refine t_idxG false 4 r7 .i64 (IntKind.wrap .i64 (i20 - 1)) H36 (by kernel_rfl) hg49 ?_
              refine t_gd true true (by kernel_rfl) (fun _ => ?_) (fun hn => by cases hn)
              refine t_fldG false 0 4 r7 (IntKind.wrap .i64 (i20 - 1)) 0 H36 (by kernel_rfl) hg49 ?_
              refine t_gd true true (by kernel_rfl) (fun _ => ?_) (fun hn => by cases hn)
              refine t_loadG false none 4 r7 (IntKind.wrap .i64 (i20 - 1)) 0 e48 H36 (by kernel_rfl) hg49 ?_
              refine t_gd true true (by kernel_rfl) (fun _ => ?_) (fun hn => by cases hn)
              refine t_gd true true (by kernel_rfl) (fun _ => ?_) (fun hn => by cases hn)
              refine t_gd true true (by kernel_rfl) (fun _ => ?_) (fun hn => by cases hn)
              obtain ⟨e50, hg51, h⟩ := h
              refine t_idxG false 4 r7 .i64 i20 H36 (by kernel_rfl) hg51 ?_
              refine t_gd true true (by kernel_rfl) (fun _ => ?_) (fun hn => by cases hn)
              refine t_fldG false 0 4 r7 i20 0 H36 (by kernel_rfl) hg51 ?_
              refine t_gd true true (by kernel_rfl) (fun _ => ?_) (fun hn => by cases hn)
              refine t_loadG false none 4 r7 i20 0 e50 H36 (by kernel_rfl) hg51 ?_
              refine t_gd true true (by kernel_rfl) (fun _ => ?_) (fun hn => by cases hn)
              refine t_gd true true (by kernel_rfl) (fun _ => ?_) (fun hn => by cases hn)
              obtain ⟨e52, hg53, h⟩ := h
              refine t_idxG false 1 e50 .i64 k33 H36 (by kernel_rfl) hg53 ?_
              refine t_gd true true (by kernel_rfl) (fun _ => ?_) (fun hn => by cases hn)
              refine t_loadG false none 1 e50 k33 0 (.int .i64 e52) H36 (by kernel_rfl) hg53 ?_
              refine t_gd true true (by kernel_rfl) (fun _ => ?_) (fun hn => by cases hn)
              refine t_call true nFHas [e48, (.int .i64 e52)] H36 (by kernel_rfl) h ?_
              clear h
              rintro _ H55 ⟨r54, rfl, h⟩
              refine t_gd true true (by kernel_rfl) (fun _ => ?_) (fun hn => by cases hn)
              refine t_gd false false (by kernel_rfl) (fun _ => ?_) (fun hn => by cases hn)
              refine t_done [(.int .i64 rings0), (.agg [(.int .i64 base1), (.int .i64 base2)]), (.int .i64 need3), (.int .i64 perMille4), events5, d32, (.agg [(.int .i64 base1), (.int .i64 base2)]), (.bool (!r13)), (.agg [(.int .i64 r8), (.int .i64 r9)]), (.int .i64 i20), r7, (.bool (((r8) == 0) && (decide (i20 < (len28 : Int))))), (.int .i64 k33), (.bool (decide (k33 < (len39 : Int)))), (.bool (!r54)), d25, d26] H55 (by kernel_rfl) ?_
              refine then_norm ?_
              refine w_cond (t := (!r54)) rfl (fun hc => ?_) (fun hc => ?_)
              · replace h := h.1 ((is_not is_raw).t hc)
                refine w_seq ?_
                refine w_run [0] ?_
                refine t_done [(.int .i64 rings0), (.agg [(.int .i64 base1), (.int .i64 base2)]), (.int .i64 need3), (.int .i64 perMille4), events5, (.bool false), (.agg [(.int .i64 base1), (.int .i64 base2)]), (.bool (!r13)), (.agg [(.int .i64 r8), (.int .i64 r9)]), (.int .i64 i20), r7, (.bool (((r8) == 0) && (decide (i20 < (len28 : Int))))), (.int .i64 k33), (.bool (decide (k33 < (len39 : Int)))), (.bool (!r54)), d25, d26] H55 (by kernel_rfl) ?_
                refine then_norm ?_
                refine w_ret ?_
                refine block_ret ?_
                refine then_ret ?_
                refine loop_ret ?_
                refine block_ret ?_
                refine then_ret ?_
                refine block_ret ?_
                refine then_ret ?_
                refine loop_ret ?_
                refine block_ret ?_
                refine then_ret ?_
                exact body_ret (vs := [(.bool false)]) _ (by kernel_rfl) rfl h
              · replace h := h.2 ((is_not is_raw).f hc)
                refine w_skip ?_
                refine block_norm ?_
                refine then_norm ?_
                refine w_run [0, 0, 0] ?_
                refine t_done [(.int .i64 rings0), (.agg [(.int .i64 base1), (.int .i64 base2)]), (.int .i64 need3), (.int .i64 perMille4), events5, d32, (.agg [(.int .i64 base1), (.int .i64 base2)]), (.bool (!r13)), (.agg [(.int .i64 r8), (.int .i64 r9)]), (.int .i64 i20), r7, (.bool (((r8) == 0) && (decide (i20 < (len28 : Int))))), (.int .i64 (IntKind.wrap .i64 (k33 + 1))), (.bool (decide (k33 < (len39 : Int)))), (.bool (!r54)), d25, d26] H55 (by kernel_rfl) ?_
                obtain ⟨m', hm, h⟩ := h
                refine loop_norm ⟨m', hm, _, _, _, _, rfl, h⟩
            · replace h := h.2 (is_dec.f hc)
              refine t_gd false true (by kernel_rfl) (fun hn => by cases hn) (fun _ => ?_)
              refine t_gd false true (by kernel_rfl) (fun hn => by cases hn) (fun _ => ?_)
              refine t_gd false true (by kernel_rfl) (fun hn => by cases hn) (fun _ => ?_)
              refine t_gd false true (by kernel_rfl) (fun hn => by cases hn) (fun _ => ?_)
              refine t_gd false true (by kernel_rfl) (fun hn => by cases hn) (fun _ => ?_)
              refine t_gd false true (by kernel_rfl) (fun hn => by cases hn) (fun _ => ?_)
              refine t_gd false true (by kernel_rfl) (fun hn => by cases hn) (fun _ => ?_)
              refine t_gd false true (by kernel_rfl) (fun hn => by cases hn) (fun _ => ?_)
              refine t_gd false true (by kernel_rfl) (fun hn => by cases hn) (fun _ => ?_)
              refine t_gd false true (by kernel_rfl) (fun hn => by cases hn) (fun _ => ?_)
              refine t_gd false true (by kernel_rfl) (fun hn => by cases hn) (fun _ => ?_)
              refine t_gd false true (by kernel_rfl) (fun hn => by cases hn) (fun _ => ?_)
              refine t_gd false true (by kernel_rfl) (fun hn => by cases hn) (fun _ => ?_)
              refine t_gd false true (by kernel_rfl) (fun hn => by cases hn) (fun _ => ?_)
              refine t_gd false true (by kernel_rfl) (fun hn => by cases hn) (fun _ => ?_)
              refine t_gd false false (by kernel_rfl) (fun _ => ?_) (fun hn => by cases hn)
              refine t_done [(.int .i64 rings0), (.agg [(.int .i64 base1), (.int .i64 base2)]), (.int .i64 need3), (.int .i64 perMille4), events5, d32, (.agg [(.int .i64 base1), (.int .i64 base2)]), (.bool (!r13)), (.agg [(.int .i64 r8), (.int .i64 r9)]), (.int .i64 i20), r7, (.bool (((r8) == 0) && (decide (i20 < (len28 : Int))))), (.int .i64 k33), (.bool (decide (k33 < (len39 : Int)))), (.bool false), d25, d26] H36 (by kernel_rfl) ?_
              refine then_norm ?_
              refine w_cond (t := false) rfl (fun hc => by cases hc) (fun _ => ?_)
              refine w_skip ?_
              refine block_norm ?_
              refine then_norm ?_
              refine w_run [0, 0, 0] ?_
              refine t_done [(.int .i64 rings0), (.agg [(.int .i64 base1), (.int .i64 base2)]), (.int .i64 need3), (.int .i64 perMille4), events5, d32, (.agg [(.int .i64 base1), (.int .i64 base2)]), (.bool (!r13)), (.agg [(.int .i64 r8), (.int .i64 r9)]), (.int .i64 i20), r7, (.bool (((r8) == 0) && (decide (i20 < (len28 : Int))))), (.int .i64 (IntKind.wrap .i64 (k33 + 1))), (.bool (decide (k33 < (len39 : Int)))), (.bool false), d25, d26] H36 (by kernel_rfl) ?_
              obtain ⟨m', hm, h⟩ := h
              refine loop_norm ⟨m', hm, _, _, _, _, rfl, h⟩
          · replace h := h.1 (is_dec.t hc)
            refine t_gd true false (by kernel_rfl) (fun hn => by cases hn) (fun _ => ?_)
            refine t_gd true false (by kernel_rfl) (fun hn => by cases hn) (fun _ => ?_)
            refine t_gdU true (by kernel_rfl) ?_
            refine t_gdU true (by kernel_rfl) ?_
            refine t_gdU true (by kernel_rfl) ?_
            refine t_gdU true (by kernel_rfl) ?_
            refine t_gdU true (by kernel_rfl) ?_
            refine t_gdU true (by kernel_rfl) ?_
            refine t_gdU true (by kernel_rfl) ?_
            refine t_gdU true (by kernel_rfl) ?_
            refine t_gdU true (by kernel_rfl) ?_
            refine t_gdU true (by kernel_rfl) ?_
            refine t_gdU true (by kernel_rfl) ?_
            refine t_gdU true (by kernel_rfl) ?_
            refine t_gdU true (by kernel_rfl) ?_
            refine t_gdU true (by kernel_rfl) ?_
            refine t_gdU true (by kernel_rfl) ?_
            refine t_gdU true (by kernel_rfl) ?_
            refine t_gd true false (by kernel_rfl) (fun hn => by cases hn) (fun _ => ?_)
            refine t_done [(.int .i64 rings0), (.agg [(.int .i64 base1), (.int .i64 base2)]), (.int .i64 need3), (.int .i64 perMille4), events5, d32, (.agg [(.int .i64 base1), (.int .i64 base2)]), (.bool (!r13)), (.agg [(.int .i64 r8), (.int .i64 r9)]), (.int .i64 i20), r7, (.bool (((r8) == 0) && (decide (i20 < (len28 : Int))))), (.int .i64 k33), (.bool (decide (k33 < (len39 : Int)))), (.bool true), d25, d26] H36 (by kernel_rfl) ?_
            refine then_norm ?_
            refine w_cond (t := true) rfl (fun _ => ?_) (fun hc => by cases hc)
            refine w_seq ?_
            refine w_run [0] ?_
            refine t_done [(.int .i64 rings0), (.agg [(.int .i64 base1), (.int .i64 base2)]), (.int .i64 need3), (.int .i64 perMille4), events5, (.bool false), (.agg [(.int .i64 base1), (.int .i64 base2)]), (.bool (!r13)), (.agg [(.int .i64 r8), (.int .i64 r9)]), (.int .i64 i20), r7, (.bool (((r8) == 0) && (decide (i20 < (len28 : Int))))), (.int .i64 k33), (.bool (decide (k33 < (len39 : Int)))), (.bool true), d25, d26] H36 (by kernel_rfl) ?_
            refine then_norm ?_
            refine w_ret ?_
            refine block_ret ?_
            refine then_ret ?_
            refine loop_ret ?_
            refine block_ret ?_
            refine then_ret ?_
            refine block_ret ?_
            refine then_ret ?_
            refine loop_ret ?_
            refine block_ret ?_
            refine then_ret ?_
            exact body_ret (vs := [(.bool false)]) _ (by kernel_rfl) rfl h
        · replace h := h.2 (is_dec.f hc)
          refine t_gd false true (by kernel_rfl) (fun hn => by cases hn) (fun _ => ?_)
          refine t_gd false true (by kernel_rfl) (fun hn => by cases hn) (fun _ => ?_)
          refine t_gd false true (by kernel_rfl) (fun hn => by cases hn) (fun _ => ?_)
          refine t_gd false true (by kernel_rfl) (fun hn => by cases hn) (fun _ => ?_)
          refine t_gd false true (by kernel_rfl) (fun hn => by cases hn) (fun _ => ?_)
          refine t_gd false true (by kernel_rfl) (fun hn => by cases hn) (fun _ => ?_)
          refine t_gd false true (by kernel_rfl) (fun hn => by cases hn) (fun _ => ?_)
          refine t_gd false true (by kernel_rfl) (fun hn => by cases hn) (fun _ => ?_)
          refine t_gd false true (by kernel_rfl) (fun hn => by cases hn) (fun _ => ?_)
          refine t_gd false true (by kernel_rfl) (fun hn => by cases hn) (fun _ => ?_)
          refine t_gd false true (by kernel_rfl) (fun hn => by cases hn) (fun _ => ?_)
          refine t_gd false true (by kernel_rfl) (fun hn => by cases hn) (fun _ => ?_)
          refine t_gd false true (by kernel_rfl) (fun hn => by cases hn) (fun _ => ?_)
          refine t_gd false true (by kernel_rfl) (fun hn => by cases hn) (fun _ => ?_)
          refine t_gd false true (by kernel_rfl) (fun hn => by cases hn) (fun _ => ?_)
          refine t_gd false true (by kernel_rfl) (fun hn => by cases hn) (fun _ => ?_)
          refine t_gd false true (by kernel_rfl) (fun hn => by cases hn) (fun _ => ?_)
          refine t_gd false false (by kernel_rfl) (fun _ => ?_) (fun hn => by cases hn)
          refine t_gd false false (by kernel_rfl) (fun _ => ?_) (fun hn => by cases hn)
          refine t_gd false false (by kernel_rfl) (fun _ => ?_) (fun hn => by cases hn)
          refine t_gd (decide (i20 > 0)) true (by kernel_rfl) (fun hc => ?_) (fun hc => ?_)
          · replace h := h.1 (is_dec.t hc)
            refine t_gd true true (by kernel_rfl) (fun _ => ?_) (fun hn => by cases hn)
            refine t_gd true true (by kernel_rfl) (fun _ => ?_) (fun hn => by cases hn)
            refine t_gd true true (by kernel_rfl) (fun _ => ?_) (fun hn => by cases hn)
            obtain ⟨e59, hg60, h⟩ := h
            refine t_idxG false 4 r7 .i64 (IntKind.wrap .i64 (i20 - 1)) H36 (by kernel_rfl) hg60 ?_
            refine t_gd true true (by kernel_rfl) (fun _ => ?_) (fun hn => by cases hn)
            refine t_fldG false 0 4 r7 (IntKind.wrap .i64 (i20 - 1)) 0 H36 (by kernel_rfl) hg60 ?_
            refine t_gd true true (by kernel_rfl) (fun _ => ?_) (fun hn => by cases hn)
            refine t_loadG false none 4 r7 (IntKind.wrap .i64 (i20 - 1)) 0 e59 H36 (by kernel_rfl) hg60 ?_
            refine t_gd true true (by kernel_rfl) (fun _ => ?_) (fun hn => by cases hn)
            refine t_gd true true (by kernel_rfl) (fun _ => ?_) (fun hn => by cases hn)
            refine t_gd true true (by kernel_rfl) (fun _ => ?_) (fun hn => by cases hn)
            obtain ⟨e61, hg62, h⟩ := h
            refine t_idxG false 4 r7 .i64 i20 H36 (by kernel_rfl) hg62 ?_
            refine t_gd true true (by kernel_rfl) (fun _ => ?_) (fun hn => by cases hn)
            refine t_fldG false 0 4 r7 i20 0 H36 (by kernel_rfl) hg62 ?_
            refine t_gd true true (by kernel_rfl) (fun _ => ?_) (fun hn => by cases hn)
            refine t_loadG false none 4 r7 i20 0 e61 H36 (by kernel_rfl) hg62 ?_
            refine t_gd true true (by kernel_rfl) (fun _ => ?_) (fun hn => by cases hn)
            refine t_gd true true (by kernel_rfl) (fun _ => ?_) (fun hn => by cases hn)
            obtain ⟨e63, hg64, h⟩ := h
            refine t_idxG false 1 e61 .i64 k33 H36 (by kernel_rfl) hg64 ?_
            refine t_gd true true (by kernel_rfl) (fun _ => ?_) (fun hn => by cases hn)
            refine t_loadG false none 1 e61 k33 0 (.int .i64 e63) H36 (by kernel_rfl) hg64 ?_
            refine t_gd true true (by kernel_rfl) (fun _ => ?_) (fun hn => by cases hn)
            refine t_call true nFHas [e59, (.int .i64 e63)] H36 (by kernel_rfl) h ?_
            clear h
            rintro _ H66 ⟨r65, rfl, h⟩
            refine t_gd true true (by kernel_rfl) (fun _ => ?_) (fun hn => by cases hn)
            refine t_gd false false (by kernel_rfl) (fun _ => ?_) (fun hn => by cases hn)
            refine t_done [(.int .i64 rings0), (.agg [(.int .i64 base1), (.int .i64 base2)]), (.int .i64 need3), (.int .i64 perMille4), events5, d32, (.agg [(.int .i64 base1), (.int .i64 base2)]), (.bool (!r13)), (.agg [(.int .i64 r8), (.int .i64 r9)]), (.int .i64 i20), r7, (.bool (((r8) == 0) && (decide (i20 < (len28 : Int))))), (.int .i64 k33), (.bool (decide (k33 < (len39 : Int)))), (.bool (!r65)), d25, d26] H66 (by kernel_rfl) ?_
            refine then_norm ?_
            refine w_cond (t := (!r65)) rfl (fun hc => ?_) (fun hc => ?_)
            · replace h := h.1 ((is_not is_raw).t hc)
              refine w_seq ?_
              refine w_run [0] ?_
              refine t_done [(.int .i64 rings0), (.agg [(.int .i64 base1), (.int .i64 base2)]), (.int .i64 need3), (.int .i64 perMille4), events5, (.bool false), (.agg [(.int .i64 base1), (.int .i64 base2)]), (.bool (!r13)), (.agg [(.int .i64 r8), (.int .i64 r9)]), (.int .i64 i20), r7, (.bool (((r8) == 0) && (decide (i20 < (len28 : Int))))), (.int .i64 k33), (.bool (decide (k33 < (len39 : Int)))), (.bool (!r65)), d25, d26] H66 (by kernel_rfl) ?_
              refine then_norm ?_
              refine w_ret ?_
              refine block_ret ?_
              refine then_ret ?_
              refine loop_ret ?_
              refine block_ret ?_
              refine then_ret ?_
              refine block_ret ?_
              refine then_ret ?_
              refine loop_ret ?_
              refine block_ret ?_
              refine then_ret ?_
              exact body_ret (vs := [(.bool false)]) _ (by kernel_rfl) rfl h
            · replace h := h.2 ((is_not is_raw).f hc)
              refine w_skip ?_
              refine block_norm ?_
              refine then_norm ?_
              refine w_run [0, 0, 0] ?_
              refine t_done [(.int .i64 rings0), (.agg [(.int .i64 base1), (.int .i64 base2)]), (.int .i64 need3), (.int .i64 perMille4), events5, d32, (.agg [(.int .i64 base1), (.int .i64 base2)]), (.bool (!r13)), (.agg [(.int .i64 r8), (.int .i64 r9)]), (.int .i64 i20), r7, (.bool (((r8) == 0) && (decide (i20 < (len28 : Int))))), (.int .i64 (IntKind.wrap .i64 (k33 + 1))), (.bool (decide (k33 < (len39 : Int)))), (.bool (!r65)), d25, d26] H66 (by kernel_rfl) ?_
              obtain ⟨m', hm, h⟩ := h
              refine loop_norm ⟨m', hm, _, _, _, _, rfl, h⟩
          · replace h := h.2 (is_dec.f hc)
            refine t_gd false true (by kernel_rfl) (fun hn => by cases hn) (fun _ => ?_)
            refine t_gd false true (by kernel_rfl) (fun hn => by cases hn) (fun _ => ?_)
            refine t_gd false true (by kernel_rfl) (fun hn => by cases hn) (fun _ => ?_)
            refine t_gd false true (by kernel_rfl) (fun hn => by cases hn) (fun _ => ?_)
            refine t_gd false true (by kernel_rfl) (fun hn => by cases hn) (fun _ => ?_)
            refine t_gd false true (by kernel_rfl) (fun hn => by cases hn) (fun _ => ?_)
            refine t_gd false true (by kernel_rfl) (fun hn => by cases hn) (fun _ => ?_)
            refine t_gd false true (by kernel_rfl) (fun hn => by cases hn) (fun _ => ?_)
            refine t_gd false true (by kernel_rfl) (fun hn => by cases hn) (fun _ => ?_)
            refine t_gd false true (by kernel_rfl) (fun hn => by cases hn) (fun _ => ?_)
            refine t_gd false true (by kernel_rfl) (fun hn => by cases hn) (fun _ => ?_)
            refine t_gd false true (by kernel_rfl) (fun hn => by cases hn) (fun _ => ?_)
            refine t_gd false true (by kernel_rfl) (fun hn => by cases hn) (fun _ => ?_)
            refine t_gd false true (by kernel_rfl) (fun hn => by cases hn) (fun _ => ?_)
            refine t_gd false true (by kernel_rfl) (fun hn => by cases hn) (fun _ => ?_)
            refine t_gd false false (by kernel_rfl) (fun _ => ?_) (fun hn => by cases hn)
            refine t_done [(.int .i64 rings0), (.agg [(.int .i64 base1), (.int .i64 base2)]), (.int .i64 need3), (.int .i64 perMille4), events5, d32, (.agg [(.int .i64 base1), (.int .i64 base2)]), (.bool (!r13)), (.agg [(.int .i64 r8), (.int .i64 r9)]), (.int .i64 i20), r7, (.bool (((r8) == 0) && (decide (i20 < (len28 : Int))))), (.int .i64 k33), (.bool (decide (k33 < (len39 : Int)))), (.bool false), d25, d26] H36 (by kernel_rfl) ?_
            refine then_norm ?_
            refine w_cond (t := false) rfl (fun hc => by cases hc) (fun _ => ?_)
            refine w_skip ?_
            refine block_norm ?_
            refine then_norm ?_
            refine w_run [0, 0, 0] ?_
            refine t_done [(.int .i64 rings0), (.agg [(.int .i64 base1), (.int .i64 base2)]), (.int .i64 need3), (.int .i64 perMille4), events5, d32, (.agg [(.int .i64 base1), (.int .i64 base2)]), (.bool (!r13)), (.agg [(.int .i64 r8), (.int .i64 r9)]), (.int .i64 i20), r7, (.bool (((r8) == 0) && (decide (i20 < (len28 : Int))))), (.int .i64 (IntKind.wrap .i64 (k33 + 1))), (.bool (decide (k33 < (len39 : Int)))), (.bool false), d25, d26] H36 (by kernel_rfl) ?_
            obtain ⟨m', hm, h⟩ := h
            refine loop_norm ⟨m', hm, _, _, _, _, rfl, h⟩
      · replace h := h.2 (is_dec.f hc)
        refine w_exit ?_
        refine then_exit ?_
        refine loop_exit ?_
        refine block_exit ?_
        refine then_norm ?_
        refine w_seq ?_
        refine w_seq ?_
        refine w_run [0, 0, 1, 1, 1, 0, 0, 2, 2, 3, 3, 3, 2, 2, 3, 3, 3, 3, 2, 2, 2, 2, 2, 2, 2, 3, 3, 3, 2, 2, 3, 3, 3, 3, 2, 2, 2, 0] ?_
        obtain ⟨e70, hg71, h⟩ := h
        refine t_idxG true 4 r7 .i64 i20 H36 (by kernel_rfl) hg71 ?_
        refine t_fldG true 1 4 r7 i20 0 H36 (by kernel_rfl) hg71 ?_
        refine t_loadG true none 4 r7 i20 1 (.int .i64 e70) H36 (by kernel_rfl) hg71 ?_
        refine t_gd ((e70) != 0) true (by kernel_rfl) (fun hc => ?_) (fun hc => ?_)
        · replace h := h.1 (is_ne.t hc)
          refine t_gd true true (by kernel_rfl) (fun _ => ?_) (fun hn => by cases hn)
          refine t_gd true true (by kernel_rfl) (fun _ => ?_) (fun hn => by cases hn)
          obtain ⟨e72, hg73, h⟩ := h
          refine t_idxG false 4 r7 .i64 i20 H36 (by kernel_rfl) hg73 ?_
          refine t_gd true true (by kernel_rfl) (fun _ => ?_) (fun hn => by cases hn)
          refine t_fldG false 0 4 r7 i20 0 H36 (by kernel_rfl) hg73 ?_
          refine t_gd true true (by kernel_rfl) (fun _ => ?_) (fun hn => by cases hn)
          refine t_loadG false none 4 r7 i20 0 e72 H36 (by kernel_rfl) hg73 ?_
          refine t_gd true true (by kernel_rfl) (fun _ => ?_) (fun hn => by cases hn)
          refine t_gd true true (by kernel_rfl) (fun _ => ?_) (fun hn => by cases hn)
          refine t_gd true true (by kernel_rfl) (fun _ => ?_) (fun hn => by cases hn)
          obtain ⟨e74, hg75, h⟩ := h
          refine t_idxG false 4 r7 .i64 i20 H36 (by kernel_rfl) hg75 ?_
          refine t_gd true true (by kernel_rfl) (fun _ => ?_) (fun hn => by cases hn)
          refine t_fldG false 1 4 r7 i20 0 H36 (by kernel_rfl) hg75 ?_
          refine t_gd true true (by kernel_rfl) (fun _ => ?_) (fun hn => by cases hn)
          refine t_loadG false none 4 r7 i20 1 (.int .i64 e74) H36 (by kernel_rfl) hg75 ?_
          refine t_gd true true (by kernel_rfl) (fun _ => ?_) (fun hn => by cases hn)
          refine t_call true nFHas [e72, (.int .i64 e74)] H36 (by kernel_rfl) h ?_
          clear h
          rintro _ H77 ⟨r76, rfl, h⟩
          refine t_gd true true (by kernel_rfl) (fun _ => ?_) (fun hn => by cases hn)
          refine t_gd r76 false (by kernel_rfl) (fun hc => ?_) (fun hc => ?_)
          · replace h := h.2 (is_raw.f hc)
            refine t_gd false false (by kernel_rfl) (fun _ => ?_) (fun hn => by cases hn)
            refine t_gd false false (by kernel_rfl) (fun _ => ?_) (fun hn => by cases hn)
            refine t_gd (decide (i20 > 0)) true (by kernel_rfl) (fun hc => ?_) (fun hc => ?_)
            · replace h := h.1 (is_dec.t hc)
              refine t_gd true true (by kernel_rfl) (fun _ => ?_) (fun hn => by cases hn)
              refine t_gd true true (by kernel_rfl) (fun _ => ?_) (fun hn => by cases hn)
              refine t_gd true true (by kernel_rfl) (fun _ => ?_) (fun hn => by cases hn)
              obtain ⟨e79, hg80, h⟩ := h
              refine t_idxG false 4 r7 .i64 (IntKind.wrap .i64 (i20 - 1)) H77 (by kernel_rfl) hg80 ?_
              refine t_gd true true (by kernel_rfl) (fun _ => ?_) (fun hn => by cases hn)
              refine t_fldG false 0 4 r7 (IntKind.wrap .i64 (i20 - 1)) 0 H77 (by kernel_rfl) hg80 ?_
              refine t_gd true true (by kernel_rfl) (fun _ => ?_) (fun hn => by cases hn)
              refine t_loadG false none 4 r7 (IntKind.wrap .i64 (i20 - 1)) 0 e79 H77 (by kernel_rfl) hg80 ?_
              refine t_gd true true (by kernel_rfl) (fun _ => ?_) (fun hn => by cases hn)
              refine t_gd true true (by kernel_rfl) (fun _ => ?_) (fun hn => by cases hn)
              refine t_gd true true (by kernel_rfl) (fun _ => ?_) (fun hn => by cases hn)
              obtain ⟨e81, hg82, h⟩ := h
              refine t_idxG false 4 r7 .i64 i20 H77 (by kernel_rfl) hg82 ?_
              refine t_gd true true (by kernel_rfl) (fun _ => ?_) (fun hn => by cases hn)
              refine t_fldG false 1 4 r7 i20 0 H77 (by kernel_rfl) hg82 ?_
              refine t_gd true true (by kernel_rfl) (fun _ => ?_) (fun hn => by cases hn)
              refine t_loadG false none 4 r7 i20 1 (.int .i64 e81) H77 (by kernel_rfl) hg82 ?_
              refine t_gd true true (by kernel_rfl) (fun _ => ?_) (fun hn => by cases hn)
              refine t_call true nFHas [e79, (.int .i64 e81)] H77 (by kernel_rfl) h ?_
              clear h
              rintro _ H84 ⟨r83, rfl, h⟩
              refine t_gd true true (by kernel_rfl) (fun _ => ?_) (fun hn => by cases hn)
              refine t_gd false false (by kernel_rfl) (fun _ => ?_) (fun hn => by cases hn)
              refine t_gd true true (by kernel_rfl) (fun _ => ?_) (fun hn => by cases hn)
              refine t_done [(.int .i64 rings0), (.agg [(.int .i64 base1), (.int .i64 base2)]), (.int .i64 need3), (.int .i64 perMille4), events5, d32, (.agg [(.int .i64 base1), (.int .i64 base2)]), (.bool (!r13)), (.agg [(.int .i64 r8), (.int .i64 r9)]), (.int .i64 i20), r7, (.bool (((r8) == 0) && (decide (i20 < (len28 : Int))))), (.int .i64 k33), (.bool (decide (k33 < (len39 : Int)))), d35, (.bool (!r83)), d26] H84 (by kernel_rfl) ?_
              refine then_norm ?_
              refine w_cond (t := (!r83)) rfl (fun hc => ?_) (fun hc => ?_)
              · replace h := h.1 ((is_not is_raw).t hc)
                refine w_seq ?_
                refine w_run [0] ?_
                refine t_done [(.int .i64 rings0), (.agg [(.int .i64 base1), (.int .i64 base2)]), (.int .i64 need3), (.int .i64 perMille4), events5, (.bool false), (.agg [(.int .i64 base1), (.int .i64 base2)]), (.bool (!r13)), (.agg [(.int .i64 r8), (.int .i64 r9)]), (.int .i64 i20), r7, (.bool (((r8) == 0) && (decide (i20 < (len28 : Int))))), (.int .i64 k33), (.bool (decide (k33 < (len39 : Int)))), d35, (.bool (!r83)), d26] H84 (by kernel_rfl) ?_
                refine then_norm ?_
                refine w_ret ?_
                refine then_ret ?_
                refine block_ret ?_
                refine then_ret ?_
                refine loop_ret ?_
                refine block_ret ?_
                refine then_ret ?_
                exact body_ret (vs := [(.bool false)]) _ (by kernel_rfl) rfl h
              · replace h := h.2 ((is_not is_raw).f hc)
                refine w_skip ?_
                refine then_norm ?_
                refine w_seq ?_
                refine w_run [0, 0, 1, 1, 1, 0, 0, 0, 0, 3, 3, 3, 3, 2, 2, 0, 0, 3, 3, 3, 3, 2, 2, 0] ?_
                obtain ⟨e86, hg87, h⟩ := h
                refine t_idxG true 4 r7 .i64 i20 H84 (by kernel_rfl) hg87 ?_
                refine t_fldG true 1 4 r7 i20 0 H84 (by kernel_rfl) hg87 ?_
                refine t_loadG true none 4 r7 i20 1 (.int .i64 e86) H84 (by kernel_rfl) hg87 ?_
                refine t_gd ((e86) == 0) true (by kernel_rfl) (fun hc => ?_) (fun hc => ?_)
                · replace h := h.1 (is_eq.t hc)
                  obtain ⟨e88, hg89, h⟩ := h
                  refine t_idxG true 4 r7 .i64 i20 H84 (by kernel_rfl) hg89 ?_
                  refine t_gd true true (by kernel_rfl) (fun _ => ?_) (fun hn => by cases hn)
                  refine t_fldG true 2 4 r7 i20 0 H84 (by kernel_rfl) hg89 ?_
                  refine t_gd true true (by kernel_rfl) (fun _ => ?_) (fun hn => by cases hn)
                  refine t_fldG true 0 4 r7 i20 2 H84 (by kernel_rfl) hg89 ?_
                  refine t_gd true true (by kernel_rfl) (fun _ => ?_) (fun hn => by cases hn)
                  refine t_loadG true none 4 r7 i20 2 (.int .i64 e88) H84 (by kernel_rfl) hg89 ?_
                  refine t_gd true true (by kernel_rfl) (fun _ => ?_) (fun hn => by cases hn)
                  refine t_gd true true (by kernel_rfl) (fun _ => ?_) (fun hn => by cases hn)
                  refine t_gd ((e88) != 0) false (by kernel_rfl) (fun hc => ?_) (fun hc => ?_)
                  · replace h := h.2 (is_ne.f hc)
                    obtain ⟨e90, hg91, h⟩ := h
                    refine t_idxG true 4 r7 .i64 i20 H84 (by kernel_rfl) hg91 ?_
                    refine t_gd false false (by kernel_rfl) (fun _ => ?_) (fun hn => by cases hn)
                    refine t_fldG true 2 4 r7 i20 0 H84 (by kernel_rfl) hg91 ?_
                    refine t_gd false false (by kernel_rfl) (fun _ => ?_) (fun hn => by cases hn)
                    refine t_fldG true 1 4 r7 i20 2 H84 (by kernel_rfl) hg91 ?_
                    refine t_gd false false (by kernel_rfl) (fun _ => ?_) (fun hn => by cases hn)
                    refine t_loadG true none 4 r7 i20 3 (.int .i64 e90) H84 (by kernel_rfl) hg91 ?_
                    refine t_gd false false (by kernel_rfl) (fun _ => ?_) (fun hn => by cases hn)
                    refine t_gd true true (by kernel_rfl) (fun _ => ?_) (fun hn => by cases hn)
                    refine t_done [(.int .i64 rings0), (.agg [(.int .i64 base1), (.int .i64 base2)]), (.int .i64 need3), (.int .i64 perMille4), events5, d32, (.agg [(.int .i64 base1), (.int .i64 base2)]), (.bool (!r13)), (.agg [(.int .i64 r8), (.int .i64 r9)]), (.int .i64 i20), r7, (.bool (((r8) == 0) && (decide (i20 < (len28 : Int))))), (.int .i64 k33), (.bool (decide (k33 < (len39 : Int)))), d35, (.bool (!r83)), (.bool ((e90) != 0))] H84 (by kernel_rfl) ?_
                    refine then_norm ?_
                    refine w_cond (t := ((e90) != 0)) rfl (fun hc => ?_) (fun hc => ?_)
                    · replace h := h.1 (is_ne.t hc)
                      refine w_seq ?_
                      refine w_run [0] ?_
                      refine t_done [(.int .i64 rings0), (.agg [(.int .i64 base1), (.int .i64 base2)]), (.int .i64 need3), (.int .i64 perMille4), events5, (.bool false), (.agg [(.int .i64 base1), (.int .i64 base2)]), (.bool (!r13)), (.agg [(.int .i64 r8), (.int .i64 r9)]), (.int .i64 i20), r7, (.bool (((r8) == 0) && (decide (i20 < (len28 : Int))))), (.int .i64 k33), (.bool (decide (k33 < (len39 : Int)))), d35, (.bool (!r83)), (.bool ((e90) != 0))] H84 (by kernel_rfl) ?_
                      refine then_norm ?_
                      refine w_ret ?_
                      refine block_ret ?_
                      refine then_ret ?_
                      refine loop_ret ?_
                      refine block_ret ?_
                      refine then_ret ?_
                      exact body_ret (vs := [(.bool false)]) _ (by kernel_rfl) rfl h
                    · replace h := h.2 (is_ne.f hc)
                      refine w_skip ?_
                      refine block_norm ?_
                      refine then_norm ?_
                      refine w_run [0, 0, 0] ?_
                      refine t_done [(.int .i64 rings0), (.agg [(.int .i64 base1), (.int .i64 base2)]), (.int .i64 need3), (.int .i64 perMille4), events5, d32, (.agg [(.int .i64 base1), (.int .i64 base2)]), (.bool (!r13)), (.agg [(.int .i64 r8), (.int .i64 r9)]), (.int .i64 (IntKind.wrap .i64 (i20 + 1))), r7, (.bool (((r8) == 0) && (decide (i20 < (len28 : Int))))), (.int .i64 k33), (.bool (decide (k33 < (len39 : Int)))), d35, (.bool (!r83)), (.bool ((e90) != 0))] H84 (by kernel_rfl) ?_
                      obtain ⟨m', hm, h⟩ := h
                      refine loop_norm ⟨m', hm, _, _, _, _, _, _, _, _, rfl, h⟩
                  · replace h := h.1 (is_ne.t hc)
                    refine t_gd true false (by kernel_rfl) (fun hn => by cases hn) (fun _ => ?_)
                    refine t_gd true false (by kernel_rfl) (fun hn => by cases hn) (fun _ => ?_)
                    refine t_gd true false (by kernel_rfl) (fun hn => by cases hn) (fun _ => ?_)
                    refine t_gd true false (by kernel_rfl) (fun hn => by cases hn) (fun _ => ?_)
                    refine t_gd true true (by kernel_rfl) (fun _ => ?_) (fun hn => by cases hn)
                    refine t_done [(.int .i64 rings0), (.agg [(.int .i64 base1), (.int .i64 base2)]), (.int .i64 need3), (.int .i64 perMille4), events5, d32, (.agg [(.int .i64 base1), (.int .i64 base2)]), (.bool (!r13)), (.agg [(.int .i64 r8), (.int .i64 r9)]), (.int .i64 i20), r7, (.bool (((r8) == 0) && (decide (i20 < (len28 : Int))))), (.int .i64 k33), (.bool (decide (k33 < (len39 : Int)))), d35, (.bool (!r83)), (.bool true)] H84 (by kernel_rfl) ?_
                    refine then_norm ?_
                    refine w_cond (t := true) rfl (fun _ => ?_) (fun hc => by cases hc)
                    refine w_seq ?_
                    refine w_run [0] ?_
                    refine t_done [(.int .i64 rings0), (.agg [(.int .i64 base1), (.int .i64 base2)]), (.int .i64 need3), (.int .i64 perMille4), events5, (.bool false), (.agg [(.int .i64 base1), (.int .i64 base2)]), (.bool (!r13)), (.agg [(.int .i64 r8), (.int .i64 r9)]), (.int .i64 i20), r7, (.bool (((r8) == 0) && (decide (i20 < (len28 : Int))))), (.int .i64 k33), (.bool (decide (k33 < (len39 : Int)))), d35, (.bool (!r83)), (.bool true)] H84 (by kernel_rfl) ?_
                    refine then_norm ?_
                    refine w_ret ?_
                    refine block_ret ?_
                    refine then_ret ?_
                    refine loop_ret ?_
                    refine block_ret ?_
                    refine then_ret ?_
                    exact body_ret (vs := [(.bool false)]) _ (by kernel_rfl) rfl h
                · replace h := h.2 (is_eq.f hc)
                  refine t_gd false true (by kernel_rfl) (fun hn => by cases hn) (fun _ => ?_)
                  refine t_gd false true (by kernel_rfl) (fun hn => by cases hn) (fun _ => ?_)
                  refine t_gd false true (by kernel_rfl) (fun hn => by cases hn) (fun _ => ?_)
                  refine t_gd false true (by kernel_rfl) (fun hn => by cases hn) (fun _ => ?_)
                  refine t_gd false true (by kernel_rfl) (fun hn => by cases hn) (fun _ => ?_)
                  refine t_gdU false (by kernel_rfl) ?_
                  refine t_gdU false (by kernel_rfl) ?_
                  refine t_gdU false (by kernel_rfl) ?_
                  refine t_gdU false (by kernel_rfl) ?_
                  refine t_gdU false (by kernel_rfl) ?_
                  refine t_gd false true (by kernel_rfl) (fun hn => by cases hn) (fun _ => ?_)
                  refine t_done [(.int .i64 rings0), (.agg [(.int .i64 base1), (.int .i64 base2)]), (.int .i64 need3), (.int .i64 perMille4), events5, d32, (.agg [(.int .i64 base1), (.int .i64 base2)]), (.bool (!r13)), (.agg [(.int .i64 r8), (.int .i64 r9)]), (.int .i64 i20), r7, (.bool (((r8) == 0) && (decide (i20 < (len28 : Int))))), (.int .i64 k33), (.bool (decide (k33 < (len39 : Int)))), d35, (.bool (!r83)), (.bool false)] H84 (by kernel_rfl) ?_
                  refine then_norm ?_
                  refine w_cond (t := false) rfl (fun hc => by cases hc) (fun _ => ?_)
                  refine w_skip ?_
                  refine block_norm ?_
                  refine then_norm ?_
                  refine w_run [0, 0, 0] ?_
                  refine t_done [(.int .i64 rings0), (.agg [(.int .i64 base1), (.int .i64 base2)]), (.int .i64 need3), (.int .i64 perMille4), events5, d32, (.agg [(.int .i64 base1), (.int .i64 base2)]), (.bool (!r13)), (.agg [(.int .i64 r8), (.int .i64 r9)]), (.int .i64 (IntKind.wrap .i64 (i20 + 1))), r7, (.bool (((r8) == 0) && (decide (i20 < (len28 : Int))))), (.int .i64 k33), (.bool (decide (k33 < (len39 : Int)))), d35, (.bool (!r83)), (.bool false)] H84 (by kernel_rfl) ?_
                  obtain ⟨m', hm, h⟩ := h
                  refine loop_norm ⟨m', hm, _, _, _, _, _, _, _, _, rfl, h⟩
            · replace h := h.2 (is_dec.f hc)
              refine t_gd false true (by kernel_rfl) (fun hn => by cases hn) (fun _ => ?_)
              refine t_gd false true (by kernel_rfl) (fun hn => by cases hn) (fun _ => ?_)
              refine t_gd false true (by kernel_rfl) (fun hn => by cases hn) (fun _ => ?_)
              refine t_gd false true (by kernel_rfl) (fun hn => by cases hn) (fun _ => ?_)
              refine t_gd false true (by kernel_rfl) (fun hn => by cases hn) (fun _ => ?_)
              refine t_gd false true (by kernel_rfl) (fun hn => by cases hn) (fun _ => ?_)
              refine t_gd false true (by kernel_rfl) (fun hn => by cases hn) (fun _ => ?_)
              refine t_gd false true (by kernel_rfl) (fun hn => by cases hn) (fun _ => ?_)
              refine t_gd false true (by kernel_rfl) (fun hn => by cases hn) (fun _ => ?_)
              refine t_gd false true (by kernel_rfl) (fun hn => by cases hn) (fun _ => ?_)
              refine t_gd false true (by kernel_rfl) (fun hn => by cases hn) (fun _ => ?_)
              refine t_gd false true (by kernel_rfl) (fun hn => by cases hn) (fun _ => ?_)
              refine t_gd false false (by kernel_rfl) (fun _ => ?_) (fun hn => by cases hn)
              refine t_gd true true (by kernel_rfl) (fun _ => ?_) (fun hn => by cases hn)
              refine t_done [(.int .i64 rings0), (.agg [(.int .i64 base1), (.int .i64 base2)]), (.int .i64 need3), (.int .i64 perMille4), events5, d32, (.agg [(.int .i64 base1), (.int .i64 base2)]), (.bool (!r13)), (.agg [(.int .i64 r8), (.int .i64 r9)]), (.int .i64 i20), r7, (.bool (((r8) == 0) && (decide (i20 < (len28 : Int))))), (.int .i64 k33), (.bool (decide (k33 < (len39 : Int)))), d35, (.bool false), d26] H77 (by kernel_rfl) ?_
              refine then_norm ?_
              refine w_cond (t := false) rfl (fun hc => by cases hc) (fun _ => ?_)
              refine w_skip ?_
              refine then_norm ?_
              refine w_seq ?_
              refine w_run [0, 0, 1, 1, 1, 0, 0, 0, 0, 3, 3, 3, 3, 2, 2, 0, 0, 3, 3, 3, 3, 2, 2, 0] ?_
              obtain ⟨e94, hg95, h⟩ := h
              refine t_idxG true 4 r7 .i64 i20 H77 (by kernel_rfl) hg95 ?_
              refine t_fldG true 1 4 r7 i20 0 H77 (by kernel_rfl) hg95 ?_
              refine t_loadG true none 4 r7 i20 1 (.int .i64 e94) H77 (by kernel_rfl) hg95 ?_
              refine t_gd ((e94) == 0) true (by kernel_rfl) (fun hc => ?_) (fun hc => ?_)
              · replace h := h.1 (is_eq.t hc)
                obtain ⟨e96, hg97, h⟩ := h
                refine t_idxG true 4 r7 .i64 i20 H77 (by kernel_rfl) hg97 ?_
                refine t_gd true true (by kernel_rfl) (fun _ => ?_) (fun hn => by cases hn)
                refine t_fldG true 2 4 r7 i20 0 H77 (by kernel_rfl) hg97 ?_
                refine t_gd true true (by kernel_rfl) (fun _ => ?_) (fun hn => by cases hn)
                refine t_fldG true 0 4 r7 i20 2 H77 (by kernel_rfl) hg97 ?_
                refine t_gd true true (by kernel_rfl) (fun _ => ?_) (fun hn => by cases hn)
                refine t_loadG true none 4 r7 i20 2 (.int .i64 e96) H77 (by kernel_rfl) hg97 ?_
                refine t_gd true true (by kernel_rfl) (fun _ => ?_) (fun hn => by cases hn)
                refine t_gd true true (by kernel_rfl) (fun _ => ?_) (fun hn => by cases hn)
                refine t_gd ((e96) != 0) false (by kernel_rfl) (fun hc => ?_) (fun hc => ?_)
                · replace h := h.2 (is_ne.f hc)
                  obtain ⟨e98, hg99, h⟩ := h
                  refine t_idxG true 4 r7 .i64 i20 H77 (by kernel_rfl) hg99 ?_
                  refine t_gd false false (by kernel_rfl) (fun _ => ?_) (fun hn => by cases hn)
                  refine t_fldG true 2 4 r7 i20 0 H77 (by kernel_rfl) hg99 ?_
                  refine t_gd false false (by kernel_rfl) (fun _ => ?_) (fun hn => by cases hn)
                  refine t_fldG true 1 4 r7 i20 2 H77 (by kernel_rfl) hg99 ?_
                  refine t_gd false false (by kernel_rfl) (fun _ => ?_) (fun hn => by cases hn)
                  refine t_loadG true none 4 r7 i20 3 (.int .i64 e98) H77 (by kernel_rfl) hg99 ?_
                  refine t_gd false false (by kernel_rfl) (fun _ => ?_) (fun hn => by cases hn)
                  refine t_gd true true (by kernel_rfl) (fun _ => ?_) (fun hn => by cases hn)
                  refine t_done [(.int .i64 rings0), (.agg [(.int .i64 base1), (.int .i64 base2)]), (.int .i64 need3), (.int .i64 perMille4), events5, d32, (.agg [(.int .i64 base1), (.int .i64 base2)]), (.bool (!r13)), (.agg [(.int .i64 r8), (.int .i64 r9)]), (.int .i64 i20), r7, (.bool (((r8) == 0) && (decide (i20 < (len28 : Int))))), (.int .i64 k33), (.bool (decide (k33 < (len39 : Int)))), d35, (.bool false), (.bool ((e98) != 0))] H77 (by kernel_rfl) ?_
                  refine then_norm ?_
                  refine w_cond (t := ((e98) != 0)) rfl (fun hc => ?_) (fun hc => ?_)
                  · replace h := h.1 (is_ne.t hc)
                    refine w_seq ?_
                    refine w_run [0] ?_
                    refine t_done [(.int .i64 rings0), (.agg [(.int .i64 base1), (.int .i64 base2)]), (.int .i64 need3), (.int .i64 perMille4), events5, (.bool false), (.agg [(.int .i64 base1), (.int .i64 base2)]), (.bool (!r13)), (.agg [(.int .i64 r8), (.int .i64 r9)]), (.int .i64 i20), r7, (.bool (((r8) == 0) && (decide (i20 < (len28 : Int))))), (.int .i64 k33), (.bool (decide (k33 < (len39 : Int)))), d35, (.bool false), (.bool ((e98) != 0))] H77 (by kernel_rfl) ?_
                    refine then_norm ?_
                    refine w_ret ?_
                    refine block_ret ?_
                    refine then_ret ?_
                    refine loop_ret ?_
                    refine block_ret ?_
                    refine then_ret ?_
                    exact body_ret (vs := [(.bool false)]) _ (by kernel_rfl) rfl h
                  · replace h := h.2 (is_ne.f hc)
                    refine w_skip ?_
                    refine block_norm ?_
                    refine then_norm ?_
                    refine w_run [0, 0, 0] ?_
                    refine t_done [(.int .i64 rings0), (.agg [(.int .i64 base1), (.int .i64 base2)]), (.int .i64 need3), (.int .i64 perMille4), events5, d32, (.agg [(.int .i64 base1), (.int .i64 base2)]), (.bool (!r13)), (.agg [(.int .i64 r8), (.int .i64 r9)]), (.int .i64 (IntKind.wrap .i64 (i20 + 1))), r7, (.bool (((r8) == 0) && (decide (i20 < (len28 : Int))))), (.int .i64 k33), (.bool (decide (k33 < (len39 : Int)))), d35, (.bool false), (.bool ((e98) != 0))] H77 (by kernel_rfl) ?_
                    obtain ⟨m', hm, h⟩ := h
                    refine loop_norm ⟨m', hm, _, _, _, _, _, _, _, _, rfl, h⟩
                · replace h := h.1 (is_ne.t hc)
                  refine t_gd true false (by kernel_rfl) (fun hn => by cases hn) (fun _ => ?_)
                  refine t_gd true false (by kernel_rfl) (fun hn => by cases hn) (fun _ => ?_)
                  refine t_gd true false (by kernel_rfl) (fun hn => by cases hn) (fun _ => ?_)
                  refine t_gd true false (by kernel_rfl) (fun hn => by cases hn) (fun _ => ?_)
                  refine t_gd true true (by kernel_rfl) (fun _ => ?_) (fun hn => by cases hn)
                  refine t_done [(.int .i64 rings0), (.agg [(.int .i64 base1), (.int .i64 base2)]), (.int .i64 need3), (.int .i64 perMille4), events5, d32, (.agg [(.int .i64 base1), (.int .i64 base2)]), (.bool (!r13)), (.agg [(.int .i64 r8), (.int .i64 r9)]), (.int .i64 i20), r7, (.bool (((r8) == 0) && (decide (i20 < (len28 : Int))))), (.int .i64 k33), (.bool (decide (k33 < (len39 : Int)))), d35, (.bool false), (.bool true)] H77 (by kernel_rfl) ?_
                  refine then_norm ?_
                  refine w_cond (t := true) rfl (fun _ => ?_) (fun hc => by cases hc)
                  refine w_seq ?_
                  refine w_run [0] ?_
                  refine t_done [(.int .i64 rings0), (.agg [(.int .i64 base1), (.int .i64 base2)]), (.int .i64 need3), (.int .i64 perMille4), events5, (.bool false), (.agg [(.int .i64 base1), (.int .i64 base2)]), (.bool (!r13)), (.agg [(.int .i64 r8), (.int .i64 r9)]), (.int .i64 i20), r7, (.bool (((r8) == 0) && (decide (i20 < (len28 : Int))))), (.int .i64 k33), (.bool (decide (k33 < (len39 : Int)))), d35, (.bool false), (.bool true)] H77 (by kernel_rfl) ?_
                  refine then_norm ?_
                  refine w_ret ?_
                  refine block_ret ?_
                  refine then_ret ?_
                  refine loop_ret ?_
                  refine block_ret ?_
                  refine then_ret ?_
                  exact body_ret (vs := [(.bool false)]) _ (by kernel_rfl) rfl h
              · replace h := h.2 (is_eq.f hc)
                refine t_gd false true (by kernel_rfl) (fun hn => by cases hn) (fun _ => ?_)
                refine t_gd false true (by kernel_rfl) (fun hn => by cases hn) (fun _ => ?_)
                refine t_gd false true (by kernel_rfl) (fun hn => by cases hn) (fun _ => ?_)
                refine t_gd false true (by kernel_rfl) (fun hn => by cases hn) (fun _ => ?_)
                refine t_gd false true (by kernel_rfl) (fun hn => by cases hn) (fun _ => ?_)
                refine t_gdU false (by kernel_rfl) ?_
                refine t_gdU false (by kernel_rfl) ?_
                refine t_gdU false (by kernel_rfl) ?_
                refine t_gdU false (by kernel_rfl) ?_
                refine t_gdU false (by kernel_rfl) ?_
                refine t_gd false true (by kernel_rfl) (fun hn => by cases hn) (fun _ => ?_)
                refine t_done [(.int .i64 rings0), (.agg [(.int .i64 base1), (.int .i64 base2)]), (.int .i64 need3), (.int .i64 perMille4), events5, d32, (.agg [(.int .i64 base1), (.int .i64 base2)]), (.bool (!r13)), (.agg [(.int .i64 r8), (.int .i64 r9)]), (.int .i64 i20), r7, (.bool (((r8) == 0) && (decide (i20 < (len28 : Int))))), (.int .i64 k33), (.bool (decide (k33 < (len39 : Int)))), d35, (.bool false), (.bool false)] H77 (by kernel_rfl) ?_
                refine then_norm ?_
                refine w_cond (t := false) rfl (fun hc => by cases hc) (fun _ => ?_)
                refine w_skip ?_
                refine block_norm ?_
                refine then_norm ?_
                refine w_run [0, 0, 0] ?_
                refine t_done [(.int .i64 rings0), (.agg [(.int .i64 base1), (.int .i64 base2)]), (.int .i64 need3), (.int .i64 perMille4), events5, d32, (.agg [(.int .i64 base1), (.int .i64 base2)]), (.bool (!r13)), (.agg [(.int .i64 r8), (.int .i64 r9)]), (.int .i64 (IntKind.wrap .i64 (i20 + 1))), r7, (.bool (((r8) == 0) && (decide (i20 < (len28 : Int))))), (.int .i64 k33), (.bool (decide (k33 < (len39 : Int)))), d35, (.bool false), (.bool false)] H77 (by kernel_rfl) ?_
                obtain ⟨m', hm, h⟩ := h
                refine loop_norm ⟨m', hm, _, _, _, _, _, _, _, _, rfl, h⟩
          · replace h := h.1 (is_raw.t hc)
            refine t_gd true false (by kernel_rfl) (fun hn => by cases hn) (fun _ => ?_)
            refine t_gd true false (by kernel_rfl) (fun hn => by cases hn) (fun _ => ?_)
            refine t_gdU true (by kernel_rfl) ?_
            refine t_gdU true (by kernel_rfl) ?_
            refine t_gdU true (by kernel_rfl) ?_
            refine t_gdU true (by kernel_rfl) ?_
            refine t_gdU true (by kernel_rfl) ?_
            refine t_gdU true (by kernel_rfl) ?_
            refine t_gdU true (by kernel_rfl) ?_
            refine t_gdU true (by kernel_rfl) ?_
            refine t_gdU true (by kernel_rfl) ?_
            refine t_gdU true (by kernel_rfl) ?_
            refine t_gdU true (by kernel_rfl) ?_
            refine t_gdU true (by kernel_rfl) ?_
            refine t_gdU true (by kernel_rfl) ?_
            refine t_gd true false (by kernel_rfl) (fun hn => by cases hn) (fun _ => ?_)
            refine t_gd true true (by kernel_rfl) (fun _ => ?_) (fun hn => by cases hn)
            refine t_done [(.int .i64 rings0), (.agg [(.int .i64 base1), (.int .i64 base2)]), (.int .i64 need3), (.int .i64 perMille4), events5, d32, (.agg [(.int .i64 base1), (.int .i64 base2)]), (.bool (!r13)), (.agg [(.int .i64 r8), (.int .i64 r9)]), (.int .i64 i20), r7, (.bool (((r8) == 0) && (decide (i20 < (len28 : Int))))), (.int .i64 k33), (.bool (decide (k33 < (len39 : Int)))), d35, (.bool true), d26] H77 (by kernel_rfl) ?_
            refine then_norm ?_
            refine w_cond (t := true) rfl (fun _ => ?_) (fun hc => by cases hc)
            refine w_seq ?_
            refine w_run [0] ?_
            refine t_done [(.int .i64 rings0), (.agg [(.int .i64 base1), (.int .i64 base2)]), (.int .i64 need3), (.int .i64 perMille4), events5, (.bool false), (.agg [(.int .i64 base1), (.int .i64 base2)]), (.bool (!r13)), (.agg [(.int .i64 r8), (.int .i64 r9)]), (.int .i64 i20), r7, (.bool (((r8) == 0) && (decide (i20 < (len28 : Int))))), (.int .i64 k33), (.bool (decide (k33 < (len39 : Int)))), d35, (.bool true), d26] H77 (by kernel_rfl) ?_
            refine then_norm ?_
            refine w_ret ?_
            refine then_ret ?_
            refine block_ret ?_
            refine then_ret ?_
            refine loop_ret ?_
            refine block_ret ?_
            refine then_ret ?_
            exact body_ret (vs := [(.bool false)]) _ (by kernel_rfl) rfl h
        · replace h := h.2 (is_ne.f hc)
          refine t_gd false true (by kernel_rfl) (fun hn => by cases hn) (fun _ => ?_)
          refine t_gd false true (by kernel_rfl) (fun hn => by cases hn) (fun _ => ?_)
          refine t_gd false true (by kernel_rfl) (fun hn => by cases hn) (fun _ => ?_)
          refine t_gd false true (by kernel_rfl) (fun hn => by cases hn) (fun _ => ?_)
          refine t_gd false true (by kernel_rfl) (fun hn => by cases hn) (fun _ => ?_)
          refine t_gd false true (by kernel_rfl) (fun hn => by cases hn) (fun _ => ?_)
          refine t_gd false true (by kernel_rfl) (fun hn => by cases hn) (fun _ => ?_)
          refine t_gd false true (by kernel_rfl) (fun hn => by cases hn) (fun _ => ?_)
          refine t_gd false true (by kernel_rfl) (fun hn => by cases hn) (fun _ => ?_)
          refine t_gd false true (by kernel_rfl) (fun hn => by cases hn) (fun _ => ?_)
          refine t_gd false true (by kernel_rfl) (fun hn => by cases hn) (fun _ => ?_)
          refine t_gdU false (by kernel_rfl) ?_
          refine t_gdU false (by kernel_rfl) ?_
          refine t_gdU false (by kernel_rfl) ?_
          refine t_gdU true (by kernel_rfl) ?_
          refine t_gdU true (by kernel_rfl) ?_
          refine t_gdU true (by kernel_rfl) ?_
          refine t_gdU true (by kernel_rfl) ?_
          refine t_gdU true (by kernel_rfl) ?_
          refine t_gdU true (by kernel_rfl) ?_
          refine t_gdU true (by kernel_rfl) ?_
          refine t_gdU true (by kernel_rfl) ?_
          refine t_gdU true (by kernel_rfl) ?_
          refine t_gdU true (by kernel_rfl) ?_
          refine t_gdU true (by kernel_rfl) ?_
          refine t_gdU true (by kernel_rfl) ?_
          refine t_gdU true (by kernel_rfl) ?_
          refine t_gdU false (by kernel_rfl) ?_
          refine t_gd false true (by kernel_rfl) (fun hn => by cases hn) (fun _ => ?_)
          refine t_done [(.int .i64 rings0), (.agg [(.int .i64 base1), (.int .i64 base2)]), (.int .i64 need3), (.int .i64 perMille4), events5, d32, (.agg [(.int .i64 base1), (.int .i64 base2)]), (.bool (!r13)), (.agg [(.int .i64 r8), (.int .i64 r9)]), (.int .i64 i20), r7, (.bool (((r8) == 0) && (decide (i20 < (len28 : Int))))), (.int .i64 k33), (.bool (decide (k33 < (len39 : Int)))), d35, (.bool false), d26] H36 (by kernel_rfl) ?_
          refine then_norm ?_
          refine w_cond (t := false) rfl (fun hc => by cases hc) (fun _ => ?_)
          refine w_skip ?_
          refine then_norm ?_
          refine w_seq ?_
          refine w_run [0, 0, 1, 1, 1, 0, 0, 0, 0, 3, 3, 3, 3, 2, 2, 0, 0, 3, 3, 3, 3, 2, 2, 0] ?_
          obtain ⟨e102, hg103, h⟩ := h
          refine t_idxG true 4 r7 .i64 i20 H36 (by kernel_rfl) hg103 ?_
          refine t_fldG true 1 4 r7 i20 0 H36 (by kernel_rfl) hg103 ?_
          refine t_loadG true none 4 r7 i20 1 (.int .i64 e102) H36 (by kernel_rfl) hg103 ?_
          refine t_gd ((e102) == 0) true (by kernel_rfl) (fun hc => ?_) (fun hc => ?_)
          · replace h := h.1 (is_eq.t hc)
            obtain ⟨e104, hg105, h⟩ := h
            refine t_idxG true 4 r7 .i64 i20 H36 (by kernel_rfl) hg105 ?_
            refine t_gd true true (by kernel_rfl) (fun _ => ?_) (fun hn => by cases hn)
            refine t_fldG true 2 4 r7 i20 0 H36 (by kernel_rfl) hg105 ?_
            refine t_gd true true (by kernel_rfl) (fun _ => ?_) (fun hn => by cases hn)
            refine t_fldG true 0 4 r7 i20 2 H36 (by kernel_rfl) hg105 ?_
            refine t_gd true true (by kernel_rfl) (fun _ => ?_) (fun hn => by cases hn)
            refine t_loadG true none 4 r7 i20 2 (.int .i64 e104) H36 (by kernel_rfl) hg105 ?_
            refine t_gd true true (by kernel_rfl) (fun _ => ?_) (fun hn => by cases hn)
            refine t_gd true true (by kernel_rfl) (fun _ => ?_) (fun hn => by cases hn)
            refine t_gd ((e104) != 0) false (by kernel_rfl) (fun hc => ?_) (fun hc => ?_)
            · replace h := h.2 (is_ne.f hc)
              obtain ⟨e106, hg107, h⟩ := h
              refine t_idxG true 4 r7 .i64 i20 H36 (by kernel_rfl) hg107 ?_
              refine t_gd false false (by kernel_rfl) (fun _ => ?_) (fun hn => by cases hn)
              refine t_fldG true 2 4 r7 i20 0 H36 (by kernel_rfl) hg107 ?_
              refine t_gd false false (by kernel_rfl) (fun _ => ?_) (fun hn => by cases hn)
              refine t_fldG true 1 4 r7 i20 2 H36 (by kernel_rfl) hg107 ?_
              refine t_gd false false (by kernel_rfl) (fun _ => ?_) (fun hn => by cases hn)
              refine t_loadG true none 4 r7 i20 3 (.int .i64 e106) H36 (by kernel_rfl) hg107 ?_
              refine t_gd false false (by kernel_rfl) (fun _ => ?_) (fun hn => by cases hn)
              refine t_gd true true (by kernel_rfl) (fun _ => ?_) (fun hn => by cases hn)
              refine t_done [(.int .i64 rings0), (.agg [(.int .i64 base1), (.int .i64 base2)]), (.int .i64 need3), (.int .i64 perMille4), events5, d32, (.agg [(.int .i64 base1), (.int .i64 base2)]), (.bool (!r13)), (.agg [(.int .i64 r8), (.int .i64 r9)]), (.int .i64 i20), r7, (.bool (((r8) == 0) && (decide (i20 < (len28 : Int))))), (.int .i64 k33), (.bool (decide (k33 < (len39 : Int)))), d35, (.bool false), (.bool ((e106) != 0))] H36 (by kernel_rfl) ?_
              refine then_norm ?_
              refine w_cond (t := ((e106) != 0)) rfl (fun hc => ?_) (fun hc => ?_)
              · replace h := h.1 (is_ne.t hc)
                refine w_seq ?_
                refine w_run [0] ?_
                refine t_done [(.int .i64 rings0), (.agg [(.int .i64 base1), (.int .i64 base2)]), (.int .i64 need3), (.int .i64 perMille4), events5, (.bool false), (.agg [(.int .i64 base1), (.int .i64 base2)]), (.bool (!r13)), (.agg [(.int .i64 r8), (.int .i64 r9)]), (.int .i64 i20), r7, (.bool (((r8) == 0) && (decide (i20 < (len28 : Int))))), (.int .i64 k33), (.bool (decide (k33 < (len39 : Int)))), d35, (.bool false), (.bool ((e106) != 0))] H36 (by kernel_rfl) ?_
                refine then_norm ?_
                refine w_ret ?_
                refine block_ret ?_
                refine then_ret ?_
                refine loop_ret ?_
                refine block_ret ?_
                refine then_ret ?_
                exact body_ret (vs := [(.bool false)]) _ (by kernel_rfl) rfl h
              · replace h := h.2 (is_ne.f hc)
                refine w_skip ?_
                refine block_norm ?_
                refine then_norm ?_
                refine w_run [0, 0, 0] ?_
                refine t_done [(.int .i64 rings0), (.agg [(.int .i64 base1), (.int .i64 base2)]), (.int .i64 need3), (.int .i64 perMille4), events5, d32, (.agg [(.int .i64 base1), (.int .i64 base2)]), (.bool (!r13)), (.agg [(.int .i64 r8), (.int .i64 r9)]), (.int .i64 (IntKind.wrap .i64 (i20 + 1))), r7, (.bool (((r8) == 0) && (decide (i20 < (len28 : Int))))), (.int .i64 k33), (.bool (decide (k33 < (len39 : Int)))), d35, (.bool false), (.bool ((e106) != 0))] H36 (by kernel_rfl) ?_
                obtain ⟨m', hm, h⟩ := h
                refine loop_norm ⟨m', hm, _, _, _, _, _, _, _, _, rfl, h⟩
            · replace h := h.1 (is_ne.t hc)
              refine t_gd true false (by kernel_rfl) (fun hn => by cases hn) (fun _ => ?_)
              refine t_gd true false (by kernel_rfl) (fun hn => by cases hn) (fun _ => ?_)
              refine t_gd true false (by kernel_rfl) (fun hn => by cases hn) (fun _ => ?_)
              refine t_gd true false (by kernel_rfl) (fun hn => by cases hn) (fun _ => ?_)
              refine t_gd true true (by kernel_rfl) (fun _ => ?_) (fun hn => by cases hn)
              refine t_done [(.int .i64 rings0), (.agg [(.int .i64 base1), (.int .i64 base2)]), (.int .i64 need3), (.int .i64 perMille4), events5, d32, (.agg [(.int .i64 base1), (.int .i64 base2)]), (.bool (!r13)), (.agg [(.int .i64 r8), (.int .i64 r9)]), (.int .i64 i20), r7, (.bool (((r8) == 0) && (decide (i20 < (len28 : Int))))), (.int .i64 k33), (.bool (decide (k33 < (len39 : Int)))), d35, (.bool false), (.bool true)] H36 (by kernel_rfl) ?_
              refine then_norm ?_
              refine w_cond (t := true) rfl (fun _ => ?_) (fun hc => by cases hc)
              refine w_seq ?_
              refine w_run [0] ?_
              refine t_done [(.int .i64 rings0), (.agg [(.int .i64 base1), (.int .i64 base2)]), (.int .i64 need3), (.int .i64 perMille4), events5, (.bool false), (.agg [(.int .i64 base1), (.int .i64 base2)]), (.bool (!r13)), (.agg [(.int .i64 r8), (.int .i64 r9)]), (.int .i64 i20), r7, (.bool (((r8) == 0) && (decide (i20 < (len28 : Int))))), (.int .i64 k33), (.bool (decide (k33 < (len39 : Int)))), d35, (.bool false), (.bool true)] H36 (by kernel_rfl) ?_
              refine then_norm ?_
              refine w_ret ?_
              refine block_ret ?_
              refine then_ret ?_
              refine loop_ret ?_
              refine block_ret ?_
              refine then_ret ?_
              exact body_ret (vs := [(.bool false)]) _ (by kernel_rfl) rfl h
          · replace h := h.2 (is_eq.f hc)
            refine t_gd false true (by kernel_rfl) (fun hn => by cases hn) (fun _ => ?_)
            refine t_gd false true (by kernel_rfl) (fun hn => by cases hn) (fun _ => ?_)
            refine t_gd false true (by kernel_rfl) (fun hn => by cases hn) (fun _ => ?_)
            refine t_gd false true (by kernel_rfl) (fun hn => by cases hn) (fun _ => ?_)
            refine t_gd false true (by kernel_rfl) (fun hn => by cases hn) (fun _ => ?_)
            refine t_gdU false (by kernel_rfl) ?_
            refine t_gdU false (by kernel_rfl) ?_
            refine t_gdU false (by kernel_rfl) ?_
            refine t_gdU false (by kernel_rfl) ?_
            refine t_gdU false (by kernel_rfl) ?_
            refine t_gd false true (by kernel_rfl) (fun hn => by cases hn) (fun _ => ?_)
            refine t_done [(.int .i64 rings0), (.agg [(.int .i64 base1), (.int .i64 base2)]), (.int .i64 need3), (.int .i64 perMille4), events5, d32, (.agg [(.int .i64 base1), (.int .i64 base2)]), (.bool (!r13)), (.agg [(.int .i64 r8), (.int .i64 r9)]), (.int .i64 i20), r7, (.bool (((r8) == 0) && (decide (i20 < (len28 : Int))))), (.int .i64 k33), (.bool (decide (k33 < (len39 : Int)))), d35, (.bool false), (.bool false)] H36 (by kernel_rfl) ?_
            refine then_norm ?_
            refine w_cond (t := false) rfl (fun hc => by cases hc) (fun _ => ?_)
            refine w_skip ?_
            refine block_norm ?_
            refine then_norm ?_
            refine w_run [0, 0, 0] ?_
            refine t_done [(.int .i64 rings0), (.agg [(.int .i64 base1), (.int .i64 base2)]), (.int .i64 need3), (.int .i64 perMille4), events5, d32, (.agg [(.int .i64 base1), (.int .i64 base2)]), (.bool (!r13)), (.agg [(.int .i64 r8), (.int .i64 r9)]), (.int .i64 (IntKind.wrap .i64 (i20 + 1))), r7, (.bool (((r8) == 0) && (decide (i20 < (len28 : Int))))), (.int .i64 k33), (.bool (decide (k33 < (len39 : Int)))), d35, (.bool false), (.bool false)] H36 (by kernel_rfl) ?_
            obtain ⟨m', hm, h⟩ := h
            refine loop_norm ⟨m', hm, _, _, _, _, _, _, _, _, rfl, h⟩
    · replace h := h.2 ((is_and is_eq is_dec).f hc)
      refine w_exit ?_
      refine then_exit ?_
      refine loop_exit ?_
      refine block_exit ?_
      refine then_norm ?_
      refine w_seq ?_
      refine w_run [0] ?_
      refine t_done [(.int .i64 rings0), (.agg [(.int .i64 base1), (.int .i64 base2)]), (.int .i64 need3), (.int .i64 perMille4), events5, (.bool true), (.agg [(.int .i64 base1), (.int .i64 base2)]), (.bool (!r13)), (.agg [(.int .i64 r8), (.int .i64 r9)]), (.int .i64 i20), r7, (.bool (((r8) == 0) && (decide (i20 < (len28 : Int))))), d22, d23, d24, d25, d26] H27 (by kernel_rfl) ?_
      refine then_norm ?_
      refine w_ret ?_
      exact body_ret (vs := [(.bool true)]) _ (by kernel_rfl) rfl h

end Go.RM

