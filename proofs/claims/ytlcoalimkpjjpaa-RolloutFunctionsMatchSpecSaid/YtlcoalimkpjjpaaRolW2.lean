import Derived.Test.YtlcoalimkpjjpaaRmVc
/-
  Functions of the program as the abstract machine runs them, and what must be shown of a run: printed by RmPrint.
-/
namespace Go.RM
set_option linter.unusedVariables false
set_option maxRecDepth 4000
def rf_FDeployment_Step (nFDeployment_Drop nFDeployment_Active nFCountsValid nFVerdict : Nat) : RFunc := ⟨2, 32, [.part 2 (some 8), .var 3],
 ((.seq (.ops [⟨.tomb 1 (.var 0), none, (some 6), true⟩, ⟨.tomb 1 (.var 1), none, (some 4), true⟩, ⟨.tomb 1 (.k (.agg [.int .i64 0, .int .i64 0, .int .i64 0, .int .i64 0, .int .i64 0, .empty, .empty, .empty])), none, (some 2), true⟩, ⟨.move (.k (.int .i64 0)), none, (some 3), true⟩])
 ((.seq ((.seq (.ops [⟨.field 0 none (.var 4), none, none, true⟩, ⟨.field 0 none (.var 4), none, none, true⟩, ⟨.bin .lss .no (.loc 1) (.k (.int .i64 1)), none, none, true⟩, ⟨.move (.loc 2), none, none, true⟩, ⟨.field 0 none (.var 4), none, none, true⟩, ⟨.field 0 none (.var 4), none, none, true⟩, ⟨.bin .gtr .no (.loc 5) (.k (.int .i64 4)), none, none, true⟩, ⟨.pick (.loc 3) (.k (.bool true)) (.loc 6), none, (some 5), true⟩])
 (.cond (.var 5) ((.seq (.ops [⟨.field 0 (some 8) (.var 6), none, none, true⟩, ⟨.upd 8 0 (.var 2) (.loc 0), none, (some 2), true⟩, ⟨.move (.k (.int .i64 4)), none, (some 3), true⟩])
 (.ret))) (.skip))))
 ((.seq ((.seq (.ops [⟨.field 0 none (.var 4), none, none, true⟩, ⟨.field 0 none (.var 4), none, none, true⟩, ⟨.bin .eql .no (.loc 1) (.k (.int .i64 1)), none, none, true⟩, ⟨.move (.loc 2), none, none, true⟩, ⟨.field 0 none (.var 4), none, none, true⟩, ⟨.field 0 none (.var 4), none, none, true⟩, ⟨.bin .eql .no (.loc 5) (.k (.int .i64 4)), none, none, true⟩, ⟨.pick (.loc 3) (.k (.bool true)) (.loc 6), none, (some 7), true⟩])
 (.cond (.var 7) ((.seq (.ops [⟨.field 0 none (.var 4), none, none, true⟩, ⟨.field 2 none (.var 4), none, none, true⟩, ⟨.bin .neq .no (.loc 1) (.k (.int .i64 0)), none, (some 8), true⟩])
 (.cond (.var 8) ((.seq (.ops [⟨.field 0 (some 8) (.var 6), none, none, true⟩, ⟨.upd 8 0 (.var 2) (.loc 0), none, (some 2), true⟩, ⟨.move (.k (.int .i64 5)), none, (some 3), true⟩])
 (.ret))) (.skip)))) ((.seq (.ops [⟨.field 0 none (.var 4), none, none, true⟩, ⟨.field 1 none (.var 4), none, none, true⟩, ⟨.bin .neq .no (.loc 1) (.k (.int .i64 0)), none, (some 9), true⟩])
 (.cond (.var 9) ((.seq (.ops [⟨.field 0 (some 8) (.var 6), none, none, true⟩, ⟨.upd 8 0 (.var 2) (.loc 0), none, (some 2), true⟩, ⟨.move (.k (.int .i64 5)), none, (some 3), true⟩])
 (.ret))) (.skip)))))))
 ((.seq ((.seq (.ops [⟨.field 0 none (.var 4), none, none, true⟩, ⟨.field 0 none (.var 4), none, none, true⟩, ⟨.bin .neq .no (.loc 1) (.k (.int .i64 2)), none, none, true⟩, ⟨.move (.loc 2), none, none, true⟩, ⟨.field 0 none (.var 4), none, none, true⟩, ⟨.field 0 none (.var 4), none, none, true⟩, ⟨.field 3 none (.var 4), none, none, true⟩, ⟨.bin .neq .no (.loc 6) (.k (.int .i64 0)), none, none, true⟩, ⟨.move (.loc 7), none, none, true⟩, ⟨.field 0 none (.var 4), none, none, true⟩, ⟨.field 0 none (.var 4), none, none, true⟩, ⟨.field 4 none (.var 4), none, none, true⟩, ⟨.bin .neq .no (.loc 11) (.k (.int .i64 0)), none, none, true⟩, ⟨.pick (.loc 8) (.k (.bool true)) (.loc 12), none, none, true⟩, ⟨.pick (.loc 3) (.loc 13) (.k (.bool false)), none, (some 10), true⟩])
 (.cond (.var 10) ((.seq (.ops [⟨.field 0 (some 8) (.var 6), none, none, true⟩, ⟨.upd 8 0 (.var 2) (.loc 0), none, (some 2), true⟩, ⟨.move (.k (.int .i64 5)), none, (some 3), true⟩])
 (.ret))) (.skip))))
 ((.seq ((.seq (.ops [⟨.field 0 none (.var 4), none, none, true⟩, ⟨.field 2 none (.var 4), none, none, true⟩, ⟨.bin .lss .no (.loc 1) (.k (.int .i64 0)), none, none, true⟩, ⟨.move (.loc 2), none, none, true⟩, ⟨.field 0 none (.var 4), none, none, true⟩, ⟨.field 2 none (.var 4), none, none, true⟩, ⟨.field 0 none (.var 6), none, none, true⟩, ⟨.field 0 none (.var 6), none, none, true⟩, ⟨.bin .geq .no (.loc 5) (.loc 7), none, none, true⟩, ⟨.pick (.loc 3) (.k (.bool true)) (.loc 8), none, (some 11), true⟩])
 (.cond (.var 11) ((.seq (.ops [⟨.field 0 (some 8) (.var 6), none, none, true⟩, ⟨.upd 8 0 (.var 2) (.loc 0), none, (some 2), true⟩, ⟨.move (.k (.int .i64 3)), none, (some 3), true⟩])
 (.ret))) (.skip))))
 ((.seq ((.seq (.ops [⟨.field 0 none (.var 4), none, none, true⟩, ⟨.field 0 none (.var 4), none, none, true⟩, ⟨.bin .eql .no (.loc 1) (.k (.int .i64 4)), none, (some 12), true⟩])
 (.cond (.var 12) ((.seq ((.seq (.ops [⟨.move (.k (.int .i64 0)), none, (some 13), true⟩])
 (.block 0 (.loop ((.seq ((.seq (.ops [⟨.move (.var 13), none, none, true⟩, ⟨.field 0 none (.var 6), none, none, true⟩, ⟨.field 5 none (.var 6), none, none, true⟩, ⟨.len (.loc 2), none, none, true⟩, ⟨.bin .lss .no (.loc 0) (.loc 3), none, (some 14), true⟩])
 (.cond (.var 14) (.skip) (.exit 0))))
 ((.seq (.block 1 ((.seq (.ops [⟨.field 0 none (.var 6), none, none, false⟩, ⟨.field 5 none (.var 6), none, none, false⟩, ⟨.move (.var 13), none, none, false⟩, ⟨.indexAddr 1 (.loc 1) (.loc 2), none, none, false⟩, ⟨.load none (.loc 3), none, none, false⟩, ⟨.field 0 none (.var 4), none, none, false⟩, ⟨.field 1 none (.var 4), none, none, false⟩, ⟨.bin .eql .no (.loc 4) (.loc 6), none, (some 15), true⟩])
 (.cond (.var 15) ((.seq (.ops [⟨.field 0 (some 8) (.var 6), none, none, true⟩, ⟨.move (.var 13), none, none, true⟩, ⟨.callS nFDeployment_Drop [(.loc 0), (.loc 1)], none, none, true⟩, ⟨.upd 8 0 (.var 2) (.loc 2), none, (some 2), true⟩, ⟨.move (.k (.int .i64 0)), none, (some 3), true⟩])
 (.ret))) (.skip)))))
 (.ops [⟨.move (.var 13), none, none, true⟩, ⟨.bin .add .no (.loc 0) (.k (.int .i64 1)), none, none, true⟩, ⟨.move (.loc 1), none, (some 13), true⟩])))))))))
 ((.seq (.ops [⟨.field 0 (some 8) (.var 6), none, none, true⟩, ⟨.upd 8 0 (.var 2) (.loc 0), none, (some 2), true⟩, ⟨.move (.k (.int .i64 6)), none, (some 3), true⟩])
 (.ret))))) (.skip))))
 ((.seq (.ops [⟨.field 0 (some 8) (.var 6), none, none, true⟩, ⟨.field 0 none (.var 4), none, none, true⟩, ⟨.field 2 none (.var 4), none, none, true⟩, ⟨.callS nFDeployment_Active [(.loc 0), (.loc 2)], none, none, true⟩, ⟨.move (.loc 3), none, (some 18), true⟩])
 ((.seq ((.seq (.ops [⟨.field 0 none (.var 4), none, none, true⟩, ⟨.field 0 none (.var 4), none, none, true⟩, ⟨.bin .eql .no (.loc 1) (.k (.int .i64 1)), none, (some 16), true⟩])
 (.cond (.var 16) ((.seq ((.seq (.ops [⟨.field 0 none (.var 4), none, none, true⟩, ⟨.field 1 none (.var 4), none, none, true⟩, ⟨.bin .lss .no (.loc 1) (.k (.int .i64 1)), none, none, true⟩, ⟨.move (.loc 2), none, none, true⟩, ⟨.field 0 none (.var 4), none, none, true⟩, ⟨.field 1 none (.var 4), none, none, true⟩, ⟨.bin .gtr .no (.loc 5) (.k (.int .i64 1000000000)), none, none, true⟩, ⟨.pick (.loc 3) (.k (.bool true)) (.loc 6), none, (some 17), true⟩])
 (.cond (.var 17) ((.seq (.ops [⟨.field 0 (some 8) (.var 6), none, none, true⟩, ⟨.upd 8 0 (.var 2) (.loc 0), none, (some 2), true⟩, ⟨.move (.k (.int .i64 3)), none, (some 3), true⟩])
 (.ret))) (.skip))))
 ((.seq ((.seq (.ops [⟨.move (.var 18), none, none, true⟩, ⟨.bin .geq .no (.loc 0) (.k (.int .i64 0)), none, (some 19), true⟩])
 (.cond (.var 19) ((.seq (.ops [⟨.field 0 (some 8) (.var 6), none, none, true⟩, ⟨.upd 8 0 (.var 2) (.loc 0), none, (some 2), true⟩, ⟨.move (.k (.int .i64 15)), none, (some 3), true⟩])
 (.ret))) (.skip))))
 ((.seq (.ops [⟨.field 0 none (.var 6), none, none, true⟩, ⟨.field 5 none (.var 6), none, none, true⟩, ⟨.len (.loc 1), none, none, true⟩, ⟨.move (.loc 2), none, (some 20), true⟩])
 ((.seq ((.seq (.ops [⟨.move (.var 20), none, none, true⟩, ⟨.bin .gtr .no (.loc 0) (.k (.int .i64 0)), none, none, true⟩, ⟨.move (.loc 1), none, none, true⟩, ⟨.field 0 none (.var 4), none, none, false⟩, ⟨.field 1 none (.var 4), none, none, false⟩, ⟨.field 0 none (.var 6), none, none, false⟩, ⟨.field 5 none (.var 6), none, none, false⟩, ⟨.move (.var 20), none, none, false⟩, ⟨.bin .sub .no (.loc 7) (.k (.int .i64 1)), none, none, false⟩, ⟨.indexAddr 1 (.loc 6) (.loc 8), (some (2, true)), none, false⟩, ⟨.load none (.loc 9), (some (2, true)), none, false⟩, ⟨.bin .leq .no (.loc 4) (.loc 10), (some (2, true)), none, true⟩, ⟨.pick (.loc 2) (.loc 11) (.k (.bool false)), none, (some 21), true⟩])
 (.cond (.var 21) ((.seq (.ops [⟨.field 0 (some 8) (.var 6), none, none, true⟩, ⟨.upd 8 0 (.var 2) (.loc 0), none, (some 2), true⟩, ⟨.move (.k (.int .i64 16)), none, (some 3), true⟩])
 (.ret))) (.skip))))
 ((.seq (.ops [⟨.field 0 (some 8) (.var 6), none, none, true⟩, ⟨.callS nFDeployment_Drop [(.loc 0), (.k (.int .i64 (-1)))], none, none, true⟩, ⟨.tomb 1 (.k (.agg [.int .i64 0, .int .i64 0, .int .i64 0, .int .i64 0, .int .i64 0, .empty, .empty, .empty])), none, (some 22), true⟩, ⟨.upd 8 0 (.loc 2) (.loc 1), none, (some 22), true⟩])
 ((.seq (.ops [⟨.field 0 none (.var 22), none, none, true⟩, ⟨.field 5 none (.var 22), none, none, true⟩, ⟨.field 0 none (.var 4), none, none, true⟩, ⟨.field 1 none (.var 4), none, none, true⟩, ⟨.buildSlice 1 [.int .i64 0] [(0, 1, (.loc 3))] 1, none, none, true⟩, ⟨.append 1 8 (.loc 1) (.loc 4), none, none, true⟩, ⟨.field 0 none (.var 22), none, none, true⟩, ⟨.upd 1 5 (.var 22) (.loc 5), none, (some 22), true⟩])
 ((.seq (.ops [⟨.field 0 none (.var 22), none, none, true⟩, ⟨.field 6 none (.var 22), none, none, true⟩, ⟨.buildSlice 1 [.int .i64 0] [(0, 1, (.k (.int .i64 0)))] 1, none, none, true⟩, ⟨.append 1 8 (.loc 1) (.loc 2), none, none, true⟩, ⟨.field 0 none (.var 22), none, none, true⟩, ⟨.upd 1 6 (.var 22) (.loc 3), none, (some 22), true⟩])
 ((.seq (.ops [⟨.field 0 none (.var 22), none, none, true⟩, ⟨.field 7 none (.var 22), none, none, true⟩, ⟨.build [.int .i64 0, .int .i64 0] [], none, none, true⟩, ⟨.buildSlice 2 [.int .i64 0, .int .i64 0] [(0, 2, (.loc 2))] 1, none, none, true⟩, ⟨.append 2 16 (.loc 1) (.loc 3), none, none, true⟩, ⟨.field 0 none (.var 22), none, none, true⟩, ⟨.upd 1 7 (.var 22) (.loc 4), none, (some 22), true⟩])
 ((.seq (.ops [⟨.field 0 (some 8) (.var 22), none, none, true⟩, ⟨.upd 8 0 (.var 2) (.loc 0), none, (some 2), true⟩, ⟨.move (.k (.int .i64 0)), none, (some 3), true⟩])
 (.ret))))))))))))))))))) (.skip))))
 ((.seq ((.seq (.ops [⟨.field 0 none (.var 4), none, none, true⟩, ⟨.field 0 none (.var 4), none, none, true⟩, ⟨.bin .eql .no (.loc 1) (.k (.int .i64 2)), none, none, true⟩, ⟨.move (.loc 2), none, none, true⟩, ⟨.field 0 none (.var 4), none, none, true⟩, ⟨.field 3 (some 2) (.var 4), none, none, true⟩, ⟨.callS nFCountsValid [(.loc 5)], (some (3, true)), none, true⟩, ⟨.un .not (.loc 6), (some (3, true)), none, true⟩, ⟨.pick (.loc 3) (.loc 7) (.k (.bool false)), none, (some 23), true⟩])
 (.cond (.var 23) ((.seq (.ops [⟨.field 0 (some 8) (.var 6), none, none, true⟩, ⟨.upd 8 0 (.var 2) (.loc 0), none, (some 2), true⟩, ⟨.move (.k (.int .i64 3)), none, (some 3), true⟩])
 (.ret))) (.skip))))
 ((.seq ((.seq (.ops [⟨.move (.var 18), none, none, true⟩, ⟨.bin .lss .no (.loc 0) (.k (.int .i64 0)), none, (some 24), true⟩])
 (.cond (.var 24) ((.seq (.ops [⟨.field 0 (some 8) (.var 6), none, none, true⟩, ⟨.upd 8 0 (.var 2) (.loc 0), none, (some 2), true⟩, ⟨.move (.k (.int .i64 11)), none, (some 3), true⟩])
 (.ret))) (.skip))))
 ((.seq (.ops [⟨.field 0 (some 8) (.var 6), none, none, true⟩, ⟨.callS nFDeployment_Drop [(.loc 0), (.k (.int .i64 (-1)))], none, none, true⟩, ⟨.tomb 1 (.k (.agg [.int .i64 0, .int .i64 0, .int .i64 0, .int .i64 0, .int .i64 0, .empty, .empty, .empty])), none, (some 28), true⟩, ⟨.upd 8 0 (.loc 2) (.loc 1), none, (some 28), true⟩])
 ((.seq ((.seq (.ops [⟨.field 0 none (.var 4), none, none, true⟩, ⟨.field 0 none (.var 4), none, none, true⟩, ⟨.bin .eql .no (.loc 1) (.k (.int .i64 2)), none, (some 25), true⟩])
 (.cond (.var 25) ((.seq (.ops [⟨.field 0 none (.var 6), none, none, false⟩, ⟨.field 7 none (.var 6), none, none, false⟩, ⟨.move (.var 18), none, none, false⟩, ⟨.indexAddr 2 (.loc 1) (.loc 2), none, none, false⟩, ⟨.fieldAddr 0 (.loc 3), none, none, false⟩, ⟨.load none (.loc 4), none, none, false⟩, ⟨.field 0 none (.var 4), none, none, false⟩, ⟨.field 0 none (.var 4), none, none, false⟩, ⟨.field 3 none (.var 4), none, none, false⟩, ⟨.bin .add .no (.loc 5) (.loc 8), none, none, false⟩, ⟨.field 0 none (.var 6), none, none, false⟩, ⟨.field 7 none (.var 6), none, none, false⟩, ⟨.move (.var 18), none, none, false⟩, ⟨.indexAddr 2 (.loc 11) (.loc 12), none, none, false⟩, ⟨.fieldAddr 1 (.loc 13), none, none, false⟩, ⟨.load none (.loc 14), none, none, false⟩, ⟨.field 0 none (.var 4), none, none, false⟩, ⟨.field 0 none (.var 4), none, none, false⟩, ⟨.field 4 none (.var 4), none, none, false⟩, ⟨.bin .add .no (.loc 15) (.loc 18), none, none, false⟩, ⟨.build [.int .i64 0, .int .i64 0] [(0, 1, (.loc 9)), (1, 1, (.loc 19))], none, none, false⟩, ⟨.tomb 1 (.k (.agg [.int .i64 0, .int .i64 0])), none, (some 26), false⟩, ⟨.upd 2 0 (.loc 21) (.loc 20), none, (some 26), true⟩])
 ((.seq ((.seq (.ops [⟨.field 0 (some 2) (.var 26), none, none, true⟩, ⟨.callS nFCountsValid [(.loc 0)], none, none, true⟩, ⟨.un .not (.loc 1), none, (some 27), true⟩])
 (.cond (.var 27) ((.seq (.ops [⟨.field 0 (some 8) (.var 6), none, none, true⟩, ⟨.upd 8 0 (.var 2) (.loc 0), none, (some 2), true⟩, ⟨.move (.k (.int .i64 10)), none, (some 3), true⟩])
 (.ret))) (.skip))))
 ((.seq (.ops [⟨.field 0 none (.var 28), none, none, true⟩, ⟨.field 7 none (.var 28), none, none, true⟩, ⟨.move (.var 18), none, none, true⟩, ⟨.field 0 (some 2) (.var 26), none, none, true⟩, ⟨.indexAddr 2 (.loc 1) (.loc 2), none, none, true⟩, ⟨.store 2 (.loc 4) (.loc 3) [], none, none, true⟩])
 ((.seq ((.seq (.ops [⟨.field 0 none (.var 6), none, none, true⟩, ⟨.field 1 (some 2) (.var 6), none, none, true⟩, ⟨.field 0 (some 2) (.var 26), none, none, true⟩, ⟨.field 0 none (.var 6), none, none, true⟩, ⟨.field 3 none (.var 6), none, none, true⟩, ⟨.field 0 none (.var 6), none, none, true⟩, ⟨.field 4 none (.var 6), none, none, true⟩, ⟨.callS nFVerdict [(.loc 1), (.loc 2), (.loc 4), (.loc 6)], none, none, true⟩, ⟨.bin .eql .no (.loc 7) (.k (.int .i64 3)), none, (some 29), true⟩])
 (.cond (.var 29) ((.seq (.ops [⟨.field 0 (some 8) (.var 6), none, none, true⟩, ⟨.move (.var 18), none, none, true⟩, ⟨.callS nFDeployment_Drop [(.loc 0), (.loc 1)], none, none, true⟩, ⟨.upd 8 0 (.var 2) (.loc 2), none, (some 2), true⟩, ⟨.move (.k (.int .i64 0)), none, (some 3), true⟩])
 (.ret))) (.skip))))
 ((.seq (.ops [⟨.field 0 (some 8) (.var 28), none, none, true⟩, ⟨.upd 8 0 (.var 2) (.loc 0), none, (some 2), true⟩, ⟨.move (.k (.int .i64 0)), none, (some 3), true⟩])
 (.ret))))))))))) (.skip))))
 ((.seq ((.seq (.ops [⟨.field 0 none (.var 6), none, none, false⟩, ⟨.field 1 (some 2) (.var 6), none, none, false⟩, ⟨.field 0 none (.var 6), none, none, false⟩, ⟨.field 7 none (.var 6), none, none, false⟩, ⟨.move (.var 18), none, none, false⟩, ⟨.indexAddr 2 (.loc 3) (.loc 4), none, none, false⟩, ⟨.load (some 2) (.loc 5), none, none, false⟩, ⟨.field 0 none (.var 6), none, none, false⟩, ⟨.field 3 none (.var 6), none, none, false⟩, ⟨.field 0 none (.var 6), none, none, false⟩, ⟨.field 4 none (.var 6), none, none, false⟩, ⟨.callS nFVerdict [(.loc 1), (.loc 6), (.loc 8), (.loc 10)], none, none, true⟩, ⟨.bin .neq .no (.loc 11) (.k (.int .i64 2)), none, (some 30), true⟩])
 (.cond (.var 30) ((.seq (.ops [⟨.field 0 (some 8) (.var 6), none, none, true⟩, ⟨.upd 8 0 (.var 2) (.loc 0), none, (some 2), true⟩, ⟨.move (.k (.int .i64 11)), none, (some 3), true⟩])
 (.ret))) (.skip))))
 ((.seq ((.seq (.ops [⟨.field 0 none (.var 4), none, none, true⟩, ⟨.field 2 none (.var 4), none, none, true⟩, ⟨.bin .add .no (.loc 1) (.k (.int .i64 1)), none, none, true⟩, ⟨.field 0 none (.var 6), none, none, true⟩, ⟨.field 0 none (.var 6), none, none, true⟩, ⟨.bin .lss .no (.loc 2) (.loc 4), none, none, true⟩, ⟨.move (.loc 5), none, none, true⟩, ⟨.field 0 (some 8) (.var 6), none, none, true⟩, ⟨.field 0 none (.var 4), none, none, true⟩, ⟨.field 2 none (.var 4), none, none, true⟩, ⟨.bin .add .no (.loc 9) (.k (.int .i64 1)), none, none, true⟩, ⟨.callS nFDeployment_Active [(.loc 7), (.loc 10)], (some (6, true)), none, true⟩, ⟨.bin .geq .no (.loc 11) (.k (.int .i64 0)), (some (6, true)), none, true⟩, ⟨.pick (.loc 6) (.loc 12) (.k (.bool false)), none, (some 31), true⟩])
 (.cond (.var 31) ((.seq (.ops [⟨.field 0 (some 8) (.var 6), none, none, true⟩, ⟨.upd 8 0 (.var 2) (.loc 0), none, (some 2), true⟩, ⟨.move (.k (.int .i64 15)), none, (some 3), true⟩])
 (.ret))) (.skip))))
 ((.seq (.ops [⟨.field 0 none (.var 28), none, none, true⟩, ⟨.field 6 none (.var 28), none, none, true⟩, ⟨.move (.var 18), none, none, true⟩, ⟨.field 0 none (.var 4), none, none, true⟩, ⟨.field 2 none (.var 4), none, none, true⟩, ⟨.bin .add .no (.loc 4) (.k (.int .i64 1)), none, none, true⟩, ⟨.indexAddr 1 (.loc 1) (.loc 2), none, none, true⟩, ⟨.store 1 (.loc 6) (.loc 5) [], none, none, true⟩])
 ((.seq (.ops [⟨.field 0 none (.var 28), none, none, true⟩, ⟨.field 7 none (.var 28), none, none, true⟩, ⟨.move (.var 18), none, none, true⟩, ⟨.build [.int .i64 0, .int .i64 0] [], none, none, true⟩, ⟨.indexAddr 2 (.loc 1) (.loc 2), none, none, true⟩, ⟨.store 2 (.loc 4) (.loc 3) [], none, none, true⟩])
 ((.seq (.ops [⟨.field 0 (some 8) (.var 28), none, none, true⟩, ⟨.upd 8 0 (.var 2) (.loc 0), none, (some 2), true⟩, ⟨.move (.k (.int .i64 0)), none, (some 3), true⟩])
 (.ret)))))))))))))))))))))))))))))))))))⟩
theorem v_FDeployment_Step {F : Nat → Option RFunc} {me nFDeployment_Drop nFDeployment_Active nFCountsValid nFVerdict : Nat} (hF : F me = some (rf_FDeployment_Step nFDeployment_Drop nFDeployment_Active nFCountsValid nFVerdict)) {fl : Nat} {H : Heap} {Q : AV → Heap → Prop} (d0 : Int) (d1 : Int) (d2 : Int) (d3 : Int) (d4 : Int) (d5 : AV) (d6 : AV) (d7 : AV) (e8 : Int) (e9 : Int) (e10 : Int) (e11 : Int) (e12 : Int)
  (h : ∀ (H13 : Heap), Dead1 H 1 H13 → ∀ (H14 : Heap), Dead1 H13 1 H14 → ∀ (H15 : Heap), Dead1 H14 1 H15 → ((((e8 < 1) ∨ (e8 > 4))) → Scal d5 ∧ Scal d6 ∧ Scal d7 ∧ Q (.tuple [(.agg [(.int .i64 d0), (.int .i64 d1), (.int .i64 d2), (.int .i64 d3), (.int .i64 d4), d5, d6, d7]), (.int .i64 4)]) H15) ∧ (¬(((e8 < 1) ∨ (e8 > 4))) → ∃ (R19 : Int → Int → Int → Int → Int → AV → AV → AV → Prop), (((((e8 = 1) ∨ (e8 = 4))) → ((e10 ≠ 0) → Scal d5 ∧ Scal d6 ∧ Scal d7 ∧ Q (.tuple [(.agg [(.int .i64 d0), (.int .i64 d1), (.int .i64 d2), (.int .i64 d3), (.int .i64 d4), d5, d6, d7]), (.int .i64 5)]) H15) ∧ (¬(e10 ≠ 0) → R19 0 0 0 0 0 .empty .empty .empty)) ∧ (¬(((e8 = 1) ∨ (e8 = 4))) → ((e9 ≠ 0) → Scal d5 ∧ Scal d6 ∧ Scal d7 ∧ Q (.tuple [(.agg [(.int .i64 d0), (.int .i64 d1), (.int .i64 d2), (.int .i64 d3), (.int .i64 d4), d5, d6, d7]), (.int .i64 5)]) H15) ∧ (¬(e9 ≠ 0) → R19 0 0 0 0 0 .empty .empty .empty))) ∧ (∀ (v20 : Int) (v21 : Int) (v22 : Int) (v23 : Int) (v24 : Int) (v25 : AV) (v26 : AV) (v27 : AV), R19 v20 v21 v22 v23 v24 v25 v26 v27 → ((((e8 ≠ 2) ∧ (((e11 ≠ 0) ∨ (e12 ≠ 0))))) → Scal d5 ∧ Scal d6 ∧ Scal d7 ∧ Q (.tuple [(.agg [(.int .i64 d0), (.int .i64 d1), (.int .i64 d2), (.int .i64 d3), (.int .i64 d4), d5, d6, d7]), (.int .i64 5)]) H15) ∧ (¬(((e8 ≠ 2) ∧ (((e11 ≠ 0) ∨ (e12 ≠ 0))))) → ((((e10 < 0) ∨ (e10 ≥ d0))) → Scal d5 ∧ Scal d6 ∧ Scal d7 ∧ Q (.tuple [(.agg [(.int .i64 d0), (.int .i64 d1), (.int .i64 d2), (.int .i64 d3), (.int .i64 d4), d5, d6, d7]), (.int .i64 3)]) H15) ∧ (¬(((e10 < 0) ∨ (e10 ≥ d0))) → ((e8 = 4) → ∃ (J44 : Nat → Int → Int → Int → Int → Int → AV → AV → AV → Int → Heap → Prop) (k45 : Nat), J44 k45 v20 v21 v22 v23 v24 v25 v26 v27 0 H15 ∧ (∀ (m46 : Nat) (v47 : Int) (v48 : Int) (v49 : Int) (v50 : Int) (v51 : Int) (v52 : AV) (v53 : AV) (v54 : AV) (i56 : Int) (H59 : Heap), J44 m46 v47 v48 v49 v50 v51 v52 v53 v54 i56 H59 → ∃ len60 : Nat, lenA d5 = some len60 ∧ ((i56 < (len60 : Int)) → ∃ (e61 : Int), getA H59 1 none d5 i56 0 = some (.int .i64 e61) ∧ ((e61 = e9) → Ret F fl nFDeployment_Drop [(.agg [(.int .i64 d0), (.int .i64 d1), (.int .i64 d2), (.int .i64 d3), (.int .i64 d4), d5, d6, d7]), (.int .i64 i56)] H59 (fun v72 H71 => ∃ (r63 : Int) (r64 : Int) (r65 : Int) (r66 : Int) (r67 : Int) (r68 : AV) (r69 : AV) (r70 : AV), v72 = (.agg [(.int .i64 r63), (.int .i64 r64), (.int .i64 r65), (.int .i64 r66), (.int .i64 r67), r68, r69, r70]) ∧ Scal r68 ∧ Scal r69 ∧ Scal r70 ∧ Q (.tuple [(.agg [(.int .i64 r63), (.int .i64 r64), (.int .i64 r65), (.int .i64 r66), (.int .i64 r67), r68, r69, r70]), (.int .i64 0)]) H71)) ∧ (¬(e61 = e9) → ∃ m76 : Nat, m76 < m46 ∧ J44 m76 v47 v48 v49 v50 v51 v52 v53 v54 (IntKind.wrap .i64 (i56 + 1)) H59)) ∧ (¬(i56 < (len60 : Int)) → Scal d5 ∧ Scal d6 ∧ Scal d7 ∧ Q (.tuple [(.agg [(.int .i64 d0), (.int .i64 d1), (.int .i64 d2), (.int .i64 d3), (.int .i64 d4), d5, d6, d7]), (.int .i64 6)]) H59))) ∧ (¬(e8 = 4) → Ret F fl nFDeployment_Active [(.agg [(.int .i64 d0), (.int .i64 d1), (.int .i64 d2), (.int .i64 d3), (.int .i64 d4), d5, d6, d7]), (.int .i64 e10)] H15 (fun v82 H81 => ∃ (r80 : Int), v82 = (.int .i64 r80) ∧ ((e8 = 1) → ((((e9 < 1) ∨ (e9 > 1000000000))) → Scal d5 ∧ Scal d6 ∧ Scal d7 ∧ Q (.tuple [(.agg [(.int .i64 d0), (.int .i64 d1), (.int .i64 d2), (.int .i64 d3), (.int .i64 d4), d5, d6, d7]), (.int .i64 3)]) H81) ∧ (¬(((e9 < 1) ∨ (e9 > 1000000000))) → ((r80 ≥ 0) → Scal d5 ∧ Scal d6 ∧ Scal d7 ∧ Q (.tuple [(.agg [(.int .i64 d0), (.int .i64 d1), (.int .i64 d2), (.int .i64 d3), (.int .i64 d4), d5, d6, d7]), (.int .i64 15)]) H81) ∧ (¬(r80 ≥ 0) → ∃ len89 : Nat, lenA d5 = some len89 ∧ ∃ (R90 : Int → Int → Int → Int → Int → AV → AV → AV → Prop), ((((len89 : Int) > 0) → ∃ (e101 : Int), getA H81 1 none d5 (IntKind.wrap .i64 ((len89 : Int) - 1)) 0 = some (.int .i64 e101) ∧ ((e9 ≤ e101) → Scal d5 ∧ Scal d6 ∧ Scal d7 ∧ Q (.tuple [(.agg [(.int .i64 d0), (.int .i64 d1), (.int .i64 d2), (.int .i64 d3), (.int .i64 d4), d5, d6, d7]), (.int .i64 16)]) H81) ∧ (¬(e9 ≤ e101) → R90 v20 v21 v22 v23 v24 v25 v26 v27)) ∧ (¬((len89 : Int) > 0) → R90 v20 v21 v22 v23 v24 v25 v26 v27)) ∧ (∀ (v91 : Int) (v92 : Int) (v93 : Int) (v94 : Int) (v95 : Int) (v96 : AV) (v97 : AV) (v98 : AV), R90 v91 v92 v93 v94 v95 v96 v97 v98 → Ret F fl nFDeployment_Drop [(.agg [(.int .i64 d0), (.int .i64 d1), (.int .i64 d2), (.int .i64 d3), (.int .i64 d4), d5, d6, d7]), (.int .i64 (-1))] H81 (fun v115 H114 => ∃ (r106 : Int) (r107 : Int) (r108 : Int) (r109 : Int) (r110 : Int) (r111 : AV) (r112 : AV) (r113 : AV), v115 = (.agg [(.int .i64 r106), (.int .i64 r107), (.int .i64 r108), (.int .i64 r109), (.int .i64 r110), r111, r112, r113]) ∧ ∀ (H116 : Heap), Dead1 H114 1 H116 → Scal r111 ∧ Scal r112 ∧ Scal r113 ∧ ∀ (b120 : Nat) (H121 : Heap), NewB H116 1 [(.int .i64 e9)] b120 H121 → ∃ (a122 : AV) (H123 : Heap), appA fl true 1 8 H121 r111 (.slice b120 0 1 (some 1)) = some (a122, H123) ∧ Scal a122 ∧ ∀ (b125 : Nat) (H126 : Heap), NewB H123 1 [(.int .i64 0)] b125 H126 → ∃ (a127 : AV) (H128 : Heap), appA fl true 1 8 H126 r112 (.slice b125 0 1 (some 1)) = some (a127, H128) ∧ Scal a127 ∧ ∀ (b130 : Nat) (H131 : Heap), NewB H128 2 [(.int .i64 0), (.int .i64 0)] b130 H131 → ∃ (a132 : AV) (H133 : Heap), appA fl true 2 16 H131 r113 (.slice b130 0 1 (some 1)) = some (a132, H133) ∧ Scal a132 ∧ Q (.tuple [(.agg [(.int .i64 r106), (.int .i64 r107), (.int .i64 r108), (.int .i64 r109), (.int .i64 r110), a122, a127, a132]), (.int .i64 0)]) H133))))) ∧ (¬(e8 = 1) → ∃ (R135 : Int → Int → Int → Int → Int → AV → AV → AV → Heap → Prop), (((e8 = 2) → Ret F fl nFCountsValid [(.agg [(.int .i64 e11), (.int .i64 e12)])] H81 (fun v149 H148 => ∃ (r147 : Bool), v149 = (.bool r147) ∧ ((¬(r147 = true)) → Scal d5 ∧ Scal d6 ∧ Scal d7 ∧ Q (.tuple [(.agg [(.int .i64 d0), (.int .i64 d1), (.int .i64 d2), (.int .i64 d3), (.int .i64 d4), d5, d6, d7]), (.int .i64 3)]) H148) ∧ (¬(¬(r147 = true)) → R135 v20 v21 v22 v23 v24 v25 v26 v27 H148))) ∧ (¬(e8 = 2) → R135 v20 v21 v22 v23 v24 v25 v26 v27 H81)) ∧ (∀ (v136 : Int) (v137 : Int) (v138 : Int) (v139 : Int) (v140 : Int) (v141 : AV) (v142 : AV) (v143 : AV) (H146 : Heap), R135 v136 v137 v138 v139 v140 v141 v142 v143 H146 → ((r80 < 0) → Scal d5 ∧ Scal d6 ∧ Scal d7 ∧ Q (.tuple [(.agg [(.int .i64 d0), (.int .i64 d1), (.int .i64 d2), (.int .i64 d3), (.int .i64 d4), d5, d6, d7]), (.int .i64 11)]) H146) ∧ (¬(r80 < 0) → Ret F fl nFDeployment_Drop [(.agg [(.int .i64 d0), (.int .i64 d1), (.int .i64 d2), (.int .i64 d3), (.int .i64 d4), d5, d6, d7]), (.int .i64 (-1))] H146 (fun v165 H164 => ∃ (r156 : Int) (r157 : Int) (r158 : Int) (r159 : Int) (r160 : Int) (r161 : AV) (r162 : AV) (r163 : AV), v165 = (.agg [(.int .i64 r156), (.int .i64 r157), (.int .i64 r158), (.int .i64 r159), (.int .i64 r160), r161, r162, r163]) ∧ ∀ (H166 : Heap), Dead1 H164 1 H166 → Scal r161 ∧ Scal r162 ∧ Scal r163 ∧ ((e8 = 2) → ∃ (e170 : Int), getA H166 2 none d7 r80 0 = some (.int .i64 e170) ∧ ∃ (e172 : Int), getA H166 2 none d7 r80 1 = some (.int .i64 e172) ∧ ∀ (H174 : Heap), Dead1 H166 1 H174 → Ret F fl nFCountsValid [(.agg [(.int .i64 (IntKind.wrap .i64 (e170 + e11))), (.int .i64 (IntKind.wrap .i64 (e172 + e12)))])] H174 (fun v177 H176 => ∃ (r175 : Bool), v177 = (.bool r175) ∧ ((¬(r175 = true)) → Scal d5 ∧ Scal d6 ∧ Scal d7 ∧ Q (.tuple [(.agg [(.int .i64 d0), (.int .i64 d1), (.int .i64 d2), (.int .i64 d3), (.int .i64 d4), d5, d6, d7]), (.int .i64 10)]) H176) ∧ (¬(¬(r175 = true)) → ∃ b181 o182 : Nat, ptrA 2 r163 r80 = some (b181, o182) ∧ ∃ H183 : Heap, putA fl H176 b181 o182 2 (.agg [(.int .i64 (IntKind.wrap .i64 (e170 + e11))), (.int .i64 (IntKind.wrap .i64 (e172 + e12)))]) = some H183 ∧ Ret F fl nFVerdict [(.agg [(.int .i64 d1), (.int .i64 d2)]), (.agg [(.int .i64 (IntKind.wrap .i64 (e170 + e11))), (.int .i64 (IntKind.wrap .i64 (e172 + e12)))]), (.int .i64 d3), (.int .i64 d4)] H183 (fun v186 H185 => ∃ (r184 : Int), v186 = (.int .i64 r184) ∧ ((r184 = 3) → Ret F fl nFDeployment_Drop [(.agg [(.int .i64 d0), (.int .i64 d1), (.int .i64 d2), (.int .i64 d3), (.int .i64 d4), d5, d6, d7]), (.int .i64 r80)] H185 (fun v196 H195 => ∃ (r187 : Int) (r188 : Int) (r189 : Int) (r190 : Int) (r191 : Int) (r192 : AV) (r193 : AV) (r194 : AV), v196 = (.agg [(.int .i64 r187), (.int .i64 r188), (.int .i64 r189), (.int .i64 r190), (.int .i64 r191), r192, r193, r194]) ∧ Scal r192 ∧ Scal r193 ∧ Scal r194 ∧ Q (.tuple [(.agg [(.int .i64 r187), (.int .i64 r188), (.int .i64 r189), (.int .i64 r190), (.int .i64 r191), r192, r193, r194]), (.int .i64 0)]) H195)) ∧ (¬(r184 = 3) → Q (.tuple [(.agg [(.int .i64 r156), (.int .i64 r157), (.int .i64 r158), (.int .i64 r159), (.int .i64 r160), r161, r162, r163]), (.int .i64 0)]) H185))))) ∧ (¬(e8 = 2) → ∃ (e200 : Int) (e201 : Int), getA H166 2 (some 2) d7 r80 0 = some (.agg [(.int .i64 e200), (.int .i64 e201)]) ∧ Ret F fl nFVerdict [(.agg [(.int .i64 d1), (.int .i64 d2)]), (.agg [(.int .i64 e200), (.int .i64 e201)]), (.int .i64 d3), (.int .i64 d4)] H166 (fun v205 H204 => ∃ (r203 : Int), v205 = (.int .i64 r203) ∧ ((r203 ≠ 2) → Scal d5 ∧ Scal d6 ∧ Scal d7 ∧ Q (.tuple [(.agg [(.int .i64 d0), (.int .i64 d1), (.int .i64 d2), (.int .i64 d3), (.int .i64 d4), d5, d6, d7]), (.int .i64 11)]) H204) ∧ (¬(r203 ≠ 2) → (((IntKind.wrap .i64 (e10 + 1)) < d0) → Ret F fl nFDeployment_Active [(.agg [(.int .i64 d0), (.int .i64 d1), (.int .i64 d2), (.int .i64 d3), (.int .i64 d4), d5, d6, d7]), (.int .i64 (IntKind.wrap .i64 (e10 + 1)))] H204 (fun v211 H210 => ∃ (r209 : Int), v211 = (.int .i64 r209) ∧ ((r209 ≥ 0) → Scal d5 ∧ Scal d6 ∧ Scal d7 ∧ Q (.tuple [(.agg [(.int .i64 d0), (.int .i64 d1), (.int .i64 d2), (.int .i64 d3), (.int .i64 d4), d5, d6, d7]), (.int .i64 15)]) H210) ∧ (¬(r209 ≥ 0) → ∃ b215 o216 : Nat, ptrA 1 r162 r80 = some (b215, o216) ∧ ∃ H217 : Heap, putA fl H210 b215 o216 1 (.int .i64 (IntKind.wrap .i64 (e10 + 1))) = some H217 ∧ ∃ b218 o219 : Nat, ptrA 2 r163 r80 = some (b218, o219) ∧ ∃ H220 : Heap, putA fl H217 b218 o219 2 (.agg [(.int .i64 0), (.int .i64 0)]) = some H220 ∧ Q (.tuple [(.agg [(.int .i64 r156), (.int .i64 r157), (.int .i64 r158), (.int .i64 r159), (.int .i64 r160), r161, r162, r163]), (.int .i64 0)]) H220))) ∧ (¬((IntKind.wrap .i64 (e10 + 1)) < d0) → ∃ b221 o222 : Nat, ptrA 1 r162 r80 = some (b221, o222) ∧ ∃ H223 : Heap, putA fl H204 b221 o222 1 (.int .i64 (IntKind.wrap .i64 (e10 + 1))) = some H223 ∧ ∃ b224 o225 : Nat, ptrA 2 r163 r80 = some (b224, o225) ∧ ∃ H226 : Heap, putA fl H223 b224 o225 2 (.agg [(.int .i64 0), (.int .i64 0)]) = some H226 ∧ Q (.tuple [(.agg [(.int .i64 r156), (.int .i64 r157), (.int .i64 r158), (.int .i64 r159), (.int .i64 r160), r161, r162, r163]), (.int .i64 0)]) H226))))))))))))))) : Ret F fl me [(.agg [(.int .i64 d0), (.int .i64 d1), (.int .i64 d2), (.int .i64 d3), (.int .i64 d4), d5, d6, d7]), (.agg [(.int .i64 e8), (.int .i64 e9), (.int .i64 e10), (.int .i64 e11), (.int .i64 e12)])] H Q := by
  refine ret_intro hF rfl ?_
  refine w_seq ?_
  refine w_run [1, 1, 1, 0] ?_
  obtain ⟨H13, hb⟩ : ∃ H', Dead1 H 1 H' := ⟨_, ⟨rfl⟩⟩
  replace h := h H13 hb
  refine t_tomb true 1 (.agg [(.int .i64 d0), (.int .i64 d1), (.int .i64 d2), (.int .i64 d3), (.int .i64 d4), d5, d6, d7]) [(.int .i64 d0), (.int .i64 d1), (.int .i64 d2), (.int .i64 d3), (.int .i64 d4), d5, d6, d7] H13 H (by kernel_rfl) rfl hb ?_
  obtain ⟨H14, hb⟩ : ∃ H', Dead1 H13 1 H' := ⟨_, ⟨rfl⟩⟩
  replace h := h H14 hb
  refine t_tomb true 1 (.agg [(.int .i64 e8), (.int .i64 e9), (.int .i64 e10), (.int .i64 e11), (.int .i64 e12)]) [(.int .i64 e8), (.int .i64 e9), (.int .i64 e10), (.int .i64 e11), (.int .i64 e12)] H14 H13 (by kernel_rfl) rfl hb ?_
  obtain ⟨H15, hb⟩ : ∃ H', Dead1 H14 1 H' := ⟨_, ⟨rfl⟩⟩
  replace h := h H15 hb
  refine t_tomb true 1 (.agg [(.int .i64 0), (.int .i64 0), (.int .i64 0), (.int .i64 0), (.int .i64 0), .empty, .empty, .empty]) [(.int .i64 0), (.int .i64 0), (.int .i64 0), (.int .i64 0), (.int .i64 0), .empty, .empty, .empty] H15 H14 (by kernel_rfl) rfl hb ?_
  refine t_done [(.agg [(.int .i64 d0), (.int .i64 d1), (.int .i64 d2), (.int .i64 d3), (.int .i64 d4), d5, d6, d7]), (.agg [(.int .i64 e8), (.int .i64 e9), (.int .i64 e10), (.int .i64 e11), (.int .i64 e12)]), (.agg [(.int .i64 0), (.int .i64 0), (.int .i64 0), (.int .i64 0), (.int .i64 0), .empty, .empty, .empty]), (.int .i64 0), (.agg [(.int .i64 e8), (.int .i64 e9), (.int .i64 e10), (.int .i64 e11), (.int .i64 e12)]), .undef, (.agg [(.int .i64 d0), (.int .i64 d1), (.int .i64 d2), (.int .i64 d3), (.int .i64 d4), d5, d6, d7]), .undef, .undef, .undef, .undef, .undef, .undef, .undef, .undef, .undef, .undef, .undef, .undef, .undef, .undef, .undef, .undef, .undef, .undef, .undef, .undef, .undef, .undef, .undef, .undef, .undef] H15 (by kernel_rfl) ?_
  refine then_norm ?_
  refine w_seq ?_
  refine w_seq ?_
  refine w_run [0, 0, 0, 0, 0, 0, 0, 0] ?_
  refine t_done [(.agg [(.int .i64 d0), (.int .i64 d1), (.int .i64 d2), (.int .i64 d3), (.int .i64 d4), d5, d6, d7]), (.agg [(.int .i64 e8), (.int .i64 e9), (.int .i64 e10), (.int .i64 e11), (.int .i64 e12)]), (.agg [(.int .i64 0), (.int .i64 0), (.int .i64 0), (.int .i64 0), (.int .i64 0), .empty, .empty, .empty]), (.int .i64 0), (.agg [(.int .i64 e8), (.int .i64 e9), (.int .i64 e10), (.int .i64 e11), (.int .i64 e12)]), (.bool ((decide (e8 < 1)) || (decide (e8 > 4)))), (.agg [(.int .i64 d0), (.int .i64 d1), (.int .i64 d2), (.int .i64 d3), (.int .i64 d4), d5, d6, d7]), .undef, .undef, .undef, .undef, .undef, .undef, .undef, .undef, .undef, .undef, .undef, .undef, .undef, .undef, .undef, .undef, .undef, .undef, .undef, .undef, .undef, .undef, .undef, .undef, .undef] H15 (by kernel_rfl) ?_
  refine then_norm ?_
  refine w_cond (t := ((decide (e8 < 1)) || (decide (e8 > 4)))) rfl (fun hc => ?_) (fun hc => ?_)
  · replace h := h.1 ((is_or is_dec is_dec).t hc)
    refine w_seq ?_
    refine w_run [0, 1, 0] ?_
    obtain ⟨hs16, h⟩ := h
    obtain ⟨hs17, h⟩ := h
    obtain ⟨hs18, h⟩ := h
    refine t_upd true 8 0 [(.int .i64 0), (.int .i64 0), (.int .i64 0), (.int .i64 0), (.int .i64 0), .empty, .empty, .empty] (.agg [(.int .i64 d0), (.int .i64 d1), (.int .i64 d2), (.int .i64 d3), (.int .i64 d4), d5, d6, d7]) [(.int .i64 d0), (.int .i64 d1), (.int .i64 d2), (.int .i64 d3), (.int .i64 d4), d5, d6, d7] [(.int .i64 d0), (.int .i64 d1), (.int .i64 d2), (.int .i64 d3), (.int .i64 d4), d5, d6, d7] H15 (by kernel_rfl) rfl (all_c rfl (all_c rfl (all_c rfl (all_c rfl (all_c rfl (all_c hs16.2 (all_c hs17.2 (all_c hs18.2 all_n)))))))) ⟨rfl, Nat.le_of_ble_eq_true (by kernel_rfl), rfl⟩ ?_
    refine t_done [(.agg [(.int .i64 d0), (.int .i64 d1), (.int .i64 d2), (.int .i64 d3), (.int .i64 d4), d5, d6, d7]), (.agg [(.int .i64 e8), (.int .i64 e9), (.int .i64 e10), (.int .i64 e11), (.int .i64 e12)]), (.agg [(.int .i64 d0), (.int .i64 d1), (.int .i64 d2), (.int .i64 d3), (.int .i64 d4), d5, d6, d7]), (.int .i64 4), (.agg [(.int .i64 e8), (.int .i64 e9), (.int .i64 e10), (.int .i64 e11), (.int .i64 e12)]), (.bool ((decide (e8 < 1)) || (decide (e8 > 4)))), (.agg [(.int .i64 d0), (.int .i64 d1), (.int .i64 d2), (.int .i64 d3), (.int .i64 d4), d5, d6, d7]), .undef, .undef, .undef, .undef, .undef, .undef, .undef, .undef, .undef, .undef, .undef, .undef, .undef, .undef, .undef, .undef, .undef, .undef, .undef, .undef, .undef, .undef, .undef, .undef, .undef] H15 (by kernel_rfl) ?_
    refine then_norm ?_
    refine w_ret ?_
    refine then_ret ?_
    exact body_ret (vs := [(.agg [(.int .i64 d0), (.int .i64 d1), (.int .i64 d2), (.int .i64 d3), (.int .i64 d4), d5, d6, d7]), (.int .i64 4)]) _ (by kernel_rfl) rfl h
  · replace h := h.2 ((is_or is_dec is_dec).f hc)
    refine w_skip ?_
    refine then_norm ?_
    refine w_seq ?_
    obtain ⟨R19, h, hK⟩ := h
    refine w_join (fun EI HI => ∃ (v20 : Int) (v21 : Int) (v22 : Int) (v23 : Int) (v24 : Int) (v25 : AV) (v26 : AV) (v27 : AV) (d28 : AV) (d29 : AV) (d30 : AV) (d31 : AV), EI = [(.agg [(.int .i64 d0), (.int .i64 d1), (.int .i64 d2), (.int .i64 d3), (.int .i64 d4), d5, d6, d7]), (.agg [(.int .i64 e8), (.int .i64 e9), (.int .i64 e10), (.int .i64 e11), (.int .i64 e12)]), (.agg [(.int .i64 v20), (.int .i64 v21), (.int .i64 v22), (.int .i64 v23), (.int .i64 v24), v25, v26, v27]), d28, (.agg [(.int .i64 e8), (.int .i64 e9), (.int .i64 e10), (.int .i64 e11), (.int .i64 e12)]), (.bool ((decide (e8 < 1)) || (decide (e8 > 4)))), (.agg [(.int .i64 d0), (.int .i64 d1), (.int .i64 d2), (.int .i64 d3), (.int .i64 d4), d5, d6, d7]), d29, d30, d31, .undef, .undef, .undef, .undef, .undef, .undef, .undef, .undef, .undef, .undef, .undef, .undef, .undef, .undef, .undef, .undef, .undef, .undef, .undef, .undef, .undef, .undef] ∧ H15 = HI ∧ R19 v20 v21 v22 v23 v24 v25 v26 v27) ?_ ?_
    · clear hK
      refine w_seq ?_
      refine w_run [0, 0, 0, 0, 0, 0, 0, 0] ?_
      refine t_done [(.agg [(.int .i64 d0), (.int .i64 d1), (.int .i64 d2), (.int .i64 d3), (.int .i64 d4), d5, d6, d7]), (.agg [(.int .i64 e8), (.int .i64 e9), (.int .i64 e10), (.int .i64 e11), (.int .i64 e12)]), (.agg [(.int .i64 0), (.int .i64 0), (.int .i64 0), (.int .i64 0), (.int .i64 0), .empty, .empty, .empty]), (.int .i64 0), (.agg [(.int .i64 e8), (.int .i64 e9), (.int .i64 e10), (.int .i64 e11), (.int .i64 e12)]), (.bool ((decide (e8 < 1)) || (decide (e8 > 4)))), (.agg [(.int .i64 d0), (.int .i64 d1), (.int .i64 d2), (.int .i64 d3), (.int .i64 d4), d5, d6, d7]), (.bool (((e8) == 1) || ((e8) == 4))), .undef, .undef, .undef, .undef, .undef, .undef, .undef, .undef, .undef, .undef, .undef, .undef, .undef, .undef, .undef, .undef, .undef, .undef, .undef, .undef, .undef, .undef, .undef, .undef] H15 (by kernel_rfl) ?_
      refine then_norm ?_
      refine w_cond (t := (((e8) == 1) || ((e8) == 4))) rfl (fun hc => ?_) (fun hc => ?_)
      · replace h := h.1 ((is_or is_eq is_eq).t hc)
        refine w_seq ?_
        refine w_run [0, 0, 0] ?_
        refine t_done [(.agg [(.int .i64 d0), (.int .i64 d1), (.int .i64 d2), (.int .i64 d3), (.int .i64 d4), d5, d6, d7]), (.agg [(.int .i64 e8), (.int .i64 e9), (.int .i64 e10), (.int .i64 e11), (.int .i64 e12)]), (.agg [(.int .i64 0), (.int .i64 0), (.int .i64 0), (.int .i64 0), (.int .i64 0), .empty, .empty, .empty]), (.int .i64 0), (.agg [(.int .i64 e8), (.int .i64 e9), (.int .i64 e10), (.int .i64 e11), (.int .i64 e12)]), (.bool ((decide (e8 < 1)) || (decide (e8 > 4)))), (.agg [(.int .i64 d0), (.int .i64 d1), (.int .i64 d2), (.int .i64 d3), (.int .i64 d4), d5, d6, d7]), (.bool (((e8) == 1) || ((e8) == 4))), (.bool ((e10) != 0)), .undef, .undef, .undef, .undef, .undef, .undef, .undef, .undef, .undef, .undef, .undef, .undef, .undef, .undef, .undef, .undef, .undef, .undef, .undef, .undef, .undef, .undef, .undef] H15 (by kernel_rfl) ?_
        refine then_norm ?_
        refine w_cond (t := ((e10) != 0)) rfl (fun hc => ?_) (fun hc => ?_)
        · replace h := h.1 (is_ne.t hc)
          refine w_seq ?_
          refine w_run [0, 1, 0] ?_
          obtain ⟨hs32, h⟩ := h
          obtain ⟨hs33, h⟩ := h
          obtain ⟨hs34, h⟩ := h
          refine t_upd true 8 0 [(.int .i64 0), (.int .i64 0), (.int .i64 0), (.int .i64 0), (.int .i64 0), .empty, .empty, .empty] (.agg [(.int .i64 d0), (.int .i64 d1), (.int .i64 d2), (.int .i64 d3), (.int .i64 d4), d5, d6, d7]) [(.int .i64 d0), (.int .i64 d1), (.int .i64 d2), (.int .i64 d3), (.int .i64 d4), d5, d6, d7] [(.int .i64 d0), (.int .i64 d1), (.int .i64 d2), (.int .i64 d3), (.int .i64 d4), d5, d6, d7] H15 (by kernel_rfl) rfl (all_c rfl (all_c rfl (all_c rfl (all_c rfl (all_c rfl (all_c hs32.2 (all_c hs33.2 (all_c hs34.2 all_n)))))))) ⟨rfl, Nat.le_of_ble_eq_true (by kernel_rfl), rfl⟩ ?_
          refine t_done [(.agg [(.int .i64 d0), (.int .i64 d1), (.int .i64 d2), (.int .i64 d3), (.int .i64 d4), d5, d6, d7]), (.agg [(.int .i64 e8), (.int .i64 e9), (.int .i64 e10), (.int .i64 e11), (.int .i64 e12)]), (.agg [(.int .i64 d0), (.int .i64 d1), (.int .i64 d2), (.int .i64 d3), (.int .i64 d4), d5, d6, d7]), (.int .i64 5), (.agg [(.int .i64 e8), (.int .i64 e9), (.int .i64 e10), (.int .i64 e11), (.int .i64 e12)]), (.bool ((decide (e8 < 1)) || (decide (e8 > 4)))), (.agg [(.int .i64 d0), (.int .i64 d1), (.int .i64 d2), (.int .i64 d3), (.int .i64 d4), d5, d6, d7]), (.bool (((e8) == 1) || ((e8) == 4))), (.bool ((e10) != 0)), .undef, .undef, .undef, .undef, .undef, .undef, .undef, .undef, .undef, .undef, .undef, .undef, .undef, .undef, .undef, .undef, .undef, .undef, .undef, .undef, .undef, .undef, .undef] H15 (by kernel_rfl) ?_
          refine then_norm ?_
          refine w_ret ?_
          refine join_ret ?_
          refine then_ret ?_
          exact body_ret (vs := [(.agg [(.int .i64 d0), (.int .i64 d1), (.int .i64 d2), (.int .i64 d3), (.int .i64 d4), d5, d6, d7]), (.int .i64 5)]) _ (by kernel_rfl) rfl h
        · replace h := h.2 (is_ne.f hc)
          refine w_skip ?_
          refine join_norm ⟨_, _, _, _, _, _, _, _, _, _, _, _, rfl, rfl, h⟩
      · replace h := h.2 ((is_or is_eq is_eq).f hc)
        refine w_seq ?_
        refine w_run [0, 0, 0] ?_
        refine t_done [(.agg [(.int .i64 d0), (.int .i64 d1), (.int .i64 d2), (.int .i64 d3), (.int .i64 d4), d5, d6, d7]), (.agg [(.int .i64 e8), (.int .i64 e9), (.int .i64 e10), (.int .i64 e11), (.int .i64 e12)]), (.agg [(.int .i64 0), (.int .i64 0), (.int .i64 0), (.int .i64 0), (.int .i64 0), .empty, .empty, .empty]), (.int .i64 0), (.agg [(.int .i64 e8), (.int .i64 e9), (.int .i64 e10), (.int .i64 e11), (.int .i64 e12)]), (.bool ((decide (e8 < 1)) || (decide (e8 > 4)))), (.agg [(.int .i64 d0), (.int .i64 d1), (.int .i64 d2), (.int .i64 d3), (.int .i64 d4), d5, d6, d7]), (.bool (((e8) == 1) || ((e8) == 4))), .undef, (.bool ((e9) != 0)), .undef, .undef, .undef, .undef, .undef, .undef, .undef, .undef, .undef, .undef, .undef, .undef, .undef, .undef, .undef, .undef, .undef, .undef, .undef, .undef, .undef, .undef] H15 (by kernel_rfl) ?_
        refine then_norm ?_
        refine w_cond (t := ((e9) != 0)) rfl (fun hc => ?_) (fun hc => ?_)
        · replace h := h.1 (is_ne.t hc)
          refine w_seq ?_
          refine w_run [0, 1, 0] ?_
          obtain ⟨hs35, h⟩ := h
          obtain ⟨hs36, h⟩ := h
          obtain ⟨hs37, h⟩ := h
          refine t_upd true 8 0 [(.int .i64 0), (.int .i64 0), (.int .i64 0), (.int .i64 0), (.int .i64 0), .empty, .empty, .empty] (.agg [(.int .i64 d0), (.int .i64 d1), (.int .i64 d2), (.int .i64 d3), (.int .i64 d4), d5, d6, d7]) [(.int .i64 d0), (.int .i64 d1), (.int .i64 d2), (.int .i64 d3), (.int .i64 d4), d5, d6, d7] [(.int .i64 d0), (.int .i64 d1), (.int .i64 d2), (.int .i64 d3), (.int .i64 d4), d5, d6, d7] H15 (by kernel_rfl) rfl (all_c rfl (all_c rfl (all_c rfl (all_c rfl (all_c rfl (all_c hs35.2 (all_c hs36.2 (all_c hs37.2 all_n)))))))) ⟨rfl, Nat.le_of_ble_eq_true (by kernel_rfl), rfl⟩ ?_
          refine t_done [(.agg [(.int .i64 d0), (.int .i64 d1), (.int .i64 d2), (.int .i64 d3), (.int .i64 d4), d5, d6, d7]), (.agg [(.int .i64 e8), (.int .i64 e9), (.int .i64 e10), (.int .i64 e11), (.int .i64 e12)]), (.agg [(.int .i64 d0), (.int .i64 d1), (.int .i64 d2), (.int .i64 d3), (.int .i64 d4), d5, d6, d7]), (.int .i64 5), (.agg [(.int .i64 e8), (.int .i64 e9), (.int .i64 e10), (.int .i64 e11), (.int .i64 e12)]), (.bool ((decide (e8 < 1)) || (decide (e8 > 4)))), (.agg [(.int .i64 d0), (.int .i64 d1), (.int .i64 d2), (.int .i64 d3), (.int .i64 d4), d5, d6, d7]), (.bool (((e8) == 1) || ((e8) == 4))), .undef, (.bool ((e9) != 0)), .undef, .undef, .undef, .undef, .undef, .undef, .undef, .undef, .undef, .undef, .undef, .undef, .undef, .undef, .undef, .undef, .undef, .undef, .undef, .undef, .undef, .undef] H15 (by kernel_rfl) ?_
          refine then_norm ?_
          refine w_ret ?_
          refine join_ret ?_
          refine then_ret ?_
          exact body_ret (vs := [(.agg [(.int .i64 d0), (.int .i64 d1), (.int .i64 d2), (.int .i64 d3), (.int .i64 d4), d5, d6, d7]), (.int .i64 5)]) _ (by kernel_rfl) rfl h
        · replace h := h.2 (is_ne.f hc)
          refine w_skip ?_
          refine join_norm ⟨_, _, _, _, _, _, _, _, _, _, _, _, rfl, rfl, h⟩
    · clear h
      rintro EI HI ⟨v20, v21, v22, v23, v24, v25, v26, v27, d28, d29, d30, d31, rfl, rfl, hJ⟩
      have h := hK v20 v21 v22 v23 v24 v25 v26 v27 hJ
      clear hJ hK
      refine then_norm ?_
      refine w_seq ?_
      refine w_seq ?_
      refine w_run [0, 0, 0, 0, 0, 0, 0, 0, 0, 0, 0, 0, 0, 0, 0] ?_
      refine t_done [(.agg [(.int .i64 d0), (.int .i64 d1), (.int .i64 d2), (.int .i64 d3), (.int .i64 d4), d5, d6, d7]), (.agg [(.int .i64 e8), (.int .i64 e9), (.int .i64 e10), (.int .i64 e11), (.int .i64 e12)]), (.agg [(.int .i64 v20), (.int .i64 v21), (.int .i64 v22), (.int .i64 v23), (.int .i64 v24), v25, v26, v27]), d28, (.agg [(.int .i64 e8), (.int .i64 e9), (.int .i64 e10), (.int .i64 e11), (.int .i64 e12)]), (.bool ((decide (e8 < 1)) || (decide (e8 > 4)))), (.agg [(.int .i64 d0), (.int .i64 d1), (.int .i64 d2), (.int .i64 d3), (.int .i64 d4), d5, d6, d7]), d29, d30, d31, (.bool (((e8) != 2) && (((e11) != 0) || ((e12) != 0)))), .undef, .undef, .undef, .undef, .undef, .undef, .undef, .undef, .undef, .undef, .undef, .undef, .undef, .undef, .undef, .undef, .undef, .undef, .undef, .undef, .undef] H15 (by kernel_rfl) ?_
      refine then_norm ?_
      refine w_cond (t := (((e8) != 2) && (((e11) != 0) || ((e12) != 0)))) rfl (fun hc => ?_) (fun hc => ?_)
      · replace h := h.1 ((is_and is_ne (is_or is_ne is_ne)).t hc)
        refine w_seq ?_
        refine w_run [0, 1, 0] ?_
        obtain ⟨hs38, h⟩ := h
        obtain ⟨hs39, h⟩ := h
        obtain ⟨hs40, h⟩ := h
        refine t_upd true 8 0 [(.int .i64 v20), (.int .i64 v21), (.int .i64 v22), (.int .i64 v23), (.int .i64 v24), v25, v26, v27] (.agg [(.int .i64 d0), (.int .i64 d1), (.int .i64 d2), (.int .i64 d3), (.int .i64 d4), d5, d6, d7]) [(.int .i64 d0), (.int .i64 d1), (.int .i64 d2), (.int .i64 d3), (.int .i64 d4), d5, d6, d7] [(.int .i64 d0), (.int .i64 d1), (.int .i64 d2), (.int .i64 d3), (.int .i64 d4), d5, d6, d7] H15 (by kernel_rfl) rfl (all_c rfl (all_c rfl (all_c rfl (all_c rfl (all_c rfl (all_c hs38.2 (all_c hs39.2 (all_c hs40.2 all_n)))))))) ⟨rfl, Nat.le_of_ble_eq_true (by kernel_rfl), rfl⟩ ?_
        refine t_done [(.agg [(.int .i64 d0), (.int .i64 d1), (.int .i64 d2), (.int .i64 d3), (.int .i64 d4), d5, d6, d7]), (.agg [(.int .i64 e8), (.int .i64 e9), (.int .i64 e10), (.int .i64 e11), (.int .i64 e12)]), (.agg [(.int .i64 d0), (.int .i64 d1), (.int .i64 d2), (.int .i64 d3), (.int .i64 d4), d5, d6, d7]), (.int .i64 5), (.agg [(.int .i64 e8), (.int .i64 e9), (.int .i64 e10), (.int .i64 e11), (.int .i64 e12)]), (.bool ((decide (e8 < 1)) || (decide (e8 > 4)))), (.agg [(.int .i64 d0), (.int .i64 d1), (.int .i64 d2), (.int .i64 d3), (.int .i64 d4), d5, d6, d7]), d29, d30, d31, (.bool (((e8) != 2) && (((e11) != 0) || ((e12) != 0)))), .undef, .undef, .undef, .undef, .undef, .undef, .undef, .undef, .undef, .undef, .undef, .undef, .undef, .undef, .undef, .undef, .undef, .undef, .undef, .undef, .undef] H15 (by kernel_rfl) ?_
        refine then_norm ?_
        refine w_ret ?_
        refine then_ret ?_
        exact body_ret (vs := [(.agg [(.int .i64 d0), (.int .i64 d1), (.int .i64 d2), (.int .i64 d3), (.int .i64 d4), d5, d6, d7]), (.int .i64 5)]) _ (by kernel_rfl) rfl h
      · replace h := h.2 ((is_and is_ne (is_or is_ne is_ne)).f hc)
        refine w_skip ?_
        refine then_norm ?_
        refine w_seq ?_
        refine w_seq ?_
        refine w_run [0, 0, 0, 0, 0, 0, 0, 0, 0, 0] ?_
        refine t_done [(.agg [(.int .i64 d0), (.int .i64 d1), (.int .i64 d2), (.int .i64 d3), (.int .i64 d4), d5, d6, d7]), (.agg [(.int .i64 e8), (.int .i64 e9), (.int .i64 e10), (.int .i64 e11), (.int .i64 e12)]), (.agg [(.int .i64 v20), (.int .i64 v21), (.int .i64 v22), (.int .i64 v23), (.int .i64 v24), v25, v26, v27]), d28, (.agg [(.int .i64 e8), (.int .i64 e9), (.int .i64 e10), (.int .i64 e11), (.int .i64 e12)]), (.bool ((decide (e8 < 1)) || (decide (e8 > 4)))), (.agg [(.int .i64 d0), (.int .i64 d1), (.int .i64 d2), (.int .i64 d3), (.int .i64 d4), d5, d6, d7]), d29, d30, d31, (.bool (((e8) != 2) && (((e11) != 0) || ((e12) != 0)))), (.bool ((decide (e10 < 0)) || (decide (e10 ≥ d0)))), .undef, .undef, .undef, .undef, .undef, .undef, .undef, .undef, .undef, .undef, .undef, .undef, .undef, .undef, .undef, .undef, .undef, .undef, .undef, .undef] H15 (by kernel_rfl) ?_
        refine then_norm ?_
        refine w_cond (t := ((decide (e10 < 0)) || (decide (e10 ≥ d0)))) rfl (fun hc => ?_) (fun hc => ?_)
        · replace h := h.1 ((is_or is_dec is_dec).t hc)
          refine w_seq ?_
          refine w_run [0, 1, 0] ?_
          obtain ⟨hs41, h⟩ := h
          obtain ⟨hs42, h⟩ := h
          obtain ⟨hs43, h⟩ := h
          refine t_upd true 8 0 [(.int .i64 v20), (.int .i64 v21), (.int .i64 v22), (.int .i64 v23), (.int .i64 v24), v25, v26, v27] (.agg [(.int .i64 d0), (.int .i64 d1), (.int .i64 d2), (.int .i64 d3), (.int .i64 d4), d5, d6, d7]) [(.int .i64 d0), (.int .i64 d1), (.int .i64 d2), (.int .i64 d3), (.int .i64 d4), d5, d6, d7] [(.int .i64 d0), (.int .i64 d1), (.int .i64 d2), (.int .i64 d3), (.int .i64 d4), d5, d6, d7] H15 (by kernel_rfl) rfl (all_c rfl (all_c rfl (all_c rfl (all_c rfl (all_c rfl (all_c hs41.2 (all_c hs42.2 (all_c hs43.2 all_n)))))))) ⟨rfl, Nat.le_of_ble_eq_true (by kernel_rfl), rfl⟩ ?_
          refine t_done [(.agg [(.int .i64 d0), (.int .i64 d1), (.int .i64 d2), (.int .i64 d3), (.int .i64 d4), d5, d6, d7]), (.agg [(.int .i64 e8), (.int .i64 e9), (.int .i64 e10), (.int .i64 e11), (.int .i64 e12)]), (.agg [(.int .i64 d0), (.int .i64 d1), (.int .i64 d2), (.int .i64 d3), (.int .i64 d4), d5, d6, d7]), (.int .i64 3), (.agg [(.int .i64 e8), (.int .i64 e9), (.int .i64 e10), (.int .i64 e11), (.int .i64 e12)]), (.bool ((decide (e8 < 1)) || (decide (e8 > 4)))), (.agg [(.int .i64 d0), (.int .i64 d1), (.int .i64 d2), (.int .i64 d3), (.int .i64 d4), d5, d6, d7]), d29, d30, d31, (.bool (((e8) != 2) && (((e11) != 0) || ((e12) != 0)))), (.bool ((decide (e10 < 0)) || (decide (e10 ≥ d0)))), .undef, .undef, .undef, .undef, .undef, .undef, .undef, .undef, .undef, .undef, .undef, .undef, .undef, .undef, .undef, .undef, .undef, .undef, .undef, .undef] H15 (by kernel_rfl) ?_
          refine then_norm ?_
          refine w_ret ?_
          refine then_ret ?_
          exact body_ret (vs := [(.agg [(.int .i64 d0), (.int .i64 d1), (.int .i64 d2), (.int .i64 d3), (.int .i64 d4), d5, d6, d7]), (.int .i64 3)]) _ (by kernel_rfl) rfl h
        · replace h := h.2 ((is_or is_dec is_dec).f hc)
          refine w_skip ?_
          refine then_norm ?_
          refine w_seq ?_
          refine w_seq ?_
          refine w_run [0, 0, 0] ?_
          refine t_done [(.agg [(.int .i64 d0), (.int .i64 d1), (.int .i64 d2), (.int .i64 d3), (.int .i64 d4), d5, d6, d7]), (.agg [(.int .i64 e8), (.int .i64 e9), (.int .i64 e10), (.int .i64 e11), (.int .i64 e12)]), (.agg [(.int .i64 v20), (.int .i64 v21), (.int .i64 v22), (.int .i64 v23), (.int .i64 v24), v25, v26, v27]), d28, (.agg [(.int .i64 e8), (.int .i64 e9), (.int .i64 e10), (.int .i64 e11), (.int .i64 e12)]), (.bool ((decide (e8 < 1)) || (decide (e8 > 4)))), (.agg [(.int .i64 d0), (.int .i64 d1), (.int .i64 d2), (.int .i64 d3), (.int .i64 d4), d5, d6, d7]), d29, d30, d31, (.bool (((e8) != 2) && (((e11) != 0) || ((e12) != 0)))), (.bool ((decide (e10 < 0)) || (decide (e10 ≥ d0)))), (.bool ((e8) == 4)), .undef, .undef, .undef, .undef, .undef, .undef, .undef, .undef, .undef, .undef, .undef, .undef, .undef, .undef, .undef, .undef, .undef, .undef, .undef] H15 (by kernel_rfl) ?_
          refine then_norm ?_
          refine w_cond (t := ((e8) == 4)) rfl (fun hc => ?_) (fun hc => ?_)
          · replace h := h.1 (is_eq.t hc)
            refine w_seq ?_
            refine w_seq ?_
            refine w_run [0] ?_
            refine t_done [(.agg [(.int .i64 d0), (.int .i64 d1), (.int .i64 d2), (.int .i64 d3), (.int .i64 d4), d5, d6, d7]), (.agg [(.int .i64 e8), (.int .i64 e9), (.int .i64 e10), (.int .i64 e11), (.int .i64 e12)]), (.agg [(.int .i64 v20), (.int .i64 v21), (.int .i64 v22), (.int .i64 v23), (.int .i64 v24), v25, v26, v27]), d28, (.agg [(.int .i64 e8), (.int .i64 e9), (.int .i64 e10), (.int .i64 e11), (.int .i64 e12)]), (.bool ((decide (e8 < 1)) || (decide (e8 > 4)))), (.agg [(.int .i64 d0), (.int .i64 d1), (.int .i64 d2), (.int .i64 d3), (.int .i64 d4), d5, d6, d7]), d29, d30, d31, (.bool (((e8) != 2) && (((e11) != 0) || ((e12) != 0)))), (.bool ((decide (e10 < 0)) || (decide (e10 ≥ d0)))), (.bool ((e8) == 4)), (.int .i64 0), .undef, .undef, .undef, .undef, .undef, .undef, .undef, .undef, .undef, .undef, .undef, .undef, .undef, .undef, .undef, .undef, .undef, .undef] H15 (by kernel_rfl) ?_
            refine then_norm ?_
            refine w_block ?_
            obtain ⟨J44, k45, h0, h⟩ := h
            refine w_loop (I := fun mI EI HI => ∃ (v47 : Int) (v48 : Int) (v49 : Int) (v50 : Int) (v51 : Int) (v52 : AV) (v53 : AV) (v54 : AV) (d55 : AV) (i56 : Int) (d57 : AV) (d58 : AV), EI = [(.agg [(.int .i64 d0), (.int .i64 d1), (.int .i64 d2), (.int .i64 d3), (.int .i64 d4), d5, d6, d7]), (.agg [(.int .i64 e8), (.int .i64 e9), (.int .i64 e10), (.int .i64 e11), (.int .i64 e12)]), (.agg [(.int .i64 v47), (.int .i64 v48), (.int .i64 v49), (.int .i64 v50), (.int .i64 v51), v52, v53, v54]), d55, (.agg [(.int .i64 e8), (.int .i64 e9), (.int .i64 e10), (.int .i64 e11), (.int .i64 e12)]), (.bool ((decide (e8 < 1)) || (decide (e8 > 4)))), (.agg [(.int .i64 d0), (.int .i64 d1), (.int .i64 d2), (.int .i64 d3), (.int .i64 d4), d5, d6, d7]), d29, d30, d31, (.bool (((e8) != 2) && (((e11) != 0) || ((e12) != 0)))), (.bool ((decide (e10 < 0)) || (decide (e10 ≥ d0)))), (.bool ((e8) == 4)), (.int .i64 i56), d57, d58, .undef, .undef, .undef, .undef, .undef, .undef, .undef, .undef, .undef, .undef, .undef, .undef, .undef, .undef, .undef, .undef] ∧ J44 mI v47 v48 v49 v50 v51 v52 v53 v54 i56 HI) ?_ k45 ⟨_, _, _, _, _, _, _, _, _, _, _, _, rfl, h0⟩
            clear h0
            rintro m46 EI H59 ⟨v47, v48, v49, v50, v51, v52, v53, v54, d55, i56, d57, d58, rfl, hJ⟩
            replace h := h m46 v47 v48 v49 v50 v51 v52 v53 v54 i56 H59 hJ
            clear hJ
            refine w_seq ?_
            refine w_seq ?_
            refine w_run [0, 0, 0, 1, 0] ?_
            obtain ⟨len60, hl, h⟩ := h
            refine t_len true d5 len60 H59 (by kernel_rfl) hl ?_
            refine t_done [(.agg [(.int .i64 d0), (.int .i64 d1), (.int .i64 d2), (.int .i64 d3), (.int .i64 d4), d5, d6, d7]), (.agg [(.int .i64 e8), (.int .i64 e9), (.int .i64 e10), (.int .i64 e11), (.int .i64 e12)]), (.agg [(.int .i64 v47), (.int .i64 v48), (.int .i64 v49), (.int .i64 v50), (.int .i64 v51), v52, v53, v54]), d55, (.agg [(.int .i64 e8), (.int .i64 e9), (.int .i64 e10), (.int .i64 e11), (.int .i64 e12)]), (.bool ((decide (e8 < 1)) || (decide (e8 > 4)))), (.agg [(.int .i64 d0), (.int .i64 d1), (.int .i64 d2), (.int .i64 d3), (.int .i64 d4), d5, d6, d7]), d29, d30, d31, (.bool (((e8) != 2) && (((e11) != 0) || ((e12) != 0)))), (.bool ((decide (e10 < 0)) || (decide (e10 ≥ d0)))), (.bool ((e8) == 4)), (.int .i64 i56), (.bool (decide (i56 < (len60 : Int)))), d58, .undef, .undef, .undef, .undef, .undef, .undef, .undef, .undef, .undef, .undef, .undef, .undef, .undef, .undef, .undef, .undef] H59 (by kernel_rfl) ?_
            refine then_norm ?_
            refine w_cond (t := (decide (i56 < (len60 : Int)))) rfl (fun hc => ?_) (fun hc => ?_)
            · replace h := h.1 (is_dec.t hc)
              refine w_skip ?_
              refine then_norm ?_
              refine w_seq ?_
              refine w_block ?_
              refine w_seq ?_
              refine w_run [0, 0, 0, 1, 1, 0, 0, 0] ?_
              obtain ⟨e61, hg62, h⟩ := h
              refine t_idxG false 1 d5 .i64 i56 H59 (by kernel_rfl) hg62 ?_
              refine t_loadG false none 1 d5 i56 0 (.int .i64 e61) H59 (by kernel_rfl) hg62 ?_
              refine t_done [(.agg [(.int .i64 d0), (.int .i64 d1), (.int .i64 d2), (.int .i64 d3), (.int .i64 d4), d5, d6, d7]), (.agg [(.int .i64 e8), (.int .i64 e9), (.int .i64 e10), (.int .i64 e11), (.int .i64 e12)]), (.agg [(.int .i64 v47), (.int .i64 v48), (.int .i64 v49), (.int .i64 v50), (.int .i64 v51), v52, v53, v54]), d55, (.agg [(.int .i64 e8), (.int .i64 e9), (.int .i64 e10), (.int .i64 e11), (.int .i64 e12)]), (.bool ((decide (e8 < 1)) || (decide (e8 > 4)))), (.agg [(.int .i64 d0), (.int .i64 d1), (.int .i64 d2), (.int .i64 d3), (.int .i64 d4), d5, d6, d7]), d29, d30, d31, (.bool (((e8) != 2) && (((e11) != 0) || ((e12) != 0)))), (.bool ((decide (e10 < 0)) || (decide (e10 ≥ d0)))), (.bool ((e8) == 4)), (.int .i64 i56), (.bool (decide (i56 < (len60 : Int)))), (.bool ((e61) == e9)), .undef, .undef, .undef, .undef, .undef, .undef, .undef, .undef, .undef, .undef, .undef, .undef, .undef, .undef, .undef, .undef] H59 (by kernel_rfl) ?_
              refine then_norm ?_
              refine w_cond (t := ((e61) == e9)) rfl (fun hc => ?_) (fun hc => ?_)
              · replace h := h.1 (is_eq.t hc)
                refine w_seq ?_
                refine w_run [0, 0, 1, 1, 0] ?_
                refine t_call true nFDeployment_Drop [(.agg [(.int .i64 d0), (.int .i64 d1), (.int .i64 d2), (.int .i64 d3), (.int .i64 d4), d5, d6, d7]), (.int .i64 i56)] H59 (by kernel_rfl) h ?_
                clear h
                rintro _ H71 ⟨r63, r64, r65, r66, r67, r68, r69, r70, rfl, h⟩
                obtain ⟨hs73, h⟩ := h
                obtain ⟨hs74, h⟩ := h
                obtain ⟨hs75, h⟩ := h
                refine t_upd true 8 0 [(.int .i64 v47), (.int .i64 v48), (.int .i64 v49), (.int .i64 v50), (.int .i64 v51), v52, v53, v54] (.agg [(.int .i64 r63), (.int .i64 r64), (.int .i64 r65), (.int .i64 r66), (.int .i64 r67), r68, r69, r70]) [(.int .i64 r63), (.int .i64 r64), (.int .i64 r65), (.int .i64 r66), (.int .i64 r67), r68, r69, r70] [(.int .i64 r63), (.int .i64 r64), (.int .i64 r65), (.int .i64 r66), (.int .i64 r67), r68, r69, r70] H71 (by kernel_rfl) rfl (all_c rfl (all_c rfl (all_c rfl (all_c rfl (all_c rfl (all_c hs73.2 (all_c hs74.2 (all_c hs75.2 all_n)))))))) ⟨rfl, Nat.le_of_ble_eq_true (by kernel_rfl), rfl⟩ ?_
                refine t_done [(.agg [(.int .i64 d0), (.int .i64 d1), (.int .i64 d2), (.int .i64 d3), (.int .i64 d4), d5, d6, d7]), (.agg [(.int .i64 e8), (.int .i64 e9), (.int .i64 e10), (.int .i64 e11), (.int .i64 e12)]), (.agg [(.int .i64 r63), (.int .i64 r64), (.int .i64 r65), (.int .i64 r66), (.int .i64 r67), r68, r69, r70]), (.int .i64 0), (.agg [(.int .i64 e8), (.int .i64 e9), (.int .i64 e10), (.int .i64 e11), (.int .i64 e12)]), (.bool ((decide (e8 < 1)) || (decide (e8 > 4)))), (.agg [(.int .i64 d0), (.int .i64 d1), (.int .i64 d2), (.int .i64 d3), (.int .i64 d4), d5, d6, d7]), d29, d30, d31, (.bool (((e8) != 2) && (((e11) != 0) || ((e12) != 0)))), (.bool ((decide (e10 < 0)) || (decide (e10 ≥ d0)))), (.bool ((e8) == 4)), (.int .i64 i56), (.bool (decide (i56 < (len60 : Int)))), (.bool ((e61) == e9)), .undef, .undef, .undef, .undef, .undef, .undef, .undef, .undef, .undef, .undef, .undef, .undef, .undef, .undef, .undef, .undef] H71 (by kernel_rfl) ?_
                refine then_norm ?_
                refine w_ret ?_
                refine block_ret ?_
                refine then_ret ?_
                refine loop_ret ?_
                refine block_ret ?_
                refine then_ret ?_
                refine then_ret ?_
                exact body_ret (vs := [(.agg [(.int .i64 r63), (.int .i64 r64), (.int .i64 r65), (.int .i64 r66), (.int .i64 r67), r68, r69, r70]), (.int .i64 0)]) _ (by kernel_rfl) rfl h
              · replace h := h.2 (is_eq.f hc)
                refine w_skip ?_
                refine block_norm ?_
                refine then_norm ?_
                refine w_run [0, 0, 0] ?_
                refine t_done [(.agg [(.int .i64 d0), (.int .i64 d1), (.int .i64 d2), (.int .i64 d3), (.int .i64 d4), d5, d6, d7]), (.agg [(.int .i64 e8), (.int .i64 e9), (.int .i64 e10), (.int .i64 e11), (.int .i64 e12)]), (.agg [(.int .i64 v47), (.int .i64 v48), (.int .i64 v49), (.int .i64 v50), (.int .i64 v51), v52, v53, v54]), d55, (.agg [(.int .i64 e8), (.int .i64 e9), (.int .i64 e10), (.int .i64 e11), (.int .i64 e12)]), (.bool ((decide (e8 < 1)) || (decide (e8 > 4)))), (.agg [(.int .i64 d0), (.int .i64 d1), (.int .i64 d2), (.int .i64 d3), (.int .i64 d4), d5, d6, d7]), d29, d30, d31, (.bool (((e8) != 2) && (((e11) != 0) || ((e12) != 0)))), (.bool ((decide (e10 < 0)) || (decide (e10 ≥ d0)))), (.bool ((e8) == 4)), (.int .i64 (IntKind.wrap .i64 (i56 + 1))), (.bool (decide (i56 < (len60 : Int)))), (.bool ((e61) == e9)), .undef, .undef, .undef, .undef, .undef, .undef, .undef, .undef, .undef, .undef, .undef, .undef, .undef, .undef, .undef, .undef] H59 (by kernel_rfl) ?_
                obtain ⟨m', hm, h⟩ := h
                refine loop_norm ⟨m', hm, _, _, _, _, _, _, _, _, _, _, _, _, rfl, h⟩
            · replace h := h.2 (is_dec.f hc)
              refine w_exit ?_
              refine then_exit ?_
              refine loop_exit ?_
              refine block_exit ?_
              refine then_norm ?_
              refine w_seq ?_
              refine w_run [0, 1, 0] ?_
              obtain ⟨hs77, h⟩ := h
              obtain ⟨hs78, h⟩ := h
              obtain ⟨hs79, h⟩ := h
              refine t_upd true 8 0 [(.int .i64 v47), (.int .i64 v48), (.int .i64 v49), (.int .i64 v50), (.int .i64 v51), v52, v53, v54] (.agg [(.int .i64 d0), (.int .i64 d1), (.int .i64 d2), (.int .i64 d3), (.int .i64 d4), d5, d6, d7]) [(.int .i64 d0), (.int .i64 d1), (.int .i64 d2), (.int .i64 d3), (.int .i64 d4), d5, d6, d7] [(.int .i64 d0), (.int .i64 d1), (.int .i64 d2), (.int .i64 d3), (.int .i64 d4), d5, d6, d7] H59 (by kernel_rfl) rfl (all_c rfl (all_c rfl (all_c rfl (all_c rfl (all_c rfl (all_c hs77.2 (all_c hs78.2 (all_c hs79.2 all_n)))))))) ⟨rfl, Nat.le_of_ble_eq_true (by kernel_rfl), rfl⟩ ?_
              refine t_done [(.agg [(.int .i64 d0), (.int .i64 d1), (.int .i64 d2), (.int .i64 d3), (.int .i64 d4), d5, d6, d7]), (.agg [(.int .i64 e8), (.int .i64 e9), (.int .i64 e10), (.int .i64 e11), (.int .i64 e12)]), (.agg [(.int .i64 d0), (.int .i64 d1), (.int .i64 d2), (.int .i64 d3), (.int .i64 d4), d5, d6, d7]), (.int .i64 6), (.agg [(.int .i64 e8), (.int .i64 e9), (.int .i64 e10), (.int .i64 e11), (.int .i64 e12)]), (.bool ((decide (e8 < 1)) || (decide (e8 > 4)))), (.agg [(.int .i64 d0), (.int .i64 d1), (.int .i64 d2), (.int .i64 d3), (.int .i64 d4), d5, d6, d7]), d29, d30, d31, (.bool (((e8) != 2) && (((e11) != 0) || ((e12) != 0)))), (.bool ((decide (e10 < 0)) || (decide (e10 ≥ d0)))), (.bool ((e8) == 4)), (.int .i64 i56), (.bool (decide (i56 < (len60 : Int)))), d58, .undef, .undef, .undef, .undef, .undef, .undef, .undef, .undef, .undef, .undef, .undef, .undef, .undef, .undef, .undef, .undef] H59 (by kernel_rfl) ?_
              refine then_norm ?_
              refine w_ret ?_
              refine then_ret ?_
              exact body_ret (vs := [(.agg [(.int .i64 d0), (.int .i64 d1), (.int .i64 d2), (.int .i64 d3), (.int .i64 d4), d5, d6, d7]), (.int .i64 6)]) _ (by kernel_rfl) rfl h
          · replace h := h.2 (is_eq.f hc)
            refine w_skip ?_
            refine then_norm ?_
            refine w_seq ?_
            refine w_run [0, 0, 0, 1, 0] ?_
            refine t_call true nFDeployment_Active [(.agg [(.int .i64 d0), (.int .i64 d1), (.int .i64 d2), (.int .i64 d3), (.int .i64 d4), d5, d6, d7]), (.int .i64 e10)] H15 (by kernel_rfl) h ?_
            clear h
            rintro _ H81 ⟨r80, rfl, h⟩
            refine t_done [(.agg [(.int .i64 d0), (.int .i64 d1), (.int .i64 d2), (.int .i64 d3), (.int .i64 d4), d5, d6, d7]), (.agg [(.int .i64 e8), (.int .i64 e9), (.int .i64 e10), (.int .i64 e11), (.int .i64 e12)]), (.agg [(.int .i64 v20), (.int .i64 v21), (.int .i64 v22), (.int .i64 v23), (.int .i64 v24), v25, v26, v27]), d28, (.agg [(.int .i64 e8), (.int .i64 e9), (.int .i64 e10), (.int .i64 e11), (.int .i64 e12)]), (.bool ((decide (e8 < 1)) || (decide (e8 > 4)))), (.agg [(.int .i64 d0), (.int .i64 d1), (.int .i64 d2), (.int .i64 d3), (.int .i64 d4), d5, d6, d7]), d29, d30, d31, (.bool (((e8) != 2) && (((e11) != 0) || ((e12) != 0)))), (.bool ((decide (e10 < 0)) || (decide (e10 ≥ d0)))), (.bool ((e8) == 4)), .undef, .undef, .undef, .undef, .undef, (.int .i64 r80), .undef, .undef, .undef, .undef, .undef, .undef, .undef, .undef, .undef, .undef, .undef, .undef, .undef] H81 (by kernel_rfl) ?_
            refine then_norm ?_
            refine w_seq ?_
            refine w_seq ?_
            refine w_run [0, 0, 0] ?_
            refine t_done [(.agg [(.int .i64 d0), (.int .i64 d1), (.int .i64 d2), (.int .i64 d3), (.int .i64 d4), d5, d6, d7]), (.agg [(.int .i64 e8), (.int .i64 e9), (.int .i64 e10), (.int .i64 e11), (.int .i64 e12)]), (.agg [(.int .i64 v20), (.int .i64 v21), (.int .i64 v22), (.int .i64 v23), (.int .i64 v24), v25, v26, v27]), d28, (.agg [(.int .i64 e8), (.int .i64 e9), (.int .i64 e10), (.int .i64 e11), (.int .i64 e12)]), (.bool ((decide (e8 < 1)) || (decide (e8 > 4)))), (.agg [(.int .i64 d0), (.int .i64 d1), (.int .i64 d2), (.int .i64 d3), (.int .i64 d4), d5, d6, d7]), d29, d30, d31, (.bool (((e8) != 2) && (((e11) != 0) || ((e12) != 0)))), (.bool ((decide (e10 < 0)) || (decide (e10 ≥ d0)))), (.bool ((e8) == 4)), .undef, .undef, .undef, (.bool ((e8) == 1)), .undef, (.int .i64 r80), .undef, .undef, .undef, .undef, .undef, .undef, .undef, .undef, .undef, .undef, .undef, .undef, .undef] H81 (by kernel_rfl) ?_
            refine then_norm ?_
            refine w_cond (t := ((e8) == 1)) rfl (fun hc => ?_) (fun hc => ?_)
            · replace h := h.1 (is_eq.t hc)
              refine w_seq ?_
              refine w_seq ?_
              refine w_run [0, 0, 0, 0, 0, 0, 0, 0] ?_
              refine t_done [(.agg [(.int .i64 d0), (.int .i64 d1), (.int .i64 d2), (.int .i64 d3), (.int .i64 d4), d5, d6, d7]), (.agg [(.int .i64 e8), (.int .i64 e9), (.int .i64 e10), (.int .i64 e11), (.int .i64 e12)]), (.agg [(.int .i64 v20), (.int .i64 v21), (.int .i64 v22), (.int .i64 v23), (.int .i64 v24), v25, v26, v27]), d28, (.agg [(.int .i64 e8), (.int .i64 e9), (.int .i64 e10), (.int .i64 e11), (.int .i64 e12)]), (.bool ((decide (e8 < 1)) || (decide (e8 > 4)))), (.agg [(.int .i64 d0), (.int .i64 d1), (.int .i64 d2), (.int .i64 d3), (.int .i64 d4), d5, d6, d7]), d29, d30, d31, (.bool (((e8) != 2) && (((e11) != 0) || ((e12) != 0)))), (.bool ((decide (e10 < 0)) || (decide (e10 ≥ d0)))), (.bool ((e8) == 4)), .undef, .undef, .undef, (.bool ((e8) == 1)), (.bool ((decide (e9 < 1)) || (decide (e9 > 1000000000)))), (.int .i64 r80), .undef, .undef, .undef, .undef, .undef, .undef, .undef, .undef, .undef, .undef, .undef, .undef, .undef] H81 (by kernel_rfl) ?_
              refine then_norm ?_
              refine w_cond (t := ((decide (e9 < 1)) || (decide (e9 > 1000000000)))) rfl (fun hc => ?_) (fun hc => ?_)
              · replace h := h.1 ((is_or is_dec is_dec).t hc)
                refine w_seq ?_
                refine w_run [0, 1, 0] ?_
                obtain ⟨hs83, h⟩ := h
                obtain ⟨hs84, h⟩ := h
                obtain ⟨hs85, h⟩ := h
                refine t_upd true 8 0 [(.int .i64 v20), (.int .i64 v21), (.int .i64 v22), (.int .i64 v23), (.int .i64 v24), v25, v26, v27] (.agg [(.int .i64 d0), (.int .i64 d1), (.int .i64 d2), (.int .i64 d3), (.int .i64 d4), d5, d6, d7]) [(.int .i64 d0), (.int .i64 d1), (.int .i64 d2), (.int .i64 d3), (.int .i64 d4), d5, d6, d7] [(.int .i64 d0), (.int .i64 d1), (.int .i64 d2), (.int .i64 d3), (.int .i64 d4), d5, d6, d7] H81 (by kernel_rfl) rfl (all_c rfl (all_c rfl (all_c rfl (all_c rfl (all_c rfl (all_c hs83.2 (all_c hs84.2 (all_c hs85.2 all_n)))))))) ⟨rfl, Nat.le_of_ble_eq_true (by kernel_rfl), rfl⟩ ?_
                refine t_done [(.agg [(.int .i64 d0), (.int .i64 d1), (.int .i64 d2), (.int .i64 d3), (.int .i64 d4), d5, d6, d7]), (.agg [(.int .i64 e8), (.int .i64 e9), (.int .i64 e10), (.int .i64 e11), (.int .i64 e12)]), (.agg [(.int .i64 d0), (.int .i64 d1), (.int .i64 d2), (.int .i64 d3), (.int .i64 d4), d5, d6, d7]), (.int .i64 3), (.agg [(.int .i64 e8), (.int .i64 e9), (.int .i64 e10), (.int .i64 e11), (.int .i64 e12)]), (.bool ((decide (e8 < 1)) || (decide (e8 > 4)))), (.agg [(.int .i64 d0), (.int .i64 d1), (.int .i64 d2), (.int .i64 d3), (.int .i64 d4), d5, d6, d7]), d29, d30, d31, (.bool (((e8) != 2) && (((e11) != 0) || ((e12) != 0)))), (.bool ((decide (e10 < 0)) || (decide (e10 ≥ d0)))), (.bool ((e8) == 4)), .undef, .undef, .undef, (.bool ((e8) == 1)), (.bool ((decide (e9 < 1)) || (decide (e9 > 1000000000)))), (.int .i64 r80), .undef, .undef, .undef, .undef, .undef, .undef, .undef, .undef, .undef, .undef, .undef, .undef, .undef] H81 (by kernel_rfl) ?_
                refine then_norm ?_
                refine w_ret ?_
                refine then_ret ?_
                refine then_ret ?_
                exact body_ret (vs := [(.agg [(.int .i64 d0), (.int .i64 d1), (.int .i64 d2), (.int .i64 d3), (.int .i64 d4), d5, d6, d7]), (.int .i64 3)]) _ (by kernel_rfl) rfl h
              · replace h := h.2 ((is_or is_dec is_dec).f hc)
                refine w_skip ?_
                refine then_norm ?_
                refine w_seq ?_
                refine w_seq ?_
                refine w_run [0, 0] ?_
                refine t_done [(.agg [(.int .i64 d0), (.int .i64 d1), (.int .i64 d2), (.int .i64 d3), (.int .i64 d4), d5, d6, d7]), (.agg [(.int .i64 e8), (.int .i64 e9), (.int .i64 e10), (.int .i64 e11), (.int .i64 e12)]), (.agg [(.int .i64 v20), (.int .i64 v21), (.int .i64 v22), (.int .i64 v23), (.int .i64 v24), v25, v26, v27]), d28, (.agg [(.int .i64 e8), (.int .i64 e9), (.int .i64 e10), (.int .i64 e11), (.int .i64 e12)]), (.bool ((decide (e8 < 1)) || (decide (e8 > 4)))), (.agg [(.int .i64 d0), (.int .i64 d1), (.int .i64 d2), (.int .i64 d3), (.int .i64 d4), d5, d6, d7]), d29, d30, d31, (.bool (((e8) != 2) && (((e11) != 0) || ((e12) != 0)))), (.bool ((decide (e10 < 0)) || (decide (e10 ≥ d0)))), (.bool ((e8) == 4)), .undef, .undef, .undef, (.bool ((e8) == 1)), (.bool ((decide (e9 < 1)) || (decide (e9 > 1000000000)))), (.int .i64 r80), (.bool (decide (r80 ≥ 0))), .undef, .undef, .undef, .undef, .undef, .undef, .undef, .undef, .undef, .undef, .undef, .undef] H81 (by kernel_rfl) ?_
                refine then_norm ?_
                refine w_cond (t := (decide (r80 ≥ 0))) rfl (fun hc => ?_) (fun hc => ?_)
                · replace h := h.1 (is_dec.t hc)
                  refine w_seq ?_
                  refine w_run [0, 1, 0] ?_
                  obtain ⟨hs86, h⟩ := h
                  obtain ⟨hs87, h⟩ := h
                  obtain ⟨hs88, h⟩ := h
                  refine t_upd true 8 0 [(.int .i64 v20), (.int .i64 v21), (.int .i64 v22), (.int .i64 v23), (.int .i64 v24), v25, v26, v27] (.agg [(.int .i64 d0), (.int .i64 d1), (.int .i64 d2), (.int .i64 d3), (.int .i64 d4), d5, d6, d7]) [(.int .i64 d0), (.int .i64 d1), (.int .i64 d2), (.int .i64 d3), (.int .i64 d4), d5, d6, d7] [(.int .i64 d0), (.int .i64 d1), (.int .i64 d2), (.int .i64 d3), (.int .i64 d4), d5, d6, d7] H81 (by kernel_rfl) rfl (all_c rfl (all_c rfl (all_c rfl (all_c rfl (all_c rfl (all_c hs86.2 (all_c hs87.2 (all_c hs88.2 all_n)))))))) ⟨rfl, Nat.le_of_ble_eq_true (by kernel_rfl), rfl⟩ ?_
                  refine t_done [(.agg [(.int .i64 d0), (.int .i64 d1), (.int .i64 d2), (.int .i64 d3), (.int .i64 d4), d5, d6, d7]), (.agg [(.int .i64 e8), (.int .i64 e9), (.int .i64 e10), (.int .i64 e11), (.int .i64 e12)]), (.agg [(.int .i64 d0), (.int .i64 d1), (.int .i64 d2), (.int .i64 d3), (.int .i64 d4), d5, d6, d7]), (.int .i64 15), (.agg [(.int .i64 e8), (.int .i64 e9), (.int .i64 e10), (.int .i64 e11), (.int .i64 e12)]), (.bool ((decide (e8 < 1)) || (decide (e8 > 4)))), (.agg [(.int .i64 d0), (.int .i64 d1), (.int .i64 d2), (.int .i64 d3), (.int .i64 d4), d5, d6, d7]), d29, d30, d31, (.bool (((e8) != 2) && (((e11) != 0) || ((e12) != 0)))), (.bool ((decide (e10 < 0)) || (decide (e10 ≥ d0)))), (.bool ((e8) == 4)), .undef, .undef, .undef, (.bool ((e8) == 1)), (.bool ((decide (e9 < 1)) || (decide (e9 > 1000000000)))), (.int .i64 r80), (.bool (decide (r80 ≥ 0))), .undef, .undef, .undef, .undef, .undef, .undef, .undef, .undef, .undef, .undef, .undef, .undef] H81 (by kernel_rfl) ?_
                  refine then_norm ?_
                  refine w_ret ?_
                  refine then_ret ?_
                  refine then_ret ?_
                  exact body_ret (vs := [(.agg [(.int .i64 d0), (.int .i64 d1), (.int .i64 d2), (.int .i64 d3), (.int .i64 d4), d5, d6, d7]), (.int .i64 15)]) _ (by kernel_rfl) rfl h
                · replace h := h.2 (is_dec.f hc)
                  refine w_skip ?_
                  refine then_norm ?_
                  refine w_seq ?_
                  refine w_run [0, 0, 1, 0] ?_
                  obtain ⟨len89, hl, h⟩ := h
                  refine t_len true d5 len89 H81 (by kernel_rfl) hl ?_
                  refine t_done [(.agg [(.int .i64 d0), (.int .i64 d1), (.int .i64 d2), (.int .i64 d3), (.int .i64 d4), d5, d6, d7]), (.agg [(.int .i64 e8), (.int .i64 e9), (.int .i64 e10), (.int .i64 e11), (.int .i64 e12)]), (.agg [(.int .i64 v20), (.int .i64 v21), (.int .i64 v22), (.int .i64 v23), (.int .i64 v24), v25, v26, v27]), d28, (.agg [(.int .i64 e8), (.int .i64 e9), (.int .i64 e10), (.int .i64 e11), (.int .i64 e12)]), (.bool ((decide (e8 < 1)) || (decide (e8 > 4)))), (.agg [(.int .i64 d0), (.int .i64 d1), (.int .i64 d2), (.int .i64 d3), (.int .i64 d4), d5, d6, d7]), d29, d30, d31, (.bool (((e8) != 2) && (((e11) != 0) || ((e12) != 0)))), (.bool ((decide (e10 < 0)) || (decide (e10 ≥ d0)))), (.bool ((e8) == 4)), .undef, .undef, .undef, (.bool ((e8) == 1)), (.bool ((decide (e9 < 1)) || (decide (e9 > 1000000000)))), (.int .i64 r80), (.bool (decide (r80 ≥ 0))), (.int .i64 (len89 : Int)), .undef, .undef, .undef, .undef, .undef, .undef, .undef, .undef, .undef, .undef, .undef] H81 (by kernel_rfl) ?_
                  refine then_norm ?_
                  refine w_seq ?_
                  obtain ⟨R90, h, hK⟩ := h
                  refine w_join (fun EI HI => ∃ (v91 : Int) (v92 : Int) (v93 : Int) (v94 : Int) (v95 : Int) (v96 : AV) (v97 : AV) (v98 : AV) (d99 : AV) (d100 : AV), EI = [(.agg [(.int .i64 d0), (.int .i64 d1), (.int .i64 d2), (.int .i64 d3), (.int .i64 d4), d5, d6, d7]), (.agg [(.int .i64 e8), (.int .i64 e9), (.int .i64 e10), (.int .i64 e11), (.int .i64 e12)]), (.agg [(.int .i64 v91), (.int .i64 v92), (.int .i64 v93), (.int .i64 v94), (.int .i64 v95), v96, v97, v98]), d99, (.agg [(.int .i64 e8), (.int .i64 e9), (.int .i64 e10), (.int .i64 e11), (.int .i64 e12)]), (.bool ((decide (e8 < 1)) || (decide (e8 > 4)))), (.agg [(.int .i64 d0), (.int .i64 d1), (.int .i64 d2), (.int .i64 d3), (.int .i64 d4), d5, d6, d7]), d29, d30, d31, (.bool (((e8) != 2) && (((e11) != 0) || ((e12) != 0)))), (.bool ((decide (e10 < 0)) || (decide (e10 ≥ d0)))), (.bool ((e8) == 4)), .undef, .undef, .undef, (.bool ((e8) == 1)), (.bool ((decide (e9 < 1)) || (decide (e9 > 1000000000)))), (.int .i64 r80), (.bool (decide (r80 ≥ 0))), (.int .i64 (len89 : Int)), d100, .undef, .undef, .undef, .undef, .undef, .undef, .undef, .undef, .undef, .undef] ∧ H81 = HI ∧ R90 v91 v92 v93 v94 v95 v96 v97 v98) ?_ ?_
                  · clear hK
                    refine w_seq ?_
                    refine w_run [0, 0, 0, 0, 0, 0, 0, 0, 0, 3, 3, 2, 0] ?_
                    refine t_gd (decide ((len89 : Int) > 0)) true (by kernel_rfl) (fun hc => ?_) (fun hc => ?_)
                    · replace h := h.1 (is_dec.t hc)
                      obtain ⟨e101, hg102, h⟩ := h
                      refine t_idxG false 1 d5 .i64 (IntKind.wrap .i64 ((len89 : Int) - 1)) H81 (by kernel_rfl) hg102 ?_
                      refine t_gd true true (by kernel_rfl) (fun _ => ?_) (fun hn => by cases hn)
                      refine t_loadG false none 1 d5 (IntKind.wrap .i64 ((len89 : Int) - 1)) 0 (.int .i64 e101) H81 (by kernel_rfl) hg102 ?_
                      refine t_gd true true (by kernel_rfl) (fun _ => ?_) (fun hn => by cases hn)
                      refine t_done [(.agg [(.int .i64 d0), (.int .i64 d1), (.int .i64 d2), (.int .i64 d3), (.int .i64 d4), d5, d6, d7]), (.agg [(.int .i64 e8), (.int .i64 e9), (.int .i64 e10), (.int .i64 e11), (.int .i64 e12)]), (.agg [(.int .i64 v20), (.int .i64 v21), (.int .i64 v22), (.int .i64 v23), (.int .i64 v24), v25, v26, v27]), d28, (.agg [(.int .i64 e8), (.int .i64 e9), (.int .i64 e10), (.int .i64 e11), (.int .i64 e12)]), (.bool ((decide (e8 < 1)) || (decide (e8 > 4)))), (.agg [(.int .i64 d0), (.int .i64 d1), (.int .i64 d2), (.int .i64 d3), (.int .i64 d4), d5, d6, d7]), d29, d30, d31, (.bool (((e8) != 2) && (((e11) != 0) || ((e12) != 0)))), (.bool ((decide (e10 < 0)) || (decide (e10 ≥ d0)))), (.bool ((e8) == 4)), .undef, .undef, .undef, (.bool ((e8) == 1)), (.bool ((decide (e9 < 1)) || (decide (e9 > 1000000000)))), (.int .i64 r80), (.bool (decide (r80 ≥ 0))), (.int .i64 (len89 : Int)), (.bool (decide (e9 ≤ e101))), .undef, .undef, .undef, .undef, .undef, .undef, .undef, .undef, .undef, .undef] H81 (by kernel_rfl) ?_
                      refine then_norm ?_
                      refine w_cond (t := (decide (e9 ≤ e101))) rfl (fun hc => ?_) (fun hc => ?_)
                      · replace h := h.1 (is_dec.t hc)
                        refine w_seq ?_
                        refine w_run [0, 1, 0] ?_
                        obtain ⟨hs103, h⟩ := h
                        obtain ⟨hs104, h⟩ := h
                        obtain ⟨hs105, h⟩ := h
                        refine t_upd true 8 0 [(.int .i64 v20), (.int .i64 v21), (.int .i64 v22), (.int .i64 v23), (.int .i64 v24), v25, v26, v27] (.agg [(.int .i64 d0), (.int .i64 d1), (.int .i64 d2), (.int .i64 d3), (.int .i64 d4), d5, d6, d7]) [(.int .i64 d0), (.int .i64 d1), (.int .i64 d2), (.int .i64 d3), (.int .i64 d4), d5, d6, d7] [(.int .i64 d0), (.int .i64 d1), (.int .i64 d2), (.int .i64 d3), (.int .i64 d4), d5, d6, d7] H81 (by kernel_rfl) rfl (all_c rfl (all_c rfl (all_c rfl (all_c rfl (all_c rfl (all_c hs103.2 (all_c hs104.2 (all_c hs105.2 all_n)))))))) ⟨rfl, Nat.le_of_ble_eq_true (by kernel_rfl), rfl⟩ ?_
                        refine t_done [(.agg [(.int .i64 d0), (.int .i64 d1), (.int .i64 d2), (.int .i64 d3), (.int .i64 d4), d5, d6, d7]), (.agg [(.int .i64 e8), (.int .i64 e9), (.int .i64 e10), (.int .i64 e11), (.int .i64 e12)]), (.agg [(.int .i64 d0), (.int .i64 d1), (.int .i64 d2), (.int .i64 d3), (.int .i64 d4), d5, d6, d7]), (.int .i64 16), (.agg [(.int .i64 e8), (.int .i64 e9), (.int .i64 e10), (.int .i64 e11), (.int .i64 e12)]), (.bool ((decide (e8 < 1)) || (decide (e8 > 4)))), (.agg [(.int .i64 d0), (.int .i64 d1), (.int .i64 d2), (.int .i64 d3), (.int .i64 d4), d5, d6, d7]), d29, d30, d31, (.bool (((e8) != 2) && (((e11) != 0) || ((e12) != 0)))), (.bool ((decide (e10 < 0)) || (decide (e10 ≥ d0)))), (.bool ((e8) == 4)), .undef, .undef, .undef, (.bool ((e8) == 1)), (.bool ((decide (e9 < 1)) || (decide (e9 > 1000000000)))), (.int .i64 r80), (.bool (decide (r80 ≥ 0))), (.int .i64 (len89 : Int)), (.bool (decide (e9 ≤ e101))), .undef, .undef, .undef, .undef, .undef, .undef, .undef, .undef, .undef, .undef] H81 (by kernel_rfl) ?_
                        refine then_norm ?_
                        refine w_ret ?_
                        refine join_ret ?_
                        refine then_ret ?_
                        refine then_ret ?_
                        exact body_ret (vs := [(.agg [(.int .i64 d0), (.int .i64 d1), (.int .i64 d2), (.int .i64 d3), (.int .i64 d4), d5, d6, d7]), (.int .i64 16)]) _ (by kernel_rfl) rfl h
                      · replace h := h.2 (is_dec.f hc)
                        refine w_skip ?_
                        refine join_norm ⟨_, _, _, _, _, _, _, _, _, _, rfl, rfl, h⟩
                    · replace h := h.2 (is_dec.f hc)
                      refine t_gd false true (by kernel_rfl) (fun hn => by cases hn) (fun _ => ?_)
                      refine t_gd false true (by kernel_rfl) (fun hn => by cases hn) (fun _ => ?_)
                      refine t_done [(.agg [(.int .i64 d0), (.int .i64 d1), (.int .i64 d2), (.int .i64 d3), (.int .i64 d4), d5, d6, d7]), (.agg [(.int .i64 e8), (.int .i64 e9), (.int .i64 e10), (.int .i64 e11), (.int .i64 e12)]), (.agg [(.int .i64 v20), (.int .i64 v21), (.int .i64 v22), (.int .i64 v23), (.int .i64 v24), v25, v26, v27]), d28, (.agg [(.int .i64 e8), (.int .i64 e9), (.int .i64 e10), (.int .i64 e11), (.int .i64 e12)]), (.bool ((decide (e8 < 1)) || (decide (e8 > 4)))), (.agg [(.int .i64 d0), (.int .i64 d1), (.int .i64 d2), (.int .i64 d3), (.int .i64 d4), d5, d6, d7]), d29, d30, d31, (.bool (((e8) != 2) && (((e11) != 0) || ((e12) != 0)))), (.bool ((decide (e10 < 0)) || (decide (e10 ≥ d0)))), (.bool ((e8) == 4)), .undef, .undef, .undef, (.bool ((e8) == 1)), (.bool ((decide (e9 < 1)) || (decide (e9 > 1000000000)))), (.int .i64 r80), (.bool (decide (r80 ≥ 0))), (.int .i64 (len89 : Int)), (.bool false), .undef, .undef, .undef, .undef, .undef, .undef, .undef, .undef, .undef, .undef] H81 (by kernel_rfl) ?_
                      refine then_norm ?_
                      refine w_cond (t := false) rfl (fun hc => by cases hc) (fun _ => ?_)
                      refine w_skip ?_
                      refine join_norm ⟨_, _, _, _, _, _, _, _, _, _, rfl, rfl, h⟩
                  · clear h
                    rintro EI HI ⟨v91, v92, v93, v94, v95, v96, v97, v98, d99, d100, rfl, rfl, hJ⟩
                    have h := hK v91 v92 v93 v94 v95 v96 v97 v98 hJ
                    clear hJ hK
                    refine then_norm ?_
                    refine w_seq ?_
                    refine w_run [0, 1, 1, 1] ?_
                    refine t_call true nFDeployment_Drop [(.agg [(.int .i64 d0), (.int .i64 d1), (.int .i64 d2), (.int .i64 d3), (.int .i64 d4), d5, d6, d7]), (.int .i64 (-1))] H81 (by kernel_rfl) h ?_
                    clear h
                    rintro _ H114 ⟨r106, r107, r108, r109, r110, r111, r112, r113, rfl, h⟩
                    obtain ⟨H116, hb⟩ : ∃ H', Dead1 H114 1 H' := ⟨_, ⟨rfl⟩⟩
                    replace h := h H116 hb
                    refine t_tomb true 1 (.agg [(.int .i64 0), (.int .i64 0), (.int .i64 0), (.int .i64 0), (.int .i64 0), .empty, .empty, .empty]) [(.int .i64 0), (.int .i64 0), (.int .i64 0), (.int .i64 0), (.int .i64 0), .empty, .empty, .empty] H116 H114 (by kernel_rfl) rfl hb ?_
                    obtain ⟨hs117, h⟩ := h
                    obtain ⟨hs118, h⟩ := h
                    obtain ⟨hs119, h⟩ := h
                    refine t_upd true 8 0 [(.int .i64 0), (.int .i64 0), (.int .i64 0), (.int .i64 0), (.int .i64 0), .empty, .empty, .empty] (.agg [(.int .i64 r106), (.int .i64 r107), (.int .i64 r108), (.int .i64 r109), (.int .i64 r110), r111, r112, r113]) [(.int .i64 r106), (.int .i64 r107), (.int .i64 r108), (.int .i64 r109), (.int .i64 r110), r111, r112, r113] [(.int .i64 r106), (.int .i64 r107), (.int .i64 r108), (.int .i64 r109), (.int .i64 r110), r111, r112, r113] H116 (by kernel_rfl) rfl (all_c rfl (all_c rfl (all_c rfl (all_c rfl (all_c rfl (all_c hs117.2 (all_c hs118.2 (all_c hs119.2 all_n)))))))) ⟨rfl, Nat.le_of_ble_eq_true (by kernel_rfl), rfl⟩ ?_
                    refine t_done [(.agg [(.int .i64 d0), (.int .i64 d1), (.int .i64 d2), (.int .i64 d3), (.int .i64 d4), d5, d6, d7]), (.agg [(.int .i64 e8), (.int .i64 e9), (.int .i64 e10), (.int .i64 e11), (.int .i64 e12)]), (.agg [(.int .i64 v91), (.int .i64 v92), (.int .i64 v93), (.int .i64 v94), (.int .i64 v95), v96, v97, v98]), d99, (.agg [(.int .i64 e8), (.int .i64 e9), (.int .i64 e10), (.int .i64 e11), (.int .i64 e12)]), (.bool ((decide (e8 < 1)) || (decide (e8 > 4)))), (.agg [(.int .i64 d0), (.int .i64 d1), (.int .i64 d2), (.int .i64 d3), (.int .i64 d4), d5, d6, d7]), d29, d30, d31, (.bool (((e8) != 2) && (((e11) != 0) || ((e12) != 0)))), (.bool ((decide (e10 < 0)) || (decide (e10 ≥ d0)))), (.bool ((e8) == 4)), .undef, .undef, .undef, (.bool ((e8) == 1)), (.bool ((decide (e9 < 1)) || (decide (e9 > 1000000000)))), (.int .i64 r80), (.bool (decide (r80 ≥ 0))), (.int .i64 (len89 : Int)), d100, (.agg [(.int .i64 r106), (.int .i64 r107), (.int .i64 r108), (.int .i64 r109), (.int .i64 r110), r111, r112, r113]), .undef, .undef, .undef, .undef, .undef, .undef, .undef, .undef, .undef] H116 (by kernel_rfl) ?_
                    refine then_norm ?_
                    refine w_seq ?_
                    refine w_run [0, 0, 0, 0, 1, 1, 0, 1] ?_
                    obtain ⟨b120, H121, hb⟩ : ∃ b H', NewB H116 1 [(.int .i64 e9)] b H' := ⟨_, _, rfl, rfl⟩
                    replace h := h b120 H121 hb
                    refine t_bs true 1 [(.int .i64 0)] [(0, 1, .loc 0)] 1 [(.int .i64 e9)] [(.int .i64 e9)] b120 H121 H116 (by kernel_rfl) (fill_c (vs := [(.int .i64 e9)]) (size := 1) rfl (by kernel_rfl) (by kernel_rfl) (by kernel_rfl)) hb ?_
                    obtain ⟨a122, H123, ha, h⟩ := h
                    refine t_app true 1 8 r111 (.slice b120 0 1 (some 1)) a122 H123 H121 (by kernel_rfl) ha ?_
                    obtain ⟨hs124, h⟩ := h
                    refine t_upd true 1 5 [(.int .i64 r106), (.int .i64 r107), (.int .i64 r108), (.int .i64 r109), (.int .i64 r110), r111, r112, r113] a122 [a122] [(.int .i64 r106), (.int .i64 r107), (.int .i64 r108), (.int .i64 r109), (.int .i64 r110), a122, r112, r113] H123 (by kernel_rfl) hs124.1 (all_c hs124.2 all_n) ⟨rfl, Nat.le_of_ble_eq_true (by kernel_rfl), rfl⟩ ?_
                    refine t_done [(.agg [(.int .i64 d0), (.int .i64 d1), (.int .i64 d2), (.int .i64 d3), (.int .i64 d4), d5, d6, d7]), (.agg [(.int .i64 e8), (.int .i64 e9), (.int .i64 e10), (.int .i64 e11), (.int .i64 e12)]), (.agg [(.int .i64 v91), (.int .i64 v92), (.int .i64 v93), (.int .i64 v94), (.int .i64 v95), v96, v97, v98]), d99, (.agg [(.int .i64 e8), (.int .i64 e9), (.int .i64 e10), (.int .i64 e11), (.int .i64 e12)]), (.bool ((decide (e8 < 1)) || (decide (e8 > 4)))), (.agg [(.int .i64 d0), (.int .i64 d1), (.int .i64 d2), (.int .i64 d3), (.int .i64 d4), d5, d6, d7]), d29, d30, d31, (.bool (((e8) != 2) && (((e11) != 0) || ((e12) != 0)))), (.bool ((decide (e10 < 0)) || (decide (e10 ≥ d0)))), (.bool ((e8) == 4)), .undef, .undef, .undef, (.bool ((e8) == 1)), (.bool ((decide (e9 < 1)) || (decide (e9 > 1000000000)))), (.int .i64 r80), (.bool (decide (r80 ≥ 0))), (.int .i64 (len89 : Int)), d100, (.agg [(.int .i64 r106), (.int .i64 r107), (.int .i64 r108), (.int .i64 r109), (.int .i64 r110), a122, r112, r113]), .undef, .undef, .undef, .undef, .undef, .undef, .undef, .undef, .undef] H123 (by kernel_rfl) ?_
                    refine then_norm ?_
                    refine w_seq ?_
                    refine w_run [0, 0, 1, 1, 0, 1] ?_
                    obtain ⟨b125, H126, hb⟩ : ∃ b H', NewB H123 1 [(.int .i64 0)] b H' := ⟨_, _, rfl, rfl⟩
                    replace h := h b125 H126 hb
                    refine t_bs true 1 [(.int .i64 0)] [(0, 1, .loc 0)] 1 [(.int .i64 0)] [(.int .i64 0)] b125 H126 H123 (by kernel_rfl) (fill_c (vs := [(.int .i64 0)]) (size := 1) rfl (by kernel_rfl) (by kernel_rfl) (by kernel_rfl)) hb ?_
                    obtain ⟨a127, H128, ha, h⟩ := h
                    refine t_app true 1 8 r112 (.slice b125 0 1 (some 1)) a127 H128 H126 (by kernel_rfl) ha ?_
                    obtain ⟨hs129, h⟩ := h
                    refine t_upd true 1 6 [(.int .i64 r106), (.int .i64 r107), (.int .i64 r108), (.int .i64 r109), (.int .i64 r110), a122, r112, r113] a127 [a127] [(.int .i64 r106), (.int .i64 r107), (.int .i64 r108), (.int .i64 r109), (.int .i64 r110), a122, a127, r113] H128 (by kernel_rfl) hs129.1 (all_c hs129.2 all_n) ⟨rfl, Nat.le_of_ble_eq_true (by kernel_rfl), rfl⟩ ?_
                    refine t_done [(.agg [(.int .i64 d0), (.int .i64 d1), (.int .i64 d2), (.int .i64 d3), (.int .i64 d4), d5, d6, d7]), (.agg [(.int .i64 e8), (.int .i64 e9), (.int .i64 e10), (.int .i64 e11), (.int .i64 e12)]), (.agg [(.int .i64 v91), (.int .i64 v92), (.int .i64 v93), (.int .i64 v94), (.int .i64 v95), v96, v97, v98]), d99, (.agg [(.int .i64 e8), (.int .i64 e9), (.int .i64 e10), (.int .i64 e11), (.int .i64 e12)]), (.bool ((decide (e8 < 1)) || (decide (e8 > 4)))), (.agg [(.int .i64 d0), (.int .i64 d1), (.int .i64 d2), (.int .i64 d3), (.int .i64 d4), d5, d6, d7]), d29, d30, d31, (.bool (((e8) != 2) && (((e11) != 0) || ((e12) != 0)))), (.bool ((decide (e10 < 0)) || (decide (e10 ≥ d0)))), (.bool ((e8) == 4)), .undef, .undef, .undef, (.bool ((e8) == 1)), (.bool ((decide (e9 < 1)) || (decide (e9 > 1000000000)))), (.int .i64 r80), (.bool (decide (r80 ≥ 0))), (.int .i64 (len89 : Int)), d100, (.agg [(.int .i64 r106), (.int .i64 r107), (.int .i64 r108), (.int .i64 r109), (.int .i64 r110), a122, a127, r113]), .undef, .undef, .undef, .undef, .undef, .undef, .undef, .undef, .undef] H128 (by kernel_rfl) ?_
                    refine then_norm ?_
                    refine w_seq ?_
                    refine w_run [0, 0, 1, 1, 1, 0, 1] ?_
                    refine t_build true [(.int .i64 0), (.int .i64 0)] [] [] [(.int .i64 0), (.int .i64 0)] H128 (by kernel_rfl) (by kernel_rfl) ?_
                    obtain ⟨b130, H131, hb⟩ : ∃ b H', NewB H128 2 [(.int .i64 0), (.int .i64 0)] b H' := ⟨_, _, rfl, rfl⟩
                    replace h := h b130 H131 hb
                    refine t_bs true 2 [(.int .i64 0), (.int .i64 0)] [(0, 2, .loc 0)] 1 [(.agg [(.int .i64 0), (.int .i64 0)])] [(.int .i64 0), (.int .i64 0)] b130 H131 H128 (by kernel_rfl) (fill_c (vs := [(.int .i64 0), (.int .i64 0)]) (size := 2) rfl (by kernel_rfl) (by kernel_rfl) (by kernel_rfl)) hb ?_
                    obtain ⟨a132, H133, ha, h⟩ := h
                    refine t_app true 2 16 r113 (.slice b130 0 1 (some 1)) a132 H133 H131 (by kernel_rfl) ha ?_
                    obtain ⟨hs134, h⟩ := h
                    refine t_upd true 1 7 [(.int .i64 r106), (.int .i64 r107), (.int .i64 r108), (.int .i64 r109), (.int .i64 r110), a122, a127, r113] a132 [a132] [(.int .i64 r106), (.int .i64 r107), (.int .i64 r108), (.int .i64 r109), (.int .i64 r110), a122, a127, a132] H133 (by kernel_rfl) hs134.1 (all_c hs134.2 all_n) ⟨rfl, Nat.le_of_ble_eq_true (by kernel_rfl), rfl⟩ ?_
                    refine t_done [(.agg [(.int .i64 d0), (.int .i64 d1), (.int .i64 d2), (.int .i64 d3), (.int .i64 d4), d5, d6, d7]), (.agg [(.int .i64 e8), (.int .i64 e9), (.int .i64 e10), (.int .i64 e11), (.int .i64 e12)]), (.agg [(.int .i64 v91), (.int .i64 v92), (.int .i64 v93), (.int .i64 v94), (.int .i64 v95), v96, v97, v98]), d99, (.agg [(.int .i64 e8), (.int .i64 e9), (.int .i64 e10), (.int .i64 e11), (.int .i64 e12)]), (.bool ((decide (e8 < 1)) || (decide (e8 > 4)))), (.agg [(.int .i64 d0), (.int .i64 d1), (.int .i64 d2), (.int .i64 d3), (.int .i64 d4), d5, d6, d7]), d29, d30, d31, (.bool (((e8) != 2) && (((e11) != 0) || ((e12) != 0)))), (.bool ((decide (e10 < 0)) || (decide (e10 ≥ d0)))), (.bool ((e8) == 4)), .undef, .undef, .undef, (.bool ((e8) == 1)), (.bool ((decide (e9 < 1)) || (decide (e9 > 1000000000)))), (.int .i64 r80), (.bool (decide (r80 ≥ 0))), (.int .i64 (len89 : Int)), d100, (.agg [(.int .i64 r106), (.int .i64 r107), (.int .i64 r108), (.int .i64 r109), (.int .i64 r110), a122, a127, a132]), .undef, .undef, .undef, .undef, .undef, .undef, .undef, .undef, .undef] H133 (by kernel_rfl) ?_
                    refine then_norm ?_
                    refine w_seq ?_
                    refine w_run [0, 1, 0] ?_
                    refine t_upd true 8 0 [(.int .i64 v91), (.int .i64 v92), (.int .i64 v93), (.int .i64 v94), (.int .i64 v95), v96, v97, v98] (.agg [(.int .i64 r106), (.int .i64 r107), (.int .i64 r108), (.int .i64 r109), (.int .i64 r110), a122, a127, a132]) [(.int .i64 r106), (.int .i64 r107), (.int .i64 r108), (.int .i64 r109), (.int .i64 r110), a122, a127, a132] [(.int .i64 r106), (.int .i64 r107), (.int .i64 r108), (.int .i64 r109), (.int .i64 r110), a122, a127, a132] H133 (by kernel_rfl) rfl (all_c rfl (all_c rfl (all_c rfl (all_c rfl (all_c rfl (all_c hs124.2 (all_c hs129.2 (all_c hs134.2 all_n)))))))) ⟨rfl, Nat.le_of_ble_eq_true (by kernel_rfl), rfl⟩ ?_
                    refine t_done [(.agg [(.int .i64 d0), (.int .i64 d1), (.int .i64 d2), (.int .i64 d3), (.int .i64 d4), d5, d6, d7]), (.agg [(.int .i64 e8), (.int .i64 e9), (.int .i64 e10), (.int .i64 e11), (.int .i64 e12)]), (.agg [(.int .i64 r106), (.int .i64 r107), (.int .i64 r108), (.int .i64 r109), (.int .i64 r110), a122, a127, a132]), (.int .i64 0), (.agg [(.int .i64 e8), (.int .i64 e9), (.int .i64 e10), (.int .i64 e11), (.int .i64 e12)]), (.bool ((decide (e8 < 1)) || (decide (e8 > 4)))), (.agg [(.int .i64 d0), (.int .i64 d1), (.int .i64 d2), (.int .i64 d3), (.int .i64 d4), d5, d6, d7]), d29, d30, d31, (.bool (((e8) != 2) && (((e11) != 0) || ((e12) != 0)))), (.bool ((decide (e10 < 0)) || (decide (e10 ≥ d0)))), (.bool ((e8) == 4)), .undef, .undef, .undef, (.bool ((e8) == 1)), (.bool ((decide (e9 < 1)) || (decide (e9 > 1000000000)))), (.int .i64 r80), (.bool (decide (r80 ≥ 0))), (.int .i64 (len89 : Int)), d100, (.agg [(.int .i64 r106), (.int .i64 r107), (.int .i64 r108), (.int .i64 r109), (.int .i64 r110), a122, a127, a132]), .undef, .undef, .undef, .undef, .undef, .undef, .undef, .undef, .undef] H133 (by kernel_rfl) ?_
                    refine then_norm ?_
                    refine w_ret ?_
                    refine then_ret ?_
                    exact body_ret (vs := [(.agg [(.int .i64 r106), (.int .i64 r107), (.int .i64 r108), (.int .i64 r109), (.int .i64 r110), a122, a127, a132]), (.int .i64 0)]) _ (by kernel_rfl) rfl h
            · replace h := h.2 (is_eq.f hc)
              refine w_skip ?_
              refine then_norm ?_
              refine w_seq ?_
              obtain ⟨R135, h, hK⟩ := h
              refine w_join (fun EI HI => ∃ (v136 : Int) (v137 : Int) (v138 : Int) (v139 : Int) (v140 : Int) (v141 : AV) (v142 : AV) (v143 : AV) (d144 : AV) (d145 : AV), EI = [(.agg [(.int .i64 d0), (.int .i64 d1), (.int .i64 d2), (.int .i64 d3), (.int .i64 d4), d5, d6, d7]), (.agg [(.int .i64 e8), (.int .i64 e9), (.int .i64 e10), (.int .i64 e11), (.int .i64 e12)]), (.agg [(.int .i64 v136), (.int .i64 v137), (.int .i64 v138), (.int .i64 v139), (.int .i64 v140), v141, v142, v143]), d144, (.agg [(.int .i64 e8), (.int .i64 e9), (.int .i64 e10), (.int .i64 e11), (.int .i64 e12)]), (.bool ((decide (e8 < 1)) || (decide (e8 > 4)))), (.agg [(.int .i64 d0), (.int .i64 d1), (.int .i64 d2), (.int .i64 d3), (.int .i64 d4), d5, d6, d7]), d29, d30, d31, (.bool (((e8) != 2) && (((e11) != 0) || ((e12) != 0)))), (.bool ((decide (e10 < 0)) || (decide (e10 ≥ d0)))), (.bool ((e8) == 4)), .undef, .undef, .undef, (.bool ((e8) == 1)), .undef, (.int .i64 r80), .undef, .undef, .undef, .undef, d145, .undef, .undef, .undef, .undef, .undef, .undef, .undef, .undef] ∧ R135 v136 v137 v138 v139 v140 v141 v142 v143 HI) ?_ ?_
              · clear hK
                refine w_seq ?_
                refine w_run [0, 0, 0, 0, 0, 0, 3, 2, 0] ?_
                refine t_gd ((e8) == 2) true (by kernel_rfl) (fun hc => ?_) (fun hc => ?_)
                · replace h := h.1 (is_eq.t hc)
                  refine t_call true nFCountsValid [(.agg [(.int .i64 e11), (.int .i64 e12)])] H81 (by kernel_rfl) h ?_
                  clear h
                  rintro _ H148 ⟨r147, rfl, h⟩
                  refine t_gd true true (by kernel_rfl) (fun _ => ?_) (fun hn => by cases hn)
                  refine t_done [(.agg [(.int .i64 d0), (.int .i64 d1), (.int .i64 d2), (.int .i64 d3), (.int .i64 d4), d5, d6, d7]), (.agg [(.int .i64 e8), (.int .i64 e9), (.int .i64 e10), (.int .i64 e11), (.int .i64 e12)]), (.agg [(.int .i64 v20), (.int .i64 v21), (.int .i64 v22), (.int .i64 v23), (.int .i64 v24), v25, v26, v27]), d28, (.agg [(.int .i64 e8), (.int .i64 e9), (.int .i64 e10), (.int .i64 e11), (.int .i64 e12)]), (.bool ((decide (e8 < 1)) || (decide (e8 > 4)))), (.agg [(.int .i64 d0), (.int .i64 d1), (.int .i64 d2), (.int .i64 d3), (.int .i64 d4), d5, d6, d7]), d29, d30, d31, (.bool (((e8) != 2) && (((e11) != 0) || ((e12) != 0)))), (.bool ((decide (e10 < 0)) || (decide (e10 ≥ d0)))), (.bool ((e8) == 4)), .undef, .undef, .undef, (.bool ((e8) == 1)), .undef, (.int .i64 r80), .undef, .undef, .undef, .undef, (.bool (!r147)), .undef, .undef, .undef, .undef, .undef, .undef, .undef, .undef] H148 (by kernel_rfl) ?_
                  refine then_norm ?_
                  refine w_cond (t := (!r147)) rfl (fun hc => ?_) (fun hc => ?_)
                  · replace h := h.1 ((is_not is_raw).t hc)
                    refine w_seq ?_
                    refine w_run [0, 1, 0] ?_
                    obtain ⟨hs150, h⟩ := h
                    obtain ⟨hs151, h⟩ := h
                    obtain ⟨hs152, h⟩ := h
                    refine t_upd true 8 0 [(.int .i64 v20), (.int .i64 v21), (.int .i64 v22), (.int .i64 v23), (.int .i64 v24), v25, v26, v27] (.agg [(.int .i64 d0), (.int .i64 d1), (.int .i64 d2), (.int .i64 d3), (.int .i64 d4), d5, d6, d7]) [(.int .i64 d0), (.int .i64 d1), (.int .i64 d2), (.int .i64 d3), (.int .i64 d4), d5, d6, d7] [(.int .i64 d0), (.int .i64 d1), (.int .i64 d2), (.int .i64 d3), (.int .i64 d4), d5, d6, d7] H148 (by kernel_rfl) rfl (all_c rfl (all_c rfl (all_c rfl (all_c rfl (all_c rfl (all_c hs150.2 (all_c hs151.2 (all_c hs152.2 all_n)))))))) ⟨rfl, Nat.le_of_ble_eq_true (by kernel_rfl), rfl⟩ ?_
                    refine t_done [(.agg [(.int .i64 d0), (.int .i64 d1), (.int .i64 d2), (.int .i64 d3), (.int .i64 d4), d5, d6, d7]), (.agg [(.int .i64 e8), (.int .i64 e9), (.int .i64 e10), (.int .i64 e11), (.int .i64 e12)]), (.agg [(.int .i64 d0), (.int .i64 d1), (.int .i64 d2), (.int .i64 d3), (.int .i64 d4), d5, d6, d7]), (.int .i64 3), (.agg [(.int .i64 e8), (.int .i64 e9), (.int .i64 e10), (.int .i64 e11), (.int .i64 e12)]), (.bool ((decide (e8 < 1)) || (decide (e8 > 4)))), (.agg [(.int .i64 d0), (.int .i64 d1), (.int .i64 d2), (.int .i64 d3), (.int .i64 d4), d5, d6, d7]), d29, d30, d31, (.bool (((e8) != 2) && (((e11) != 0) || ((e12) != 0)))), (.bool ((decide (e10 < 0)) || (decide (e10 ≥ d0)))), (.bool ((e8) == 4)), .undef, .undef, .undef, (.bool ((e8) == 1)), .undef, (.int .i64 r80), .undef, .undef, .undef, .undef, (.bool (!r147)), .undef, .undef, .undef, .undef, .undef, .undef, .undef, .undef] H148 (by kernel_rfl) ?_
                    refine then_norm ?_
                    refine w_ret ?_
                    refine join_ret ?_
                    refine then_ret ?_
                    exact body_ret (vs := [(.agg [(.int .i64 d0), (.int .i64 d1), (.int .i64 d2), (.int .i64 d3), (.int .i64 d4), d5, d6, d7]), (.int .i64 3)]) _ (by kernel_rfl) rfl h
                  · replace h := h.2 ((is_not is_raw).f hc)
                    refine w_skip ?_
                    refine join_norm ⟨_, _, _, _, _, _, _, _, _, _, rfl, h⟩
                · replace h := h.2 (is_eq.f hc)
                  refine t_gd false true (by kernel_rfl) (fun hn => by cases hn) (fun _ => ?_)
                  refine t_done [(.agg [(.int .i64 d0), (.int .i64 d1), (.int .i64 d2), (.int .i64 d3), (.int .i64 d4), d5, d6, d7]), (.agg [(.int .i64 e8), (.int .i64 e9), (.int .i64 e10), (.int .i64 e11), (.int .i64 e12)]), (.agg [(.int .i64 v20), (.int .i64 v21), (.int .i64 v22), (.int .i64 v23), (.int .i64 v24), v25, v26, v27]), d28, (.agg [(.int .i64 e8), (.int .i64 e9), (.int .i64 e10), (.int .i64 e11), (.int .i64 e12)]), (.bool ((decide (e8 < 1)) || (decide (e8 > 4)))), (.agg [(.int .i64 d0), (.int .i64 d1), (.int .i64 d2), (.int .i64 d3), (.int .i64 d4), d5, d6, d7]), d29, d30, d31, (.bool (((e8) != 2) && (((e11) != 0) || ((e12) != 0)))), (.bool ((decide (e10 < 0)) || (decide (e10 ≥ d0)))), (.bool ((e8) == 4)), .undef, .undef, .undef, (.bool ((e8) == 1)), .undef, (.int .i64 r80), .undef, .undef, .undef, .undef, (.bool false), .undef, .undef, .undef, .undef, .undef, .undef, .undef, .undef] H81 (by kernel_rfl) ?_
                  refine then_norm ?_
                  refine w_cond (t := false) rfl (fun hc => by cases hc) (fun _ => ?_)
                  refine w_skip ?_
                  refine join_norm ⟨_, _, _, _, _, _, _, _, _, _, rfl, h⟩
              · clear h
                rintro EI H146 ⟨v136, v137, v138, v139, v140, v141, v142, v143, d144, d145, rfl, hJ⟩
                have h := hK v136 v137 v138 v139 v140 v141 v142 v143 H146 hJ
                clear hJ hK
                refine then_norm ?_
                refine w_seq ?_
                refine w_seq ?_
                refine w_run [0, 0] ?_
                refine t_done [(.agg [(.int .i64 d0), (.int .i64 d1), (.int .i64 d2), (.int .i64 d3), (.int .i64 d4), d5, d6, d7]), (.agg [(.int .i64 e8), (.int .i64 e9), (.int .i64 e10), (.int .i64 e11), (.int .i64 e12)]), (.agg [(.int .i64 v136), (.int .i64 v137), (.int .i64 v138), (.int .i64 v139), (.int .i64 v140), v141, v142, v143]), d144, (.agg [(.int .i64 e8), (.int .i64 e9), (.int .i64 e10), (.int .i64 e11), (.int .i64 e12)]), (.bool ((decide (e8 < 1)) || (decide (e8 > 4)))), (.agg [(.int .i64 d0), (.int .i64 d1), (.int .i64 d2), (.int .i64 d3), (.int .i64 d4), d5, d6, d7]), d29, d30, d31, (.bool (((e8) != 2) && (((e11) != 0) || ((e12) != 0)))), (.bool ((decide (e10 < 0)) || (decide (e10 ≥ d0)))), (.bool ((e8) == 4)), .undef, .undef, .undef, (.bool ((e8) == 1)), .undef, (.int .i64 r80), .undef, .undef, .undef, .undef, d145, (.bool (decide (r80 < 0))), .undef, .undef, .undef, .undef, .undef, .undef, .undef] H146 (by kernel_rfl) ?_
                refine then_norm ?_
                refine w_cond (t := (decide (r80 < 0))) rfl (fun hc => ?_) (fun hc => ?_)
                · replace h := h.1 (is_dec.t hc)
                  refine w_seq ?_
                  refine w_run [0, 1, 0] ?_
                  obtain ⟨hs153, h⟩ := h
                  obtain ⟨hs154, h⟩ := h
                  obtain ⟨hs155, h⟩ := h
                  refine t_upd true 8 0 [(.int .i64 v136), (.int .i64 v137), (.int .i64 v138), (.int .i64 v139), (.int .i64 v140), v141, v142, v143] (.agg [(.int .i64 d0), (.int .i64 d1), (.int .i64 d2), (.int .i64 d3), (.int .i64 d4), d5, d6, d7]) [(.int .i64 d0), (.int .i64 d1), (.int .i64 d2), (.int .i64 d3), (.int .i64 d4), d5, d6, d7] [(.int .i64 d0), (.int .i64 d1), (.int .i64 d2), (.int .i64 d3), (.int .i64 d4), d5, d6, d7] H146 (by kernel_rfl) rfl (all_c rfl (all_c rfl (all_c rfl (all_c rfl (all_c rfl (all_c hs153.2 (all_c hs154.2 (all_c hs155.2 all_n)))))))) ⟨rfl, Nat.le_of_ble_eq_true (by kernel_rfl), rfl⟩ ?_
                  refine t_done [(.agg [(.int .i64 d0), (.int .i64 d1), (.int .i64 d2), (.int .i64 d3), (.int .i64 d4), d5, d6, d7]), (.agg [(.int .i64 e8), (.int .i64 e9), (.int .i64 e10), (.int .i64 e11), (.int .i64 e12)]), (.agg [(.int .i64 d0), (.int .i64 d1), (.int .i64 d2), (.int .i64 d3), (.int .i64 d4), d5, d6, d7]), (.int .i64 11), (.agg [(.int .i64 e8), (.int .i64 e9), (.int .i64 e10), (.int .i64 e11), (.int .i64 e12)]), (.bool ((decide (e8 < 1)) || (decide (e8 > 4)))), (.agg [(.int .i64 d0), (.int .i64 d1), (.int .i64 d2), (.int .i64 d3), (.int .i64 d4), d5, d6, d7]), d29, d30, d31, (.bool (((e8) != 2) && (((e11) != 0) || ((e12) != 0)))), (.bool ((decide (e10 < 0)) || (decide (e10 ≥ d0)))), (.bool ((e8) == 4)), .undef, .undef, .undef, (.bool ((e8) == 1)), .undef, (.int .i64 r80), .undef, .undef, .undef, .undef, d145, (.bool (decide (r80 < 0))), .undef, .undef, .undef, .undef, .undef, .undef, .undef] H146 (by kernel_rfl) ?_
                  refine then_norm ?_
                  refine w_ret ?_
                  refine then_ret ?_
                  exact body_ret (vs := [(.agg [(.int .i64 d0), (.int .i64 d1), (.int .i64 d2), (.int .i64 d3), (.int .i64 d4), d5, d6, d7]), (.int .i64 11)]) _ (by kernel_rfl) rfl h
                · replace h := h.2 (is_dec.f hc)
                  refine w_skip ?_
                  refine then_norm ?_
                  refine w_seq ?_
                  refine w_run [0, 1, 1, 1] ?_
                  refine t_call true nFDeployment_Drop [(.agg [(.int .i64 d0), (.int .i64 d1), (.int .i64 d2), (.int .i64 d3), (.int .i64 d4), d5, d6, d7]), (.int .i64 (-1))] H146 (by kernel_rfl) h ?_
                  clear h
                  rintro _ H164 ⟨r156, r157, r158, r159, r160, r161, r162, r163, rfl, h⟩
                  obtain ⟨H166, hb⟩ : ∃ H', Dead1 H164 1 H' := ⟨_, ⟨rfl⟩⟩
                  replace h := h H166 hb
                  refine t_tomb true 1 (.agg [(.int .i64 0), (.int .i64 0), (.int .i64 0), (.int .i64 0), (.int .i64 0), .empty, .empty, .empty]) [(.int .i64 0), (.int .i64 0), (.int .i64 0), (.int .i64 0), (.int .i64 0), .empty, .empty, .empty] H166 H164 (by kernel_rfl) rfl hb ?_
                  obtain ⟨hs167, h⟩ := h
                  obtain ⟨hs168, h⟩ := h
                  obtain ⟨hs169, h⟩ := h
                  refine t_upd true 8 0 [(.int .i64 0), (.int .i64 0), (.int .i64 0), (.int .i64 0), (.int .i64 0), .empty, .empty, .empty] (.agg [(.int .i64 r156), (.int .i64 r157), (.int .i64 r158), (.int .i64 r159), (.int .i64 r160), r161, r162, r163]) [(.int .i64 r156), (.int .i64 r157), (.int .i64 r158), (.int .i64 r159), (.int .i64 r160), r161, r162, r163] [(.int .i64 r156), (.int .i64 r157), (.int .i64 r158), (.int .i64 r159), (.int .i64 r160), r161, r162, r163] H166 (by kernel_rfl) rfl (all_c rfl (all_c rfl (all_c rfl (all_c rfl (all_c rfl (all_c hs167.2 (all_c hs168.2 (all_c hs169.2 all_n)))))))) ⟨rfl, Nat.le_of_ble_eq_true (by kernel_rfl), rfl⟩ ?_
                  refine t_done [(.agg [(.int .i64 d0), (.int .i64 d1), (.int .i64 d2), (.int .i64 d3), (.int .i64 d4), d5, d6, d7]), (.agg [(.int .i64 e8), (.int .i64 e9), (.int .i64 e10), (.int .i64 e11), (.int .i64 e12)]), (.agg [(.int .i64 v136), (.int .i64 v137), (.int .i64 v138), (.int .i64 v139), (.int .i64 v140), v141, v142, v143]), d144, (.agg [(.int .i64 e8), (.int .i64 e9), (.int .i64 e10), (.int .i64 e11), (.int .i64 e12)]), (.bool ((decide (e8 < 1)) || (decide (e8 > 4)))), (.agg [(.int .i64 d0), (.int .i64 d1), (.int .i64 d2), (.int .i64 d3), (.int .i64 d4), d5, d6, d7]), d29, d30, d31, (.bool (((e8) != 2) && (((e11) != 0) || ((e12) != 0)))), (.bool ((decide (e10 < 0)) || (decide (e10 ≥ d0)))), (.bool ((e8) == 4)), .undef, .undef, .undef, (.bool ((e8) == 1)), .undef, (.int .i64 r80), .undef, .undef, .undef, .undef, d145, (.bool (decide (r80 < 0))), .undef, .undef, .undef, (.agg [(.int .i64 r156), (.int .i64 r157), (.int .i64 r158), (.int .i64 r159), (.int .i64 r160), r161, r162, r163]), .undef, .undef, .undef] H166 (by kernel_rfl) ?_
                  refine then_norm ?_
                  refine w_seq ?_
                  refine w_seq ?_
                  refine w_run [0, 0, 0] ?_
                  refine t_done [(.agg [(.int .i64 d0), (.int .i64 d1), (.int .i64 d2), (.int .i64 d3), (.int .i64 d4), d5, d6, d7]), (.agg [(.int .i64 e8), (.int .i64 e9), (.int .i64 e10), (.int .i64 e11), (.int .i64 e12)]), (.agg [(.int .i64 v136), (.int .i64 v137), (.int .i64 v138), (.int .i64 v139), (.int .i64 v140), v141, v142, v143]), d144, (.agg [(.int .i64 e8), (.int .i64 e9), (.int .i64 e10), (.int .i64 e11), (.int .i64 e12)]), (.bool ((decide (e8 < 1)) || (decide (e8 > 4)))), (.agg [(.int .i64 d0), (.int .i64 d1), (.int .i64 d2), (.int .i64 d3), (.int .i64 d4), d5, d6, d7]), d29, d30, d31, (.bool (((e8) != 2) && (((e11) != 0) || ((e12) != 0)))), (.bool ((decide (e10 < 0)) || (decide (e10 ≥ d0)))), (.bool ((e8) == 4)), .undef, .undef, .undef, (.bool ((e8) == 1)), .undef, (.int .i64 r80), .undef, .undef, .undef, .undef, d145, (.bool (decide (r80 < 0))), (.bool ((e8) == 2)), .undef, .undef, (.agg [(.int .i64 r156), (.int .i64 r157), (.int .i64 r158), (.int .i64 r159), (.int .i64 r160), r161, r162, r163]), .undef, .undef, .undef] H166 (by kernel_rfl) ?_
                  refine then_norm ?_
                  refine w_cond (t := ((e8) == 2)) rfl (fun hc => ?_) (fun hc => ?_)
                  · replace h := h.1 (is_eq.t hc)
                    refine w_seq ?_
                    refine w_run [0, 0, 0, 1, 1, 1, 0, 0, 0, 0, 0, 0, 0, 1, 1, 1, 0, 0, 0, 0, 1, 1, 1] ?_
                    obtain ⟨e170, hg171, h⟩ := h
                    refine t_idxG false 2 d7 .i64 r80 H166 (by kernel_rfl) hg171 ?_
                    refine t_fldG false 0 2 d7 r80 0 H166 (by kernel_rfl) hg171 ?_
                    refine t_loadG false none 2 d7 r80 0 (.int .i64 e170) H166 (by kernel_rfl) hg171 ?_
                    obtain ⟨e172, hg173, h⟩ := h
                    refine t_idxG false 2 d7 .i64 r80 H166 (by kernel_rfl) hg173 ?_
                    refine t_fldG false 1 2 d7 r80 0 H166 (by kernel_rfl) hg173 ?_
                    refine t_loadG false none 2 d7 r80 1 (.int .i64 e172) H166 (by kernel_rfl) hg173 ?_
                    refine t_build false [(.int .i64 0), (.int .i64 0)] [(0, 1, .loc 0), (1, 1, .loc 1)] [(.int .i64 (IntKind.wrap .i64 (e170 + e11))), (.int .i64 (IntKind.wrap .i64 (e172 + e12)))] [(.int .i64 (IntKind.wrap .i64 (e170 + e11))), (.int .i64 (IntKind.wrap .i64 (e172 + e12)))] H166 (by kernel_rfl) (fill_c (vs := [(.int .i64 (IntKind.wrap .i64 (e170 + e11)))]) (size := 1) rfl (by kernel_rfl) (by kernel_rfl) (fill_c (vs := [(.int .i64 (IntKind.wrap .i64 (e172 + e12)))]) (size := 1) rfl (by kernel_rfl) (by kernel_rfl) (by kernel_rfl))) ?_
                    obtain ⟨H174, hb⟩ : ∃ H', Dead1 H166 1 H' := ⟨_, ⟨rfl⟩⟩
                    replace h := h H174 hb
                    refine t_tomb false 1 (.agg [(.int .i64 0), (.int .i64 0)]) [(.int .i64 0), (.int .i64 0)] H174 H166 (by kernel_rfl) rfl hb ?_
                    refine t_upd true 2 0 [(.int .i64 0), (.int .i64 0)] (.agg [(.int .i64 (IntKind.wrap .i64 (e170 + e11))), (.int .i64 (IntKind.wrap .i64 (e172 + e12)))]) [(.int .i64 (IntKind.wrap .i64 (e170 + e11))), (.int .i64 (IntKind.wrap .i64 (e172 + e12)))] [(.int .i64 (IntKind.wrap .i64 (e170 + e11))), (.int .i64 (IntKind.wrap .i64 (e172 + e12)))] H174 (by kernel_rfl) rfl (all_c rfl (all_c rfl all_n)) ⟨rfl, Nat.le_of_ble_eq_true (by kernel_rfl), rfl⟩ ?_
                    refine t_done [(.agg [(.int .i64 d0), (.int .i64 d1), (.int .i64 d2), (.int .i64 d3), (.int .i64 d4), d5, d6, d7]), (.agg [(.int .i64 e8), (.int .i64 e9), (.int .i64 e10), (.int .i64 e11), (.int .i64 e12)]), (.agg [(.int .i64 v136), (.int .i64 v137), (.int .i64 v138), (.int .i64 v139), (.int .i64 v140), v141, v142, v143]), d144, (.agg [(.int .i64 e8), (.int .i64 e9), (.int .i64 e10), (.int .i64 e11), (.int .i64 e12)]), (.bool ((decide (e8 < 1)) || (decide (e8 > 4)))), (.agg [(.int .i64 d0), (.int .i64 d1), (.int .i64 d2), (.int .i64 d3), (.int .i64 d4), d5, d6, d7]), d29, d30, d31, (.bool (((e8) != 2) && (((e11) != 0) || ((e12) != 0)))), (.bool ((decide (e10 < 0)) || (decide (e10 ≥ d0)))), (.bool ((e8) == 4)), .undef, .undef, .undef, (.bool ((e8) == 1)), .undef, (.int .i64 r80), .undef, .undef, .undef, .undef, d145, (.bool (decide (r80 < 0))), (.bool ((e8) == 2)), (.agg [(.int .i64 (IntKind.wrap .i64 (e170 + e11))), (.int .i64 (IntKind.wrap .i64 (e172 + e12)))]), .undef, (.agg [(.int .i64 r156), (.int .i64 r157), (.int .i64 r158), (.int .i64 r159), (.int .i64 r160), r161, r162, r163]), .undef, .undef, .undef] H174 (by kernel_rfl) ?_
                    refine then_norm ?_
                    refine w_seq ?_
                    refine w_seq ?_
                    refine w_run [0, 1, 0] ?_
                    refine t_call true nFCountsValid [(.agg [(.int .i64 (IntKind.wrap .i64 (e170 + e11))), (.int .i64 (IntKind.wrap .i64 (e172 + e12)))])] H174 (by kernel_rfl) h ?_
                    clear h
                    rintro _ H176 ⟨r175, rfl, h⟩
                    refine t_done [(.agg [(.int .i64 d0), (.int .i64 d1), (.int .i64 d2), (.int .i64 d3), (.int .i64 d4), d5, d6, d7]), (.agg [(.int .i64 e8), (.int .i64 e9), (.int .i64 e10), (.int .i64 e11), (.int .i64 e12)]), (.agg [(.int .i64 v136), (.int .i64 v137), (.int .i64 v138), (.int .i64 v139), (.int .i64 v140), v141, v142, v143]), d144, (.agg [(.int .i64 e8), (.int .i64 e9), (.int .i64 e10), (.int .i64 e11), (.int .i64 e12)]), (.bool ((decide (e8 < 1)) || (decide (e8 > 4)))), (.agg [(.int .i64 d0), (.int .i64 d1), (.int .i64 d2), (.int .i64 d3), (.int .i64 d4), d5, d6, d7]), d29, d30, d31, (.bool (((e8) != 2) && (((e11) != 0) || ((e12) != 0)))), (.bool ((decide (e10 < 0)) || (decide (e10 ≥ d0)))), (.bool ((e8) == 4)), .undef, .undef, .undef, (.bool ((e8) == 1)), .undef, (.int .i64 r80), .undef, .undef, .undef, .undef, d145, (.bool (decide (r80 < 0))), (.bool ((e8) == 2)), (.agg [(.int .i64 (IntKind.wrap .i64 (e170 + e11))), (.int .i64 (IntKind.wrap .i64 (e172 + e12)))]), (.bool (!r175)), (.agg [(.int .i64 r156), (.int .i64 r157), (.int .i64 r158), (.int .i64 r159), (.int .i64 r160), r161, r162, r163]), .undef, .undef, .undef] H176 (by kernel_rfl) ?_
                    refine then_norm ?_
                    refine w_cond (t := (!r175)) rfl (fun hc => ?_) (fun hc => ?_)
                    · replace h := h.1 ((is_not is_raw).t hc)
                      refine w_seq ?_
                      refine w_run [0, 1, 0] ?_
                      obtain ⟨hs178, h⟩ := h
                      obtain ⟨hs179, h⟩ := h
                      obtain ⟨hs180, h⟩ := h
                      refine t_upd true 8 0 [(.int .i64 v136), (.int .i64 v137), (.int .i64 v138), (.int .i64 v139), (.int .i64 v140), v141, v142, v143] (.agg [(.int .i64 d0), (.int .i64 d1), (.int .i64 d2), (.int .i64 d3), (.int .i64 d4), d5, d6, d7]) [(.int .i64 d0), (.int .i64 d1), (.int .i64 d2), (.int .i64 d3), (.int .i64 d4), d5, d6, d7] [(.int .i64 d0), (.int .i64 d1), (.int .i64 d2), (.int .i64 d3), (.int .i64 d4), d5, d6, d7] H176 (by kernel_rfl) rfl (all_c rfl (all_c rfl (all_c rfl (all_c rfl (all_c rfl (all_c hs178.2 (all_c hs179.2 (all_c hs180.2 all_n)))))))) ⟨rfl, Nat.le_of_ble_eq_true (by kernel_rfl), rfl⟩ ?_
                      refine t_done [(.agg [(.int .i64 d0), (.int .i64 d1), (.int .i64 d2), (.int .i64 d3), (.int .i64 d4), d5, d6, d7]), (.agg [(.int .i64 e8), (.int .i64 e9), (.int .i64 e10), (.int .i64 e11), (.int .i64 e12)]), (.agg [(.int .i64 d0), (.int .i64 d1), (.int .i64 d2), (.int .i64 d3), (.int .i64 d4), d5, d6, d7]), (.int .i64 10), (.agg [(.int .i64 e8), (.int .i64 e9), (.int .i64 e10), (.int .i64 e11), (.int .i64 e12)]), (.bool ((decide (e8 < 1)) || (decide (e8 > 4)))), (.agg [(.int .i64 d0), (.int .i64 d1), (.int .i64 d2), (.int .i64 d3), (.int .i64 d4), d5, d6, d7]), d29, d30, d31, (.bool (((e8) != 2) && (((e11) != 0) || ((e12) != 0)))), (.bool ((decide (e10 < 0)) || (decide (e10 ≥ d0)))), (.bool ((e8) == 4)), .undef, .undef, .undef, (.bool ((e8) == 1)), .undef, (.int .i64 r80), .undef, .undef, .undef, .undef, d145, (.bool (decide (r80 < 0))), (.bool ((e8) == 2)), (.agg [(.int .i64 (IntKind.wrap .i64 (e170 + e11))), (.int .i64 (IntKind.wrap .i64 (e172 + e12)))]), (.bool (!r175)), (.agg [(.int .i64 r156), (.int .i64 r157), (.int .i64 r158), (.int .i64 r159), (.int .i64 r160), r161, r162, r163]), .undef, .undef, .undef] H176 (by kernel_rfl) ?_
                      refine then_norm ?_
                      refine w_ret ?_
                      refine then_ret ?_
                      refine then_ret ?_
                      exact body_ret (vs := [(.agg [(.int .i64 d0), (.int .i64 d1), (.int .i64 d2), (.int .i64 d3), (.int .i64 d4), d5, d6, d7]), (.int .i64 10)]) _ (by kernel_rfl) rfl h
                    · replace h := h.2 ((is_not is_raw).f hc)
                      refine w_skip ?_
                      refine then_norm ?_
                      refine w_seq ?_
                      refine w_run [0, 0, 0, 0, 1, 1] ?_
                      obtain ⟨b181, o182, hp, h⟩ := h
                      refine t_idx true 2 r163 .i64 r80 b181 o182 H176 (by kernel_rfl) hp ?_
                      obtain ⟨H183, hp, h⟩ := h
                      refine t_store true 2 b181 o182 (.agg [(.int .i64 (IntKind.wrap .i64 (e170 + e11))), (.int .i64 (IntKind.wrap .i64 (e172 + e12)))]) H183 H176 (by kernel_rfl) hp ?_
                      refine t_done [(.agg [(.int .i64 d0), (.int .i64 d1), (.int .i64 d2), (.int .i64 d3), (.int .i64 d4), d5, d6, d7]), (.agg [(.int .i64 e8), (.int .i64 e9), (.int .i64 e10), (.int .i64 e11), (.int .i64 e12)]), (.agg [(.int .i64 v136), (.int .i64 v137), (.int .i64 v138), (.int .i64 v139), (.int .i64 v140), v141, v142, v143]), d144, (.agg [(.int .i64 e8), (.int .i64 e9), (.int .i64 e10), (.int .i64 e11), (.int .i64 e12)]), (.bool ((decide (e8 < 1)) || (decide (e8 > 4)))), (.agg [(.int .i64 d0), (.int .i64 d1), (.int .i64 d2), (.int .i64 d3), (.int .i64 d4), d5, d6, d7]), d29, d30, d31, (.bool (((e8) != 2) && (((e11) != 0) || ((e12) != 0)))), (.bool ((decide (e10 < 0)) || (decide (e10 ≥ d0)))), (.bool ((e8) == 4)), .undef, .undef, .undef, (.bool ((e8) == 1)), .undef, (.int .i64 r80), .undef, .undef, .undef, .undef, d145, (.bool (decide (r80 < 0))), (.bool ((e8) == 2)), (.agg [(.int .i64 (IntKind.wrap .i64 (e170 + e11))), (.int .i64 (IntKind.wrap .i64 (e172 + e12)))]), (.bool (!r175)), (.agg [(.int .i64 r156), (.int .i64 r157), (.int .i64 r158), (.int .i64 r159), (.int .i64 r160), r161, r162, r163]), .undef, .undef, .undef] H183 (by kernel_rfl) ?_
                      refine then_norm ?_
                      refine w_seq ?_
                      refine w_seq ?_
                      refine w_run [0, 0, 0, 0, 0, 0, 0, 1, 0] ?_
                      refine t_call true nFVerdict [(.agg [(.int .i64 d1), (.int .i64 d2)]), (.agg [(.int .i64 (IntKind.wrap .i64 (e170 + e11))), (.int .i64 (IntKind.wrap .i64 (e172 + e12)))]), (.int .i64 d3), (.int .i64 d4)] H183 (by kernel_rfl) h ?_
                      clear h
                      rintro _ H185 ⟨r184, rfl, h⟩
                      refine t_done [(.agg [(.int .i64 d0), (.int .i64 d1), (.int .i64 d2), (.int .i64 d3), (.int .i64 d4), d5, d6, d7]), (.agg [(.int .i64 e8), (.int .i64 e9), (.int .i64 e10), (.int .i64 e11), (.int .i64 e12)]), (.agg [(.int .i64 v136), (.int .i64 v137), (.int .i64 v138), (.int .i64 v139), (.int .i64 v140), v141, v142, v143]), d144, (.agg [(.int .i64 e8), (.int .i64 e9), (.int .i64 e10), (.int .i64 e11), (.int .i64 e12)]), (.bool ((decide (e8 < 1)) || (decide (e8 > 4)))), (.agg [(.int .i64 d0), (.int .i64 d1), (.int .i64 d2), (.int .i64 d3), (.int .i64 d4), d5, d6, d7]), d29, d30, d31, (.bool (((e8) != 2) && (((e11) != 0) || ((e12) != 0)))), (.bool ((decide (e10 < 0)) || (decide (e10 ≥ d0)))), (.bool ((e8) == 4)), .undef, .undef, .undef, (.bool ((e8) == 1)), .undef, (.int .i64 r80), .undef, .undef, .undef, .undef, d145, (.bool (decide (r80 < 0))), (.bool ((e8) == 2)), (.agg [(.int .i64 (IntKind.wrap .i64 (e170 + e11))), (.int .i64 (IntKind.wrap .i64 (e172 + e12)))]), (.bool (!r175)), (.agg [(.int .i64 r156), (.int .i64 r157), (.int .i64 r158), (.int .i64 r159), (.int .i64 r160), r161, r162, r163]), (.bool ((r184) == 3)), .undef, .undef] H185 (by kernel_rfl) ?_
                      refine then_norm ?_
                      refine w_cond (t := ((r184) == 3)) rfl (fun hc => ?_) (fun hc => ?_)
                      · replace h := h.1 (is_eq.t hc)
                        refine w_seq ?_
                        refine w_run [0, 0, 1, 1, 0] ?_
                        refine t_call true nFDeployment_Drop [(.agg [(.int .i64 d0), (.int .i64 d1), (.int .i64 d2), (.int .i64 d3), (.int .i64 d4), d5, d6, d7]), (.int .i64 r80)] H185 (by kernel_rfl) h ?_
                        clear h
                        rintro _ H195 ⟨r187, r188, r189, r190, r191, r192, r193, r194, rfl, h⟩
                        obtain ⟨hs197, h⟩ := h
                        obtain ⟨hs198, h⟩ := h
                        obtain ⟨hs199, h⟩ := h
                        refine t_upd true 8 0 [(.int .i64 v136), (.int .i64 v137), (.int .i64 v138), (.int .i64 v139), (.int .i64 v140), v141, v142, v143] (.agg [(.int .i64 r187), (.int .i64 r188), (.int .i64 r189), (.int .i64 r190), (.int .i64 r191), r192, r193, r194]) [(.int .i64 r187), (.int .i64 r188), (.int .i64 r189), (.int .i64 r190), (.int .i64 r191), r192, r193, r194] [(.int .i64 r187), (.int .i64 r188), (.int .i64 r189), (.int .i64 r190), (.int .i64 r191), r192, r193, r194] H195 (by kernel_rfl) rfl (all_c rfl (all_c rfl (all_c rfl (all_c rfl (all_c rfl (all_c hs197.2 (all_c hs198.2 (all_c hs199.2 all_n)))))))) ⟨rfl, Nat.le_of_ble_eq_true (by kernel_rfl), rfl⟩ ?_
                        refine t_done [(.agg [(.int .i64 d0), (.int .i64 d1), (.int .i64 d2), (.int .i64 d3), (.int .i64 d4), d5, d6, d7]), (.agg [(.int .i64 e8), (.int .i64 e9), (.int .i64 e10), (.int .i64 e11), (.int .i64 e12)]), (.agg [(.int .i64 r187), (.int .i64 r188), (.int .i64 r189), (.int .i64 r190), (.int .i64 r191), r192, r193, r194]), (.int .i64 0), (.agg [(.int .i64 e8), (.int .i64 e9), (.int .i64 e10), (.int .i64 e11), (.int .i64 e12)]), (.bool ((decide (e8 < 1)) || (decide (e8 > 4)))), (.agg [(.int .i64 d0), (.int .i64 d1), (.int .i64 d2), (.int .i64 d3), (.int .i64 d4), d5, d6, d7]), d29, d30, d31, (.bool (((e8) != 2) && (((e11) != 0) || ((e12) != 0)))), (.bool ((decide (e10 < 0)) || (decide (e10 ≥ d0)))), (.bool ((e8) == 4)), .undef, .undef, .undef, (.bool ((e8) == 1)), .undef, (.int .i64 r80), .undef, .undef, .undef, .undef, d145, (.bool (decide (r80 < 0))), (.bool ((e8) == 2)), (.agg [(.int .i64 (IntKind.wrap .i64 (e170 + e11))), (.int .i64 (IntKind.wrap .i64 (e172 + e12)))]), (.bool (!r175)), (.agg [(.int .i64 r156), (.int .i64 r157), (.int .i64 r158), (.int .i64 r159), (.int .i64 r160), r161, r162, r163]), (.bool ((r184) == 3)), .undef, .undef] H195 (by kernel_rfl) ?_
                        refine then_norm ?_
                        refine w_ret ?_
                        refine then_ret ?_
                        refine then_ret ?_
                        exact body_ret (vs := [(.agg [(.int .i64 r187), (.int .i64 r188), (.int .i64 r189), (.int .i64 r190), (.int .i64 r191), r192, r193, r194]), (.int .i64 0)]) _ (by kernel_rfl) rfl h
                      · replace h := h.2 (is_eq.f hc)
                        refine w_skip ?_
                        refine then_norm ?_
                        refine w_seq ?_
                        refine w_run [0, 1, 0] ?_
                        refine t_upd true 8 0 [(.int .i64 v136), (.int .i64 v137), (.int .i64 v138), (.int .i64 v139), (.int .i64 v140), v141, v142, v143] (.agg [(.int .i64 r156), (.int .i64 r157), (.int .i64 r158), (.int .i64 r159), (.int .i64 r160), r161, r162, r163]) [(.int .i64 r156), (.int .i64 r157), (.int .i64 r158), (.int .i64 r159), (.int .i64 r160), r161, r162, r163] [(.int .i64 r156), (.int .i64 r157), (.int .i64 r158), (.int .i64 r159), (.int .i64 r160), r161, r162, r163] H185 (by kernel_rfl) rfl (all_c rfl (all_c rfl (all_c rfl (all_c rfl (all_c rfl (all_c hs167.2 (all_c hs168.2 (all_c hs169.2 all_n)))))))) ⟨rfl, Nat.le_of_ble_eq_true (by kernel_rfl), rfl⟩ ?_
                        refine t_done [(.agg [(.int .i64 d0), (.int .i64 d1), (.int .i64 d2), (.int .i64 d3), (.int .i64 d4), d5, d6, d7]), (.agg [(.int .i64 e8), (.int .i64 e9), (.int .i64 e10), (.int .i64 e11), (.int .i64 e12)]), (.agg [(.int .i64 r156), (.int .i64 r157), (.int .i64 r158), (.int .i64 r159), (.int .i64 r160), r161, r162, r163]), (.int .i64 0), (.agg [(.int .i64 e8), (.int .i64 e9), (.int .i64 e10), (.int .i64 e11), (.int .i64 e12)]), (.bool ((decide (e8 < 1)) || (decide (e8 > 4)))), (.agg [(.int .i64 d0), (.int .i64 d1), (.int .i64 d2), (.int .i64 d3), (.int .i64 d4), d5, d6, d7]), d29, d30, d31, (.bool (((e8) != 2) && (((e11) != 0) || ((e12) != 0)))), (.bool ((decide (e10 < 0)) || (decide (e10 ≥ d0)))), (.bool ((e8) == 4)), .undef, .undef, .undef, (.bool ((e8) == 1)), .undef, (.int .i64 r80), .undef, .undef, .undef, .undef, d145, (.bool (decide (r80 < 0))), (.bool ((e8) == 2)), (.agg [(.int .i64 (IntKind.wrap .i64 (e170 + e11))), (.int .i64 (IntKind.wrap .i64 (e172 + e12)))]), (.bool (!r175)), (.agg [(.int .i64 r156), (.int .i64 r157), (.int .i64 r158), (.int .i64 r159), (.int .i64 r160), r161, r162, r163]), (.bool ((r184) == 3)), .undef, .undef] H185 (by kernel_rfl) ?_
                        refine then_norm ?_
                        refine w_ret ?_
                        refine then_ret ?_
                        exact body_ret (vs := [(.agg [(.int .i64 r156), (.int .i64 r157), (.int .i64 r158), (.int .i64 r159), (.int .i64 r160), r161, r162, r163]), (.int .i64 0)]) _ (by kernel_rfl) rfl h
                  · replace h := h.2 (is_eq.f hc)
                    refine w_skip ?_
                    refine then_norm ?_
                    refine w_seq ?_
                    refine w_seq ?_
                    refine w_run [0, 0, 0, 0, 0, 1, 1, 0, 0, 0, 0, 1, 0] ?_
                    obtain ⟨e200, e201, hg202, h⟩ := h
                    refine t_idxG false 2 d7 .i64 r80 H166 (by kernel_rfl) hg202 ?_
                    refine t_loadG false (some 2) 2 d7 r80 0 (.agg [(.int .i64 e200), (.int .i64 e201)]) H166 (by kernel_rfl) hg202 ?_
                    refine t_call true nFVerdict [(.agg [(.int .i64 d1), (.int .i64 d2)]), (.agg [(.int .i64 e200), (.int .i64 e201)]), (.int .i64 d3), (.int .i64 d4)] H166 (by kernel_rfl) h ?_
                    clear h
                    rintro _ H204 ⟨r203, rfl, h⟩
                    refine t_done [(.agg [(.int .i64 d0), (.int .i64 d1), (.int .i64 d2), (.int .i64 d3), (.int .i64 d4), d5, d6, d7]), (.agg [(.int .i64 e8), (.int .i64 e9), (.int .i64 e10), (.int .i64 e11), (.int .i64 e12)]), (.agg [(.int .i64 v136), (.int .i64 v137), (.int .i64 v138), (.int .i64 v139), (.int .i64 v140), v141, v142, v143]), d144, (.agg [(.int .i64 e8), (.int .i64 e9), (.int .i64 e10), (.int .i64 e11), (.int .i64 e12)]), (.bool ((decide (e8 < 1)) || (decide (e8 > 4)))), (.agg [(.int .i64 d0), (.int .i64 d1), (.int .i64 d2), (.int .i64 d3), (.int .i64 d4), d5, d6, d7]), d29, d30, d31, (.bool (((e8) != 2) && (((e11) != 0) || ((e12) != 0)))), (.bool ((decide (e10 < 0)) || (decide (e10 ≥ d0)))), (.bool ((e8) == 4)), .undef, .undef, .undef, (.bool ((e8) == 1)), .undef, (.int .i64 r80), .undef, .undef, .undef, .undef, d145, (.bool (decide (r80 < 0))), (.bool ((e8) == 2)), .undef, .undef, (.agg [(.int .i64 r156), (.int .i64 r157), (.int .i64 r158), (.int .i64 r159), (.int .i64 r160), r161, r162, r163]), .undef, (.bool ((r203) != 2)), .undef] H204 (by kernel_rfl) ?_
                    refine then_norm ?_
                    refine w_cond (t := ((r203) != 2)) rfl (fun hc => ?_) (fun hc => ?_)
                    · replace h := h.1 (is_ne.t hc)
                      refine w_seq ?_
                      refine w_run [0, 1, 0] ?_
                      obtain ⟨hs206, h⟩ := h
                      obtain ⟨hs207, h⟩ := h
                      obtain ⟨hs208, h⟩ := h
                      refine t_upd true 8 0 [(.int .i64 v136), (.int .i64 v137), (.int .i64 v138), (.int .i64 v139), (.int .i64 v140), v141, v142, v143] (.agg [(.int .i64 d0), (.int .i64 d1), (.int .i64 d2), (.int .i64 d3), (.int .i64 d4), d5, d6, d7]) [(.int .i64 d0), (.int .i64 d1), (.int .i64 d2), (.int .i64 d3), (.int .i64 d4), d5, d6, d7] [(.int .i64 d0), (.int .i64 d1), (.int .i64 d2), (.int .i64 d3), (.int .i64 d4), d5, d6, d7] H204 (by kernel_rfl) rfl (all_c rfl (all_c rfl (all_c rfl (all_c rfl (all_c rfl (all_c hs206.2 (all_c hs207.2 (all_c hs208.2 all_n)))))))) ⟨rfl, Nat.le_of_ble_eq_true (by kernel_rfl), rfl⟩ ?_
                      refine t_done [(.agg [(.int .i64 d0), (.int .i64 d1), (.int .i64 d2), (.int .i64 d3), (.int .i64 d4), d5, d6, d7]), (.agg [(.int .i64 e8), (.int .i64 e9), (.int .i64 e10), (.int .i64 e11), (.int .i64 e12)]), (.agg [(.int .i64 d0), (.int .i64 d1), (.int .i64 d2), (.int .i64 d3), (.int .i64 d4), d5, d6, d7]), (.int .i64 11), (.agg [(.int .i64 e8), (.int .i64 e9), (.int .i64 e10), (.int .i64 e11), (.int .i64 e12)]), (.bool ((decide (e8 < 1)) || (decide (e8 > 4)))), (.agg [(.int .i64 d0), (.int .i64 d1), (.int .i64 d2), (.int .i64 d3), (.int .i64 d4), d5, d6, d7]), d29, d30, d31, (.bool (((e8) != 2) && (((e11) != 0) || ((e12) != 0)))), (.bool ((decide (e10 < 0)) || (decide (e10 ≥ d0)))), (.bool ((e8) == 4)), .undef, .undef, .undef, (.bool ((e8) == 1)), .undef, (.int .i64 r80), .undef, .undef, .undef, .undef, d145, (.bool (decide (r80 < 0))), (.bool ((e8) == 2)), .undef, .undef, (.agg [(.int .i64 r156), (.int .i64 r157), (.int .i64 r158), (.int .i64 r159), (.int .i64 r160), r161, r162, r163]), .undef, (.bool ((r203) != 2)), .undef] H204 (by kernel_rfl) ?_
                      refine then_norm ?_
                      refine w_ret ?_
                      refine then_ret ?_
                      exact body_ret (vs := [(.agg [(.int .i64 d0), (.int .i64 d1), (.int .i64 d2), (.int .i64 d3), (.int .i64 d4), d5, d6, d7]), (.int .i64 11)]) _ (by kernel_rfl) rfl h
                    · replace h := h.2 (is_ne.f hc)
                      refine w_skip ?_
                      refine then_norm ?_
                      refine w_seq ?_
                      refine w_seq ?_
                      refine w_run [0, 0, 0, 0, 0, 0, 0, 0, 0, 0, 0, 3, 2, 0] ?_
                      refine t_gd (decide ((IntKind.wrap .i64 (e10 + 1)) < d0)) true (by kernel_rfl) (fun hc => ?_) (fun hc => ?_)
                      · replace h := h.1 (is_dec.t hc)
                        refine t_call true nFDeployment_Active [(.agg [(.int .i64 d0), (.int .i64 d1), (.int .i64 d2), (.int .i64 d3), (.int .i64 d4), d5, d6, d7]), (.int .i64 (IntKind.wrap .i64 (e10 + 1)))] H204 (by kernel_rfl) h ?_
                        clear h
                        rintro _ H210 ⟨r209, rfl, h⟩
                        refine t_gd true true (by kernel_rfl) (fun _ => ?_) (fun hn => by cases hn)
                        refine t_done [(.agg [(.int .i64 d0), (.int .i64 d1), (.int .i64 d2), (.int .i64 d3), (.int .i64 d4), d5, d6, d7]), (.agg [(.int .i64 e8), (.int .i64 e9), (.int .i64 e10), (.int .i64 e11), (.int .i64 e12)]), (.agg [(.int .i64 v136), (.int .i64 v137), (.int .i64 v138), (.int .i64 v139), (.int .i64 v140), v141, v142, v143]), d144, (.agg [(.int .i64 e8), (.int .i64 e9), (.int .i64 e10), (.int .i64 e11), (.int .i64 e12)]), (.bool ((decide (e8 < 1)) || (decide (e8 > 4)))), (.agg [(.int .i64 d0), (.int .i64 d1), (.int .i64 d2), (.int .i64 d3), (.int .i64 d4), d5, d6, d7]), d29, d30, d31, (.bool (((e8) != 2) && (((e11) != 0) || ((e12) != 0)))), (.bool ((decide (e10 < 0)) || (decide (e10 ≥ d0)))), (.bool ((e8) == 4)), .undef, .undef, .undef, (.bool ((e8) == 1)), .undef, (.int .i64 r80), .undef, .undef, .undef, .undef, d145, (.bool (decide (r80 < 0))), (.bool ((e8) == 2)), .undef, .undef, (.agg [(.int .i64 r156), (.int .i64 r157), (.int .i64 r158), (.int .i64 r159), (.int .i64 r160), r161, r162, r163]), .undef, (.bool ((r203) != 2)), (.bool (decide (r209 ≥ 0)))] H210 (by kernel_rfl) ?_
                        refine then_norm ?_
                        refine w_cond (t := (decide (r209 ≥ 0))) rfl (fun hc => ?_) (fun hc => ?_)
                        · replace h := h.1 (is_dec.t hc)
                          refine w_seq ?_
                          refine w_run [0, 1, 0] ?_
                          obtain ⟨hs212, h⟩ := h
                          obtain ⟨hs213, h⟩ := h
                          obtain ⟨hs214, h⟩ := h
                          refine t_upd true 8 0 [(.int .i64 v136), (.int .i64 v137), (.int .i64 v138), (.int .i64 v139), (.int .i64 v140), v141, v142, v143] (.agg [(.int .i64 d0), (.int .i64 d1), (.int .i64 d2), (.int .i64 d3), (.int .i64 d4), d5, d6, d7]) [(.int .i64 d0), (.int .i64 d1), (.int .i64 d2), (.int .i64 d3), (.int .i64 d4), d5, d6, d7] [(.int .i64 d0), (.int .i64 d1), (.int .i64 d2), (.int .i64 d3), (.int .i64 d4), d5, d6, d7] H210 (by kernel_rfl) rfl (all_c rfl (all_c rfl (all_c rfl (all_c rfl (all_c rfl (all_c hs212.2 (all_c hs213.2 (all_c hs214.2 all_n)))))))) ⟨rfl, Nat.le_of_ble_eq_true (by kernel_rfl), rfl⟩ ?_
                          refine t_done [(.agg [(.int .i64 d0), (.int .i64 d1), (.int .i64 d2), (.int .i64 d3), (.int .i64 d4), d5, d6, d7]), (.agg [(.int .i64 e8), (.int .i64 e9), (.int .i64 e10), (.int .i64 e11), (.int .i64 e12)]), (.agg [(.int .i64 d0), (.int .i64 d1), (.int .i64 d2), (.int .i64 d3), (.int .i64 d4), d5, d6, d7]), (.int .i64 15), (.agg [(.int .i64 e8), (.int .i64 e9), (.int .i64 e10), (.int .i64 e11), (.int .i64 e12)]), (.bool ((decide (e8 < 1)) || (decide (e8 > 4)))), (.agg [(.int .i64 d0), (.int .i64 d1), (.int .i64 d2), (.int .i64 d3), (.int .i64 d4), d5, d6, d7]), d29, d30, d31, (.bool (((e8) != 2) && (((e11) != 0) || ((e12) != 0)))), (.bool ((decide (e10 < 0)) || (decide (e10 ≥ d0)))), (.bool ((e8) == 4)), .undef, .undef, .undef, (.bool ((e8) == 1)), .undef, (.int .i64 r80), .undef, .undef, .undef, .undef, d145, (.bool (decide (r80 < 0))), (.bool ((e8) == 2)), .undef, .undef, (.agg [(.int .i64 r156), (.int .i64 r157), (.int .i64 r158), (.int .i64 r159), (.int .i64 r160), r161, r162, r163]), .undef, (.bool ((r203) != 2)), (.bool (decide (r209 ≥ 0)))] H210 (by kernel_rfl) ?_
                          refine then_norm ?_
                          refine w_ret ?_
                          refine then_ret ?_
                          exact body_ret (vs := [(.agg [(.int .i64 d0), (.int .i64 d1), (.int .i64 d2), (.int .i64 d3), (.int .i64 d4), d5, d6, d7]), (.int .i64 15)]) _ (by kernel_rfl) rfl h
                        · replace h := h.2 (is_dec.f hc)
                          refine w_skip ?_
                          refine then_norm ?_
                          refine w_seq ?_
                          refine w_run [0, 0, 0, 0, 0, 0, 1, 1] ?_
                          obtain ⟨b215, o216, hp, h⟩ := h
                          refine t_idx true 1 r162 .i64 r80 b215 o216 H210 (by kernel_rfl) hp ?_
                          obtain ⟨H217, hp, h⟩ := h
                          refine t_store true 1 b215 o216 (.int .i64 (IntKind.wrap .i64 (e10 + 1))) H217 H210 (by kernel_rfl) hp ?_
                          refine t_done [(.agg [(.int .i64 d0), (.int .i64 d1), (.int .i64 d2), (.int .i64 d3), (.int .i64 d4), d5, d6, d7]), (.agg [(.int .i64 e8), (.int .i64 e9), (.int .i64 e10), (.int .i64 e11), (.int .i64 e12)]), (.agg [(.int .i64 v136), (.int .i64 v137), (.int .i64 v138), (.int .i64 v139), (.int .i64 v140), v141, v142, v143]), d144, (.agg [(.int .i64 e8), (.int .i64 e9), (.int .i64 e10), (.int .i64 e11), (.int .i64 e12)]), (.bool ((decide (e8 < 1)) || (decide (e8 > 4)))), (.agg [(.int .i64 d0), (.int .i64 d1), (.int .i64 d2), (.int .i64 d3), (.int .i64 d4), d5, d6, d7]), d29, d30, d31, (.bool (((e8) != 2) && (((e11) != 0) || ((e12) != 0)))), (.bool ((decide (e10 < 0)) || (decide (e10 ≥ d0)))), (.bool ((e8) == 4)), .undef, .undef, .undef, (.bool ((e8) == 1)), .undef, (.int .i64 r80), .undef, .undef, .undef, .undef, d145, (.bool (decide (r80 < 0))), (.bool ((e8) == 2)), .undef, .undef, (.agg [(.int .i64 r156), (.int .i64 r157), (.int .i64 r158), (.int .i64 r159), (.int .i64 r160), r161, r162, r163]), .undef, (.bool ((r203) != 2)), (.bool (decide (r209 ≥ 0)))] H217 (by kernel_rfl) ?_
                          refine then_norm ?_
                          refine w_seq ?_
                          refine w_run [0, 0, 0, 1, 1, 1] ?_
                          refine t_build true [(.int .i64 0), (.int .i64 0)] [] [] [(.int .i64 0), (.int .i64 0)] H217 (by kernel_rfl) (by kernel_rfl) ?_
                          obtain ⟨b218, o219, hp, h⟩ := h
                          refine t_idx true 2 r163 .i64 r80 b218 o219 H217 (by kernel_rfl) hp ?_
                          obtain ⟨H220, hp, h⟩ := h
                          refine t_store true 2 b218 o219 (.agg [(.int .i64 0), (.int .i64 0)]) H220 H217 (by kernel_rfl) hp ?_
                          refine t_done [(.agg [(.int .i64 d0), (.int .i64 d1), (.int .i64 d2), (.int .i64 d3), (.int .i64 d4), d5, d6, d7]), (.agg [(.int .i64 e8), (.int .i64 e9), (.int .i64 e10), (.int .i64 e11), (.int .i64 e12)]), (.agg [(.int .i64 v136), (.int .i64 v137), (.int .i64 v138), (.int .i64 v139), (.int .i64 v140), v141, v142, v143]), d144, (.agg [(.int .i64 e8), (.int .i64 e9), (.int .i64 e10), (.int .i64 e11), (.int .i64 e12)]), (.bool ((decide (e8 < 1)) || (decide (e8 > 4)))), (.agg [(.int .i64 d0), (.int .i64 d1), (.int .i64 d2), (.int .i64 d3), (.int .i64 d4), d5, d6, d7]), d29, d30, d31, (.bool (((e8) != 2) && (((e11) != 0) || ((e12) != 0)))), (.bool ((decide (e10 < 0)) || (decide (e10 ≥ d0)))), (.bool ((e8) == 4)), .undef, .undef, .undef, (.bool ((e8) == 1)), .undef, (.int .i64 r80), .undef, .undef, .undef, .undef, d145, (.bool (decide (r80 < 0))), (.bool ((e8) == 2)), .undef, .undef, (.agg [(.int .i64 r156), (.int .i64 r157), (.int .i64 r158), (.int .i64 r159), (.int .i64 r160), r161, r162, r163]), .undef, (.bool ((r203) != 2)), (.bool (decide (r209 ≥ 0)))] H220 (by kernel_rfl) ?_
                          refine then_norm ?_
                          refine w_seq ?_
                          refine w_run [0, 1, 0] ?_
                          refine t_upd true 8 0 [(.int .i64 v136), (.int .i64 v137), (.int .i64 v138), (.int .i64 v139), (.int .i64 v140), v141, v142, v143] (.agg [(.int .i64 r156), (.int .i64 r157), (.int .i64 r158), (.int .i64 r159), (.int .i64 r160), r161, r162, r163]) [(.int .i64 r156), (.int .i64 r157), (.int .i64 r158), (.int .i64 r159), (.int .i64 r160), r161, r162, r163] [(.int .i64 r156), (.int .i64 r157), (.int .i64 r158), (.int .i64 r159), (.int .i64 r160), r161, r162, r163] H220 (by kernel_rfl) rfl (all_c rfl (all_c rfl (all_c rfl (all_c rfl (all_c rfl (all_c hs167.2 (all_c hs168.2 (all_c hs169.2 all_n)))))))) ⟨rfl, Nat.le_of_ble_eq_true (by kernel_rfl), rfl⟩ ?_
                          refine t_done [(.agg [(.int .i64 d0), (.int .i64 d1), (.int .i64 d2), (.int .i64 d3), (.int .i64 d4), d5, d6, d7]), (.agg [(.int .i64 e8), (.int .i64 e9), (.int .i64 e10), (.int .i64 e11), (.int .i64 e12)]), (.agg [(.int .i64 r156), (.int .i64 r157), (.int .i64 r158), (.int .i64 r159), (.int .i64 r160), r161, r162, r163]), (.int .i64 0), (.agg [(.int .i64 e8), (.int .i64 e9), (.int .i64 e10), (.int .i64 e11), (.int .i64 e12)]), (.bool ((decide (e8 < 1)) || (decide (e8 > 4)))), (.agg [(.int .i64 d0), (.int .i64 d1), (.int .i64 d2), (.int .i64 d3), (.int .i64 d4), d5, d6, d7]), d29, d30, d31, (.bool (((e8) != 2) && (((e11) != 0) || ((e12) != 0)))), (.bool ((decide (e10 < 0)) || (decide (e10 ≥ d0)))), (.bool ((e8) == 4)), .undef, .undef, .undef, (.bool ((e8) == 1)), .undef, (.int .i64 r80), .undef, .undef, .undef, .undef, d145, (.bool (decide (r80 < 0))), (.bool ((e8) == 2)), .undef, .undef, (.agg [(.int .i64 r156), (.int .i64 r157), (.int .i64 r158), (.int .i64 r159), (.int .i64 r160), r161, r162, r163]), .undef, (.bool ((r203) != 2)), (.bool (decide (r209 ≥ 0)))] H220 (by kernel_rfl) ?_
                          refine then_norm ?_
                          refine w_ret ?_
                          exact body_ret (vs := [(.agg [(.int .i64 r156), (.int .i64 r157), (.int .i64 r158), (.int .i64 r159), (.int .i64 r160), r161, r162, r163]), (.int .i64 0)]) _ (by kernel_rfl) rfl h
                      · replace h := h.2 (is_dec.f hc)
                        refine t_gd false true (by kernel_rfl) (fun hn => by cases hn) (fun _ => ?_)
                        refine t_done [(.agg [(.int .i64 d0), (.int .i64 d1), (.int .i64 d2), (.int .i64 d3), (.int .i64 d4), d5, d6, d7]), (.agg [(.int .i64 e8), (.int .i64 e9), (.int .i64 e10), (.int .i64 e11), (.int .i64 e12)]), (.agg [(.int .i64 v136), (.int .i64 v137), (.int .i64 v138), (.int .i64 v139), (.int .i64 v140), v141, v142, v143]), d144, (.agg [(.int .i64 e8), (.int .i64 e9), (.int .i64 e10), (.int .i64 e11), (.int .i64 e12)]), (.bool ((decide (e8 < 1)) || (decide (e8 > 4)))), (.agg [(.int .i64 d0), (.int .i64 d1), (.int .i64 d2), (.int .i64 d3), (.int .i64 d4), d5, d6, d7]), d29, d30, d31, (.bool (((e8) != 2) && (((e11) != 0) || ((e12) != 0)))), (.bool ((decide (e10 < 0)) || (decide (e10 ≥ d0)))), (.bool ((e8) == 4)), .undef, .undef, .undef, (.bool ((e8) == 1)), .undef, (.int .i64 r80), .undef, .undef, .undef, .undef, d145, (.bool (decide (r80 < 0))), (.bool ((e8) == 2)), .undef, .undef, (.agg [(.int .i64 r156), (.int .i64 r157), (.int .i64 r158), (.int .i64 r159), (.int .i64 r160), r161, r162, r163]), .undef, (.bool ((r203) != 2)), (.bool false)] H204 (by kernel_rfl) ?_
                        refine then_norm ?_
                        refine w_cond (t := false) rfl (fun hc => by cases hc) (fun _ => ?_)
                        refine w_skip ?_
                        refine then_norm ?_
                        refine w_seq ?_
                        refine w_run [0, 0, 0, 0, 0, 0, 1, 1] ?_
                        obtain ⟨b221, o222, hp, h⟩ := h
                        refine t_idx true 1 r162 .i64 r80 b221 o222 H204 (by kernel_rfl) hp ?_
                        obtain ⟨H223, hp, h⟩ := h
                        refine t_store true 1 b221 o222 (.int .i64 (IntKind.wrap .i64 (e10 + 1))) H223 H204 (by kernel_rfl) hp ?_
                        refine t_done [(.agg [(.int .i64 d0), (.int .i64 d1), (.int .i64 d2), (.int .i64 d3), (.int .i64 d4), d5, d6, d7]), (.agg [(.int .i64 e8), (.int .i64 e9), (.int .i64 e10), (.int .i64 e11), (.int .i64 e12)]), (.agg [(.int .i64 v136), (.int .i64 v137), (.int .i64 v138), (.int .i64 v139), (.int .i64 v140), v141, v142, v143]), d144, (.agg [(.int .i64 e8), (.int .i64 e9), (.int .i64 e10), (.int .i64 e11), (.int .i64 e12)]), (.bool ((decide (e8 < 1)) || (decide (e8 > 4)))), (.agg [(.int .i64 d0), (.int .i64 d1), (.int .i64 d2), (.int .i64 d3), (.int .i64 d4), d5, d6, d7]), d29, d30, d31, (.bool (((e8) != 2) && (((e11) != 0) || ((e12) != 0)))), (.bool ((decide (e10 < 0)) || (decide (e10 ≥ d0)))), (.bool ((e8) == 4)), .undef, .undef, .undef, (.bool ((e8) == 1)), .undef, (.int .i64 r80), .undef, .undef, .undef, .undef, d145, (.bool (decide (r80 < 0))), (.bool ((e8) == 2)), .undef, .undef, (.agg [(.int .i64 r156), (.int .i64 r157), (.int .i64 r158), (.int .i64 r159), (.int .i64 r160), r161, r162, r163]), .undef, (.bool ((r203) != 2)), (.bool false)] H223 (by kernel_rfl) ?_
                        refine then_norm ?_
                        refine w_seq ?_
                        refine w_run [0, 0, 0, 1, 1, 1] ?_
                        refine t_build true [(.int .i64 0), (.int .i64 0)] [] [] [(.int .i64 0), (.int .i64 0)] H223 (by kernel_rfl) (by kernel_rfl) ?_
                        obtain ⟨b224, o225, hp, h⟩ := h
                        refine t_idx true 2 r163 .i64 r80 b224 o225 H223 (by kernel_rfl) hp ?_
                        obtain ⟨H226, hp, h⟩ := h
                        refine t_store true 2 b224 o225 (.agg [(.int .i64 0), (.int .i64 0)]) H226 H223 (by kernel_rfl) hp ?_
                        refine t_done [(.agg [(.int .i64 d0), (.int .i64 d1), (.int .i64 d2), (.int .i64 d3), (.int .i64 d4), d5, d6, d7]), (.agg [(.int .i64 e8), (.int .i64 e9), (.int .i64 e10), (.int .i64 e11), (.int .i64 e12)]), (.agg [(.int .i64 v136), (.int .i64 v137), (.int .i64 v138), (.int .i64 v139), (.int .i64 v140), v141, v142, v143]), d144, (.agg [(.int .i64 e8), (.int .i64 e9), (.int .i64 e10), (.int .i64 e11), (.int .i64 e12)]), (.bool ((decide (e8 < 1)) || (decide (e8 > 4)))), (.agg [(.int .i64 d0), (.int .i64 d1), (.int .i64 d2), (.int .i64 d3), (.int .i64 d4), d5, d6, d7]), d29, d30, d31, (.bool (((e8) != 2) && (((e11) != 0) || ((e12) != 0)))), (.bool ((decide (e10 < 0)) || (decide (e10 ≥ d0)))), (.bool ((e8) == 4)), .undef, .undef, .undef, (.bool ((e8) == 1)), .undef, (.int .i64 r80), .undef, .undef, .undef, .undef, d145, (.bool (decide (r80 < 0))), (.bool ((e8) == 2)), .undef, .undef, (.agg [(.int .i64 r156), (.int .i64 r157), (.int .i64 r158), (.int .i64 r159), (.int .i64 r160), r161, r162, r163]), .undef, (.bool ((r203) != 2)), (.bool false)] H226 (by kernel_rfl) ?_
                        refine then_norm ?_
                        refine w_seq ?_
                        refine w_run [0, 1, 0] ?_
                        refine t_upd true 8 0 [(.int .i64 v136), (.int .i64 v137), (.int .i64 v138), (.int .i64 v139), (.int .i64 v140), v141, v142, v143] (.agg [(.int .i64 r156), (.int .i64 r157), (.int .i64 r158), (.int .i64 r159), (.int .i64 r160), r161, r162, r163]) [(.int .i64 r156), (.int .i64 r157), (.int .i64 r158), (.int .i64 r159), (.int .i64 r160), r161, r162, r163] [(.int .i64 r156), (.int .i64 r157), (.int .i64 r158), (.int .i64 r159), (.int .i64 r160), r161, r162, r163] H226 (by kernel_rfl) rfl (all_c rfl (all_c rfl (all_c rfl (all_c rfl (all_c rfl (all_c hs167.2 (all_c hs168.2 (all_c hs169.2 all_n)))))))) ⟨rfl, Nat.le_of_ble_eq_true (by kernel_rfl), rfl⟩ ?_
                        refine t_done [(.agg [(.int .i64 d0), (.int .i64 d1), (.int .i64 d2), (.int .i64 d3), (.int .i64 d4), d5, d6, d7]), (.agg [(.int .i64 e8), (.int .i64 e9), (.int .i64 e10), (.int .i64 e11), (.int .i64 e12)]), (.agg [(.int .i64 r156), (.int .i64 r157), (.int .i64 r158), (.int .i64 r159), (.int .i64 r160), r161, r162, r163]), (.int .i64 0), (.agg [(.int .i64 e8), (.int .i64 e9), (.int .i64 e10), (.int .i64 e11), (.int .i64 e12)]), (.bool ((decide (e8 < 1)) || (decide (e8 > 4)))), (.agg [(.int .i64 d0), (.int .i64 d1), (.int .i64 d2), (.int .i64 d3), (.int .i64 d4), d5, d6, d7]), d29, d30, d31, (.bool (((e8) != 2) && (((e11) != 0) || ((e12) != 0)))), (.bool ((decide (e10 < 0)) || (decide (e10 ≥ d0)))), (.bool ((e8) == 4)), .undef, .undef, .undef, (.bool ((e8) == 1)), .undef, (.int .i64 r80), .undef, .undef, .undef, .undef, d145, (.bool (decide (r80 < 0))), (.bool ((e8) == 2)), .undef, .undef, (.agg [(.int .i64 r156), (.int .i64 r157), (.int .i64 r158), (.int .i64 r159), (.int .i64 r160), r161, r162, r163]), .undef, (.bool ((r203) != 2)), (.bool false)] H226 (by kernel_rfl) ?_
                        refine then_norm ?_
                        refine w_ret ?_
                        exact body_ret (vs := [(.agg [(.int .i64 r156), (.int .i64 r157), (.int .i64 r158), (.int .i64 r159), (.int .i64 r160), r161, r162, r163]), (.int .i64 0)]) _ (by kernel_rfl) rfl h

def rf_FDeployment_State : RFunc := ⟨1, 9, [.var 1],
 ((.seq (.ops [⟨.tomb 1 (.var 0), none, (some 2), true⟩, ⟨.move (.k (.empty)), none, (some 1), true⟩])
 ((.seq (.ops [⟨.field 0 none (.var 2), none, none, true⟩, ⟨.field 0 none (.var 2), none, none, true⟩, ⟨.makeSlice 4 48 [.empty, .int .i64 0, .int .i64 0, .int .i64 0] (.loc 1) (.loc 1), none, none, true⟩, ⟨.move (.loc 2), none, (some 7), true⟩])
 ((.seq ((.seq (.ops [⟨.move (.k (.int .i64 0)), none, (some 3), true⟩])
 (.block 0 (.loop ((.seq ((.seq (.ops [⟨.move (.var 3), none, none, true⟩, ⟨.field 0 none (.var 2), none, none, true⟩, ⟨.field 5 none (.var 2), none, none, true⟩, ⟨.len (.loc 2), none, none, true⟩, ⟨.bin .lss .no (.loc 0) (.loc 3), none, (some 4), true⟩])
 (.cond (.var 4) (.skip) (.exit 0))))
 ((.seq (.block 1 ((.seq ((.seq (.ops [⟨.move (.k (.int .i64 0)), none, (some 5), true⟩])
 (.block 2 (.loop ((.seq ((.seq (.ops [⟨.move (.var 5), none, none, true⟩, ⟨.field 0 none (.var 2), none, none, true⟩, ⟨.field 6 none (.var 2), none, none, true⟩, ⟨.move (.var 3), none, none, true⟩, ⟨.indexAddr 1 (.loc 2) (.loc 3), none, none, true⟩, ⟨.load none (.loc 4), none, none, true⟩, ⟨.bin .lss .no (.loc 0) (.loc 5), none, (some 6), true⟩])
 (.cond (.var 6) (.skip) (.exit 2))))
 ((.seq (.block 3 (.ops [⟨.move (.var 7), none, none, false⟩, ⟨.move (.var 5), none, none, false⟩, ⟨.move (.var 7), none, none, false⟩, ⟨.move (.var 5), none, none, false⟩, ⟨.indexAddr 4 (.loc 2) (.loc 3), none, none, false⟩, ⟨.fieldAddr 0 (.loc 4), none, none, false⟩, ⟨.load none (.loc 5), none, none, false⟩, ⟨.field 0 none (.var 2), none, none, false⟩, ⟨.field 5 none (.var 2), none, none, false⟩, ⟨.move (.var 3), none, none, false⟩, ⟨.indexAddr 1 (.loc 8) (.loc 9), none, none, false⟩, ⟨.load none (.loc 10), none, none, false⟩, ⟨.buildSlice 1 [.int .i64 0] [(0, 1, (.loc 11))] 1, none, none, false⟩, ⟨.append 1 8 (.loc 6) (.loc 12), none, none, true⟩, ⟨.indexAddr 4 (.loc 0) (.loc 1), none, none, true⟩, ⟨.fieldAddr 0 (.loc 14), none, none, true⟩, ⟨.store 1 (.loc 15) (.loc 13) [], none, none, true⟩]))
 (.ops [⟨.move (.var 5), none, none, true⟩, ⟨.bin .add .no (.loc 0) (.k (.int .i64 1)), none, none, true⟩, ⟨.move (.loc 1), none, (some 5), true⟩])))))))))
 ((.seq (.ops [⟨.field 0 none (.var 2), none, none, false⟩, ⟨.field 6 none (.var 2), none, none, false⟩, ⟨.move (.var 3), none, none, false⟩, ⟨.indexAddr 1 (.loc 1) (.loc 2), none, none, false⟩, ⟨.load none (.loc 3), none, none, false⟩, ⟨.field 0 none (.var 2), none, none, false⟩, ⟨.field 0 none (.var 2), none, none, false⟩, ⟨.bin .lss .no (.loc 4) (.loc 6), none, (some 8), true⟩])
 (.cond (.var 8) ((.seq (.ops [⟨.move (.var 7), none, none, false⟩, ⟨.field 0 none (.var 2), none, none, false⟩, ⟨.field 6 none (.var 2), none, none, false⟩, ⟨.move (.var 3), none, none, false⟩, ⟨.indexAddr 1 (.loc 2) (.loc 3), none, none, false⟩, ⟨.load none (.loc 4), none, none, false⟩, ⟨.field 0 none (.var 2), none, none, false⟩, ⟨.field 5 none (.var 2), none, none, false⟩, ⟨.move (.var 3), none, none, false⟩, ⟨.indexAddr 1 (.loc 7) (.loc 8), none, none, false⟩, ⟨.load none (.loc 9), none, none, false⟩, ⟨.indexAddr 4 (.loc 0) (.loc 5), none, none, true⟩, ⟨.fieldAddr 1 (.loc 11), none, none, true⟩, ⟨.store 1 (.loc 12) (.loc 10) [], none, none, true⟩])
 (.ops [⟨.move (.var 7), none, none, false⟩, ⟨.field 0 none (.var 2), none, none, false⟩, ⟨.field 6 none (.var 2), none, none, false⟩, ⟨.move (.var 3), none, none, false⟩, ⟨.indexAddr 1 (.loc 2) (.loc 3), none, none, false⟩, ⟨.load none (.loc 4), none, none, false⟩, ⟨.field 0 none (.var 2), none, none, false⟩, ⟨.field 7 none (.var 2), none, none, false⟩, ⟨.move (.var 3), none, none, false⟩, ⟨.indexAddr 2 (.loc 7) (.loc 8), none, none, false⟩, ⟨.load (some 2) (.loc 9), none, none, false⟩, ⟨.indexAddr 4 (.loc 0) (.loc 5), none, none, true⟩, ⟨.fieldAddr 2 (.loc 11), none, none, true⟩, ⟨.store 2 (.loc 12) (.loc 10) [], none, none, true⟩]))) (.skip)))))))
 (.ops [⟨.move (.var 3), none, none, true⟩, ⟨.bin .add .no (.loc 0) (.k (.int .i64 1)), none, none, true⟩, ⟨.move (.loc 1), none, (some 3), true⟩])))))))))
 ((.seq (.ops [⟨.move (.var 7), none, none, true⟩, ⟨.move (.loc 0), none, (some 1), true⟩])
 (.ret)))))))))⟩
theorem v_FDeployment_State {F : Nat → Option RFunc} {me : Nat} (hF : F me = some (rf_FDeployment_State )) {fl : Nat} {H : Heap} {Q : AV → Heap → Prop} (d0 : Int) (d1 : Int) (d2 : Int) (d3 : Int) (d4 : Int) (d5 : AV) (d6 : AV) (d7 : AV)
  (h : ∀ (H8 : Heap), Dead1 H 1 H8 → (0 ≤ d0 ∧ d0 ≤ d0 ∧ (48 : Int) * d0 ≤ 2 ^ 47 ∧ d0 < 2 ^ 62) ∧ ∀ (b9 : Nat) (H10 : Heap), NewB H8 4 (zeros (Int.toNat d0) [.empty, (.int .i64 0), (.int .i64 0), (.int .i64 0)]) b9 H10 → ∃ (J11 : Nat → Int → Heap → Prop) (k12 : Nat), J11 k12 0 H10 ∧ (∀ (m13 : Nat) (i14 : Int) (H19 : Heap), J11 m13 i14 H19 → ∃ len20 : Nat, lenA d5 = some len20 ∧ ((i14 < (len20 : Int)) → ∃ (J21 : Nat → Int → Heap → Prop) (k22 : Nat), J21 k22 0 H19 ∧ (∀ (m23 : Nat) (r24 : Int) (H26 : Heap), J21 m23 r24 H26 → ∃ (e27 : Int), getA H26 1 none d6 i14 0 = some (.int .i64 e27) ∧ ((r24 < e27) → ∃ (e29 : AV), getA H26 4 none (.slice b9 0 (Int.toNat d0) (some (Int.toNat d0))) r24 0 = some e29 ∧ ∃ (e31 : Int), getA H26 1 none d5 i14 0 = some (.int .i64 e31) ∧ ∀ (b33 : Nat) (H34 : Heap), NewB H26 1 [(.int .i64 e31)] b33 H34 → ∃ (a35 : AV) (H36 : Heap), appA fl true 1 8 H34 e29 (.slice b33 0 1 (some 1)) = some (a35, H36) ∧ ∃ b37 o38 : Nat, ptrA 4 (.slice b9 0 (Int.toNat d0) (some (Int.toNat d0))) r24 = some (b37, o38) ∧ ∃ H39 : Heap, putA fl H36 b37 o38 1 a35 = some H39 ∧ ∃ m40 : Nat, m40 < m23 ∧ J21 m40 (IntKind.wrap .i64 (r24 + 1)) H39) ∧ (¬(r24 < e27) → ∃ (e41 : Int), getA H26 1 none d6 i14 0 = some (.int .i64 e41) ∧ ((e41 < d0) → ∃ (e43 : Int), getA H26 1 none d6 i14 0 = some (.int .i64 e43) ∧ ∃ (e45 : Int), getA H26 1 none d5 i14 0 = some (.int .i64 e45) ∧ ∃ b47 o48 : Nat, ptrA 4 (.slice b9 0 (Int.toNat d0) (some (Int.toNat d0))) e43 = some (b47, o48) ∧ ∃ H49 : Heap, putA fl H26 b47 (o48 + 1) 1 (.int .i64 e45) = some H49 ∧ ∃ (e50 : Int), getA H49 1 none d6 i14 0 = some (.int .i64 e50) ∧ ∃ (e52 : Int) (e53 : Int), getA H49 2 (some 2) d7 i14 0 = some (.agg [(.int .i64 e52), (.int .i64 e53)]) ∧ ∃ b55 o56 : Nat, ptrA 4 (.slice b9 0 (Int.toNat d0) (some (Int.toNat d0))) e50 = some (b55, o56) ∧ ∃ H57 : Heap, putA fl H49 b55 (o56 + 2) 2 (.agg [(.int .i64 e52), (.int .i64 e53)]) = some H57 ∧ ∃ m58 : Nat, m58 < m13 ∧ J11 m58 (IntKind.wrap .i64 (i14 + 1)) H57) ∧ (¬(e41 < d0) → ∃ m59 : Nat, m59 < m13 ∧ J11 m59 (IntKind.wrap .i64 (i14 + 1)) H26)))) ∧ (¬(i14 < (len20 : Int)) → Q (.slice b9 0 (Int.toNat d0) (some (Int.toNat d0))) H19))) : Ret F fl me [(.agg [(.int .i64 d0), (.int .i64 d1), (.int .i64 d2), (.int .i64 d3), (.int .i64 d4), d5, d6, d7])] H Q := by
  refine ret_intro hF rfl ?_
  refine w_seq ?_
  refine w_run [1, 0] ?_
  obtain ⟨H8, hb⟩ : ∃ H', Dead1 H 1 H' := ⟨_, ⟨rfl⟩⟩
  replace h := h H8 hb
  refine t_tomb true 1 (.agg [(.int .i64 d0), (.int .i64 d1), (.int .i64 d2), (.int .i64 d3), (.int .i64 d4), d5, d6, d7]) [(.int .i64 d0), (.int .i64 d1), (.int .i64 d2), (.int .i64 d3), (.int .i64 d4), d5, d6, d7] H8 H (by kernel_rfl) rfl hb ?_
  refine t_done [(.agg [(.int .i64 d0), (.int .i64 d1), (.int .i64 d2), (.int .i64 d3), (.int .i64 d4), d5, d6, d7]), .empty, (.agg [(.int .i64 d0), (.int .i64 d1), (.int .i64 d2), (.int .i64 d3), (.int .i64 d4), d5, d6, d7]), .undef, .undef, .undef, .undef, .undef, .undef] H8 (by kernel_rfl) ?_
  refine then_norm ?_
  refine w_seq ?_
  refine w_run [0, 0, 1, 0] ?_
  obtain ⟨hc, h⟩ := h
  obtain ⟨b9, H10, hb⟩ : ∃ b H', NewB H8 4 (zeros (Int.toNat d0) [.empty, (.int .i64 0), (.int .i64 0), (.int .i64 0)]) b H' := ⟨_, _, rfl, rfl⟩
  replace h := h b9 H10 hb
  refine t_make true 4 48 [.empty, (.int .i64 0), (.int .i64 0), (.int .i64 0)] d0 d0 b9 H10 H8 (by kernel_rfl) hc hb ?_
  refine t_done [(.agg [(.int .i64 d0), (.int .i64 d1), (.int .i64 d2), (.int .i64 d3), (.int .i64 d4), d5, d6, d7]), .empty, (.agg [(.int .i64 d0), (.int .i64 d1), (.int .i64 d2), (.int .i64 d3), (.int .i64 d4), d5, d6, d7]), .undef, .undef, .undef, .undef, (.slice b9 0 (Int.toNat d0) (some (Int.toNat d0))), .undef] H10 (by kernel_rfl) ?_
  refine then_norm ?_
  refine w_seq ?_
  refine w_seq ?_
  refine w_run [0] ?_
  refine t_done [(.agg [(.int .i64 d0), (.int .i64 d1), (.int .i64 d2), (.int .i64 d3), (.int .i64 d4), d5, d6, d7]), .empty, (.agg [(.int .i64 d0), (.int .i64 d1), (.int .i64 d2), (.int .i64 d3), (.int .i64 d4), d5, d6, d7]), (.int .i64 0), .undef, .undef, .undef, (.slice b9 0 (Int.toNat d0) (some (Int.toNat d0))), .undef] H10 (by kernel_rfl) ?_
  refine then_norm ?_
  refine w_block ?_
  obtain ⟨J11, k12, h0, h⟩ := h
  refine w_loop (I := fun mI EI HI => ∃ (i14 : Int) (d15 : AV) (d16 : AV) (d17 : AV) (d18 : AV), EI = [(.agg [(.int .i64 d0), (.int .i64 d1), (.int .i64 d2), (.int .i64 d3), (.int .i64 d4), d5, d6, d7]), .empty, (.agg [(.int .i64 d0), (.int .i64 d1), (.int .i64 d2), (.int .i64 d3), (.int .i64 d4), d5, d6, d7]), (.int .i64 i14), d15, d16, d17, (.slice b9 0 (Int.toNat d0) (some (Int.toNat d0))), d18] ∧ J11 mI i14 HI) ?_ k12 ⟨_, _, _, _, _, rfl, h0⟩
  clear h0
  rintro m13 EI H19 ⟨i14, d15, d16, d17, d18, rfl, hJ⟩
  replace h := h m13 i14 H19 hJ
  clear hJ
  refine w_seq ?_
  refine w_seq ?_
  refine w_run [0, 0, 0, 1, 0] ?_
  obtain ⟨len20, hl, h⟩ := h
  refine t_len true d5 len20 H19 (by kernel_rfl) hl ?_
  refine t_done [(.agg [(.int .i64 d0), (.int .i64 d1), (.int .i64 d2), (.int .i64 d3), (.int .i64 d4), d5, d6, d7]), .empty, (.agg [(.int .i64 d0), (.int .i64 d1), (.int .i64 d2), (.int .i64 d3), (.int .i64 d4), d5, d6, d7]), (.int .i64 i14), (.bool (decide (i14 < (len20 : Int)))), d16, d17, (.slice b9 0 (Int.toNat d0) (some (Int.toNat d0))), d18] H19 (by kernel_rfl) ?_
  refine then_norm ?_
  refine w_cond (t := (decide (i14 < (len20 : Int)))) rfl (fun hc => ?_) (fun hc => ?_)
  · replace h := h.1 (is_dec.t hc)
    refine w_skip ?_
    refine then_norm ?_
    refine w_seq ?_
    refine w_block ?_
    refine w_seq ?_
    refine w_seq ?_
    refine w_run [0] ?_
    refine t_done [(.agg [(.int .i64 d0), (.int .i64 d1), (.int .i64 d2), (.int .i64 d3), (.int .i64 d4), d5, d6, d7]), .empty, (.agg [(.int .i64 d0), (.int .i64 d1), (.int .i64 d2), (.int .i64 d3), (.int .i64 d4), d5, d6, d7]), (.int .i64 i14), (.bool (decide (i14 < (len20 : Int)))), (.int .i64 0), d17, (.slice b9 0 (Int.toNat d0) (some (Int.toNat d0))), d18] H19 (by kernel_rfl) ?_
    refine then_norm ?_
    refine w_block ?_
    obtain ⟨J21, k22, h0, h⟩ := h
    refine w_loop (I := fun mI EI HI => ∃ (r24 : Int) (d25 : AV), EI = [(.agg [(.int .i64 d0), (.int .i64 d1), (.int .i64 d2), (.int .i64 d3), (.int .i64 d4), d5, d6, d7]), .empty, (.agg [(.int .i64 d0), (.int .i64 d1), (.int .i64 d2), (.int .i64 d3), (.int .i64 d4), d5, d6, d7]), (.int .i64 i14), (.bool (decide (i14 < (len20 : Int)))), (.int .i64 r24), d25, (.slice b9 0 (Int.toNat d0) (some (Int.toNat d0))), d18] ∧ J21 mI r24 HI) ?_ k22 ⟨_, _, rfl, h0⟩
    clear h0
    rintro m23 EI H26 ⟨r24, d25, rfl, hJ⟩
    replace h := h m23 r24 H26 hJ
    clear hJ
    refine w_seq ?_
    refine w_seq ?_
    refine w_run [0, 0, 0, 0, 1, 1, 0] ?_
    obtain ⟨e27, hg28, h⟩ := h
    refine t_idxG true 1 d6 .i64 i14 H26 (by kernel_rfl) hg28 ?_
    refine t_loadG true none 1 d6 i14 0 (.int .i64 e27) H26 (by kernel_rfl) hg28 ?_
    refine t_done [(.agg [(.int .i64 d0), (.int .i64 d1), (.int .i64 d2), (.int .i64 d3), (.int .i64 d4), d5, d6, d7]), .empty, (.agg [(.int .i64 d0), (.int .i64 d1), (.int .i64 d2), (.int .i64 d3), (.int .i64 d4), d5, d6, d7]), (.int .i64 i14), (.bool (decide (i14 < (len20 : Int)))), (.int .i64 r24), (.bool (decide (r24 < e27))), (.slice b9 0 (Int.toNat d0) (some (Int.toNat d0))), d18] H26 (by kernel_rfl) ?_
    refine then_norm ?_
    refine w_cond (t := (decide (r24 < e27))) rfl (fun hc => ?_) (fun hc => ?_)
    · replace h := h.1 (is_dec.t hc)
      refine w_skip ?_
      refine then_norm ?_
      refine w_seq ?_
      refine w_block ?_
      refine w_run [0, 0, 0, 0, 1, 1, 1, 0, 0, 0, 1, 1, 1, 1, 1, 1, 1] ?_
      obtain ⟨e29, hg30, h⟩ := h
      refine t_idxG false 4 (.slice b9 0 (Int.toNat d0) (some (Int.toNat d0))) .i64 r24 H26 (by kernel_rfl) hg30 ?_
      refine t_fldG false 0 4 (.slice b9 0 (Int.toNat d0) (some (Int.toNat d0))) r24 0 H26 (by kernel_rfl) hg30 ?_
      refine t_loadG false none 4 (.slice b9 0 (Int.toNat d0) (some (Int.toNat d0))) r24 0 e29 H26 (by kernel_rfl) hg30 ?_
      obtain ⟨e31, hg32, h⟩ := h
      refine t_idxG false 1 d5 .i64 i14 H26 (by kernel_rfl) hg32 ?_
      refine t_loadG false none 1 d5 i14 0 (.int .i64 e31) H26 (by kernel_rfl) hg32 ?_
      obtain ⟨b33, H34, hb⟩ : ∃ b H', NewB H26 1 [(.int .i64 e31)] b H' := ⟨_, _, rfl, rfl⟩
      replace h := h b33 H34 hb
      refine t_bs false 1 [(.int .i64 0)] [(0, 1, .loc 0)] 1 [(.int .i64 e31)] [(.int .i64 e31)] b33 H34 H26 (by kernel_rfl) (fill_c (vs := [(.int .i64 e31)]) (size := 1) rfl (by kernel_rfl) (by kernel_rfl) (by kernel_rfl)) hb ?_
      obtain ⟨a35, H36, ha, h⟩ := h
      refine t_app true 1 8 e29 (.slice b33 0 1 (some 1)) a35 H36 H34 (by kernel_rfl) ha ?_
      obtain ⟨b37, o38, hp, h⟩ := h
      refine t_idx true 4 (.slice b9 0 (Int.toNat d0) (some (Int.toNat d0))) .i64 r24 b37 o38 H36 (by kernel_rfl) hp ?_
      refine t_op true (.fieldAddr 0 (.loc 0)) [.ptr b37 o38] H36 (.ptr b37 o38) H36 (by kernel_rfl) rfl ?_
      obtain ⟨H39, hp, h⟩ := h
      refine t_store true 1 b37 o38 a35 H39 H36 (by kernel_rfl) hp ?_
      refine t_done [(.agg [(.int .i64 d0), (.int .i64 d1), (.int .i64 d2), (.int .i64 d3), (.int .i64 d4), d5, d6, d7]), .empty, (.agg [(.int .i64 d0), (.int .i64 d1), (.int .i64 d2), (.int .i64 d3), (.int .i64 d4), d5, d6, d7]), (.int .i64 i14), (.bool (decide (i14 < (len20 : Int)))), (.int .i64 r24), (.bool (decide (r24 < e27))), (.slice b9 0 (Int.toNat d0) (some (Int.toNat d0))), d18] H39 (by kernel_rfl) ?_
      refine block_norm ?_
      refine then_norm ?_
      refine w_run [0, 0, 0] ?_
      refine t_done [(.agg [(.int .i64 d0), (.int .i64 d1), (.int .i64 d2), (.int .i64 d3), (.int .i64 d4), d5, d6, d7]), .empty, (.agg [(.int .i64 d0), (.int .i64 d1), (.int .i64 d2), (.int .i64 d3), (.int .i64 d4), d5, d6, d7]), (.int .i64 i14), (.bool (decide (i14 < (len20 : Int)))), (.int .i64 (IntKind.wrap .i64 (r24 + 1))), (.bool (decide (r24 < e27))), (.slice b9 0 (Int.toNat d0) (some (Int.toNat d0))), d18] H39 (by kernel_rfl) ?_
      obtain ⟨m', hm, h⟩ := h
      refine loop_norm ⟨m', hm, _, _, rfl, h⟩
    · replace h := h.2 (is_dec.f hc)
      refine w_exit ?_
      refine then_exit ?_
      refine loop_exit ?_
      refine block_exit ?_
      refine then_norm ?_
      refine w_seq ?_
      refine w_run [0, 0, 0, 1, 1, 0, 0, 0] ?_
      obtain ⟨e41, hg42, h⟩ := h
      refine t_idxG false 1 d6 .i64 i14 H26 (by kernel_rfl) hg42 ?_
      refine t_loadG false none 1 d6 i14 0 (.int .i64 e41) H26 (by kernel_rfl) hg42 ?_
      refine t_done [(.agg [(.int .i64 d0), (.int .i64 d1), (.int .i64 d2), (.int .i64 d3), (.int .i64 d4), d5, d6, d7]), .empty, (.agg [(.int .i64 d0), (.int .i64 d1), (.int .i64 d2), (.int .i64 d3), (.int .i64 d4), d5, d6, d7]), (.int .i64 i14), (.bool (decide (i14 < (len20 : Int)))), (.int .i64 r24), (.bool (decide (r24 < e27))), (.slice b9 0 (Int.toNat d0) (some (Int.toNat d0))), (.bool (decide (e41 < d0)))] H26 (by kernel_rfl) ?_
      refine then_norm ?_
      refine w_cond (t := (decide (e41 < d0))) rfl (fun hc => ?_) (fun hc => ?_)
      · replace h := h.1 (is_dec.t hc)
        refine w_seq ?_
        refine w_run [0, 0, 0, 0, 1, 1, 0, 0, 0, 1, 1, 1, 1, 1] ?_
        obtain ⟨e43, hg44, h⟩ := h
        refine t_idxG false 1 d6 .i64 i14 H26 (by kernel_rfl) hg44 ?_
        refine t_loadG false none 1 d6 i14 0 (.int .i64 e43) H26 (by kernel_rfl) hg44 ?_
        obtain ⟨e45, hg46, h⟩ := h
        refine t_idxG false 1 d5 .i64 i14 H26 (by kernel_rfl) hg46 ?_
        refine t_loadG false none 1 d5 i14 0 (.int .i64 e45) H26 (by kernel_rfl) hg46 ?_
        obtain ⟨b47, o48, hp, h⟩ := h
        refine t_idx true 4 (.slice b9 0 (Int.toNat d0) (some (Int.toNat d0))) .i64 e43 b47 o48 H26 (by kernel_rfl) hp ?_
        refine t_op true (.fieldAddr 1 (.loc 0)) [.ptr b47 o48] H26 (.ptr b47 (o48 + 1)) H26 (by kernel_rfl) rfl ?_
        obtain ⟨H49, hp, h⟩ := h
        refine t_store true 1 b47 (o48 + 1) (.int .i64 e45) H49 H26 (by kernel_rfl) hp ?_
        refine t_done [(.agg [(.int .i64 d0), (.int .i64 d1), (.int .i64 d2), (.int .i64 d3), (.int .i64 d4), d5, d6, d7]), .empty, (.agg [(.int .i64 d0), (.int .i64 d1), (.int .i64 d2), (.int .i64 d3), (.int .i64 d4), d5, d6, d7]), (.int .i64 i14), (.bool (decide (i14 < (len20 : Int)))), (.int .i64 r24), (.bool (decide (r24 < e27))), (.slice b9 0 (Int.toNat d0) (some (Int.toNat d0))), (.bool (decide (e41 < d0)))] H49 (by kernel_rfl) ?_
        refine then_norm ?_
        refine w_run [0, 0, 0, 0, 1, 1, 0, 0, 0, 1, 1, 1, 1, 1] ?_
        obtain ⟨e50, hg51, h⟩ := h
        refine t_idxG false 1 d6 .i64 i14 H49 (by kernel_rfl) hg51 ?_
        refine t_loadG false none 1 d6 i14 0 (.int .i64 e50) H49 (by kernel_rfl) hg51 ?_
        obtain ⟨e52, e53, hg54, h⟩ := h
        refine t_idxG false 2 d7 .i64 i14 H49 (by kernel_rfl) hg54 ?_
        refine t_loadG false (some 2) 2 d7 i14 0 (.agg [(.int .i64 e52), (.int .i64 e53)]) H49 (by kernel_rfl) hg54 ?_
        obtain ⟨b55, o56, hp, h⟩ := h
        refine t_idx true 4 (.slice b9 0 (Int.toNat d0) (some (Int.toNat d0))) .i64 e50 b55 o56 H49 (by kernel_rfl) hp ?_
        refine t_op true (.fieldAddr 2 (.loc 0)) [.ptr b55 o56] H49 (.ptr b55 (o56 + 2)) H49 (by kernel_rfl) rfl ?_
        obtain ⟨H57, hp, h⟩ := h
        refine t_store true 2 b55 (o56 + 2) (.agg [(.int .i64 e52), (.int .i64 e53)]) H57 H49 (by kernel_rfl) hp ?_
        refine t_done [(.agg [(.int .i64 d0), (.int .i64 d1), (.int .i64 d2), (.int .i64 d3), (.int .i64 d4), d5, d6, d7]), .empty, (.agg [(.int .i64 d0), (.int .i64 d1), (.int .i64 d2), (.int .i64 d3), (.int .i64 d4), d5, d6, d7]), (.int .i64 i14), (.bool (decide (i14 < (len20 : Int)))), (.int .i64 r24), (.bool (decide (r24 < e27))), (.slice b9 0 (Int.toNat d0) (some (Int.toNat d0))), (.bool (decide (e41 < d0)))] H57 (by kernel_rfl) ?_
        refine block_norm ?_
        refine then_norm ?_
        refine w_run [0, 0, 0] ?_
        refine t_done [(.agg [(.int .i64 d0), (.int .i64 d1), (.int .i64 d2), (.int .i64 d3), (.int .i64 d4), d5, d6, d7]), .empty, (.agg [(.int .i64 d0), (.int .i64 d1), (.int .i64 d2), (.int .i64 d3), (.int .i64 d4), d5, d6, d7]), (.int .i64 (IntKind.wrap .i64 (i14 + 1))), (.bool (decide (i14 < (len20 : Int)))), (.int .i64 r24), (.bool (decide (r24 < e27))), (.slice b9 0 (Int.toNat d0) (some (Int.toNat d0))), (.bool (decide (e41 < d0)))] H57 (by kernel_rfl) ?_
        obtain ⟨m', hm, h⟩ := h
        refine loop_norm ⟨m', hm, _, _, _, _, _, rfl, h⟩
      · replace h := h.2 (is_dec.f hc)
        refine w_skip ?_
        refine block_norm ?_
        refine then_norm ?_
        refine w_run [0, 0, 0] ?_
        refine t_done [(.agg [(.int .i64 d0), (.int .i64 d1), (.int .i64 d2), (.int .i64 d3), (.int .i64 d4), d5, d6, d7]), .empty, (.agg [(.int .i64 d0), (.int .i64 d1), (.int .i64 d2), (.int .i64 d3), (.int .i64 d4), d5, d6, d7]), (.int .i64 (IntKind.wrap .i64 (i14 + 1))), (.bool (decide (i14 < (len20 : Int)))), (.int .i64 r24), (.bool (decide (r24 < e27))), (.slice b9 0 (Int.toNat d0) (some (Int.toNat d0))), (.bool (decide (e41 < d0)))] H26 (by kernel_rfl) ?_
        obtain ⟨m', hm, h⟩ := h
        refine loop_norm ⟨m', hm, _, _, _, _, _, rfl, h⟩
  · replace h := h.2 (is_dec.f hc)
    refine w_exit ?_
    refine then_exit ?_
    refine loop_exit ?_
    refine block_exit ?_
    refine then_norm ?_
    refine w_seq ?_
    refine w_run [0, 0] ?_
    refine t_done [(.agg [(.int .i64 d0), (.int .i64 d1), (.int .i64 d2), (.int .i64 d3), (.int .i64 d4), d5, d6, d7]), (.slice b9 0 (Int.toNat d0) (some (Int.toNat d0))), (.agg [(.int .i64 d0), (.int .i64 d1), (.int .i64 d2), (.int .i64 d3), (.int .i64 d4), d5, d6, d7]), (.int .i64 i14), (.bool (decide (i14 < (len20 : Int)))), d16, d17, (.slice b9 0 (Int.toNat d0) (some (Int.toNat d0))), d18] H19 (by kernel_rfl) ?_
    refine then_norm ?_
    refine w_ret ?_
    exact body_ret (vs := [(.slice b9 0 (Int.toNat d0) (some (Int.toNat d0)))]) _ (by kernel_rfl) rfl h

def rf_FEqualRings (nFEqualInts : Nat) : RFunc := ⟨2, 7, [.var 2],
 ((.seq (.ops [⟨.move (.k (.bool false)), none, (some 2), true⟩])
 ((.seq ((.seq (.ops [⟨.move (.var 0), none, none, true⟩, ⟨.len (.loc 0), none, none, true⟩, ⟨.move (.var 1), none, none, true⟩, ⟨.len (.loc 2), none, none, true⟩, ⟨.bin .neq .no (.loc 1) (.loc 3), none, (some 3), true⟩])
 (.cond (.var 3) ((.seq (.ops [⟨.move (.k (.bool false)), none, (some 2), true⟩])
 (.ret))) (.skip))))
 ((.seq ((.seq (.ops [⟨.move (.k (.int .i64 0)), none, (some 4), true⟩])
 (.block 0 (.loop ((.seq ((.seq (.ops [⟨.move (.var 4), none, none, true⟩, ⟨.move (.var 0), none, none, true⟩, ⟨.len (.loc 1), none, none, true⟩, ⟨.bin .lss .no (.loc 0) (.loc 2), none, (some 5), true⟩])
 (.cond (.var 5) (.skip) (.exit 0))))
 ((.seq (.block 1 ((.seq (.ops [⟨.move (.var 0), none, none, false⟩, ⟨.move (.var 4), none, none, false⟩, ⟨.indexAddr 4 (.loc 0) (.loc 1), none, none, false⟩, ⟨.fieldAddr 0 (.loc 2), none, none, false⟩, ⟨.load none (.loc 3), none, none, false⟩, ⟨.move (.var 1), none, none, false⟩, ⟨.move (.var 4), none, none, false⟩, ⟨.indexAddr 4 (.loc 5) (.loc 6), none, none, false⟩, ⟨.fieldAddr 0 (.loc 7), none, none, false⟩, ⟨.load none (.loc 8), none, none, false⟩, ⟨.callS nFEqualInts [(.loc 4), (.loc 9)], none, none, true⟩, ⟨.un .not (.loc 10), none, none, true⟩, ⟨.move (.loc 11), none, none, true⟩, ⟨.move (.var 0), none, none, false⟩, ⟨.move (.var 4), none, none, false⟩, ⟨.indexAddr 4 (.loc 13) (.loc 14), (some (12, false)), none, false⟩, ⟨.fieldAddr 1 (.loc 15), (some (12, false)), none, false⟩, ⟨.load none (.loc 16), (some (12, false)), none, false⟩, ⟨.move (.var 1), none, none, false⟩, ⟨.move (.var 4), none, none, false⟩, ⟨.indexAddr 4 (.loc 18) (.loc 19), (some (12, false)), none, false⟩, ⟨.fieldAddr 1 (.loc 20), (some (12, false)), none, false⟩, ⟨.load none (.loc 21), (some (12, false)), none, false⟩, ⟨.bin .neq .no (.loc 17) (.loc 22), (some (12, false)), none, true⟩, ⟨.pick (.loc 12) (.k (.bool true)) (.loc 23), none, none, true⟩, ⟨.move (.loc 24), none, none, true⟩, ⟨.move (.var 0), none, none, false⟩, ⟨.move (.var 4), none, none, false⟩, ⟨.indexAddr 4 (.loc 26) (.loc 27), (some (25, false)), none, false⟩, ⟨.fieldAddr 2 (.loc 28), (some (25, false)), none, false⟩, ⟨.load (some 2) (.loc 29), (some (25, false)), none, false⟩, ⟨.move (.var 1), none, none, false⟩, ⟨.move (.var 4), none, none, false⟩, ⟨.indexAddr 4 (.loc 31) (.loc 32), (some (25, false)), none, false⟩, ⟨.fieldAddr 2 (.loc 33), (some (25, false)), none, false⟩, ⟨.load (some 2) (.loc 34), (some (25, false)), none, false⟩, ⟨.bin .neq (.agg [.int, .int]) (.loc 30) (.loc 35), (some (25, false)), none, true⟩, ⟨.pick (.loc 25) (.k (.bool true)) (.loc 36), none, (some 6), true⟩])
 (.cond (.var 6) ((.seq (.ops [⟨.move (.k (.bool false)), none, (some 2), true⟩])
 (.ret))) (.skip)))))
 (.ops [⟨.move (.var 4), none, none, true⟩, ⟨.bin .add .no (.loc 0) (.k (.int .i64 1)), none, none, true⟩, ⟨.move (.loc 1), none, (some 4), true⟩])))))))))
 ((.seq (.ops [⟨.move (.k (.bool true)), none, (some 2), true⟩])
 (.ret)))))))))⟩
theorem v_FEqualRings {F : Nat → Option RFunc} {me nFEqualInts : Nat} (hF : F me = some (rf_FEqualRings nFEqualInts)) {fl : Nat} {H : Heap} {Q : AV → Heap → Prop} (a0 : AV) (b1 : AV)
  (h : ∃ len2 : Nat, lenA a0 = some len2 ∧ ∃ len3 : Nat, lenA b1 = some len3 ∧ (((len2 : Int) ≠ (len3 : Int)) → Q (.bool false) H) ∧ (¬((len2 : Int) ≠ (len3 : Int)) → ∃ (J4 : Nat → Int → Heap → Prop) (k5 : Nat), J4 k5 0 H ∧ (∀ (m6 : Nat) (i8 : Int) (H11 : Heap), J4 m6 i8 H11 → ∃ len12 : Nat, lenA a0 = some len12 ∧ ((i8 < (len12 : Int)) → ∃ (e13 : AV), getA H11 4 none a0 i8 0 = some e13 ∧ ∃ (e15 : AV), getA H11 4 none b1 i8 0 = some e15 ∧ Ret F fl nFEqualInts [e13, e15] H11 (fun v19 H18 => ∃ (r17 : Bool), v19 = (.bool r17) ∧ ((¬(r17 = true)) → Q (.bool false) H18) ∧ (¬(¬(r17 = true)) → ∃ (e20 : Int), getA H18 4 none a0 i8 1 = some (.int .i64 e20) ∧ ∃ (e22 : Int), getA H18 4 none b1 i8 1 = some (.int .i64 e22) ∧ ((e20 ≠ e22) → Q (.bool false) H18) ∧ (¬(e20 ≠ e22) → ∃ (e24 : Int) (e25 : Int), getA H18 4 (some 2) a0 i8 2 = some (.agg [(.int .i64 e24), (.int .i64 e25)]) ∧ ∃ (e27 : Int) (e28 : Int), getA H18 4 (some 2) b1 i8 2 = some (.agg [(.int .i64 e27), (.int .i64 e28)]) ∧ ((¬(((e24 = e27) ∧ (((e25 = e28) ∧ (True)))))) → Q (.bool false) H18) ∧ (¬(¬(((e24 = e27) ∧ (((e25 = e28) ∧ (True)))))) → ∃ m30 : Nat, m30 < m6 ∧ J4 m30 (IntKind.wrap .i64 (i8 + 1)) H18))))) ∧ (¬(i8 < (len12 : Int)) → Q (.bool true) H11)))) : Ret F fl me [a0, b1] H Q := by
  refine ret_intro hF rfl ?_
  refine w_seq ?_
  refine w_run [0] ?_
  refine t_done [a0, b1, (.bool false), .undef, .undef, .undef, .undef] H (by kernel_rfl) ?_
  refine then_norm ?_
  refine w_seq ?_
  refine w_seq ?_
  refine w_run [0, 1, 0, 1, 0] ?_
  obtain ⟨len2, hl, h⟩ := h
  refine t_len true a0 len2 H (by kernel_rfl) hl ?_
  obtain ⟨len3, hl, h⟩ := h
  refine t_len true b1 len3 H (by kernel_rfl) hl ?_
  refine t_done [a0, b1, (.bool false), (.bool (((len2 : Int)) != (len3 : Int))), .undef, .undef, .undef] H (by kernel_rfl) ?_
  refine then_norm ?_
  refine w_cond (t := (((len2 : Int)) != (len3 : Int))) rfl (fun hc => ?_) (fun hc => ?_)
  · replace h := h.1 (is_ne.t hc)
    refine w_seq ?_
    refine w_run [0] ?_
    refine t_done [a0, b1, (.bool false), (.bool (((len2 : Int)) != (len3 : Int))), .undef, .undef, .undef] H (by kernel_rfl) ?_
    refine then_norm ?_
    refine w_ret ?_
    refine then_ret ?_
    exact body_ret (vs := [(.bool false)]) _ (by kernel_rfl) rfl h
  · replace h := h.2 (is_ne.f hc)
    refine w_skip ?_
    refine then_norm ?_
    refine w_seq ?_
    refine w_seq ?_
    refine w_run [0] ?_
    refine t_done [a0, b1, (.bool false), (.bool (((len2 : Int)) != (len3 : Int))), (.int .i64 0), .undef, .undef] H (by kernel_rfl) ?_
    refine then_norm ?_
    refine w_block ?_
    obtain ⟨J4, k5, h0, h⟩ := h
    refine w_loop (I := fun mI EI HI => ∃ (d7 : AV) (i8 : Int) (d9 : AV) (d10 : AV), EI = [a0, b1, d7, (.bool (((len2 : Int)) != (len3 : Int))), (.int .i64 i8), d9, d10] ∧ J4 mI i8 HI) ?_ k5 ⟨_, _, _, _, rfl, h0⟩
    clear h0
    rintro m6 EI H11 ⟨d7, i8, d9, d10, rfl, hJ⟩
    replace h := h m6 i8 H11 hJ
    clear hJ
    refine w_seq ?_
    refine w_seq ?_
    refine w_run [0, 0, 1, 0] ?_
    obtain ⟨len12, hl, h⟩ := h
    refine t_len true a0 len12 H11 (by kernel_rfl) hl ?_
    refine t_done [a0, b1, d7, (.bool (((len2 : Int)) != (len3 : Int))), (.int .i64 i8), (.bool (decide (i8 < (len12 : Int)))), d10] H11 (by kernel_rfl) ?_
    refine then_norm ?_
    refine w_cond (t := (decide (i8 < (len12 : Int)))) rfl (fun hc => ?_) (fun hc => ?_)
    · replace h := h.1 (is_dec.t hc)
      refine w_skip ?_
      refine then_norm ?_
      refine w_seq ?_
      refine w_block ?_
      refine w_seq ?_
      refine w_run [0, 0, 1, 1, 1, 0, 0, 1, 1, 1, 1, 0, 0, 0, 0, 3, 3, 3, 0, 0, 3, 3, 3, 2, 0, 0, 0, 0, 3, 3, 3, 0, 0, 3, 3, 3, 2, 0] ?_
      obtain ⟨e13, hg14, h⟩ := h
      refine t_idxG false 4 a0 .i64 i8 H11 (by kernel_rfl) hg14 ?_
      refine t_fldG false 0 4 a0 i8 0 H11 (by kernel_rfl) hg14 ?_
      refine t_loadG false none 4 a0 i8 0 e13 H11 (by kernel_rfl) hg14 ?_
      obtain ⟨e15, hg16, h⟩ := h
      refine t_idxG false 4 b1 .i64 i8 H11 (by kernel_rfl) hg16 ?_
      refine t_fldG false 0 4 b1 i8 0 H11 (by kernel_rfl) hg16 ?_
      refine t_loadG false none 4 b1 i8 0 e15 H11 (by kernel_rfl) hg16 ?_
      refine t_call true nFEqualInts [e13, e15] H11 (by kernel_rfl) h ?_
      clear h
      rintro _ H18 ⟨r17, rfl, h⟩
      refine t_gd (!r17) false (by kernel_rfl) (fun hc => ?_) (fun hc => ?_)
      · replace h := h.2 ((is_not is_raw).f hc)
        obtain ⟨e20, hg21, h⟩ := h
        refine t_idxG false 4 a0 .i64 i8 H18 (by kernel_rfl) hg21 ?_
        refine t_gd false false (by kernel_rfl) (fun _ => ?_) (fun hn => by cases hn)
        refine t_fldG false 1 4 a0 i8 0 H18 (by kernel_rfl) hg21 ?_
        refine t_gd false false (by kernel_rfl) (fun _ => ?_) (fun hn => by cases hn)
        refine t_loadG false none 4 a0 i8 1 (.int .i64 e20) H18 (by kernel_rfl) hg21 ?_
        refine t_gd false false (by kernel_rfl) (fun _ => ?_) (fun hn => by cases hn)
        obtain ⟨e22, hg23, h⟩ := h
        refine t_idxG false 4 b1 .i64 i8 H18 (by kernel_rfl) hg23 ?_
        refine t_gd false false (by kernel_rfl) (fun _ => ?_) (fun hn => by cases hn)
        refine t_fldG false 1 4 b1 i8 0 H18 (by kernel_rfl) hg23 ?_
        refine t_gd false false (by kernel_rfl) (fun _ => ?_) (fun hn => by cases hn)
        refine t_loadG false none 4 b1 i8 1 (.int .i64 e22) H18 (by kernel_rfl) hg23 ?_
        refine t_gd false false (by kernel_rfl) (fun _ => ?_) (fun hn => by cases hn)
        refine t_gd ((e20) != e22) false (by kernel_rfl) (fun hc => ?_) (fun hc => ?_)
        · replace h := h.2 (is_ne.f hc)
          obtain ⟨e24, e25, hg26, h⟩ := h
          refine t_idxG false 4 a0 .i64 i8 H18 (by kernel_rfl) hg26 ?_
          refine t_gd false false (by kernel_rfl) (fun _ => ?_) (fun hn => by cases hn)
          refine t_fldG false 2 4 a0 i8 0 H18 (by kernel_rfl) hg26 ?_
          refine t_gd false false (by kernel_rfl) (fun _ => ?_) (fun hn => by cases hn)
          refine t_loadG false (some 2) 4 a0 i8 2 (.agg [(.int .i64 e24), (.int .i64 e25)]) H18 (by kernel_rfl) hg26 ?_
          refine t_gd false false (by kernel_rfl) (fun _ => ?_) (fun hn => by cases hn)
          obtain ⟨e27, e28, hg29, h⟩ := h
          refine t_idxG false 4 b1 .i64 i8 H18 (by kernel_rfl) hg29 ?_
          refine t_gd false false (by kernel_rfl) (fun _ => ?_) (fun hn => by cases hn)
          refine t_fldG false 2 4 b1 i8 0 H18 (by kernel_rfl) hg29 ?_
          refine t_gd false false (by kernel_rfl) (fun _ => ?_) (fun hn => by cases hn)
          refine t_loadG false (some 2) 4 b1 i8 2 (.agg [(.int .i64 e27), (.int .i64 e28)]) H18 (by kernel_rfl) hg29 ?_
          refine t_gd false false (by kernel_rfl) (fun _ => ?_) (fun hn => by cases hn)
          refine t_done [a0, b1, d7, (.bool (((len2 : Int)) != (len3 : Int))), (.int .i64 i8), (.bool (decide (i8 < (len12 : Int)))), (.bool (!(((e24) == e27) && (((e25) == e28) && true))))] H18 (by kernel_rfl) ?_
          refine then_norm ?_
          refine w_cond (t := (!(((e24) == e27) && (((e25) == e28) && true)))) rfl (fun hc => ?_) (fun hc => ?_)
          · replace h := h.1 ((is_not (is_and is_eq (is_and is_eq is_true))).t hc)
            refine w_seq ?_
            refine w_run [0] ?_
            refine t_done [a0, b1, (.bool false), (.bool (((len2 : Int)) != (len3 : Int))), (.int .i64 i8), (.bool (decide (i8 < (len12 : Int)))), (.bool (!(((e24) == e27) && (((e25) == e28) && true))))] H18 (by kernel_rfl) ?_
            refine then_norm ?_
            refine w_ret ?_
            refine block_ret ?_
            refine then_ret ?_
            refine loop_ret ?_
            refine block_ret ?_
            refine then_ret ?_
            exact body_ret (vs := [(.bool false)]) _ (by kernel_rfl) rfl h
          · replace h := h.2 ((is_not (is_and is_eq (is_and is_eq is_true))).f hc)
            refine w_skip ?_
            refine block_norm ?_
            refine then_norm ?_
            refine w_run [0, 0, 0] ?_
            refine t_done [a0, b1, d7, (.bool (((len2 : Int)) != (len3 : Int))), (.int .i64 (IntKind.wrap .i64 (i8 + 1))), (.bool (decide (i8 < (len12 : Int)))), (.bool (!(((e24) == e27) && (((e25) == e28) && true))))] H18 (by kernel_rfl) ?_
            obtain ⟨m', hm, h⟩ := h
            refine loop_norm ⟨m', hm, _, _, _, _, rfl, h⟩
        · replace h := h.1 (is_ne.t hc)
          refine t_gd true false (by kernel_rfl) (fun hn => by cases hn) (fun _ => ?_)
          refine t_gd true false (by kernel_rfl) (fun hn => by cases hn) (fun _ => ?_)
          refine t_gd true false (by kernel_rfl) (fun hn => by cases hn) (fun _ => ?_)
          refine t_gd true false (by kernel_rfl) (fun hn => by cases hn) (fun _ => ?_)
          refine t_gd true false (by kernel_rfl) (fun hn => by cases hn) (fun _ => ?_)
          refine t_gd true false (by kernel_rfl) (fun hn => by cases hn) (fun _ => ?_)
          refine t_done [a0, b1, d7, (.bool (((len2 : Int)) != (len3 : Int))), (.int .i64 i8), (.bool (decide (i8 < (len12 : Int)))), (.bool true)] H18 (by kernel_rfl) ?_
          refine then_norm ?_
          refine w_cond (t := true) rfl (fun _ => ?_) (fun hc => by cases hc)
          refine w_seq ?_
          refine w_run [0] ?_
          refine t_done [a0, b1, (.bool false), (.bool (((len2 : Int)) != (len3 : Int))), (.int .i64 i8), (.bool (decide (i8 < (len12 : Int)))), (.bool true)] H18 (by kernel_rfl) ?_
          refine then_norm ?_
          refine w_ret ?_
          refine block_ret ?_
          refine then_ret ?_
          refine loop_ret ?_
          refine block_ret ?_
          refine then_ret ?_
          exact body_ret (vs := [(.bool false)]) _ (by kernel_rfl) rfl h
      · replace h := h.1 ((is_not is_raw).t hc)
        refine t_gd true false (by kernel_rfl) (fun hn => by cases hn) (fun _ => ?_)
        refine t_gd true false (by kernel_rfl) (fun hn => by cases hn) (fun _ => ?_)
        refine t_gd true false (by kernel_rfl) (fun hn => by cases hn) (fun _ => ?_)
        refine t_gd true false (by kernel_rfl) (fun hn => by cases hn) (fun _ => ?_)
        refine t_gd true false (by kernel_rfl) (fun hn => by cases hn) (fun _ => ?_)
        refine t_gd true false (by kernel_rfl) (fun hn => by cases hn) (fun _ => ?_)
        refine t_gd true false (by kernel_rfl) (fun hn => by cases hn) (fun _ => ?_)
        refine t_gd true false (by kernel_rfl) (fun hn => by cases hn) (fun _ => ?_)
        refine t_gd true false (by kernel_rfl) (fun hn => by cases hn) (fun _ => ?_)
        refine t_gd true false (by kernel_rfl) (fun hn => by cases hn) (fun _ => ?_)
        refine t_gd true false (by kernel_rfl) (fun hn => by cases hn) (fun _ => ?_)
        refine t_gd true false (by kernel_rfl) (fun hn => by cases hn) (fun _ => ?_)
        refine t_gd true false (by kernel_rfl) (fun hn => by cases hn) (fun _ => ?_)
        refine t_done [a0, b1, d7, (.bool (((len2 : Int)) != (len3 : Int))), (.int .i64 i8), (.bool (decide (i8 < (len12 : Int)))), (.bool true)] H18 (by kernel_rfl) ?_
        refine then_norm ?_
        refine w_cond (t := true) rfl (fun _ => ?_) (fun hc => by cases hc)
        refine w_seq ?_
        refine w_run [0] ?_
        refine t_done [a0, b1, (.bool false), (.bool (((len2 : Int)) != (len3 : Int))), (.int .i64 i8), (.bool (decide (i8 < (len12 : Int)))), (.bool true)] H18 (by kernel_rfl) ?_
        refine then_norm ?_
        refine w_ret ?_
        refine block_ret ?_
        refine then_ret ?_
        refine loop_ret ?_
        refine block_ret ?_
        refine then_ret ?_
        exact body_ret (vs := [(.bool false)]) _ (by kernel_rfl) rfl h
    · replace h := h.2 (is_dec.f hc)
      refine w_exit ?_
      refine then_exit ?_
      refine loop_exit ?_
      refine block_exit ?_
      refine then_norm ?_
      refine w_seq ?_
      refine w_run [0] ?_
      refine t_done [a0, b1, (.bool true), (.bool (((len2 : Int)) != (len3 : Int))), (.int .i64 i8), (.bool (decide (i8 < (len12 : Int)))), d10] H11 (by kernel_rfl) ?_
      refine then_norm ?_
      refine w_ret ?_
      exact body_ret (vs := [(.bool true)]) _ (by kernel_rfl) rfl h

def rf_FDeployment_Drop : RFunc := ⟨2, 8, [.part 2 (some 8)],
 ((.seq (.ops [⟨.tomb 1 (.var 0), none, (some 3), true⟩, ⟨.tomb 1 (.k (.agg [.int .i64 0, .int .i64 0, .int .i64 0, .int .i64 0, .int .i64 0, .empty, .empty, .empty])), none, (some 2), true⟩])
 ((.seq (.ops [⟨.field 0 none (.var 3), none, none, true⟩, ⟨.field 0 none (.var 3), none, none, true⟩, ⟨.field 0 none (.var 3), none, none, true⟩, ⟨.field 1 (some 2) (.var 3), none, none, true⟩, ⟨.field 0 none (.var 3), none, none, true⟩, ⟨.field 3 none (.var 3), none, none, true⟩, ⟨.field 0 none (.var 3), none, none, true⟩, ⟨.field 4 none (.var 3), none, none, true⟩, ⟨.build [.int .i64 0, .int .i64 0, .int .i64 0, .int .i64 0, .int .i64 0, .empty, .empty, .empty] [(0, 1, (.loc 1)), (1, 2, (.loc 3)), (3, 1, (.loc 5)), (4, 1, (.loc 7))], none, none, true⟩, ⟨.tomb 1 (.k (.agg [.int .i64 0, .int .i64 0, .int .i64 0, .int .i64 0, .int .i64 0, .empty, .empty, .empty])), none, (some 7), true⟩, ⟨.upd 8 0 (.loc 9) (.loc 8), none, (some 7), true⟩])
 ((.seq ((.seq (.ops [⟨.move (.k (.int .i64 0)), none, (some 4), true⟩])
 (.block 0 (.loop ((.seq ((.seq (.ops [⟨.move (.var 4), none, none, true⟩, ⟨.field 0 none (.var 3), none, none, true⟩, ⟨.field 5 none (.var 3), none, none, true⟩, ⟨.len (.loc 2), none, none, true⟩, ⟨.bin .lss .no (.loc 0) (.loc 3), none, (some 5), true⟩])
 (.cond (.var 5) (.skip) (.exit 0))))
 ((.seq (.block 1 ((.seq (.ops [⟨.move (.var 4), none, none, true⟩, ⟨.move (.var 1), none, none, true⟩, ⟨.bin .neq .no (.loc 0) (.loc 1), none, (some 6), true⟩])
 (.cond (.var 6) ((.seq (.ops [⟨.field 0 none (.var 7), none, none, false⟩, ⟨.field 5 none (.var 7), none, none, false⟩, ⟨.field 0 none (.var 3), none, none, false⟩, ⟨.field 5 none (.var 3), none, none, false⟩, ⟨.move (.var 4), none, none, false⟩, ⟨.indexAddr 1 (.loc 3) (.loc 4), none, none, false⟩, ⟨.load none (.loc 5), none, none, false⟩, ⟨.buildSlice 1 [.int .i64 0] [(0, 1, (.loc 6))] 1, none, none, false⟩, ⟨.append 1 8 (.loc 1) (.loc 7), none, none, true⟩, ⟨.field 0 none (.var 7), none, none, true⟩, ⟨.upd 1 5 (.var 7) (.loc 8), none, (some 7), true⟩])
 ((.seq (.ops [⟨.field 0 none (.var 7), none, none, false⟩, ⟨.field 6 none (.var 7), none, none, false⟩, ⟨.field 0 none (.var 3), none, none, false⟩, ⟨.field 6 none (.var 3), none, none, false⟩, ⟨.move (.var 4), none, none, false⟩, ⟨.indexAddr 1 (.loc 3) (.loc 4), none, none, false⟩, ⟨.load none (.loc 5), none, none, false⟩, ⟨.buildSlice 1 [.int .i64 0] [(0, 1, (.loc 6))] 1, none, none, false⟩, ⟨.append 1 8 (.loc 1) (.loc 7), none, none, true⟩, ⟨.field 0 none (.var 7), none, none, true⟩, ⟨.upd 1 6 (.var 7) (.loc 8), none, (some 7), true⟩])
 (.ops [⟨.field 0 none (.var 7), none, none, false⟩, ⟨.field 7 none (.var 7), none, none, false⟩, ⟨.field 0 none (.var 3), none, none, false⟩, ⟨.field 7 none (.var 3), none, none, false⟩, ⟨.move (.var 4), none, none, false⟩, ⟨.indexAddr 2 (.loc 3) (.loc 4), none, none, false⟩, ⟨.load (some 2) (.loc 5), none, none, false⟩, ⟨.buildSlice 2 [.int .i64 0, .int .i64 0] [(0, 2, (.loc 6))] 1, none, none, false⟩, ⟨.append 2 16 (.loc 1) (.loc 7), none, none, true⟩, ⟨.field 0 none (.var 7), none, none, true⟩, ⟨.upd 1 7 (.var 7) (.loc 8), none, (some 7), true⟩]))))) (.skip)))))
 (.ops [⟨.move (.var 4), none, none, true⟩, ⟨.bin .add .no (.loc 0) (.k (.int .i64 1)), none, none, true⟩, ⟨.move (.loc 1), none, (some 4), true⟩])))))))))
 ((.seq (.ops [⟨.field 0 (some 8) (.var 7), none, none, true⟩, ⟨.upd 8 0 (.var 2) (.loc 0), none, (some 2), true⟩])
 (.ret)))))))))⟩
theorem v_FDeployment_Drop {F : Nat → Option RFunc} {me : Nat} (hF : F me = some (rf_FDeployment_Drop )) {fl : Nat} {H : Heap} {Q : AV → Heap → Prop} (d0 : Int) (d1 : Int) (d2 : Int) (d3 : Int) (d4 : Int) (d5 : AV) (d6 : AV) (d7 : AV) (k8 : Int)
  (h : ∀ (H9 : Heap), Dead1 H 1 H9 → ∀ (H10 : Heap), Dead1 H9 1 H10 → ∀ (H11 : Heap), Dead1 H10 1 H11 → ∃ (J12 : Nat → Int → Int → Int → Int → Int → Int → AV → AV → AV → Heap → Prop) (k13 : Nat), J12 k13 0 d0 d1 d2 d3 d4 .empty .empty .empty H11 ∧ (∀ (m14 : Nat) (i15 : Int) (out18 : Int) (out19 : Int) (out20 : Int) (out21 : Int) (out22 : Int) (out23 : AV) (out24 : AV) (out25 : AV) (H26 : Heap), J12 m14 i15 out18 out19 out20 out21 out22 out23 out24 out25 H26 → ∃ len27 : Nat, lenA d5 = some len27 ∧ ((i15 < (len27 : Int)) → ((i15 ≠ k8) → ∃ (e28 : Int), getA H26 1 none d5 i15 0 = some (.int .i64 e28) ∧ ∀ (b30 : Nat) (H31 : Heap), NewB H26 1 [(.int .i64 e28)] b30 H31 → ∃ (a32 : AV) (H33 : Heap), appA fl true 1 8 H31 out23 (.slice b30 0 1 (some 1)) = some (a32, H33) ∧ Scal a32 ∧ ∃ (e35 : Int), getA H33 1 none d6 i15 0 = some (.int .i64 e35) ∧ ∀ (b37 : Nat) (H38 : Heap), NewB H33 1 [(.int .i64 e35)] b37 H38 → ∃ (a39 : AV) (H40 : Heap), appA fl true 1 8 H38 out24 (.slice b37 0 1 (some 1)) = some (a39, H40) ∧ Scal a39 ∧ ∃ (e42 : Int) (e43 : Int), getA H40 2 (some 2) d7 i15 0 = some (.agg [(.int .i64 e42), (.int .i64 e43)]) ∧ ∀ (b45 : Nat) (H46 : Heap), NewB H40 2 [(.int .i64 e42), (.int .i64 e43)] b45 H46 → ∃ (a47 : AV) (H48 : Heap), appA fl true 2 16 H46 out25 (.slice b45 0 1 (some 1)) = some (a47, H48) ∧ Scal a47 ∧ ∃ m50 : Nat, m50 < m14 ∧ J12 m50 (IntKind.wrap .i64 (i15 + 1)) out18 out19 out20 out21 out22 a32 a39 a47 H48) ∧ (¬(i15 ≠ k8) → ∃ m51 : Nat, m51 < m14 ∧ J12 m51 (IntKind.wrap .i64 (i15 + 1)) out18 out19 out20 out21 out22 out23 out24 out25 H26)) ∧ (¬(i15 < (len27 : Int)) → Scal out23 ∧ Scal out24 ∧ Scal out25 ∧ Q (.agg [(.int .i64 out18), (.int .i64 out19), (.int .i64 out20), (.int .i64 out21), (.int .i64 out22), out23, out24, out25]) H26))) : Ret F fl me [(.agg [(.int .i64 d0), (.int .i64 d1), (.int .i64 d2), (.int .i64 d3), (.int .i64 d4), d5, d6, d7]), (.int .i64 k8)] H Q := by
  refine ret_intro hF rfl ?_
  refine w_seq ?_
  refine w_run [1, 1] ?_
  obtain ⟨H9, hb⟩ : ∃ H', Dead1 H 1 H' := ⟨_, ⟨rfl⟩⟩
  replace h := h H9 hb
  refine t_tomb true 1 (.agg [(.int .i64 d0), (.int .i64 d1), (.int .i64 d2), (.int .i64 d3), (.int .i64 d4), d5, d6, d7]) [(.int .i64 d0), (.int .i64 d1), (.int .i64 d2), (.int .i64 d3), (.int .i64 d4), d5, d6, d7] H9 H (by kernel_rfl) rfl hb ?_
  obtain ⟨H10, hb⟩ : ∃ H', Dead1 H9 1 H' := ⟨_, ⟨rfl⟩⟩
  replace h := h H10 hb
  refine t_tomb true 1 (.agg [(.int .i64 0), (.int .i64 0), (.int .i64 0), (.int .i64 0), (.int .i64 0), .empty, .empty, .empty]) [(.int .i64 0), (.int .i64 0), (.int .i64 0), (.int .i64 0), (.int .i64 0), .empty, .empty, .empty] H10 H9 (by kernel_rfl) rfl hb ?_
  refine t_done [(.agg [(.int .i64 d0), (.int .i64 d1), (.int .i64 d2), (.int .i64 d3), (.int .i64 d4), d5, d6, d7]), (.int .i64 k8), (.agg [(.int .i64 0), (.int .i64 0), (.int .i64 0), (.int .i64 0), (.int .i64 0), .empty, .empty, .empty]), (.agg [(.int .i64 d0), (.int .i64 d1), (.int .i64 d2), (.int .i64 d3), (.int .i64 d4), d5, d6, d7]), .undef, .undef, .undef, .undef] H10 (by kernel_rfl) ?_
  refine then_norm ?_
  refine w_seq ?_
  refine w_run [0, 0, 0, 0, 0, 0, 0, 0, 1, 1, 1] ?_
  refine t_build true [(.int .i64 0), (.int .i64 0), (.int .i64 0), (.int .i64 0), (.int .i64 0), .empty, .empty, .empty] [(0, 1, .loc 0), (1, 2, .loc 1), (3, 1, .loc 2), (4, 1, .loc 3)] [(.int .i64 d0), (.agg [(.int .i64 d1), (.int .i64 d2)]), (.int .i64 d3), (.int .i64 d4)] [(.int .i64 d0), (.int .i64 d1), (.int .i64 d2), (.int .i64 d3), (.int .i64 d4), .empty, .empty, .empty] H10 (by kernel_rfl) (fill_c (vs := [(.int .i64 d0)]) (size := 1) rfl (by kernel_rfl) (by kernel_rfl) (fill_c (vs := [(.int .i64 d1), (.int .i64 d2)]) (size := 2) rfl (by kernel_rfl) (by kernel_rfl) (fill_c (vs := [(.int .i64 d3)]) (size := 1) rfl (by kernel_rfl) (by kernel_rfl) (fill_c (vs := [(.int .i64 d4)]) (size := 1) rfl (by kernel_rfl) (by kernel_rfl) (by kernel_rfl))))) ?_
  obtain ⟨H11, hb⟩ : ∃ H', Dead1 H10 1 H' := ⟨_, ⟨rfl⟩⟩
  replace h := h H11 hb
  refine t_tomb true 1 (.agg [(.int .i64 0), (.int .i64 0), (.int .i64 0), (.int .i64 0), (.int .i64 0), .empty, .empty, .empty]) [(.int .i64 0), (.int .i64 0), (.int .i64 0), (.int .i64 0), (.int .i64 0), .empty, .empty, .empty] H11 H10 (by kernel_rfl) rfl hb ?_
  refine t_upd true 8 0 [(.int .i64 0), (.int .i64 0), (.int .i64 0), (.int .i64 0), (.int .i64 0), .empty, .empty, .empty] (.agg [(.int .i64 d0), (.int .i64 d1), (.int .i64 d2), (.int .i64 d3), (.int .i64 d4), .empty, .empty, .empty]) [(.int .i64 d0), (.int .i64 d1), (.int .i64 d2), (.int .i64 d3), (.int .i64 d4), .empty, .empty, .empty] [(.int .i64 d0), (.int .i64 d1), (.int .i64 d2), (.int .i64 d3), (.int .i64 d4), .empty, .empty, .empty] H11 (by kernel_rfl) rfl (all_c rfl (all_c rfl (all_c rfl (all_c rfl (all_c rfl (all_c rfl (all_c rfl (all_c rfl all_n)))))))) ⟨rfl, Nat.le_of_ble_eq_true (by kernel_rfl), rfl⟩ ?_
  refine t_done [(.agg [(.int .i64 d0), (.int .i64 d1), (.int .i64 d2), (.int .i64 d3), (.int .i64 d4), d5, d6, d7]), (.int .i64 k8), (.agg [(.int .i64 0), (.int .i64 0), (.int .i64 0), (.int .i64 0), (.int .i64 0), .empty, .empty, .empty]), (.agg [(.int .i64 d0), (.int .i64 d1), (.int .i64 d2), (.int .i64 d3), (.int .i64 d4), d5, d6, d7]), .undef, .undef, .undef, (.agg [(.int .i64 d0), (.int .i64 d1), (.int .i64 d2), (.int .i64 d3), (.int .i64 d4), .empty, .empty, .empty])] H11 (by kernel_rfl) ?_
  refine then_norm ?_
  refine w_seq ?_
  refine w_seq ?_
  refine w_run [0] ?_
  refine t_done [(.agg [(.int .i64 d0), (.int .i64 d1), (.int .i64 d2), (.int .i64 d3), (.int .i64 d4), d5, d6, d7]), (.int .i64 k8), (.agg [(.int .i64 0), (.int .i64 0), (.int .i64 0), (.int .i64 0), (.int .i64 0), .empty, .empty, .empty]), (.agg [(.int .i64 d0), (.int .i64 d1), (.int .i64 d2), (.int .i64 d3), (.int .i64 d4), d5, d6, d7]), (.int .i64 0), .undef, .undef, (.agg [(.int .i64 d0), (.int .i64 d1), (.int .i64 d2), (.int .i64 d3), (.int .i64 d4), .empty, .empty, .empty])] H11 (by kernel_rfl) ?_
  refine then_norm ?_
  refine w_block ?_
  obtain ⟨J12, k13, h0, h⟩ := h
  refine w_loop (I := fun mI EI HI => ∃ (i15 : Int) (d16 : AV) (d17 : AV) (out18 : Int) (out19 : Int) (out20 : Int) (out21 : Int) (out22 : Int) (out23 : AV) (out24 : AV) (out25 : AV), EI = [(.agg [(.int .i64 d0), (.int .i64 d1), (.int .i64 d2), (.int .i64 d3), (.int .i64 d4), d5, d6, d7]), (.int .i64 k8), (.agg [(.int .i64 0), (.int .i64 0), (.int .i64 0), (.int .i64 0), (.int .i64 0), .empty, .empty, .empty]), (.agg [(.int .i64 d0), (.int .i64 d1), (.int .i64 d2), (.int .i64 d3), (.int .i64 d4), d5, d6, d7]), (.int .i64 i15), d16, d17, (.agg [(.int .i64 out18), (.int .i64 out19), (.int .i64 out20), (.int .i64 out21), (.int .i64 out22), out23, out24, out25])] ∧ J12 mI i15 out18 out19 out20 out21 out22 out23 out24 out25 HI) ?_ k13 ⟨_, _, _, _, _, _, _, _, _, _, _, rfl, h0⟩
  clear h0
  rintro m14 EI H26 ⟨i15, d16, d17, out18, out19, out20, out21, out22, out23, out24, out25, rfl, hJ⟩
  replace h := h m14 i15 out18 out19 out20 out21 out22 out23 out24 out25 H26 hJ
  clear hJ
  refine w_seq ?_
  refine w_seq ?_
  refine w_run [0, 0, 0, 1, 0] ?_
  obtain ⟨len27, hl, h⟩ := h
  refine t_len true d5 len27 H26 (by kernel_rfl) hl ?_
  refine t_done [(.agg [(.int .i64 d0), (.int .i64 d1), (.int .i64 d2), (.int .i64 d3), (.int .i64 d4), d5, d6, d7]), (.int .i64 k8), (.agg [(.int .i64 0), (.int .i64 0), (.int .i64 0), (.int .i64 0), (.int .i64 0), .empty, .empty, .empty]), (.agg [(.int .i64 d0), (.int .i64 d1), (.int .i64 d2), (.int .i64 d3), (.int .i64 d4), d5, d6, d7]), (.int .i64 i15), (.bool (decide (i15 < (len27 : Int)))), d17, (.agg [(.int .i64 out18), (.int .i64 out19), (.int .i64 out20), (.int .i64 out21), (.int .i64 out22), out23, out24, out25])] H26 (by kernel_rfl) ?_
  refine then_norm ?_
  refine w_cond (t := (decide (i15 < (len27 : Int)))) rfl (fun hc => ?_) (fun hc => ?_)
  · replace h := h.1 (is_dec.t hc)
    refine w_skip ?_
    refine then_norm ?_
    refine w_seq ?_
    refine w_block ?_
    refine w_seq ?_
    refine w_run [0, 0, 0] ?_
    refine t_done [(.agg [(.int .i64 d0), (.int .i64 d1), (.int .i64 d2), (.int .i64 d3), (.int .i64 d4), d5, d6, d7]), (.int .i64 k8), (.agg [(.int .i64 0), (.int .i64 0), (.int .i64 0), (.int .i64 0), (.int .i64 0), .empty, .empty, .empty]), (.agg [(.int .i64 d0), (.int .i64 d1), (.int .i64 d2), (.int .i64 d3), (.int .i64 d4), d5, d6, d7]), (.int .i64 i15), (.bool (decide (i15 < (len27 : Int)))), (.bool ((i15) != k8)), (.agg [(.int .i64 out18), (.int .i64 out19), (.int .i64 out20), (.int .i64 out21), (.int .i64 out22), out23, out24, out25])] H26 (by kernel_rfl) ?_
    refine then_norm ?_
    refine w_cond (t := ((i15) != k8)) rfl (fun hc => ?_) (fun hc => ?_)
    · replace h := h.1 (is_ne.t hc)
      refine w_seq ?_
      refine w_run [0, 0, 0, 0, 0, 1, 1, 1, 1, 0, 1] ?_
      obtain ⟨e28, hg29, h⟩ := h
      refine t_idxG false 1 d5 .i64 i15 H26 (by kernel_rfl) hg29 ?_
      refine t_loadG false none 1 d5 i15 0 (.int .i64 e28) H26 (by kernel_rfl) hg29 ?_
      obtain ⟨b30, H31, hb⟩ : ∃ b H', NewB H26 1 [(.int .i64 e28)] b H' := ⟨_, _, rfl, rfl⟩
      replace h := h b30 H31 hb
      refine t_bs false 1 [(.int .i64 0)] [(0, 1, .loc 0)] 1 [(.int .i64 e28)] [(.int .i64 e28)] b30 H31 H26 (by kernel_rfl) (fill_c (vs := [(.int .i64 e28)]) (size := 1) rfl (by kernel_rfl) (by kernel_rfl) (by kernel_rfl)) hb ?_
      obtain ⟨a32, H33, ha, h⟩ := h
      refine t_app true 1 8 out23 (.slice b30 0 1 (some 1)) a32 H33 H31 (by kernel_rfl) ha ?_
      obtain ⟨hs34, h⟩ := h
      refine t_upd true 1 5 [(.int .i64 out18), (.int .i64 out19), (.int .i64 out20), (.int .i64 out21), (.int .i64 out22), out23, out24, out25] a32 [a32] [(.int .i64 out18), (.int .i64 out19), (.int .i64 out20), (.int .i64 out21), (.int .i64 out22), a32, out24, out25] H33 (by kernel_rfl) hs34.1 (all_c hs34.2 all_n) ⟨rfl, Nat.le_of_ble_eq_true (by kernel_rfl), rfl⟩ ?_
      refine t_done [(.agg [(.int .i64 d0), (.int .i64 d1), (.int .i64 d2), (.int .i64 d3), (.int .i64 d4), d5, d6, d7]), (.int .i64 k8), (.agg [(.int .i64 0), (.int .i64 0), (.int .i64 0), (.int .i64 0), (.int .i64 0), .empty, .empty, .empty]), (.agg [(.int .i64 d0), (.int .i64 d1), (.int .i64 d2), (.int .i64 d3), (.int .i64 d4), d5, d6, d7]), (.int .i64 i15), (.bool (decide (i15 < (len27 : Int)))), (.bool ((i15) != k8)), (.agg [(.int .i64 out18), (.int .i64 out19), (.int .i64 out20), (.int .i64 out21), (.int .i64 out22), a32, out24, out25])] H33 (by kernel_rfl) ?_
      refine then_norm ?_
      refine w_seq ?_
      refine w_run [0, 0, 0, 0, 0, 1, 1, 1, 1, 0, 1] ?_
      obtain ⟨e35, hg36, h⟩ := h
      refine t_idxG false 1 d6 .i64 i15 H33 (by kernel_rfl) hg36 ?_
      refine t_loadG false none 1 d6 i15 0 (.int .i64 e35) H33 (by kernel_rfl) hg36 ?_
      obtain ⟨b37, H38, hb⟩ : ∃ b H', NewB H33 1 [(.int .i64 e35)] b H' := ⟨_, _, rfl, rfl⟩
      replace h := h b37 H38 hb
      refine t_bs false 1 [(.int .i64 0)] [(0, 1, .loc 0)] 1 [(.int .i64 e35)] [(.int .i64 e35)] b37 H38 H33 (by kernel_rfl) (fill_c (vs := [(.int .i64 e35)]) (size := 1) rfl (by kernel_rfl) (by kernel_rfl) (by kernel_rfl)) hb ?_
      obtain ⟨a39, H40, ha, h⟩ := h
      refine t_app true 1 8 out24 (.slice b37 0 1 (some 1)) a39 H40 H38 (by kernel_rfl) ha ?_
      obtain ⟨hs41, h⟩ := h
      refine t_upd true 1 6 [(.int .i64 out18), (.int .i64 out19), (.int .i64 out20), (.int .i64 out21), (.int .i64 out22), a32, out24, out25] a39 [a39] [(.int .i64 out18), (.int .i64 out19), (.int .i64 out20), (.int .i64 out21), (.int .i64 out22), a32, a39, out25] H40 (by kernel_rfl) hs41.1 (all_c hs41.2 all_n) ⟨rfl, Nat.le_of_ble_eq_true (by kernel_rfl), rfl⟩ ?_
      refine t_done [(.agg [(.int .i64 d0), (.int .i64 d1), (.int .i64 d2), (.int .i64 d3), (.int .i64 d4), d5, d6, d7]), (.int .i64 k8), (.agg [(.int .i64 0), (.int .i64 0), (.int .i64 0), (.int .i64 0), (.int .i64 0), .empty, .empty, .empty]), (.agg [(.int .i64 d0), (.int .i64 d1), (.int .i64 d2), (.int .i64 d3), (.int .i64 d4), d5, d6, d7]), (.int .i64 i15), (.bool (decide (i15 < (len27 : Int)))), (.bool ((i15) != k8)), (.agg [(.int .i64 out18), (.int .i64 out19), (.int .i64 out20), (.int .i64 out21), (.int .i64 out22), a32, a39, out25])] H40 (by kernel_rfl) ?_
      refine then_norm ?_
      refine w_run [0, 0, 0, 0, 0, 1, 1, 1, 1, 0, 1] ?_
      obtain ⟨e42, e43, hg44, h⟩ := h
      refine t_idxG false 2 d7 .i64 i15 H40 (by kernel_rfl) hg44 ?_
      refine t_loadG false (some 2) 2 d7 i15 0 (.agg [(.int .i64 e42), (.int .i64 e43)]) H40 (by kernel_rfl) hg44 ?_
      obtain ⟨b45, H46, hb⟩ : ∃ b H', NewB H40 2 [(.int .i64 e42), (.int .i64 e43)] b H' := ⟨_, _, rfl, rfl⟩
      replace h := h b45 H46 hb
      refine t_bs false 2 [(.int .i64 0), (.int .i64 0)] [(0, 2, .loc 0)] 1 [(.agg [(.int .i64 e42), (.int .i64 e43)])] [(.int .i64 e42), (.int .i64 e43)] b45 H46 H40 (by kernel_rfl) (fill_c (vs := [(.int .i64 e42), (.int .i64 e43)]) (size := 2) rfl (by kernel_rfl) (by kernel_rfl) (by kernel_rfl)) hb ?_
      obtain ⟨a47, H48, ha, h⟩ := h
      refine t_app true 2 16 out25 (.slice b45 0 1 (some 1)) a47 H48 H46 (by kernel_rfl) ha ?_
      obtain ⟨hs49, h⟩ := h
      refine t_upd true 1 7 [(.int .i64 out18), (.int .i64 out19), (.int .i64 out20), (.int .i64 out21), (.int .i64 out22), a32, a39, out25] a47 [a47] [(.int .i64 out18), (.int .i64 out19), (.int .i64 out20), (.int .i64 out21), (.int .i64 out22), a32, a39, a47] H48 (by kernel_rfl) hs49.1 (all_c hs49.2 all_n) ⟨rfl, Nat.le_of_ble_eq_true (by kernel_rfl), rfl⟩ ?_
      refine t_done [(.agg [(.int .i64 d0), (.int .i64 d1), (.int .i64 d2), (.int .i64 d3), (.int .i64 d4), d5, d6, d7]), (.int .i64 k8), (.agg [(.int .i64 0), (.int .i64 0), (.int .i64 0), (.int .i64 0), (.int .i64 0), .empty, .empty, .empty]), (.agg [(.int .i64 d0), (.int .i64 d1), (.int .i64 d2), (.int .i64 d3), (.int .i64 d4), d5, d6, d7]), (.int .i64 i15), (.bool (decide (i15 < (len27 : Int)))), (.bool ((i15) != k8)), (.agg [(.int .i64 out18), (.int .i64 out19), (.int .i64 out20), (.int .i64 out21), (.int .i64 out22), a32, a39, a47])] H48 (by kernel_rfl) ?_
      refine block_norm ?_
      refine then_norm ?_
      refine w_run [0, 0, 0] ?_
      refine t_done [(.agg [(.int .i64 d0), (.int .i64 d1), (.int .i64 d2), (.int .i64 d3), (.int .i64 d4), d5, d6, d7]), (.int .i64 k8), (.agg [(.int .i64 0), (.int .i64 0), (.int .i64 0), (.int .i64 0), (.int .i64 0), .empty, .empty, .empty]), (.agg [(.int .i64 d0), (.int .i64 d1), (.int .i64 d2), (.int .i64 d3), (.int .i64 d4), d5, d6, d7]), (.int .i64 (IntKind.wrap .i64 (i15 + 1))), (.bool (decide (i15 < (len27 : Int)))), (.bool ((i15) != k8)), (.agg [(.int .i64 out18), (.int .i64 out19), (.int .i64 out20), (.int .i64 out21), (.int .i64 out22), a32, a39, a47])] H48 (by kernel_rfl) ?_
      obtain ⟨m', hm, h⟩ := h
      refine loop_norm ⟨m', hm, _, _, _, _, _, _, _, _, _, _, _, rfl, h⟩
    · replace h := h.2 (is_ne.f hc)
      refine w_skip ?_
      refine block_norm ?_
      refine then_norm ?_
      refine w_run [0, 0, 0] ?_
      refine t_done [(.agg [(.int .i64 d0), (.int .i64 d1), (.int .i64 d2), (.int .i64 d3), (.int .i64 d4), d5, d6, d7]), (.int .i64 k8), (.agg [(.int .i64 0), (.int .i64 0), (.int .i64 0), (.int .i64 0), (.int .i64 0), .empty, .empty, .empty]), (.agg [(.int .i64 d0), (.int .i64 d1), (.int .i64 d2), (.int .i64 d3), (.int .i64 d4), d5, d6, d7]), (.int .i64 (IntKind.wrap .i64 (i15 + 1))), (.bool (decide (i15 < (len27 : Int)))), (.bool ((i15) != k8)), (.agg [(.int .i64 out18), (.int .i64 out19), (.int .i64 out20), (.int .i64 out21), (.int .i64 out22), out23, out24, out25])] H26 (by kernel_rfl) ?_
      obtain ⟨m', hm, h⟩ := h
      refine loop_norm ⟨m', hm, _, _, _, _, _, _, _, _, _, _, _, rfl, h⟩
  · replace h := h.2 (is_dec.f hc)
    refine w_exit ?_
    refine then_exit ?_
    refine loop_exit ?_
    refine block_exit ?_
    refine then_norm ?_
    refine w_seq ?_
    refine w_run [0, 1] ?_
    obtain ⟨hs52, h⟩ := h
    obtain ⟨hs53, h⟩ := h
    obtain ⟨hs54, h⟩ := h
    refine t_upd true 8 0 [(.int .i64 0), (.int .i64 0), (.int .i64 0), (.int .i64 0), (.int .i64 0), .empty, .empty, .empty] (.agg [(.int .i64 out18), (.int .i64 out19), (.int .i64 out20), (.int .i64 out21), (.int .i64 out22), out23, out24, out25]) [(.int .i64 out18), (.int .i64 out19), (.int .i64 out20), (.int .i64 out21), (.int .i64 out22), out23, out24, out25] [(.int .i64 out18), (.int .i64 out19), (.int .i64 out20), (.int .i64 out21), (.int .i64 out22), out23, out24, out25] H26 (by kernel_rfl) rfl (all_c rfl (all_c rfl (all_c rfl (all_c rfl (all_c rfl (all_c hs52.2 (all_c hs53.2 (all_c hs54.2 all_n)))))))) ⟨rfl, Nat.le_of_ble_eq_true (by kernel_rfl), rfl⟩ ?_
    refine t_done [(.agg [(.int .i64 d0), (.int .i64 d1), (.int .i64 d2), (.int .i64 d3), (.int .i64 d4), d5, d6, d7]), (.int .i64 k8), (.agg [(.int .i64 out18), (.int .i64 out19), (.int .i64 out20), (.int .i64 out21), (.int .i64 out22), out23, out24, out25]), (.agg [(.int .i64 d0), (.int .i64 d1), (.int .i64 d2), (.int .i64 d3), (.int .i64 d4), d5, d6, d7]), (.int .i64 i15), (.bool (decide (i15 < (len27 : Int)))), d17, (.agg [(.int .i64 out18), (.int .i64 out19), (.int .i64 out20), (.int .i64 out21), (.int .i64 out22), out23, out24, out25])] H26 (by kernel_rfl) ?_
    refine then_norm ?_
    refine w_ret ?_
    exact body_ret (vs := [(.agg [(.int .i64 out18), (.int .i64 out19), (.int .i64 out20), (.int .i64 out21), (.int .i64 out22), out23, out24, out25])]) _ (by kernel_rfl) rfl h

def rf_FDeployment_Active : RFunc := ⟨2, 7, [.var 2],
 ((.seq (.ops [⟨.tomb 1 (.var 0), none, (some 4), true⟩, ⟨.move (.k (.int .i64 0)), none, (some 2), true⟩])
 ((.seq ((.seq (.ops [⟨.move (.k (.int .i64 0)), none, (some 3), true⟩])
 (.block 0 (.loop ((.seq ((.seq (.ops [⟨.move (.var 3), none, none, true⟩, ⟨.field 0 none (.var 4), none, none, true⟩, ⟨.field 5 none (.var 4), none, none, true⟩, ⟨.len (.loc 2), none, none, true⟩, ⟨.bin .lss .no (.loc 0) (.loc 3), none, (some 5), true⟩])
 (.cond (.var 5) (.skip) (.exit 0))))
 ((.seq (.block 1 ((.seq (.ops [⟨.field 0 none (.var 4), none, none, true⟩, ⟨.field 6 none (.var 4), none, none, true⟩, ⟨.move (.var 3), none, none, true⟩, ⟨.indexAddr 1 (.loc 1) (.loc 2), none, none, true⟩, ⟨.load none (.loc 3), none, none, true⟩, ⟨.move (.var 1), none, none, true⟩, ⟨.bin .eql .no (.loc 4) (.loc 5), none, (some 6), true⟩])
 (.cond (.var 6) ((.seq (.ops [⟨.move (.var 3), none, none, true⟩, ⟨.move (.loc 0), none, (some 2), true⟩])
 (.ret))) (.skip)))))
 (.ops [⟨.move (.var 3), none, none, true⟩, ⟨.bin .add .no (.loc 0) (.k (.int .i64 1)), none, none, true⟩, ⟨.move (.loc 1), none, (some 3), true⟩])))))))))
 ((.seq (.ops [⟨.move (.k (.int .i64 (-1))), none, (some 2), true⟩])
 (.ret)))))))⟩
theorem v_FDeployment_Active {F : Nat → Option RFunc} {me : Nat} (hF : F me = some (rf_FDeployment_Active )) {fl : Nat} {H : Heap} {Q : AV → Heap → Prop} (d0 : Int) (d1 : Int) (d2 : Int) (d3 : Int) (d4 : Int) (d5 : AV) (d6 : AV) (d7 : AV) (ring8 : Int)
  (h : ∀ (H9 : Heap), Dead1 H 1 H9 → ∃ (J10 : Nat → Int → Prop) (k11 : Nat), J10 k11 0 ∧ (∀ (m12 : Nat) (i14 : Int), J10 m12 i14 → ∃ len17 : Nat, lenA d5 = some len17 ∧ ((i14 < (len17 : Int)) → ∃ (e18 : Int), getA H9 1 none d6 i14 0 = some (.int .i64 e18) ∧ ((e18 = ring8) → Q (.int .i64 i14) H9) ∧ (¬(e18 = ring8) → ∃ m20 : Nat, m20 < m12 ∧ J10 m20 (IntKind.wrap .i64 (i14 + 1)))) ∧ (¬(i14 < (len17 : Int)) → Q (.int .i64 (-1)) H9))) : Ret F fl me [(.agg [(.int .i64 d0), (.int .i64 d1), (.int .i64 d2), (.int .i64 d3), (.int .i64 d4), d5, d6, d7]), (.int .i64 ring8)] H Q := by
  refine ret_intro hF rfl ?_
  refine w_seq ?_
  refine w_run [1, 0] ?_
  obtain ⟨H9, hb⟩ : ∃ H', Dead1 H 1 H' := ⟨_, ⟨rfl⟩⟩
  replace h := h H9 hb
  refine t_tomb true 1 (.agg [(.int .i64 d0), (.int .i64 d1), (.int .i64 d2), (.int .i64 d3), (.int .i64 d4), d5, d6, d7]) [(.int .i64 d0), (.int .i64 d1), (.int .i64 d2), (.int .i64 d3), (.int .i64 d4), d5, d6, d7] H9 H (by kernel_rfl) rfl hb ?_
  refine t_done [(.agg [(.int .i64 d0), (.int .i64 d1), (.int .i64 d2), (.int .i64 d3), (.int .i64 d4), d5, d6, d7]), (.int .i64 ring8), (.int .i64 0), .undef, (.agg [(.int .i64 d0), (.int .i64 d1), (.int .i64 d2), (.int .i64 d3), (.int .i64 d4), d5, d6, d7]), .undef, .undef] H9 (by kernel_rfl) ?_
  refine then_norm ?_
  refine w_seq ?_
  refine w_seq ?_
  refine w_run [0] ?_
  refine t_done [(.agg [(.int .i64 d0), (.int .i64 d1), (.int .i64 d2), (.int .i64 d3), (.int .i64 d4), d5, d6, d7]), (.int .i64 ring8), (.int .i64 0), (.int .i64 0), (.agg [(.int .i64 d0), (.int .i64 d1), (.int .i64 d2), (.int .i64 d3), (.int .i64 d4), d5, d6, d7]), .undef, .undef] H9 (by kernel_rfl) ?_
  refine then_norm ?_
  refine w_block ?_
  obtain ⟨J10, k11, h0, h⟩ := h
  refine w_loop (I := fun mI EI HI => ∃ (d13 : AV) (i14 : Int) (d15 : AV) (d16 : AV), EI = [(.agg [(.int .i64 d0), (.int .i64 d1), (.int .i64 d2), (.int .i64 d3), (.int .i64 d4), d5, d6, d7]), (.int .i64 ring8), d13, (.int .i64 i14), (.agg [(.int .i64 d0), (.int .i64 d1), (.int .i64 d2), (.int .i64 d3), (.int .i64 d4), d5, d6, d7]), d15, d16] ∧ H9 = HI ∧ J10 mI i14) ?_ k11 ⟨_, _, _, _, rfl, rfl, h0⟩
  clear h0
  rintro m12 EI HI ⟨d13, i14, d15, d16, rfl, rfl, hJ⟩
  replace h := h m12 i14  hJ
  clear hJ
  refine w_seq ?_
  refine w_seq ?_
  refine w_run [0, 0, 0, 1, 0] ?_
  obtain ⟨len17, hl, h⟩ := h
  refine t_len true d5 len17 H9 (by kernel_rfl) hl ?_
  refine t_done [(.agg [(.int .i64 d0), (.int .i64 d1), (.int .i64 d2), (.int .i64 d3), (.int .i64 d4), d5, d6, d7]), (.int .i64 ring8), d13, (.int .i64 i14), (.agg [(.int .i64 d0), (.int .i64 d1), (.int .i64 d2), (.int .i64 d3), (.int .i64 d4), d5, d6, d7]), (.bool (decide (i14 < (len17 : Int)))), d16] H9 (by kernel_rfl) ?_
  refine then_norm ?_
  refine w_cond (t := (decide (i14 < (len17 : Int)))) rfl (fun hc => ?_) (fun hc => ?_)
  · replace h := h.1 (is_dec.t hc)
    refine w_skip ?_
    refine then_norm ?_
    refine w_seq ?_
    refine w_block ?_
    refine w_seq ?_
    refine w_run [0, 0, 0, 1, 1, 0, 0] ?_
    obtain ⟨e18, hg19, h⟩ := h
    refine t_idxG true 1 d6 .i64 i14 H9 (by kernel_rfl) hg19 ?_
    refine t_loadG true none 1 d6 i14 0 (.int .i64 e18) H9 (by kernel_rfl) hg19 ?_
    refine t_done [(.agg [(.int .i64 d0), (.int .i64 d1), (.int .i64 d2), (.int .i64 d3), (.int .i64 d4), d5, d6, d7]), (.int .i64 ring8), d13, (.int .i64 i14), (.agg [(.int .i64 d0), (.int .i64 d1), (.int .i64 d2), (.int .i64 d3), (.int .i64 d4), d5, d6, d7]), (.bool (decide (i14 < (len17 : Int)))), (.bool ((e18) == ring8))] H9 (by kernel_rfl) ?_
    refine then_norm ?_
    refine w_cond (t := ((e18) == ring8)) rfl (fun hc => ?_) (fun hc => ?_)
    · replace h := h.1 (is_eq.t hc)
      refine w_seq ?_
      refine w_run [0, 0] ?_
      refine t_done [(.agg [(.int .i64 d0), (.int .i64 d1), (.int .i64 d2), (.int .i64 d3), (.int .i64 d4), d5, d6, d7]), (.int .i64 ring8), (.int .i64 i14), (.int .i64 i14), (.agg [(.int .i64 d0), (.int .i64 d1), (.int .i64 d2), (.int .i64 d3), (.int .i64 d4), d5, d6, d7]), (.bool (decide (i14 < (len17 : Int)))), (.bool ((e18) == ring8))] H9 (by kernel_rfl) ?_
      refine then_norm ?_
      refine w_ret ?_
      refine block_ret ?_
      refine then_ret ?_
      refine loop_ret ?_
      refine block_ret ?_
      refine then_ret ?_
      exact body_ret (vs := [(.int .i64 i14)]) _ (by kernel_rfl) rfl h
    · replace h := h.2 (is_eq.f hc)
      refine w_skip ?_
      refine block_norm ?_
      refine then_norm ?_
      refine w_run [0, 0, 0] ?_
      refine t_done [(.agg [(.int .i64 d0), (.int .i64 d1), (.int .i64 d2), (.int .i64 d3), (.int .i64 d4), d5, d6, d7]), (.int .i64 ring8), d13, (.int .i64 (IntKind.wrap .i64 (i14 + 1))), (.agg [(.int .i64 d0), (.int .i64 d1), (.int .i64 d2), (.int .i64 d3), (.int .i64 d4), d5, d6, d7]), (.bool (decide (i14 < (len17 : Int)))), (.bool ((e18) == ring8))] H9 (by kernel_rfl) ?_
      obtain ⟨m', hm, h⟩ := h
      refine loop_norm ⟨m', hm, _, _, _, _, rfl, rfl, h⟩
  · replace h := h.2 (is_dec.f hc)
    refine w_exit ?_
    refine then_exit ?_
    refine loop_exit ?_
    refine block_exit ?_
    refine then_norm ?_
    refine w_seq ?_
    refine w_run [0] ?_
    refine t_done [(.agg [(.int .i64 d0), (.int .i64 d1), (.int .i64 d2), (.int .i64 d3), (.int .i64 d4), d5, d6, d7]), (.int .i64 ring8), (.int .i64 (-1)), (.int .i64 i14), (.agg [(.int .i64 d0), (.int .i64 d1), (.int .i64 d2), (.int .i64 d3), (.int .i64 d4), d5, d6, d7]), (.bool (decide (i14 < (len17 : Int)))), d16] H9 (by kernel_rfl) ?_
    refine then_norm ?_
    refine w_ret ?_
    exact body_ret (vs := [(.int .i64 (-1))]) _ (by kernel_rfl) rfl h

def rf_LrolloutExample (nrollout_Run nrollout_Versions nFEqualRings nFEqualInts : Nat) : RFunc := ⟨0, 6, [.var 0],
 ((.seq (.ops [⟨.move (.k (.bool false)), none, (some 0), true⟩])
 ((.seq (.ops [⟨.build [.int .i64 0, .int .i64 0, .int .i64 0, .int .i64 0, .int .i64 0] [(0, 1, (.k (.int .i64 1))), (1, 1, (.k (.int .i64 7)))], none, none, true⟩, ⟨.build [.int .i64 0, .int .i64 0, .int .i64 0, .int .i64 0, .int .i64 0] [(0, 1, (.k (.int .i64 3)))], none, none, true⟩, ⟨.buildSlice 5 [.int .i64 0, .int .i64 0, .int .i64 0, .int .i64 0, .int .i64 0] [(0, 5, (.loc 0)), (5, 5, (.loc 1))] 2, none, none, true⟩, ⟨.move (.loc 2), none, (some 1), true⟩])
 ((.seq (.ops [⟨.build [.int .i64 0, .int .i64 0] [], none, none, true⟩, ⟨.move (.var 1), none, none, true⟩, ⟨.callS nrollout_Run [(.k (.int .i64 2)), (.loc 0), (.k (.int .i64 0)), (.k (.int .i64 50)), (.loc 1)], none, none, true⟩, ⟨.move (.loc 2), none, none, true⟩, ⟨.extract (.loc 3) 0, none, none, true⟩, ⟨.extract (.loc 3) 1, none, none, true⟩, ⟨.tomb 1 (.k (.agg [.int .i64 0, .int .i64 0])), none, (some 2), true⟩, ⟨.move (.loc 4), none, (some 4), true⟩, ⟨.upd 2 0 (.loc 6) (.loc 5), none, (some 2), true⟩])
 ((.seq (.ops [⟨.build [.int .i64 0, .int .i64 0] [], none, none, true⟩, ⟨.move (.var 1), none, none, true⟩, ⟨.callS nrollout_Versions [(.k (.int .i64 2)), (.loc 0), (.k (.int .i64 0)), (.k (.int .i64 50)), (.loc 1)], none, none, true⟩, ⟨.move (.loc 2), none, none, true⟩, ⟨.extract (.loc 3) 0, none, none, true⟩, ⟨.extract (.loc 3) 1, none, none, true⟩, ⟨.tomb 1 (.k (.agg [.int .i64 0, .int .i64 0])), none, (some 3), true⟩, ⟨.move (.loc 4), none, (some 5), true⟩, ⟨.upd 2 0 (.loc 6) (.loc 5), none, (some 3), true⟩])
 ((.seq (.ops [⟨.field 0 none (.var 2), none, none, true⟩, ⟨.field 0 none (.var 2), none, none, true⟩, ⟨.bin .eql .no (.loc 1) (.k (.int .i64 0)), none, none, true⟩, ⟨.move (.loc 2), none, none, true⟩, ⟨.field 0 none (.var 3), none, none, true⟩, ⟨.field 0 none (.var 3), none, none, true⟩, ⟨.bin .eql .no (.loc 5) (.k (.int .i64 0)), none, none, true⟩, ⟨.pick (.loc 3) (.loc 6) (.k (.bool false)), none, none, true⟩, ⟨.move (.loc 7), none, none, true⟩, ⟨.move (.var 4), none, none, true⟩, ⟨.buildSlice 1 [.int .i64 0] [(0, 1, (.k (.int .i64 7)))] 1, (some (8, true)), none, true⟩, ⟨.build [.empty, .int .i64 0, .int .i64 0, .int .i64 0] [(0, 1, (.loc 10))], (some (8, true)), none, true⟩, ⟨.build [.empty, .int .i64 0, .int .i64 0, .int .i64 0] [(1, 1, (.k (.int .i64 7)))], none, none, true⟩, ⟨.buildSlice 4 [.empty, .int .i64 0, .int .i64 0, .int .i64 0] [(0, 4, (.loc 11)), (4, 4, (.loc 12))] 2, (some (8, true)), none, true⟩, ⟨.callS nFEqualRings [(.loc 9), (.loc 13)], (some (8, true)), none, true⟩, ⟨.pick (.loc 8) (.loc 14) (.k (.bool false)), none, none, true⟩, ⟨.move (.loc 15), none, none, true⟩, ⟨.move (.var 5), none, none, true⟩, ⟨.buildSlice 1 [.int .i64 0] [(0, 1, (.k (.int .i64 7))), (1, 1, (.k (.int .i64 7)))] 2, (some (16, true)), none, true⟩, ⟨.callS nFEqualInts [(.loc 17), (.loc 18)], (some (16, true)), none, true⟩, ⟨.pick (.loc 16) (.loc 19) (.k (.bool false)), none, none, true⟩, ⟨.move (.loc 20), none, (some 0), true⟩])
 (.ret)))))))))))⟩
theorem v_LrolloutExample {F : Nat → Option RFunc} {me nrollout_Run nrollout_Versions nFEqualRings nFEqualInts : Nat} (hF : F me = some (rf_LrolloutExample nrollout_Run nrollout_Versions nFEqualRings nFEqualInts)) {fl : Nat} {H : Heap} {Q : AV → Heap → Prop} 
  (h : ∀ (b0 : Nat) (H1 : Heap), NewB H 5 [(.int .i64 1), (.int .i64 7), (.int .i64 0), (.int .i64 0), (.int .i64 0), (.int .i64 3), (.int .i64 0), (.int .i64 0), (.int .i64 0), (.int .i64 0)] b0 H1 → Ret F fl nrollout_Run [(.int .i64 2), (.agg [(.int .i64 0), (.int .i64 0)]), (.int .i64 0), (.int .i64 50), (.slice b0 0 2 (some 2))] H1 (fun v6 H5 => ∃ (r2 : AV) (r3 : Int) (r4 : Int), v6 = (.tuple [r2, (.agg [(.int .i64 r3), (.int .i64 r4)])]) ∧ ∀ (H7 : Heap), Dead1 H5 1 H7 → Ret F fl nrollout_Versions [(.int .i64 2), (.agg [(.int .i64 0), (.int .i64 0)]), (.int .i64 0), (.int .i64 50), (.slice b0 0 2 (some 2))] H7 (fun v12 H11 => ∃ (r8 : AV) (r9 : Int) (r10 : Int), v12 = (.tuple [r8, (.agg [(.int .i64 r9), (.int .i64 r10)])]) ∧ ∀ (H13 : Heap), Dead1 H11 1 H13 → ((((r3 = 0) ∧ (r9 = 0))) → ∀ (b14 : Nat) (H15 : Heap), NewB H13 1 [(.int .i64 7)] b14 H15 → ∀ (b16 : Nat) (H17 : Heap), NewB H15 4 [(.slice b14 0 1 (some 1)), (.int .i64 0), (.int .i64 0), (.int .i64 0), .empty, (.int .i64 7), (.int .i64 0), (.int .i64 0)] b16 H17 → Ret F fl nFEqualRings [r2, (.slice b16 0 2 (some 2))] H17 (fun v20 H19 => ∃ (r18 : Bool), v20 = (.bool r18) ∧ ((r18 = true) → ∀ (b21 : Nat) (H22 : Heap), NewB H19 1 [(.int .i64 7), (.int .i64 7)] b21 H22 → Ret F fl nFEqualInts [r8, (.slice b21 0 2 (some 2))] H22 (fun v25 H24 => ∃ (r23 : Bool), v25 = (.bool r23) ∧ Q (.bool r23) H24)) ∧ (¬(r18 = true) → Q (.bool false) H19))) ∧ (¬(((r3 = 0) ∧ (r9 = 0))) → Q (.bool false) H13)))) : Ret F fl me [] H Q := by
  refine ret_intro hF rfl ?_
  refine w_seq ?_
  refine w_run [0] ?_
  refine t_done [(.bool false), .undef, .undef, .undef, .undef, .undef] H (by kernel_rfl) ?_
  refine then_norm ?_
  refine w_seq ?_
  refine w_run [1, 1, 1, 0] ?_
  refine t_build true [(.int .i64 0), (.int .i64 0), (.int .i64 0), (.int .i64 0), (.int .i64 0)] [(0, 1, .loc 0), (1, 1, .loc 1)] [(.int .i64 1), (.int .i64 7)] [(.int .i64 1), (.int .i64 7), (.int .i64 0), (.int .i64 0), (.int .i64 0)] H (by kernel_rfl) (fill_c (vs := [(.int .i64 1)]) (size := 1) rfl (by kernel_rfl) (by kernel_rfl) (fill_c (vs := [(.int .i64 7)]) (size := 1) rfl (by kernel_rfl) (by kernel_rfl) (by kernel_rfl))) ?_
  refine t_build true [(.int .i64 0), (.int .i64 0), (.int .i64 0), (.int .i64 0), (.int .i64 0)] [(0, 1, .loc 0)] [(.int .i64 3)] [(.int .i64 3), (.int .i64 0), (.int .i64 0), (.int .i64 0), (.int .i64 0)] H (by kernel_rfl) (fill_c (vs := [(.int .i64 3)]) (size := 1) rfl (by kernel_rfl) (by kernel_rfl) (by kernel_rfl)) ?_
  obtain ⟨b0, H1, hb⟩ : ∃ b H', NewB H 5 [(.int .i64 1), (.int .i64 7), (.int .i64 0), (.int .i64 0), (.int .i64 0), (.int .i64 3), (.int .i64 0), (.int .i64 0), (.int .i64 0), (.int .i64 0)] b H' := ⟨_, _, rfl, rfl⟩
  replace h := h b0 H1 hb
  refine t_bs true 5 [(.int .i64 0), (.int .i64 0), (.int .i64 0), (.int .i64 0), (.int .i64 0)] [(0, 5, .loc 0), (5, 5, .loc 1)] 2 [(.agg [(.int .i64 1), (.int .i64 7), (.int .i64 0), (.int .i64 0), (.int .i64 0)]), (.agg [(.int .i64 3), (.int .i64 0), (.int .i64 0), (.int .i64 0), (.int .i64 0)])] [(.int .i64 1), (.int .i64 7), (.int .i64 0), (.int .i64 0), (.int .i64 0), (.int .i64 3), (.int .i64 0), (.int .i64 0), (.int .i64 0), (.int .i64 0)] b0 H1 H (by kernel_rfl) (fill_c (vs := [(.int .i64 1), (.int .i64 7), (.int .i64 0), (.int .i64 0), (.int .i64 0)]) (size := 5) rfl (by kernel_rfl) (by kernel_rfl) (fill_c (vs := [(.int .i64 3), (.int .i64 0), (.int .i64 0), (.int .i64 0), (.int .i64 0)]) (size := 5) rfl (by kernel_rfl) (by kernel_rfl) (by kernel_rfl))) hb ?_
  refine t_done [(.bool false), (.slice b0 0 2 (some 2)), .undef, .undef, .undef, .undef] H1 (by kernel_rfl) ?_
  refine then_norm ?_
  refine w_seq ?_
  refine w_run [1, 0, 1, 0, 0, 0, 1, 0, 1] ?_
  refine t_build true [(.int .i64 0), (.int .i64 0)] [] [] [(.int .i64 0), (.int .i64 0)] H1 (by kernel_rfl) (by kernel_rfl) ?_
  refine t_call true nrollout_Run [(.int .i64 2), (.agg [(.int .i64 0), (.int .i64 0)]), (.int .i64 0), (.int .i64 50), (.slice b0 0 2 (some 2))] H1 (by kernel_rfl) h ?_
  clear h
  rintro _ H5 ⟨r2, r3, r4, rfl, h⟩
  obtain ⟨H7, hb⟩ : ∃ H', Dead1 H5 1 H' := ⟨_, ⟨rfl⟩⟩
  replace h := h H7 hb
  refine t_tomb true 1 (.agg [(.int .i64 0), (.int .i64 0)]) [(.int .i64 0), (.int .i64 0)] H7 H5 (by kernel_rfl) rfl hb ?_
  refine t_upd true 2 0 [(.int .i64 0), (.int .i64 0)] (.agg [(.int .i64 r3), (.int .i64 r4)]) [(.int .i64 r3), (.int .i64 r4)] [(.int .i64 r3), (.int .i64 r4)] H7 (by kernel_rfl) rfl (all_c rfl (all_c rfl all_n)) ⟨rfl, Nat.le_of_ble_eq_true (by kernel_rfl), rfl⟩ ?_
  refine t_done [(.bool false), (.slice b0 0 2 (some 2)), (.agg [(.int .i64 r3), (.int .i64 r4)]), .undef, r2, .undef] H7 (by kernel_rfl) ?_
  refine then_norm ?_
  refine w_seq ?_
  refine w_run [1, 0, 1, 0, 0, 0, 1, 0, 1] ?_
  refine t_build true [(.int .i64 0), (.int .i64 0)] [] [] [(.int .i64 0), (.int .i64 0)] H7 (by kernel_rfl) (by kernel_rfl) ?_
  refine t_call true nrollout_Versions [(.int .i64 2), (.agg [(.int .i64 0), (.int .i64 0)]), (.int .i64 0), (.int .i64 50), (.slice b0 0 2 (some 2))] H7 (by kernel_rfl) h ?_
  clear h
  rintro _ H11 ⟨r8, r9, r10, rfl, h⟩
  obtain ⟨H13, hb⟩ : ∃ H', Dead1 H11 1 H' := ⟨_, ⟨rfl⟩⟩
  replace h := h H13 hb
  refine t_tomb true 1 (.agg [(.int .i64 0), (.int .i64 0)]) [(.int .i64 0), (.int .i64 0)] H13 H11 (by kernel_rfl) rfl hb ?_
  refine t_upd true 2 0 [(.int .i64 0), (.int .i64 0)] (.agg [(.int .i64 r9), (.int .i64 r10)]) [(.int .i64 r9), (.int .i64 r10)] [(.int .i64 r9), (.int .i64 r10)] H13 (by kernel_rfl) rfl (all_c rfl (all_c rfl all_n)) ⟨rfl, Nat.le_of_ble_eq_true (by kernel_rfl), rfl⟩ ?_
  refine t_done [(.bool false), (.slice b0 0 2 (some 2)), (.agg [(.int .i64 r3), (.int .i64 r4)]), (.agg [(.int .i64 r9), (.int .i64 r10)]), r2, r8] H13 (by kernel_rfl) ?_
  refine then_norm ?_
  refine w_seq ?_
  refine w_run [0, 0, 0, 0, 0, 0, 0, 0, 0, 0, 3, 3, 1, 3, 3, 0, 0, 0, 3, 3, 0, 0] ?_
  refine t_gd (((r3) == 0) && ((r9) == 0)) true (by kernel_rfl) (fun hc => ?_) (fun hc => ?_)
  · replace h := h.1 ((is_and is_eq is_eq).t hc)
    obtain ⟨b14, H15, hb⟩ : ∃ b H', NewB H13 1 [(.int .i64 7)] b H' := ⟨_, _, rfl, rfl⟩
    replace h := h b14 H15 hb
    refine t_bs true 1 [(.int .i64 0)] [(0, 1, .loc 0)] 1 [(.int .i64 7)] [(.int .i64 7)] b14 H15 H13 (by kernel_rfl) (fill_c (vs := [(.int .i64 7)]) (size := 1) rfl (by kernel_rfl) (by kernel_rfl) (by kernel_rfl)) hb ?_
    refine t_gd true true (by kernel_rfl) (fun _ => ?_) (fun hn => by cases hn)
    refine t_build true [.empty, (.int .i64 0), (.int .i64 0), (.int .i64 0)] [(0, 1, .loc 0)] [(.slice b14 0 1 (some 1))] [(.slice b14 0 1 (some 1)), (.int .i64 0), (.int .i64 0), (.int .i64 0)] H15 (by kernel_rfl) (fill_c (vs := [(.slice b14 0 1 (some 1))]) (size := 1) rfl (by kernel_rfl) (by kernel_rfl) (by kernel_rfl)) ?_
    refine t_build true [.empty, (.int .i64 0), (.int .i64 0), (.int .i64 0)] [(1, 1, .loc 0)] [(.int .i64 7)] [.empty, (.int .i64 7), (.int .i64 0), (.int .i64 0)] H15 (by kernel_rfl) (fill_c (vs := [(.int .i64 7)]) (size := 1) rfl (by kernel_rfl) (by kernel_rfl) (by kernel_rfl)) ?_
    refine t_gd true true (by kernel_rfl) (fun _ => ?_) (fun hn => by cases hn)
    obtain ⟨b16, H17, hb⟩ : ∃ b H', NewB H15 4 [(.slice b14 0 1 (some 1)), (.int .i64 0), (.int .i64 0), (.int .i64 0), .empty, (.int .i64 7), (.int .i64 0), (.int .i64 0)] b H' := ⟨_, _, rfl, rfl⟩
    replace h := h b16 H17 hb
    refine t_bs true 4 [.empty, (.int .i64 0), (.int .i64 0), (.int .i64 0)] [(0, 4, .loc 0), (4, 4, .loc 1)] 2 [(.agg [(.slice b14 0 1 (some 1)), (.int .i64 0), (.int .i64 0), (.int .i64 0)]), (.agg [.empty, (.int .i64 7), (.int .i64 0), (.int .i64 0)])] [(.slice b14 0 1 (some 1)), (.int .i64 0), (.int .i64 0), (.int .i64 0), .empty, (.int .i64 7), (.int .i64 0), (.int .i64 0)] b16 H17 H15 (by kernel_rfl) (fill_c (vs := [(.slice b14 0 1 (some 1)), (.int .i64 0), (.int .i64 0), (.int .i64 0)]) (size := 4) rfl (by kernel_rfl) (by kernel_rfl) (fill_c (vs := [.empty, (.int .i64 7), (.int .i64 0), (.int .i64 0)]) (size := 4) rfl (by kernel_rfl) (by kernel_rfl) (by kernel_rfl))) hb ?_
    refine t_gd true true (by kernel_rfl) (fun _ => ?_) (fun hn => by cases hn)
    refine t_call true nFEqualRings [r2, (.slice b16 0 2 (some 2))] H17 (by kernel_rfl) h ?_
    clear h
    rintro _ H19 ⟨r18, rfl, h⟩
    refine t_gd r18 true (by kernel_rfl) (fun hc => ?_) (fun hc => ?_)
    · replace h := h.1 (is_raw.t hc)
      obtain ⟨b21, H22, hb⟩ : ∃ b H', NewB H19 1 [(.int .i64 7), (.int .i64 7)] b H' := ⟨_, _, rfl, rfl⟩
      replace h := h b21 H22 hb
      refine t_bs true 1 [(.int .i64 0)] [(0, 1, .loc 0), (1, 1, .loc 1)] 2 [(.int .i64 7), (.int .i64 7)] [(.int .i64 7), (.int .i64 7)] b21 H22 H19 (by kernel_rfl) (fill_c (vs := [(.int .i64 7)]) (size := 1) rfl (by kernel_rfl) (by kernel_rfl) (fill_c (vs := [(.int .i64 7)]) (size := 1) rfl (by kernel_rfl) (by kernel_rfl) (by kernel_rfl))) hb ?_
      refine t_gd true true (by kernel_rfl) (fun _ => ?_) (fun hn => by cases hn)
      refine t_call true nFEqualInts [r8, (.slice b21 0 2 (some 2))] H22 (by kernel_rfl) h ?_
      clear h
      rintro _ H24 ⟨r23, rfl, h⟩
      refine t_done [(.bool r23), (.slice b0 0 2 (some 2)), (.agg [(.int .i64 r3), (.int .i64 r4)]), (.agg [(.int .i64 r9), (.int .i64 r10)]), r2, r8] H24 (by kernel_rfl) ?_
      refine then_norm ?_
      refine w_ret ?_
      exact body_ret (vs := [(.bool r23)]) _ (by kernel_rfl) rfl h
    · replace h := h.2 (is_raw.f hc)
      refine t_gd false true (by kernel_rfl) (fun hn => by cases hn) (fun _ => ?_)
      refine t_done [(.bool false), (.slice b0 0 2 (some 2)), (.agg [(.int .i64 r3), (.int .i64 r4)]), (.agg [(.int .i64 r9), (.int .i64 r10)]), r2, r8] H19 (by kernel_rfl) ?_
      refine then_norm ?_
      refine w_ret ?_
      exact body_ret (vs := [(.bool false)]) _ (by kernel_rfl) rfl h
  · replace h := h.2 ((is_and is_eq is_eq).f hc)
    refine t_gd false true (by kernel_rfl) (fun hn => by cases hn) (fun _ => ?_)
    refine t_build true [.empty, (.int .i64 0), (.int .i64 0), (.int .i64 0)] [(1, 1, .loc 0)] [(.int .i64 7)] [.empty, (.int .i64 7), (.int .i64 0), (.int .i64 0)] H13 (by kernel_rfl) (fill_c (vs := [(.int .i64 7)]) (size := 1) rfl (by kernel_rfl) (by kernel_rfl) (by kernel_rfl)) ?_
    refine t_gd false true (by kernel_rfl) (fun hn => by cases hn) (fun _ => ?_)
    refine t_gd false true (by kernel_rfl) (fun hn => by cases hn) (fun _ => ?_)
    refine t_gd false true (by kernel_rfl) (fun hn => by cases hn) (fun _ => ?_)
    refine t_gd false true (by kernel_rfl) (fun hn => by cases hn) (fun _ => ?_)
    refine t_done [(.bool false), (.slice b0 0 2 (some 2)), (.agg [(.int .i64 r3), (.int .i64 r4)]), (.agg [(.int .i64 r9), (.int .i64 r10)]), r2, r8] H13 (by kernel_rfl) ?_
    refine then_norm ?_
    refine w_ret ?_
    exact body_ret (vs := [(.bool false)]) _ (by kernel_rfl) rfl h

end Go.RM

