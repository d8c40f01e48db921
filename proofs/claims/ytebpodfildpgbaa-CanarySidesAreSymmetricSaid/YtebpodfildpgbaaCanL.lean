/-
  Functions of the program as the abstract machine runs them, and what must be shown of a run: printed by RmPrint.
-/
import Derived.Test.YtebpodfildpgbaaRmVc
namespace Go.RM
set_option linter.unusedVariables false
set_option maxRecDepth 4000
-- LCanaryFunctionsMatchSpec
def rf_LCanaryFunctionsMatchSpec (ncanary_Tail ncanary_Decide ncanary_Tolerated nLcanaryExample ncanary_Validate nFCountsValid nFFault nLsidesFault nFWays nFVerdict : Nat) : RFunc := ⟨4, 34, [.var 4],
 ((.seq (.ops [⟨.tomb 1 (.var 0), none, (some 5), true⟩, ⟨.tomb 1 (.var 1), none, (some 6), true⟩, ⟨.move (.k (.bool false)), none, (some 4), true⟩])
 ((.seq (.ops [⟨.field 0 (some 2) (.var 5), none, none, true⟩, ⟨.field 0 (some 2) (.var 6), none, none, true⟩, ⟨.callS ncanary_Tail [(.loc 0), (.loc 1)], none, none, true⟩, ⟨.move (.loc 2), none, none, true⟩, ⟨.extract (.loc 3) 0, none, none, true⟩, ⟨.extract (.loc 3) 1, none, none, true⟩, ⟨.extract (.loc 3) 2, none, none, true⟩, ⟨.tomb 1 (.k (.agg [.int .i64 0, .int .i64 0])), none, (some 10), true⟩, ⟨.move (.loc 4), none, (some 12), true⟩, ⟨.move (.loc 5), none, (some 13), true⟩, ⟨.upd 2 0 (.loc 7) (.loc 6), none, (some 10), true⟩])
 ((.seq (.ops [⟨.field 0 (some 2) (.var 5), none, none, true⟩, ⟨.field 0 (some 2) (.var 6), none, none, true⟩, ⟨.move (.var 2), none, none, true⟩, ⟨.move (.var 3), none, none, true⟩, ⟨.callS ncanary_Decide [(.loc 0), (.loc 1), (.loc 2), (.loc 3)], none, none, true⟩, ⟨.move (.loc 4), none, none, true⟩, ⟨.extract (.loc 5) 0, none, none, true⟩, ⟨.extract (.loc 5) 1, none, none, true⟩, ⟨.tomb 1 (.k (.agg [.int .i64 0, .int .i64 0])), none, (some 11), true⟩, ⟨.move (.loc 6), none, (some 14), true⟩, ⟨.upd 2 0 (.loc 8) (.loc 7), none, (some 11), true⟩])
 ((.seq (.ops [⟨.field 0 (some 2) (.var 5), none, none, true⟩, ⟨.move (.var 2), none, none, true⟩, ⟨.move (.var 3), none, none, true⟩, ⟨.callS ncanary_Tolerated [(.loc 0), (.loc 1), (.loc 2)], none, none, true⟩, ⟨.move (.loc 3), none, none, true⟩, ⟨.extract (.loc 4) 0, none, none, true⟩, ⟨.extract (.loc 4) 1, none, none, true⟩, ⟨.tomb 1 (.k (.agg [.int .i64 0, .int .i64 0])), none, (some 28), true⟩, ⟨.move (.loc 5), none, (some 29), true⟩, ⟨.upd 2 0 (.loc 7) (.loc 6), none, (some 28), true⟩])
 ((.seq ((.seq (.ops [⟨.callS nLcanaryExample [], none, none, true⟩, ⟨.un .not (.loc 0), none, none, true⟩, ⟨.move (.loc 1), none, none, true⟩, ⟨.field 0 (some 2) (.var 5), none, none, false⟩, ⟨.callS ncanary_Validate [(.loc 3)], (some (2, false)), none, false⟩, ⟨.field 0 none (.loc 4), (some (2, false)), none, false⟩, ⟨.bin .eql .no (.loc 5) (.k (.int .i64 0)), (some (2, false)), none, false⟩, ⟨.field 0 (some 2) (.var 5), none, none, false⟩, ⟨.callS nFCountsValid [(.loc 7)], (some (2, false)), none, true⟩, ⟨.bin .neq .bool (.loc 6) (.loc 8), (some (2, false)), none, true⟩, ⟨.pick (.loc 2) (.k (.bool true)) (.loc 9), none, none, true⟩, ⟨.move (.loc 10), none, none, true⟩, ⟨.field 0 (some 2) (.var 5), none, none, true⟩, ⟨.callS nFCountsValid [(.loc 12)], (some (11, false)), none, true⟩, ⟨.un .not (.loc 13), (some (11, false)), none, true⟩, ⟨.move (.loc 14), (some (11, false)), none, true⟩, ⟨.field 0 (some 2) (.var 5), none, none, true⟩, ⟨.callS ncanary_Validate [(.loc 16)], (some (15, true)), none, true⟩, ⟨.callS nFFault [(.k (.int .i64 3)), (.k (.int .i64 (-1)))], (some (15, true)), none, true⟩, ⟨.bin .neq (.agg [.int, .int]) (.loc 17) (.loc 18), (some (15, true)), none, true⟩, ⟨.pick (.loc 15) (.loc 19) (.k (.bool false)), (some (11, false)), none, true⟩, ⟨.pick (.loc 11) (.k (.bool true)) (.loc 20), none, (some 7), true⟩])
 (.cond (.var 7) ((.seq (.ops [⟨.move (.k (.bool false)), none, (some 4), true⟩])
 (.ret))) (.skip))))
 ((.seq (.ops [⟨.field 0 (some 2) (.var 5), none, none, true⟩, ⟨.field 0 (some 2) (.var 6), none, none, true⟩, ⟨.callS nLsidesFault [(.loc 0), (.loc 1)], none, none, true⟩, ⟨.tomb 1 (.k (.agg [.int .i64 0, .int .i64 0])), none, (some 8), true⟩, ⟨.upd 2 0 (.loc 3) (.loc 2), none, (some 8), true⟩])
 ((.seq ((.seq (.ops [⟨.field 0 none (.var 8), none, none, true⟩, ⟨.field 0 none (.var 8), none, none, true⟩, ⟨.bin .neq .no (.loc 1) (.k (.int .i64 0)), none, (some 9), true⟩])
 (.cond (.var 9) ((.seq (.ops [⟨.field 0 (some 2) (.var 10), none, none, true⟩, ⟨.field 0 (some 2) (.var 8), none, none, true⟩, ⟨.bin .neq (.agg [.int, .int]) (.loc 0) (.loc 1), none, none, true⟩, ⟨.move (.loc 2), none, none, true⟩, ⟨.field 0 (some 2) (.var 11), none, none, true⟩, ⟨.field 0 (some 2) (.var 8), none, none, true⟩, ⟨.bin .neq (.agg [.int, .int]) (.loc 4) (.loc 5), none, none, true⟩, ⟨.pick (.loc 3) (.k (.bool true)) (.loc 6), none, none, true⟩, ⟨.move (.loc 7), none, none, true⟩, ⟨.move (.var 12), none, none, true⟩, ⟨.bin .neq .no (.loc 9) (.k (.int .i64 0)), none, none, true⟩, ⟨.pick (.loc 8) (.k (.bool true)) (.loc 10), none, none, true⟩, ⟨.move (.loc 11), none, none, true⟩, ⟨.move (.var 13), none, none, true⟩, ⟨.bin .neq .no (.loc 13) (.k (.int .i64 0)), none, none, true⟩, ⟨.pick (.loc 12) (.k (.bool true)) (.loc 14), none, none, true⟩, ⟨.move (.loc 15), none, none, true⟩, ⟨.move (.var 14), none, none, true⟩, ⟨.bin .neq .no (.loc 17) (.k (.int .i64 0)), none, none, true⟩, ⟨.pick (.loc 16) (.k (.bool true)) (.loc 18), none, (some 15), true⟩])
 (.cond (.var 15) ((.seq (.ops [⟨.move (.k (.bool false)), none, (some 4), true⟩])
 (.ret))) (.skip)))) ((.seq (.ops [⟨.field 0 (some 2) (.var 5), none, none, true⟩, ⟨.field 0 (some 2) (.var 6), none, none, true⟩, ⟨.callS nFWays [(.loc 0), (.loc 1)], none, none, true⟩, ⟨.move (.loc 2), none, none, true⟩, ⟨.extract (.loc 3) 0, none, none, true⟩, ⟨.extract (.loc 3) 1, none, none, true⟩, ⟨.move (.loc 4), none, (some 17), true⟩, ⟨.move (.loc 5), none, (some 16), true⟩])
 ((.seq (.ops [⟨.field 0 none (.var 10), none, none, true⟩, ⟨.field 0 none (.var 10), none, none, true⟩, ⟨.bin .neq .no (.loc 1) (.k (.int .i64 0)), none, none, true⟩, ⟨.move (.loc 2), none, none, true⟩, ⟨.move (.var 12), none, none, true⟩, ⟨.move (.var 16), none, none, true⟩, ⟨.move (.var 17), none, none, true⟩, ⟨.bin .sub .no (.loc 5) (.loc 6), none, none, true⟩, ⟨.bin .neq .no (.loc 4) (.loc 7), none, none, true⟩, ⟨.pick (.loc 3) (.k (.bool true)) (.loc 8), none, none, true⟩, ⟨.move (.loc 9), none, none, true⟩, ⟨.move (.var 13), none, none, true⟩, ⟨.move (.var 16), none, none, true⟩, ⟨.bin .neq .no (.loc 11) (.loc 12), none, none, true⟩, ⟨.pick (.loc 10) (.k (.bool true)) (.loc 13), none, (some 18), true⟩])
 (.cond (.var 18) ((.seq (.ops [⟨.move (.k (.bool false)), none, (some 4), true⟩])
 (.ret))) (.skip)))))))))
 ((.seq (.ops [⟨.move (.var 2), none, none, true⟩, ⟨.bin .geq .no (.loc 0) (.k (.int .i64 0)), none, none, true⟩, ⟨.move (.loc 1), none, none, true⟩, ⟨.move (.var 2), none, none, true⟩, ⟨.bin .leq .no (.loc 3) (.k (.int .i64 25)), none, none, true⟩, ⟨.pick (.loc 2) (.loc 4) (.k (.bool false)), none, none, true⟩, ⟨.move (.loc 5), none, none, true⟩, ⟨.move (.var 3), none, none, true⟩, ⟨.bin .geq .no (.loc 7) (.k (.int .i64 0)), none, none, true⟩, ⟨.pick (.loc 6) (.loc 8) (.k (.bool false)), none, none, true⟩, ⟨.move (.loc 9), none, none, true⟩, ⟨.move (.var 3), none, none, true⟩, ⟨.bin .lss .no (.loc 11) (.k (.int .i64 1000)), none, none, true⟩, ⟨.pick (.loc 10) (.loc 12) (.k (.bool false)), none, none, true⟩, ⟨.move (.loc 13), none, (some 19), true⟩])
 ((.seq ((.seq (.ops [⟨.field 0 none (.var 8), none, none, true⟩, ⟨.field 0 none (.var 8), none, none, true⟩, ⟨.bin .eql .no (.loc 1) (.k (.int .i64 0)), none, none, true⟩, ⟨.move (.loc 2), none, none, true⟩, ⟨.move (.var 19), none, none, true⟩, ⟨.un .not (.loc 4), none, none, true⟩, ⟨.pick (.loc 3) (.loc 5) (.k (.bool false)), none, (some 20), true⟩])
 (.cond (.var 20) ((.seq (.ops [⟨.field 0 (some 2) (.var 11), none, none, false⟩, ⟨.callS nFFault [(.k (.int .i64 3)), (.k (.int .i64 (-3)))], none, none, false⟩, ⟨.bin .neq (.agg [.int, .int]) (.loc 0) (.loc 1), none, none, true⟩, ⟨.move (.loc 2), none, none, true⟩, ⟨.move (.var 14), none, none, true⟩, ⟨.bin .neq .no (.loc 4) (.k (.int .i64 0)), none, none, true⟩, ⟨.pick (.loc 3) (.k (.bool true)) (.loc 5), none, (some 21), true⟩])
 (.cond (.var 21) ((.seq (.ops [⟨.move (.k (.bool false)), none, (some 4), true⟩])
 (.ret))) (.skip)))) (.skip))))
 ((.seq ((.seq (.ops [⟨.field 0 none (.var 8), none, none, true⟩, ⟨.field 0 none (.var 8), none, none, true⟩, ⟨.bin .eql .no (.loc 1) (.k (.int .i64 0)), none, none, true⟩, ⟨.move (.loc 2), none, none, true⟩, ⟨.move (.var 19), (some (3, true)), none, true⟩, ⟨.pick (.loc 3) (.loc 4) (.k (.bool false)), none, none, true⟩, ⟨.move (.loc 5), none, none, true⟩, ⟨.field 0 none (.var 11), (some (6, true)), none, true⟩, ⟨.field 0 none (.var 11), (some (6, true)), none, true⟩, ⟨.bin .neq .no (.loc 8) (.k (.int .i64 0)), (some (6, true)), none, true⟩, ⟨.move (.loc 9), (some (6, true)), none, true⟩, ⟨.move (.var 14), (some (10, false)), none, true⟩, ⟨.field 0 (some 2) (.var 5), (some (10, false)), none, true⟩, ⟨.field 0 (some 2) (.var 6), (some (10, false)), none, true⟩, ⟨.move (.var 2), (some (10, false)), none, true⟩, ⟨.move (.var 3), (some (10, false)), none, true⟩, ⟨.callS nFVerdict [(.loc 12), (.loc 13), (.loc 14), (.loc 15)], (some (10, false)), none, true⟩, ⟨.bin .neq .no (.loc 11) (.loc 16), (some (10, false)), none, true⟩, ⟨.pick (.loc 10) (.k (.bool true)) (.loc 17), (some (6, true)), none, true⟩, ⟨.pick (.loc 6) (.loc 18) (.k (.bool false)), none, (some 22), true⟩])
 (.cond (.var 22) ((.seq (.ops [⟨.move (.k (.bool false)), none, (some 4), true⟩])
 (.ret))) (.skip))))
 ((.seq (.ops [⟨.build [.int .i64 0, .int .i64 0] [], none, none, true⟩, ⟨.tomb 1 (.k (.agg [.int .i64 0, .int .i64 0])), none, (some 24), true⟩, ⟨.upd 2 0 (.loc 1) (.loc 0), none, (some 24), true⟩])
 ((.seq ((.seq (.ops [⟨.field 0 (some 2) (.var 5), none, none, true⟩, ⟨.callS nFCountsValid [(.loc 0)], none, none, true⟩, ⟨.un .not (.loc 1), none, (some 23), true⟩])
 (.cond (.var 23) (.ops [⟨.callS nFFault [(.k (.int .i64 3)), (.k (.int .i64 (-1)))], none, none, true⟩, ⟨.upd 2 0 (.var 24) (.loc 0), none, (some 24), true⟩]) ((.seq (.ops [⟨.move (.var 2), none, none, true⟩, ⟨.bin .lss .no (.loc 0) (.k (.int .i64 0)), none, none, true⟩, ⟨.move (.loc 1), none, none, true⟩, ⟨.move (.var 2), none, none, true⟩, ⟨.bin .gtr .no (.loc 3) (.k (.int .i64 25)), none, none, true⟩, ⟨.pick (.loc 2) (.k (.bool true)) (.loc 4), none, (some 25), true⟩])
 (.cond (.var 25) (.ops [⟨.callS nFFault [(.k (.int .i64 3)), (.k (.int .i64 (-2)))], none, none, true⟩, ⟨.upd 2 0 (.var 24) (.loc 0), none, (some 24), true⟩]) ((.seq (.ops [⟨.move (.var 19), none, none, true⟩, ⟨.un .not (.loc 0), none, (some 26), true⟩])
 (.cond (.var 26) (.ops [⟨.callS nFFault [(.k (.int .i64 3)), (.k (.int .i64 (-3)))], none, none, true⟩, ⟨.upd 2 0 (.var 24) (.loc 0), none, (some 24), true⟩]) (.skip))))))))))
 ((.seq ((.seq (.ops [⟨.field 0 none (.var 24), none, none, true⟩, ⟨.field 0 none (.var 24), none, none, true⟩, ⟨.bin .neq .no (.loc 1) (.k (.int .i64 0)), none, (some 27), true⟩])
 (.cond (.var 27) ((.seq (.ops [⟨.field 0 (some 2) (.var 28), none, none, true⟩, ⟨.field 0 (some 2) (.var 24), none, none, true⟩, ⟨.bin .eql (.agg [.int, .int]) (.loc 0) (.loc 1), none, none, true⟩, ⟨.move (.loc 2), none, none, true⟩, ⟨.move (.var 29), none, none, true⟩, ⟨.bin .eql .no (.loc 4) (.k (.int .i64 0)), none, none, true⟩, ⟨.pick (.loc 3) (.loc 5) (.k (.bool false)), none, none, true⟩, ⟨.move (.loc 6), none, (some 4), true⟩])
 (.ret))) (.skip))))
 ((.seq ((.seq (.ops [⟨.field 0 none (.var 28), none, none, true⟩, ⟨.field 0 none (.var 28), none, none, true⟩, ⟨.bin .neq .no (.loc 1) (.k (.int .i64 0)), none, none, true⟩, ⟨.move (.loc 2), none, none, true⟩, ⟨.move (.var 29), none, none, true⟩, ⟨.bin .lss .no (.loc 4) (.k (.int .i64 0)), none, none, true⟩, ⟨.pick (.loc 3) (.k (.bool true)) (.loc 5), none, none, true⟩, ⟨.move (.loc 6), none, none, true⟩, ⟨.move (.var 29), none, none, true⟩, ⟨.move (.var 2), none, none, true⟩, ⟨.bin .gtr .no (.loc 8) (.loc 9), none, none, true⟩, ⟨.pick (.loc 7) (.k (.bool true)) (.loc 10), none, none, true⟩, ⟨.move (.loc 11), none, none, true⟩, ⟨.field 0 (some 2) (.var 5), none, none, true⟩, ⟨.move (.var 2), none, none, true⟩, ⟨.move (.var 29), none, none, true⟩, ⟨.bin .sub .no (.loc 14) (.loc 15), none, none, true⟩, ⟨.move (.var 29), none, none, true⟩, ⟨.build [.int .i64 0, .int .i64 0] [(0, 1, (.loc 16)), (1, 1, (.loc 17))], none, none, true⟩, ⟨.move (.var 3), none, none, true⟩, ⟨.callS nFVerdict [(.loc 13), (.loc 18), (.k (.int .i64 0)), (.loc 19)], (some (12, false)), none, true⟩, ⟨.bin .eql .no (.loc 20) (.k (.int .i64 3)), (some (12, false)), none, true⟩, ⟨.pick (.loc 12) (.k (.bool true)) (.loc 21), none, (some 30), true⟩])
 (.cond (.var 30) ((.seq (.ops [⟨.move (.k (.bool false)), none, (some 4), true⟩])
 (.ret))) (.skip))))
 ((.seq ((.seq (.ops [⟨.move (.var 29), none, none, true⟩, ⟨.bin .add .no (.loc 0) (.k (.int .i64 1)), none, none, true⟩, ⟨.move (.loc 1), none, (some 31), true⟩])
 (.block 0 (.loop ((.seq ((.seq (.ops [⟨.move (.var 31), none, none, true⟩, ⟨.move (.var 2), none, none, true⟩, ⟨.bin .leq .no (.loc 0) (.loc 1), none, (some 32), true⟩])
 (.cond (.var 32) (.skip) (.exit 0))))
 ((.seq (.block 1 ((.seq (.ops [⟨.field 0 (some 2) (.var 5), none, none, true⟩, ⟨.move (.var 2), none, none, true⟩, ⟨.move (.var 31), none, none, true⟩, ⟨.bin .sub .no (.loc 1) (.loc 2), none, none, true⟩, ⟨.move (.var 31), none, none, true⟩, ⟨.build [.int .i64 0, .int .i64 0] [(0, 1, (.loc 3)), (1, 1, (.loc 4))], none, none, true⟩, ⟨.move (.var 3), none, none, true⟩, ⟨.callS nFVerdict [(.loc 0), (.loc 5), (.k (.int .i64 0)), (.loc 6)], none, none, true⟩, ⟨.bin .neq .no (.loc 7) (.k (.int .i64 3)), none, (some 33), true⟩])
 (.cond (.var 33) ((.seq (.ops [⟨.move (.k (.bool false)), none, (some 4), true⟩])
 (.ret))) (.skip)))))
 (.ops [⟨.move (.var 31), none, none, true⟩, ⟨.bin .add .no (.loc 0) (.k (.int .i64 1)), none, none, true⟩, ⟨.move (.loc 1), none, (some 31), true⟩])))))))))
 ((.seq (.ops [⟨.move (.k (.bool true)), none, (some 4), true⟩])
 (.ret)))))))))))))))))))))))))))))))))⟩
theorem v_LCanaryFunctionsMatchSpec {F : Nat → Option RFunc} {me ncanary_Tail ncanary_Decide ncanary_Tolerated nLcanaryExample ncanary_Validate nFCountsValid nFFault nLsidesFault nFWays nFVerdict : Nat} (hF : F me = some (rf_LCanaryFunctionsMatchSpec ncanary_Tail ncanary_Decide ncanary_Tolerated nLcanaryExample ncanary_Validate nFCountsValid nFFault nLsidesFault nFWays nFVerdict)) {fl : Nat} {H : Heap} {Q : AV → Heap → Prop} (base0 : Int) (base1 : Int) (other2 : Int) (other3 : Int) (need4 : Int) (perMille5 : Int)
  (h : ∀ (H6 : Heap), Dead1 H 1 H6 → ∀ (H7 : Heap), Dead1 H6 1 H7 → Ret F fl ncanary_Tail [(.agg [(.int .i64 base0), (.int .i64 base1)]), (.agg [(.int .i64 other2), (.int .i64 other3)])] H7 (fun v13 H12 => ∃ (r8 : Int) (r9 : Int) (r10 : Int) (r11 : Int), v13 = (.tuple [(.int .i64 r8), (.int .i64 r9), (.agg [(.int .i64 r10), (.int .i64 r11)])]) ∧ ∀ (H14 : Heap), Dead1 H12 1 H14 → Ret F fl ncanary_Decide [(.agg [(.int .i64 base0), (.int .i64 base1)]), (.agg [(.int .i64 other2), (.int .i64 other3)]), (.int .i64 need4), (.int .i64 perMille5)] H14 (fun v19 H18 => ∃ (r15 : Int) (r16 : Int) (r17 : Int), v19 = (.tuple [(.int .i64 r15), (.agg [(.int .i64 r16), (.int .i64 r17)])]) ∧ ∀ (H20 : Heap), Dead1 H18 1 H20 → Ret F fl ncanary_Tolerated [(.agg [(.int .i64 base0), (.int .i64 base1)]), (.int .i64 need4), (.int .i64 perMille5)] H20 (fun v25 H24 => ∃ (r21 : Int) (r22 : Int) (r23 : Int), v25 = (.tuple [(.int .i64 r21), (.agg [(.int .i64 r22), (.int .i64 r23)])]) ∧ ∀ (H26 : Heap), Dead1 H24 1 H26 → ∃ (R27 : Heap → Prop), (Ret F fl nLcanaryExample [] H26 (fun v33 H32 => ∃ (r31 : Bool), v33 = (.bool r31) ∧ ((¬(r31 = true)) → Q (.bool false) H32) ∧ (¬(¬(r31 = true)) → Ret F H32.length ncanary_Validate [(.agg [(.int .i64 base0), (.int .i64 base1)])] H32 (fun v37 H36 => ∃ (r34 : Int) (r35 : Int), v37 = (.agg [(.int .i64 r34), (.int .i64 r35)]) ∧ Ret F fl nFCountsValid [(.agg [(.int .i64 base0), (.int .i64 base1)])] H36 (fun v40 H39 => ∃ (r38 : Bool), v40 = (.bool r38) ∧ ((¬(((r34) == 0) = r38)) → Q (.bool false) H39) ∧ (¬(¬(((r34) == 0) = r38)) → Ret F fl nFCountsValid [(.agg [(.int .i64 base0), (.int .i64 base1)])] H39 (fun v43 H42 => ∃ (r41 : Bool), v43 = (.bool r41) ∧ ((¬(r41 = true)) → Ret F fl ncanary_Validate [(.agg [(.int .i64 base0), (.int .i64 base1)])] H42 (fun v47 H46 => ∃ (r44 : Int) (r45 : Int), v47 = (.agg [(.int .i64 r44), (.int .i64 r45)]) ∧ Ret F fl nFFault [(.int .i64 3), (.int .i64 (-1))] H46 (fun v51 H50 => ∃ (r48 : Int) (r49 : Int), v51 = (.agg [(.int .i64 r48), (.int .i64 r49)]) ∧ ((¬(((r44 = r48) ∧ (((r45 = r49) ∧ (True)))))) → Q (.bool false) H50) ∧ (¬(¬(((r44 = r48) ∧ (((r45 = r49) ∧ (True)))))) → R27 H50)))) ∧ (¬(¬(r41 = true)) → R27 H42)))))))) ∧ (∀ (H30 : Heap), R27 H30 → Ret F fl nLsidesFault [(.agg [(.int .i64 base0), (.int .i64 base1)]), (.agg [(.int .i64 other2), (.int .i64 other3)])] H30 (fun v55 H54 => ∃ (r52 : Int) (r53 : Int), v55 = (.agg [(.int .i64 r52), (.int .i64 r53)]) ∧ ∀ (H56 : Heap), Dead1 H54 1 H56 → ∃ (R57 : Heap → Prop), (((r52 ≠ 0) → ((((((((((¬(((r10 = r52) ∧ (((r11 = r53) ∧ (True)))))) ∨ (¬(((r16 = r52) ∧ (((r17 = r53) ∧ (True)))))))) ∨ (r8 ≠ 0))) ∨ (r9 ≠ 0))) ∨ (r15 ≠ 0))) → Q (.bool false) H56) ∧ (¬(((((((((¬(((r10 = r52) ∧ (((r11 = r53) ∧ (True)))))) ∨ (¬(((r16 = r52) ∧ (((r17 = r53) ∧ (True)))))))) ∨ (r8 ≠ 0))) ∨ (r9 ≠ 0))) ∨ (r15 ≠ 0))) → R57 H56)) ∧ (¬(r52 ≠ 0) → Ret F fl nFWays [(.agg [(.int .i64 base0), (.int .i64 base1)]), (.agg [(.int .i64 other2), (.int .i64 other3)])] H56 (fun v68 H67 => ∃ (r65 : Int) (r66 : Int), v68 = (.tuple [(.int .i64 r65), (.int .i64 r66)]) ∧ ((((((r10 ≠ 0) ∨ (r8 ≠ (IntKind.wrap .i64 (r66 - r65))))) ∨ (r9 ≠ r66))) → Q (.bool false) H67) ∧ (¬(((((r10 ≠ 0) ∨ (r8 ≠ (IntKind.wrap .i64 (r66 - r65))))) ∨ (r9 ≠ r66))) → R57 H67)))) ∧ (∀ (H64 : Heap), R57 H64 → ∃ (R69 : Heap → Prop), (((((r52 = 0) ∧ (¬(((((((need4 ≥ 0) ∧ (need4 ≤ 25))) ∧ (perMille5 ≥ 0))) ∧ (perMille5 < 1000)))))) → Ret F H64.length nFFault [(.int .i64 3), (.int .i64 (-3))] H64 (fun v77 H76 => ∃ (r74 : Int) (r75 : Int), v77 = (.agg [(.int .i64 r74), (.int .i64 r75)]) ∧ ((((¬(((r16 = r74) ∧ (((r17 = r75) ∧ (True)))))) ∨ (r15 ≠ 0))) → Q (.bool false) H76) ∧ (¬(((¬(((r16 = r74) ∧ (((r17 = r75) ∧ (True)))))) ∨ (r15 ≠ 0))) → R69 H76))) ∧ (¬(((r52 = 0) ∧ (¬(((((((need4 ≥ 0) ∧ (need4 ≤ 25))) ∧ (perMille5 ≥ 0))) ∧ (perMille5 < 1000)))))) → R69 H64)) ∧ (∀ (H73 : Heap), R69 H73 → ∃ (R78 : Heap → Prop), (((r52 = 0) → ((((((((need4 ≥ 0) ∧ (need4 ≤ 25))) ∧ (perMille5 ≥ 0))) ∧ (perMille5 < 1000))) → ((r16 ≠ 0) → Q (.bool false) H73) ∧ (¬(r16 ≠ 0) → Ret F fl nFVerdict [(.agg [(.int .i64 base0), (.int .i64 base1)]), (.agg [(.int .i64 other2), (.int .i64 other3)]), (.int .i64 need4), (.int .i64 perMille5)] H73 (fun v84 H83 => ∃ (r82 : Int), v84 = (.int .i64 r82) ∧ ((r15 ≠ r82) → Q (.bool false) H83) ∧ (¬(r15 ≠ r82) → R78 H83)))) ∧ (¬(((((((need4 ≥ 0) ∧ (need4 ≤ 25))) ∧ (perMille5 ≥ 0))) ∧ (perMille5 < 1000))) → R78 H73)) ∧ (¬(r52 = 0) → R78 H73)) ∧ (∀ (H81 : Heap), R78 H81 → ∀ (H85 : Heap), Dead1 H81 1 H85 → ∃ (R86 : Int → Int → Heap → Prop), (Ret F fl nFCountsValid [(.agg [(.int .i64 base0), (.int .i64 base1)])] H85 (fun v95 H94 => ∃ (r93 : Bool), v95 = (.bool r93) ∧ ((¬(r93 = true)) → Ret F fl nFFault [(.int .i64 3), (.int .i64 (-1))] H94 (fun v99 H98 => ∃ (r96 : Int) (r97 : Int), v99 = (.agg [(.int .i64 r96), (.int .i64 r97)]) ∧ R86 r96 r97 H98)) ∧ (¬(¬(r93 = true)) → ((((need4 < 0) ∨ (need4 > 25))) → Ret F fl nFFault [(.int .i64 3), (.int .i64 (-2))] H94 (fun v103 H102 => ∃ (r100 : Int) (r101 : Int), v103 = (.agg [(.int .i64 r100), (.int .i64 r101)]) ∧ R86 r100 r101 H102)) ∧ (¬(((need4 < 0) ∨ (need4 > 25))) → ((¬(((((((need4 ≥ 0) ∧ (need4 ≤ 25))) ∧ (perMille5 ≥ 0))) ∧ (perMille5 < 1000)))) → Ret F fl nFFault [(.int .i64 3), (.int .i64 (-3))] H94 (fun v107 H106 => ∃ (r104 : Int) (r105 : Int), v107 = (.agg [(.int .i64 r104), (.int .i64 r105)]) ∧ R86 r104 r105 H106)) ∧ (¬(¬(((((((need4 ≥ 0) ∧ (need4 ≤ 25))) ∧ (perMille5 ≥ 0))) ∧ (perMille5 < 1000)))) → R86 0 0 H94))))) ∧ (∀ (w88 : Int) (w89 : Int) (H92 : Heap), R86 w88 w89 H92 → ((w88 ≠ 0) → Q (.bool ((((r22) == w88) && (((r23) == w89) && true)) && ((r21) == 0))) H92) ∧ (¬(w88 ≠ 0) → ((((((r22 ≠ 0) ∨ (r21 < 0))) ∨ (r21 > need4))) → Q (.bool false) H92) ∧ (¬(((((r22 ≠ 0) ∨ (r21 < 0))) ∨ (r21 > need4))) → Ret F fl nFVerdict [(.agg [(.int .i64 base0), (.int .i64 base1)]), (.agg [(.int .i64 (IntKind.wrap .i64 (need4 - r21))), (.int .i64 r21)]), (.int .i64 0), (.int .i64 perMille5)] H92 (fun v110 H109 => ∃ (r108 : Int), v110 = (.int .i64 r108) ∧ ((r108 = 3) → Q (.bool false) H109) ∧ (¬(r108 = 3) → ∃ (J111 : Nat → Int → Heap → Prop) (k112 : Nat), J111 k112 (IntKind.wrap .i64 (r21 + 1)) H109 ∧ (∀ (m113 : Nat) (k115 : Int) (H118 : Heap), J111 m113 k115 H118 → ((k115 ≤ need4) → Ret F fl nFVerdict [(.agg [(.int .i64 base0), (.int .i64 base1)]), (.agg [(.int .i64 (IntKind.wrap .i64 (need4 - k115))), (.int .i64 k115)]), (.int .i64 0), (.int .i64 perMille5)] H118 (fun v121 H120 => ∃ (r119 : Int), v121 = (.int .i64 r119) ∧ ((r119 ≠ 3) → Q (.bool false) H120) ∧ (¬(r119 ≠ 3) → ∃ m122 : Nat, m122 < m113 ∧ J111 m122 (IntKind.wrap .i64 (k115 + 1)) H120))) ∧ (¬(k115 ≤ need4) → Q (.bool true) H118)))))))))))))))) : Ret F fl me [(.agg [(.int .i64 base0), (.int .i64 base1)]), (.agg [(.int .i64 other2), (.int .i64 other3)]), (.int .i64 need4), (.int .i64 perMille5)] H Q := by
  refine ret_intro hF rfl ?_
  refine w_seq ?_
  refine w_run [1, 1, 0] ?_
  obtain ⟨H6, hb⟩ : ∃ H', Dead1 H 1 H' := ⟨_, ⟨rfl⟩⟩
  replace h := h H6 hb
  refine t_tomb true 1 (.agg [(.int .i64 base0), (.int .i64 base1)]) [(.int .i64 base0), (.int .i64 base1)] H6 H (by kernel_rfl) rfl hb ?_
  obtain ⟨H7, hb⟩ : ∃ H', Dead1 H6 1 H' := ⟨_, ⟨rfl⟩⟩
  replace h := h H7 hb
  refine t_tomb true 1 (.agg [(.int .i64 other2), (.int .i64 other3)]) [(.int .i64 other2), (.int .i64 other3)] H7 H6 (by kernel_rfl) rfl hb ?_
  refine t_done [(.agg [(.int .i64 base0), (.int .i64 base1)]), (.agg [(.int .i64 other2), (.int .i64 other3)]), (.int .i64 need4), (.int .i64 perMille5), (.bool false), (.agg [(.int .i64 base0), (.int .i64 base1)]), (.agg [(.int .i64 other2), (.int .i64 other3)]), .undef, .undef, .undef, .undef, .undef, .undef, .undef, .undef, .undef, .undef, .undef, .undef, .undef, .undef, .undef, .undef, .undef, .undef, .undef, .undef, .undef, .undef, .undef, .undef, .undef, .undef, .undef] H7 (by kernel_rfl) ?_
  refine then_norm ?_
  refine w_seq ?_
  refine w_run [0, 0, 1, 0, 0, 0, 0, 1, 0, 0, 1] ?_
  refine t_call true ncanary_Tail [(.agg [(.int .i64 base0), (.int .i64 base1)]), (.agg [(.int .i64 other2), (.int .i64 other3)])] H7 (by kernel_rfl) h ?_
  clear h
  rintro _ H12 ⟨r8, r9, r10, r11, rfl, h⟩
  obtain ⟨H14, hb⟩ : ∃ H', Dead1 H12 1 H' := ⟨_, ⟨rfl⟩⟩
  replace h := h H14 hb
  refine t_tomb true 1 (.agg [(.int .i64 0), (.int .i64 0)]) [(.int .i64 0), (.int .i64 0)] H14 H12 (by kernel_rfl) rfl hb ?_
  refine t_upd true 2 0 [(.int .i64 0), (.int .i64 0)] (.agg [(.int .i64 r10), (.int .i64 r11)]) [(.int .i64 r10), (.int .i64 r11)] [(.int .i64 r10), (.int .i64 r11)] H14 (by kernel_rfl) rfl (all_c rfl (all_c rfl all_n)) ⟨rfl, Nat.le_of_ble_eq_true (by kernel_rfl), rfl⟩ ?_
  refine t_done [(.agg [(.int .i64 base0), (.int .i64 base1)]), (.agg [(.int .i64 other2), (.int .i64 other3)]), (.int .i64 need4), (.int .i64 perMille5), (.bool false), (.agg [(.int .i64 base0), (.int .i64 base1)]), (.agg [(.int .i64 other2), (.int .i64 other3)]), .undef, .undef, .undef, (.agg [(.int .i64 r10), (.int .i64 r11)]), .undef, (.int .i64 r8), (.int .i64 r9), .undef, .undef, .undef, .undef, .undef, .undef, .undef, .undef, .undef, .undef, .undef, .undef, .undef, .undef, .undef, .undef, .undef, .undef, .undef, .undef] H14 (by kernel_rfl) ?_
  refine then_norm ?_
  refine w_seq ?_
  refine w_run [0, 0, 0, 0, 1, 0, 0, 0, 1, 0, 1] ?_
  refine t_call true ncanary_Decide [(.agg [(.int .i64 base0), (.int .i64 base1)]), (.agg [(.int .i64 other2), (.int .i64 other3)]), (.int .i64 need4), (.int .i64 perMille5)] H14 (by kernel_rfl) h ?_
  clear h
  rintro _ H18 ⟨r15, r16, r17, rfl, h⟩
  obtain ⟨H20, hb⟩ : ∃ H', Dead1 H18 1 H' := ⟨_, ⟨rfl⟩⟩
  replace h := h H20 hb
  refine t_tomb true 1 (.agg [(.int .i64 0), (.int .i64 0)]) [(.int .i64 0), (.int .i64 0)] H20 H18 (by kernel_rfl) rfl hb ?_
  refine t_upd true 2 0 [(.int .i64 0), (.int .i64 0)] (.agg [(.int .i64 r16), (.int .i64 r17)]) [(.int .i64 r16), (.int .i64 r17)] [(.int .i64 r16), (.int .i64 r17)] H20 (by kernel_rfl) rfl (all_c rfl (all_c rfl all_n)) ⟨rfl, Nat.le_of_ble_eq_true (by kernel_rfl), rfl⟩ ?_
  refine t_done [(.agg [(.int .i64 base0), (.int .i64 base1)]), (.agg [(.int .i64 other2), (.int .i64 other3)]), (.int .i64 need4), (.int .i64 perMille5), (.bool false), (.agg [(.int .i64 base0), (.int .i64 base1)]), (.agg [(.int .i64 other2), (.int .i64 other3)]), .undef, .undef, .undef, (.agg [(.int .i64 r10), (.int .i64 r11)]), (.agg [(.int .i64 r16), (.int .i64 r17)]), (.int .i64 r8), (.int .i64 r9), (.int .i64 r15), .undef, .undef, .undef, .undef, .undef, .undef, .undef, .undef, .undef, .undef, .undef, .undef, .undef, .undef, .undef, .undef, .undef, .undef, .undef] H20 (by kernel_rfl) ?_
  refine then_norm ?_
  refine w_seq ?_
  refine w_run [0, 0, 0, 1, 0, 0, 0, 1, 0, 1] ?_
  refine t_call true ncanary_Tolerated [(.agg [(.int .i64 base0), (.int .i64 base1)]), (.int .i64 need4), (.int .i64 perMille5)] H20 (by kernel_rfl) h ?_
  clear h
  rintro _ H24 ⟨r21, r22, r23, rfl, h⟩
  obtain ⟨H26, hb⟩ : ∃ H', Dead1 H24 1 H' := ⟨_, ⟨rfl⟩⟩
  replace h := h H26 hb
  refine t_tomb true 1 (.agg [(.int .i64 0), (.int .i64 0)]) [(.int .i64 0), (.int .i64 0)] H26 H24 (by kernel_rfl) rfl hb ?_
  refine t_upd true 2 0 [(.int .i64 0), (.int .i64 0)] (.agg [(.int .i64 r22), (.int .i64 r23)]) [(.int .i64 r22), (.int .i64 r23)] [(.int .i64 r22), (.int .i64 r23)] H26 (by kernel_rfl) rfl (all_c rfl (all_c rfl all_n)) ⟨rfl, Nat.le_of_ble_eq_true (by kernel_rfl), rfl⟩ ?_
  refine t_done [(.agg [(.int .i64 base0), (.int .i64 base1)]), (.agg [(.int .i64 other2), (.int .i64 other3)]), (.int .i64 need4), (.int .i64 perMille5), (.bool false), (.agg [(.int .i64 base0), (.int .i64 base1)]), (.agg [(.int .i64 other2), (.int .i64 other3)]), .undef, .undef, .undef, (.agg [(.int .i64 r10), (.int .i64 r11)]), (.agg [(.int .i64 r16), (.int .i64 r17)]), (.int .i64 r8), (.int .i64 r9), (.int .i64 r15), .undef, .undef, .undef, .undef, .undef, .undef, .undef, .undef, .undef, .undef, .undef, .undef, .undef, (.agg [(.int .i64 r22), (.int .i64 r23)]), (.int .i64 r21), .undef, .undef, .undef, .undef] H26 (by kernel_rfl) ?_
  refine then_norm ?_
  refine w_seq ?_
  obtain ⟨R27, h, hK⟩ := h
  refine w_join (fun EI HI => ∃ (d28 : AV) (d29 : AV), EI = [(.agg [(.int .i64 base0), (.int .i64 base1)]), (.agg [(.int .i64 other2), (.int .i64 other3)]), (.int .i64 need4), (.int .i64 perMille5), d28, (.agg [(.int .i64 base0), (.int .i64 base1)]), (.agg [(.int .i64 other2), (.int .i64 other3)]), d29, .undef, .undef, (.agg [(.int .i64 r10), (.int .i64 r11)]), (.agg [(.int .i64 r16), (.int .i64 r17)]), (.int .i64 r8), (.int .i64 r9), (.int .i64 r15), .undef, .undef, .undef, .undef, .undef, .undef, .undef, .undef, .undef, .undef, .undef, .undef, .undef, (.agg [(.int .i64 r22), (.int .i64 r23)]), (.int .i64 r21), .undef, .undef, .undef, .undef] ∧ R27  HI) ?_ ?_
  · clear hK
    refine w_seq ?_
    refine w_run [1, 0, 0, 0, 3, 2, 2, 0, 3, 2, 0, 0, 0, 3, 2, 2, 0, 3, 3, 2, 2, 0] ?_
    refine t_call true nLcanaryExample [] H26 (by kernel_rfl) h ?_
    clear h
    rintro _ H32 ⟨r31, rfl, h⟩
    refine t_gd (!r31) false (by kernel_rfl) (fun hc => ?_) (fun hc => ?_)
    · replace h := h.2 ((is_not is_raw).f hc)
      refine t_call false ncanary_Validate [(.agg [(.int .i64 base0), (.int .i64 base1)])] H32 (by kernel_rfl) h ?_
      clear h
      rintro _ H36 ⟨r34, r35, rfl, h⟩
      refine t_gd false false (by kernel_rfl) (fun _ => ?_) (fun hn => by cases hn)
      refine t_gd false false (by kernel_rfl) (fun _ => ?_) (fun hn => by cases hn)
      refine t_gd false false (by kernel_rfl) (fun _ => ?_) (fun hn => by cases hn)
      refine t_call true nFCountsValid [(.agg [(.int .i64 base0), (.int .i64 base1)])] H36 (by kernel_rfl) h ?_
      clear h
      rintro _ H39 ⟨r38, rfl, h⟩
      refine t_gd false false (by kernel_rfl) (fun _ => ?_) (fun hn => by cases hn)
      refine t_gd (!(((r34) == 0) == r38)) false (by kernel_rfl) (fun hc => ?_) (fun hc => ?_)
      · replace h := h.2 ((is_not is_beq).f hc)
        refine t_call true nFCountsValid [(.agg [(.int .i64 base0), (.int .i64 base1)])] H39 (by kernel_rfl) h ?_
        clear h
        rintro _ H42 ⟨r41, rfl, h⟩
        refine t_gd false false (by kernel_rfl) (fun _ => ?_) (fun hn => by cases hn)
        refine t_gd false false (by kernel_rfl) (fun _ => ?_) (fun hn => by cases hn)
        refine t_gd (!r41) true (by kernel_rfl) (fun hc => ?_) (fun hc => ?_)
        · replace h := h.1 ((is_not is_raw).t hc)
          refine t_call true ncanary_Validate [(.agg [(.int .i64 base0), (.int .i64 base1)])] H42 (by kernel_rfl) h ?_
          clear h
          rintro _ H46 ⟨r44, r45, rfl, h⟩
          refine t_gd true true (by kernel_rfl) (fun _ => ?_) (fun hn => by cases hn)
          refine t_call true nFFault [(.int .i64 3), (.int .i64 (-1))] H46 (by kernel_rfl) h ?_
          clear h
          rintro _ H50 ⟨r48, r49, rfl, h⟩
          refine t_gd true true (by kernel_rfl) (fun _ => ?_) (fun hn => by cases hn)
          refine t_gd false false (by kernel_rfl) (fun _ => ?_) (fun hn => by cases hn)
          refine t_done [(.agg [(.int .i64 base0), (.int .i64 base1)]), (.agg [(.int .i64 other2), (.int .i64 other3)]), (.int .i64 need4), (.int .i64 perMille5), (.bool false), (.agg [(.int .i64 base0), (.int .i64 base1)]), (.agg [(.int .i64 other2), (.int .i64 other3)]), (.bool (!(((r44) == r48) && (((r45) == r49) && true)))), .undef, .undef, (.agg [(.int .i64 r10), (.int .i64 r11)]), (.agg [(.int .i64 r16), (.int .i64 r17)]), (.int .i64 r8), (.int .i64 r9), (.int .i64 r15), .undef, .undef, .undef, .undef, .undef, .undef, .undef, .undef, .undef, .undef, .undef, .undef, .undef, (.agg [(.int .i64 r22), (.int .i64 r23)]), (.int .i64 r21), .undef, .undef, .undef, .undef] H50 (by kernel_rfl) ?_
          refine then_norm ?_
          refine w_cond (t := (!(((r44) == r48) && (((r45) == r49) && true)))) rfl (fun hc => ?_) (fun hc => ?_)
          · replace h := h.1 ((is_not (is_and is_eq (is_and is_eq is_true))).t hc)
            refine w_seq ?_
            refine w_run [0] ?_
            refine t_done [(.agg [(.int .i64 base0), (.int .i64 base1)]), (.agg [(.int .i64 other2), (.int .i64 other3)]), (.int .i64 need4), (.int .i64 perMille5), (.bool false), (.agg [(.int .i64 base0), (.int .i64 base1)]), (.agg [(.int .i64 other2), (.int .i64 other3)]), (.bool (!(((r44) == r48) && (((r45) == r49) && true)))), .undef, .undef, (.agg [(.int .i64 r10), (.int .i64 r11)]), (.agg [(.int .i64 r16), (.int .i64 r17)]), (.int .i64 r8), (.int .i64 r9), (.int .i64 r15), .undef, .undef, .undef, .undef, .undef, .undef, .undef, .undef, .undef, .undef, .undef, .undef, .undef, (.agg [(.int .i64 r22), (.int .i64 r23)]), (.int .i64 r21), .undef, .undef, .undef, .undef] H50 (by kernel_rfl) ?_
            refine then_norm ?_
            refine w_ret ?_
            refine join_ret ?_
            refine then_ret ?_
            exact body_ret (vs := [(.bool false)]) _ (by kernel_rfl) rfl h
          · replace h := h.2 ((is_not (is_and is_eq (is_and is_eq is_true))).f hc)
            refine w_skip ?_
            refine join_norm ⟨_, _, rfl, h⟩
        · replace h := h.2 ((is_not is_raw).f hc)
          refine t_gd false true (by kernel_rfl) (fun hn => by cases hn) (fun _ => ?_)
          refine t_gd false true (by kernel_rfl) (fun hn => by cases hn) (fun _ => ?_)
          refine t_gd false false (by kernel_rfl) (fun _ => ?_) (fun hn => by cases hn)
          refine t_done [(.agg [(.int .i64 base0), (.int .i64 base1)]), (.agg [(.int .i64 other2), (.int .i64 other3)]), (.int .i64 need4), (.int .i64 perMille5), (.bool false), (.agg [(.int .i64 base0), (.int .i64 base1)]), (.agg [(.int .i64 other2), (.int .i64 other3)]), (.bool false), .undef, .undef, (.agg [(.int .i64 r10), (.int .i64 r11)]), (.agg [(.int .i64 r16), (.int .i64 r17)]), (.int .i64 r8), (.int .i64 r9), (.int .i64 r15), .undef, .undef, .undef, .undef, .undef, .undef, .undef, .undef, .undef, .undef, .undef, .undef, .undef, (.agg [(.int .i64 r22), (.int .i64 r23)]), (.int .i64 r21), .undef, .undef, .undef, .undef] H42 (by kernel_rfl) ?_
          refine then_norm ?_
          refine w_cond (t := false) rfl (fun hc => by cases hc) (fun _ => ?_)
          refine w_skip ?_
          refine join_norm ⟨_, _, rfl, h⟩
      · replace h := h.1 ((is_not is_beq).t hc)
        refine t_gd true false (by kernel_rfl) (fun hn => by cases hn) (fun _ => ?_)
        refine t_gd true false (by kernel_rfl) (fun hn => by cases hn) (fun _ => ?_)
        refine t_gdU true (by kernel_rfl) ?_
        refine t_gdU true (by kernel_rfl) ?_
        refine t_gdU true (by kernel_rfl) ?_
        refine t_gd true false (by kernel_rfl) (fun hn => by cases hn) (fun _ => ?_)
        refine t_done [(.agg [(.int .i64 base0), (.int .i64 base1)]), (.agg [(.int .i64 other2), (.int .i64 other3)]), (.int .i64 need4), (.int .i64 perMille5), (.bool false), (.agg [(.int .i64 base0), (.int .i64 base1)]), (.agg [(.int .i64 other2), (.int .i64 other3)]), (.bool true), .undef, .undef, (.agg [(.int .i64 r10), (.int .i64 r11)]), (.agg [(.int .i64 r16), (.int .i64 r17)]), (.int .i64 r8), (.int .i64 r9), (.int .i64 r15), .undef, .undef, .undef, .undef, .undef, .undef, .undef, .undef, .undef, .undef, .undef, .undef, .undef, (.agg [(.int .i64 r22), (.int .i64 r23)]), (.int .i64 r21), .undef, .undef, .undef, .undef] H39 (by kernel_rfl) ?_
        refine then_norm ?_
        refine w_cond (t := true) rfl (fun _ => ?_) (fun hc => by cases hc)
        refine w_seq ?_
        refine w_run [0] ?_
        refine t_done [(.agg [(.int .i64 base0), (.int .i64 base1)]), (.agg [(.int .i64 other2), (.int .i64 other3)]), (.int .i64 need4), (.int .i64 perMille5), (.bool false), (.agg [(.int .i64 base0), (.int .i64 base1)]), (.agg [(.int .i64 other2), (.int .i64 other3)]), (.bool true), .undef, .undef, (.agg [(.int .i64 r10), (.int .i64 r11)]), (.agg [(.int .i64 r16), (.int .i64 r17)]), (.int .i64 r8), (.int .i64 r9), (.int .i64 r15), .undef, .undef, .undef, .undef, .undef, .undef, .undef, .undef, .undef, .undef, .undef, .undef, .undef, (.agg [(.int .i64 r22), (.int .i64 r23)]), (.int .i64 r21), .undef, .undef, .undef, .undef] H39 (by kernel_rfl) ?_
        refine then_norm ?_
        refine w_ret ?_
        refine join_ret ?_
        refine then_ret ?_
        exact body_ret (vs := [(.bool false)]) _ (by kernel_rfl) rfl h
    · replace h := h.1 ((is_not is_raw).t hc)
      refine t_gd true false (by kernel_rfl) (fun hn => by cases hn) (fun _ => ?_)
      refine t_gd true false (by kernel_rfl) (fun hn => by cases hn) (fun _ => ?_)
      refine t_gd true false (by kernel_rfl) (fun hn => by cases hn) (fun _ => ?_)
      refine t_gd true false (by kernel_rfl) (fun hn => by cases hn) (fun _ => ?_)
      refine t_gd true false (by kernel_rfl) (fun hn => by cases hn) (fun _ => ?_)
      refine t_gd true false (by kernel_rfl) (fun hn => by cases hn) (fun _ => ?_)
      refine t_gd true false (by kernel_rfl) (fun hn => by cases hn) (fun _ => ?_)
      refine t_gdU true (by kernel_rfl) ?_
      refine t_gdU true (by kernel_rfl) ?_
      refine t_gdU true (by kernel_rfl) ?_
      refine t_gd true false (by kernel_rfl) (fun hn => by cases hn) (fun _ => ?_)
      refine t_done [(.agg [(.int .i64 base0), (.int .i64 base1)]), (.agg [(.int .i64 other2), (.int .i64 other3)]), (.int .i64 need4), (.int .i64 perMille5), (.bool false), (.agg [(.int .i64 base0), (.int .i64 base1)]), (.agg [(.int .i64 other2), (.int .i64 other3)]), (.bool true), .undef, .undef, (.agg [(.int .i64 r10), (.int .i64 r11)]), (.agg [(.int .i64 r16), (.int .i64 r17)]), (.int .i64 r8), (.int .i64 r9), (.int .i64 r15), .undef, .undef, .undef, .undef, .undef, .undef, .undef, .undef, .undef, .undef, .undef, .undef, .undef, (.agg [(.int .i64 r22), (.int .i64 r23)]), (.int .i64 r21), .undef, .undef, .undef, .undef] H32 (by kernel_rfl) ?_
      refine then_norm ?_
      refine w_cond (t := true) rfl (fun _ => ?_) (fun hc => by cases hc)
      refine w_seq ?_
      refine w_run [0] ?_
      refine t_done [(.agg [(.int .i64 base0), (.int .i64 base1)]), (.agg [(.int .i64 other2), (.int .i64 other3)]), (.int .i64 need4), (.int .i64 perMille5), (.bool false), (.agg [(.int .i64 base0), (.int .i64 base1)]), (.agg [(.int .i64 other2), (.int .i64 other3)]), (.bool true), .undef, .undef, (.agg [(.int .i64 r10), (.int .i64 r11)]), (.agg [(.int .i64 r16), (.int .i64 r17)]), (.int .i64 r8), (.int .i64 r9), (.int .i64 r15), .undef, .undef, .undef, .undef, .undef, .undef, .undef, .undef, .undef, .undef, .undef, .undef, .undef, (.agg [(.int .i64 r22), (.int .i64 r23)]), (.int .i64 r21), .undef, .undef, .undef, .undef] H32 (by kernel_rfl) ?_
      refine then_norm ?_
      refine w_ret ?_
      refine join_ret ?_
      refine then_ret ?_
      exact body_ret (vs := [(.bool false)]) _ (by kernel_rfl) rfl h
  · clear h
    rintro EI H30 ⟨d28, d29, rfl, hJ⟩
    have h := hK H30 hJ
    clear hJ hK
    refine then_norm ?_
    refine w_seq ?_
    refine w_run [0, 0, 1, 1, 1] ?_
    refine t_call true nLsidesFault [(.agg [(.int .i64 base0), (.int .i64 base1)]), (.agg [(.int .i64 other2), (.int .i64 other3)])] H30 (by kernel_rfl) h ?_
    clear h
    rintro _ H54 ⟨r52, r53, rfl, h⟩
    obtain ⟨H56, hb⟩ : ∃ H', Dead1 H54 1 H' := ⟨_, ⟨rfl⟩⟩
    replace h := h H56 hb
    refine t_tomb true 1 (.agg [(.int .i64 0), (.int .i64 0)]) [(.int .i64 0), (.int .i64 0)] H56 H54 (by kernel_rfl) rfl hb ?_
    refine t_upd true 2 0 [(.int .i64 0), (.int .i64 0)] (.agg [(.int .i64 r52), (.int .i64 r53)]) [(.int .i64 r52), (.int .i64 r53)] [(.int .i64 r52), (.int .i64 r53)] H56 (by kernel_rfl) rfl (all_c rfl (all_c rfl all_n)) ⟨rfl, Nat.le_of_ble_eq_true (by kernel_rfl), rfl⟩ ?_
    refine t_done [(.agg [(.int .i64 base0), (.int .i64 base1)]), (.agg [(.int .i64 other2), (.int .i64 other3)]), (.int .i64 need4), (.int .i64 perMille5), d28, (.agg [(.int .i64 base0), (.int .i64 base1)]), (.agg [(.int .i64 other2), (.int .i64 other3)]), d29, (.agg [(.int .i64 r52), (.int .i64 r53)]), .undef, (.agg [(.int .i64 r10), (.int .i64 r11)]), (.agg [(.int .i64 r16), (.int .i64 r17)]), (.int .i64 r8), (.int .i64 r9), (.int .i64 r15), .undef, .undef, .undef, .undef, .undef, .undef, .undef, .undef, .undef, .undef, .undef, .undef, .undef, (.agg [(.int .i64 r22), (.int .i64 r23)]), (.int .i64 r21), .undef, .undef, .undef, .undef] H56 (by kernel_rfl) ?_
    refine then_norm ?_
    refine w_seq ?_
    obtain ⟨R57, h, hK⟩ := h
    refine w_join (fun EI HI => ∃ (d58 : AV) (d59 : AV) (d60 : AV) (d61 : AV) (d62 : AV) (d63 : AV), EI = [(.agg [(.int .i64 base0), (.int .i64 base1)]), (.agg [(.int .i64 other2), (.int .i64 other3)]), (.int .i64 need4), (.int .i64 perMille5), d58, (.agg [(.int .i64 base0), (.int .i64 base1)]), (.agg [(.int .i64 other2), (.int .i64 other3)]), d29, (.agg [(.int .i64 r52), (.int .i64 r53)]), d59, (.agg [(.int .i64 r10), (.int .i64 r11)]), (.agg [(.int .i64 r16), (.int .i64 r17)]), (.int .i64 r8), (.int .i64 r9), (.int .i64 r15), d60, d61, d62, d63, .undef, .undef, .undef, .undef, .undef, .undef, .undef, .undef, .undef, (.agg [(.int .i64 r22), (.int .i64 r23)]), (.int .i64 r21), .undef, .undef, .undef, .undef] ∧ R57  HI) ?_ ?_
    · clear hK
      refine w_seq ?_
      refine w_run [0, 0, 0] ?_
      refine t_done [(.agg [(.int .i64 base0), (.int .i64 base1)]), (.agg [(.int .i64 other2), (.int .i64 other3)]), (.int .i64 need4), (.int .i64 perMille5), d28, (.agg [(.int .i64 base0), (.int .i64 base1)]), (.agg [(.int .i64 other2), (.int .i64 other3)]), d29, (.agg [(.int .i64 r52), (.int .i64 r53)]), (.bool ((r52) != 0)), (.agg [(.int .i64 r10), (.int .i64 r11)]), (.agg [(.int .i64 r16), (.int .i64 r17)]), (.int .i64 r8), (.int .i64 r9), (.int .i64 r15), .undef, .undef, .undef, .undef, .undef, .undef, .undef, .undef, .undef, .undef, .undef, .undef, .undef, (.agg [(.int .i64 r22), (.int .i64 r23)]), (.int .i64 r21), .undef, .undef, .undef, .undef] H56 (by kernel_rfl) ?_
      refine then_norm ?_
      refine w_cond (t := ((r52) != 0)) rfl (fun hc => ?_) (fun hc => ?_)
      · replace h := h.1 (is_ne.t hc)
        refine w_seq ?_
        refine w_run [0, 0, 0, 0, 0, 0, 0, 0, 0, 0, 0, 0, 0, 0, 0, 0, 0, 0, 0, 0] ?_
        refine t_done [(.agg [(.int .i64 base0), (.int .i64 base1)]), (.agg [(.int .i64 other2), (.int .i64 other3)]), (.int .i64 need4), (.int .i64 perMille5), d28, (.agg [(.int .i64 base0), (.int .i64 base1)]), (.agg [(.int .i64 other2), (.int .i64 other3)]), d29, (.agg [(.int .i64 r52), (.int .i64 r53)]), (.bool ((r52) != 0)), (.agg [(.int .i64 r10), (.int .i64 r11)]), (.agg [(.int .i64 r16), (.int .i64 r17)]), (.int .i64 r8), (.int .i64 r9), (.int .i64 r15), (.bool (((((!(((r10) == r52) && (((r11) == r53) && true))) || (!(((r16) == r52) && (((r17) == r53) && true)))) || ((r8) != 0)) || ((r9) != 0)) || ((r15) != 0))), .undef, .undef, .undef, .undef, .undef, .undef, .undef, .undef, .undef, .undef, .undef, .undef, (.agg [(.int .i64 r22), (.int .i64 r23)]), (.int .i64 r21), .undef, .undef, .undef, .undef] H56 (by kernel_rfl) ?_
        refine then_norm ?_
        refine w_cond (t := (((((!(((r10) == r52) && (((r11) == r53) && true))) || (!(((r16) == r52) && (((r17) == r53) && true)))) || ((r8) != 0)) || ((r9) != 0)) || ((r15) != 0))) rfl (fun hc => ?_) (fun hc => ?_)
        · replace h := h.1 ((is_or (is_or (is_or (is_or (is_not (is_and is_eq (is_and is_eq is_true))) (is_not (is_and is_eq (is_and is_eq is_true)))) is_ne) is_ne) is_ne).t hc)
          refine w_seq ?_
          refine w_run [0] ?_
          refine t_done [(.agg [(.int .i64 base0), (.int .i64 base1)]), (.agg [(.int .i64 other2), (.int .i64 other3)]), (.int .i64 need4), (.int .i64 perMille5), (.bool false), (.agg [(.int .i64 base0), (.int .i64 base1)]), (.agg [(.int .i64 other2), (.int .i64 other3)]), d29, (.agg [(.int .i64 r52), (.int .i64 r53)]), (.bool ((r52) != 0)), (.agg [(.int .i64 r10), (.int .i64 r11)]), (.agg [(.int .i64 r16), (.int .i64 r17)]), (.int .i64 r8), (.int .i64 r9), (.int .i64 r15), (.bool (((((!(((r10) == r52) && (((r11) == r53) && true))) || (!(((r16) == r52) && (((r17) == r53) && true)))) || ((r8) != 0)) || ((r9) != 0)) || ((r15) != 0))), .undef, .undef, .undef, .undef, .undef, .undef, .undef, .undef, .undef, .undef, .undef, .undef, (.agg [(.int .i64 r22), (.int .i64 r23)]), (.int .i64 r21), .undef, .undef, .undef, .undef] H56 (by kernel_rfl) ?_
          refine then_norm ?_
          refine w_ret ?_
          refine join_ret ?_
          refine then_ret ?_
          exact body_ret (vs := [(.bool false)]) _ (by kernel_rfl) rfl h
        · replace h := h.2 ((is_or (is_or (is_or (is_or (is_not (is_and is_eq (is_and is_eq is_true))) (is_not (is_and is_eq (is_and is_eq is_true)))) is_ne) is_ne) is_ne).f hc)
          refine w_skip ?_
          refine join_norm ⟨_, _, _, _, _, _, rfl, h⟩
      · replace h := h.2 (is_ne.f hc)
        refine w_seq ?_
        refine w_run [0, 0, 1, 0, 0, 0, 0, 0] ?_
        refine t_call true nFWays [(.agg [(.int .i64 base0), (.int .i64 base1)]), (.agg [(.int .i64 other2), (.int .i64 other3)])] H56 (by kernel_rfl) h ?_
        clear h
        rintro _ H67 ⟨r65, r66, rfl, h⟩
        refine t_done [(.agg [(.int .i64 base0), (.int .i64 base1)]), (.agg [(.int .i64 other2), (.int .i64 other3)]), (.int .i64 need4), (.int .i64 perMille5), d28, (.agg [(.int .i64 base0), (.int .i64 base1)]), (.agg [(.int .i64 other2), (.int .i64 other3)]), d29, (.agg [(.int .i64 r52), (.int .i64 r53)]), (.bool ((r52) != 0)), (.agg [(.int .i64 r10), (.int .i64 r11)]), (.agg [(.int .i64 r16), (.int .i64 r17)]), (.int .i64 r8), (.int .i64 r9), (.int .i64 r15), .undef, (.int .i64 r66), (.int .i64 r65), .undef, .undef, .undef, .undef, .undef, .undef, .undef, .undef, .undef, .undef, (.agg [(.int .i64 r22), (.int .i64 r23)]), (.int .i64 r21), .undef, .undef, .undef, .undef] H67 (by kernel_rfl) ?_
        refine then_norm ?_
        refine w_seq ?_
        refine w_run [0, 0, 0, 0, 0, 0, 0, 0, 0, 0, 0, 0, 0, 0, 0] ?_
        refine t_done [(.agg [(.int .i64 base0), (.int .i64 base1)]), (.agg [(.int .i64 other2), (.int .i64 other3)]), (.int .i64 need4), (.int .i64 perMille5), d28, (.agg [(.int .i64 base0), (.int .i64 base1)]), (.agg [(.int .i64 other2), (.int .i64 other3)]), d29, (.agg [(.int .i64 r52), (.int .i64 r53)]), (.bool ((r52) != 0)), (.agg [(.int .i64 r10), (.int .i64 r11)]), (.agg [(.int .i64 r16), (.int .i64 r17)]), (.int .i64 r8), (.int .i64 r9), (.int .i64 r15), .undef, (.int .i64 r66), (.int .i64 r65), (.bool ((((r10) != 0) || ((r8) != (IntKind.wrap .i64 (r66 - r65)))) || ((r9) != r66))), .undef, .undef, .undef, .undef, .undef, .undef, .undef, .undef, .undef, (.agg [(.int .i64 r22), (.int .i64 r23)]), (.int .i64 r21), .undef, .undef, .undef, .undef] H67 (by kernel_rfl) ?_
        refine then_norm ?_
        refine w_cond (t := ((((r10) != 0) || ((r8) != (IntKind.wrap .i64 (r66 - r65)))) || ((r9) != r66))) rfl (fun hc => ?_) (fun hc => ?_)
        · replace h := h.1 ((is_or (is_or is_ne is_ne) is_ne).t hc)
          refine w_seq ?_
          refine w_run [0] ?_
          refine t_done [(.agg [(.int .i64 base0), (.int .i64 base1)]), (.agg [(.int .i64 other2), (.int .i64 other3)]), (.int .i64 need4), (.int .i64 perMille5), (.bool false), (.agg [(.int .i64 base0), (.int .i64 base1)]), (.agg [(.int .i64 other2), (.int .i64 other3)]), d29, (.agg [(.int .i64 r52), (.int .i64 r53)]), (.bool ((r52) != 0)), (.agg [(.int .i64 r10), (.int .i64 r11)]), (.agg [(.int .i64 r16), (.int .i64 r17)]), (.int .i64 r8), (.int .i64 r9), (.int .i64 r15), .undef, (.int .i64 r66), (.int .i64 r65), (.bool ((((r10) != 0) || ((r8) != (IntKind.wrap .i64 (r66 - r65)))) || ((r9) != r66))), .undef, .undef, .undef, .undef, .undef, .undef, .undef, .undef, .undef, (.agg [(.int .i64 r22), (.int .i64 r23)]), (.int .i64 r21), .undef, .undef, .undef, .undef] H67 (by kernel_rfl) ?_
          refine then_norm ?_
          refine w_ret ?_
          refine join_ret ?_
          refine then_ret ?_
          exact body_ret (vs := [(.bool false)]) _ (by kernel_rfl) rfl h
        · replace h := h.2 ((is_or (is_or is_ne is_ne) is_ne).f hc)
          refine w_skip ?_
          refine join_norm ⟨_, _, _, _, _, _, rfl, h⟩
    · clear h
      rintro EI H64 ⟨d58, d59, d60, d61, d62, d63, rfl, hJ⟩
      have h := hK H64 hJ
      clear hJ hK
      refine then_norm ?_
      refine w_seq ?_
      refine w_run [0, 0, 0, 0, 0, 0, 0, 0, 0, 0, 0, 0, 0, 0, 0] ?_
      refine t_done [(.agg [(.int .i64 base0), (.int .i64 base1)]), (.agg [(.int .i64 other2), (.int .i64 other3)]), (.int .i64 need4), (.int .i64 perMille5), d58, (.agg [(.int .i64 base0), (.int .i64 base1)]), (.agg [(.int .i64 other2), (.int .i64 other3)]), d29, (.agg [(.int .i64 r52), (.int .i64 r53)]), d59, (.agg [(.int .i64 r10), (.int .i64 r11)]), (.agg [(.int .i64 r16), (.int .i64 r17)]), (.int .i64 r8), (.int .i64 r9), (.int .i64 r15), d60, d61, d62, d63, (.bool ((((decide (need4 ≥ 0)) && (decide (need4 ≤ 25))) && (decide (perMille5 ≥ 0))) && (decide (perMille5 < 1000)))), .undef, .undef, .undef, .undef, .undef, .undef, .undef, .undef, (.agg [(.int .i64 r22), (.int .i64 r23)]), (.int .i64 r21), .undef, .undef, .undef, .undef] H64 (by kernel_rfl) ?_
      refine then_norm ?_
      refine w_seq ?_
      obtain ⟨R69, h, hK⟩ := h
      refine w_join (fun EI HI => ∃ (d70 : AV) (d71 : AV) (d72 : AV), EI = [(.agg [(.int .i64 base0), (.int .i64 base1)]), (.agg [(.int .i64 other2), (.int .i64 other3)]), (.int .i64 need4), (.int .i64 perMille5), d70, (.agg [(.int .i64 base0), (.int .i64 base1)]), (.agg [(.int .i64 other2), (.int .i64 other3)]), d29, (.agg [(.int .i64 r52), (.int .i64 r53)]), d59, (.agg [(.int .i64 r10), (.int .i64 r11)]), (.agg [(.int .i64 r16), (.int .i64 r17)]), (.int .i64 r8), (.int .i64 r9), (.int .i64 r15), d60, d61, d62, d63, (.bool ((((decide (need4 ≥ 0)) && (decide (need4 ≤ 25))) && (decide (perMille5 ≥ 0))) && (decide (perMille5 < 1000)))), d71, d72, .undef, .undef, .undef, .undef, .undef, .undef, (.agg [(.int .i64 r22), (.int .i64 r23)]), (.int .i64 r21), .undef, .undef, .undef, .undef] ∧ R69  HI) ?_ ?_
      · clear hK
        refine w_seq ?_
        refine w_run [0, 0, 0, 0, 0, 0, 0] ?_
        refine t_done [(.agg [(.int .i64 base0), (.int .i64 base1)]), (.agg [(.int .i64 other2), (.int .i64 other3)]), (.int .i64 need4), (.int .i64 perMille5), d58, (.agg [(.int .i64 base0), (.int .i64 base1)]), (.agg [(.int .i64 other2), (.int .i64 other3)]), d29, (.agg [(.int .i64 r52), (.int .i64 r53)]), d59, (.agg [(.int .i64 r10), (.int .i64 r11)]), (.agg [(.int .i64 r16), (.int .i64 r17)]), (.int .i64 r8), (.int .i64 r9), (.int .i64 r15), d60, d61, d62, d63, (.bool ((((decide (need4 ≥ 0)) && (decide (need4 ≤ 25))) && (decide (perMille5 ≥ 0))) && (decide (perMille5 < 1000)))), (.bool (((r52) == 0) && (!((((decide (need4 ≥ 0)) && (decide (need4 ≤ 25))) && (decide (perMille5 ≥ 0))) && (decide (perMille5 < 1000)))))), .undef, .undef, .undef, .undef, .undef, .undef, .undef, (.agg [(.int .i64 r22), (.int .i64 r23)]), (.int .i64 r21), .undef, .undef, .undef, .undef] H64 (by kernel_rfl) ?_
        refine then_norm ?_
        refine w_cond (t := (((r52) == 0) && (!((((decide (need4 ≥ 0)) && (decide (need4 ≤ 25))) && (decide (perMille5 ≥ 0))) && (decide (perMille5 < 1000)))))) rfl (fun hc => ?_) (fun hc => ?_)
        · replace h := h.1 ((is_and is_eq (is_not (is_and (is_and (is_and is_dec is_dec) is_dec) is_dec))).t hc)
          refine w_seq ?_
          refine w_run [0, 1, 0, 0, 0, 0, 0] ?_
          refine t_call false nFFault [(.int .i64 3), (.int .i64 (-3))] H64 (by kernel_rfl) h ?_
          clear h
          rintro _ H76 ⟨r74, r75, rfl, h⟩
          refine t_done [(.agg [(.int .i64 base0), (.int .i64 base1)]), (.agg [(.int .i64 other2), (.int .i64 other3)]), (.int .i64 need4), (.int .i64 perMille5), d58, (.agg [(.int .i64 base0), (.int .i64 base1)]), (.agg [(.int .i64 other2), (.int .i64 other3)]), d29, (.agg [(.int .i64 r52), (.int .i64 r53)]), d59, (.agg [(.int .i64 r10), (.int .i64 r11)]), (.agg [(.int .i64 r16), (.int .i64 r17)]), (.int .i64 r8), (.int .i64 r9), (.int .i64 r15), d60, d61, d62, d63, (.bool ((((decide (need4 ≥ 0)) && (decide (need4 ≤ 25))) && (decide (perMille5 ≥ 0))) && (decide (perMille5 < 1000)))), (.bool (((r52) == 0) && (!((((decide (need4 ≥ 0)) && (decide (need4 ≤ 25))) && (decide (perMille5 ≥ 0))) && (decide (perMille5 < 1000)))))), (.bool ((!(((r16) == r74) && (((r17) == r75) && true))) || ((r15) != 0))), .undef, .undef, .undef, .undef, .undef, .undef, (.agg [(.int .i64 r22), (.int .i64 r23)]), (.int .i64 r21), .undef, .undef, .undef, .undef] H76 (by kernel_rfl) ?_
          refine then_norm ?_
          refine w_cond (t := ((!(((r16) == r74) && (((r17) == r75) && true))) || ((r15) != 0))) rfl (fun hc => ?_) (fun hc => ?_)
          · replace h := h.1 ((is_or (is_not (is_and is_eq (is_and is_eq is_true))) is_ne).t hc)
            refine w_seq ?_
            refine w_run [0] ?_
            refine t_done [(.agg [(.int .i64 base0), (.int .i64 base1)]), (.agg [(.int .i64 other2), (.int .i64 other3)]), (.int .i64 need4), (.int .i64 perMille5), (.bool false), (.agg [(.int .i64 base0), (.int .i64 base1)]), (.agg [(.int .i64 other2), (.int .i64 other3)]), d29, (.agg [(.int .i64 r52), (.int .i64 r53)]), d59, (.agg [(.int .i64 r10), (.int .i64 r11)]), (.agg [(.int .i64 r16), (.int .i64 r17)]), (.int .i64 r8), (.int .i64 r9), (.int .i64 r15), d60, d61, d62, d63, (.bool ((((decide (need4 ≥ 0)) && (decide (need4 ≤ 25))) && (decide (perMille5 ≥ 0))) && (decide (perMille5 < 1000)))), (.bool (((r52) == 0) && (!((((decide (need4 ≥ 0)) && (decide (need4 ≤ 25))) && (decide (perMille5 ≥ 0))) && (decide (perMille5 < 1000)))))), (.bool ((!(((r16) == r74) && (((r17) == r75) && true))) || ((r15) != 0))), .undef, .undef, .undef, .undef, .undef, .undef, (.agg [(.int .i64 r22), (.int .i64 r23)]), (.int .i64 r21), .undef, .undef, .undef, .undef] H76 (by kernel_rfl) ?_
            refine then_norm ?_
            refine w_ret ?_
            refine join_ret ?_
            refine then_ret ?_
            exact body_ret (vs := [(.bool false)]) _ (by kernel_rfl) rfl h
          · replace h := h.2 ((is_or (is_not (is_and is_eq (is_and is_eq is_true))) is_ne).f hc)
            refine w_skip ?_
            refine join_norm ⟨_, _, _, rfl, h⟩
        · replace h := h.2 ((is_and is_eq (is_not (is_and (is_and (is_and is_dec is_dec) is_dec) is_dec))).f hc)
          refine w_skip ?_
          refine join_norm ⟨_, _, _, rfl, h⟩
      · clear h
        rintro EI H73 ⟨d70, d71, d72, rfl, hJ⟩
        have h := hK H73 hJ
        clear hJ hK
        refine then_norm ?_
        refine w_seq ?_
        obtain ⟨R78, h, hK⟩ := h
        refine w_join (fun EI HI => ∃ (d79 : AV) (d80 : AV), EI = [(.agg [(.int .i64 base0), (.int .i64 base1)]), (.agg [(.int .i64 other2), (.int .i64 other3)]), (.int .i64 need4), (.int .i64 perMille5), d79, (.agg [(.int .i64 base0), (.int .i64 base1)]), (.agg [(.int .i64 other2), (.int .i64 other3)]), d29, (.agg [(.int .i64 r52), (.int .i64 r53)]), d59, (.agg [(.int .i64 r10), (.int .i64 r11)]), (.agg [(.int .i64 r16), (.int .i64 r17)]), (.int .i64 r8), (.int .i64 r9), (.int .i64 r15), d60, d61, d62, d63, (.bool ((((decide (need4 ≥ 0)) && (decide (need4 ≤ 25))) && (decide (perMille5 ≥ 0))) && (decide (perMille5 < 1000)))), d71, d72, d80, .undef, .undef, .undef, .undef, .undef, (.agg [(.int .i64 r22), (.int .i64 r23)]), (.int .i64 r21), .undef, .undef, .undef, .undef] ∧ R78  HI) ?_ ?_
        · clear hK
          refine w_seq ?_
          refine w_run [0, 0, 0, 0, 2, 0, 0, 2, 2, 2, 2, 2, 2, 2, 2, 2, 3, 2, 2, 0] ?_
          refine t_gd ((r52) == 0) true (by kernel_rfl) (fun hc => ?_) (fun hc => ?_)
          · replace h := h.1 (is_eq.t hc)
            refine t_gd ((((decide (need4 ≥ 0)) && (decide (need4 ≤ 25))) && (decide (perMille5 ≥ 0))) && (decide (perMille5 < 1000))) true (by kernel_rfl) (fun hc => ?_) (fun hc => ?_)
            · replace h := h.1 ((is_and (is_and (is_and is_dec is_dec) is_dec) is_dec).t hc)
              refine t_gd true true (by kernel_rfl) (fun _ => ?_) (fun hn => by cases hn)
              refine t_gd true true (by kernel_rfl) (fun _ => ?_) (fun hn => by cases hn)
              refine t_gd true true (by kernel_rfl) (fun _ => ?_) (fun hn => by cases hn)
              refine t_gd ((r16) != 0) false (by kernel_rfl) (fun hc => ?_) (fun hc => ?_)
              · replace h := h.2 (is_ne.f hc)
                refine t_gd false false (by kernel_rfl) (fun _ => ?_) (fun hn => by cases hn)
                refine t_gd false false (by kernel_rfl) (fun _ => ?_) (fun hn => by cases hn)
                refine t_gd false false (by kernel_rfl) (fun _ => ?_) (fun hn => by cases hn)
                refine t_gd false false (by kernel_rfl) (fun _ => ?_) (fun hn => by cases hn)
                refine t_gd false false (by kernel_rfl) (fun _ => ?_) (fun hn => by cases hn)
                refine t_call true nFVerdict [(.agg [(.int .i64 base0), (.int .i64 base1)]), (.agg [(.int .i64 other2), (.int .i64 other3)]), (.int .i64 need4), (.int .i64 perMille5)] H73 (by kernel_rfl) h ?_
                clear h
                rintro _ H83 ⟨r82, rfl, h⟩
                refine t_gd false false (by kernel_rfl) (fun _ => ?_) (fun hn => by cases hn)
                refine t_gd true true (by kernel_rfl) (fun _ => ?_) (fun hn => by cases hn)
                refine t_done [(.agg [(.int .i64 base0), (.int .i64 base1)]), (.agg [(.int .i64 other2), (.int .i64 other3)]), (.int .i64 need4), (.int .i64 perMille5), d70, (.agg [(.int .i64 base0), (.int .i64 base1)]), (.agg [(.int .i64 other2), (.int .i64 other3)]), d29, (.agg [(.int .i64 r52), (.int .i64 r53)]), d59, (.agg [(.int .i64 r10), (.int .i64 r11)]), (.agg [(.int .i64 r16), (.int .i64 r17)]), (.int .i64 r8), (.int .i64 r9), (.int .i64 r15), d60, d61, d62, d63, (.bool ((((decide (need4 ≥ 0)) && (decide (need4 ≤ 25))) && (decide (perMille5 ≥ 0))) && (decide (perMille5 < 1000)))), d71, d72, (.bool ((r15) != r82)), .undef, .undef, .undef, .undef, .undef, (.agg [(.int .i64 r22), (.int .i64 r23)]), (.int .i64 r21), .undef, .undef, .undef, .undef] H83 (by kernel_rfl) ?_
                refine then_norm ?_
                refine w_cond (t := ((r15) != r82)) rfl (fun hc => ?_) (fun hc => ?_)
                · replace h := h.1 (is_ne.t hc)
                  refine w_seq ?_
                  refine w_run [0] ?_
                  refine t_done [(.agg [(.int .i64 base0), (.int .i64 base1)]), (.agg [(.int .i64 other2), (.int .i64 other3)]), (.int .i64 need4), (.int .i64 perMille5), (.bool false), (.agg [(.int .i64 base0), (.int .i64 base1)]), (.agg [(.int .i64 other2), (.int .i64 other3)]), d29, (.agg [(.int .i64 r52), (.int .i64 r53)]), d59, (.agg [(.int .i64 r10), (.int .i64 r11)]), (.agg [(.int .i64 r16), (.int .i64 r17)]), (.int .i64 r8), (.int .i64 r9), (.int .i64 r15), d60, d61, d62, d63, (.bool ((((decide (need4 ≥ 0)) && (decide (need4 ≤ 25))) && (decide (perMille5 ≥ 0))) && (decide (perMille5 < 1000)))), d71, d72, (.bool ((r15) != r82)), .undef, .undef, .undef, .undef, .undef, (.agg [(.int .i64 r22), (.int .i64 r23)]), (.int .i64 r21), .undef, .undef, .undef, .undef] H83 (by kernel_rfl) ?_
                  refine then_norm ?_
                  refine w_ret ?_
                  refine join_ret ?_
                  refine then_ret ?_
                  exact body_ret (vs := [(.bool false)]) _ (by kernel_rfl) rfl h
                · replace h := h.2 (is_ne.f hc)
                  refine w_skip ?_
                  refine join_norm ⟨_, _, rfl, h⟩
              · replace h := h.1 (is_ne.t hc)
                refine t_gd true false (by kernel_rfl) (fun hn => by cases hn) (fun _ => ?_)
                refine t_gd true false (by kernel_rfl) (fun hn => by cases hn) (fun _ => ?_)
                refine t_gd true false (by kernel_rfl) (fun hn => by cases hn) (fun _ => ?_)
                refine t_gd true false (by kernel_rfl) (fun hn => by cases hn) (fun _ => ?_)
                refine t_gd true false (by kernel_rfl) (fun hn => by cases hn) (fun _ => ?_)
                refine t_gd true false (by kernel_rfl) (fun hn => by cases hn) (fun _ => ?_)
                refine t_gd true true (by kernel_rfl) (fun _ => ?_) (fun hn => by cases hn)
                refine t_done [(.agg [(.int .i64 base0), (.int .i64 base1)]), (.agg [(.int .i64 other2), (.int .i64 other3)]), (.int .i64 need4), (.int .i64 perMille5), d70, (.agg [(.int .i64 base0), (.int .i64 base1)]), (.agg [(.int .i64 other2), (.int .i64 other3)]), d29, (.agg [(.int .i64 r52), (.int .i64 r53)]), d59, (.agg [(.int .i64 r10), (.int .i64 r11)]), (.agg [(.int .i64 r16), (.int .i64 r17)]), (.int .i64 r8), (.int .i64 r9), (.int .i64 r15), d60, d61, d62, d63, (.bool ((((decide (need4 ≥ 0)) && (decide (need4 ≤ 25))) && (decide (perMille5 ≥ 0))) && (decide (perMille5 < 1000)))), d71, d72, (.bool true), .undef, .undef, .undef, .undef, .undef, (.agg [(.int .i64 r22), (.int .i64 r23)]), (.int .i64 r21), .undef, .undef, .undef, .undef] H73 (by kernel_rfl) ?_
                refine then_norm ?_
                refine w_cond (t := true) rfl (fun _ => ?_) (fun hc => by cases hc)
                refine w_seq ?_
                refine w_run [0] ?_
                refine t_done [(.agg [(.int .i64 base0), (.int .i64 base1)]), (.agg [(.int .i64 other2), (.int .i64 other3)]), (.int .i64 need4), (.int .i64 perMille5), (.bool false), (.agg [(.int .i64 base0), (.int .i64 base1)]), (.agg [(.int .i64 other2), (.int .i64 other3)]), d29, (.agg [(.int .i64 r52), (.int .i64 r53)]), d59, (.agg [(.int .i64 r10), (.int .i64 r11)]), (.agg [(.int .i64 r16), (.int .i64 r17)]), (.int .i64 r8), (.int .i64 r9), (.int .i64 r15), d60, d61, d62, d63, (.bool ((((decide (need4 ≥ 0)) && (decide (need4 ≤ 25))) && (decide (perMille5 ≥ 0))) && (decide (perMille5 < 1000)))), d71, d72, (.bool true), .undef, .undef, .undef, .undef, .undef, (.agg [(.int .i64 r22), (.int .i64 r23)]), (.int .i64 r21), .undef, .undef, .undef, .undef] H73 (by kernel_rfl) ?_
                refine then_norm ?_
                refine w_ret ?_
                refine join_ret ?_
                refine then_ret ?_
                exact body_ret (vs := [(.bool false)]) _ (by kernel_rfl) rfl h
            · replace h := h.2 ((is_and (is_and (is_and is_dec is_dec) is_dec) is_dec).f hc)
              refine t_gd false true (by kernel_rfl) (fun hn => by cases hn) (fun _ => ?_)
              refine t_gd false true (by kernel_rfl) (fun hn => by cases hn) (fun _ => ?_)
              refine t_gd false true (by kernel_rfl) (fun hn => by cases hn) (fun _ => ?_)
              refine t_gdU false (by kernel_rfl) ?_
              refine t_gdU false (by kernel_rfl) ?_
              refine t_gdU false (by kernel_rfl) ?_
              refine t_gdU false (by kernel_rfl) ?_
              refine t_gdU false (by kernel_rfl) ?_
              refine t_gdU false (by kernel_rfl) ?_
              refine t_gdU false (by kernel_rfl) ?_
              refine t_gd false true (by kernel_rfl) (fun hn => by cases hn) (fun _ => ?_)
              refine t_done [(.agg [(.int .i64 base0), (.int .i64 base1)]), (.agg [(.int .i64 other2), (.int .i64 other3)]), (.int .i64 need4), (.int .i64 perMille5), d70, (.agg [(.int .i64 base0), (.int .i64 base1)]), (.agg [(.int .i64 other2), (.int .i64 other3)]), d29, (.agg [(.int .i64 r52), (.int .i64 r53)]), d59, (.agg [(.int .i64 r10), (.int .i64 r11)]), (.agg [(.int .i64 r16), (.int .i64 r17)]), (.int .i64 r8), (.int .i64 r9), (.int .i64 r15), d60, d61, d62, d63, (.bool ((((decide (need4 ≥ 0)) && (decide (need4 ≤ 25))) && (decide (perMille5 ≥ 0))) && (decide (perMille5 < 1000)))), d71, d72, (.bool false), .undef, .undef, .undef, .undef, .undef, (.agg [(.int .i64 r22), (.int .i64 r23)]), (.int .i64 r21), .undef, .undef, .undef, .undef] H73 (by kernel_rfl) ?_
              refine then_norm ?_
              refine w_cond (t := false) rfl (fun hc => by cases hc) (fun _ => ?_)
              refine w_skip ?_
              refine join_norm ⟨_, _, rfl, h⟩
          · replace h := h.2 (is_eq.f hc)
            refine t_gd false true (by kernel_rfl) (fun hn => by cases hn) (fun _ => ?_)
            refine t_gd false true (by kernel_rfl) (fun hn => by cases hn) (fun _ => ?_)
            refine t_gd false true (by kernel_rfl) (fun hn => by cases hn) (fun _ => ?_)
            refine t_gd false true (by kernel_rfl) (fun hn => by cases hn) (fun _ => ?_)
            refine t_gdU false (by kernel_rfl) ?_
            refine t_gdU false (by kernel_rfl) ?_
            refine t_gdU false (by kernel_rfl) ?_
            refine t_gdU false (by kernel_rfl) ?_
            refine t_gdU false (by kernel_rfl) ?_
            refine t_gdU false (by kernel_rfl) ?_
            refine t_gdU false (by kernel_rfl) ?_
            refine t_gd false true (by kernel_rfl) (fun hn => by cases hn) (fun _ => ?_)
            refine t_done [(.agg [(.int .i64 base0), (.int .i64 base1)]), (.agg [(.int .i64 other2), (.int .i64 other3)]), (.int .i64 need4), (.int .i64 perMille5), d70, (.agg [(.int .i64 base0), (.int .i64 base1)]), (.agg [(.int .i64 other2), (.int .i64 other3)]), d29, (.agg [(.int .i64 r52), (.int .i64 r53)]), d59, (.agg [(.int .i64 r10), (.int .i64 r11)]), (.agg [(.int .i64 r16), (.int .i64 r17)]), (.int .i64 r8), (.int .i64 r9), (.int .i64 r15), d60, d61, d62, d63, (.bool ((((decide (need4 ≥ 0)) && (decide (need4 ≤ 25))) && (decide (perMille5 ≥ 0))) && (decide (perMille5 < 1000)))), d71, d72, (.bool false), .undef, .undef, .undef, .undef, .undef, (.agg [(.int .i64 r22), (.int .i64 r23)]), (.int .i64 r21), .undef, .undef, .undef, .undef] H73 (by kernel_rfl) ?_
            refine then_norm ?_
            refine w_cond (t := false) rfl (fun hc => by cases hc) (fun _ => ?_)
            refine w_skip ?_
            refine join_norm ⟨_, _, rfl, h⟩
        · clear h
          rintro EI H81 ⟨d79, d80, rfl, hJ⟩
          have h := hK H81 hJ
          clear hJ hK
          refine then_norm ?_
          refine w_seq ?_
          refine w_run [1, 1, 1] ?_
          refine t_build true [(.int .i64 0), (.int .i64 0)] [] [] [(.int .i64 0), (.int .i64 0)] H81 (by kernel_rfl) (by kernel_rfl) ?_
          obtain ⟨H85, hb⟩ : ∃ H', Dead1 H81 1 H' := ⟨_, ⟨rfl⟩⟩
          replace h := h H85 hb
          refine t_tomb true 1 (.agg [(.int .i64 0), (.int .i64 0)]) [(.int .i64 0), (.int .i64 0)] H85 H81 (by kernel_rfl) rfl hb ?_
          refine t_upd true 2 0 [(.int .i64 0), (.int .i64 0)] (.agg [(.int .i64 0), (.int .i64 0)]) [(.int .i64 0), (.int .i64 0)] [(.int .i64 0), (.int .i64 0)] H85 (by kernel_rfl) rfl (all_c rfl (all_c rfl all_n)) ⟨rfl, Nat.le_of_ble_eq_true (by kernel_rfl), rfl⟩ ?_
          refine t_done [(.agg [(.int .i64 base0), (.int .i64 base1)]), (.agg [(.int .i64 other2), (.int .i64 other3)]), (.int .i64 need4), (.int .i64 perMille5), d79, (.agg [(.int .i64 base0), (.int .i64 base1)]), (.agg [(.int .i64 other2), (.int .i64 other3)]), d29, (.agg [(.int .i64 r52), (.int .i64 r53)]), d59, (.agg [(.int .i64 r10), (.int .i64 r11)]), (.agg [(.int .i64 r16), (.int .i64 r17)]), (.int .i64 r8), (.int .i64 r9), (.int .i64 r15), d60, d61, d62, d63, (.bool ((((decide (need4 ≥ 0)) && (decide (need4 ≤ 25))) && (decide (perMille5 ≥ 0))) && (decide (perMille5 < 1000)))), d71, d72, d80, .undef, (.agg [(.int .i64 0), (.int .i64 0)]), .undef, .undef, .undef, (.agg [(.int .i64 r22), (.int .i64 r23)]), (.int .i64 r21), .undef, .undef, .undef, .undef] H85 (by kernel_rfl) ?_
          refine then_norm ?_
          refine w_seq ?_
          obtain ⟨R86, h, hK⟩ := h
          refine w_join (fun EI HI => ∃ (d87 : AV) (w88 : Int) (w89 : Int) (d90 : AV) (d91 : AV), EI = [(.agg [(.int .i64 base0), (.int .i64 base1)]), (.agg [(.int .i64 other2), (.int .i64 other3)]), (.int .i64 need4), (.int .i64 perMille5), d79, (.agg [(.int .i64 base0), (.int .i64 base1)]), (.agg [(.int .i64 other2), (.int .i64 other3)]), d29, (.agg [(.int .i64 r52), (.int .i64 r53)]), d59, (.agg [(.int .i64 r10), (.int .i64 r11)]), (.agg [(.int .i64 r16), (.int .i64 r17)]), (.int .i64 r8), (.int .i64 r9), (.int .i64 r15), d60, d61, d62, d63, (.bool ((((decide (need4 ≥ 0)) && (decide (need4 ≤ 25))) && (decide (perMille5 ≥ 0))) && (decide (perMille5 < 1000)))), d71, d72, d80, d87, (.agg [(.int .i64 w88), (.int .i64 w89)]), d90, d91, .undef, (.agg [(.int .i64 r22), (.int .i64 r23)]), (.int .i64 r21), .undef, .undef, .undef, .undef] ∧ R86 w88 w89 HI) ?_ ?_
          · clear hK
            refine w_seq ?_
            refine w_run [0, 1, 0] ?_
            refine t_call true nFCountsValid [(.agg [(.int .i64 base0), (.int .i64 base1)])] H85 (by kernel_rfl) h ?_
            clear h
            rintro _ H94 ⟨r93, rfl, h⟩
            refine t_done [(.agg [(.int .i64 base0), (.int .i64 base1)]), (.agg [(.int .i64 other2), (.int .i64 other3)]), (.int .i64 need4), (.int .i64 perMille5), d79, (.agg [(.int .i64 base0), (.int .i64 base1)]), (.agg [(.int .i64 other2), (.int .i64 other3)]), d29, (.agg [(.int .i64 r52), (.int .i64 r53)]), d59, (.agg [(.int .i64 r10), (.int .i64 r11)]), (.agg [(.int .i64 r16), (.int .i64 r17)]), (.int .i64 r8), (.int .i64 r9), (.int .i64 r15), d60, d61, d62, d63, (.bool ((((decide (need4 ≥ 0)) && (decide (need4 ≤ 25))) && (decide (perMille5 ≥ 0))) && (decide (perMille5 < 1000)))), d71, d72, d80, (.bool (!r93)), (.agg [(.int .i64 0), (.int .i64 0)]), .undef, .undef, .undef, (.agg [(.int .i64 r22), (.int .i64 r23)]), (.int .i64 r21), .undef, .undef, .undef, .undef] H94 (by kernel_rfl) ?_
            refine then_norm ?_
            refine w_cond (t := (!r93)) rfl (fun hc => ?_) (fun hc => ?_)
            · replace h := h.1 ((is_not is_raw).t hc)
              refine w_run [1, 1] ?_
              refine t_call true nFFault [(.int .i64 3), (.int .i64 (-1))] H94 (by kernel_rfl) h ?_
              clear h
              rintro _ H98 ⟨r96, r97, rfl, h⟩
              refine t_upd true 2 0 [(.int .i64 0), (.int .i64 0)] (.agg [(.int .i64 r96), (.int .i64 r97)]) [(.int .i64 r96), (.int .i64 r97)] [(.int .i64 r96), (.int .i64 r97)] H98 (by kernel_rfl) rfl (all_c rfl (all_c rfl all_n)) ⟨rfl, Nat.le_of_ble_eq_true (by kernel_rfl), rfl⟩ ?_
              refine t_done [(.agg [(.int .i64 base0), (.int .i64 base1)]), (.agg [(.int .i64 other2), (.int .i64 other3)]), (.int .i64 need4), (.int .i64 perMille5), d79, (.agg [(.int .i64 base0), (.int .i64 base1)]), (.agg [(.int .i64 other2), (.int .i64 other3)]), d29, (.agg [(.int .i64 r52), (.int .i64 r53)]), d59, (.agg [(.int .i64 r10), (.int .i64 r11)]), (.agg [(.int .i64 r16), (.int .i64 r17)]), (.int .i64 r8), (.int .i64 r9), (.int .i64 r15), d60, d61, d62, d63, (.bool ((((decide (need4 ≥ 0)) && (decide (need4 ≤ 25))) && (decide (perMille5 ≥ 0))) && (decide (perMille5 < 1000)))), d71, d72, d80, (.bool (!r93)), (.agg [(.int .i64 r96), (.int .i64 r97)]), .undef, .undef, .undef, (.agg [(.int .i64 r22), (.int .i64 r23)]), (.int .i64 r21), .undef, .undef, .undef, .undef] H98 (by kernel_rfl) ?_
              refine join_norm ⟨_, _, _, _, _, rfl, h⟩
            · replace h := h.2 ((is_not is_raw).f hc)
              refine w_seq ?_
              refine w_run [0, 0, 0, 0, 0, 0] ?_
              refine t_done [(.agg [(.int .i64 base0), (.int .i64 base1)]), (.agg [(.int .i64 other2), (.int .i64 other3)]), (.int .i64 need4), (.int .i64 perMille5), d79, (.agg [(.int .i64 base0), (.int .i64 base1)]), (.agg [(.int .i64 other2), (.int .i64 other3)]), d29, (.agg [(.int .i64 r52), (.int .i64 r53)]), d59, (.agg [(.int .i64 r10), (.int .i64 r11)]), (.agg [(.int .i64 r16), (.int .i64 r17)]), (.int .i64 r8), (.int .i64 r9), (.int .i64 r15), d60, d61, d62, d63, (.bool ((((decide (need4 ≥ 0)) && (decide (need4 ≤ 25))) && (decide (perMille5 ≥ 0))) && (decide (perMille5 < 1000)))), d71, d72, d80, (.bool (!r93)), (.agg [(.int .i64 0), (.int .i64 0)]), (.bool ((decide (need4 < 0)) || (decide (need4 > 25)))), .undef, .undef, (.agg [(.int .i64 r22), (.int .i64 r23)]), (.int .i64 r21), .undef, .undef, .undef, .undef] H94 (by kernel_rfl) ?_
              refine then_norm ?_
              refine w_cond (t := ((decide (need4 < 0)) || (decide (need4 > 25)))) rfl (fun hc => ?_) (fun hc => ?_)
              · replace h := h.1 ((is_or is_dec is_dec).t hc)
                refine w_run [1, 1] ?_
                refine t_call true nFFault [(.int .i64 3), (.int .i64 (-2))] H94 (by kernel_rfl) h ?_
                clear h
                rintro _ H102 ⟨r100, r101, rfl, h⟩
                refine t_upd true 2 0 [(.int .i64 0), (.int .i64 0)] (.agg [(.int .i64 r100), (.int .i64 r101)]) [(.int .i64 r100), (.int .i64 r101)] [(.int .i64 r100), (.int .i64 r101)] H102 (by kernel_rfl) rfl (all_c rfl (all_c rfl all_n)) ⟨rfl, Nat.le_of_ble_eq_true (by kernel_rfl), rfl⟩ ?_
                refine t_done [(.agg [(.int .i64 base0), (.int .i64 base1)]), (.agg [(.int .i64 other2), (.int .i64 other3)]), (.int .i64 need4), (.int .i64 perMille5), d79, (.agg [(.int .i64 base0), (.int .i64 base1)]), (.agg [(.int .i64 other2), (.int .i64 other3)]), d29, (.agg [(.int .i64 r52), (.int .i64 r53)]), d59, (.agg [(.int .i64 r10), (.int .i64 r11)]), (.agg [(.int .i64 r16), (.int .i64 r17)]), (.int .i64 r8), (.int .i64 r9), (.int .i64 r15), d60, d61, d62, d63, (.bool ((((decide (need4 ≥ 0)) && (decide (need4 ≤ 25))) && (decide (perMille5 ≥ 0))) && (decide (perMille5 < 1000)))), d71, d72, d80, (.bool (!r93)), (.agg [(.int .i64 r100), (.int .i64 r101)]), (.bool ((decide (need4 < 0)) || (decide (need4 > 25)))), .undef, .undef, (.agg [(.int .i64 r22), (.int .i64 r23)]), (.int .i64 r21), .undef, .undef, .undef, .undef] H102 (by kernel_rfl) ?_
                refine join_norm ⟨_, _, _, _, _, rfl, h⟩
              · replace h := h.2 ((is_or is_dec is_dec).f hc)
                refine w_seq ?_
                refine w_run [0, 0] ?_
                refine t_done [(.agg [(.int .i64 base0), (.int .i64 base1)]), (.agg [(.int .i64 other2), (.int .i64 other3)]), (.int .i64 need4), (.int .i64 perMille5), d79, (.agg [(.int .i64 base0), (.int .i64 base1)]), (.agg [(.int .i64 other2), (.int .i64 other3)]), d29, (.agg [(.int .i64 r52), (.int .i64 r53)]), d59, (.agg [(.int .i64 r10), (.int .i64 r11)]), (.agg [(.int .i64 r16), (.int .i64 r17)]), (.int .i64 r8), (.int .i64 r9), (.int .i64 r15), d60, d61, d62, d63, (.bool ((((decide (need4 ≥ 0)) && (decide (need4 ≤ 25))) && (decide (perMille5 ≥ 0))) && (decide (perMille5 < 1000)))), d71, d72, d80, (.bool (!r93)), (.agg [(.int .i64 0), (.int .i64 0)]), (.bool ((decide (need4 < 0)) || (decide (need4 > 25)))), (.bool (!((((decide (need4 ≥ 0)) && (decide (need4 ≤ 25))) && (decide (perMille5 ≥ 0))) && (decide (perMille5 < 1000))))), .undef, (.agg [(.int .i64 r22), (.int .i64 r23)]), (.int .i64 r21), .undef, .undef, .undef, .undef] H94 (by kernel_rfl) ?_
                refine then_norm ?_
                refine w_cond (t := (!((((decide (need4 ≥ 0)) && (decide (need4 ≤ 25))) && (decide (perMille5 ≥ 0))) && (decide (perMille5 < 1000))))) rfl (fun hc => ?_) (fun hc => ?_)
                · replace h := h.1 ((is_not (is_and (is_and (is_and is_dec is_dec) is_dec) is_dec)).t hc)
                  refine w_run [1, 1] ?_
                  refine t_call true nFFault [(.int .i64 3), (.int .i64 (-3))] H94 (by kernel_rfl) h ?_
                  clear h
                  rintro _ H106 ⟨r104, r105, rfl, h⟩
                  refine t_upd true 2 0 [(.int .i64 0), (.int .i64 0)] (.agg [(.int .i64 r104), (.int .i64 r105)]) [(.int .i64 r104), (.int .i64 r105)] [(.int .i64 r104), (.int .i64 r105)] H106 (by kernel_rfl) rfl (all_c rfl (all_c rfl all_n)) ⟨rfl, Nat.le_of_ble_eq_true (by kernel_rfl), rfl⟩ ?_
                  refine t_done [(.agg [(.int .i64 base0), (.int .i64 base1)]), (.agg [(.int .i64 other2), (.int .i64 other3)]), (.int .i64 need4), (.int .i64 perMille5), d79, (.agg [(.int .i64 base0), (.int .i64 base1)]), (.agg [(.int .i64 other2), (.int .i64 other3)]), d29, (.agg [(.int .i64 r52), (.int .i64 r53)]), d59, (.agg [(.int .i64 r10), (.int .i64 r11)]), (.agg [(.int .i64 r16), (.int .i64 r17)]), (.int .i64 r8), (.int .i64 r9), (.int .i64 r15), d60, d61, d62, d63, (.bool ((((decide (need4 ≥ 0)) && (decide (need4 ≤ 25))) && (decide (perMille5 ≥ 0))) && (decide (perMille5 < 1000)))), d71, d72, d80, (.bool (!r93)), (.agg [(.int .i64 r104), (.int .i64 r105)]), (.bool ((decide (need4 < 0)) || (decide (need4 > 25)))), (.bool (!((((decide (need4 ≥ 0)) && (decide (need4 ≤ 25))) && (decide (perMille5 ≥ 0))) && (decide (perMille5 < 1000))))), .undef, (.agg [(.int .i64 r22), (.int .i64 r23)]), (.int .i64 r21), .undef, .undef, .undef, .undef] H106 (by kernel_rfl) ?_
                  refine join_norm ⟨_, _, _, _, _, rfl, h⟩
                · replace h := h.2 ((is_not (is_and (is_and (is_and is_dec is_dec) is_dec) is_dec)).f hc)
                  refine w_skip ?_
                  refine join_norm ⟨_, _, _, _, _, rfl, h⟩
          · clear h
            rintro EI H92 ⟨d87, w88, w89, d90, d91, rfl, hJ⟩
            have h := hK w88 w89 H92 hJ
            clear hJ hK
            refine then_norm ?_
            refine w_seq ?_
            refine w_seq ?_
            refine w_run [0, 0, 0] ?_
            refine t_done [(.agg [(.int .i64 base0), (.int .i64 base1)]), (.agg [(.int .i64 other2), (.int .i64 other3)]), (.int .i64 need4), (.int .i64 perMille5), d79, (.agg [(.int .i64 base0), (.int .i64 base1)]), (.agg [(.int .i64 other2), (.int .i64 other3)]), d29, (.agg [(.int .i64 r52), (.int .i64 r53)]), d59, (.agg [(.int .i64 r10), (.int .i64 r11)]), (.agg [(.int .i64 r16), (.int .i64 r17)]), (.int .i64 r8), (.int .i64 r9), (.int .i64 r15), d60, d61, d62, d63, (.bool ((((decide (need4 ≥ 0)) && (decide (need4 ≤ 25))) && (decide (perMille5 ≥ 0))) && (decide (perMille5 < 1000)))), d71, d72, d80, d87, (.agg [(.int .i64 w88), (.int .i64 w89)]), d90, d91, (.bool ((w88) != 0)), (.agg [(.int .i64 r22), (.int .i64 r23)]), (.int .i64 r21), .undef, .undef, .undef, .undef] H92 (by kernel_rfl) ?_
            refine then_norm ?_
            refine w_cond (t := ((w88) != 0)) rfl (fun hc => ?_) (fun hc => ?_)
            · replace h := h.1 (is_ne.t hc)
              refine w_seq ?_
              refine w_run [0, 0, 0, 0, 0, 0, 0, 0] ?_
              refine t_done [(.agg [(.int .i64 base0), (.int .i64 base1)]), (.agg [(.int .i64 other2), (.int .i64 other3)]), (.int .i64 need4), (.int .i64 perMille5), (.bool ((((r22) == w88) && (((r23) == w89) && true)) && ((r21) == 0))), (.agg [(.int .i64 base0), (.int .i64 base1)]), (.agg [(.int .i64 other2), (.int .i64 other3)]), d29, (.agg [(.int .i64 r52), (.int .i64 r53)]), d59, (.agg [(.int .i64 r10), (.int .i64 r11)]), (.agg [(.int .i64 r16), (.int .i64 r17)]), (.int .i64 r8), (.int .i64 r9), (.int .i64 r15), d60, d61, d62, d63, (.bool ((((decide (need4 ≥ 0)) && (decide (need4 ≤ 25))) && (decide (perMille5 ≥ 0))) && (decide (perMille5 < 1000)))), d71, d72, d80, d87, (.agg [(.int .i64 w88), (.int .i64 w89)]), d90, d91, (.bool ((w88) != 0)), (.agg [(.int .i64 r22), (.int .i64 r23)]), (.int .i64 r21), .undef, .undef, .undef, .undef] H92 (by kernel_rfl) ?_
              refine then_norm ?_
              refine w_ret ?_
              refine then_ret ?_
              exact body_ret (vs := [(.bool ((((r22) == w88) && (((r23) == w89) && true)) && ((r21) == 0)))]) _ (by kernel_rfl) rfl h
            · replace h := h.2 (is_ne.f hc)
              refine w_skip ?_
              refine then_norm ?_
              refine w_seq ?_
              refine w_seq ?_
              refine w_run [0, 0, 0, 0, 0, 0, 0, 0, 0, 0, 0, 0, 0, 0, 0, 0, 0, 0, 1, 0, 3, 2, 0] ?_
              refine t_build true [(.int .i64 0), (.int .i64 0)] [(0, 1, .loc 0), (1, 1, .loc 1)] [(.int .i64 (IntKind.wrap .i64 (need4 - r21))), (.int .i64 r21)] [(.int .i64 (IntKind.wrap .i64 (need4 - r21))), (.int .i64 r21)] H92 (by kernel_rfl) (fill_c (vs := [(.int .i64 (IntKind.wrap .i64 (need4 - r21)))]) (size := 1) rfl (by kernel_rfl) (by kernel_rfl) (fill_c (vs := [(.int .i64 r21)]) (size := 1) rfl (by kernel_rfl) (by kernel_rfl) (by kernel_rfl))) ?_
              refine t_gd ((((r22) != 0) || (decide (r21 < 0))) || (decide (r21 > need4))) false (by kernel_rfl) (fun hc => ?_) (fun hc => ?_)
              · replace h := h.2 ((is_or (is_or is_ne is_dec) is_dec).f hc)
                refine t_call true nFVerdict [(.agg [(.int .i64 base0), (.int .i64 base1)]), (.agg [(.int .i64 (IntKind.wrap .i64 (need4 - r21))), (.int .i64 r21)]), (.int .i64 0), (.int .i64 perMille5)] H92 (by kernel_rfl) h ?_
                clear h
                rintro _ H109 ⟨r108, rfl, h⟩
                refine t_gd false false (by kernel_rfl) (fun _ => ?_) (fun hn => by cases hn)
                refine t_done [(.agg [(.int .i64 base0), (.int .i64 base1)]), (.agg [(.int .i64 other2), (.int .i64 other3)]), (.int .i64 need4), (.int .i64 perMille5), d79, (.agg [(.int .i64 base0), (.int .i64 base1)]), (.agg [(.int .i64 other2), (.int .i64 other3)]), d29, (.agg [(.int .i64 r52), (.int .i64 r53)]), d59, (.agg [(.int .i64 r10), (.int .i64 r11)]), (.agg [(.int .i64 r16), (.int .i64 r17)]), (.int .i64 r8), (.int .i64 r9), (.int .i64 r15), d60, d61, d62, d63, (.bool ((((decide (need4 ≥ 0)) && (decide (need4 ≤ 25))) && (decide (perMille5 ≥ 0))) && (decide (perMille5 < 1000)))), d71, d72, d80, d87, (.agg [(.int .i64 w88), (.int .i64 w89)]), d90, d91, (.bool ((w88) != 0)), (.agg [(.int .i64 r22), (.int .i64 r23)]), (.int .i64 r21), (.bool ((r108) == 3)), .undef, .undef, .undef] H109 (by kernel_rfl) ?_
                refine then_norm ?_
                refine w_cond (t := ((r108) == 3)) rfl (fun hc => ?_) (fun hc => ?_)
                · replace h := h.1 (is_eq.t hc)
                  refine w_seq ?_
                  refine w_run [0] ?_
                  refine t_done [(.agg [(.int .i64 base0), (.int .i64 base1)]), (.agg [(.int .i64 other2), (.int .i64 other3)]), (.int .i64 need4), (.int .i64 perMille5), (.bool false), (.agg [(.int .i64 base0), (.int .i64 base1)]), (.agg [(.int .i64 other2), (.int .i64 other3)]), d29, (.agg [(.int .i64 r52), (.int .i64 r53)]), d59, (.agg [(.int .i64 r10), (.int .i64 r11)]), (.agg [(.int .i64 r16), (.int .i64 r17)]), (.int .i64 r8), (.int .i64 r9), (.int .i64 r15), d60, d61, d62, d63, (.bool ((((decide (need4 ≥ 0)) && (decide (need4 ≤ 25))) && (decide (perMille5 ≥ 0))) && (decide (perMille5 < 1000)))), d71, d72, d80, d87, (.agg [(.int .i64 w88), (.int .i64 w89)]), d90, d91, (.bool ((w88) != 0)), (.agg [(.int .i64 r22), (.int .i64 r23)]), (.int .i64 r21), (.bool ((r108) == 3)), .undef, .undef, .undef] H109 (by kernel_rfl) ?_
                  refine then_norm ?_
                  refine w_ret ?_
                  refine then_ret ?_
                  exact body_ret (vs := [(.bool false)]) _ (by kernel_rfl) rfl h
                · replace h := h.2 (is_eq.f hc)
                  refine w_skip ?_
                  refine then_norm ?_
                  refine w_seq ?_
                  refine w_seq ?_
                  refine w_run [0, 0, 0] ?_
                  refine t_done [(.agg [(.int .i64 base0), (.int .i64 base1)]), (.agg [(.int .i64 other2), (.int .i64 other3)]), (.int .i64 need4), (.int .i64 perMille5), d79, (.agg [(.int .i64 base0), (.int .i64 base1)]), (.agg [(.int .i64 other2), (.int .i64 other3)]), d29, (.agg [(.int .i64 r52), (.int .i64 r53)]), d59, (.agg [(.int .i64 r10), (.int .i64 r11)]), (.agg [(.int .i64 r16), (.int .i64 r17)]), (.int .i64 r8), (.int .i64 r9), (.int .i64 r15), d60, d61, d62, d63, (.bool ((((decide (need4 ≥ 0)) && (decide (need4 ≤ 25))) && (decide (perMille5 ≥ 0))) && (decide (perMille5 < 1000)))), d71, d72, d80, d87, (.agg [(.int .i64 w88), (.int .i64 w89)]), d90, d91, (.bool ((w88) != 0)), (.agg [(.int .i64 r22), (.int .i64 r23)]), (.int .i64 r21), (.bool ((r108) == 3)), (.int .i64 (IntKind.wrap .i64 (r21 + 1))), .undef, .undef] H109 (by kernel_rfl) ?_
                  refine then_norm ?_
                  refine w_block ?_
                  obtain ⟨J111, k112, h0, h⟩ := h
                  refine w_loop (I := fun mI EI HI => ∃ (d114 : AV) (k115 : Int) (d116 : AV) (d117 : AV), EI = [(.agg [(.int .i64 base0), (.int .i64 base1)]), (.agg [(.int .i64 other2), (.int .i64 other3)]), (.int .i64 need4), (.int .i64 perMille5), d114, (.agg [(.int .i64 base0), (.int .i64 base1)]), (.agg [(.int .i64 other2), (.int .i64 other3)]), d29, (.agg [(.int .i64 r52), (.int .i64 r53)]), d59, (.agg [(.int .i64 r10), (.int .i64 r11)]), (.agg [(.int .i64 r16), (.int .i64 r17)]), (.int .i64 r8), (.int .i64 r9), (.int .i64 r15), d60, d61, d62, d63, (.bool ((((decide (need4 ≥ 0)) && (decide (need4 ≤ 25))) && (decide (perMille5 ≥ 0))) && (decide (perMille5 < 1000)))), d71, d72, d80, d87, (.agg [(.int .i64 w88), (.int .i64 w89)]), d90, d91, (.bool ((w88) != 0)), (.agg [(.int .i64 r22), (.int .i64 r23)]), (.int .i64 r21), (.bool ((r108) == 3)), (.int .i64 k115), d116, d117] ∧ J111 mI k115 HI) ?_ k112 ⟨_, _, _, _, rfl, h0⟩
                  clear h0
                  rintro m113 EI H118 ⟨d114, k115, d116, d117, rfl, hJ⟩
                  replace h := h m113 k115 H118 hJ
                  clear hJ
                  refine w_seq ?_
                  refine w_seq ?_
                  refine w_run [0, 0, 0] ?_
                  refine t_done [(.agg [(.int .i64 base0), (.int .i64 base1)]), (.agg [(.int .i64 other2), (.int .i64 other3)]), (.int .i64 need4), (.int .i64 perMille5), d114, (.agg [(.int .i64 base0), (.int .i64 base1)]), (.agg [(.int .i64 other2), (.int .i64 other3)]), d29, (.agg [(.int .i64 r52), (.int .i64 r53)]), d59, (.agg [(.int .i64 r10), (.int .i64 r11)]), (.agg [(.int .i64 r16), (.int .i64 r17)]), (.int .i64 r8), (.int .i64 r9), (.int .i64 r15), d60, d61, d62, d63, (.bool ((((decide (need4 ≥ 0)) && (decide (need4 ≤ 25))) && (decide (perMille5 ≥ 0))) && (decide (perMille5 < 1000)))), d71, d72, d80, d87, (.agg [(.int .i64 w88), (.int .i64 w89)]), d90, d91, (.bool ((w88) != 0)), (.agg [(.int .i64 r22), (.int .i64 r23)]), (.int .i64 r21), (.bool ((r108) == 3)), (.int .i64 k115), (.bool (decide (k115 ≤ need4))), d117] H118 (by kernel_rfl) ?_
                  refine then_norm ?_
                  refine w_cond (t := (decide (k115 ≤ need4))) rfl (fun hc => ?_) (fun hc => ?_)
                  · replace h := h.1 (is_dec.t hc)
                    refine w_skip ?_
                    refine then_norm ?_
                    refine w_seq ?_
                    refine w_block ?_
                    refine w_seq ?_
                    refine w_run [0, 0, 0, 0, 0, 1, 0, 1, 0] ?_
                    refine t_build true [(.int .i64 0), (.int .i64 0)] [(0, 1, .loc 0), (1, 1, .loc 1)] [(.int .i64 (IntKind.wrap .i64 (need4 - k115))), (.int .i64 k115)] [(.int .i64 (IntKind.wrap .i64 (need4 - k115))), (.int .i64 k115)] H118 (by kernel_rfl) (fill_c (vs := [(.int .i64 (IntKind.wrap .i64 (need4 - k115)))]) (size := 1) rfl (by kernel_rfl) (by kernel_rfl) (fill_c (vs := [(.int .i64 k115)]) (size := 1) rfl (by kernel_rfl) (by kernel_rfl) (by kernel_rfl))) ?_
                    refine t_call true nFVerdict [(.agg [(.int .i64 base0), (.int .i64 base1)]), (.agg [(.int .i64 (IntKind.wrap .i64 (need4 - k115))), (.int .i64 k115)]), (.int .i64 0), (.int .i64 perMille5)] H118 (by kernel_rfl) h ?_
                    clear h
                    rintro _ H120 ⟨r119, rfl, h⟩
                    refine t_done [(.agg [(.int .i64 base0), (.int .i64 base1)]), (.agg [(.int .i64 other2), (.int .i64 other3)]), (.int .i64 need4), (.int .i64 perMille5), d114, (.agg [(.int .i64 base0), (.int .i64 base1)]), (.agg [(.int .i64 other2), (.int .i64 other3)]), d29, (.agg [(.int .i64 r52), (.int .i64 r53)]), d59, (.agg [(.int .i64 r10), (.int .i64 r11)]), (.agg [(.int .i64 r16), (.int .i64 r17)]), (.int .i64 r8), (.int .i64 r9), (.int .i64 r15), d60, d61, d62, d63, (.bool ((((decide (need4 ≥ 0)) && (decide (need4 ≤ 25))) && (decide (perMille5 ≥ 0))) && (decide (perMille5 < 1000)))), d71, d72, d80, d87, (.agg [(.int .i64 w88), (.int .i64 w89)]), d90, d91, (.bool ((w88) != 0)), (.agg [(.int .i64 r22), (.int .i64 r23)]), (.int .i64 r21), (.bool ((r108) == 3)), (.int .i64 k115), (.bool (decide (k115 ≤ need4))), (.bool ((r119) != 3))] H120 (by kernel_rfl) ?_
                    refine then_norm ?_
                    refine w_cond (t := ((r119) != 3)) rfl (fun hc => ?_) (fun hc => ?_)
                    · replace h := h.1 (is_ne.t hc)
                      refine w_seq ?_
                      refine w_run [0] ?_
                      refine t_done [(.agg [(.int .i64 base0), (.int .i64 base1)]), (.agg [(.int .i64 other2), (.int .i64 other3)]), (.int .i64 need4), (.int .i64 perMille5), (.bool false), (.agg [(.int .i64 base0), (.int .i64 base1)]), (.agg [(.int .i64 other2), (.int .i64 other3)]), d29, (.agg [(.int .i64 r52), (.int .i64 r53)]), d59, (.agg [(.int .i64 r10), (.int .i64 r11)]), (.agg [(.int .i64 r16), (.int .i64 r17)]), (.int .i64 r8), (.int .i64 r9), (.int .i64 r15), d60, d61, d62, d63, (.bool ((((decide (need4 ≥ 0)) && (decide (need4 ≤ 25))) && (decide (perMille5 ≥ 0))) && (decide (perMille5 < 1000)))), d71, d72, d80, d87, (.agg [(.int .i64 w88), (.int .i64 w89)]), d90, d91, (.bool ((w88) != 0)), (.agg [(.int .i64 r22), (.int .i64 r23)]), (.int .i64 r21), (.bool ((r108) == 3)), (.int .i64 k115), (.bool (decide (k115 ≤ need4))), (.bool ((r119) != 3))] H120 (by kernel_rfl) ?_
                      refine then_norm ?_
                      refine w_ret ?_
                      refine block_ret ?_
                      refine then_ret ?_
                      refine loop_ret ?_
                      refine block_ret ?_
                      refine then_ret ?_
                      exact body_ret (vs := [(.bool false)]) _ (by kernel_rfl) rfl h
                    · replace h := h.2 (is_ne.f hc)
                      refine w_skip ?_
                      refine block_norm ?_
                      refine then_norm ?_
                      refine w_run [0, 0, 0] ?_
                      refine t_done [(.agg [(.int .i64 base0), (.int .i64 base1)]), (.agg [(.int .i64 other2), (.int .i64 other3)]), (.int .i64 need4), (.int .i64 perMille5), d114, (.agg [(.int .i64 base0), (.int .i64 base1)]), (.agg [(.int .i64 other2), (.int .i64 other3)]), d29, (.agg [(.int .i64 r52), (.int .i64 r53)]), d59, (.agg [(.int .i64 r10), (.int .i64 r11)]), (.agg [(.int .i64 r16), (.int .i64 r17)]), (.int .i64 r8), (.int .i64 r9), (.int .i64 r15), d60, d61, d62, d63, (.bool ((((decide (need4 ≥ 0)) && (decide (need4 ≤ 25))) && (decide (perMille5 ≥ 0))) && (decide (perMille5 < 1000)))), d71, d72, d80, d87, (.agg [(.int .i64 w88), (.int .i64 w89)]), d90, d91, (.bool ((w88) != 0)), (.agg [(.int .i64 r22), (.int .i64 r23)]), (.int .i64 r21), (.bool ((r108) == 3)), (.int .i64 (IntKind.wrap .i64 (k115 + 1))), (.bool (decide (k115 ≤ need4))), (.bool ((r119) != 3))] H120 (by kernel_rfl) ?_
                      obtain ⟨m', hm, h⟩ := h
                      refine loop_norm ⟨m', hm, _, _, _, _, rfl, h⟩
                  · replace h := h.2 (is_dec.f hc)
                    refine w_exit ?_
                    refine then_exit ?_
                    refine loop_exit ?_
                    refine block_exit ?_
                    refine then_norm ?_
                    refine w_seq ?_
                    refine w_run [0] ?_
                    refine t_done [(.agg [(.int .i64 base0), (.int .i64 base1)]), (.agg [(.int .i64 other2), (.int .i64 other3)]), (.int .i64 need4), (.int .i64 perMille5), (.bool true), (.agg [(.int .i64 base0), (.int .i64 base1)]), (.agg [(.int .i64 other2), (.int .i64 other3)]), d29, (.agg [(.int .i64 r52), (.int .i64 r53)]), d59, (.agg [(.int .i64 r10), (.int .i64 r11)]), (.agg [(.int .i64 r16), (.int .i64 r17)]), (.int .i64 r8), (.int .i64 r9), (.int .i64 r15), d60, d61, d62, d63, (.bool ((((decide (need4 ≥ 0)) && (decide (need4 ≤ 25))) && (decide (perMille5 ≥ 0))) && (decide (perMille5 < 1000)))), d71, d72, d80, d87, (.agg [(.int .i64 w88), (.int .i64 w89)]), d90, d91, (.bool ((w88) != 0)), (.agg [(.int .i64 r22), (.int .i64 r23)]), (.int .i64 r21), (.bool ((r108) == 3)), (.int .i64 k115), (.bool (decide (k115 ≤ need4))), d117] H118 (by kernel_rfl) ?_
                    refine then_norm ?_
                    refine w_ret ?_
                    exact body_ret (vs := [(.bool true)]) _ (by kernel_rfl) rfl h
              · replace h := h.1 ((is_or (is_or is_ne is_dec) is_dec).t hc)
                refine t_gd true false (by kernel_rfl) (fun hn => by cases hn) (fun _ => ?_)
                refine t_done [(.agg [(.int .i64 base0), (.int .i64 base1)]), (.agg [(.int .i64 other2), (.int .i64 other3)]), (.int .i64 need4), (.int .i64 perMille5), d79, (.agg [(.int .i64 base0), (.int .i64 base1)]), (.agg [(.int .i64 other2), (.int .i64 other3)]), d29, (.agg [(.int .i64 r52), (.int .i64 r53)]), d59, (.agg [(.int .i64 r10), (.int .i64 r11)]), (.agg [(.int .i64 r16), (.int .i64 r17)]), (.int .i64 r8), (.int .i64 r9), (.int .i64 r15), d60, d61, d62, d63, (.bool ((((decide (need4 ≥ 0)) && (decide (need4 ≤ 25))) && (decide (perMille5 ≥ 0))) && (decide (perMille5 < 1000)))), d71, d72, d80, d87, (.agg [(.int .i64 w88), (.int .i64 w89)]), d90, d91, (.bool ((w88) != 0)), (.agg [(.int .i64 r22), (.int .i64 r23)]), (.int .i64 r21), (.bool true), .undef, .undef, .undef] H92 (by kernel_rfl) ?_
                refine then_norm ?_
                refine w_cond (t := true) rfl (fun _ => ?_) (fun hc => by cases hc)
                refine w_seq ?_
                refine w_run [0] ?_
                refine t_done [(.agg [(.int .i64 base0), (.int .i64 base1)]), (.agg [(.int .i64 other2), (.int .i64 other3)]), (.int .i64 need4), (.int .i64 perMille5), (.bool false), (.agg [(.int .i64 base0), (.int .i64 base1)]), (.agg [(.int .i64 other2), (.int .i64 other3)]), d29, (.agg [(.int .i64 r52), (.int .i64 r53)]), d59, (.agg [(.int .i64 r10), (.int .i64 r11)]), (.agg [(.int .i64 r16), (.int .i64 r17)]), (.int .i64 r8), (.int .i64 r9), (.int .i64 r15), d60, d61, d62, d63, (.bool ((((decide (need4 ≥ 0)) && (decide (need4 ≤ 25))) && (decide (perMille5 ≥ 0))) && (decide (perMille5 < 1000)))), d71, d72, d80, d87, (.agg [(.int .i64 w88), (.int .i64 w89)]), d90, d91, (.bool ((w88) != 0)), (.agg [(.int .i64 r22), (.int .i64 r23)]), (.int .i64 r21), (.bool true), .undef, .undef, .undef] H92 (by kernel_rfl) ?_
                refine then_norm ?_
                refine w_ret ?_
                refine then_ret ?_
                exact body_ret (vs := [(.bool false)]) _ (by kernel_rfl) rfl h

-- LCanarySidesAreSymmetric
def rf_LCanarySidesAreSymmetric (ncanary_Tail nLcanaryExample : Nat) : RFunc := ⟨2, 16, [.var 2],
 ((.seq (.ops [⟨.tomb 1 (.var 0), none, (some 3), true⟩, ⟨.tomb 1 (.var 1), none, (some 4), true⟩, ⟨.move (.k (.bool false)), none, (some 2), true⟩])
 ((.seq (.ops [⟨.field 0 (some 2) (.var 3), none, none, true⟩, ⟨.field 0 (some 2) (.var 4), none, none, true⟩, ⟨.callS ncanary_Tail [(.loc 0), (.loc 1)], none, none, true⟩, ⟨.move (.loc 2), none, none, true⟩, ⟨.extract (.loc 3) 0, none, none, true⟩, ⟨.extract (.loc 3) 1, none, none, true⟩, ⟨.extract (.loc 3) 2, none, none, true⟩, ⟨.tomb 1 (.k (.agg [.int .i64 0, .int .i64 0])), none, (some 6), true⟩, ⟨.move (.loc 4), none, (some 10), true⟩, ⟨.move (.loc 5), none, (some 12), true⟩, ⟨.upd 2 0 (.loc 7) (.loc 6), none, (some 6), true⟩])
 ((.seq (.ops [⟨.field 0 none (.var 4), none, none, true⟩, ⟨.field 1 none (.var 4), none, none, true⟩, ⟨.field 0 none (.var 4), none, none, true⟩, ⟨.field 0 none (.var 4), none, none, true⟩, ⟨.build [.int .i64 0, .int .i64 0] [(0, 1, (.loc 1)), (1, 1, (.loc 3))], none, none, true⟩, ⟨.field 0 none (.var 3), none, none, true⟩, ⟨.field 1 none (.var 3), none, none, true⟩, ⟨.field 0 none (.var 3), none, none, true⟩, ⟨.field 0 none (.var 3), none, none, true⟩, ⟨.build [.int .i64 0, .int .i64 0] [(0, 1, (.loc 6)), (1, 1, (.loc 8))], none, none, true⟩, ⟨.callS ncanary_Tail [(.loc 4), (.loc 9)], none, none, true⟩, ⟨.move (.loc 10), none, none, true⟩, ⟨.extract (.loc 11) 0, none, none, true⟩, ⟨.extract (.loc 11) 1, none, none, true⟩, ⟨.extract (.loc 11) 2, none, none, true⟩, ⟨.tomb 1 (.k (.agg [.int .i64 0, .int .i64 0])), none, (some 7), true⟩, ⟨.move (.loc 12), none, (some 11), true⟩, ⟨.move (.loc 13), none, (some 13), true⟩, ⟨.upd 2 0 (.loc 15) (.loc 14), none, (some 7), true⟩])
 ((.seq (.ops [⟨.field 0 none (.var 3), none, none, true⟩, ⟨.field 1 none (.var 3), none, none, true⟩, ⟨.field 0 none (.var 3), none, none, true⟩, ⟨.field 0 none (.var 3), none, none, true⟩, ⟨.build [.int .i64 0, .int .i64 0] [(0, 1, (.loc 1)), (1, 1, (.loc 3))], none, none, true⟩, ⟨.field 0 none (.var 4), none, none, true⟩, ⟨.field 1 none (.var 4), none, none, true⟩, ⟨.field 0 none (.var 4), none, none, true⟩, ⟨.field 0 none (.var 4), none, none, true⟩, ⟨.build [.int .i64 0, .int .i64 0] [(0, 1, (.loc 6)), (1, 1, (.loc 8))], none, none, true⟩, ⟨.callS ncanary_Tail [(.loc 4), (.loc 9)], none, none, true⟩, ⟨.move (.loc 10), none, none, true⟩, ⟨.extract (.loc 11) 0, none, none, true⟩, ⟨.extract (.loc 11) 1, none, none, true⟩, ⟨.extract (.loc 11) 2, none, none, true⟩, ⟨.tomb 1 (.k (.agg [.int .i64 0, .int .i64 0])), none, (some 8), true⟩, ⟨.move (.loc 12), none, (some 15), true⟩, ⟨.move (.loc 13), none, (some 14), true⟩, ⟨.upd 2 0 (.loc 15) (.loc 14), none, (some 8), true⟩])
 ((.seq ((.seq (.ops [⟨.callS nLcanaryExample [], none, none, true⟩, ⟨.un .not (.loc 0), none, (some 5), true⟩])
 (.cond (.var 5) ((.seq (.ops [⟨.move (.k (.bool false)), none, (some 2), true⟩])
 (.ret))) (.skip))))
 ((.seq ((.seq (.ops [⟨.field 0 none (.var 6), none, none, true⟩, ⟨.field 0 none (.var 6), none, none, true⟩, ⟨.bin .neq .no (.loc 1) (.k (.int .i64 0)), none, none, true⟩, ⟨.move (.loc 2), none, none, true⟩, ⟨.field 0 none (.var 7), none, none, true⟩, ⟨.field 0 none (.var 7), none, none, true⟩, ⟨.bin .neq .no (.loc 5) (.k (.int .i64 0)), none, none, true⟩, ⟨.pick (.loc 3) (.k (.bool true)) (.loc 6), none, none, true⟩, ⟨.move (.loc 7), none, none, true⟩, ⟨.field 0 none (.var 8), none, none, true⟩, ⟨.field 0 none (.var 8), none, none, true⟩, ⟨.bin .neq .no (.loc 10) (.k (.int .i64 0)), none, none, true⟩, ⟨.pick (.loc 8) (.k (.bool true)) (.loc 11), none, (some 9), true⟩])
 (.cond (.var 9) ((.seq (.ops [⟨.move (.k (.bool true)), none, (some 2), true⟩])
 (.ret))) (.skip))))
 ((.seq (.ops [⟨.move (.var 10), none, none, true⟩, ⟨.move (.var 11), none, none, true⟩, ⟨.bin .eql .no (.loc 0) (.loc 1), none, none, true⟩, ⟨.move (.loc 2), none, none, true⟩, ⟨.move (.var 12), none, none, true⟩, ⟨.move (.var 13), none, none, true⟩, ⟨.bin .eql .no (.loc 4) (.loc 5), none, none, true⟩, ⟨.pick (.loc 3) (.loc 6) (.k (.bool false)), none, none, true⟩, ⟨.move (.loc 7), none, none, true⟩, ⟨.move (.var 12), none, none, true⟩, ⟨.move (.var 14), none, none, true⟩, ⟨.bin .eql .no (.loc 9) (.loc 10), none, none, true⟩, ⟨.pick (.loc 8) (.loc 11) (.k (.bool false)), none, none, true⟩, ⟨.move (.loc 12), none, none, true⟩, ⟨.move (.var 10), none, none, true⟩, ⟨.move (.var 15), none, none, true⟩, ⟨.bin .add .no (.loc 14) (.loc 15), none, none, true⟩, ⟨.move (.var 12), none, none, true⟩, ⟨.bin .gtr .no (.loc 16) (.loc 17), none, none, true⟩, ⟨.pick (.loc 13) (.loc 18) (.k (.bool false)), none, none, true⟩, ⟨.move (.loc 19), none, (some 2), true⟩])
 (.ret)))))))))))))))⟩
theorem v_LCanarySidesAreSymmetric {F : Nat → Option RFunc} {me ncanary_Tail nLcanaryExample : Nat} (hF : F me = some (rf_LCanarySidesAreSymmetric ncanary_Tail nLcanaryExample)) {fl : Nat} {H : Heap} {Q : AV → Heap → Prop} (base0 : Int) (base1 : Int) (other2 : Int) (other3 : Int)
  (h : ∀ (H4 : Heap), Dead1 H 1 H4 → ∀ (H5 : Heap), Dead1 H4 1 H5 → Ret F fl ncanary_Tail [(.agg [(.int .i64 base0), (.int .i64 base1)]), (.agg [(.int .i64 other2), (.int .i64 other3)])] H5 (fun v11 H10 => ∃ (r6 : Int) (r7 : Int) (r8 : Int) (r9 : Int), v11 = (.tuple [(.int .i64 r6), (.int .i64 r7), (.agg [(.int .i64 r8), (.int .i64 r9)])]) ∧ ∀ (H12 : Heap), Dead1 H10 1 H12 → Ret F fl ncanary_Tail [(.agg [(.int .i64 other3), (.int .i64 other2)]), (.agg [(.int .i64 base1), (.int .i64 base0)])] H12 (fun v18 H17 => ∃ (r13 : Int) (r14 : Int) (r15 : Int) (r16 : Int), v18 = (.tuple [(.int .i64 r13), (.int .i64 r14), (.agg [(.int .i64 r15), (.int .i64 r16)])]) ∧ ∀ (H19 : Heap), Dead1 H17 1 H19 → Ret F fl ncanary_Tail [(.agg [(.int .i64 base1), (.int .i64 base0)]), (.agg [(.int .i64 other3), (.int .i64 other2)])] H19 (fun v25 H24 => ∃ (r20 : Int) (r21 : Int) (r22 : Int) (r23 : Int), v25 = (.tuple [(.int .i64 r20), (.int .i64 r21), (.agg [(.int .i64 r22), (.int .i64 r23)])]) ∧ ∀ (H26 : Heap), Dead1 H24 1 H26 → Ret F fl nLcanaryExample [] H26 (fun v29 H28 => ∃ (r27 : Bool), v29 = (.bool r27) ∧ ((¬(r27 = true)) → Q (.bool false) H28) ∧ (¬(¬(r27 = true)) → ((((((r8 ≠ 0) ∨ (r15 ≠ 0))) ∨ (r22 ≠ 0))) → Q (.bool true) H28) ∧ (¬(((((r8 ≠ 0) ∨ (r15 ≠ 0))) ∨ (r22 ≠ 0))) → Q (.bool (((((r6) == r13) && ((r7) == r14)) && ((r7) == r21)) && (decide ((IntKind.wrap .i64 (r6 + r20)) > r7)))) H28))))))) : Ret F fl me [(.agg [(.int .i64 base0), (.int .i64 base1)]), (.agg [(.int .i64 other2), (.int .i64 other3)])] H Q := by
  refine ret_intro hF rfl ?_
  refine w_seq ?_
  refine w_run [1, 1, 0] ?_
  obtain ⟨H4, hb⟩ : ∃ H', Dead1 H 1 H' := ⟨_, ⟨rfl⟩⟩
  replace h := h H4 hb
  refine t_tomb true 1 (.agg [(.int .i64 base0), (.int .i64 base1)]) [(.int .i64 base0), (.int .i64 base1)] H4 H (by kernel_rfl) rfl hb ?_
  obtain ⟨H5, hb⟩ : ∃ H', Dead1 H4 1 H' := ⟨_, ⟨rfl⟩⟩
  replace h := h H5 hb
  refine t_tomb true 1 (.agg [(.int .i64 other2), (.int .i64 other3)]) [(.int .i64 other2), (.int .i64 other3)] H5 H4 (by kernel_rfl) rfl hb ?_
  refine t_done [(.agg [(.int .i64 base0), (.int .i64 base1)]), (.agg [(.int .i64 other2), (.int .i64 other3)]), (.bool false), (.agg [(.int .i64 base0), (.int .i64 base1)]), (.agg [(.int .i64 other2), (.int .i64 other3)]), .undef, .undef, .undef, .undef, .undef, .undef, .undef, .undef, .undef, .undef, .undef] H5 (by kernel_rfl) ?_
  refine then_norm ?_
  refine w_seq ?_
  refine w_run [0, 0, 1, 0, 0, 0, 0, 1, 0, 0, 1] ?_
  refine t_call true ncanary_Tail [(.agg [(.int .i64 base0), (.int .i64 base1)]), (.agg [(.int .i64 other2), (.int .i64 other3)])] H5 (by kernel_rfl) h ?_
  clear h
  rintro _ H10 ⟨r6, r7, r8, r9, rfl, h⟩
  obtain ⟨H12, hb⟩ : ∃ H', Dead1 H10 1 H' := ⟨_, ⟨rfl⟩⟩
  replace h := h H12 hb
  refine t_tomb true 1 (.agg [(.int .i64 0), (.int .i64 0)]) [(.int .i64 0), (.int .i64 0)] H12 H10 (by kernel_rfl) rfl hb ?_
  refine t_upd true 2 0 [(.int .i64 0), (.int .i64 0)] (.agg [(.int .i64 r8), (.int .i64 r9)]) [(.int .i64 r8), (.int .i64 r9)] [(.int .i64 r8), (.int .i64 r9)] H12 (by kernel_rfl) rfl (all_c rfl (all_c rfl all_n)) ⟨rfl, Nat.le_of_ble_eq_true (by kernel_rfl), rfl⟩ ?_
  refine t_done [(.agg [(.int .i64 base0), (.int .i64 base1)]), (.agg [(.int .i64 other2), (.int .i64 other3)]), (.bool false), (.agg [(.int .i64 base0), (.int .i64 base1)]), (.agg [(.int .i64 other2), (.int .i64 other3)]), .undef, (.agg [(.int .i64 r8), (.int .i64 r9)]), .undef, .undef, .undef, (.int .i64 r6), .undef, (.int .i64 r7), .undef, .undef, .undef] H12 (by kernel_rfl) ?_
  refine then_norm ?_
  refine w_seq ?_
  refine w_run [0, 0, 0, 0, 1, 0, 0, 0, 0, 1, 1, 0, 0, 0, 0, 1, 0, 0, 1] ?_
  refine t_build true [(.int .i64 0), (.int .i64 0)] [(0, 1, .loc 0), (1, 1, .loc 1)] [(.int .i64 other3), (.int .i64 other2)] [(.int .i64 other3), (.int .i64 other2)] H12 (by kernel_rfl) (fill_c (vs := [(.int .i64 other3)]) (size := 1) rfl (by kernel_rfl) (by kernel_rfl) (fill_c (vs := [(.int .i64 other2)]) (size := 1) rfl (by kernel_rfl) (by kernel_rfl) (by kernel_rfl))) ?_
  refine t_build true [(.int .i64 0), (.int .i64 0)] [(0, 1, .loc 0), (1, 1, .loc 1)] [(.int .i64 base1), (.int .i64 base0)] [(.int .i64 base1), (.int .i64 base0)] H12 (by kernel_rfl) (fill_c (vs := [(.int .i64 base1)]) (size := 1) rfl (by kernel_rfl) (by kernel_rfl) (fill_c (vs := [(.int .i64 base0)]) (size := 1) rfl (by kernel_rfl) (by kernel_rfl) (by kernel_rfl))) ?_
  refine t_call true ncanary_Tail [(.agg [(.int .i64 other3), (.int .i64 other2)]), (.agg [(.int .i64 base1), (.int .i64 base0)])] H12 (by kernel_rfl) h ?_
  clear h
  rintro _ H17 ⟨r13, r14, r15, r16, rfl, h⟩
  obtain ⟨H19, hb⟩ : ∃ H', Dead1 H17 1 H' := ⟨_, ⟨rfl⟩⟩
  replace h := h H19 hb
  refine t_tomb true 1 (.agg [(.int .i64 0), (.int .i64 0)]) [(.int .i64 0), (.int .i64 0)] H19 H17 (by kernel_rfl) rfl hb ?_
  refine t_upd true 2 0 [(.int .i64 0), (.int .i64 0)] (.agg [(.int .i64 r15), (.int .i64 r16)]) [(.int .i64 r15), (.int .i64 r16)] [(.int .i64 r15), (.int .i64 r16)] H19 (by kernel_rfl) rfl (all_c rfl (all_c rfl all_n)) ⟨rfl, Nat.le_of_ble_eq_true (by kernel_rfl), rfl⟩ ?_
  refine t_done [(.agg [(.int .i64 base0), (.int .i64 base1)]), (.agg [(.int .i64 other2), (.int .i64 other3)]), (.bool false), (.agg [(.int .i64 base0), (.int .i64 base1)]), (.agg [(.int .i64 other2), (.int .i64 other3)]), .undef, (.agg [(.int .i64 r8), (.int .i64 r9)]), (.agg [(.int .i64 r15), (.int .i64 r16)]), .undef, .undef, (.int .i64 r6), (.int .i64 r13), (.int .i64 r7), (.int .i64 r14), .undef, .undef] H19 (by kernel_rfl) ?_
  refine then_norm ?_
  refine w_seq ?_
  refine w_run [0, 0, 0, 0, 1, 0, 0, 0, 0, 1, 1, 0, 0, 0, 0, 1, 0, 0, 1] ?_
  refine t_build true [(.int .i64 0), (.int .i64 0)] [(0, 1, .loc 0), (1, 1, .loc 1)] [(.int .i64 base1), (.int .i64 base0)] [(.int .i64 base1), (.int .i64 base0)] H19 (by kernel_rfl) (fill_c (vs := [(.int .i64 base1)]) (size := 1) rfl (by kernel_rfl) (by kernel_rfl) (fill_c (vs := [(.int .i64 base0)]) (size := 1) rfl (by kernel_rfl) (by kernel_rfl) (by kernel_rfl))) ?_
  refine t_build true [(.int .i64 0), (.int .i64 0)] [(0, 1, .loc 0), (1, 1, .loc 1)] [(.int .i64 other3), (.int .i64 other2)] [(.int .i64 other3), (.int .i64 other2)] H19 (by kernel_rfl) (fill_c (vs := [(.int .i64 other3)]) (size := 1) rfl (by kernel_rfl) (by kernel_rfl) (fill_c (vs := [(.int .i64 other2)]) (size := 1) rfl (by kernel_rfl) (by kernel_rfl) (by kernel_rfl))) ?_
  refine t_call true ncanary_Tail [(.agg [(.int .i64 base1), (.int .i64 base0)]), (.agg [(.int .i64 other3), (.int .i64 other2)])] H19 (by kernel_rfl) h ?_
  clear h
  rintro _ H24 ⟨r20, r21, r22, r23, rfl, h⟩
  obtain ⟨H26, hb⟩ : ∃ H', Dead1 H24 1 H' := ⟨_, ⟨rfl⟩⟩
  replace h := h H26 hb
  refine t_tomb true 1 (.agg [(.int .i64 0), (.int .i64 0)]) [(.int .i64 0), (.int .i64 0)] H26 H24 (by kernel_rfl) rfl hb ?_
  refine t_upd true 2 0 [(.int .i64 0), (.int .i64 0)] (.agg [(.int .i64 r22), (.int .i64 r23)]) [(.int .i64 r22), (.int .i64 r23)] [(.int .i64 r22), (.int .i64 r23)] H26 (by kernel_rfl) rfl (all_c rfl (all_c rfl all_n)) ⟨rfl, Nat.le_of_ble_eq_true (by kernel_rfl), rfl⟩ ?_
  refine t_done [(.agg [(.int .i64 base0), (.int .i64 base1)]), (.agg [(.int .i64 other2), (.int .i64 other3)]), (.bool false), (.agg [(.int .i64 base0), (.int .i64 base1)]), (.agg [(.int .i64 other2), (.int .i64 other3)]), .undef, (.agg [(.int .i64 r8), (.int .i64 r9)]), (.agg [(.int .i64 r15), (.int .i64 r16)]), (.agg [(.int .i64 r22), (.int .i64 r23)]), .undef, (.int .i64 r6), (.int .i64 r13), (.int .i64 r7), (.int .i64 r14), (.int .i64 r21), (.int .i64 r20)] H26 (by kernel_rfl) ?_
  refine then_norm ?_
  refine w_seq ?_
  refine w_seq ?_
  refine w_run [1, 0] ?_
  refine t_call true nLcanaryExample [] H26 (by kernel_rfl) h ?_
  clear h
  rintro _ H28 ⟨r27, rfl, h⟩
  refine t_done [(.agg [(.int .i64 base0), (.int .i64 base1)]), (.agg [(.int .i64 other2), (.int .i64 other3)]), (.bool false), (.agg [(.int .i64 base0), (.int .i64 base1)]), (.agg [(.int .i64 other2), (.int .i64 other3)]), (.bool (!r27)), (.agg [(.int .i64 r8), (.int .i64 r9)]), (.agg [(.int .i64 r15), (.int .i64 r16)]), (.agg [(.int .i64 r22), (.int .i64 r23)]), .undef, (.int .i64 r6), (.int .i64 r13), (.int .i64 r7), (.int .i64 r14), (.int .i64 r21), (.int .i64 r20)] H28 (by kernel_rfl) ?_
  refine then_norm ?_
  refine w_cond (t := (!r27)) rfl (fun hc => ?_) (fun hc => ?_)
  · replace h := h.1 ((is_not is_raw).t hc)
    refine w_seq ?_
    refine w_run [0] ?_
    refine t_done [(.agg [(.int .i64 base0), (.int .i64 base1)]), (.agg [(.int .i64 other2), (.int .i64 other3)]), (.bool false), (.agg [(.int .i64 base0), (.int .i64 base1)]), (.agg [(.int .i64 other2), (.int .i64 other3)]), (.bool (!r27)), (.agg [(.int .i64 r8), (.int .i64 r9)]), (.agg [(.int .i64 r15), (.int .i64 r16)]), (.agg [(.int .i64 r22), (.int .i64 r23)]), .undef, (.int .i64 r6), (.int .i64 r13), (.int .i64 r7), (.int .i64 r14), (.int .i64 r21), (.int .i64 r20)] H28 (by kernel_rfl) ?_
    refine then_norm ?_
    refine w_ret ?_
    refine then_ret ?_
    exact body_ret (vs := [(.bool false)]) _ (by kernel_rfl) rfl h
  · replace h := h.2 ((is_not is_raw).f hc)
    refine w_skip ?_
    refine then_norm ?_
    refine w_seq ?_
    refine w_seq ?_
    refine w_run [0, 0, 0, 0, 0, 0, 0, 0, 0, 0, 0, 0, 0] ?_
    refine t_done [(.agg [(.int .i64 base0), (.int .i64 base1)]), (.agg [(.int .i64 other2), (.int .i64 other3)]), (.bool false), (.agg [(.int .i64 base0), (.int .i64 base1)]), (.agg [(.int .i64 other2), (.int .i64 other3)]), (.bool (!r27)), (.agg [(.int .i64 r8), (.int .i64 r9)]), (.agg [(.int .i64 r15), (.int .i64 r16)]), (.agg [(.int .i64 r22), (.int .i64 r23)]), (.bool ((((r8) != 0) || ((r15) != 0)) || ((r22) != 0))), (.int .i64 r6), (.int .i64 r13), (.int .i64 r7), (.int .i64 r14), (.int .i64 r21), (.int .i64 r20)] H28 (by kernel_rfl) ?_
    refine then_norm ?_
    refine w_cond (t := ((((r8) != 0) || ((r15) != 0)) || ((r22) != 0))) rfl (fun hc => ?_) (fun hc => ?_)
    · replace h := h.1 ((is_or (is_or is_ne is_ne) is_ne).t hc)
      refine w_seq ?_
      refine w_run [0] ?_
      refine t_done [(.agg [(.int .i64 base0), (.int .i64 base1)]), (.agg [(.int .i64 other2), (.int .i64 other3)]), (.bool true), (.agg [(.int .i64 base0), (.int .i64 base1)]), (.agg [(.int .i64 other2), (.int .i64 other3)]), (.bool (!r27)), (.agg [(.int .i64 r8), (.int .i64 r9)]), (.agg [(.int .i64 r15), (.int .i64 r16)]), (.agg [(.int .i64 r22), (.int .i64 r23)]), (.bool ((((r8) != 0) || ((r15) != 0)) || ((r22) != 0))), (.int .i64 r6), (.int .i64 r13), (.int .i64 r7), (.int .i64 r14), (.int .i64 r21), (.int .i64 r20)] H28 (by kernel_rfl) ?_
      refine then_norm ?_
      refine w_ret ?_
      refine then_ret ?_
      exact body_ret (vs := [(.bool true)]) _ (by kernel_rfl) rfl h
    · replace h := h.2 ((is_or (is_or is_ne is_ne) is_ne).f hc)
      refine w_skip ?_
      refine then_norm ?_
      refine w_seq ?_
      refine w_run [0, 0, 0, 0, 0, 0, 0, 0, 0, 0, 0, 0, 0, 0, 0, 0, 0, 0, 0, 0, 0] ?_
      refine t_done [(.agg [(.int .i64 base0), (.int .i64 base1)]), (.agg [(.int .i64 other2), (.int .i64 other3)]), (.bool (((((r6) == r13) && ((r7) == r14)) && ((r7) == r21)) && (decide ((IntKind.wrap .i64 (r6 + r20)) > r7)))), (.agg [(.int .i64 base0), (.int .i64 base1)]), (.agg [(.int .i64 other2), (.int .i64 other3)]), (.bool (!r27)), (.agg [(.int .i64 r8), (.int .i64 r9)]), (.agg [(.int .i64 r15), (.int .i64 r16)]), (.agg [(.int .i64 r22), (.int .i64 r23)]), (.bool ((((r8) != 0) || ((r15) != 0)) || ((r22) != 0))), (.int .i64 r6), (.int .i64 r13), (.int .i64 r7), (.int .i64 r14), (.int .i64 r21), (.int .i64 r20)] H28 (by kernel_rfl) ?_
      refine then_norm ?_
      refine w_ret ?_
      exact body_ret (vs := [(.bool (((((r6) == r13) && ((r7) == r14)) && ((r7) == r21)) && (decide ((IntKind.wrap .i64 (r6 + r20)) > r7))))]) _ (by kernel_rfl) rfl h

-- LCanaryToleranceIsExact
def rf_LCanaryToleranceIsExact (ncanary_Tolerated ncanary_Decide nLcanaryExample : Nat) : RFunc := ⟨4, 11, [.var 4],
 ((.seq (.ops [⟨.tomb 1 (.var 0), none, (some 5), true⟩, ⟨.move (.k (.bool false)), none, (some 4), true⟩])
 ((.seq (.ops [⟨.field 0 (some 2) (.var 5), none, none, true⟩, ⟨.move (.var 1), none, none, true⟩, ⟨.move (.var 3), none, none, true⟩, ⟨.callS ncanary_Tolerated [(.loc 0), (.loc 1), (.loc 2)], none, none, true⟩, ⟨.move (.loc 3), none, none, true⟩, ⟨.extract (.loc 4) 0, none, none, true⟩, ⟨.extract (.loc 4) 1, none, none, true⟩, ⟨.tomb 1 (.k (.agg [.int .i64 0, .int .i64 0])), none, (some 7), true⟩, ⟨.move (.loc 5), none, (some 10), true⟩, ⟨.upd 2 0 (.loc 7) (.loc 6), none, (some 7), true⟩])
 ((.seq (.ops [⟨.field 0 (some 2) (.var 5), none, none, true⟩, ⟨.move (.var 1), none, none, true⟩, ⟨.move (.var 2), none, none, true⟩, ⟨.bin .sub .no (.loc 1) (.loc 2), none, none, true⟩, ⟨.move (.var 2), none, none, true⟩, ⟨.build [.int .i64 0, .int .i64 0] [(0, 1, (.loc 3)), (1, 1, (.loc 4))], none, none, true⟩, ⟨.move (.var 3), none, none, true⟩, ⟨.callS ncanary_Decide [(.loc 0), (.loc 5), (.k (.int .i64 0)), (.loc 6)], none, none, true⟩, ⟨.move (.loc 7), none, none, true⟩, ⟨.extract (.loc 8) 0, none, none, true⟩, ⟨.extract (.loc 8) 1, none, none, true⟩, ⟨.tomb 1 (.k (.agg [.int .i64 0, .int .i64 0])), none, (some 8), true⟩, ⟨.move (.loc 9), none, (some 9), true⟩, ⟨.upd 2 0 (.loc 11) (.loc 10), none, (some 8), true⟩])
 ((.seq ((.seq (.ops [⟨.callS nLcanaryExample [], none, none, true⟩, ⟨.un .not (.loc 0), none, (some 6), true⟩])
 (.cond (.var 6) ((.seq (.ops [⟨.move (.k (.bool false)), none, (some 4), true⟩])
 (.ret))) (.skip))))
 ((.seq (.ops [⟨.field 0 none (.var 7), none, none, true⟩, ⟨.field 0 none (.var 7), none, none, true⟩, ⟨.bin .neq .no (.loc 1) (.k (.int .i64 0)), none, none, true⟩, ⟨.move (.loc 2), none, none, true⟩, ⟨.field 0 none (.var 8), none, none, true⟩, ⟨.field 0 none (.var 8), none, none, true⟩, ⟨.bin .neq .no (.loc 5) (.k (.int .i64 0)), none, none, true⟩, ⟨.pick (.loc 3) (.k (.bool true)) (.loc 6), none, none, true⟩, ⟨.move (.loc 7), none, none, true⟩, ⟨.move (.var 9), none, none, true⟩, ⟨.bin .eql .no (.loc 9) (.k (.int .i64 3)), none, none, true⟩, ⟨.move (.var 2), none, none, true⟩, ⟨.move (.var 10), none, none, true⟩, ⟨.bin .gtr .no (.loc 11) (.loc 12), none, none, true⟩, ⟨.bin .eql .bool (.loc 10) (.loc 13), none, none, true⟩, ⟨.pick (.loc 8) (.k (.bool true)) (.loc 14), none, none, true⟩, ⟨.move (.loc 15), none, (some 4), true⟩])
 (.ret)))))))))))⟩
theorem v_LCanaryToleranceIsExact {F : Nat → Option RFunc} {me ncanary_Tolerated ncanary_Decide nLcanaryExample : Nat} (hF : F me = some (rf_LCanaryToleranceIsExact ncanary_Tolerated ncanary_Decide nLcanaryExample)) {fl : Nat} {H : Heap} {Q : AV → Heap → Prop} (base0 : Int) (base1 : Int) (samples2 : Int) (bad3 : Int) (perMille4 : Int)
  (h : ∀ (H5 : Heap), Dead1 H 1 H5 → Ret F fl ncanary_Tolerated [(.agg [(.int .i64 base0), (.int .i64 base1)]), (.int .i64 samples2), (.int .i64 perMille4)] H5 (fun v10 H9 => ∃ (r6 : Int) (r7 : Int) (r8 : Int), v10 = (.tuple [(.int .i64 r6), (.agg [(.int .i64 r7), (.int .i64 r8)])]) ∧ ∀ (H11 : Heap), Dead1 H9 1 H11 → Ret F fl ncanary_Decide [(.agg [(.int .i64 base0), (.int .i64 base1)]), (.agg [(.int .i64 (IntKind.wrap .i64 (samples2 - bad3))), (.int .i64 bad3)]), (.int .i64 0), (.int .i64 perMille4)] H11 (fun v16 H15 => ∃ (r12 : Int) (r13 : Int) (r14 : Int), v16 = (.tuple [(.int .i64 r12), (.agg [(.int .i64 r13), (.int .i64 r14)])]) ∧ ∀ (H17 : Heap), Dead1 H15 1 H17 → Ret F fl nLcanaryExample [] H17 (fun v20 H19 => ∃ (r18 : Bool), v20 = (.bool r18) ∧ ((¬(r18 = true)) → Q (.bool false) H19) ∧ (¬(¬(r18 = true)) → Q (.bool ((((r7) != 0) || ((r13) != 0)) || (((r12) == 3) == (decide (bad3 > r6))))) H19))))) : Ret F fl me [(.agg [(.int .i64 base0), (.int .i64 base1)]), (.int .i64 samples2), (.int .i64 bad3), (.int .i64 perMille4)] H Q := by
  refine ret_intro hF rfl ?_
  refine w_seq ?_
  refine w_run [1, 0] ?_
  obtain ⟨H5, hb⟩ : ∃ H', Dead1 H 1 H' := ⟨_, ⟨rfl⟩⟩
  replace h := h H5 hb
  refine t_tomb true 1 (.agg [(.int .i64 base0), (.int .i64 base1)]) [(.int .i64 base0), (.int .i64 base1)] H5 H (by kernel_rfl) rfl hb ?_
  refine t_done [(.agg [(.int .i64 base0), (.int .i64 base1)]), (.int .i64 samples2), (.int .i64 bad3), (.int .i64 perMille4), (.bool false), (.agg [(.int .i64 base0), (.int .i64 base1)]), .undef, .undef, .undef, .undef, .undef] H5 (by kernel_rfl) ?_
  refine then_norm ?_
  refine w_seq ?_
  refine w_run [0, 0, 0, 1, 0, 0, 0, 1, 0, 1] ?_
  refine t_call true ncanary_Tolerated [(.agg [(.int .i64 base0), (.int .i64 base1)]), (.int .i64 samples2), (.int .i64 perMille4)] H5 (by kernel_rfl) h ?_
  clear h
  rintro _ H9 ⟨r6, r7, r8, rfl, h⟩
  obtain ⟨H11, hb⟩ : ∃ H', Dead1 H9 1 H' := ⟨_, ⟨rfl⟩⟩
  replace h := h H11 hb
  refine t_tomb true 1 (.agg [(.int .i64 0), (.int .i64 0)]) [(.int .i64 0), (.int .i64 0)] H11 H9 (by kernel_rfl) rfl hb ?_
  refine t_upd true 2 0 [(.int .i64 0), (.int .i64 0)] (.agg [(.int .i64 r7), (.int .i64 r8)]) [(.int .i64 r7), (.int .i64 r8)] [(.int .i64 r7), (.int .i64 r8)] H11 (by kernel_rfl) rfl (all_c rfl (all_c rfl all_n)) ⟨rfl, Nat.le_of_ble_eq_true (by kernel_rfl), rfl⟩ ?_
  refine t_done [(.agg [(.int .i64 base0), (.int .i64 base1)]), (.int .i64 samples2), (.int .i64 bad3), (.int .i64 perMille4), (.bool false), (.agg [(.int .i64 base0), (.int .i64 base1)]), .undef, (.agg [(.int .i64 r7), (.int .i64 r8)]), .undef, .undef, (.int .i64 r6)] H11 (by kernel_rfl) ?_
  refine then_norm ?_
  refine w_seq ?_
  refine w_run [0, 0, 0, 0, 0, 1, 0, 1, 0, 0, 0, 1, 0, 1] ?_
  refine t_build true [(.int .i64 0), (.int .i64 0)] [(0, 1, .loc 0), (1, 1, .loc 1)] [(.int .i64 (IntKind.wrap .i64 (samples2 - bad3))), (.int .i64 bad3)] [(.int .i64 (IntKind.wrap .i64 (samples2 - bad3))), (.int .i64 bad3)] H11 (by kernel_rfl) (fill_c (vs := [(.int .i64 (IntKind.wrap .i64 (samples2 - bad3)))]) (size := 1) rfl (by kernel_rfl) (by kernel_rfl) (fill_c (vs := [(.int .i64 bad3)]) (size := 1) rfl (by kernel_rfl) (by kernel_rfl) (by kernel_rfl))) ?_
  refine t_call true ncanary_Decide [(.agg [(.int .i64 base0), (.int .i64 base1)]), (.agg [(.int .i64 (IntKind.wrap .i64 (samples2 - bad3))), (.int .i64 bad3)]), (.int .i64 0), (.int .i64 perMille4)] H11 (by kernel_rfl) h ?_
  clear h
  rintro _ H15 ⟨r12, r13, r14, rfl, h⟩
  obtain ⟨H17, hb⟩ : ∃ H', Dead1 H15 1 H' := ⟨_, ⟨rfl⟩⟩
  replace h := h H17 hb
  refine t_tomb true 1 (.agg [(.int .i64 0), (.int .i64 0)]) [(.int .i64 0), (.int .i64 0)] H17 H15 (by kernel_rfl) rfl hb ?_
  refine t_upd true 2 0 [(.int .i64 0), (.int .i64 0)] (.agg [(.int .i64 r13), (.int .i64 r14)]) [(.int .i64 r13), (.int .i64 r14)] [(.int .i64 r13), (.int .i64 r14)] H17 (by kernel_rfl) rfl (all_c rfl (all_c rfl all_n)) ⟨rfl, Nat.le_of_ble_eq_true (by kernel_rfl), rfl⟩ ?_
  refine t_done [(.agg [(.int .i64 base0), (.int .i64 base1)]), (.int .i64 samples2), (.int .i64 bad3), (.int .i64 perMille4), (.bool false), (.agg [(.int .i64 base0), (.int .i64 base1)]), .undef, (.agg [(.int .i64 r7), (.int .i64 r8)]), (.agg [(.int .i64 r13), (.int .i64 r14)]), (.int .i64 r12), (.int .i64 r6)] H17 (by kernel_rfl) ?_
  refine then_norm ?_
  refine w_seq ?_
  refine w_seq ?_
  refine w_run [1, 0] ?_
  refine t_call true nLcanaryExample [] H17 (by kernel_rfl) h ?_
  clear h
  rintro _ H19 ⟨r18, rfl, h⟩
  refine t_done [(.agg [(.int .i64 base0), (.int .i64 base1)]), (.int .i64 samples2), (.int .i64 bad3), (.int .i64 perMille4), (.bool false), (.agg [(.int .i64 base0), (.int .i64 base1)]), (.bool (!r18)), (.agg [(.int .i64 r7), (.int .i64 r8)]), (.agg [(.int .i64 r13), (.int .i64 r14)]), (.int .i64 r12), (.int .i64 r6)] H19 (by kernel_rfl) ?_
  refine then_norm ?_
  refine w_cond (t := (!r18)) rfl (fun hc => ?_) (fun hc => ?_)
  · replace h := h.1 ((is_not is_raw).t hc)
    refine w_seq ?_
    refine w_run [0] ?_
    refine t_done [(.agg [(.int .i64 base0), (.int .i64 base1)]), (.int .i64 samples2), (.int .i64 bad3), (.int .i64 perMille4), (.bool false), (.agg [(.int .i64 base0), (.int .i64 base1)]), (.bool (!r18)), (.agg [(.int .i64 r7), (.int .i64 r8)]), (.agg [(.int .i64 r13), (.int .i64 r14)]), (.int .i64 r12), (.int .i64 r6)] H19 (by kernel_rfl) ?_
    refine then_norm ?_
    refine w_ret ?_
    refine then_ret ?_
    exact body_ret (vs := [(.bool false)]) _ (by kernel_rfl) rfl h
  · replace h := h.2 ((is_not is_raw).f hc)
    refine w_skip ?_
    refine then_norm ?_
    refine w_seq ?_
    refine w_run [0, 0, 0, 0, 0, 0, 0, 0, 0, 0, 0, 0, 0, 0, 0, 0, 0] ?_
    refine t_done [(.agg [(.int .i64 base0), (.int .i64 base1)]), (.int .i64 samples2), (.int .i64 bad3), (.int .i64 perMille4), (.bool ((((r7) != 0) || ((r13) != 0)) || (((r12) == 3) == (decide (bad3 > r6))))), (.agg [(.int .i64 base0), (.int .i64 base1)]), (.bool (!r18)), (.agg [(.int .i64 r7), (.int .i64 r8)]), (.agg [(.int .i64 r13), (.int .i64 r14)]), (.int .i64 r12), (.int .i64 r6)] H19 (by kernel_rfl) ?_
    refine then_norm ?_
    refine w_ret ?_
    exact body_ret (vs := [(.bool ((((r7) != 0) || ((r13) != 0)) || (((r12) == 3) == (decide (bad3 > r6)))))]) _ (by kernel_rfl) rfl h

-- LCanaryStricterToleratesLess
def rf_LCanaryStricterToleratesLess (ncanary_Tolerated nLcanaryExample : Nat) : RFunc := ⟨4, 14, [.var 4],
 ((.seq (.ops [⟨.tomb 1 (.var 0), none, (some 5), true⟩, ⟨.move (.k (.bool false)), none, (some 4), true⟩])
 ((.seq (.ops [⟨.field 0 (some 2) (.var 5), none, none, true⟩, ⟨.move (.var 1), none, none, true⟩, ⟨.move (.var 2), none, none, true⟩, ⟨.callS ncanary_Tolerated [(.loc 0), (.loc 1), (.loc 2)], none, none, true⟩, ⟨.move (.loc 3), none, none, true⟩, ⟨.extract (.loc 4) 0, none, none, true⟩, ⟨.extract (.loc 4) 1, none, none, true⟩, ⟨.tomb 1 (.k (.agg [.int .i64 0, .int .i64 0])), none, (some 7), true⟩, ⟨.move (.loc 5), none, (some 11), true⟩, ⟨.upd 2 0 (.loc 7) (.loc 6), none, (some 7), true⟩])
 ((.seq (.ops [⟨.field 0 (some 2) (.var 5), none, none, true⟩, ⟨.move (.var 1), none, none, true⟩, ⟨.move (.var 3), none, none, true⟩, ⟨.callS ncanary_Tolerated [(.loc 0), (.loc 1), (.loc 2)], none, none, true⟩, ⟨.move (.loc 3), none, none, true⟩, ⟨.extract (.loc 4) 0, none, none, true⟩, ⟨.extract (.loc 4) 1, none, none, true⟩, ⟨.tomb 1 (.k (.agg [.int .i64 0, .int .i64 0])), none, (some 9), true⟩, ⟨.move (.loc 5), none, (some 10), true⟩, ⟨.upd 2 0 (.loc 7) (.loc 6), none, (some 9), true⟩])
 ((.seq (.ops [⟨.field 0 none (.var 5), none, none, true⟩, ⟨.field 0 none (.var 5), none, none, true⟩, ⟨.bin .add .no (.loc 1) (.k (.int .i64 1)), none, none, true⟩, ⟨.field 0 none (.var 5), none, none, true⟩, ⟨.field 1 none (.var 5), none, none, true⟩, ⟨.bin .sub .no (.loc 4) (.k (.int .i64 1)), none, none, true⟩, ⟨.build [.int .i64 0, .int .i64 0] [(0, 1, (.loc 2)), (1, 1, (.loc 5))], none, none, true⟩, ⟨.move (.var 1), none, none, true⟩, ⟨.move (.var 2), none, none, true⟩, ⟨.callS ncanary_Tolerated [(.loc 6), (.loc 7), (.loc 8)], none, none, true⟩, ⟨.move (.loc 9), none, none, true⟩, ⟨.extract (.loc 10) 0, none, none, true⟩, ⟨.extract (.loc 10) 1, none, none, true⟩, ⟨.tomb 1 (.k (.agg [.int .i64 0, .int .i64 0])), none, (some 12), true⟩, ⟨.move (.loc 11), none, (some 13), true⟩, ⟨.upd 2 0 (.loc 13) (.loc 12), none, (some 12), true⟩])
 ((.seq ((.seq (.ops [⟨.callS nLcanaryExample [], none, none, true⟩, ⟨.un .not (.loc 0), none, (some 6), true⟩])
 (.cond (.var 6) ((.seq (.ops [⟨.move (.k (.bool false)), none, (some 4), true⟩])
 (.ret))) (.skip))))
 ((.seq ((.seq (.ops [⟨.field 0 none (.var 7), none, none, true⟩, ⟨.field 0 none (.var 7), none, none, true⟩, ⟨.bin .neq .no (.loc 1) (.k (.int .i64 0)), none, (some 8), true⟩])
 (.cond (.var 8) ((.seq (.ops [⟨.move (.k (.bool true)), none, (some 4), true⟩])
 (.ret))) (.skip))))
 ((.seq (.ops [⟨.field 0 none (.var 9), none, none, true⟩, ⟨.field 0 none (.var 9), none, none, true⟩, ⟨.bin .neq .no (.loc 1) (.k (.int .i64 0)), none, none, true⟩, ⟨.move (.loc 2), none, none, true⟩, ⟨.move (.var 3), none, none, true⟩, ⟨.move (.var 2), none, none, true⟩, ⟨.bin .lss .no (.loc 4) (.loc 5), none, none, true⟩, ⟨.pick (.loc 3) (.k (.bool true)) (.loc 6), none, none, true⟩, ⟨.move (.loc 7), none, none, true⟩, ⟨.move (.var 10), none, none, true⟩, ⟨.move (.var 11), none, none, true⟩, ⟨.bin .leq .no (.loc 9) (.loc 10), none, none, true⟩, ⟨.pick (.loc 8) (.k (.bool true)) (.loc 11), none, none, true⟩, ⟨.move (.loc 12), none, none, true⟩, ⟨.field 0 none (.var 12), none, none, true⟩, ⟨.field 0 none (.var 12), none, none, true⟩, ⟨.bin .neq .no (.loc 15) (.k (.int .i64 0)), none, none, true⟩, ⟨.move (.loc 16), none, none, true⟩, ⟨.move (.var 13), none, none, true⟩, ⟨.move (.var 11), none, none, true⟩, ⟨.bin .leq .no (.loc 18) (.loc 19), none, none, true⟩, ⟨.pick (.loc 17) (.k (.bool true)) (.loc 20), none, none, true⟩, ⟨.pick (.loc 13) (.loc 21) (.k (.bool false)), none, none, true⟩, ⟨.move (.loc 22), none, (some 4), true⟩])
 (.ret)))))))))))))))⟩
theorem v_LCanaryStricterToleratesLess {F : Nat → Option RFunc} {me ncanary_Tolerated nLcanaryExample : Nat} (hF : F me = some (rf_LCanaryStricterToleratesLess ncanary_Tolerated nLcanaryExample)) {fl : Nat} {H : Heap} {Q : AV → Heap → Prop} (base0 : Int) (base1 : Int) (samples2 : Int) (perMille3 : Int) (more4 : Int)
  (h : ∀ (H5 : Heap), Dead1 H 1 H5 → Ret F fl ncanary_Tolerated [(.agg [(.int .i64 base0), (.int .i64 base1)]), (.int .i64 samples2), (.int .i64 perMille3)] H5 (fun v10 H9 => ∃ (r6 : Int) (r7 : Int) (r8 : Int), v10 = (.tuple [(.int .i64 r6), (.agg [(.int .i64 r7), (.int .i64 r8)])]) ∧ ∀ (H11 : Heap), Dead1 H9 1 H11 → Ret F fl ncanary_Tolerated [(.agg [(.int .i64 base0), (.int .i64 base1)]), (.int .i64 samples2), (.int .i64 more4)] H11 (fun v16 H15 => ∃ (r12 : Int) (r13 : Int) (r14 : Int), v16 = (.tuple [(.int .i64 r12), (.agg [(.int .i64 r13), (.int .i64 r14)])]) ∧ ∀ (H17 : Heap), Dead1 H15 1 H17 → Ret F fl ncanary_Tolerated [(.agg [(.int .i64 (IntKind.wrap .i64 (base0 + 1))), (.int .i64 (IntKind.wrap .i64 (base1 - 1)))]), (.int .i64 samples2), (.int .i64 perMille3)] H17 (fun v22 H21 => ∃ (r18 : Int) (r19 : Int) (r20 : Int), v22 = (.tuple [(.int .i64 r18), (.agg [(.int .i64 r19), (.int .i64 r20)])]) ∧ ∀ (H23 : Heap), Dead1 H21 1 H23 → Ret F fl nLcanaryExample [] H23 (fun v26 H25 => ∃ (r24 : Bool), v26 = (.bool r24) ∧ ((¬(r24 = true)) → Q (.bool false) H25) ∧ (¬(¬(r24 = true)) → ((r7 ≠ 0) → Q (.bool true) H25) ∧ (¬(r7 ≠ 0) → Q (.bool (((((r13) != 0) || (decide (more4 < perMille3))) || (decide (r12 ≤ r6))) && (((r19) != 0) || (decide (r18 ≤ r6))))) H25))))))) : Ret F fl me [(.agg [(.int .i64 base0), (.int .i64 base1)]), (.int .i64 samples2), (.int .i64 perMille3), (.int .i64 more4)] H Q := by
  refine ret_intro hF rfl ?_
  refine w_seq ?_
  refine w_run [1, 0] ?_
  obtain ⟨H5, hb⟩ : ∃ H', Dead1 H 1 H' := ⟨_, ⟨rfl⟩⟩
  replace h := h H5 hb
  refine t_tomb true 1 (.agg [(.int .i64 base0), (.int .i64 base1)]) [(.int .i64 base0), (.int .i64 base1)] H5 H (by kernel_rfl) rfl hb ?_
  refine t_done [(.agg [(.int .i64 base0), (.int .i64 base1)]), (.int .i64 samples2), (.int .i64 perMille3), (.int .i64 more4), (.bool false), (.agg [(.int .i64 base0), (.int .i64 base1)]), .undef, .undef, .undef, .undef, .undef, .undef, .undef, .undef] H5 (by kernel_rfl) ?_
  refine then_norm ?_
  refine w_seq ?_
  refine w_run [0, 0, 0, 1, 0, 0, 0, 1, 0, 1] ?_
  refine t_call true ncanary_Tolerated [(.agg [(.int .i64 base0), (.int .i64 base1)]), (.int .i64 samples2), (.int .i64 perMille3)] H5 (by kernel_rfl) h ?_
  clear h
  rintro _ H9 ⟨r6, r7, r8, rfl, h⟩
  obtain ⟨H11, hb⟩ : ∃ H', Dead1 H9 1 H' := ⟨_, ⟨rfl⟩⟩
  replace h := h H11 hb
  refine t_tomb true 1 (.agg [(.int .i64 0), (.int .i64 0)]) [(.int .i64 0), (.int .i64 0)] H11 H9 (by kernel_rfl) rfl hb ?_
  refine t_upd true 2 0 [(.int .i64 0), (.int .i64 0)] (.agg [(.int .i64 r7), (.int .i64 r8)]) [(.int .i64 r7), (.int .i64 r8)] [(.int .i64 r7), (.int .i64 r8)] H11 (by kernel_rfl) rfl (all_c rfl (all_c rfl all_n)) ⟨rfl, Nat.le_of_ble_eq_true (by kernel_rfl), rfl⟩ ?_
  refine t_done [(.agg [(.int .i64 base0), (.int .i64 base1)]), (.int .i64 samples2), (.int .i64 perMille3), (.int .i64 more4), (.bool false), (.agg [(.int .i64 base0), (.int .i64 base1)]), .undef, (.agg [(.int .i64 r7), (.int .i64 r8)]), .undef, .undef, .undef, (.int .i64 r6), .undef, .undef] H11 (by kernel_rfl) ?_
  refine then_norm ?_
  refine w_seq ?_
  refine w_run [0, 0, 0, 1, 0, 0, 0, 1, 0, 1] ?_
  refine t_call true ncanary_Tolerated [(.agg [(.int .i64 base0), (.int .i64 base1)]), (.int .i64 samples2), (.int .i64 more4)] H11 (by kernel_rfl) h ?_
  clear h
  rintro _ H15 ⟨r12, r13, r14, rfl, h⟩
  obtain ⟨H17, hb⟩ : ∃ H', Dead1 H15 1 H' := ⟨_, ⟨rfl⟩⟩
  replace h := h H17 hb
  refine t_tomb true 1 (.agg [(.int .i64 0), (.int .i64 0)]) [(.int .i64 0), (.int .i64 0)] H17 H15 (by kernel_rfl) rfl hb ?_
  refine t_upd true 2 0 [(.int .i64 0), (.int .i64 0)] (.agg [(.int .i64 r13), (.int .i64 r14)]) [(.int .i64 r13), (.int .i64 r14)] [(.int .i64 r13), (.int .i64 r14)] H17 (by kernel_rfl) rfl (all_c rfl (all_c rfl all_n)) ⟨rfl, Nat.le_of_ble_eq_true (by kernel_rfl), rfl⟩ ?_
  refine t_done [(.agg [(.int .i64 base0), (.int .i64 base1)]), (.int .i64 samples2), (.int .i64 perMille3), (.int .i64 more4), (.bool false), (.agg [(.int .i64 base0), (.int .i64 base1)]), .undef, (.agg [(.int .i64 r7), (.int .i64 r8)]), .undef, (.agg [(.int .i64 r13), (.int .i64 r14)]), (.int .i64 r12), (.int .i64 r6), .undef, .undef] H17 (by kernel_rfl) ?_
  refine then_norm ?_
  refine w_seq ?_
  refine w_run [0, 0, 0, 0, 0, 0, 1, 0, 0, 1, 0, 0, 0, 1, 0, 1] ?_
  refine t_build true [(.int .i64 0), (.int .i64 0)] [(0, 1, .loc 0), (1, 1, .loc 1)] [(.int .i64 (IntKind.wrap .i64 (base0 + 1))), (.int .i64 (IntKind.wrap .i64 (base1 - 1)))] [(.int .i64 (IntKind.wrap .i64 (base0 + 1))), (.int .i64 (IntKind.wrap .i64 (base1 - 1)))] H17 (by kernel_rfl) (fill_c (vs := [(.int .i64 (IntKind.wrap .i64 (base0 + 1)))]) (size := 1) rfl (by kernel_rfl) (by kernel_rfl) (fill_c (vs := [(.int .i64 (IntKind.wrap .i64 (base1 - 1)))]) (size := 1) rfl (by kernel_rfl) (by kernel_rfl) (by kernel_rfl))) ?_
  refine t_call true ncanary_Tolerated [(.agg [(.int .i64 (IntKind.wrap .i64 (base0 + 1))), (.int .i64 (IntKind.wrap .i64 (base1 - 1)))]), (.int .i64 samples2), (.int .i64 perMille3)] H17 (by kernel_rfl) h ?_
  clear h
  rintro _ H21 ⟨r18, r19, r20, rfl, h⟩
  obtain ⟨H23, hb⟩ : ∃ H', Dead1 H21 1 H' := ⟨_, ⟨rfl⟩⟩
  replace h := h H23 hb
  refine t_tomb true 1 (.agg [(.int .i64 0), (.int .i64 0)]) [(.int .i64 0), (.int .i64 0)] H23 H21 (by kernel_rfl) rfl hb ?_
  refine t_upd true 2 0 [(.int .i64 0), (.int .i64 0)] (.agg [(.int .i64 r19), (.int .i64 r20)]) [(.int .i64 r19), (.int .i64 r20)] [(.int .i64 r19), (.int .i64 r20)] H23 (by kernel_rfl) rfl (all_c rfl (all_c rfl all_n)) ⟨rfl, Nat.le_of_ble_eq_true (by kernel_rfl), rfl⟩ ?_
  refine t_done [(.agg [(.int .i64 base0), (.int .i64 base1)]), (.int .i64 samples2), (.int .i64 perMille3), (.int .i64 more4), (.bool false), (.agg [(.int .i64 base0), (.int .i64 base1)]), .undef, (.agg [(.int .i64 r7), (.int .i64 r8)]), .undef, (.agg [(.int .i64 r13), (.int .i64 r14)]), (.int .i64 r12), (.int .i64 r6), (.agg [(.int .i64 r19), (.int .i64 r20)]), (.int .i64 r18)] H23 (by kernel_rfl) ?_
  refine then_norm ?_
  refine w_seq ?_
  refine w_seq ?_
  refine w_run [1, 0] ?_
  refine t_call true nLcanaryExample [] H23 (by kernel_rfl) h ?_
  clear h
  rintro _ H25 ⟨r24, rfl, h⟩
  refine t_done [(.agg [(.int .i64 base0), (.int .i64 base1)]), (.int .i64 samples2), (.int .i64 perMille3), (.int .i64 more4), (.bool false), (.agg [(.int .i64 base0), (.int .i64 base1)]), (.bool (!r24)), (.agg [(.int .i64 r7), (.int .i64 r8)]), .undef, (.agg [(.int .i64 r13), (.int .i64 r14)]), (.int .i64 r12), (.int .i64 r6), (.agg [(.int .i64 r19), (.int .i64 r20)]), (.int .i64 r18)] H25 (by kernel_rfl) ?_
  refine then_norm ?_
  refine w_cond (t := (!r24)) rfl (fun hc => ?_) (fun hc => ?_)
  · replace h := h.1 ((is_not is_raw).t hc)
    refine w_seq ?_
    refine w_run [0] ?_
    refine t_done [(.agg [(.int .i64 base0), (.int .i64 base1)]), (.int .i64 samples2), (.int .i64 perMille3), (.int .i64 more4), (.bool false), (.agg [(.int .i64 base0), (.int .i64 base1)]), (.bool (!r24)), (.agg [(.int .i64 r7), (.int .i64 r8)]), .undef, (.agg [(.int .i64 r13), (.int .i64 r14)]), (.int .i64 r12), (.int .i64 r6), (.agg [(.int .i64 r19), (.int .i64 r20)]), (.int .i64 r18)] H25 (by kernel_rfl) ?_
    refine then_norm ?_
    refine w_ret ?_
    refine then_ret ?_
    exact body_ret (vs := [(.bool false)]) _ (by kernel_rfl) rfl h
  · replace h := h.2 ((is_not is_raw).f hc)
    refine w_skip ?_
    refine then_norm ?_
    refine w_seq ?_
    refine w_seq ?_
    refine w_run [0, 0, 0] ?_
    refine t_done [(.agg [(.int .i64 base0), (.int .i64 base1)]), (.int .i64 samples2), (.int .i64 perMille3), (.int .i64 more4), (.bool false), (.agg [(.int .i64 base0), (.int .i64 base1)]), (.bool (!r24)), (.agg [(.int .i64 r7), (.int .i64 r8)]), (.bool ((r7) != 0)), (.agg [(.int .i64 r13), (.int .i64 r14)]), (.int .i64 r12), (.int .i64 r6), (.agg [(.int .i64 r19), (.int .i64 r20)]), (.int .i64 r18)] H25 (by kernel_rfl) ?_
    refine then_norm ?_
    refine w_cond (t := ((r7) != 0)) rfl (fun hc => ?_) (fun hc => ?_)
    · replace h := h.1 (is_ne.t hc)
      refine w_seq ?_
      refine w_run [0] ?_
      refine t_done [(.agg [(.int .i64 base0), (.int .i64 base1)]), (.int .i64 samples2), (.int .i64 perMille3), (.int .i64 more4), (.bool true), (.agg [(.int .i64 base0), (.int .i64 base1)]), (.bool (!r24)), (.agg [(.int .i64 r7), (.int .i64 r8)]), (.bool ((r7) != 0)), (.agg [(.int .i64 r13), (.int .i64 r14)]), (.int .i64 r12), (.int .i64 r6), (.agg [(.int .i64 r19), (.int .i64 r20)]), (.int .i64 r18)] H25 (by kernel_rfl) ?_
      refine then_norm ?_
      refine w_ret ?_
      refine then_ret ?_
      exact body_ret (vs := [(.bool true)]) _ (by kernel_rfl) rfl h
    · replace h := h.2 (is_ne.f hc)
      refine w_skip ?_
      refine then_norm ?_
      refine w_seq ?_
      refine w_run [0, 0, 0, 0, 0, 0, 0, 0, 0, 0, 0, 0, 0, 0, 0, 0, 0, 0, 0, 0, 0, 0, 0, 0] ?_
      refine t_done [(.agg [(.int .i64 base0), (.int .i64 base1)]), (.int .i64 samples2), (.int .i64 perMille3), (.int .i64 more4), (.bool (((((r13) != 0) || (decide (more4 < perMille3))) || (decide (r12 ≤ r6))) && (((r19) != 0) || (decide (r18 ≤ r6))))), (.agg [(.int .i64 base0), (.int .i64 base1)]), (.bool (!r24)), (.agg [(.int .i64 r7), (.int .i64 r8)]), (.bool ((r7) != 0)), (.agg [(.int .i64 r13), (.int .i64 r14)]), (.int .i64 r12), (.int .i64 r6), (.agg [(.int .i64 r19), (.int .i64 r20)]), (.int .i64 r18)] H25 (by kernel_rfl) ?_
      refine then_norm ?_
      refine w_ret ?_
      exact body_ret (vs := [(.bool (((((r13) != 0) || (decide (more4 < perMille3))) || (decide (r12 ≤ r6))) && (((r19) != 0) || (decide (r18 ≤ r6)))))]) _ (by kernel_rfl) rfl h

-- LcanaryExample
def rf_LcanaryExample (ncanary_Tail ncanary_Decide ncanary_Tolerated : Nat) : RFunc := ⟨0, 10, [.var 0],
 ((.seq (.ops [⟨.move (.k (.bool false)), none, (some 0), true⟩])
 ((.seq (.ops [⟨.build [.int .i64 0, .int .i64 0] [(0, 1, (.k (.int .i64 1)))], none, none, true⟩, ⟨.build [.int .i64 0, .int .i64 0] [(1, 1, (.k (.int .i64 1)))], none, none, true⟩, ⟨.callS ncanary_Tail [(.loc 0), (.loc 1)], none, none, true⟩, ⟨.move (.loc 2), none, none, true⟩, ⟨.extract (.loc 3) 0, none, none, true⟩, ⟨.extract (.loc 3) 1, none, none, true⟩, ⟨.extract (.loc 3) 2, none, none, true⟩, ⟨.tomb 1 (.k (.agg [.int .i64 0, .int .i64 0])), none, (some 6), true⟩, ⟨.move (.loc 4), none, (some 1), true⟩, ⟨.move (.loc 5), none, (some 2), true⟩, ⟨.upd 2 0 (.loc 7) (.loc 6), none, (some 6), true⟩])
 ((.seq (.ops [⟨.build [.int .i64 0, .int .i64 0] [(0, 1, (.k (.int .i64 20)))], none, none, true⟩, ⟨.build [.int .i64 0, .int .i64 0] [(1, 1, (.k (.int .i64 20)))], none, none, true⟩, ⟨.callS ncanary_Decide [(.loc 0), (.loc 1), (.k (.int .i64 5)), (.k (.int .i64 50))], none, none, true⟩, ⟨.move (.loc 2), none, none, true⟩, ⟨.extract (.loc 3) 0, none, none, true⟩, ⟨.extract (.loc 3) 1, none, none, true⟩, ⟨.tomb 1 (.k (.agg [.int .i64 0, .int .i64 0])), none, (some 7), true⟩, ⟨.move (.loc 4), none, (some 3), true⟩, ⟨.upd 2 0 (.loc 6) (.loc 5), none, (some 7), true⟩])
 ((.seq (.ops [⟨.build [.int .i64 0, .int .i64 0] [(0, 1, (.k (.int .i64 20)))], none, none, true⟩, ⟨.build [.int .i64 0, .int .i64 0] [(0, 1, (.k (.int .i64 2)))], none, none, true⟩, ⟨.callS ncanary_Decide [(.loc 0), (.loc 1), (.k (.int .i64 5)), (.k (.int .i64 50))], none, none, true⟩, ⟨.move (.loc 2), none, none, true⟩, ⟨.extract (.loc 3) 0, none, none, true⟩, ⟨.extract (.loc 3) 1, none, none, true⟩, ⟨.tomb 1 (.k (.agg [.int .i64 0, .int .i64 0])), none, (some 8), true⟩, ⟨.move (.loc 4), none, (some 4), true⟩, ⟨.upd 2 0 (.loc 6) (.loc 5), none, (some 8), true⟩])
 ((.seq (.ops [⟨.build [.int .i64 0, .int .i64 0] [(0, 1, (.k (.int .i64 9)))], none, none, true⟩, ⟨.callS ncanary_Tolerated [(.loc 0), (.k (.int .i64 7)), (.k (.int .i64 0))], none, none, true⟩, ⟨.move (.loc 1), none, none, true⟩, ⟨.extract (.loc 2) 0, none, none, true⟩, ⟨.extract (.loc 2) 1, none, none, true⟩, ⟨.tomb 1 (.k (.agg [.int .i64 0, .int .i64 0])), none, (some 9), true⟩, ⟨.move (.loc 3), none, (some 5), true⟩, ⟨.upd 2 0 (.loc 5) (.loc 4), none, (some 9), true⟩])
 ((.seq (.ops [⟨.move (.var 1), none, none, true⟩, ⟨.bin .eql .no (.loc 0) (.k (.int .i64 1)), none, none, true⟩, ⟨.move (.loc 1), none, none, true⟩, ⟨.move (.var 2), none, none, true⟩, ⟨.bin .eql .no (.loc 3) (.k (.int .i64 2)), none, none, true⟩, ⟨.pick (.loc 2) (.loc 4) (.k (.bool false)), none, none, true⟩, ⟨.move (.loc 5), none, none, true⟩, ⟨.move (.var 3), none, none, true⟩, ⟨.bin .eql .no (.loc 7) (.k (.int .i64 3)), none, none, true⟩, ⟨.pick (.loc 6) (.loc 8) (.k (.bool false)), none, none, true⟩, ⟨.move (.loc 9), none, none, true⟩, ⟨.move (.var 4), none, none, true⟩, ⟨.bin .eql .no (.loc 11) (.k (.int .i64 1)), none, none, true⟩, ⟨.pick (.loc 10) (.loc 12) (.k (.bool false)), none, none, true⟩, ⟨.move (.loc 13), none, none, true⟩, ⟨.move (.var 5), none, none, true⟩, ⟨.bin .eql .no (.loc 15) (.k (.int .i64 7)), none, none, true⟩, ⟨.pick (.loc 14) (.loc 16) (.k (.bool false)), none, none, true⟩, ⟨.move (.loc 17), none, none, true⟩, ⟨.field 0 none (.var 6), none, none, true⟩, ⟨.field 0 none (.var 6), none, none, true⟩, ⟨.bin .eql .no (.loc 20) (.k (.int .i64 0)), none, none, true⟩, ⟨.pick (.loc 18) (.loc 21) (.k (.bool false)), none, none, true⟩, ⟨.move (.loc 22), none, none, true⟩, ⟨.field 0 none (.var 7), none, none, true⟩, ⟨.field 0 none (.var 7), none, none, true⟩, ⟨.bin .eql .no (.loc 25) (.k (.int .i64 0)), none, none, true⟩, ⟨.pick (.loc 23) (.loc 26) (.k (.bool false)), none, none, true⟩, ⟨.move (.loc 27), none, none, true⟩, ⟨.field 0 none (.var 8), none, none, true⟩, ⟨.field 0 none (.var 8), none, none, true⟩, ⟨.bin .eql .no (.loc 30) (.k (.int .i64 0)), none, none, true⟩, ⟨.pick (.loc 28) (.loc 31) (.k (.bool false)), none, none, true⟩, ⟨.move (.loc 32), none, none, true⟩, ⟨.field 0 none (.var 9), none, none, true⟩, ⟨.field 0 none (.var 9), none, none, true⟩, ⟨.bin .eql .no (.loc 35) (.k (.int .i64 0)), none, none, true⟩, ⟨.pick (.loc 33) (.loc 36) (.k (.bool false)), none, none, true⟩, ⟨.move (.loc 37), none, (some 0), true⟩])
 (.ret)))))))))))))⟩
theorem v_LcanaryExample {F : Nat → Option RFunc} {me ncanary_Tail ncanary_Decide ncanary_Tolerated : Nat} (hF : F me = some (rf_LcanaryExample ncanary_Tail ncanary_Decide ncanary_Tolerated)) {fl : Nat} {H : Heap} {Q : AV → Heap → Prop} 
  (h : Ret F fl ncanary_Tail [(.agg [(.int .i64 1), (.int .i64 0)]), (.agg [(.int .i64 0), (.int .i64 1)])] H (fun v5 H4 => ∃ (r0 : Int) (r1 : Int) (r2 : Int) (r3 : Int), v5 = (.tuple [(.int .i64 r0), (.int .i64 r1), (.agg [(.int .i64 r2), (.int .i64 r3)])]) ∧ ∀ (H6 : Heap), Dead1 H4 1 H6 → Ret F fl ncanary_Decide [(.agg [(.int .i64 20), (.int .i64 0)]), (.agg [(.int .i64 0), (.int .i64 20)]), (.int .i64 5), (.int .i64 50)] H6 (fun v11 H10 => ∃ (r7 : Int) (r8 : Int) (r9 : Int), v11 = (.tuple [(.int .i64 r7), (.agg [(.int .i64 r8), (.int .i64 r9)])]) ∧ ∀ (H12 : Heap), Dead1 H10 1 H12 → Ret F fl ncanary_Decide [(.agg [(.int .i64 20), (.int .i64 0)]), (.agg [(.int .i64 2), (.int .i64 0)]), (.int .i64 5), (.int .i64 50)] H12 (fun v17 H16 => ∃ (r13 : Int) (r14 : Int) (r15 : Int), v17 = (.tuple [(.int .i64 r13), (.agg [(.int .i64 r14), (.int .i64 r15)])]) ∧ ∀ (H18 : Heap), Dead1 H16 1 H18 → Ret F fl ncanary_Tolerated [(.agg [(.int .i64 9), (.int .i64 0)]), (.int .i64 7), (.int .i64 0)] H18 (fun v23 H22 => ∃ (r19 : Int) (r20 : Int) (r21 : Int), v23 = (.tuple [(.int .i64 r19), (.agg [(.int .i64 r20), (.int .i64 r21)])]) ∧ ∀ (H24 : Heap), Dead1 H22 1 H24 → Q (.bool ((((((((((r0) == 1) && ((r1) == 2)) && ((r7) == 3)) && ((r13) == 1)) && ((r19) == 7)) && ((r2) == 0)) && ((r8) == 0)) && ((r14) == 0)) && ((r20) == 0))) H24))))) : Ret F fl me [] H Q := by
  refine ret_intro hF rfl ?_
  refine w_seq ?_
  refine w_run [0] ?_
  refine t_done [(.bool false), .undef, .undef, .undef, .undef, .undef, .undef, .undef, .undef, .undef] H (by kernel_rfl) ?_
  refine then_norm ?_
  refine w_seq ?_
  refine w_run [1, 1, 1, 0, 0, 0, 0, 1, 0, 0, 1] ?_
  refine t_build true [(.int .i64 0), (.int .i64 0)] [(0, 1, .loc 0)] [(.int .i64 1)] [(.int .i64 1), (.int .i64 0)] H (by kernel_rfl) (fill_c (vs := [(.int .i64 1)]) (size := 1) rfl (by kernel_rfl) (by kernel_rfl) (by kernel_rfl)) ?_
  refine t_build true [(.int .i64 0), (.int .i64 0)] [(1, 1, .loc 0)] [(.int .i64 1)] [(.int .i64 0), (.int .i64 1)] H (by kernel_rfl) (fill_c (vs := [(.int .i64 1)]) (size := 1) rfl (by kernel_rfl) (by kernel_rfl) (by kernel_rfl)) ?_
  refine t_call true ncanary_Tail [(.agg [(.int .i64 1), (.int .i64 0)]), (.agg [(.int .i64 0), (.int .i64 1)])] H (by kernel_rfl) h ?_
  clear h
  rintro _ H4 ⟨r0, r1, r2, r3, rfl, h⟩
  obtain ⟨H6, hb⟩ : ∃ H', Dead1 H4 1 H' := ⟨_, ⟨rfl⟩⟩
  replace h := h H6 hb
  refine t_tomb true 1 (.agg [(.int .i64 0), (.int .i64 0)]) [(.int .i64 0), (.int .i64 0)] H6 H4 (by kernel_rfl) rfl hb ?_
  refine t_upd true 2 0 [(.int .i64 0), (.int .i64 0)] (.agg [(.int .i64 r2), (.int .i64 r3)]) [(.int .i64 r2), (.int .i64 r3)] [(.int .i64 r2), (.int .i64 r3)] H6 (by kernel_rfl) rfl (all_c rfl (all_c rfl all_n)) ⟨rfl, Nat.le_of_ble_eq_true (by kernel_rfl), rfl⟩ ?_
  refine t_done [(.bool false), (.int .i64 r0), (.int .i64 r1), .undef, .undef, .undef, (.agg [(.int .i64 r2), (.int .i64 r3)]), .undef, .undef, .undef] H6 (by kernel_rfl) ?_
  refine then_norm ?_
  refine w_seq ?_
  refine w_run [1, 1, 1, 0, 0, 0, 1, 0, 1] ?_
  refine t_build true [(.int .i64 0), (.int .i64 0)] [(0, 1, .loc 0)] [(.int .i64 20)] [(.int .i64 20), (.int .i64 0)] H6 (by kernel_rfl) (fill_c (vs := [(.int .i64 20)]) (size := 1) rfl (by kernel_rfl) (by kernel_rfl) (by kernel_rfl)) ?_
  refine t_build true [(.int .i64 0), (.int .i64 0)] [(1, 1, .loc 0)] [(.int .i64 20)] [(.int .i64 0), (.int .i64 20)] H6 (by kernel_rfl) (fill_c (vs := [(.int .i64 20)]) (size := 1) rfl (by kernel_rfl) (by kernel_rfl) (by kernel_rfl)) ?_
  refine t_call true ncanary_Decide [(.agg [(.int .i64 20), (.int .i64 0)]), (.agg [(.int .i64 0), (.int .i64 20)]), (.int .i64 5), (.int .i64 50)] H6 (by kernel_rfl) h ?_
  clear h
  rintro _ H10 ⟨r7, r8, r9, rfl, h⟩
  obtain ⟨H12, hb⟩ : ∃ H', Dead1 H10 1 H' := ⟨_, ⟨rfl⟩⟩
  replace h := h H12 hb
  refine t_tomb true 1 (.agg [(.int .i64 0), (.int .i64 0)]) [(.int .i64 0), (.int .i64 0)] H12 H10 (by kernel_rfl) rfl hb ?_
  refine t_upd true 2 0 [(.int .i64 0), (.int .i64 0)] (.agg [(.int .i64 r8), (.int .i64 r9)]) [(.int .i64 r8), (.int .i64 r9)] [(.int .i64 r8), (.int .i64 r9)] H12 (by kernel_rfl) rfl (all_c rfl (all_c rfl all_n)) ⟨rfl, Nat.le_of_ble_eq_true (by kernel_rfl), rfl⟩ ?_
  refine t_done [(.bool false), (.int .i64 r0), (.int .i64 r1), (.int .i64 r7), .undef, .undef, (.agg [(.int .i64 r2), (.int .i64 r3)]), (.agg [(.int .i64 r8), (.int .i64 r9)]), .undef, .undef] H12 (by kernel_rfl) ?_
  refine then_norm ?_
  refine w_seq ?_
  refine w_run [1, 1, 1, 0, 0, 0, 1, 0, 1] ?_
  refine t_build true [(.int .i64 0), (.int .i64 0)] [(0, 1, .loc 0)] [(.int .i64 20)] [(.int .i64 20), (.int .i64 0)] H12 (by kernel_rfl) (fill_c (vs := [(.int .i64 20)]) (size := 1) rfl (by kernel_rfl) (by kernel_rfl) (by kernel_rfl)) ?_
  refine t_build true [(.int .i64 0), (.int .i64 0)] [(0, 1, .loc 0)] [(.int .i64 2)] [(.int .i64 2), (.int .i64 0)] H12 (by kernel_rfl) (fill_c (vs := [(.int .i64 2)]) (size := 1) rfl (by kernel_rfl) (by kernel_rfl) (by kernel_rfl)) ?_
  refine t_call true ncanary_Decide [(.agg [(.int .i64 20), (.int .i64 0)]), (.agg [(.int .i64 2), (.int .i64 0)]), (.int .i64 5), (.int .i64 50)] H12 (by kernel_rfl) h ?_
  clear h
  rintro _ H16 ⟨r13, r14, r15, rfl, h⟩
  obtain ⟨H18, hb⟩ : ∃ H', Dead1 H16 1 H' := ⟨_, ⟨rfl⟩⟩
  replace h := h H18 hb
  refine t_tomb true 1 (.agg [(.int .i64 0), (.int .i64 0)]) [(.int .i64 0), (.int .i64 0)] H18 H16 (by kernel_rfl) rfl hb ?_
  refine t_upd true 2 0 [(.int .i64 0), (.int .i64 0)] (.agg [(.int .i64 r14), (.int .i64 r15)]) [(.int .i64 r14), (.int .i64 r15)] [(.int .i64 r14), (.int .i64 r15)] H18 (by kernel_rfl) rfl (all_c rfl (all_c rfl all_n)) ⟨rfl, Nat.le_of_ble_eq_true (by kernel_rfl), rfl⟩ ?_
  refine t_done [(.bool false), (.int .i64 r0), (.int .i64 r1), (.int .i64 r7), (.int .i64 r13), .undef, (.agg [(.int .i64 r2), (.int .i64 r3)]), (.agg [(.int .i64 r8), (.int .i64 r9)]), (.agg [(.int .i64 r14), (.int .i64 r15)]), .undef] H18 (by kernel_rfl) ?_
  refine then_norm ?_
  refine w_seq ?_
  refine w_run [1, 1, 0, 0, 0, 1, 0, 1] ?_
  refine t_build true [(.int .i64 0), (.int .i64 0)] [(0, 1, .loc 0)] [(.int .i64 9)] [(.int .i64 9), (.int .i64 0)] H18 (by kernel_rfl) (fill_c (vs := [(.int .i64 9)]) (size := 1) rfl (by kernel_rfl) (by kernel_rfl) (by kernel_rfl)) ?_
  refine t_call true ncanary_Tolerated [(.agg [(.int .i64 9), (.int .i64 0)]), (.int .i64 7), (.int .i64 0)] H18 (by kernel_rfl) h ?_
  clear h
  rintro _ H22 ⟨r19, r20, r21, rfl, h⟩
  obtain ⟨H24, hb⟩ : ∃ H', Dead1 H22 1 H' := ⟨_, ⟨rfl⟩⟩
  replace h := h H24 hb
  refine t_tomb true 1 (.agg [(.int .i64 0), (.int .i64 0)]) [(.int .i64 0), (.int .i64 0)] H24 H22 (by kernel_rfl) rfl hb ?_
  refine t_upd true 2 0 [(.int .i64 0), (.int .i64 0)] (.agg [(.int .i64 r20), (.int .i64 r21)]) [(.int .i64 r20), (.int .i64 r21)] [(.int .i64 r20), (.int .i64 r21)] H24 (by kernel_rfl) rfl (all_c rfl (all_c rfl all_n)) ⟨rfl, Nat.le_of_ble_eq_true (by kernel_rfl), rfl⟩ ?_
  refine t_done [(.bool false), (.int .i64 r0), (.int .i64 r1), (.int .i64 r7), (.int .i64 r13), (.int .i64 r19), (.agg [(.int .i64 r2), (.int .i64 r3)]), (.agg [(.int .i64 r8), (.int .i64 r9)]), (.agg [(.int .i64 r14), (.int .i64 r15)]), (.agg [(.int .i64 r20), (.int .i64 r21)])] H24 (by kernel_rfl) ?_
  refine then_norm ?_
  refine w_seq ?_
  refine w_run [0, 0, 0, 0, 0, 0, 0, 0, 0, 0, 0, 0, 0, 0, 0, 0, 0, 0, 0, 0, 0, 0, 0, 0, 0, 0, 0, 0, 0, 0, 0, 0, 0, 0, 0, 0, 0, 0, 0] ?_
  refine t_done [(.bool ((((((((((r0) == 1) && ((r1) == 2)) && ((r7) == 3)) && ((r13) == 1)) && ((r19) == 7)) && ((r2) == 0)) && ((r8) == 0)) && ((r14) == 0)) && ((r20) == 0))), (.int .i64 r0), (.int .i64 r1), (.int .i64 r7), (.int .i64 r13), (.int .i64 r19), (.agg [(.int .i64 r2), (.int .i64 r3)]), (.agg [(.int .i64 r8), (.int .i64 r9)]), (.agg [(.int .i64 r14), (.int .i64 r15)]), (.agg [(.int .i64 r20), (.int .i64 r21)])] H24 (by kernel_rfl) ?_
  refine then_norm ?_
  refine w_ret ?_
  exact body_ret (vs := [(.bool ((((((((((r0) == 1) && ((r1) == 2)) && ((r7) == 3)) && ((r13) == 1)) && ((r19) == 7)) && ((r2) == 0)) && ((r8) == 0)) && ((r14) == 0)) && ((r20) == 0)))]) _ (by kernel_rfl) rfl h

-- LsidesFault
def rf_LsidesFault (nFCountsValid nFFault : Nat) : RFunc := ⟨2, 7, [.part 2 (some 2)],
 ((.seq (.ops [⟨.tomb 1 (.var 0), none, (some 3), true⟩, ⟨.tomb 1 (.var 1), none, (some 5), true⟩, ⟨.tomb 1 (.k (.agg [.int .i64 0, .int .i64 0])), none, (some 2), true⟩])
 ((.seq ((.seq (.ops [⟨.field 0 (some 2) (.var 3), none, none, true⟩, ⟨.callS nFCountsValid [(.loc 0)], none, none, true⟩, ⟨.un .not (.loc 1), none, (some 4), true⟩])
 (.cond (.var 4) ((.seq (.ops [⟨.callS nFFault [(.k (.int .i64 3)), (.k (.int .i64 (-1)))], none, none, true⟩, ⟨.upd 2 0 (.var 2) (.loc 0), none, (some 2), true⟩])
 (.ret))) (.skip))))
 ((.seq ((.seq (.ops [⟨.field 0 (some 2) (.var 5), none, none, true⟩, ⟨.callS nFCountsValid [(.loc 0)], none, none, true⟩, ⟨.un .not (.loc 1), none, (some 6), true⟩])
 (.cond (.var 6) ((.seq (.ops [⟨.callS nFFault [(.k (.int .i64 3)), (.k (.int .i64 (-2)))], none, none, true⟩, ⟨.upd 2 0 (.var 2) (.loc 0), none, (some 2), true⟩])
 (.ret))) (.skip))))
 ((.seq (.ops [⟨.build [.int .i64 0, .int .i64 0] [], none, none, true⟩, ⟨.upd 2 0 (.var 2) (.loc 0), none, (some 2), true⟩])
 (.ret)))))))))⟩
theorem v_LsidesFault {F : Nat → Option RFunc} {me nFCountsValid nFFault : Nat} (hF : F me = some (rf_LsidesFault nFCountsValid nFFault)) {fl : Nat} {H : Heap} {Q : AV → Heap → Prop} (base0 : Int) (base1 : Int) (other2 : Int) (other3 : Int)
  (h : ∀ (H4 : Heap), Dead1 H 1 H4 → ∀ (H5 : Heap), Dead1 H4 1 H5 → ∀ (H6 : Heap), Dead1 H5 1 H6 → Ret F fl nFCountsValid [(.agg [(.int .i64 base0), (.int .i64 base1)])] H6 (fun v9 H8 => ∃ (r7 : Bool), v9 = (.bool r7) ∧ ((¬(r7 = true)) → Ret F fl nFFault [(.int .i64 3), (.int .i64 (-1))] H8 (fun v13 H12 => ∃ (r10 : Int) (r11 : Int), v13 = (.agg [(.int .i64 r10), (.int .i64 r11)]) ∧ Q (.agg [(.int .i64 r10), (.int .i64 r11)]) H12)) ∧ (¬(¬(r7 = true)) → Ret F fl nFCountsValid [(.agg [(.int .i64 other2), (.int .i64 other3)])] H8 (fun v16 H15 => ∃ (r14 : Bool), v16 = (.bool r14) ∧ ((¬(r14 = true)) → Ret F fl nFFault [(.int .i64 3), (.int .i64 (-2))] H15 (fun v20 H19 => ∃ (r17 : Int) (r18 : Int), v20 = (.agg [(.int .i64 r17), (.int .i64 r18)]) ∧ Q (.agg [(.int .i64 r17), (.int .i64 r18)]) H19)) ∧ (¬(¬(r14 = true)) → Q (.agg [(.int .i64 0), (.int .i64 0)]) H15))))) : Ret F fl me [(.agg [(.int .i64 base0), (.int .i64 base1)]), (.agg [(.int .i64 other2), (.int .i64 other3)])] H Q := by
  refine ret_intro hF rfl ?_
  refine w_seq ?_
  refine w_run [1, 1, 1] ?_
  obtain ⟨H4, hb⟩ : ∃ H', Dead1 H 1 H' := ⟨_, ⟨rfl⟩⟩
  replace h := h H4 hb
  refine t_tomb true 1 (.agg [(.int .i64 base0), (.int .i64 base1)]) [(.int .i64 base0), (.int .i64 base1)] H4 H (by kernel_rfl) rfl hb ?_
  obtain ⟨H5, hb⟩ : ∃ H', Dead1 H4 1 H' := ⟨_, ⟨rfl⟩⟩
  replace h := h H5 hb
  refine t_tomb true 1 (.agg [(.int .i64 other2), (.int .i64 other3)]) [(.int .i64 other2), (.int .i64 other3)] H5 H4 (by kernel_rfl) rfl hb ?_
  obtain ⟨H6, hb⟩ : ∃ H', Dead1 H5 1 H' := ⟨_, ⟨rfl⟩⟩
  replace h := h H6 hb
  refine t_tomb true 1 (.agg [(.int .i64 0), (.int .i64 0)]) [(.int .i64 0), (.int .i64 0)] H6 H5 (by kernel_rfl) rfl hb ?_
  refine t_done [(.agg [(.int .i64 base0), (.int .i64 base1)]), (.agg [(.int .i64 other2), (.int .i64 other3)]), (.agg [(.int .i64 0), (.int .i64 0)]), (.agg [(.int .i64 base0), (.int .i64 base1)]), .undef, (.agg [(.int .i64 other2), (.int .i64 other3)]), .undef] H6 (by kernel_rfl) ?_
  refine then_norm ?_
  refine w_seq ?_
  refine w_seq ?_
  refine w_run [0, 1, 0] ?_
  refine t_call true nFCountsValid [(.agg [(.int .i64 base0), (.int .i64 base1)])] H6 (by kernel_rfl) h ?_
  clear h
  rintro _ H8 ⟨r7, rfl, h⟩
  refine t_done [(.agg [(.int .i64 base0), (.int .i64 base1)]), (.agg [(.int .i64 other2), (.int .i64 other3)]), (.agg [(.int .i64 0), (.int .i64 0)]), (.agg [(.int .i64 base0), (.int .i64 base1)]), (.bool (!r7)), (.agg [(.int .i64 other2), (.int .i64 other3)]), .undef] H8 (by kernel_rfl) ?_
  refine then_norm ?_
  refine w_cond (t := (!r7)) rfl (fun hc => ?_) (fun hc => ?_)
  · replace h := h.1 ((is_not is_raw).t hc)
    refine w_seq ?_
    refine w_run [1, 1] ?_
    refine t_call true nFFault [(.int .i64 3), (.int .i64 (-1))] H8 (by kernel_rfl) h ?_
    clear h
    rintro _ H12 ⟨r10, r11, rfl, h⟩
    refine t_upd true 2 0 [(.int .i64 0), (.int .i64 0)] (.agg [(.int .i64 r10), (.int .i64 r11)]) [(.int .i64 r10), (.int .i64 r11)] [(.int .i64 r10), (.int .i64 r11)] H12 (by kernel_rfl) rfl (all_c rfl (all_c rfl all_n)) ⟨rfl, Nat.le_of_ble_eq_true (by kernel_rfl), rfl⟩ ?_
    refine t_done [(.agg [(.int .i64 base0), (.int .i64 base1)]), (.agg [(.int .i64 other2), (.int .i64 other3)]), (.agg [(.int .i64 r10), (.int .i64 r11)]), (.agg [(.int .i64 base0), (.int .i64 base1)]), (.bool (!r7)), (.agg [(.int .i64 other2), (.int .i64 other3)]), .undef] H12 (by kernel_rfl) ?_
    refine then_norm ?_
    refine w_ret ?_
    refine then_ret ?_
    exact body_ret (vs := [(.agg [(.int .i64 r10), (.int .i64 r11)])]) _ (by kernel_rfl) rfl h
  · replace h := h.2 ((is_not is_raw).f hc)
    refine w_skip ?_
    refine then_norm ?_
    refine w_seq ?_
    refine w_seq ?_
    refine w_run [0, 1, 0] ?_
    refine t_call true nFCountsValid [(.agg [(.int .i64 other2), (.int .i64 other3)])] H8 (by kernel_rfl) h ?_
    clear h
    rintro _ H15 ⟨r14, rfl, h⟩
    refine t_done [(.agg [(.int .i64 base0), (.int .i64 base1)]), (.agg [(.int .i64 other2), (.int .i64 other3)]), (.agg [(.int .i64 0), (.int .i64 0)]), (.agg [(.int .i64 base0), (.int .i64 base1)]), (.bool (!r7)), (.agg [(.int .i64 other2), (.int .i64 other3)]), (.bool (!r14))] H15 (by kernel_rfl) ?_
    refine then_norm ?_
    refine w_cond (t := (!r14)) rfl (fun hc => ?_) (fun hc => ?_)
    · replace h := h.1 ((is_not is_raw).t hc)
      refine w_seq ?_
      refine w_run [1, 1] ?_
      refine t_call true nFFault [(.int .i64 3), (.int .i64 (-2))] H15 (by kernel_rfl) h ?_
      clear h
      rintro _ H19 ⟨r17, r18, rfl, h⟩
      refine t_upd true 2 0 [(.int .i64 0), (.int .i64 0)] (.agg [(.int .i64 r17), (.int .i64 r18)]) [(.int .i64 r17), (.int .i64 r18)] [(.int .i64 r17), (.int .i64 r18)] H19 (by kernel_rfl) rfl (all_c rfl (all_c rfl all_n)) ⟨rfl, Nat.le_of_ble_eq_true (by kernel_rfl), rfl⟩ ?_
      refine t_done [(.agg [(.int .i64 base0), (.int .i64 base1)]), (.agg [(.int .i64 other2), (.int .i64 other3)]), (.agg [(.int .i64 r17), (.int .i64 r18)]), (.agg [(.int .i64 base0), (.int .i64 base1)]), (.bool (!r7)), (.agg [(.int .i64 other2), (.int .i64 other3)]), (.bool (!r14))] H19 (by kernel_rfl) ?_
      refine then_norm ?_
      refine w_ret ?_
      refine then_ret ?_
      exact body_ret (vs := [(.agg [(.int .i64 r17), (.int .i64 r18)])]) _ (by kernel_rfl) rfl h
    · replace h := h.2 ((is_not is_raw).f hc)
      refine w_skip ?_
      refine then_norm ?_
      refine w_seq ?_
      refine w_run [1, 1] ?_
      refine t_build true [(.int .i64 0), (.int .i64 0)] [] [] [(.int .i64 0), (.int .i64 0)] H15 (by kernel_rfl) (by kernel_rfl) ?_
      refine t_upd true 2 0 [(.int .i64 0), (.int .i64 0)] (.agg [(.int .i64 0), (.int .i64 0)]) [(.int .i64 0), (.int .i64 0)] [(.int .i64 0), (.int .i64 0)] H15 (by kernel_rfl) rfl (all_c rfl (all_c rfl all_n)) ⟨rfl, Nat.le_of_ble_eq_true (by kernel_rfl), rfl⟩ ?_
      refine t_done [(.agg [(.int .i64 base0), (.int .i64 base1)]), (.agg [(.int .i64 other2), (.int .i64 other3)]), (.agg [(.int .i64 0), (.int .i64 0)]), (.agg [(.int .i64 base0), (.int .i64 base1)]), (.bool (!r7)), (.agg [(.int .i64 other2), (.int .i64 other3)]), (.bool (!r14))] H15 (by kernel_rfl) ?_
      refine then_norm ?_
      refine w_ret ?_
      exact body_ret (vs := [(.agg [(.int .i64 0), (.int .i64 0)])]) _ (by kernel_rfl) rfl h

end Go.RM
