import Derived.Test.YtlcoalimkpjjpaaRmVc
/-
  Functions of the program as the abstract machine runs them, and what must be shown of a run: printed by RmPrint.
-/
namespace Go.RM
set_option linter.unusedVariables false
set_option maxRecDepth 4000
def rf_LRolloutFunctionsMatchSpec (nrollout_Run nrollout_Versions nLrolloutExample nFFault nFCountsValid nFDeployment_Step nFDeployment_State nFEqualRings nFEqualInts : Nat) : RFunc := ⟨5, 29, [.var 5],
 ((.seq (.ops [⟨.tomb 1 (.var 1), none, (some 6), true⟩, ⟨.move (.k (.bool false)), none, (some 5), true⟩])
 ((.seq (.ops [⟨.move (.var 0), none, none, true⟩, ⟨.field 0 (some 2) (.var 6), none, none, true⟩, ⟨.move (.var 2), none, none, true⟩, ⟨.move (.var 3), none, none, true⟩, ⟨.move (.var 4), none, none, true⟩, ⟨.callS nrollout_Run [(.loc 0), (.loc 1), (.loc 2), (.loc 3), (.loc 4)], none, none, true⟩, ⟨.move (.loc 5), none, none, true⟩, ⟨.extract (.loc 6) 0, none, none, true⟩, ⟨.extract (.loc 6) 1, none, none, true⟩, ⟨.tomb 1 (.k (.agg [.int .i64 0, .int .i64 0])), none, (some 19), true⟩, ⟨.move (.loc 7), none, (some 21), true⟩, ⟨.upd 2 0 (.loc 9) (.loc 8), none, (some 19), true⟩])
 ((.seq (.ops [⟨.move (.var 0), none, none, true⟩, ⟨.field 0 (some 2) (.var 6), none, none, true⟩, ⟨.move (.var 2), none, none, true⟩, ⟨.move (.var 3), none, none, true⟩, ⟨.move (.var 4), none, none, true⟩, ⟨.callS nrollout_Versions [(.loc 0), (.loc 1), (.loc 2), (.loc 3), (.loc 4)], none, none, true⟩, ⟨.move (.loc 5), none, none, true⟩, ⟨.extract (.loc 6) 0, none, none, true⟩, ⟨.extract (.loc 6) 1, none, none, true⟩, ⟨.tomb 1 (.k (.agg [.int .i64 0, .int .i64 0])), none, (some 20), true⟩, ⟨.move (.loc 7), none, (some 22), true⟩, ⟨.upd 2 0 (.loc 9) (.loc 8), none, (some 20), true⟩])
 ((.seq ((.seq (.ops [⟨.callS nLrolloutExample [], none, none, true⟩, ⟨.un .not (.loc 0), none, (some 7), true⟩])
 (.cond (.var 7) ((.seq (.ops [⟨.move (.k (.bool false)), none, (some 5), true⟩])
 (.ret))) (.skip))))
 ((.seq (.ops [⟨.build [.int .i64 0, .int .i64 0] [], none, none, true⟩, ⟨.tomb 1 (.k (.agg [.int .i64 0, .int .i64 0])), none, (some 9), true⟩, ⟨.upd 2 0 (.loc 1) (.loc 0), none, (some 9), true⟩])
 ((.seq ((.seq (.ops [⟨.move (.var 0), none, none, true⟩, ⟨.bin .lss .no (.loc 0) (.k (.int .i64 1)), none, none, true⟩, ⟨.move (.loc 1), none, none, true⟩, ⟨.move (.var 0), none, none, true⟩, ⟨.bin .gtr .no (.loc 3) (.k (.int .i64 5)), none, none, true⟩, ⟨.pick (.loc 2) (.k (.bool true)) (.loc 4), none, (some 8), true⟩])
 (.cond (.var 8) (.ops [⟨.callS nFFault [(.k (.int .i64 3)), (.k (.int .i64 (-2)))], none, none, true⟩, ⟨.upd 2 0 (.var 9) (.loc 0), none, (some 9), true⟩]) ((.seq (.ops [⟨.field 0 (some 2) (.var 6), none, none, true⟩, ⟨.callS nFCountsValid [(.loc 0)], none, none, true⟩, ⟨.un .not (.loc 1), none, none, true⟩, ⟨.move (.loc 2), none, none, true⟩, ⟨.move (.var 2), none, none, true⟩, ⟨.bin .lss .no (.loc 4) (.k (.int .i64 0)), none, none, true⟩, ⟨.pick (.loc 3) (.k (.bool true)) (.loc 5), none, none, true⟩, ⟨.move (.loc 6), none, none, true⟩, ⟨.move (.var 2), none, none, true⟩, ⟨.bin .gtr .no (.loc 8) (.k (.int .i64 25)), none, none, true⟩, ⟨.pick (.loc 7) (.k (.bool true)) (.loc 9), none, none, true⟩, ⟨.move (.loc 10), none, none, true⟩, ⟨.move (.var 3), none, none, true⟩, ⟨.bin .lss .no (.loc 12) (.k (.int .i64 0)), none, none, true⟩, ⟨.pick (.loc 11) (.k (.bool true)) (.loc 13), none, none, true⟩, ⟨.move (.loc 14), none, none, true⟩, ⟨.move (.var 3), none, none, true⟩, ⟨.bin .geq .no (.loc 16) (.k (.int .i64 1000)), none, none, true⟩, ⟨.pick (.loc 15) (.k (.bool true)) (.loc 17), none, (some 10), true⟩])
 (.cond (.var 10) (.ops [⟨.callS nFFault [(.k (.int .i64 3)), (.k (.int .i64 (-3)))], none, none, true⟩, ⟨.upd 2 0 (.var 9) (.loc 0), none, (some 9), true⟩]) ((.seq (.ops [⟨.move (.var 4), none, none, true⟩, ⟨.len (.loc 0), none, none, true⟩, ⟨.bin .gtr .no (.loc 1) (.k (.int .i64 40)), none, (some 11), true⟩])
 (.cond (.var 11) (.ops [⟨.callS nFFault [(.k (.int .i64 2)), (.k (.int .i64 (-1)))], none, none, true⟩, ⟨.upd 2 0 (.var 9) (.loc 0), none, (some 9), true⟩]) (.skip))))))))))
 ((.seq (.ops [⟨.move (.var 0), none, none, true⟩, ⟨.field 0 (some 2) (.var 6), none, none, true⟩, ⟨.move (.var 2), none, none, true⟩, ⟨.move (.var 3), none, none, true⟩, ⟨.build [.int .i64 0, .int .i64 0, .int .i64 0, .int .i64 0, .int .i64 0, .empty, .empty, .empty] [(0, 1, (.loc 0)), (1, 2, (.loc 1)), (3, 1, (.loc 2)), (4, 1, (.loc 3))], none, none, true⟩, ⟨.tomb 1 (.k (.agg [.int .i64 0, .int .i64 0, .int .i64 0, .int .i64 0, .int .i64 0, .empty, .empty, .empty])), none, (some 14), true⟩, ⟨.upd 8 0 (.loc 5) (.loc 4), none, (some 14), true⟩])
 ((.seq ((.seq (.ops [⟨.move (.k (.int .i64 0)), none, (some 12), true⟩])
 (.block 0 (.loop ((.seq ((.seq (.ops [⟨.move (.var 12), none, none, true⟩, ⟨.move (.var 4), none, none, true⟩, ⟨.len (.loc 1), none, none, true⟩, ⟨.bin .lss .no (.loc 0) (.loc 2), none, none, true⟩, ⟨.move (.loc 3), none, none, true⟩, ⟨.field 0 none (.var 9), none, none, true⟩, ⟨.field 0 none (.var 9), none, none, true⟩, ⟨.bin .eql .no (.loc 6) (.k (.int .i64 0)), none, none, true⟩, ⟨.pick (.loc 4) (.loc 7) (.k (.bool false)), none, (some 13), true⟩])
 (.cond (.var 13) (.skip) (.exit 0))))
 ((.seq (.block 1 ((.seq (.ops [⟨.field 0 (some 8) (.var 14), none, none, false⟩, ⟨.move (.var 4), none, none, false⟩, ⟨.move (.var 12), none, none, false⟩, ⟨.indexAddr 5 (.loc 1) (.loc 2), none, none, false⟩, ⟨.load (some 5) (.loc 3), none, none, false⟩, ⟨.callS nFDeployment_Step [(.loc 0), (.loc 4)], none, none, false⟩, ⟨.move (.loc 5), none, none, false⟩, ⟨.extract (.loc 6) 0, none, none, false⟩, ⟨.extract (.loc 6) 1, none, none, false⟩, ⟨.tomb 1 (.k (.agg [.int .i64 0, .int .i64 0, .int .i64 0, .int .i64 0, .int .i64 0, .empty, .empty, .empty])), none, (some 15), false⟩, ⟨.upd 8 0 (.loc 9) (.loc 7), none, (some 15), true⟩, ⟨.move (.loc 8), none, (some 16), true⟩])
 ((.seq (.ops [⟨.field 0 (some 8) (.var 15), none, none, true⟩, ⟨.upd 8 0 (.var 14) (.loc 0), none, (some 14), true⟩])
 ((.seq (.ops [⟨.move (.var 16), none, none, true⟩, ⟨.bin .neq .no (.loc 0) (.k (.int .i64 0)), none, (some 17), true⟩])
 (.cond (.var 17) (.ops [⟨.move (.var 16), none, none, true⟩, ⟨.move (.var 12), none, none, true⟩, ⟨.callS nFFault [(.loc 0), (.loc 1)], none, none, true⟩, ⟨.upd 2 0 (.var 9) (.loc 2), none, (some 9), true⟩]) (.skip)))))))))
 (.ops [⟨.move (.var 12), none, none, true⟩, ⟨.bin .add .no (.loc 0) (.k (.int .i64 1)), none, none, true⟩, ⟨.move (.loc 1), none, (some 12), true⟩])))))))))
 ((.seq ((.seq (.ops [⟨.field 0 none (.var 9), none, none, true⟩, ⟨.field 0 none (.var 9), none, none, true⟩, ⟨.bin .neq .no (.loc 1) (.k (.int .i64 0)), none, (some 18), true⟩])
 (.cond (.var 18) ((.seq (.ops [⟨.field 0 (some 2) (.var 19), none, none, true⟩, ⟨.field 0 (some 2) (.var 9), none, none, true⟩, ⟨.bin .eql (.agg [.int, .int]) (.loc 0) (.loc 1), none, none, true⟩, ⟨.move (.loc 2), none, none, true⟩, ⟨.field 0 (some 2) (.var 20), none, none, true⟩, ⟨.field 0 (some 2) (.var 9), none, none, true⟩, ⟨.bin .eql (.agg [.int, .int]) (.loc 4) (.loc 5), none, none, true⟩, ⟨.pick (.loc 3) (.loc 6) (.k (.bool false)), none, none, true⟩, ⟨.move (.loc 7), none, none, true⟩, ⟨.move (.var 21), none, none, true⟩, ⟨.len (.loc 9), none, none, true⟩, ⟨.bin .eql .no (.loc 10) (.k (.int .i64 0)), none, none, true⟩, ⟨.pick (.loc 8) (.loc 11) (.k (.bool false)), none, none, true⟩, ⟨.move (.loc 12), none, none, true⟩, ⟨.move (.var 22), none, none, true⟩, ⟨.len (.loc 14), none, none, true⟩, ⟨.bin .eql .no (.loc 15) (.k (.int .i64 0)), none, none, true⟩, ⟨.pick (.loc 13) (.loc 16) (.k (.bool false)), none, none, true⟩, ⟨.move (.loc 17), none, (some 5), true⟩])
 (.ret))) (.skip))))
 ((.seq (.ops [⟨.move (.k (.empty)), none, (some 28), true⟩])
 ((.seq (.ops [⟨.field 0 (some 8) (.var 14), none, none, true⟩, ⟨.callS nFDeployment_State [(.loc 0)], none, none, true⟩, ⟨.move (.loc 1), none, (some 24), true⟩])
 ((.seq ((.seq (.ops [⟨.move (.k (.int .i64 0)), none, (some 23), true⟩])
 (.block 2 (.loop ((.seq ((.seq (.ops [⟨.move (.var 23), none, none, true⟩, ⟨.move (.var 24), none, none, true⟩, ⟨.len (.loc 1), none, none, true⟩, ⟨.bin .lss .no (.loc 0) (.loc 2), none, (some 25), true⟩])
 (.cond (.var 25) (.skip) (.exit 2))))
 ((.seq (.block 3 ((.seq (.ops [⟨.move (.var 24), none, none, true⟩, ⟨.move (.var 23), none, none, true⟩, ⟨.indexAddr 4 (.loc 0) (.loc 1), none, none, true⟩, ⟨.fieldAddr 1 (.loc 2), none, none, true⟩, ⟨.load none (.loc 3), none, none, true⟩, ⟨.move (.loc 4), none, (some 26), true⟩])
 ((.seq ((.seq (.ops [⟨.move (.var 26), none, none, true⟩, ⟨.bin .eql .no (.loc 0) (.k (.int .i64 0)), none, none, true⟩, ⟨.move (.loc 1), none, none, true⟩, ⟨.move (.var 24), none, none, true⟩, ⟨.move (.var 23), none, none, true⟩, ⟨.indexAddr 4 (.loc 3) (.loc 4), (some (2, true)), none, true⟩, ⟨.fieldAddr 0 (.loc 5), (some (2, true)), none, true⟩, ⟨.load none (.loc 6), (some (2, true)), none, true⟩, ⟨.len (.loc 7), (some (2, true)), none, true⟩, ⟨.bin .gtr .no (.loc 8) (.k (.int .i64 0)), (some (2, true)), none, true⟩, ⟨.pick (.loc 2) (.loc 9) (.k (.bool false)), none, (some 27), true⟩])
 (.cond (.var 27) (.ops [⟨.move (.var 24), none, none, false⟩, ⟨.move (.var 23), none, none, false⟩, ⟨.indexAddr 4 (.loc 0) (.loc 1), none, none, false⟩, ⟨.fieldAddr 0 (.loc 2), none, none, false⟩, ⟨.load none (.loc 3), none, none, false⟩, ⟨.move (.var 24), none, none, false⟩, ⟨.move (.var 23), none, none, false⟩, ⟨.indexAddr 4 (.loc 5) (.loc 6), none, none, false⟩, ⟨.fieldAddr 0 (.loc 7), none, none, false⟩, ⟨.load none (.loc 8), none, none, false⟩, ⟨.len (.loc 9), none, none, false⟩, ⟨.bin .sub .no (.loc 10) (.k (.int .i64 1)), none, none, false⟩, ⟨.indexAddr 1 (.loc 4) (.loc 11), none, none, true⟩, ⟨.load none (.loc 12), none, none, true⟩, ⟨.move (.loc 13), none, (some 26), true⟩]) (.skip))))
 (.ops [⟨.move (.var 28), none, none, true⟩, ⟨.move (.var 26), none, none, true⟩, ⟨.buildSlice 1 [.int .i64 0] [(0, 1, (.loc 1))] 1, none, none, true⟩, ⟨.append 1 8 (.loc 0) (.loc 2), none, none, true⟩, ⟨.move (.loc 3), none, (some 28), true⟩]))))))
 (.ops [⟨.move (.var 23), none, none, true⟩, ⟨.bin .add .no (.loc 0) (.k (.int .i64 1)), none, none, true⟩, ⟨.move (.loc 1), none, (some 23), true⟩])))))))))
 ((.seq (.ops [⟨.field 0 none (.var 19), none, none, true⟩, ⟨.field 0 none (.var 19), none, none, true⟩, ⟨.bin .eql .no (.loc 1) (.k (.int .i64 0)), none, none, true⟩, ⟨.move (.loc 2), none, none, true⟩, ⟨.field 0 none (.var 20), none, none, true⟩, ⟨.field 0 none (.var 20), none, none, true⟩, ⟨.bin .eql .no (.loc 5) (.k (.int .i64 0)), none, none, true⟩, ⟨.pick (.loc 3) (.loc 6) (.k (.bool false)), none, none, true⟩, ⟨.move (.loc 7), none, none, true⟩, ⟨.move (.var 21), none, none, true⟩, ⟨.move (.var 24), none, none, true⟩, ⟨.callS nFEqualRings [(.loc 9), (.loc 10)], (some (8, true)), none, true⟩, ⟨.pick (.loc 8) (.loc 11) (.k (.bool false)), none, none, true⟩, ⟨.move (.loc 12), none, none, true⟩, ⟨.move (.var 22), none, none, true⟩, ⟨.move (.var 28), none, none, true⟩, ⟨.callS nFEqualInts [(.loc 14), (.loc 15)], (some (13, true)), none, true⟩, ⟨.pick (.loc 13) (.loc 16) (.k (.bool false)), none, none, true⟩, ⟨.move (.loc 17), none, (some 5), true⟩])
 (.ret)))))))))))))))))))))))))))⟩
theorem v_LRolloutFunctionsMatchSpec {F : Nat → Option RFunc} {me nrollout_Run nrollout_Versions nLrolloutExample nFFault nFCountsValid nFDeployment_Step nFDeployment_State nFEqualRings nFEqualInts : Nat} (hF : F me = some (rf_LRolloutFunctionsMatchSpec nrollout_Run nrollout_Versions nLrolloutExample nFFault nFCountsValid nFDeployment_Step nFDeployment_State nFEqualRings nFEqualInts)) {fl : Nat} {H : Heap} {Q : AV → Heap → Prop} (rings0 : Int) (base1 : Int) (base2 : Int) (need3 : Int) (perMille4 : Int) (events5 : AV)
  (h : ∀ (H6 : Heap), Dead1 H 1 H6 → Ret F fl nrollout_Run [(.int .i64 rings0), (.agg [(.int .i64 base1), (.int .i64 base2)]), (.int .i64 need3), (.int .i64 perMille4), events5] H6 (fun v11 H10 => ∃ (r7 : AV) (r8 : Int) (r9 : Int), v11 = (.tuple [r7, (.agg [(.int .i64 r8), (.int .i64 r9)])]) ∧ ∀ (H12 : Heap), Dead1 H10 1 H12 → Ret F fl nrollout_Versions [(.int .i64 rings0), (.agg [(.int .i64 base1), (.int .i64 base2)]), (.int .i64 need3), (.int .i64 perMille4), events5] H12 (fun v17 H16 => ∃ (r13 : AV) (r14 : Int) (r15 : Int), v17 = (.tuple [r13, (.agg [(.int .i64 r14), (.int .i64 r15)])]) ∧ ∀ (H18 : Heap), Dead1 H16 1 H18 → Ret F fl nLrolloutExample [] H18 (fun v21 H20 => ∃ (r19 : Bool), v21 = (.bool r19) ∧ ((¬(r19 = true)) → Q (.bool false) H20) ∧ (¬(¬(r19 = true)) → ∀ (H22 : Heap), Dead1 H20 1 H22 → ∃ (R23 : Int → Int → Heap → Prop), (((((rings0 < 1) ∨ (rings0 > 5))) → Ret F fl nFFault [(.int .i64 3), (.int .i64 (-2))] H22 (fun v33 H32 => ∃ (r30 : Int) (r31 : Int), v33 = (.agg [(.int .i64 r30), (.int .i64 r31)]) ∧ R23 r30 r31 H32)) ∧ (¬(((rings0 < 1) ∨ (rings0 > 5))) → Ret F fl nFCountsValid [(.agg [(.int .i64 base1), (.int .i64 base2)])] H22 (fun v36 H35 => ∃ (r34 : Bool), v36 = (.bool r34) ∧ ((((((((((¬(r34 = true)) ∨ (need3 < 0))) ∨ (need3 > 25))) ∨ (perMille4 < 0))) ∨ (perMille4 ≥ 1000))) → Ret F fl nFFault [(.int .i64 3), (.int .i64 (-3))] H35 (fun v40 H39 => ∃ (r37 : Int) (r38 : Int), v40 = (.agg [(.int .i64 r37), (.int .i64 r38)]) ∧ R23 r37 r38 H39)) ∧ (¬(((((((((¬(r34 = true)) ∨ (need3 < 0))) ∨ (need3 > 25))) ∨ (perMille4 < 0))) ∨ (perMille4 ≥ 1000))) → ∃ len41 : Nat, lenA events5 = some len41 ∧ (((len41 : Int) > 40) → Ret F fl nFFault [(.int .i64 2), (.int .i64 (-1))] H35 (fun v45 H44 => ∃ (r42 : Int) (r43 : Int), v45 = (.agg [(.int .i64 r42), (.int .i64 r43)]) ∧ R23 r42 r43 H44)) ∧ (¬((len41 : Int) > 40) → R23 0 0 H35))))) ∧ (∀ (w25 : Int) (w26 : Int) (H29 : Heap), R23 w25 w26 H29 → ∀ (H46 : Heap), Dead1 H29 1 H46 → ∃ (J47 : Nat → Int → Int → Int → Int → Int → Int → Int → Int → AV → AV → AV → Heap → Prop) (k48 : Nat), J47 k48 w25 w26 0 rings0 base1 base2 need3 perMille4 .empty .empty .empty H46 ∧ (∀ (m49 : Nat) (w50 : Int) (w51 : Int) (i52 : Int) (d54 : Int) (d55 : Int) (d56 : Int) (d57 : Int) (d58 : Int) (d59 : AV) (d60 : AV) (d61 : AV) (H65 : Heap), J47 m49 w50 w51 i52 d54 d55 d56 d57 d58 d59 d60 d61 H65 → ∃ len66 : Nat, lenA events5 = some len66 ∧ ((((i52 < (len66 : Int)) ∧ (w50 = 0))) → ∃ (e67 : Int) (e68 : Int) (e69 : Int) (e70 : Int) (e71 : Int), getA H65 5 (some 5) events5 i52 0 = some (.agg [(.int .i64 e67), (.int .i64 e68), (.int .i64 e69), (.int .i64 e70), (.int .i64 e71)]) ∧ Ret F H65.length nFDeployment_Step [(.agg [(.int .i64 d54), (.int .i64 d55), (.int .i64 d56), (.int .i64 d57), (.int .i64 d58), d59, d60, d61]), (.agg [(.int .i64 e67), (.int .i64 e68), (.int .i64 e69), (.int .i64 e70), (.int .i64 e71)])] H65 (fun v83 H82 => ∃ (r73 : Int) (r74 : Int) (r75 : Int) (r76 : Int) (r77 : Int) (r78 : AV) (r79 : AV) (r80 : AV) (r81 : Int), v83 = (.tuple [(.agg [(.int .i64 r73), (.int .i64 r74), (.int .i64 r75), (.int .i64 r76), (.int .i64 r77), r78, r79, r80]), (.int .i64 r81)]) ∧ ∀ (H84 : Heap), Dead1 H82 1 H84 → Scal r78 ∧ Scal r79 ∧ Scal r80 ∧ ((r81 ≠ 0) → Ret F fl nFFault [(.int .i64 r81), (.int .i64 i52)] H84 (fun v91 H90 => ∃ (r88 : Int) (r89 : Int), v91 = (.agg [(.int .i64 r88), (.int .i64 r89)]) ∧ ∃ m92 : Nat, m92 < m49 ∧ J47 m92 r88 r89 (IntKind.wrap .i64 (i52 + 1)) r73 r74 r75 r76 r77 r78 r79 r80 H90)) ∧ (¬(r81 ≠ 0) → ∃ m93 : Nat, m93 < m49 ∧ J47 m93 w50 w51 (IntKind.wrap .i64 (i52 + 1)) r73 r74 r75 r76 r77 r78 r79 r80 H84))) ∧ (¬(((i52 < (len66 : Int)) ∧ (w50 = 0))) → ((w50 ≠ 0) → ∃ len94 : Nat, lenA r7 = some len94 ∧ ∃ len95 : Nat, lenA r13 = some len95 ∧ Q (.bool ((((((r8) == w50) && (((r9) == w51) && true)) && (((r14) == w50) && (((r15) == w51) && true))) && (((len94 : Int)) == 0)) && (((len95 : Int)) == 0))) H65) ∧ (¬(w50 ≠ 0) → Ret F fl nFDeployment_State [(.agg [(.int .i64 d54), (.int .i64 d55), (.int .i64 d56), (.int .i64 d57), (.int .i64 d58), d59, d60, d61])] H65 (fun r96 H97 => ∃ (J99 : Nat → Int → AV → Heap → Prop) (k100 : Nat), J99 k100 0 .empty H97 ∧ (∀ (m101 : Nat) (i102 : Int) (want106 : AV) (H107 : Heap), J99 m101 i102 want106 H107 → ∃ len108 : Nat, lenA r96 = some len108 ∧ ((i102 < (len108 : Int)) → ∃ (e109 : Int), getA H107 4 none r96 i102 1 = some (.int .i64 e109) ∧ ((e109 = 0) → ∃ (e111 : AV), getA H107 4 none r96 i102 0 = some e111 ∧ ∃ len113 : Nat, lenA e111 = some len113 ∧ (((len113 : Int) > 0) → ∃ (e114 : AV), getA H107 4 none r96 i102 0 = some e114 ∧ ∃ (e116 : AV), getA H107 4 none r96 i102 0 = some e116 ∧ ∃ len118 : Nat, lenA e116 = some len118 ∧ ∃ (e119 : Int), getA H107 1 none e114 (IntKind.wrap .i64 ((len118 : Int) - 1)) 0 = some (.int .i64 e119) ∧ ∀ (b121 : Nat) (H122 : Heap), NewB H107 1 [(.int .i64 e119)] b121 H122 → ∃ (a123 : AV) (H124 : Heap), appA fl true 1 8 H122 want106 (.slice b121 0 1 (some 1)) = some (a123, H124) ∧ ∃ m125 : Nat, m125 < m101 ∧ J99 m125 (IntKind.wrap .i64 (i102 + 1)) a123 H124) ∧ (¬((len113 : Int) > 0) → ∀ (b126 : Nat) (H127 : Heap), NewB H107 1 [(.int .i64 e109)] b126 H127 → ∃ (a128 : AV) (H129 : Heap), appA fl true 1 8 H127 want106 (.slice b126 0 1 (some 1)) = some (a128, H129) ∧ ∃ m130 : Nat, m130 < m101 ∧ J99 m130 (IntKind.wrap .i64 (i102 + 1)) a128 H129)) ∧ (¬(e109 = 0) → ∀ (b131 : Nat) (H132 : Heap), NewB H107 1 [(.int .i64 e109)] b131 H132 → ∃ (a133 : AV) (H134 : Heap), appA fl true 1 8 H132 want106 (.slice b131 0 1 (some 1)) = some (a133, H134) ∧ ∃ m135 : Nat, m135 < m101 ∧ J99 m135 (IntKind.wrap .i64 (i102 + 1)) a133 H134)) ∧ (¬(i102 < (len108 : Int)) → ((((r8 = 0) ∧ (r14 = 0))) → Ret F fl nFEqualRings [r7, r96] H107 (fun v138 H137 => ∃ (r136 : Bool), v138 = (.bool r136) ∧ ((r136 = true) → Ret F fl nFEqualInts [r13, want106] H137 (fun v141 H140 => ∃ (r139 : Bool), v141 = (.bool r139) ∧ Q (.bool r139) H140)) ∧ (¬(r136 = true) → Q (.bool false) H137))) ∧ (¬(((r8 = 0) ∧ (r14 = 0))) → Q (.bool false) H107))))))))))))) : Ret F fl me [(.int .i64 rings0), (.agg [(.int .i64 base1), (.int .i64 base2)]), (.int .i64 need3), (.int .i64 perMille4), events5] H Q := by
  refine ret_intro hF rfl ?_
  refine w_seq ?_
  refine w_run [1, 0] ?_
  obtain ⟨H6, hb⟩ : ∃ H', Dead1 H 1 H' := ⟨_, ⟨rfl⟩⟩
  replace h := h H6 hb
  refine t_tomb true 1 (.agg [(.int .i64 base1), (.int .i64 base2)]) [(.int .i64 base1), (.int .i64 base2)] H6 H (by kernel_rfl) rfl hb ?_
  refine t_done [(.int .i64 rings0), (.agg [(.int .i64 base1), (.int .i64 base2)]), (.int .i64 need3), (.int .i64 perMille4), events5, (.bool false), (.agg [(.int .i64 base1), (.int .i64 base2)]), .undef, .undef, .undef, .undef, .undef, .undef, .undef, .undef, .undef, .undef, .undef, .undef, .undef, .undef, .undef, .undef, .undef, .undef, .undef, .undef, .undef, .undef] H6 (by kernel_rfl) ?_
  refine then_norm ?_
  refine w_seq ?_
  refine w_run [0, 0, 0, 0, 0, 1, 0, 0, 0, 1, 0, 1] ?_
  refine t_call true nrollout_Run [(.int .i64 rings0), (.agg [(.int .i64 base1), (.int .i64 base2)]), (.int .i64 need3), (.int .i64 perMille4), events5] H6 (by kernel_rfl) h ?_
  clear h
  rintro _ H10 ⟨r7, r8, r9, rfl, h⟩
  obtain ⟨H12, hb⟩ : ∃ H', Dead1 H10 1 H' := ⟨_, ⟨rfl⟩⟩
  replace h := h H12 hb
  refine t_tomb true 1 (.agg [(.int .i64 0), (.int .i64 0)]) [(.int .i64 0), (.int .i64 0)] H12 H10 (by kernel_rfl) rfl hb ?_
  refine t_upd true 2 0 [(.int .i64 0), (.int .i64 0)] (.agg [(.int .i64 r8), (.int .i64 r9)]) [(.int .i64 r8), (.int .i64 r9)] [(.int .i64 r8), (.int .i64 r9)] H12 (by kernel_rfl) rfl (all_c rfl (all_c rfl all_n)) ⟨rfl, Nat.le_of_ble_eq_true (by kernel_rfl), rfl⟩ ?_
  refine t_done [(.int .i64 rings0), (.agg [(.int .i64 base1), (.int .i64 base2)]), (.int .i64 need3), (.int .i64 perMille4), events5, (.bool false), (.agg [(.int .i64 base1), (.int .i64 base2)]), .undef, .undef, .undef, .undef, .undef, .undef, .undef, .undef, .undef, .undef, .undef, .undef, (.agg [(.int .i64 r8), (.int .i64 r9)]), .undef, r7, .undef, .undef, .undef, .undef, .undef, .undef, .undef] H12 (by kernel_rfl) ?_
  refine then_norm ?_
  refine w_seq ?_
  refine w_run [0, 0, 0, 0, 0, 1, 0, 0, 0, 1, 0, 1] ?_
  refine t_call true nrollout_Versions [(.int .i64 rings0), (.agg [(.int .i64 base1), (.int .i64 base2)]), (.int .i64 need3), (.int .i64 perMille4), events5] H12 (by kernel_rfl) h ?_
  clear h
  rintro _ H16 ⟨r13, r14, r15, rfl, h⟩
  obtain ⟨H18, hb⟩ : ∃ H', Dead1 H16 1 H' := ⟨_, ⟨rfl⟩⟩
  replace h := h H18 hb
  refine t_tomb true 1 (.agg [(.int .i64 0), (.int .i64 0)]) [(.int .i64 0), (.int .i64 0)] H18 H16 (by kernel_rfl) rfl hb ?_
  refine t_upd true 2 0 [(.int .i64 0), (.int .i64 0)] (.agg [(.int .i64 r14), (.int .i64 r15)]) [(.int .i64 r14), (.int .i64 r15)] [(.int .i64 r14), (.int .i64 r15)] H18 (by kernel_rfl) rfl (all_c rfl (all_c rfl all_n)) ⟨rfl, Nat.le_of_ble_eq_true (by kernel_rfl), rfl⟩ ?_
  refine t_done [(.int .i64 rings0), (.agg [(.int .i64 base1), (.int .i64 base2)]), (.int .i64 need3), (.int .i64 perMille4), events5, (.bool false), (.agg [(.int .i64 base1), (.int .i64 base2)]), .undef, .undef, .undef, .undef, .undef, .undef, .undef, .undef, .undef, .undef, .undef, .undef, (.agg [(.int .i64 r8), (.int .i64 r9)]), (.agg [(.int .i64 r14), (.int .i64 r15)]), r7, r13, .undef, .undef, .undef, .undef, .undef, .undef] H18 (by kernel_rfl) ?_
  refine then_norm ?_
  refine w_seq ?_
  refine w_seq ?_
  refine w_run [1, 0] ?_
  refine t_call true nLrolloutExample [] H18 (by kernel_rfl) h ?_
  clear h
  rintro _ H20 ⟨r19, rfl, h⟩
  refine t_done [(.int .i64 rings0), (.agg [(.int .i64 base1), (.int .i64 base2)]), (.int .i64 need3), (.int .i64 perMille4), events5, (.bool false), (.agg [(.int .i64 base1), (.int .i64 base2)]), (.bool (!r19)), .undef, .undef, .undef, .undef, .undef, .undef, .undef, .undef, .undef, .undef, .undef, (.agg [(.int .i64 r8), (.int .i64 r9)]), (.agg [(.int .i64 r14), (.int .i64 r15)]), r7, r13, .undef, .undef, .undef, .undef, .undef, .undef] H20 (by kernel_rfl) ?_
  refine then_norm ?_
  refine w_cond (t := (!r19)) rfl (fun hc => ?_) (fun hc => ?_)
  · replace h := h.1 ((is_not is_raw).t hc)
    refine w_seq ?_
    refine w_run [0] ?_
    refine t_done [(.int .i64 rings0), (.agg [(.int .i64 base1), (.int .i64 base2)]), (.int .i64 need3), (.int .i64 perMille4), events5, (.bool false), (.agg [(.int .i64 base1), (.int .i64 base2)]), (.bool (!r19)), .undef, .undef, .undef, .undef, .undef, .undef, .undef, .undef, .undef, .undef, .undef, (.agg [(.int .i64 r8), (.int .i64 r9)]), (.agg [(.int .i64 r14), (.int .i64 r15)]), r7, r13, .undef, .undef, .undef, .undef, .undef, .undef] H20 (by kernel_rfl) ?_
    refine then_norm ?_
    refine w_ret ?_
    refine then_ret ?_
    exact body_ret (vs := [(.bool false)]) _ (by kernel_rfl) rfl h
  · replace h := h.2 ((is_not is_raw).f hc)
    refine w_skip ?_
    refine then_norm ?_
    refine w_seq ?_
    refine w_run [1, 1, 1] ?_
    refine t_build true [(.int .i64 0), (.int .i64 0)] [] [] [(.int .i64 0), (.int .i64 0)] H20 (by kernel_rfl) (by kernel_rfl) ?_
    obtain ⟨H22, hb⟩ : ∃ H', Dead1 H20 1 H' := ⟨_, ⟨rfl⟩⟩
    replace h := h H22 hb
    refine t_tomb true 1 (.agg [(.int .i64 0), (.int .i64 0)]) [(.int .i64 0), (.int .i64 0)] H22 H20 (by kernel_rfl) rfl hb ?_
    refine t_upd true 2 0 [(.int .i64 0), (.int .i64 0)] (.agg [(.int .i64 0), (.int .i64 0)]) [(.int .i64 0), (.int .i64 0)] [(.int .i64 0), (.int .i64 0)] H22 (by kernel_rfl) rfl (all_c rfl (all_c rfl all_n)) ⟨rfl, Nat.le_of_ble_eq_true (by kernel_rfl), rfl⟩ ?_
    refine t_done [(.int .i64 rings0), (.agg [(.int .i64 base1), (.int .i64 base2)]), (.int .i64 need3), (.int .i64 perMille4), events5, (.bool false), (.agg [(.int .i64 base1), (.int .i64 base2)]), (.bool (!r19)), .undef, (.agg [(.int .i64 0), (.int .i64 0)]), .undef, .undef, .undef, .undef, .undef, .undef, .undef, .undef, .undef, (.agg [(.int .i64 r8), (.int .i64 r9)]), (.agg [(.int .i64 r14), (.int .i64 r15)]), r7, r13, .undef, .undef, .undef, .undef, .undef, .undef] H22 (by kernel_rfl) ?_
    refine then_norm ?_
    refine w_seq ?_
    obtain ⟨R23, h, hK⟩ := h
    refine w_join (fun EI HI => ∃ (d24 : AV) (w25 : Int) (w26 : Int) (d27 : AV) (d28 : AV), EI = [(.int .i64 rings0), (.agg [(.int .i64 base1), (.int .i64 base2)]), (.int .i64 need3), (.int .i64 perMille4), events5, (.bool false), (.agg [(.int .i64 base1), (.int .i64 base2)]), (.bool (!r19)), d24, (.agg [(.int .i64 w25), (.int .i64 w26)]), d27, d28, .undef, .undef, .undef, .undef, .undef, .undef, .undef, (.agg [(.int .i64 r8), (.int .i64 r9)]), (.agg [(.int .i64 r14), (.int .i64 r15)]), r7, r13, .undef, .undef, .undef, .undef, .undef, .undef] ∧ R23 w25 w26 HI) ?_ ?_
    · clear hK
      refine w_seq ?_
      refine w_run [0, 0, 0, 0, 0, 0] ?_
      refine t_done [(.int .i64 rings0), (.agg [(.int .i64 base1), (.int .i64 base2)]), (.int .i64 need3), (.int .i64 perMille4), events5, (.bool false), (.agg [(.int .i64 base1), (.int .i64 base2)]), (.bool (!r19)), (.bool ((decide (rings0 < 1)) || (decide (rings0 > 5)))), (.agg [(.int .i64 0), (.int .i64 0)]), .undef, .undef, .undef, .undef, .undef, .undef, .undef, .undef, .undef, (.agg [(.int .i64 r8), (.int .i64 r9)]), (.agg [(.int .i64 r14), (.int .i64 r15)]), r7, r13, .undef, .undef, .undef, .undef, .undef, .undef] H22 (by kernel_rfl) ?_
      refine then_norm ?_
      refine w_cond (t := ((decide (rings0 < 1)) || (decide (rings0 > 5)))) rfl (fun hc => ?_) (fun hc => ?_)
      · replace h := h.1 ((is_or is_dec is_dec).t hc)
        refine w_run [1, 1] ?_
        refine t_call true nFFault [(.int .i64 3), (.int .i64 (-2))] H22 (by kernel_rfl) h ?_
        clear h
        rintro _ H32 ⟨r30, r31, rfl, h⟩
        refine t_upd true 2 0 [(.int .i64 0), (.int .i64 0)] (.agg [(.int .i64 r30), (.int .i64 r31)]) [(.int .i64 r30), (.int .i64 r31)] [(.int .i64 r30), (.int .i64 r31)] H32 (by kernel_rfl) rfl (all_c rfl (all_c rfl all_n)) ⟨rfl, Nat.le_of_ble_eq_true (by kernel_rfl), rfl⟩ ?_
        refine t_done [(.int .i64 rings0), (.agg [(.int .i64 base1), (.int .i64 base2)]), (.int .i64 need3), (.int .i64 perMille4), events5, (.bool false), (.agg [(.int .i64 base1), (.int .i64 base2)]), (.bool (!r19)), (.bool ((decide (rings0 < 1)) || (decide (rings0 > 5)))), (.agg [(.int .i64 r30), (.int .i64 r31)]), .undef, .undef, .undef, .undef, .undef, .undef, .undef, .undef, .undef, (.agg [(.int .i64 r8), (.int .i64 r9)]), (.agg [(.int .i64 r14), (.int .i64 r15)]), r7, r13, .undef, .undef, .undef, .undef, .undef, .undef] H32 (by kernel_rfl) ?_
        refine join_norm ⟨_, _, _, _, _, rfl, h⟩
      · replace h := h.2 ((is_or is_dec is_dec).f hc)
        refine w_seq ?_
        refine w_run [0, 1, 0, 0, 0, 0, 0, 0, 0, 0, 0, 0, 0, 0, 0, 0, 0, 0, 0] ?_
        refine t_call true nFCountsValid [(.agg [(.int .i64 base1), (.int .i64 base2)])] H22 (by kernel_rfl) h ?_
        clear h
        rintro _ H35 ⟨r34, rfl, h⟩
        refine t_done [(.int .i64 rings0), (.agg [(.int .i64 base1), (.int .i64 base2)]), (.int .i64 need3), (.int .i64 perMille4), events5, (.bool false), (.agg [(.int .i64 base1), (.int .i64 base2)]), (.bool (!r19)), (.bool ((decide (rings0 < 1)) || (decide (rings0 > 5)))), (.agg [(.int .i64 0), (.int .i64 0)]), (.bool (((((!r34) || (decide (need3 < 0))) || (decide (need3 > 25))) || (decide (perMille4 < 0))) || (decide (perMille4 ≥ 1000)))), .undef, .undef, .undef, .undef, .undef, .undef, .undef, .undef, (.agg [(.int .i64 r8), (.int .i64 r9)]), (.agg [(.int .i64 r14), (.int .i64 r15)]), r7, r13, .undef, .undef, .undef, .undef, .undef, .undef] H35 (by kernel_rfl) ?_
        refine then_norm ?_
        refine w_cond (t := (((((!r34) || (decide (need3 < 0))) || (decide (need3 > 25))) || (decide (perMille4 < 0))) || (decide (perMille4 ≥ 1000)))) rfl (fun hc => ?_) (fun hc => ?_)
        · replace h := h.1 ((is_or (is_or (is_or (is_or (is_not is_raw) is_dec) is_dec) is_dec) is_dec).t hc)
          refine w_run [1, 1] ?_
          refine t_call true nFFault [(.int .i64 3), (.int .i64 (-3))] H35 (by kernel_rfl) h ?_
          clear h
          rintro _ H39 ⟨r37, r38, rfl, h⟩
          refine t_upd true 2 0 [(.int .i64 0), (.int .i64 0)] (.agg [(.int .i64 r37), (.int .i64 r38)]) [(.int .i64 r37), (.int .i64 r38)] [(.int .i64 r37), (.int .i64 r38)] H39 (by kernel_rfl) rfl (all_c rfl (all_c rfl all_n)) ⟨rfl, Nat.le_of_ble_eq_true (by kernel_rfl), rfl⟩ ?_
          refine t_done [(.int .i64 rings0), (.agg [(.int .i64 base1), (.int .i64 base2)]), (.int .i64 need3), (.int .i64 perMille4), events5, (.bool false), (.agg [(.int .i64 base1), (.int .i64 base2)]), (.bool (!r19)), (.bool ((decide (rings0 < 1)) || (decide (rings0 > 5)))), (.agg [(.int .i64 r37), (.int .i64 r38)]), (.bool (((((!r34) || (decide (need3 < 0))) || (decide (need3 > 25))) || (decide (perMille4 < 0))) || (decide (perMille4 ≥ 1000)))), .undef, .undef, .undef, .undef, .undef, .undef, .undef, .undef, (.agg [(.int .i64 r8), (.int .i64 r9)]), (.agg [(.int .i64 r14), (.int .i64 r15)]), r7, r13, .undef, .undef, .undef, .undef, .undef, .undef] H39 (by kernel_rfl) ?_
          refine join_norm ⟨_, _, _, _, _, rfl, h⟩
        · replace h := h.2 ((is_or (is_or (is_or (is_or (is_not is_raw) is_dec) is_dec) is_dec) is_dec).f hc)
          refine w_seq ?_
          refine w_run [0, 1, 0] ?_
          obtain ⟨len41, hl, h⟩ := h
          refine t_len true events5 len41 H35 (by kernel_rfl) hl ?_
          refine t_done [(.int .i64 rings0), (.agg [(.int .i64 base1), (.int .i64 base2)]), (.int .i64 need3), (.int .i64 perMille4), events5, (.bool false), (.agg [(.int .i64 base1), (.int .i64 base2)]), (.bool (!r19)), (.bool ((decide (rings0 < 1)) || (decide (rings0 > 5)))), (.agg [(.int .i64 0), (.int .i64 0)]), (.bool (((((!r34) || (decide (need3 < 0))) || (decide (need3 > 25))) || (decide (perMille4 < 0))) || (decide (perMille4 ≥ 1000)))), (.bool (decide ((len41 : Int) > 40))), .undef, .undef, .undef, .undef, .undef, .undef, .undef, (.agg [(.int .i64 r8), (.int .i64 r9)]), (.agg [(.int .i64 r14), (.int .i64 r15)]), r7, r13, .undef, .undef, .undef, .undef, .undef, .undef] H35 (by kernel_rfl) ?_
          refine then_norm ?_
          refine w_cond (t := (decide ((len41 : Int) > 40))) rfl (fun hc => ?_) (fun hc => ?_)
          · replace h := h.1 (is_dec.t hc)
            refine w_run [1, 1] ?_
            refine t_call true nFFault [(.int .i64 2), (.int .i64 (-1))] H35 (by kernel_rfl) h ?_
            clear h
            rintro _ H44 ⟨r42, r43, rfl, h⟩
            refine t_upd true 2 0 [(.int .i64 0), (.int .i64 0)] (.agg [(.int .i64 r42), (.int .i64 r43)]) [(.int .i64 r42), (.int .i64 r43)] [(.int .i64 r42), (.int .i64 r43)] H44 (by kernel_rfl) rfl (all_c rfl (all_c rfl all_n)) ⟨rfl, Nat.le_of_ble_eq_true (by kernel_rfl), rfl⟩ ?_
            refine t_done [(.int .i64 rings0), (.agg [(.int .i64 base1), (.int .i64 base2)]), (.int .i64 need3), (.int .i64 perMille4), events5, (.bool false), (.agg [(.int .i64 base1), (.int .i64 base2)]), (.bool (!r19)), (.bool ((decide (rings0 < 1)) || (decide (rings0 > 5)))), (.agg [(.int .i64 r42), (.int .i64 r43)]), (.bool (((((!r34) || (decide (need3 < 0))) || (decide (need3 > 25))) || (decide (perMille4 < 0))) || (decide (perMille4 ≥ 1000)))), (.bool (decide ((len41 : Int) > 40))), .undef, .undef, .undef, .undef, .undef, .undef, .undef, (.agg [(.int .i64 r8), (.int .i64 r9)]), (.agg [(.int .i64 r14), (.int .i64 r15)]), r7, r13, .undef, .undef, .undef, .undef, .undef, .undef] H44 (by kernel_rfl) ?_
            refine join_norm ⟨_, _, _, _, _, rfl, h⟩
          · replace h := h.2 (is_dec.f hc)
            refine w_skip ?_
            refine join_norm ⟨_, _, _, _, _, rfl, h⟩
    · clear h
      rintro EI H29 ⟨d24, w25, w26, d27, d28, rfl, hJ⟩
      have h := hK w25 w26 H29 hJ
      clear hJ hK
      refine then_norm ?_
      refine w_seq ?_
      refine w_run [0, 0, 0, 0, 1, 1, 1] ?_
      refine t_build true [(.int .i64 0), (.int .i64 0), (.int .i64 0), (.int .i64 0), (.int .i64 0), .empty, .empty, .empty] [(0, 1, .loc 0), (1, 2, .loc 1), (3, 1, .loc 2), (4, 1, .loc 3)] [(.int .i64 rings0), (.agg [(.int .i64 base1), (.int .i64 base2)]), (.int .i64 need3), (.int .i64 perMille4)] [(.int .i64 rings0), (.int .i64 base1), (.int .i64 base2), (.int .i64 need3), (.int .i64 perMille4), .empty, .empty, .empty] H29 (by kernel_rfl) (fill_c (vs := [(.int .i64 rings0)]) (size := 1) rfl (by kernel_rfl) (by kernel_rfl) (fill_c (vs := [(.int .i64 base1), (.int .i64 base2)]) (size := 2) rfl (by kernel_rfl) (by kernel_rfl) (fill_c (vs := [(.int .i64 need3)]) (size := 1) rfl (by kernel_rfl) (by kernel_rfl) (fill_c (vs := [(.int .i64 perMille4)]) (size := 1) rfl (by kernel_rfl) (by kernel_rfl) (by kernel_rfl))))) ?_
      obtain ⟨H46, hb⟩ : ∃ H', Dead1 H29 1 H' := ⟨_, ⟨rfl⟩⟩
      replace h := h H46 hb
      refine t_tomb true 1 (.agg [(.int .i64 0), (.int .i64 0), (.int .i64 0), (.int .i64 0), (.int .i64 0), .empty, .empty, .empty]) [(.int .i64 0), (.int .i64 0), (.int .i64 0), (.int .i64 0), (.int .i64 0), .empty, .empty, .empty] H46 H29 (by kernel_rfl) rfl hb ?_
      refine t_upd true 8 0 [(.int .i64 0), (.int .i64 0), (.int .i64 0), (.int .i64 0), (.int .i64 0), .empty, .empty, .empty] (.agg [(.int .i64 rings0), (.int .i64 base1), (.int .i64 base2), (.int .i64 need3), (.int .i64 perMille4), .empty, .empty, .empty]) [(.int .i64 rings0), (.int .i64 base1), (.int .i64 base2), (.int .i64 need3), (.int .i64 perMille4), .empty, .empty, .empty] [(.int .i64 rings0), (.int .i64 base1), (.int .i64 base2), (.int .i64 need3), (.int .i64 perMille4), .empty, .empty, .empty] H46 (by kernel_rfl) rfl (all_c rfl (all_c rfl (all_c rfl (all_c rfl (all_c rfl (all_c rfl (all_c rfl (all_c rfl all_n)))))))) ⟨rfl, Nat.le_of_ble_eq_true (by kernel_rfl), rfl⟩ ?_
      refine t_done [(.int .i64 rings0), (.agg [(.int .i64 base1), (.int .i64 base2)]), (.int .i64 need3), (.int .i64 perMille4), events5, (.bool false), (.agg [(.int .i64 base1), (.int .i64 base2)]), (.bool (!r19)), d24, (.agg [(.int .i64 w25), (.int .i64 w26)]), d27, d28, .undef, .undef, (.agg [(.int .i64 rings0), (.int .i64 base1), (.int .i64 base2), (.int .i64 need3), (.int .i64 perMille4), .empty, .empty, .empty]), .undef, .undef, .undef, .undef, (.agg [(.int .i64 r8), (.int .i64 r9)]), (.agg [(.int .i64 r14), (.int .i64 r15)]), r7, r13, .undef, .undef, .undef, .undef, .undef, .undef] H46 (by kernel_rfl) ?_
      refine then_norm ?_
      refine w_seq ?_
      refine w_seq ?_
      refine w_run [0] ?_
      refine t_done [(.int .i64 rings0), (.agg [(.int .i64 base1), (.int .i64 base2)]), (.int .i64 need3), (.int .i64 perMille4), events5, (.bool false), (.agg [(.int .i64 base1), (.int .i64 base2)]), (.bool (!r19)), d24, (.agg [(.int .i64 w25), (.int .i64 w26)]), d27, d28, (.int .i64 0), .undef, (.agg [(.int .i64 rings0), (.int .i64 base1), (.int .i64 base2), (.int .i64 need3), (.int .i64 perMille4), .empty, .empty, .empty]), .undef, .undef, .undef, .undef, (.agg [(.int .i64 r8), (.int .i64 r9)]), (.agg [(.int .i64 r14), (.int .i64 r15)]), r7, r13, .undef, .undef, .undef, .undef, .undef, .undef] H46 (by kernel_rfl) ?_
      refine then_norm ?_
      refine w_block ?_
      obtain ⟨J47, k48, h0, h⟩ := h
      refine w_loop (I := fun mI EI HI => ∃ (w50 : Int) (w51 : Int) (i52 : Int) (d53 : AV) (d54 : Int) (d55 : Int) (d56 : Int) (d57 : Int) (d58 : Int) (d59 : AV) (d60 : AV) (d61 : AV) (d62 : AV) (d63 : AV) (d64 : AV), EI = [(.int .i64 rings0), (.agg [(.int .i64 base1), (.int .i64 base2)]), (.int .i64 need3), (.int .i64 perMille4), events5, (.bool false), (.agg [(.int .i64 base1), (.int .i64 base2)]), (.bool (!r19)), d24, (.agg [(.int .i64 w50), (.int .i64 w51)]), d27, d28, (.int .i64 i52), d53, (.agg [(.int .i64 d54), (.int .i64 d55), (.int .i64 d56), (.int .i64 d57), (.int .i64 d58), d59, d60, d61]), d62, d63, d64, .undef, (.agg [(.int .i64 r8), (.int .i64 r9)]), (.agg [(.int .i64 r14), (.int .i64 r15)]), r7, r13, .undef, .undef, .undef, .undef, .undef, .undef] ∧ J47 mI w50 w51 i52 d54 d55 d56 d57 d58 d59 d60 d61 HI) ?_ k48 ⟨_, _, _, _, _, _, _, _, _, _, _, _, _, _, _, rfl, h0⟩
      clear h0
      rintro m49 EI H65 ⟨w50, w51, i52, d53, d54, d55, d56, d57, d58, d59, d60, d61, d62, d63, d64, rfl, hJ⟩
      replace h := h m49 w50 w51 i52 d54 d55 d56 d57 d58 d59 d60 d61 H65 hJ
      clear hJ
      refine w_seq ?_
      refine w_seq ?_
      refine w_run [0, 0, 1, 0, 0, 0, 0, 0, 0] ?_
      obtain ⟨len66, hl, h⟩ := h
      refine t_len true events5 len66 H65 (by kernel_rfl) hl ?_
      refine t_done [(.int .i64 rings0), (.agg [(.int .i64 base1), (.int .i64 base2)]), (.int .i64 need3), (.int .i64 perMille4), events5, (.bool false), (.agg [(.int .i64 base1), (.int .i64 base2)]), (.bool (!r19)), d24, (.agg [(.int .i64 w50), (.int .i64 w51)]), d27, d28, (.int .i64 i52), (.bool ((decide (i52 < (len66 : Int))) && ((w50) == 0))), (.agg [(.int .i64 d54), (.int .i64 d55), (.int .i64 d56), (.int .i64 d57), (.int .i64 d58), d59, d60, d61]), d62, d63, d64, .undef, (.agg [(.int .i64 r8), (.int .i64 r9)]), (.agg [(.int .i64 r14), (.int .i64 r15)]), r7, r13, .undef, .undef, .undef, .undef, .undef, .undef] H65 (by kernel_rfl) ?_
      refine then_norm ?_
      refine w_cond (t := ((decide (i52 < (len66 : Int))) && ((w50) == 0))) rfl (fun hc => ?_) (fun hc => ?_)
      · replace h := h.1 ((is_and is_dec is_eq).t hc)
        refine w_skip ?_
        refine then_norm ?_
        refine w_seq ?_
        refine w_block ?_
        refine w_seq ?_
        refine w_run [0, 0, 0, 1, 1, 1, 0, 0, 0, 1, 1, 0] ?_
        obtain ⟨e67, e68, e69, e70, e71, hg72, h⟩ := h
        refine t_idxG false 5 events5 .i64 i52 H65 (by kernel_rfl) hg72 ?_
        refine t_loadG false (some 5) 5 events5 i52 0 (.agg [(.int .i64 e67), (.int .i64 e68), (.int .i64 e69), (.int .i64 e70), (.int .i64 e71)]) H65 (by kernel_rfl) hg72 ?_
        refine t_call false nFDeployment_Step [(.agg [(.int .i64 d54), (.int .i64 d55), (.int .i64 d56), (.int .i64 d57), (.int .i64 d58), d59, d60, d61]), (.agg [(.int .i64 e67), (.int .i64 e68), (.int .i64 e69), (.int .i64 e70), (.int .i64 e71)])] H65 (by kernel_rfl) h ?_
        clear h
        rintro _ H82 ⟨r73, r74, r75, r76, r77, r78, r79, r80, r81, rfl, h⟩
        obtain ⟨H84, hb⟩ : ∃ H', Dead1 H82 1 H' := ⟨_, ⟨rfl⟩⟩
        replace h := h H84 hb
        refine t_tomb false 1 (.agg [(.int .i64 0), (.int .i64 0), (.int .i64 0), (.int .i64 0), (.int .i64 0), .empty, .empty, .empty]) [(.int .i64 0), (.int .i64 0), (.int .i64 0), (.int .i64 0), (.int .i64 0), .empty, .empty, .empty] H84 H82 (by kernel_rfl) rfl hb ?_
        obtain ⟨hs85, h⟩ := h
        obtain ⟨hs86, h⟩ := h
        obtain ⟨hs87, h⟩ := h
        refine t_upd true 8 0 [(.int .i64 0), (.int .i64 0), (.int .i64 0), (.int .i64 0), (.int .i64 0), .empty, .empty, .empty] (.agg [(.int .i64 r73), (.int .i64 r74), (.int .i64 r75), (.int .i64 r76), (.int .i64 r77), r78, r79, r80]) [(.int .i64 r73), (.int .i64 r74), (.int .i64 r75), (.int .i64 r76), (.int .i64 r77), r78, r79, r80] [(.int .i64 r73), (.int .i64 r74), (.int .i64 r75), (.int .i64 r76), (.int .i64 r77), r78, r79, r80] H84 (by kernel_rfl) rfl (all_c rfl (all_c rfl (all_c rfl (all_c rfl (all_c rfl (all_c hs85.2 (all_c hs86.2 (all_c hs87.2 all_n)))))))) ⟨rfl, Nat.le_of_ble_eq_true (by kernel_rfl), rfl⟩ ?_
        refine t_done [(.int .i64 rings0), (.agg [(.int .i64 base1), (.int .i64 base2)]), (.int .i64 need3), (.int .i64 perMille4), events5, (.bool false), (.agg [(.int .i64 base1), (.int .i64 base2)]), (.bool (!r19)), d24, (.agg [(.int .i64 w50), (.int .i64 w51)]), d27, d28, (.int .i64 i52), (.bool ((decide (i52 < (len66 : Int))) && ((w50) == 0))), (.agg [(.int .i64 d54), (.int .i64 d55), (.int .i64 d56), (.int .i64 d57), (.int .i64 d58), d59, d60, d61]), (.agg [(.int .i64 r73), (.int .i64 r74), (.int .i64 r75), (.int .i64 r76), (.int .i64 r77), r78, r79, r80]), (.int .i64 r81), d64, .undef, (.agg [(.int .i64 r8), (.int .i64 r9)]), (.agg [(.int .i64 r14), (.int .i64 r15)]), r7, r13, .undef, .undef, .undef, .undef, .undef, .undef] H84 (by kernel_rfl) ?_
        refine then_norm ?_
        refine w_seq ?_
        refine w_run [0, 1] ?_
        refine t_upd true 8 0 [(.int .i64 d54), (.int .i64 d55), (.int .i64 d56), (.int .i64 d57), (.int .i64 d58), d59, d60, d61] (.agg [(.int .i64 r73), (.int .i64 r74), (.int .i64 r75), (.int .i64 r76), (.int .i64 r77), r78, r79, r80]) [(.int .i64 r73), (.int .i64 r74), (.int .i64 r75), (.int .i64 r76), (.int .i64 r77), r78, r79, r80] [(.int .i64 r73), (.int .i64 r74), (.int .i64 r75), (.int .i64 r76), (.int .i64 r77), r78, r79, r80] H84 (by kernel_rfl) rfl (all_c rfl (all_c rfl (all_c rfl (all_c rfl (all_c rfl (all_c hs85.2 (all_c hs86.2 (all_c hs87.2 all_n)))))))) ⟨rfl, Nat.le_of_ble_eq_true (by kernel_rfl), rfl⟩ ?_
        refine t_done [(.int .i64 rings0), (.agg [(.int .i64 base1), (.int .i64 base2)]), (.int .i64 need3), (.int .i64 perMille4), events5, (.bool false), (.agg [(.int .i64 base1), (.int .i64 base2)]), (.bool (!r19)), d24, (.agg [(.int .i64 w50), (.int .i64 w51)]), d27, d28, (.int .i64 i52), (.bool ((decide (i52 < (len66 : Int))) && ((w50) == 0))), (.agg [(.int .i64 r73), (.int .i64 r74), (.int .i64 r75), (.int .i64 r76), (.int .i64 r77), r78, r79, r80]), (.agg [(.int .i64 r73), (.int .i64 r74), (.int .i64 r75), (.int .i64 r76), (.int .i64 r77), r78, r79, r80]), (.int .i64 r81), d64, .undef, (.agg [(.int .i64 r8), (.int .i64 r9)]), (.agg [(.int .i64 r14), (.int .i64 r15)]), r7, r13, .undef, .undef, .undef, .undef, .undef, .undef] H84 (by kernel_rfl) ?_
        refine then_norm ?_
        refine w_seq ?_
        refine w_run [0, 0] ?_
        refine t_done [(.int .i64 rings0), (.agg [(.int .i64 base1), (.int .i64 base2)]), (.int .i64 need3), (.int .i64 perMille4), events5, (.bool false), (.agg [(.int .i64 base1), (.int .i64 base2)]), (.bool (!r19)), d24, (.agg [(.int .i64 w50), (.int .i64 w51)]), d27, d28, (.int .i64 i52), (.bool ((decide (i52 < (len66 : Int))) && ((w50) == 0))), (.agg [(.int .i64 r73), (.int .i64 r74), (.int .i64 r75), (.int .i64 r76), (.int .i64 r77), r78, r79, r80]), (.agg [(.int .i64 r73), (.int .i64 r74), (.int .i64 r75), (.int .i64 r76), (.int .i64 r77), r78, r79, r80]), (.int .i64 r81), (.bool ((r81) != 0)), .undef, (.agg [(.int .i64 r8), (.int .i64 r9)]), (.agg [(.int .i64 r14), (.int .i64 r15)]), r7, r13, .undef, .undef, .undef, .undef, .undef, .undef] H84 (by kernel_rfl) ?_
        refine then_norm ?_
        refine w_cond (t := ((r81) != 0)) rfl (fun hc => ?_) (fun hc => ?_)
        · replace h := h.1 (is_ne.t hc)
          refine w_run [0, 0, 1, 1] ?_
          refine t_call true nFFault [(.int .i64 r81), (.int .i64 i52)] H84 (by kernel_rfl) h ?_
          clear h
          rintro _ H90 ⟨r88, r89, rfl, h⟩
          refine t_upd true 2 0 [(.int .i64 w50), (.int .i64 w51)] (.agg [(.int .i64 r88), (.int .i64 r89)]) [(.int .i64 r88), (.int .i64 r89)] [(.int .i64 r88), (.int .i64 r89)] H90 (by kernel_rfl) rfl (all_c rfl (all_c rfl all_n)) ⟨rfl, Nat.le_of_ble_eq_true (by kernel_rfl), rfl⟩ ?_
          refine t_done [(.int .i64 rings0), (.agg [(.int .i64 base1), (.int .i64 base2)]), (.int .i64 need3), (.int .i64 perMille4), events5, (.bool false), (.agg [(.int .i64 base1), (.int .i64 base2)]), (.bool (!r19)), d24, (.agg [(.int .i64 r88), (.int .i64 r89)]), d27, d28, (.int .i64 i52), (.bool ((decide (i52 < (len66 : Int))) && ((w50) == 0))), (.agg [(.int .i64 r73), (.int .i64 r74), (.int .i64 r75), (.int .i64 r76), (.int .i64 r77), r78, r79, r80]), (.agg [(.int .i64 r73), (.int .i64 r74), (.int .i64 r75), (.int .i64 r76), (.int .i64 r77), r78, r79, r80]), (.int .i64 r81), (.bool ((r81) != 0)), .undef, (.agg [(.int .i64 r8), (.int .i64 r9)]), (.agg [(.int .i64 r14), (.int .i64 r15)]), r7, r13, .undef, .undef, .undef, .undef, .undef, .undef] H90 (by kernel_rfl) ?_
          refine block_norm ?_
          refine then_norm ?_
          refine w_run [0, 0, 0] ?_
          refine t_done [(.int .i64 rings0), (.agg [(.int .i64 base1), (.int .i64 base2)]), (.int .i64 need3), (.int .i64 perMille4), events5, (.bool false), (.agg [(.int .i64 base1), (.int .i64 base2)]), (.bool (!r19)), d24, (.agg [(.int .i64 r88), (.int .i64 r89)]), d27, d28, (.int .i64 (IntKind.wrap .i64 (i52 + 1))), (.bool ((decide (i52 < (len66 : Int))) && ((w50) == 0))), (.agg [(.int .i64 r73), (.int .i64 r74), (.int .i64 r75), (.int .i64 r76), (.int .i64 r77), r78, r79, r80]), (.agg [(.int .i64 r73), (.int .i64 r74), (.int .i64 r75), (.int .i64 r76), (.int .i64 r77), r78, r79, r80]), (.int .i64 r81), (.bool ((r81) != 0)), .undef, (.agg [(.int .i64 r8), (.int .i64 r9)]), (.agg [(.int .i64 r14), (.int .i64 r15)]), r7, r13, .undef, .undef, .undef, .undef, .undef, .undef] H90 (by kernel_rfl) ?_
          obtain ⟨m', hm, h⟩ := h
          refine loop_norm ⟨m', hm, _, _, _, _, _, _, _, _, _, _, _, _, _, _, _, rfl, h⟩
        · replace h := h.2 (is_ne.f hc)
          refine w_skip ?_
          refine block_norm ?_
          refine then_norm ?_
          refine w_run [0, 0, 0] ?_
          refine t_done [(.int .i64 rings0), (.agg [(.int .i64 base1), (.int .i64 base2)]), (.int .i64 need3), (.int .i64 perMille4), events5, (.bool false), (.agg [(.int .i64 base1), (.int .i64 base2)]), (.bool (!r19)), d24, (.agg [(.int .i64 w50), (.int .i64 w51)]), d27, d28, (.int .i64 (IntKind.wrap .i64 (i52 + 1))), (.bool ((decide (i52 < (len66 : Int))) && ((w50) == 0))), (.agg [(.int .i64 r73), (.int .i64 r74), (.int .i64 r75), (.int .i64 r76), (.int .i64 r77), r78, r79, r80]), (.agg [(.int .i64 r73), (.int .i64 r74), (.int .i64 r75), (.int .i64 r76), (.int .i64 r77), r78, r79, r80]), (.int .i64 r81), (.bool ((r81) != 0)), .undef, (.agg [(.int .i64 r8), (.int .i64 r9)]), (.agg [(.int .i64 r14), (.int .i64 r15)]), r7, r13, .undef, .undef, .undef, .undef, .undef, .undef] H84 (by kernel_rfl) ?_
          obtain ⟨m', hm, h⟩ := h
          refine loop_norm ⟨m', hm, _, _, _, _, _, _, _, _, _, _, _, _, _, _, _, rfl, h⟩
      · replace h := h.2 ((is_and is_dec is_eq).f hc)
        refine w_exit ?_
        refine then_exit ?_
        refine loop_exit ?_
        refine block_exit ?_
        refine then_norm ?_
        refine w_seq ?_
        refine w_seq ?_
        refine w_run [0, 0, 0] ?_
        refine t_done [(.int .i64 rings0), (.agg [(.int .i64 base1), (.int .i64 base2)]), (.int .i64 need3), (.int .i64 perMille4), events5, (.bool false), (.agg [(.int .i64 base1), (.int .i64 base2)]), (.bool (!r19)), d24, (.agg [(.int .i64 w50), (.int .i64 w51)]), d27, d28, (.int .i64 i52), (.bool ((decide (i52 < (len66 : Int))) && ((w50) == 0))), (.agg [(.int .i64 d54), (.int .i64 d55), (.int .i64 d56), (.int .i64 d57), (.int .i64 d58), d59, d60, d61]), d62, d63, d64, (.bool ((w50) != 0)), (.agg [(.int .i64 r8), (.int .i64 r9)]), (.agg [(.int .i64 r14), (.int .i64 r15)]), r7, r13, .undef, .undef, .undef, .undef, .undef, .undef] H65 (by kernel_rfl) ?_
        refine then_norm ?_
        refine w_cond (t := ((w50) != 0)) rfl (fun hc => ?_) (fun hc => ?_)
        · replace h := h.1 (is_ne.t hc)
          refine w_seq ?_
          refine w_run [0, 0, 0, 0, 0, 0, 0, 0, 0, 0, 1, 0, 0, 0, 0, 1, 0, 0, 0] ?_
          obtain ⟨len94, hl, h⟩ := h
          refine t_len true r7 len94 H65 (by kernel_rfl) hl ?_
          obtain ⟨len95, hl, h⟩ := h
          refine t_len true r13 len95 H65 (by kernel_rfl) hl ?_
          refine t_done [(.int .i64 rings0), (.agg [(.int .i64 base1), (.int .i64 base2)]), (.int .i64 need3), (.int .i64 perMille4), events5, (.bool ((((((r8) == w50) && (((r9) == w51) && true)) && (((r14) == w50) && (((r15) == w51) && true))) && (((len94 : Int)) == 0)) && (((len95 : Int)) == 0))), (.agg [(.int .i64 base1), (.int .i64 base2)]), (.bool (!r19)), d24, (.agg [(.int .i64 w50), (.int .i64 w51)]), d27, d28, (.int .i64 i52), (.bool ((decide (i52 < (len66 : Int))) && ((w50) == 0))), (.agg [(.int .i64 d54), (.int .i64 d55), (.int .i64 d56), (.int .i64 d57), (.int .i64 d58), d59, d60, d61]), d62, d63, d64, (.bool ((w50) != 0)), (.agg [(.int .i64 r8), (.int .i64 r9)]), (.agg [(.int .i64 r14), (.int .i64 r15)]), r7, r13, .undef, .undef, .undef, .undef, .undef, .undef] H65 (by kernel_rfl) ?_
          refine then_norm ?_
          refine w_ret ?_
          refine then_ret ?_
          exact body_ret (vs := [(.bool ((((((r8) == w50) && (((r9) == w51) && true)) && (((r14) == w50) && (((r15) == w51) && true))) && (((len94 : Int)) == 0)) && (((len95 : Int)) == 0)))]) _ (by kernel_rfl) rfl h
        · replace h := h.2 (is_ne.f hc)
          refine w_skip ?_
          refine then_norm ?_
          refine w_seq ?_
          refine w_run [0] ?_
          refine t_done [(.int .i64 rings0), (.agg [(.int .i64 base1), (.int .i64 base2)]), (.int .i64 need3), (.int .i64 perMille4), events5, (.bool false), (.agg [(.int .i64 base1), (.int .i64 base2)]), (.bool (!r19)), d24, (.agg [(.int .i64 w50), (.int .i64 w51)]), d27, d28, (.int .i64 i52), (.bool ((decide (i52 < (len66 : Int))) && ((w50) == 0))), (.agg [(.int .i64 d54), (.int .i64 d55), (.int .i64 d56), (.int .i64 d57), (.int .i64 d58), d59, d60, d61]), d62, d63, d64, (.bool ((w50) != 0)), (.agg [(.int .i64 r8), (.int .i64 r9)]), (.agg [(.int .i64 r14), (.int .i64 r15)]), r7, r13, .undef, .undef, .undef, .undef, .undef, .empty] H65 (by kernel_rfl) ?_
          refine then_norm ?_
          refine w_seq ?_
          refine w_run [0, 1, 0] ?_
          refine t_call true nFDeployment_State [(.agg [(.int .i64 d54), (.int .i64 d55), (.int .i64 d56), (.int .i64 d57), (.int .i64 d58), d59, d60, d61])] H65 (by kernel_rfl) h ?_
          clear h
          rintro r96 H97 h
          refine t_done [(.int .i64 rings0), (.agg [(.int .i64 base1), (.int .i64 base2)]), (.int .i64 need3), (.int .i64 perMille4), events5, (.bool false), (.agg [(.int .i64 base1), (.int .i64 base2)]), (.bool (!r19)), d24, (.agg [(.int .i64 w50), (.int .i64 w51)]), d27, d28, (.int .i64 i52), (.bool ((decide (i52 < (len66 : Int))) && ((w50) == 0))), (.agg [(.int .i64 d54), (.int .i64 d55), (.int .i64 d56), (.int .i64 d57), (.int .i64 d58), d59, d60, d61]), d62, d63, d64, (.bool ((w50) != 0)), (.agg [(.int .i64 r8), (.int .i64 r9)]), (.agg [(.int .i64 r14), (.int .i64 r15)]), r7, r13, .undef, r96, .undef, .undef, .undef, .empty] H97 (by kernel_rfl) ?_
          refine then_norm ?_
          refine w_seq ?_
          refine w_seq ?_
          refine w_run [0] ?_
          refine t_done [(.int .i64 rings0), (.agg [(.int .i64 base1), (.int .i64 base2)]), (.int .i64 need3), (.int .i64 perMille4), events5, (.bool false), (.agg [(.int .i64 base1), (.int .i64 base2)]), (.bool (!r19)), d24, (.agg [(.int .i64 w50), (.int .i64 w51)]), d27, d28, (.int .i64 i52), (.bool ((decide (i52 < (len66 : Int))) && ((w50) == 0))), (.agg [(.int .i64 d54), (.int .i64 d55), (.int .i64 d56), (.int .i64 d57), (.int .i64 d58), d59, d60, d61]), d62, d63, d64, (.bool ((w50) != 0)), (.agg [(.int .i64 r8), (.int .i64 r9)]), (.agg [(.int .i64 r14), (.int .i64 r15)]), r7, r13, (.int .i64 0), r96, .undef, .undef, .undef, .empty] H97 (by kernel_rfl) ?_
          refine then_norm ?_
          refine w_block ?_
          obtain ⟨J99, k100, h0, h⟩ := h
          refine w_loop (I := fun mI EI HI => ∃ (i102 : Int) (d103 : AV) (d104 : AV) (d105 : AV) (want106 : AV), EI = [(.int .i64 rings0), (.agg [(.int .i64 base1), (.int .i64 base2)]), (.int .i64 need3), (.int .i64 perMille4), events5, (.bool false), (.agg [(.int .i64 base1), (.int .i64 base2)]), (.bool (!r19)), d24, (.agg [(.int .i64 w50), (.int .i64 w51)]), d27, d28, (.int .i64 i52), (.bool ((decide (i52 < (len66 : Int))) && ((w50) == 0))), (.agg [(.int .i64 d54), (.int .i64 d55), (.int .i64 d56), (.int .i64 d57), (.int .i64 d58), d59, d60, d61]), d62, d63, d64, (.bool ((w50) != 0)), (.agg [(.int .i64 r8), (.int .i64 r9)]), (.agg [(.int .i64 r14), (.int .i64 r15)]), r7, r13, (.int .i64 i102), r96, d103, d104, d105, want106] ∧ J99 mI i102 want106 HI) ?_ k100 ⟨_, _, _, _, _, rfl, h0⟩
          clear h0
          rintro m101 EI H107 ⟨i102, d103, d104, d105, want106, rfl, hJ⟩
          replace h := h m101 i102 want106 H107 hJ
          clear hJ
          refine w_seq ?_
          refine w_seq ?_
          refine w_run [0, 0, 1, 0] ?_
          obtain ⟨len108, hl, h⟩ := h
          refine t_len true r96 len108 H107 (by kernel_rfl) hl ?_
          refine t_done [(.int .i64 rings0), (.agg [(.int .i64 base1), (.int .i64 base2)]), (.int .i64 need3), (.int .i64 perMille4), events5, (.bool false), (.agg [(.int .i64 base1), (.int .i64 base2)]), (.bool (!r19)), d24, (.agg [(.int .i64 w50), (.int .i64 w51)]), d27, d28, (.int .i64 i52), (.bool ((decide (i52 < (len66 : Int))) && ((w50) == 0))), (.agg [(.int .i64 d54), (.int .i64 d55), (.int .i64 d56), (.int .i64 d57), (.int .i64 d58), d59, d60, d61]), d62, d63, d64, (.bool ((w50) != 0)), (.agg [(.int .i64 r8), (.int .i64 r9)]), (.agg [(.int .i64 r14), (.int .i64 r15)]), r7, r13, (.int .i64 i102), r96, (.bool (decide (i102 < (len108 : Int)))), d104, d105, want106] H107 (by kernel_rfl) ?_
          refine then_norm ?_
          refine w_cond (t := (decide (i102 < (len108 : Int)))) rfl (fun hc => ?_) (fun hc => ?_)
          · replace h := h.1 (is_dec.t hc)
            refine w_skip ?_
            refine then_norm ?_
            refine w_seq ?_
            refine w_block ?_
            refine w_seq ?_
            refine w_run [0, 0, 1, 1, 1, 0] ?_
            obtain ⟨e109, hg110, h⟩ := h
            refine t_idxG true 4 r96 .i64 i102 H107 (by kernel_rfl) hg110 ?_
            refine t_fldG true 1 4 r96 i102 0 H107 (by kernel_rfl) hg110 ?_
            refine t_loadG true none 4 r96 i102 1 (.int .i64 e109) H107 (by kernel_rfl) hg110 ?_
            refine t_done [(.int .i64 rings0), (.agg [(.int .i64 base1), (.int .i64 base2)]), (.int .i64 need3), (.int .i64 perMille4), events5, (.bool false), (.agg [(.int .i64 base1), (.int .i64 base2)]), (.bool (!r19)), d24, (.agg [(.int .i64 w50), (.int .i64 w51)]), d27, d28, (.int .i64 i52), (.bool ((decide (i52 < (len66 : Int))) && ((w50) == 0))), (.agg [(.int .i64 d54), (.int .i64 d55), (.int .i64 d56), (.int .i64 d57), (.int .i64 d58), d59, d60, d61]), d62, d63, d64, (.bool ((w50) != 0)), (.agg [(.int .i64 r8), (.int .i64 r9)]), (.agg [(.int .i64 r14), (.int .i64 r15)]), r7, r13, (.int .i64 i102), r96, (.bool (decide (i102 < (len108 : Int)))), (.int .i64 e109), d105, want106] H107 (by kernel_rfl) ?_
            refine then_norm ?_
            refine w_seq ?_
            refine w_seq ?_
            refine w_run [0, 0, 0, 0, 0, 3, 3, 3, 3, 2, 0] ?_
            refine t_gd ((e109) == 0) true (by kernel_rfl) (fun hc => ?_) (fun hc => ?_)
            · replace h := h.1 (is_eq.t hc)
              obtain ⟨e111, hg112, h⟩ := h
              refine t_idxG true 4 r96 .i64 i102 H107 (by kernel_rfl) hg112 ?_
              refine t_gd true true (by kernel_rfl) (fun _ => ?_) (fun hn => by cases hn)
              refine t_fldG true 0 4 r96 i102 0 H107 (by kernel_rfl) hg112 ?_
              refine t_gd true true (by kernel_rfl) (fun _ => ?_) (fun hn => by cases hn)
              refine t_loadG true none 4 r96 i102 0 e111 H107 (by kernel_rfl) hg112 ?_
              refine t_gd true true (by kernel_rfl) (fun _ => ?_) (fun hn => by cases hn)
              obtain ⟨len113, hl, h⟩ := h
              refine t_len true e111 len113 H107 (by kernel_rfl) hl ?_
              refine t_gd true true (by kernel_rfl) (fun _ => ?_) (fun hn => by cases hn)
              refine t_done [(.int .i64 rings0), (.agg [(.int .i64 base1), (.int .i64 base2)]), (.int .i64 need3), (.int .i64 perMille4), events5, (.bool false), (.agg [(.int .i64 base1), (.int .i64 base2)]), (.bool (!r19)), d24, (.agg [(.int .i64 w50), (.int .i64 w51)]), d27, d28, (.int .i64 i52), (.bool ((decide (i52 < (len66 : Int))) && ((w50) == 0))), (.agg [(.int .i64 d54), (.int .i64 d55), (.int .i64 d56), (.int .i64 d57), (.int .i64 d58), d59, d60, d61]), d62, d63, d64, (.bool ((w50) != 0)), (.agg [(.int .i64 r8), (.int .i64 r9)]), (.agg [(.int .i64 r14), (.int .i64 r15)]), r7, r13, (.int .i64 i102), r96, (.bool (decide (i102 < (len108 : Int)))), (.int .i64 e109), (.bool (decide ((len113 : Int) > 0))), want106] H107 (by kernel_rfl) ?_
              refine then_norm ?_
              refine w_cond (t := (decide ((len113 : Int) > 0))) rfl (fun hc => ?_) (fun hc => ?_)
              · replace h := h.1 (is_dec.t hc)
                refine w_run [0, 0, 1, 1, 1, 0, 0, 1, 1, 1, 1, 0, 1, 1, 0] ?_
                obtain ⟨e114, hg115, h⟩ := h
                refine t_idxG false 4 r96 .i64 i102 H107 (by kernel_rfl) hg115 ?_
                refine t_fldG false 0 4 r96 i102 0 H107 (by kernel_rfl) hg115 ?_
                refine t_loadG false none 4 r96 i102 0 e114 H107 (by kernel_rfl) hg115 ?_
                obtain ⟨e116, hg117, h⟩ := h
                refine t_idxG false 4 r96 .i64 i102 H107 (by kernel_rfl) hg117 ?_
                refine t_fldG false 0 4 r96 i102 0 H107 (by kernel_rfl) hg117 ?_
                refine t_loadG false none 4 r96 i102 0 e116 H107 (by kernel_rfl) hg117 ?_
                obtain ⟨len118, hl, h⟩ := h
                refine t_len false e116 len118 H107 (by kernel_rfl) hl ?_
                obtain ⟨e119, hg120, h⟩ := h
                refine t_idxG true 1 e114 .i64 (IntKind.wrap .i64 ((len118 : Int) - 1)) H107 (by kernel_rfl) hg120 ?_
                refine t_loadG true none 1 e114 (IntKind.wrap .i64 ((len118 : Int) - 1)) 0 (.int .i64 e119) H107 (by kernel_rfl) hg120 ?_
                refine t_done [(.int .i64 rings0), (.agg [(.int .i64 base1), (.int .i64 base2)]), (.int .i64 need3), (.int .i64 perMille4), events5, (.bool false), (.agg [(.int .i64 base1), (.int .i64 base2)]), (.bool (!r19)), d24, (.agg [(.int .i64 w50), (.int .i64 w51)]), d27, d28, (.int .i64 i52), (.bool ((decide (i52 < (len66 : Int))) && ((w50) == 0))), (.agg [(.int .i64 d54), (.int .i64 d55), (.int .i64 d56), (.int .i64 d57), (.int .i64 d58), d59, d60, d61]), d62, d63, d64, (.bool ((w50) != 0)), (.agg [(.int .i64 r8), (.int .i64 r9)]), (.agg [(.int .i64 r14), (.int .i64 r15)]), r7, r13, (.int .i64 i102), r96, (.bool (decide (i102 < (len108 : Int)))), (.int .i64 e119), (.bool (decide ((len113 : Int) > 0))), want106] H107 (by kernel_rfl) ?_
                refine then_norm ?_
                refine w_run [0, 0, 1, 1, 0] ?_
                obtain ⟨b121, H122, hb⟩ : ∃ b H', NewB H107 1 [(.int .i64 e119)] b H' := ⟨_, _, rfl, rfl⟩
                replace h := h b121 H122 hb
                refine t_bs true 1 [(.int .i64 0)] [(0, 1, .loc 0)] 1 [(.int .i64 e119)] [(.int .i64 e119)] b121 H122 H107 (by kernel_rfl) (fill_c (vs := [(.int .i64 e119)]) (size := 1) rfl (by kernel_rfl) (by kernel_rfl) (by kernel_rfl)) hb ?_
                obtain ⟨a123, H124, ha, h⟩ := h
                refine t_app true 1 8 want106 (.slice b121 0 1 (some 1)) a123 H124 H122 (by kernel_rfl) ha ?_
                refine t_done [(.int .i64 rings0), (.agg [(.int .i64 base1), (.int .i64 base2)]), (.int .i64 need3), (.int .i64 perMille4), events5, (.bool false), (.agg [(.int .i64 base1), (.int .i64 base2)]), (.bool (!r19)), d24, (.agg [(.int .i64 w50), (.int .i64 w51)]), d27, d28, (.int .i64 i52), (.bool ((decide (i52 < (len66 : Int))) && ((w50) == 0))), (.agg [(.int .i64 d54), (.int .i64 d55), (.int .i64 d56), (.int .i64 d57), (.int .i64 d58), d59, d60, d61]), d62, d63, d64, (.bool ((w50) != 0)), (.agg [(.int .i64 r8), (.int .i64 r9)]), (.agg [(.int .i64 r14), (.int .i64 r15)]), r7, r13, (.int .i64 i102), r96, (.bool (decide (i102 < (len108 : Int)))), (.int .i64 e119), (.bool (decide ((len113 : Int) > 0))), a123] H124 (by kernel_rfl) ?_
                refine block_norm ?_
                refine then_norm ?_
                refine w_run [0, 0, 0] ?_
                refine t_done [(.int .i64 rings0), (.agg [(.int .i64 base1), (.int .i64 base2)]), (.int .i64 need3), (.int .i64 perMille4), events5, (.bool false), (.agg [(.int .i64 base1), (.int .i64 base2)]), (.bool (!r19)), d24, (.agg [(.int .i64 w50), (.int .i64 w51)]), d27, d28, (.int .i64 i52), (.bool ((decide (i52 < (len66 : Int))) && ((w50) == 0))), (.agg [(.int .i64 d54), (.int .i64 d55), (.int .i64 d56), (.int .i64 d57), (.int .i64 d58), d59, d60, d61]), d62, d63, d64, (.bool ((w50) != 0)), (.agg [(.int .i64 r8), (.int .i64 r9)]), (.agg [(.int .i64 r14), (.int .i64 r15)]), r7, r13, (.int .i64 (IntKind.wrap .i64 (i102 + 1))), r96, (.bool (decide (i102 < (len108 : Int)))), (.int .i64 e119), (.bool (decide ((len113 : Int) > 0))), a123] H124 (by kernel_rfl) ?_
                obtain ⟨m', hm, h⟩ := h
                refine loop_norm ⟨m', hm, _, _, _, _, _, rfl, h⟩
              · replace h := h.2 (is_dec.f hc)
                refine w_skip ?_
                refine then_norm ?_
                refine w_run [0, 0, 1, 1, 0] ?_
                obtain ⟨b126, H127, hb⟩ : ∃ b H', NewB H107 1 [(.int .i64 e109)] b H' := ⟨_, _, rfl, rfl⟩
                replace h := h b126 H127 hb
                refine t_bs true 1 [(.int .i64 0)] [(0, 1, .loc 0)] 1 [(.int .i64 e109)] [(.int .i64 e109)] b126 H127 H107 (by kernel_rfl) (fill_c (vs := [(.int .i64 e109)]) (size := 1) rfl (by kernel_rfl) (by kernel_rfl) (by kernel_rfl)) hb ?_
                obtain ⟨a128, H129, ha, h⟩ := h
                refine t_app true 1 8 want106 (.slice b126 0 1 (some 1)) a128 H129 H127 (by kernel_rfl) ha ?_
                refine t_done [(.int .i64 rings0), (.agg [(.int .i64 base1), (.int .i64 base2)]), (.int .i64 need3), (.int .i64 perMille4), events5, (.bool false), (.agg [(.int .i64 base1), (.int .i64 base2)]), (.bool (!r19)), d24, (.agg [(.int .i64 w50), (.int .i64 w51)]), d27, d28, (.int .i64 i52), (.bool ((decide (i52 < (len66 : Int))) && ((w50) == 0))), (.agg [(.int .i64 d54), (.int .i64 d55), (.int .i64 d56), (.int .i64 d57), (.int .i64 d58), d59, d60, d61]), d62, d63, d64, (.bool ((w50) != 0)), (.agg [(.int .i64 r8), (.int .i64 r9)]), (.agg [(.int .i64 r14), (.int .i64 r15)]), r7, r13, (.int .i64 i102), r96, (.bool (decide (i102 < (len108 : Int)))), (.int .i64 e109), (.bool (decide ((len113 : Int) > 0))), a128] H129 (by kernel_rfl) ?_
                refine block_norm ?_
                refine then_norm ?_
                refine w_run [0, 0, 0] ?_
                refine t_done [(.int .i64 rings0), (.agg [(.int .i64 base1), (.int .i64 base2)]), (.int .i64 need3), (.int .i64 perMille4), events5, (.bool false), (.agg [(.int .i64 base1), (.int .i64 base2)]), (.bool (!r19)), d24, (.agg [(.int .i64 w50), (.int .i64 w51)]), d27, d28, (.int .i64 i52), (.bool ((decide (i52 < (len66 : Int))) && ((w50) == 0))), (.agg [(.int .i64 d54), (.int .i64 d55), (.int .i64 d56), (.int .i64 d57), (.int .i64 d58), d59, d60, d61]), d62, d63, d64, (.bool ((w50) != 0)), (.agg [(.int .i64 r8), (.int .i64 r9)]), (.agg [(.int .i64 r14), (.int .i64 r15)]), r7, r13, (.int .i64 (IntKind.wrap .i64 (i102 + 1))), r96, (.bool (decide (i102 < (len108 : Int)))), (.int .i64 e109), (.bool (decide ((len113 : Int) > 0))), a128] H129 (by kernel_rfl) ?_
                obtain ⟨m', hm, h⟩ := h
                refine loop_norm ⟨m', hm, _, _, _, _, _, rfl, h⟩
            · replace h := h.2 (is_eq.f hc)
              refine t_gd false true (by kernel_rfl) (fun hn => by cases hn) (fun _ => ?_)
              refine t_gd false true (by kernel_rfl) (fun hn => by cases hn) (fun _ => ?_)
              refine t_gd false true (by kernel_rfl) (fun hn => by cases hn) (fun _ => ?_)
              refine t_gd false true (by kernel_rfl) (fun hn => by cases hn) (fun _ => ?_)
              refine t_done [(.int .i64 rings0), (.agg [(.int .i64 base1), (.int .i64 base2)]), (.int .i64 need3), (.int .i64 perMille4), events5, (.bool false), (.agg [(.int .i64 base1), (.int .i64 base2)]), (.bool (!r19)), d24, (.agg [(.int .i64 w50), (.int .i64 w51)]), d27, d28, (.int .i64 i52), (.bool ((decide (i52 < (len66 : Int))) && ((w50) == 0))), (.agg [(.int .i64 d54), (.int .i64 d55), (.int .i64 d56), (.int .i64 d57), (.int .i64 d58), d59, d60, d61]), d62, d63, d64, (.bool ((w50) != 0)), (.agg [(.int .i64 r8), (.int .i64 r9)]), (.agg [(.int .i64 r14), (.int .i64 r15)]), r7, r13, (.int .i64 i102), r96, (.bool (decide (i102 < (len108 : Int)))), (.int .i64 e109), (.bool false), want106] H107 (by kernel_rfl) ?_
              refine then_norm ?_
              refine w_cond (t := false) rfl (fun hc => by cases hc) (fun _ => ?_)
              refine w_skip ?_
              refine then_norm ?_
              refine w_run [0, 0, 1, 1, 0] ?_
              obtain ⟨b131, H132, hb⟩ : ∃ b H', NewB H107 1 [(.int .i64 e109)] b H' := ⟨_, _, rfl, rfl⟩
              replace h := h b131 H132 hb
              refine t_bs true 1 [(.int .i64 0)] [(0, 1, .loc 0)] 1 [(.int .i64 e109)] [(.int .i64 e109)] b131 H132 H107 (by kernel_rfl) (fill_c (vs := [(.int .i64 e109)]) (size := 1) rfl (by kernel_rfl) (by kernel_rfl) (by kernel_rfl)) hb ?_
              obtain ⟨a133, H134, ha, h⟩ := h
              refine t_app true 1 8 want106 (.slice b131 0 1 (some 1)) a133 H134 H132 (by kernel_rfl) ha ?_
              refine t_done [(.int .i64 rings0), (.agg [(.int .i64 base1), (.int .i64 base2)]), (.int .i64 need3), (.int .i64 perMille4), events5, (.bool false), (.agg [(.int .i64 base1), (.int .i64 base2)]), (.bool (!r19)), d24, (.agg [(.int .i64 w50), (.int .i64 w51)]), d27, d28, (.int .i64 i52), (.bool ((decide (i52 < (len66 : Int))) && ((w50) == 0))), (.agg [(.int .i64 d54), (.int .i64 d55), (.int .i64 d56), (.int .i64 d57), (.int .i64 d58), d59, d60, d61]), d62, d63, d64, (.bool ((w50) != 0)), (.agg [(.int .i64 r8), (.int .i64 r9)]), (.agg [(.int .i64 r14), (.int .i64 r15)]), r7, r13, (.int .i64 i102), r96, (.bool (decide (i102 < (len108 : Int)))), (.int .i64 e109), (.bool false), a133] H134 (by kernel_rfl) ?_
              refine block_norm ?_
              refine then_norm ?_
              refine w_run [0, 0, 0] ?_
              refine t_done [(.int .i64 rings0), (.agg [(.int .i64 base1), (.int .i64 base2)]), (.int .i64 need3), (.int .i64 perMille4), events5, (.bool false), (.agg [(.int .i64 base1), (.int .i64 base2)]), (.bool (!r19)), d24, (.agg [(.int .i64 w50), (.int .i64 w51)]), d27, d28, (.int .i64 i52), (.bool ((decide (i52 < (len66 : Int))) && ((w50) == 0))), (.agg [(.int .i64 d54), (.int .i64 d55), (.int .i64 d56), (.int .i64 d57), (.int .i64 d58), d59, d60, d61]), d62, d63, d64, (.bool ((w50) != 0)), (.agg [(.int .i64 r8), (.int .i64 r9)]), (.agg [(.int .i64 r14), (.int .i64 r15)]), r7, r13, (.int .i64 (IntKind.wrap .i64 (i102 + 1))), r96, (.bool (decide (i102 < (len108 : Int)))), (.int .i64 e109), (.bool false), a133] H134 (by kernel_rfl) ?_
              obtain ⟨m', hm, h⟩ := h
              refine loop_norm ⟨m', hm, _, _, _, _, _, rfl, h⟩
          · replace h := h.2 (is_dec.f hc)
            refine w_exit ?_
            refine then_exit ?_
            refine loop_exit ?_
            refine block_exit ?_
            refine then_norm ?_
            refine w_seq ?_
            refine w_run [0, 0, 0, 0, 0, 0, 0, 0, 0, 0, 0, 3, 0, 0, 0, 0, 3, 0, 0] ?_
            refine t_gd (((r8) == 0) && ((r14) == 0)) true (by kernel_rfl) (fun hc => ?_) (fun hc => ?_)
            · replace h := h.1 ((is_and is_eq is_eq).t hc)
              refine t_call true nFEqualRings [r7, r96] H107 (by kernel_rfl) h ?_
              clear h
              rintro _ H137 ⟨r136, rfl, h⟩
              refine t_gd r136 true (by kernel_rfl) (fun hc => ?_) (fun hc => ?_)
              · replace h := h.1 (is_raw.t hc)
                refine t_call true nFEqualInts [r13, want106] H137 (by kernel_rfl) h ?_
                clear h
                rintro _ H140 ⟨r139, rfl, h⟩
                refine t_done [(.int .i64 rings0), (.agg [(.int .i64 base1), (.int .i64 base2)]), (.int .i64 need3), (.int .i64 perMille4), events5, (.bool r139), (.agg [(.int .i64 base1), (.int .i64 base2)]), (.bool (!r19)), d24, (.agg [(.int .i64 w50), (.int .i64 w51)]), d27, d28, (.int .i64 i52), (.bool ((decide (i52 < (len66 : Int))) && ((w50) == 0))), (.agg [(.int .i64 d54), (.int .i64 d55), (.int .i64 d56), (.int .i64 d57), (.int .i64 d58), d59, d60, d61]), d62, d63, d64, (.bool ((w50) != 0)), (.agg [(.int .i64 r8), (.int .i64 r9)]), (.agg [(.int .i64 r14), (.int .i64 r15)]), r7, r13, (.int .i64 i102), r96, (.bool (decide (i102 < (len108 : Int)))), d104, d105, want106] H140 (by kernel_rfl) ?_
                refine then_norm ?_
                refine w_ret ?_
                exact body_ret (vs := [(.bool r139)]) _ (by kernel_rfl) rfl h
              · replace h := h.2 (is_raw.f hc)
                refine t_done [(.int .i64 rings0), (.agg [(.int .i64 base1), (.int .i64 base2)]), (.int .i64 need3), (.int .i64 perMille4), events5, (.bool false), (.agg [(.int .i64 base1), (.int .i64 base2)]), (.bool (!r19)), d24, (.agg [(.int .i64 w50), (.int .i64 w51)]), d27, d28, (.int .i64 i52), (.bool ((decide (i52 < (len66 : Int))) && ((w50) == 0))), (.agg [(.int .i64 d54), (.int .i64 d55), (.int .i64 d56), (.int .i64 d57), (.int .i64 d58), d59, d60, d61]), d62, d63, d64, (.bool ((w50) != 0)), (.agg [(.int .i64 r8), (.int .i64 r9)]), (.agg [(.int .i64 r14), (.int .i64 r15)]), r7, r13, (.int .i64 i102), r96, (.bool (decide (i102 < (len108 : Int)))), d104, d105, want106] H137 (by kernel_rfl) ?_
                refine then_norm ?_
                refine w_ret ?_
                exact body_ret (vs := [(.bool false)]) _ (by kernel_rfl) rfl h
            · replace h := h.2 ((is_and is_eq is_eq).f hc)
              refine t_gd false true (by kernel_rfl) (fun hn => by cases hn) (fun _ => ?_)
              refine t_done [(.int .i64 rings0), (.agg [(.int .i64 base1), (.int .i64 base2)]), (.int .i64 need3), (.int .i64 perMille4), events5, (.bool false), (.agg [(.int .i64 base1), (.int .i64 base2)]), (.bool (!r19)), d24, (.agg [(.int .i64 w50), (.int .i64 w51)]), d27, d28, (.int .i64 i52), (.bool ((decide (i52 < (len66 : Int))) && ((w50) == 0))), (.agg [(.int .i64 d54), (.int .i64 d55), (.int .i64 d56), (.int .i64 d57), (.int .i64 d58), d59, d60, d61]), d62, d63, d64, (.bool ((w50) != 0)), (.agg [(.int .i64 r8), (.int .i64 r9)]), (.agg [(.int .i64 r14), (.int .i64 r15)]), r7, r13, (.int .i64 i102), r96, (.bool (decide (i102 < (len108 : Int)))), d104, d105, want106] H107 (by kernel_rfl) ?_
              refine then_norm ?_
              refine w_ret ?_
              exact body_ret (vs := [(.bool false)]) _ (by kernel_rfl) rfl h

end Go.RM

